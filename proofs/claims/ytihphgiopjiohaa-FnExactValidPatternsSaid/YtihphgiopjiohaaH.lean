/- The laws' own functions on plain data: sizes, copies, equality: what each answers. Printed by program out of the types. -/
import Derived.Test.YtihphgiopjiohaaF11
import Derived.Test.YtihphgiopjiohaaF13
import Derived.Test.YtihphgiopjiohaaF15
import Derived.Test.YtihphgiopjiohaaF17
import Derived.Test.YtihphgiopjiohaaF19
import Derived.Test.YtihphgiopjiohaaF35
import Derived.Test.YtihphgiopjiohaaF37
import Derived.Test.YtihphgiopjiohaaF41
import Derived.Test.YtihphgiopjiohaaF54
import Derived.Test.YtihphgiopjiohaaO
import Derived.Test.YtihphgiopjiohaaPL
namespace Go.Proofs.Ytihphgiopjiohaa.P
open Go.RowKit Go.Proofs.YtihphgiopjiohaaW.PrintWords Go.Proofs.YtihphgiopjiohaaL
set_option linter.unusedVariables false
set_option linter.unusedSimpArgs false

theorem szInt64S_some {l : List Int} (hl : l.length ≤ maxLen) {a : Int} (ha0 : 0 ≤ a) (ha : a ≤ 1048576) : ∃ r, laws_szInt64S.f l a = some r ∧ (r < 0 ∨ (0 ≤ r ∧ r ≤ a ∧ l.length ≤ 1048576)) := by
  have hl' : l.length ≤ 9223372036854775807 := by simpa only [maxLen] using hl
  unfold laws_szInt64S.f
  rw [wrap_id (by omega) (by omega)]
  by_cases h0 : a - (l.length : Int) < 0
  · rw [if_pos h0]; exact ⟨-1, rfl, .inl (by omega)⟩
  · rw [if_neg h0]; exact ⟨_, rfl, .inr ⟨by omega, by omega, by omega⟩⟩
theorem toInt64S_eq {l : List Int} (hl : l.length ≤ 1048576) {k : Nat} (hk : 1048600 ≤ k) : laws_toInt64S.f k l = some l := by
  unfold laws_toInt64S.f
  rw [if_pos (nn_cast _), if_pos (by simp; omega)]
  rw [set_loop (fun k acc i => laws_toInt64S.l0 k l acc i) l (fun x => x) 0 (fun k i hi acc ha _ => ?_) (fun k acc => ?_) k _ (by omega) (by simp)]
  · simp
  · simp only [laws_toInt64S.l0]
    rw [if_pos (lt_cast hi), if_pos (nn_cast i), if_pos (by omega), rd_get hi, wrap_succ hi (by omega)]
    rfl
  · simp only [laws_toInt64S.l0]
    rw [if_neg (nlt_cast _)]
theorem eqInt64S_eq {a b : List Int} (hl : a.length ≤ 1048576) {k : Nat} (hk : 1048600 ≤ k) : laws_eqInt64S.f k a b = some (decide (a = b)) := by
  unfold laws_eqInt64S.f
  by_cases h : a.length = b.length
  · rw [if_pos (by omega)]
    refine eq_loop (fun k i => laws_eqInt64S.l0 k a b i) a b h 0 (fun k i h1 h2 _ => ?_) (fun k => ?_) k (by omega)
    · simp only [laws_eqInt64S.l0]
      rw [if_pos (lt_cast h1), if_pos (nn_cast i), if_pos (lt_cast h2), rd_get h1, rd_get h2, wrap_succ h1 (by omega)]

    · simp only [laws_eqInt64S.l0]
      rw [if_neg (nlt_cast _)]
  · rw [if_neg (by omega)]
    have : a ≠ b := fun e => h (by rw [e])
    simp [this]
/-! ### Pattern -/
def cPattern (x : S46) : S47 := ⟨x.f0, x.f1⟩
def smPattern (x : S46) : Prop := x.f0.length ≤ 1048576
theorem rd_lPattern {l : List S46} {i : Nat} (h : i < l.length) : rd_T46 l (i : Int) = l[i] := by
  simp [rd_T46, List.getD_eq_getElem?_getD, List.getElem?_eq_getElem h]
theorem rd_iPattern {l : List S47} {i : Nat} (h : i < l.length) : rd_T47 l (i : Int) = l[i] := by
  simp [rd_T47, List.getD_eq_getElem?_getD, List.getElem?_eq_getElem h]
theorem ext_iPattern {a b : S47} : a = b ↔ a.f0 = b.f0 ∧ a.f1 = b.f1 := by
  cases a; cases b; simp
instance : DecidableEq S47 := fun _ _ => decidable_of_iff _ ext_iPattern.symm
theorem szPattern_some {x : S46} (hg : Go.Proofs.Ytihphgiopjiohaa.g46 x) {a : Int} (ha0 : 0 ≤ a) (ha : a ≤ 1048576) : ∃ r, laws_szPattern.f x.f0 x.f1 a = some r ∧ (r < 0 ∨ (0 ≤ r ∧ r ≤ a ∧ smPattern x)) := by
  unfold laws_szPattern.f smPattern
  obtain ⟨r0, hr0, e0⟩ := szInt64S_some (l := x.f0) hg.1.1 (a := a) (by omega) (by omega)
  rw [hr0]; simp only [Option.bind_some]
  by_cases h0 : r0 < 0
  · rw [if_pos h0]; exact ⟨-1, rfl, .inl (by omega)⟩
  rw [if_neg h0]
  exact ⟨_, rfl, .inr ⟨by omega, by omega, by omega⟩⟩
theorem szPatternS_some {l : List S46} (hl : l.length ≤ maxLen) (hg : ∀ y ∈ l, Go.Proofs.Ytihphgiopjiohaa.g46 y) {a : Int} (ha0 : 0 ≤ a) (ha : a ≤ 1048576) {k : Nat} (hk : 2097200 ≤ k) : ∃ r, laws_szPatternS.f k l a = some r ∧ (r < 0 ∨ (0 ≤ r ∧ r ≤ a ∧ l.length ≤ 1048576 ∧ ∀ y ∈ l, smPattern y)) := by
  have hl' : l.length ≤ 9223372036854775807 := by simpa only [maxLen] using hl
  unfold laws_szPatternS.f
  rw [wrap_id (by omega) (by omega)]
  by_cases h0 : a - (l.length : Int) < 0
  · rw [if_pos h0]; exact ⟨-1, rfl, .inl (by omega)⟩
  · rw [if_neg h0]
    have main : ∀ (d k i : Nat) (s : Int), i + d = l.length → 1048600 + d < k → 0 ≤ s → s ≤ a - l.length → ∃ r, laws_szPatternS.l0 k l s (i : Int) = some r ∧ (r < 0 ∨ (0 ≤ r ∧ r ≤ s ∧ ∀ y ∈ l.drop i, smPattern y)) := by
      intro d
      induction d with
      | zero =>
        intro k i s hi hk h0 h1
        obtain ⟨k, rfl⟩ : ∃ m, k = m + 1 := ⟨k - 1, by omega⟩
        obtain rfl : i = l.length := by omega
        simp only [laws_szPatternS.l0]
        rw [if_neg (nlt_cast _)]
        exact ⟨s, rfl, .inr ⟨h0, by omega, by simp⟩⟩
      | succ d ih =>
        intro k i s hi hk h0 h1
        obtain ⟨k, rfl⟩ : ∃ m, k = m + 1 := ⟨k - 1, by omega⟩
        have hlt : i < l.length := by omega
        simp only [laws_szPatternS.l0]
        rw [if_pos (lt_cast hlt), if_pos (nn_cast i), rd_lPattern hlt, wrap_succ hlt (by omega)]
        obtain ⟨r1, hr1, e1⟩ := szPattern_some (hg l[i] (List.getElem_mem hlt)) (a := s) (by omega) (by omega)
        rw [hr1]; simp only [Option.bind_some]
        by_cases h2 : r1 < 0
        · rw [if_pos h2]
          exact ⟨-1, rfl, .inl (by omega)⟩
        · rw [if_neg h2]
          have e1' := e1.resolve_left h2
          obtain ⟨r, hr, h3⟩ := ih k (i + 1) r1 (by omega) (by omega) (by omega) (by omega)
          refine ⟨r, hr, h3.imp id fun h3 => ⟨h3.1, by omega, ?_⟩⟩
          rw [drop_cons hlt]
          intro y hy
          rcases List.mem_cons.1 hy with rfl | hy
          · exact e1'.2.2
          · exact h3.2.2 y hy
    obtain ⟨r, hr, h⟩ := main l.length k 0 (a - l.length) (by omega) (by omega) (by omega) (by omega)
    refine ⟨r, hr, h.imp id fun h => ⟨h.1, by omega, by omega, ?_⟩⟩
    simpa using h.2.2
theorem toPattern_eq {x : S46} (hs : smPattern x) {k : Nat} (hk : 1048600 ≤ k) : laws_toPattern.f k x.f0 x.f1 = some ((cPattern x).f0, (cPattern x).f1) := by
  unfold smPattern at hs
  unfold laws_toPattern.f
  rw [toInt64S_eq (by have := hs; omega) (by omega)]; simp only [Option.bind_some]
  rfl
theorem toPatternS_eq {l : List S46} (hl : l.length ≤ 1048576) (hs : ∀ y ∈ l, smPattern y) {k : Nat} (hk : 2097200 ≤ k) : laws_toPatternS.f k l = some (l.map cPattern) := by
  unfold laws_toPatternS.f
  rw [if_pos (nn_cast _), if_pos (by simp; omega)]
  refine set_loop (fun k acc i => laws_toPatternS.l0 k l acc i) l cPattern 1048600 (fun k i hi acc ha hB => ?_) (fun k acc => ?_) k _ (by omega) (by simp)
  · simp only [laws_toPatternS.l0]
    rw [if_pos (lt_cast hi), if_pos (nn_cast i), rd_lPattern hi, wrap_succ hi (by omega), toPattern_eq (hs _ (List.getElem_mem hi)) hB]
    simp only [Option.bind_some]
    rw [if_pos (by omega)]
    rfl
  · simp only [laws_toPatternS.l0]
    rw [if_neg (nlt_cast _)]
def smiPattern (x : S47) : Prop := x.f0.length ≤ 1048576
theorem smi_cPattern {x : S46} (hs : smPattern x) : smiPattern (cPattern x) := by
  unfold smPattern at hs
  unfold smiPattern cPattern
  exact hs
theorem eqPattern_eq {a b : S47} (hs : smiPattern a) {k : Nat} (hk : 1048600 ≤ k) : laws_eqPattern.f k a.f0 a.f1 b.f0 b.f1 = some (decide (a = b)) := by
  unfold smiPattern at hs
  unfold laws_eqPattern.f
  rw [eqInt64S_eq hs (by omega)]; simp only [Option.bind_some]
  by_cases e0 : a.f0 = b.f0
  rotate_left
  · rw [if_neg (by simp [e0])]; have hne : ¬ a = b := fun e => e0 (ext_iPattern.1 e).1; simp [hne]
  rw [if_pos (by simp [e0])]
  by_cases e1 : a.f1 = b.f1
  rotate_left
  · rw [if_neg e1]; have hne : ¬ a = b := fun e => e1 (ext_iPattern.1 e).2; simp [hne]
  rw [if_pos e1]
  rw [decide_eq_true (ext_iPattern.2 ⟨e0, e1⟩)]
theorem eqPatternS_eq {a b : List S47} (hl : a.length ≤ 1048576) (hs : ∀ y ∈ a, smiPattern y) {k : Nat} (hk : 2097200 ≤ k) : laws_eqPatternS.f k a b = some (decide (a = b)) := by
  unfold laws_eqPatternS.f
  by_cases h : a.length = b.length
  · rw [if_pos (by omega)]
    refine eq_loop (fun k i => laws_eqPatternS.l0 k a b i) a b h 1048600 (fun k i h1 h2 hB => ?_) (fun k => ?_) k (by omega)
    · simp only [laws_eqPatternS.l0]
      rw [if_pos (lt_cast h1), if_pos (nn_cast i), if_pos (lt_cast h2), rd_iPattern h1, rd_iPattern h2, wrap_succ h1 (by omega), eqPattern_eq (hs _ (List.getElem_mem h1)) hB]
      simp only [Option.bind_some, decide_eq_true_eq]
    · simp only [laws_eqPatternS.l0]
      rw [if_neg (nlt_cast _)]
  · rw [if_neg (by omega)]
    have : a ≠ b := fun e => h (by rw [e])
    simp [this]
end Go.Proofs.Ytihphgiopjiohaa.P
