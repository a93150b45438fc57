/- Part d of what FnExactParseMelody stands on: functions of the program as Lean functions with their walks, and plain lemmas. -/
import Derived.Test.YtihphgiopjiohaaBFnExactParseMelodya
import Derived.Test.YtihphgiopjiohaaBFnExactParseMelodyc
import Derived.Test.YtihphgiopjiohaaBFnExactParseMelodyb
/- The laws' own functions on plain data: sizes, copies, equality: what each answers. Printed by program out of the types. -/
namespace Go.Proofs.Ytihphgiopjiohaa.P
open Go.RowKit Go.Proofs.YtihphgiopjiohaaW.PrintWords Go.Proofs.YtihphgiopjiohaaL
set_option linter.unusedVariables false
set_option linter.unusedSimpArgs false

theorem szInt64S_some {l : List Int} (hl : l.length ≤ maxLen) {a : Int} (ha0 : 0 ≤ a) (ha : a ≤ 1048576) : ∃ r, laws_szInt64S.f l a = some r ∧ (r < 0 ∨ (0 ≤ r ∧ r ≤ a ∧ l.length ≤ 1048576)) := by
  have hl' : l.length ≤ 9223372036854775807 := by simpa only [maxLen] using hl
  unfold laws_szInt64S.f
  rw [wrap_id (by omega) (by omega)]
  by_cases h0 : a - (l.length : Int) < 0
  · rw [if_pos h0]; exact ⟨-1, rfl, .inl (by omega)⟩
  · rw [if_neg h0]; exact ⟨_, rfl, .inr ⟨by omega, by omega, by omega⟩⟩
theorem toInt64S_eq {l : List Int} (hl : l.length ≤ 1048576) {k : Nat} (hk : 1048600 ≤ k) : laws_toInt64S.f k l = some l := by
  unfold laws_toInt64S.f
  rw [if_pos (nn_cast _), if_pos (by simp; omega)]
  rw [set_loop (fun k acc i => laws_toInt64S.l0 k l acc i) l (fun x => x) 0 (fun k i hi acc ha _ => ?_) (fun k acc => ?_) k _ (by omega) (by simp)]
  · simp
  · simp only [laws_toInt64S.l0]
    rw [if_pos (lt_cast hi), if_pos (nn_cast i), if_pos (by omega), rd_get hi, wrap_succ hi (by omega)]
    rfl
  · simp only [laws_toInt64S.l0]
    rw [if_neg (nlt_cast _)]
theorem eqInt64S_eq {a b : List Int} (hl : a.length ≤ 1048576) {k : Nat} (hk : 1048600 ≤ k) : laws_eqInt64S.f k a b = some (decide (a = b)) := by
  unfold laws_eqInt64S.f
  by_cases h : a.length = b.length
  · rw [if_pos (by omega)]
    refine eq_loop (fun k i => laws_eqInt64S.l0 k a b i) a b h 0 (fun k i h1 h2 _ => ?_) (fun k => ?_) k (by omega)
    · simp only [laws_eqInt64S.l0]
      rw [if_pos (lt_cast h1), if_pos (nn_cast i), if_pos (lt_cast h2), rd_get h1, rd_get h2, wrap_succ h1 (by omega)]

    · simp only [laws_eqInt64S.l0]
      rw [if_neg (nlt_cast _)]
  · rw [if_neg (by omega)]
    have : a ≠ b := fun e => h (by rw [e])
    simp [this]
/-! ### Pattern -/
def cPattern (x : S46) : S47 := ⟨x.f0, x.f1⟩
def smPattern (x : S46) : Prop := x.f0.length ≤ 1048576
theorem rd_lPattern {l : List S46} {i : Nat} (h : i < l.length) : rd_T46 l (i : Int) = l[i] := by
  simp [rd_T46, List.getD_eq_getElem?_getD, List.getElem?_eq_getElem h]
theorem rd_iPattern {l : List S47} {i : Nat} (h : i < l.length) : rd_T47 l (i : Int) = l[i] := by
  simp [rd_T47, List.getD_eq_getElem?_getD, List.getElem?_eq_getElem h]
theorem ext_iPattern {a b : S47} : a = b ↔ a.f0 = b.f0 ∧ a.f1 = b.f1 := by
  cases a; cases b; simp
instance : DecidableEq S47 := fun _ _ => decidable_of_iff _ ext_iPattern.symm
theorem szPattern_some {x : S46} (hg : Go.Proofs.Ytihphgiopjiohaa.g46 x) {a : Int} (ha0 : 0 ≤ a) (ha : a ≤ 1048576) : ∃ r, laws_szPattern.f x.f0 x.f1 a = some r ∧ (r < 0 ∨ (0 ≤ r ∧ r ≤ a ∧ smPattern x)) := by
  unfold laws_szPattern.f smPattern
  obtain ⟨r0, hr0, e0⟩ := szInt64S_some (l := x.f0) hg.1.1 (a := a) (by omega) (by omega)
  rw [hr0]; simp only [Option.bind_some]
  by_cases h0 : r0 < 0
  · rw [if_pos h0]; exact ⟨-1, rfl, .inl (by omega)⟩
  rw [if_neg h0]
  exact ⟨_, rfl, .inr ⟨by omega, by omega, by omega⟩⟩
theorem szPatternS_some {l : List S46} (hl : l.length ≤ maxLen) (hg : ∀ y ∈ l, Go.Proofs.Ytihphgiopjiohaa.g46 y) {a : Int} (ha0 : 0 ≤ a) (ha : a ≤ 1048576) {k : Nat} (hk : 2097200 ≤ k) : ∃ r, laws_szPatternS.f k l a = some r ∧ (r < 0 ∨ (0 ≤ r ∧ r ≤ a ∧ l.length ≤ 1048576 ∧ ∀ y ∈ l, smPattern y)) := by
  have hl' : l.length ≤ 9223372036854775807 := by simpa only [maxLen] using hl
  unfold laws_szPatternS.f
  rw [wrap_id (by omega) (by omega)]
  by_cases h0 : a - (l.length : Int) < 0
  · rw [if_pos h0]; exact ⟨-1, rfl, .inl (by omega)⟩
  · rw [if_neg h0]
    have main : ∀ (d k i : Nat) (s : Int), i + d = l.length → 1048600 + d < k → 0 ≤ s → s ≤ a - l.length → ∃ r, laws_szPatternS.l0 k l s (i : Int) = some r ∧ (r < 0 ∨ (0 ≤ r ∧ r ≤ s ∧ ∀ y ∈ l.drop i, smPattern y)) := by
      intro d
      induction d with
      | zero =>
        intro k i s hi hk h0 h1
        obtain ⟨k, rfl⟩ : ∃ m, k = m + 1 := ⟨k - 1, by omega⟩
        obtain rfl : i = l.length := by omega
        simp only [laws_szPatternS.l0]
        rw [if_neg (nlt_cast _)]
        exact ⟨s, rfl, .inr ⟨h0, by omega, by simp⟩⟩
      | succ d ih =>
        intro k i s hi hk h0 h1
        obtain ⟨k, rfl⟩ : ∃ m, k = m + 1 := ⟨k - 1, by omega⟩
        have hlt : i < l.length := by omega
        simp only [laws_szPatternS.l0]
        rw [if_pos (lt_cast hlt), if_pos (nn_cast i), rd_lPattern hlt, wrap_succ hlt (by omega)]
        obtain ⟨r1, hr1, e1⟩ := szPattern_some (hg l[i] (List.getElem_mem hlt)) (a := s) (by omega) (by omega)
        rw [hr1]; simp only [Option.bind_some]
        by_cases h2 : r1 < 0
        · rw [if_pos h2]
          exact ⟨-1, rfl, .inl (by omega)⟩
        · rw [if_neg h2]
          have e1' := e1.resolve_left h2
          obtain ⟨r, hr, h3⟩ := ih k (i + 1) r1 (by omega) (by omega) (by omega) (by omega)
          refine ⟨r, hr, h3.imp id fun h3 => ⟨h3.1, by omega, ?_⟩⟩
          rw [drop_cons hlt]
          intro y hy
          rcases List.mem_cons.1 hy with rfl | hy
          · exact e1'.2.2
          · exact h3.2.2 y hy
    obtain ⟨r, hr, h⟩ := main l.length k 0 (a - l.length) (by omega) (by omega) (by omega) (by omega)
    refine ⟨r, hr, h.imp id fun h => ⟨h.1, by omega, by omega, ?_⟩⟩
    simpa using h.2.2
theorem toPattern_eq {x : S46} (hs : smPattern x) {k : Nat} (hk : 1048600 ≤ k) : laws_toPattern.f k x.f0 x.f1 = some ((cPattern x).f0, (cPattern x).f1) := by
  unfold smPattern at hs
  unfold laws_toPattern.f
  rw [toInt64S_eq (by have := hs; omega) (by omega)]; simp only [Option.bind_some]
  rfl
theorem toPatternS_eq {l : List S46} (hl : l.length ≤ 1048576) (hs : ∀ y ∈ l, smPattern y) {k : Nat} (hk : 2097200 ≤ k) : laws_toPatternS.f k l = some (l.map cPattern) := by
  unfold laws_toPatternS.f
  rw [if_pos (nn_cast _), if_pos (by simp; omega)]
  refine set_loop (fun k acc i => laws_toPatternS.l0 k l acc i) l cPattern 1048600 (fun k i hi acc ha hB => ?_) (fun k acc => ?_) k _ (by omega) (by simp)
  · simp only [laws_toPatternS.l0]
    rw [if_pos (lt_cast hi), if_pos (nn_cast i), rd_lPattern hi, wrap_succ hi (by omega), toPattern_eq (hs _ (List.getElem_mem hi)) hB]
    simp only [Option.bind_some]
    rw [if_pos (by omega)]
    rfl
  · simp only [laws_toPatternS.l0]
    rw [if_neg (nlt_cast _)]
def smiPattern (x : S47) : Prop := x.f0.length ≤ 1048576
theorem smi_cPattern {x : S46} (hs : smPattern x) : smiPattern (cPattern x) := by
  unfold smPattern at hs
  unfold smiPattern cPattern
  exact hs
theorem eqPattern_eq {a b : S47} (hs : smiPattern a) {k : Nat} (hk : 1048600 ≤ k) : laws_eqPattern.f k a.f0 a.f1 b.f0 b.f1 = some (decide (a = b)) := by
  unfold smiPattern at hs
  unfold laws_eqPattern.f
  rw [eqInt64S_eq hs (by omega)]; simp only [Option.bind_some]
  by_cases e0 : a.f0 = b.f0
  rotate_left
  · rw [if_neg (by simp [e0])]; have hne : ¬ a = b := fun e => e0 (ext_iPattern.1 e).1; simp [hne]
  rw [if_pos (by simp [e0])]
  by_cases e1 : a.f1 = b.f1
  rotate_left
  · rw [if_neg e1]; have hne : ¬ a = b := fun e => e1 (ext_iPattern.1 e).2; simp [hne]
  rw [if_pos e1]
  rw [decide_eq_true (ext_iPattern.2 ⟨e0, e1⟩)]
theorem eqPatternS_eq {a b : List S47} (hl : a.length ≤ 1048576) (hs : ∀ y ∈ a, smiPattern y) {k : Nat} (hk : 2097200 ≤ k) : laws_eqPatternS.f k a b = some (decide (a = b)) := by
  unfold laws_eqPatternS.f
  by_cases h : a.length = b.length
  · rw [if_pos (by omega)]
    refine eq_loop (fun k i => laws_eqPatternS.l0 k a b i) a b h 1048600 (fun k i h1 h2 hB => ?_) (fun k => ?_) k (by omega)
    · simp only [laws_eqPatternS.l0]
      rw [if_pos (lt_cast h1), if_pos (nn_cast i), if_pos (lt_cast h2), rd_iPattern h1, rd_iPattern h2, wrap_succ h1 (by omega), eqPattern_eq (hs _ (List.getElem_mem h1)) hB]
      simp only [Option.bind_some, decide_eq_true_eq]
    · simp only [laws_eqPatternS.l0]
      rw [if_neg (nlt_cast _)]
  · rw [if_neg (by omega)]
    have : a ≠ b := fun e => h (by rw [e])
    simp [this]
end Go.Proofs.Ytihphgiopjiohaa.P

/- Valid patterns: the reference's and the program's test answer the same. -/
namespace Go.Proofs.Ytihphgiopjiohaa.P
open Go.RowKit Go.Proofs.YtihphgiopjiohaaW.PrintWords Go.Proofs.YtihphgiopjiohaaL
def pitchB (n : Int) : Bool := decide (-12 ≤ n) && decide (n ≤ 23)
def patB (x : S47) : Bool := (decide (1 ≤ x.f0.length) && decide (x.f0.length ≤ 8)) && x.f0.all pitchB && (decide (0 ≤ x.f1) && decide (x.f1 ≤ 1000))
def patsB (l : List S47) : Bool := l.all patB && decide (l.length ≤ 12)
theorem l00In_eq (x lo hi : Int) : spec_l00In.f x lo hi = some (decide (lo ≤ x) && decide (x ≤ hi)) := by
  unfold spec_l00In.f
  by_cases h : x ≥ lo
  · rw [if_pos h]; simp [ge_iff_le.1 h]
  · rw [if_neg h]
    have h' : ¬ lo ≤ x := h
    simp [h']
theorem l05Pitches_eq {l : List Int} (hl : l.length ≤ 1048576) {k : Nat} (hk : l.length + 2 ≤ k) : spec_l05Pitches.f k l = some (l.all pitchB && decide (l.length ≤ 64)) := by
  unfold spec_l05Pitches.f
  refine list_loop0 (fun k i => spec_l05Pitches.l0 k l i) l (fun r => r.all pitchB && decide (l.length ≤ 64)) 0 (fun k i hi _ => ?_) (fun k => ?_) k (by omega)
  · simp only [spec_l05Pitches.l0]
    rw [if_pos (lt_cast hi), if_pos (nn_cast i), rd_get hi, wrap_succ hi (by omega)]
    unfold spec_l03Pitch.f
    rw [l00In_eq]; simp only [Option.bind_some]
    rw [List.all_cons]
    change _ = some ((pitchB l[i] && _) && _) ∨ _
    by_cases h : pitchB l[i] = true
    · right
      refine ⟨by rw [h, Bool.true_and], ?_⟩
      exact if_pos h
    · left
      rw [Bool.not_eq_true] at h
      rw [h]
      exact if_neg (by unfold pitchB at h; rw [h]; decide)
  · simp only [spec_l05Pitches.l0]
    rw [if_neg (nlt_cast _)]
    simp
    omega
theorem l11One_e_eq (l : List S47) (i : Int) {k : Nat} (hk : 20 ≤ k) : spec_l11One_e.f k l i = some (patB (rd_T47 l i)) := by
  unfold spec_l11One_e.f patB
  generalize rd_T47 l i = x
  rw [l00In_eq]; simp only [Option.bind_some]
  by_cases h : (decide ((1 : Int) ≤ (x.f0.length : Int)) && decide ((x.f0.length : Int) ≤ 8)) = true
  · rw [if_pos h]
    have h1 : 1 ≤ x.f0.length ∧ x.f0.length ≤ 8 := by simp at h; omega
    rw [l05Pitches_eq (by omega) (by omega), l00In_eq]
    simp only [Option.bind_some]
    have h64 : x.f0.length ≤ 64 := by omega
    rw [decide_eq_true h1.1, decide_eq_true h1.2, decide_eq_true h64, Bool.and_true]
    cases x.f0.all pitchB <;> simp
  · rw [if_neg h]
    by_cases h1 : 1 ≤ x.f0.length
    · have : ¬ x.f0.length ≤ 8 := by intro h2; apply h; simp; omega
      rw [decide_eq_false this]; simp
    · rw [decide_eq_false h1]; simp
theorem Pattern_valid_eq (x : S47) : impl_Pattern_valid.f x.f0 x.f1 = some (patB x) := by
  unfold impl_Pattern_valid.f patB impl_allWithin.f
  rw [impl_allWithin.within]
  have e : (!(x.f0.any (impl_allWithin.p (-12) 23))) = x.f0.all pitchB := by
    rw [List.not_any_eq_all_not]
    congr 1; funext n; unfold impl_allWithin.p pitchB
    cases decide (-12 ≤ n) <;> cases decide (n ≤ 23) <;> rfl
  rw [e]
  by_cases h1 : 1 ≤ x.f0.length
  · rw [if_pos (by omega)]
    by_cases h2 : x.f0.length ≤ 8
    · rw [if_pos (by omega)]
      simp only [Option.bind_some]
      rw [decide_eq_true h1, decide_eq_true h2]
      cases x.f0.all pitchB <;> simp
    · rw [if_neg (by omega), decide_eq_false h2]; simp
  · rw [if_neg (by omega), decide_eq_false h1]; simp
theorem l11Ok_eq {l : List S47} (hl : l.length ≤ 1048576) {k : Nat} (hk : l.length + 30 ≤ k) : spec_l11Ok.f k l = some (patsB l) := by
  unfold spec_l11Ok.f patsB
  refine list_loop0 (fun k i => spec_l11Ok.l0 k l i) l (fun r => r.all patB && decide (l.length ≤ 12)) 20 (fun k i hi hB => ?_) (fun k => ?_) k (by omega)
  · simp only [spec_l11Ok.l0]
    rw [if_pos (lt_cast hi), if_pos (nn_cast i), l11One_e_eq _ _ hB, rd_iPattern hi, wrap_succ hi (by omega), List.all_cons]
    simp only [Option.bind_some]
    by_cases h : patB l[i] = true
    · right; rw [if_pos h, h, Bool.true_and]; exact ⟨rfl, rfl⟩
    · left; rw [if_neg h]; rw [Bool.not_eq_true] at h; rw [h]; rfl
  · simp only [spec_l11Ok.l0]
    rw [if_neg (nlt_cast _)]
    simp
    omega
theorem ValidPatterns_eq (l : List S47) : impl_ValidPatterns.f l = some (patsB l) := by
  unfold impl_ValidPatterns.f patsB
  by_cases h : l.length ≤ 12
  · rw [if_pos (by omega), anyO_some (q := fun x => !patB x) (fun x _ => by unfold impl_ValidPatterns_1.f; rw [Pattern_valid_eq]; rfl)]
    simp only [Option.bind_some, decide_eq_true h, Bool.and_true, List.not_any_eq_all_not, Bool.not_not]
  · rw [if_neg (by omega), decide_eq_false h]; simp
theorem map_cPattern (l : List S46) : (l.map cPattern).length = l.length := by simp
theorem smi_pats {l : List S46} (h : ∀ y ∈ l, smPattern y) : ∀ y ∈ l.map cPattern, smiPattern y := by
  intro y hy; obtain ⟨x, hx, rfl⟩ := List.mem_map.1 hy; exact smi_cPattern (h x hx)
end Go.Proofs.Ytihphgiopjiohaa.P

/- Patterns at a place: the reference and the program find the same ones. -/
namespace Go.Proofs.Ytihphgiopjiohaa.P
open Go.RowKit Go.Proofs.YtihphgiopjiohaaW.PrintWords Go.Proofs.YtihphgiopjiohaaL
def fits (x : S47) (p : List Int) (a : Nat) : Bool := decide (a + x.f0.length ≤ p.length) && decide ((p.drop a).take x.f0.length = x.f0)
def atF (p : List Int) (a : Nat) : Nat → List S47 → List Int
  | _, [] => []
  | n, x :: r => if fits x p a = true then (n : Int) :: atF p a (n + 1) r else atF p a (n + 1) r
def atB (l : List S47) (p : List Int) (a : Nat) : List Int := atF p a 0 l
theorem Fits_e_eq (l : List S47) (i : Int) {p : List Int} (hp : p.length ≤ 1048576) {a : Nat} (ha : a ≤ 1048576) (hx : (rd_T47 l i).f0.length ≤ 1048576) {k : Nat} (hk : (rd_T47 l i).f0.length + 10 ≤ k) : spec_l11Fits_e.f k l i p (a : Int) = some (fits (rd_T47 l i) p a) := by
  unfold spec_l11Fits_e.f fits
  have w1 : wrap64 ((a : Int) + ((rd_T47 l i).f0.length : Int)) = ((a + (rd_T47 l i).f0.length : Nat) : Int) := by rw [wrap_id (by omega) (by omega)]; omega
  rw [w1]
  by_cases h : a + (rd_T47 l i).f0.length ≤ p.length
  · rw [if_neg (by omega), decide_eq_true h, Bool.true_and]
    have hlen : ((p.drop a).take (rd_T47 l i).f0.length).length = (rd_T47 l i).f0.length := by rw [List.length_take, List.length_drop]; omega
    refine eq_loop (fun k j => spec_l11Fits_e.l0 k p (a : Int) j l i) _ (rd_T47 l i).f0 hlen 0 (fun k j hj hj2 hB => ?_) (fun k => ?_) k (by omega)
    · simp only [spec_l11Fits_e.l0]
      have w2 : wrap64 ((a : Int) + (j : Int)) = ((a + j : Nat) : Int) := by rw [wrap_id (by omega) (by omega)]; omega
      have hpj : a + j < p.length := by omega
      rw [if_pos (lt_cast hj2), w2, if_pos (nn_cast _), if_pos (lt_cast hpj), if_pos (nn_cast _), rd_get hpj, rd_get hj2, wrap_succ hj2 (by omega)]
      have e : ((p.drop a).take (rd_T47 l i).f0.length)[j] = p[a + j] := by rw [List.getElem_take, List.getElem_drop]
      rw [e]
    · simp only [spec_l11Fits_e.l0]
      rw [if_neg (by omega)]
  · rw [if_pos (by omega), decide_eq_false h]; rfl
theorem Equal_eq {a b : List Int} (ha : a.length ≤ 1048576) {k : Nat} (hk : a.length + 10 ≤ k) : slices_Equal_S_int64.f k a b = some (decide (a = b)) := by
  unfold slices_Equal_S_int64.f
  by_cases h : a.length = b.length
  · rw [if_pos (by omega)]
    refine eq_loop (fun k j => slices_Equal_S_int64.l0 k a b (a.length : Int) j) a b h 0 (fun k j hj hj2 hB => ?_) (fun k => ?_) k (by omega)
    · simp only [slices_Equal_S_int64.l0]
      rw [if_pos (lt_cast hj), if_pos (nn_cast _), if_pos (lt_cast hj), if_pos (lt_cast hj2), rd_get hj, rd_get hj2, wrap_succ hj (by omega)]
    · simp only [slices_Equal_S_int64.l0]
      rw [if_neg (nlt_cast _)]
  · rw [if_neg (by omega), decide_eq_false (fun e => h (by rw [e]))]
theorem atF_step {p : List Int} {a : Nat} {l : List S47} {i : Nat} (hi : i < l.length) : atF p a (l.length - (l[i] :: l.drop (i + 1)).length) (l[i] :: l.drop (i + 1)) = (if fits l[i] p a = true then (i : Int) :: atF p a (l.length - (l.drop (i + 1)).length) (l.drop (i + 1)) else atF p a (l.length - (l.drop (i + 1)).length) (l.drop (i + 1))) := by
  have e1 : l.length - (l[i] :: l.drop (i + 1)).length = i := by rw [List.length_cons, List.length_drop]; omega
  have e2 : l.length - (l.drop (i + 1)).length = i + 1 := by rw [List.length_drop]; omega
  rw [e1, e2, atF]
theorem l11At_eq {l : List S47} (hl : l.length ≤ 1048576) (hx : ∀ x ∈ l, x.f0.length ≤ 1000) {p : List Int} (hp : p.length ≤ 1048576) {a : Nat} (ha : a ≤ 1048576) {k : Nat} (hk : l.length + 1020 ≤ k) : spec_l11At.f k l p (a : Int) = some (atB l p a) := by
  unfold spec_l11At.f atB
  refine (list_loop (fun k s i => spec_l11At.l0 k l p (a : Int) s i) l (fun r s => s ++ atF p a (l.length - r.length) r) (fun i s => s.length ≤ i) 1010 (fun k i hi s hI hB => ?_) (fun k s hI => ?_) k [] (by omega) (by simp)).trans (by simp)
  · right
    have hxi := hx l[i] (List.getElem_mem hi)
    simp only [spec_l11At.l0]
    rw [if_pos (lt_cast hi), if_pos (nn_cast i), Fits_e_eq l (i : Int) hp ha (by rw [rd_iPattern hi]; omega) (by rw [rd_iPattern hi]; omega), rd_iPattern hi, wrap_succ hi (by omega), atF_step hi]
    simp only [Option.bind_some]
    by_cases h : fits l[i] p a = true
    · rw [if_pos h, if_pos h, if_pos (show s.length < 17592186044416 by omega)]
      exact ⟨s ++ [(i : Int)], by simp; omega, by rw [List.append_assoc]; rfl, rfl⟩
    · rw [if_neg h, if_neg h]
      exact ⟨s, by omega, rfl, rfl⟩
  · simp only [spec_l11At.l0]
    rw [if_neg (nlt_cast _)]; simp [atF]
theorem patternsAt_eq {l : List S47} (hl : l.length ≤ 1048576) (hx : ∀ x ∈ l, x.f0.length ≤ 1000) {p : List Int} (_ : p.length ≤ 1048576) {a : Nat} (ha : a ≤ 1048576) {k : Nat} (hk : l.length + 1020 ≤ k) : impl_patternsAt.f k l p (a : Int) = some (atB l p a) := by
  unfold impl_patternsAt.f atB
  refine (list_loop (fun k s i => impl_patternsAt.l0 k p (a : Int) s l (l.length : Int) i) l (fun r s => s ++ atF p a (l.length - r.length) r) (fun i s => s.length ≤ i) 1010 (fun k i hi s hI hB => ?_) (fun k s hI => ?_) k [] (by omega) (by simp)).trans (by simp)
  · right
    have hxi := hx l[i] (List.getElem_mem hi)
    have w1 : wrap64 ((a : Int) + (l[i].f0.length : Int)) = ((a + l[i].f0.length : Nat) : Int) := by rw [wrap_id (by omega) (by omega)]; omega
    simp only [impl_patternsAt.l0]
    rw [if_pos (lt_cast hi), if_pos (nn_cast i), if_pos (lt_cast hi), rd_iPattern hi, w1, wrap_succ hi (by omega), atF_step hi]
    unfold fits
    by_cases h : a + l[i].f0.length ≤ p.length
    · have e : (p.take ((a + l[i].f0.length : Nat) : Int).toNat).drop ((a : Nat) : Int).toNat = (p.drop a).take l[i].f0.length := by
        rw [Int.toNat_natCast, Int.toNat_natCast, List.drop_take, show a + l[i].f0.length - a = l[i].f0.length by omega]
      have hlen : ((p.drop a).take l[i].f0.length).length ≤ 1000 := by rw [List.length_take]; omega
      rw [if_pos (show (((a + l[i].f0.length : Nat) : Int) ≤ (p.length : Int)) by omega), if_pos (nn_cast a), if_pos (show (a : Int) ≤ ((a + l[i].f0.length : Nat) : Int) by omega), e, Equal_eq (by omega) (by omega), decide_eq_true h, Bool.true_and]
      simp only [Option.bind_some]
      by_cases h2 : (p.drop a).take l[i].f0.length = l[i].f0
      · rw [decide_eq_true h2, if_pos rfl, if_pos rfl, if_pos (show s.length < 17592186044416 by omega)]
        exact ⟨s ++ [(i : Int)], by simp; omega, by rw [List.append_assoc]; rfl, rfl⟩
      · rw [decide_eq_false h2, if_neg (by decide), if_neg (by decide)]
        exact ⟨s, by omega, rfl, rfl⟩
    · rw [if_neg (show ¬ (((a + l[i].f0.length : Nat) : Int) ≤ (p.length : Int)) by omega), decide_eq_false h, Bool.false_and, if_neg (by decide)]
      exact ⟨s, by omega, rfl, rfl⟩
  · simp only [impl_patternsAt.l0]
    rw [if_neg (nlt_cast _)]; simp [atF]
theorem mem_atF {p : List Int} {a : Nat} : ∀ (l : List S47) (n : Nat) (z : Int), z ∈ atF p a n l ↔ ∃ j, ∃ h : j < l.length, z = ((n + j : Nat) : Int) ∧ fits l[j] p a = true
  | [], n, z => by simp [atF]
  | x :: r, n, z => by
    have ih := mem_atF (p := p) (a := a) r (n + 1) z
    rw [atF]
    have key : (∃ j, ∃ h : j < (x :: r).length, z = ((n + j : Nat) : Int) ∧ fits (x :: r)[j] p a = true) ↔ (z = (n : Int) ∧ fits x p a = true) ∨ ∃ j, ∃ h : j < r.length, z = ((n + 1 + j : Nat) : Int) ∧ fits r[j] p a = true := by
      constructor
      · rintro ⟨j, h, e, f⟩
        cases j with
        | zero => exact .inl ⟨by simpa using e, by simpa using f⟩
        | succ j => exact .inr ⟨j, by simpa using h, by rw [e]; congr 1; omega, by simpa using f⟩
      · rintro (⟨e, f⟩ | ⟨j, h, e, f⟩)
        · exact ⟨0, by simp, by simpa using e, by simpa using f⟩
        · exact ⟨j + 1, by simpa using h, by rw [e]; congr 1; omega, by simpa using f⟩
    rw [key]
    by_cases h : fits x p a = true
    · rw [if_pos h, List.mem_cons, ih]
      simp [h]
    · rw [if_neg h, ih]
      simp [h]
theorem mem_atB {l : List S47} {p : List Int} {a : Nat} {z : Int} : z ∈ atB l p a ↔ ∃ j, ∃ h : j < l.length, z = (j : Int) ∧ fits l[j] p a = true := by
  unfold atB; rw [mem_atF]; simp
theorem fits_le {x : S47} {p : List Int} {a : Nat} (h : fits x p a = true) : a + x.f0.length ≤ p.length := by
  unfold fits at h; simp only [Bool.and_eq_true, decide_eq_true_iff] at h; exact h.1
theorem atF_length {p : List Int} {a : Nat} : ∀ (l : List S47) (n : Nat), (atF p a n l).length ≤ l.length
  | [], n => by simp [atF]
  | x :: r, n => by
    have := atF_length (p := p) (a := a) r (n + 1)
    rw [atF]; split <;> simp <;> omega
/-! ### the codes -/
def pitsB (p : List Int) : Bool := p.all pitchB && decide (p.length ≤ 64)
def askP (l : List S47) (p : List Int) : Int := if patsB l = true then (if pitsB p = true then 0 else 7) else 1
def placeP (l : List S47) (p : List Int) (a : Int) : Int := if patsB l = true then (if 0 ≤ a ∧ a ≤ (p.length : Int) then (if pitsB p = true then 0 else 7) else 2) else 1
theorem l11Ask_eq {l : List S47} (hl : l.length ≤ 1048576) {p : List Int} (hp : p.length ≤ 1048576) {k : Nat} (hk : 1048700 ≤ k) : spec_l11Ask.f k l p = some (askP l p) := by
  unfold spec_l11Ask.f askP
  rw [l11Ok_eq hl (by omega)]; simp only [Option.bind_some]
  by_cases h : patsB l = true
  · rw [if_pos h, if_pos h, l05Pitches_eq hp (by omega)]; simp only [Option.bind_some]
    unfold pitsB
    split <;> rfl
  · rw [if_neg h, if_neg h]
theorem l11Place_eq {l : List S47} (hl : l.length ≤ 1048576) {p : List Int} (hp : p.length ≤ 1048576) (a : Int) {k : Nat} (hk : 1048700 ≤ k) : spec_l11Place.f k l p a = some (placeP l p a) := by
  unfold spec_l11Place.f placeP
  rw [l11Ask_eq hl hp hk]; simp only [Option.bind_some]
  unfold askP
  by_cases h : patsB l = true
  · rw [if_pos h, if_pos h, l00In_eq]; simp only [Option.bind_some]
    have h1 : ¬ (if pitsB p = true then (0 : Int) else 7) = 1 := by split <;> decide
    rw [if_neg h1]
    by_cases hr : 0 ≤ a ∧ a ≤ (p.length : Int)
    · rw [if_pos (by simp [hr.1, hr.2]), if_pos hr]
    · rw [if_neg (by simp; omega), if_neg hr]
  · rw [if_neg h, if_neg h, if_pos rfl]
theorem pitchesOk_eq (p : List Int) : impl_pitchesOk.f p = some (pitsB p) := by
  unfold impl_pitchesOk.f pitsB impl_allWithin.f
  have e : (!(p.any (impl_allWithin.p (-12) 23))) = p.all pitchB := by
    rw [List.not_any_eq_all_not]
    congr 1; funext n; unfold impl_allWithin.p pitchB
    cases decide (-12 ≤ n) <;> cases decide (n ≤ 23) <;> rfl
  rw [e]
  by_cases h : p.length ≤ 64
  · rw [if_pos (by omega), decide_eq_true h, Bool.and_true]; rfl
  · rw [if_neg (by omega), decide_eq_false h, Bool.and_false]
theorem parseCode_eq (l : List S47) (p : List Int) (a : Int) {k : Nat} (hk : 10 ≤ k) : impl_parseCode.f k l p a 0 = some (placeP l p a) := by
  obtain ⟨k, rfl⟩ : ∃ m, k = m + 1 := ⟨k - 1, by omega⟩
  unfold impl_parseCode.f placeP
  rw [ValidPatterns_eq]; simp only [Option.bind_some]
  by_cases h : patsB l = true
  · rw [if_pos h, if_pos h, impl_allWithin.within, impl_allWithin.within]; simp only [Option.bind_some]
    by_cases hr : 0 ≤ a ∧ a ≤ (p.length : Int)
    · rw [if_pos (by simp [hr.1, hr.2]), if_pos hr]
      simp only [impl_parseCode.j0]
      rw [if_neg (by decide), pitchesOk_eq]; simp only [Option.bind_some]
      split <;> rfl
    · rw [if_neg (by simp; omega), if_neg hr]
      simp only [impl_parseCode.j0, if_true]
  · rw [if_neg h, if_neg h]
theorem place_zero (l : List S47) (p : List Int) : placeP l p 0 = askP l p := by
  unfold placeP askP
  rw [if_pos (show (0 : Int) ≤ 0 ∧ (0 : Int) ≤ (p.length : Int) by omega)]
theorem pats_len {l : List S47} (h : patsB l = true) : l.length ≤ 12 := by
  unfold patsB at h; simp only [Bool.and_eq_true, decide_eq_true_iff] at h; exact h.2
theorem pats_each {l : List S47} (h : patsB l = true) : ∀ x ∈ l, 1 ≤ x.f0.length ∧ x.f0.length ≤ 8 ∧ 0 ≤ x.f1 ∧ x.f1 ≤ 1000 := by
  unfold patsB at h; simp only [Bool.and_eq_true, List.all_eq_true] at h
  intro x hx
  have := h.1 x hx
  unfold patB at this
  simp only [Bool.and_eq_true, decide_eq_true_iff] at this
  exact ⟨this.1.1.1, this.1.1.2, this.2.1, this.2.2⟩
theorem pits_len {p : List Int} (h : pitsB p = true) : p.length ≤ 64 := by
  unfold pitsB at h; simp only [Bool.and_eq_true, decide_eq_true_iff] at h; exact h.2
theorem place_ok {l : List S47} {p : List Int} {a : Int} (h : placeP l p a = 0) : patsB l = true ∧ pitsB p = true ∧ 0 ≤ a ∧ a ≤ (p.length : Int) := by
  unfold placeP at h
  by_cases h1 : patsB l = true
  · rw [if_pos h1] at h
    by_cases h2 : 0 ≤ a ∧ a ≤ (p.length : Int)
    · rw [if_pos h2] at h
      by_cases h3 : pitsB p = true
      · exact ⟨h1, h3, h2.1, h2.2⟩
      · rw [if_neg h3] at h; exact absurd h (by decide)
    · rw [if_neg h2] at h; exact absurd h (by decide)
  · rw [if_neg h1] at h; exact absurd h (by decide)
structure ParseOk (l : List S47) (p : List Int) : Prop where
  l12 : l.length ≤ 12
  p64 : p.length ≤ 64
  each : ∀ x ∈ l, 1 ≤ x.f0.length ∧ x.f0.length ≤ 8 ∧ 0 ≤ x.f1 ∧ x.f1 ≤ 1000
theorem parse_ok {l : List S47} {p : List Int} {a : Int} (h : placeP l p a = 0) : ParseOk l p :=
  have h' := place_ok h
  ⟨pats_len h'.1, pits_len h'.2.1, pats_each h'.1⟩
theorem ParseOk.short {l : List S47} {p : List Int} (h : ParseOk l p) : ∀ x ∈ l, x.f0.length ≤ 1000 := fun x hx => by have := h.each x hx; omega
/-- The length of the pattern with a number. -/
def lenOf (l : List S47) (z : Int) : Int := ((rd_T47 l z).f0.length : Int)
theorem at_mem {l : List S47} {p : List Int} (hok : ParseOk l p) {a : Nat} {z : Int} (h : z ∈ atB l p a) : 0 ≤ z ∧ z < (l.length : Int) ∧ 1 ≤ lenOf l z ∧ (a : Int) + lenOf l z ≤ (p.length : Int) := by
  obtain ⟨j, hj, rfl, hf⟩ := mem_atB.1 h
  have h1 := fits_le hf
  have h2 := hok.each l[j] (List.getElem_mem hj)
  unfold lenOf
  rw [rd_iPattern hj]
  omega
end Go.Proofs.Ytihphgiopjiohaa.P

/- Least costs of parses: the reference and the program compute one list; at each place it is one of the sums that are compared. -/
namespace Go.Proofs.Ytihphgiopjiohaa.P
open Go.RowKit Go.Proofs.YtihphgiopjiohaaW.PrintWords Go.Proofs.YtihphgiopjiohaaL
theorem At_spec_ev {l : List S47} {p : List Int} (hok : ParseOk l p) {a : Nat} (ha : a ≤ 1000) : Ev (fun k => spec_l11At.f k l p (a : Int)) (atB l p a) :=
  ⟨2000, fun k hk => l11At_eq (by have := hok.l12; omega) hok.short (by have := hok.p64; omega) (by omega) (by have := hok.l12; omega)⟩
theorem At_impl_ev {l : List S47} {p : List Int} (hok : ParseOk l p) {a : Nat} (ha : a ≤ 1000) : Ev (fun k => impl_patternsAt.f k l p (a : Int)) (atB l p a) :=
  ⟨2000, fun k hk => patternsAt_eq (by have := hok.l12; omega) hok.short (by have := hok.p64; omega) (by omega) (by have := hok.l12; omega)⟩
theorem rd_set {s : List Int} {a : Nat} (h : a < s.length) (v : Int) (j : Nat) : rd (s.set a v) (j : Int) = if j = a then v else rd s (j : Int) := by
  unfold rd
  rw [Int.toNat_natCast, List.getD_eq_getElem?_getD, List.getD_eq_getElem?_getD, List.getElem?_set]
  by_cases e : j = a
  · subst e; simp [h]
  · rw [if_neg (fun e2 => e e2.symm), if_neg e]
theorem l00Min_eq (a b : Int) : spec_l00Min.f a b = some (mn a b) := by
  unfold spec_l00Min.f mn
  by_cases h : a < b
  · rw [if_pos h, if_neg (by omega)]
  · by_cases h2 : b < a
    · rw [if_neg h, if_pos h2]
    · rw [if_neg h, if_neg h2, show a = b by omega]
def lnN (l : List S47) (z : Int) : Nat := (rd_T47 l z).f0.length
/-- What stands at a place is one of the sums. -/
def Cand (l : List S47) (p : List Int) (al : Int) (s : List Int) (a : Nat) : Prop :=
  wrap64 (al + rd s ((a + 1 : Nat) : Int)) = rd s (a : Int) ∨ ∃ z ∈ atB l p a, wrap64 ((rd_T47 l z).f1 + rd s ((a + lnN l z : Nat) : Int)) = rd s (a : Int)
theorem Cand.same {l : List S47} {p : List Int} (hok : ParseOk l p) {al : Int} {s s' : List Int} {a : Nat} (h : Cand l p al s a) (hs : ∀ j : Nat, a ≤ j → rd s' (j : Int) = rd s (j : Int)) : Cand l p al s' a := by
  rcases h with h | ⟨z, hz, h⟩
  · left; rw [hs _ (by omega), hs _ (by omega)]; exact h
  · right; exact ⟨z, hz, by rw [hs _ (by omega), hs _ (by omega)]; exact h⟩
theorem at_len {l : List S47} {p : List Int} (hok : ParseOk l p) (a : Nat) : (atB l p a).length ≤ 12 := Nat.le_trans (atF_length (p := p) (a := a) l 0) hok.l12
/-- The pattern with a number that stands at a place, in plain variables. -/
theorem at_mem2 {l : List S47} {p : List Int} (hok : ParseOk l p) {a : Nat} {z : Int} (h : z ∈ atB l p a) : 0 ≤ z ∧ z < (l.length : Int) ∧ 1 ≤ lnN l z ∧ a + lnN l z ≤ p.length := by
  have := at_mem hok h
  unfold lenOf at this
  unfold lnN
  generalize (rd_T47 l z).f0.length = d at this ⊢
  omega
theorem spec_c_step {l : List S47} {p s S : List Int} {al : Int} {a i k d : Nat} {z : Int} (hi : i < S.length) (hz : S[i] = z) (m1 : 0 ≤ z) (m2 : z < (l.length : Int)) (hd : (rd_T47 l z).f0.length = d) (h1 : a < s.length) (h2 : a + d < s.length) (hs : s.length ≤ 1000) (hS : S.length ≤ 12) : spec_l11Costs.l1 (k + 1) l p al s (a : Int) S (i : Int) = spec_l11Costs.l1 k l p al (s.set a (mn (rd s (a : Int)) (wrap64 ((rd_T47 l z).f1 + rd s ((a + d : Nat) : Int))))) (a : Int) S ((i + 1 : Nat) : Int) := by
  have w2 : wrap64 ((a : Int) + (d : Int)) = ((a + d : Nat) : Int) := by rw [wrap_id (by omega) (by omega)]; omega
  have ws : wrap64 ((i : Int) + 1) = ((i + 1 : Nat) : Int) := wrap_succ hi (by omega)
  simp only [spec_l11Costs.l1]
  rw [if_pos (lt_cast hi), if_pos (nn_cast i), rd_get hi, hz, if_pos m1, if_pos m2, if_pos (nn_cast a), if_pos (lt_cast h1), hd, w2, if_pos (nn_cast _), if_pos (lt_cast h2), l00Min_eq, Option.bind_some, ws, Int.toNat_natCast]
theorem impl_c_step {l : List S47} {p s S : List Int} {al : Int} {a i k d : Nat} {z : Int} (hi : i < S.length) (hz : S[i] = z) (m1 : 0 ≤ z) (m2 : z < (l.length : Int)) (hd : (rd_T47 l z).f0.length = d) (h1 : a < s.length) (h2 : a + d < s.length) (hs : s.length ≤ 1000) (hS : S.length ≤ 12) : impl_parseCosts.l1 (k + 1) l p al s (a : Int) S (S.length : Int) (i : Int) = impl_parseCosts.l1 k l p al (s.set a (mn (rd s (a : Int)) (wrap64 ((rd_T47 l z).f1 + rd s ((a + d : Nat) : Int))))) (a : Int) S (S.length : Int) ((i + 1 : Nat) : Int) := by
  have w2 : wrap64 ((a : Int) + (d : Int)) = ((a + d : Nat) : Int) := by rw [wrap_id (by omega) (by omega)]; omega
  have ws : wrap64 ((i : Int) + 1) = ((i + 1 : Nat) : Int) := wrap_succ hi (by omega)
  simp only [impl_parseCosts.l1]
  rw [if_pos (lt_cast hi), if_pos (nn_cast i), if_pos (lt_cast hi), if_pos (nn_cast a), if_pos (lt_cast h1), rd_get hi, hz, if_pos m1, if_pos m2, hd, w2, if_pos (nn_cast _), if_pos (lt_cast h2), ws, Int.toNat_natCast]
theorem costs_inner {l : List S47} {p : List Int} (hok : ParseOk l p) (al : Int) {a : Nat} (ha : a < p.length) : ∀ (d i : Nat) (s : List Int), i + d = (atB l p a).length → s.length = p.length + 1 → Cand l p al s a →
    ∃ s' : List Int, s'.length = p.length + 1 ∧ (∀ j : Nat, j ≠ a → rd s' (j : Int) = rd s (j : Int)) ∧ Cand l p al s' a ∧
      (∀ k, spec_l11Costs.l1 (k + (d + 1)) l p al s (a : Int) (atB l p a) (i : Int) = spec_l11Costs.l0 k l p al s' ((a : Int) - 1)) ∧
      (∀ k, impl_parseCosts.l1 (k + (d + 1)) l p al s (a : Int) (atB l p a) ((atB l p a).length : Int) (i : Int) = impl_parseCosts.l0 k l p al s' ((a : Int) - 1)) := by
  intro d
  have hp := hok.p64
  have hS := at_len hok a
  have w3 : wrap64 ((a : Int) - 1) = (a : Int) - 1 := wrap_id (by omega) (by omega)
  induction d with
  | zero =>
    intro i s hi hs hc
    obtain rfl : i = (atB l p a).length := by omega
    refine ⟨s, hs, fun _ _ => rfl, hc, fun k => ?_, fun k => ?_⟩
    · simp only [Nat.zero_add, spec_l11Costs.l1]
      rw [if_neg (nlt_cast _), w3]
    · simp only [Nat.zero_add, impl_parseCosts.l1]
      rw [if_neg (nlt_cast _), w3]
  | succ d ih =>
    intro i s hi hs hc
    have hlt : i < (atB l p a).length := by omega
    obtain ⟨z, hz⟩ : ∃ z, (atB l p a)[i] = z := ⟨_, rfl⟩
    have hmem : z ∈ atB l p a := by rw [← hz]; exact List.getElem_mem hlt
    have hm := at_mem2 hok hmem
    obtain ⟨e, he⟩ : ∃ e, lnN l z = e := ⟨_, rfl⟩
    rw [he] at hm
    have has : a < s.length := by omega
    have haes : a + e < s.length := by omega
    have hsb : s.length ≤ 1000 := by omega
    have hc1 : Cand l p al (s.set a (mn (rd s (a : Int)) (wrap64 ((rd_T47 l z).f1 + rd s ((a + e : Nat) : Int))))) a := by
      have h0 : ∀ j : Nat, j ≠ a → ∀ v, rd (s.set a v) (j : Int) = rd s (j : Int) := fun j hj v => by rw [rd_set has, if_neg hj]
      have h1 : ∀ v, rd (s.set a v) (a : Int) = v := fun v => by rw [rd_set has, if_pos rfl]
      unfold Cand
      rw [h1]
      unfold mn
      by_cases hcm : wrap64 ((rd_T47 l z).f1 + rd s ((a + e : Nat) : Int)) < rd s (a : Int)
      · rw [if_pos hcm]
        refine .inr ⟨z, hmem, ?_⟩
        rw [he, h0 (a + e) (by omega)]
      · rw [if_neg hcm]
        rcases hc with hc | ⟨y, hy, hc⟩
        · left; rw [h0 (a + 1) (by omega)]; exact hc
        · right
          have hmy := at_mem2 hok hy
          exact ⟨y, hy, by rw [h0 (a + lnN l y) (by omega)]; exact hc⟩
    obtain ⟨s', h1, h2, h3, h4, h5⟩ := ih (i + 1) (s.set a (mn (rd s (a : Int)) (wrap64 ((rd_T47 l z).f1 + rd s ((a + e : Nat) : Int))))) (by omega) (by simpa using hs) hc1
    refine ⟨s', h1, fun j hj => ?_, h3, fun k => ?_, fun k => ?_⟩
    · rw [h2 j hj, rd_set has, if_neg hj]
    · rw [← h4 k]
      exact spec_c_step hlt hz hm.1 hm.2.1 he has haes hsb hS
    · rw [← h5 k]
      exact impl_c_step hlt hz hm.1 hm.2.1 he has haes hsb hS
theorem costs_outer {l : List S47} {p : List Int} (hok : ParseOk l p) (al : Int) : ∀ (a : Nat) (o : List Int), o.length = p.length + 1 → a ≤ p.length → (∀ j : Nat, a ≤ j → j < p.length → Cand l p al o j) →
    ∃ r : List Int, r.length = p.length + 1 ∧ (∀ j : Nat, j < p.length → Cand l p al r j) ∧ Ev (fun k => spec_l11Costs.l0 k l p al o ((a : Int) - 1)) r ∧ Ev (fun k => impl_parseCosts.l0 k l p al o ((a : Int) - 1)) r := by
  intro a
  have hp := hok.p64
  induction a with
  | zero =>
    intro o ho _ hc
    refine ⟨o, ho, fun j hj => hc j (by omega) hj, Ev.step (f := fun _ => some o) (fun k => ?_) (Ev.now _), Ev.step (f := fun _ => some o) (fun k => ?_) (Ev.now _)⟩
    · simp only [spec_l11Costs.l0]; rw [if_neg (by omega)]
    · simp only [impl_parseCosts.l0]; rw [if_neg (by omega)]
  | succ a ih =>
    intro o ho ha hc
    have hao : a < o.length := by omega
    have ha1 : a + 1 < o.length := by omega
    have e1 : (((a + 1 : Nat) : Int) - 1) = (a : Int) := by omega
    have w1 : wrap64 ((a : Int) + 1) = ((a + 1 : Nat) : Int) := by rw [wrap_id (by omega) (by omega)]; omega
    have hge : (a : Int) ≥ 0 := by omega
    obtain ⟨o1, ho1⟩ : ∃ o1, o1 = o.set a (wrap64 (al + rd o ((a + 1 : Nat) : Int))) := ⟨_, rfl⟩
    have h0 : ∀ j : Nat, j ≠ a → rd o1 (j : Int) = rd o (j : Int) := fun j hj => by rw [ho1, rd_set hao, if_neg hj]
    have h1 : rd o1 (a : Int) = wrap64 (al + rd o ((a + 1 : Nat) : Int)) := by rw [ho1, rd_set hao, if_pos rfl]
    have hl1 : o1.length = p.length + 1 := by rw [ho1]; simpa using ho
    obtain ⟨s', hs1, hs2, hs3, hs4, hs5⟩ := costs_inner hok al (a := a) (by omega) (atB l p a).length 0 o1 (by omega) hl1 (.inl (by rw [h0 _ (by omega), h1]))
    obtain ⟨r, hr1, hr2, hr3, hr4⟩ := ih s' hs1 (by omega) (fun j hj hjp => by
      by_cases e : j = a
      · subst e; exact hs3
      · exact (hc j (by omega) hjp).same hok (fun q hq => by rw [hs2 q (by omega), h0 q (by omega)]))
    refine ⟨r, hr1, hr2, ?_, ?_⟩
    · refine Ev.step (f := fun k => (spec_l11At.f k l p (a : Int)).bind fun t => spec_l11Costs.l1 k l p al o1 (a : Int) t 0) (fun k => ?_) (Ev.bind (At_spec_ev hok (by omega)) (Ev.shift _ hs4 hr3))
      rw [e1]
      simp only [spec_l11Costs.l0]
      rw [if_pos hge, w1, if_pos (nn_cast _), if_pos (lt_cast ha1), if_pos (nn_cast a), if_pos (lt_cast hao), Int.toNat_natCast, ← ho1]
    · refine Ev.step (f := fun k => (impl_patternsAt.f k l p (a : Int)).bind fun t => impl_parseCosts.l1 k l p al o1 (a : Int) t (t.length : Int) 0) (fun k => ?_) (Ev.bind (At_impl_ev hok (by omega)) (Ev.shift _ hs5 hr4))
      rw [e1]
      simp only [impl_parseCosts.l0]
      rw [if_pos hge, w1, if_pos (nn_cast _), if_pos (lt_cast ha1), if_pos (nn_cast a), if_pos (lt_cast hao), Int.toNat_natCast, ← ho1]
theorem parse_costs {l : List S47} {p : List Int} (hok : ParseOk l p) (al : Int) : ∃ C : List Int, C.length = p.length + 1 ∧ (∀ j : Nat, j < p.length → Cand l p al C j) ∧ Ev (fun k => spec_l11Costs.f k l p al) C ∧ Ev (fun k => impl_parseCosts.f k l p al) C := by
  have hp := hok.p64
  obtain ⟨r, h1, h2, h3, h4⟩ := costs_outer hok al p.length (List.replicate (p.length + 1) 0) (by simp) (Nat.le_refl _) (fun j hj hjp => by omega)
  have w1 : wrap64 ((p.length : Int) + 1) = ((p.length + 1 : Nat) : Int) := by rw [wrap_id (by omega) (by omega)]; omega
  have w2 : wrap64 ((p.length : Int) - 1) = (p.length : Int) - 1 := wrap_id (by omega) (by omega)
  have hb : p.length + 1 ≤ 35184372088832 := by omega
  refine ⟨r, h1, h2, Ev.congr (fun k => ?_) h3, Ev.congr (fun k => ?_) h4⟩
  · unfold spec_l11Costs.f
    rw [w1, if_pos (nn_cast _), Int.toNat_natCast, if_pos hb, w2]
  · unfold impl_parseCosts.f
    rw [w1, if_pos (nn_cast _), Int.toNat_natCast, if_pos hb, w2]
/-! ### the code -/
def aloneP (l : List S47) (p : List Int) (a : Int) : Int := if patsB l = true then (if 0 ≤ a ∧ a ≤ 1000 then (if pitsB p = true then 0 else 7) else 2) else 1
theorem l11Alone_ev {l : List S47} (hl : l.length ≤ 1048576) {p : List Int} (hp : p.length ≤ 1048576) (a : Int) : Ev (fun k => spec_l11Alone.f k l p a) (aloneP l p a) := by
  refine ⟨1048700, fun k hk => ?_⟩
  show spec_l11Alone.f k l p a = _
  unfold spec_l11Alone.f aloneP
  rw [l11Ask_eq hl hp hk, Option.bind_some]
  unfold askP
  by_cases h : patsB l = true
  · rw [if_pos h, if_pos h, l00In_eq, Option.bind_some]
    have h1 : ¬ (if pitsB p = true then (0 : Int) else 7) = 1 := by split <;> decide
    rw [if_neg h1]
    by_cases hr : 0 ≤ a ∧ a ≤ 1000
    · rw [if_pos (by simp [hr.1, hr.2]), if_pos hr]
    · rw [if_neg (by simp; omega), if_neg hr]
  · rw [if_neg h, if_neg h, if_pos rfl]
theorem parseCode_alone (l : List S47) (p : List Int) (a : Int) : Ev (fun k => impl_parseCode.f k l p 0 a) (aloneP l p a) := by
  refine ⟨10, fun k hk => ?_⟩
  obtain ⟨k, rfl⟩ : ∃ m, k = m + 1 := ⟨k - 1, by omega⟩
  show impl_parseCode.f (k + 1) l p 0 a = _
  unfold impl_parseCode.f aloneP
  rw [ValidPatterns_eq, Option.bind_some]
  by_cases h : patsB l = true
  · rw [if_pos h, if_pos h, impl_allWithin.within, Option.bind_some, if_pos (by simp), impl_allWithin.within, Option.bind_some]
    by_cases hr : 0 ≤ a ∧ a ≤ 1000
    · rw [if_pos hr]
      simp only [impl_parseCode.j0]
      rw [if_neg (by simp [hr.1, hr.2]), pitchesOk_eq, Option.bind_some]
      split <;> rfl
    · rw [if_neg hr]
      simp only [impl_parseCode.j0]
      rw [if_pos (by simp; omega)]
  · rw [if_neg h, if_neg h]
theorem alone_ok {l : List S47} {p : List Int} {a : Int} (h : aloneP l p a = 0) : ParseOk l p := by
  unfold aloneP at h
  by_cases h1 : patsB l = true
  · rw [if_pos h1] at h
    by_cases h2 : 0 ≤ a ∧ a ≤ 1000
    · rw [if_pos h2] at h
      by_cases h3 : pitsB p = true
      · exact ⟨pats_len h1, pits_len h3, pats_each h1⟩
      · rw [if_neg h3] at h; exact absurd h (by decide)
    · rw [if_neg h2] at h; exact absurd h (by decide)
  · rw [if_neg h1] at h; exact absurd h (by decide)
end Go.Proofs.Ytihphgiopjiohaa.P

/- The first of the cheapest parses: both take the same steps. -/
namespace Go.Proofs.Ytihphgiopjiohaa.P
open Go.RowKit Go.Proofs.YtihphgiopjiohaaW.PrintWords Go.Proofs.YtihphgiopjiohaaL
def hits (l : List S47) (C : List Int) (a : Nat) (z : Int) : Prop := wrap64 ((rd_T47 l z).f1 + rd C ((a + lnN l z : Nat) : Int)) = rd C (a : Int)
instance (l : List S47) (C : List Int) (a : Nat) (z : Int) : Decidable (hits l C a z) := by unfold hits; exact inferInstance
theorem spec_m_step {l : List S47} {p C x S : List Int} {al : Int} {a i k d : Nat} {z : Int} (hi : i < S.length) (hz : S[i] = z) (m1 : 0 ≤ z) (m2 : z < (l.length : Int)) (hd : (rd_T47 l z).f0.length = d) (h1 : a < C.length) (h2 : a + d < C.length) (hC : C.length ≤ 1000) (hS : S.length ≤ 12) (hx : x.length ≤ 1000) :
    spec_l11Parse.l1 (k + 1) l p al C x (a : Int) S (i : Int) = if wrap64 ((rd_T47 l z).f1 + rd C ((a + d : Nat) : Int)) = rd C (a : Int) then spec_l11Parse.l0 k l p al C (x ++ [z]) ((a + d : Nat) : Int) else spec_l11Parse.l1 k l p al C x (a : Int) S ((i + 1 : Nat) : Int) := by
  have w2 : wrap64 ((a : Int) + (d : Int)) = ((a + d : Nat) : Int) := by rw [wrap_id (by omega) (by omega)]; omega
  have ws : wrap64 ((i : Int) + 1) = ((i + 1 : Nat) : Int) := wrap_succ hi (by omega)
  have hxb : x.length < 17592186044416 := by omega
  simp only [spec_l11Parse.l1]
  rw [if_pos (lt_cast hi), if_pos (nn_cast i), rd_get hi, hz, if_pos m1, if_pos m2, hd, w2, if_pos (nn_cast _), if_pos (lt_cast h2), if_pos (nn_cast a), if_pos (lt_cast h1), if_pos hxb, ws]
theorem impl_m_step {l : List S47} {p C x S : List Int} {al : Int} {a i k d : Nat} {z : Int} (hi : i < S.length) (hz : S[i] = z) (m1 : 0 ≤ z) (m2 : z < (l.length : Int)) (hd : (rd_T47 l z).f0.length = d) (h1 : a < C.length) (h2 : a + d < C.length) (hC : C.length ≤ 1000) (hS : S.length ≤ 12) (hx : x.length ≤ 1000) :
    impl_ParseMelody.l1 (k + 1) l p al C x (a : Int) S (S.length : Int) (i : Int) = if wrap64 ((rd_T47 l z).f1 + rd C ((a + d : Nat) : Int)) = rd C (a : Int) then impl_ParseMelody.l0 k l p al C (x ++ [z]) ((a + d : Nat) : Int) else impl_ParseMelody.l1 k l p al C x (a : Int) S (S.length : Int) ((i + 1 : Nat) : Int) := by
  have w2 : wrap64 ((a : Int) + (d : Int)) = ((a + d : Nat) : Int) := by rw [wrap_id (by omega) (by omega)]; omega
  have ws : wrap64 ((i : Int) + 1) = ((i + 1 : Nat) : Int) := wrap_succ hi (by omega)
  have hxb : x.length < 17592186044416 := by omega
  simp only [impl_ParseMelody.l1]
  rw [if_pos (lt_cast hi), if_pos (nn_cast i), if_pos (lt_cast hi), rd_get hi, hz, if_pos m1, if_pos m2, hd, w2, if_pos (nn_cast _), if_pos (lt_cast h2), if_pos (nn_cast a), if_pos (lt_cast h1), if_pos hxb, ws]
/-- The first pattern at a place that fits the costs. -/
theorem melody_find {l : List S47} {p C x : List Int} (hok : ParseOk l p) (al : Int) {a : Nat} (ha : a < p.length) (hC : C.length = p.length + 1) (hx : x.length ≤ 1000) : ∀ (d i : Nat), i + d = (atB l p a).length → (∃ j, ∃ h : j < (atB l p a).length, i ≤ j ∧ hits l C a (atB l p a)[j]) →
    ∃ (z : Int) (c : Nat), z ∈ atB l p a ∧ (∀ k, spec_l11Parse.l1 (k + c) l p al C x (a : Int) (atB l p a) (i : Int) = spec_l11Parse.l0 k l p al C (x ++ [z]) ((a + lnN l z : Nat) : Int)) ∧
      (∀ k, impl_ParseMelody.l1 (k + c) l p al C x (a : Int) (atB l p a) ((atB l p a).length : Int) (i : Int) = impl_ParseMelody.l0 k l p al C (x ++ [z]) ((a + lnN l z : Nat) : Int)) := by
  intro d
  have hp := hok.p64
  have hS := at_len hok a
  induction d with
  | zero =>
    rintro i hi ⟨j, hj, hij, _⟩
    omega
  | succ d ih =>
    intro i hi hex
    have hlt : i < (atB l p a).length := by omega
    obtain ⟨z, hz⟩ : ∃ z, (atB l p a)[i] = z := ⟨_, rfl⟩
    have hmem : z ∈ atB l p a := by rw [← hz]; exact List.getElem_mem hlt
    have hm := at_mem2 hok hmem
    have s1 := fun k => spec_m_step (p := p) (x := x) (al := al) (k := k) hlt hz hm.1 hm.2.1 (d := lnN l z) rfl (show a < C.length by omega) (by omega) (by omega) hS hx
    have s2 := fun k => impl_m_step (p := p) (x := x) (al := al) (k := k) hlt hz hm.1 hm.2.1 (d := lnN l z) rfl (show a < C.length by omega) (by omega) (by omega) hS hx
    by_cases hh : hits l C a z
    all_goals have hh' := hh
    all_goals unfold hits at hh'
    · refine ⟨z, 1, hmem, fun k => ?_, fun k => ?_⟩
      · rw [s1 k, if_pos hh']
      · rw [s2 k, if_pos hh']
    · obtain ⟨y, c, hy, h1, h2⟩ := ih (i + 1) (by omega) (by
        obtain ⟨j, hj, hij, hq⟩ := hex
        refine ⟨j, hj, ?_, hq⟩
        by_cases e : i = j
        · subst e; rw [hz] at hq; exact absurd hq hh
        · omega)
      refine ⟨y, c + 1, hy, fun k => ?_, fun k => ?_⟩
      · rw [← h1 k, ← Nat.add_assoc, s1 (k + c), if_neg hh']
      · rw [← h2 k, ← Nat.add_assoc, s2 (k + c), if_neg hh']
theorem melody_loop {l : List S47} {p C : List Int} (hok : ParseOk l p) (al : Int) (hC : C.length = p.length + 1) (hc : ∀ j : Nat, j < p.length → Cand l p al C j) : ∀ (d a : Nat) (x : List Int), p.length ≤ a + d → a ≤ p.length → x.length ≤ a →
    ∃ r : List Int, r.length ≤ p.length ∧ Ev (fun k => spec_l11Parse.l0 k l p al C x (a : Int)) r ∧ Ev (fun k => impl_ParseMelody.l0 k l p al C x (a : Int)) (r, 0) := by
  intro d
  have hp := hok.p64
  induction d with
  | zero =>
    intro a x hd ha hx
    obtain rfl : a = p.length := by omega
    refine ⟨x, hx, Ev.step (f := fun _ => some x) (fun k => ?_) (Ev.now _), Ev.step (f := fun _ => some (x, 0)) (fun k => ?_) (Ev.now _)⟩
    · simp only [spec_l11Parse.l0]; rw [if_neg (nlt_cast _)]
    · simp only [impl_ParseMelody.l0]; rw [if_neg (nlt_cast _)]
  | succ d ih =>
    intro a x hd ha hx
    by_cases hap : a = p.length
    · subst hap
      refine ⟨x, hx, Ev.step (f := fun _ => some x) (fun k => ?_) (Ev.now _), Ev.step (f := fun _ => some (x, 0)) (fun k => ?_) (Ev.now _)⟩
      · simp only [spec_l11Parse.l0]; rw [if_neg (nlt_cast _)]
      · simp only [impl_ParseMelody.l0]; rw [if_neg (nlt_cast _)]
    have hlt : a < p.length := by omega
    have w1 : wrap64 ((a : Int) + 1) = ((a + 1 : Nat) : Int) := by rw [wrap_id (by omega) (by omega)]; omega
    have ha1 : a + 1 < C.length := by omega
    have haC : a < C.length := by omega
    have hxb : x.length < 17592186044416 := by omega
    by_cases hal : wrap64 (al + rd C ((a + 1 : Nat) : Int)) = rd C (a : Int)
    · obtain ⟨r, h1, h2, h3⟩ := ih (a + 1) (x ++ [-1]) (by omega) (by omega) (by simp; omega)
      refine ⟨r, h1, Ev.step (fun k => ?_) h2, Ev.step (fun k => ?_) h3⟩
      · simp only [spec_l11Parse.l0]
        rw [if_pos (lt_cast hlt), w1, if_pos (nn_cast _), if_pos (lt_cast ha1), if_pos (nn_cast a), if_pos (lt_cast haC), if_pos hal, if_pos hxb]
      · simp only [impl_ParseMelody.l0]
        rw [if_pos (lt_cast hlt), w1, if_pos (nn_cast _), if_pos (lt_cast ha1), if_pos (nn_cast a), if_pos (lt_cast haC), if_pos hal, if_pos hxb]
    · obtain ⟨z, c, hz, hs, hi⟩ := melody_find hok al (x := x) hlt hC (by omega) (atB l p a).length 0 (by omega) (by
        rcases hc a hlt with h | ⟨z, hz, h⟩
        · exact absurd h hal
        · obtain ⟨j, hj, e⟩ := List.getElem_of_mem hz
          exact ⟨j, hj, Nat.zero_le _, by rw [e]; exact h⟩)
      have hm := at_mem2 hok hz
      obtain ⟨r, h1, h2, h3⟩ := ih (a + lnN l z) (x ++ [z]) (by omega) (by omega) (by simp; omega)
      refine ⟨r, h1, ?_, ?_⟩
      · refine Ev.step (f := fun k => (spec_l11At.f k l p (a : Int)).bind fun t => spec_l11Parse.l1 k l p al C x (a : Int) t 0) (fun k => ?_) (Ev.bind (At_spec_ev hok (by omega)) (Ev.shift c hs h2))
        simp only [spec_l11Parse.l0]
        rw [if_pos (lt_cast hlt), w1, if_pos (nn_cast _), if_pos (lt_cast ha1), if_pos (nn_cast a), if_pos (lt_cast haC), if_neg hal]
      · refine Ev.step (f := fun k => (impl_patternsAt.f k l p (a : Int)).bind fun t => impl_ParseMelody.l1 k l p al C x (a : Int) t (t.length : Int) 0) (fun k => ?_) (Ev.bind (At_impl_ev hok (by omega)) (Ev.shift c hi h3))
        simp only [impl_ParseMelody.l0]
        rw [if_pos (lt_cast hlt), w1, if_pos (nn_cast _), if_pos (lt_cast ha1), if_pos (nn_cast a), if_pos (lt_cast haC), if_neg hal]
theorem core_ParseMelody {l : List S47} (hl : l.length ≤ 1048576) {p : List Int} (hp : p.length ≤ 1048576) (a : Int) : ∃ (v : List Int) (c : Int), v.length ≤ 1048576 ∧ Ev (fun k => spec_ParseMelody.f k l p a) (v, c) ∧ Ev (fun k => impl_ParseMelody.f k l p a) (v, c) := by
  unfold spec_ParseMelody.f impl_ParseMelody.f
  by_cases h : aloneP l p a = 0
  · have hok := alone_ok h
    obtain ⟨C, h1, h2, h3, h4⟩ := parse_costs hok a
    obtain ⟨r, r1, r2, r3⟩ := melody_loop hok a h1 h2 p.length 0 [] (by omega) (by omega) (by simp)
    refine ⟨r, 0, by omega, Ev.bind (l11Alone_ev hl hp a) (Ev.pos h (Ev.bind (a := r) ?_ (Ev.now _))), Ev.bind (parseCode_alone l p a) (Ev.pos h (Ev.bind h4 r3))⟩
    unfold spec_l11Parse.f
    exact Ev.bind h3 r2
  · exact ⟨[], aloneP l p a, by simp, Ev.bind (l11Alone_ev hl hp a) (Ev.neg h (Ev.now _)), Ev.bind (parseCode_alone l p a) (Ev.neg h (Ev.now _))⟩
end Go.Proofs.Ytihphgiopjiohaa.P

/- Marks of whole numbers. -/
namespace Go.Proofs.Ytihphgiopjiohaa.P
open Go.RowKit Go.Proofs.YtihphgiopjiohaaW.PrintWords Go.Proofs.YtihphgiopjiohaaL
theorem markI_ev {l : List Int} {m : Int} (hm : 0 ≤ m) (hb : m + l.length ≤ 4611686018427387904) : Ev (fun k => laws_markInt64S.f k l m) (m + l.length, mkI m l.length) := by
  unfold laws_markInt64S.f
  refine mark_ints (fun k l m i => laws_markInt64S.l0 k l m i) (fun k l m i hi hl h0 h1 => ?_) (fun k l m => ?_) hm hb
  · simp only [laws_markInt64S.l0]
    rw [if_pos (lt_cast hi), if_pos (nn_cast i), wrap_id (x := m + 1) (by omega) (by omega), Int.toNat_natCast, wrap_succ hi hl]
  · simp only [laws_markInt64S.l0]
    rw [if_neg (nlt_cast _)]
theorem heldI_ev {n : Nat} {m : Int} (hm : 0 ≤ m) (hb : m + n ≤ 4611686018427387904) : Ev (fun k => laws_heldInt64S.f k (mkI m n) m) (m + n) := by
  unfold laws_heldInt64S.f
  refine held_ints (fun k m' i => laws_heldInt64S.l0 k (mkI m n) m' i) n (fun k m' i hi h0 h1 he => ?_) (fun k m' => ?_) hm hb
  · simp only [laws_heldInt64S.l0]
    rw [mkI_len, if_pos (lt_cast hi), if_pos (nn_cast i), mkI_rd hi, if_pos he.symm, wrap_id (x := m' + 1) (by omega) (by omega), wrap_succ hi (by omega)]
  · simp only [laws_heldInt64S.l0]
    rw [mkI_len, if_neg (nlt_cast _)]
/-- As the plain laws take it. -/
theorem markInt64S_all {l : List Int} (hl : l.length ≤ 1048576) {m : Int} (h0 : 0 ≤ m) (h1 : m ≤ 1152921504606846976) : ∃ (m' : Int) (l' : List Int), m ≤ m' ∧ m' ≤ m + 8796093022208 ∧ Ev (fun k => laws_markInt64S.f k l m) (m', l') ∧ Ev (fun k => laws_heldInt64S.f k l' m) m' :=
  ⟨m + l.length, mkI m l.length, by omega, by omega, markI_ev h0 (by omega), heldI_ev h0 (by omega)⟩
end Go.Proofs.Ytihphgiopjiohaa.P

/- Marks of patterns. -/
namespace Go.Proofs.Ytihphgiopjiohaa.P
open Go.RowKit Go.Proofs.YtihphgiopjiohaaW.PrintWords Go.Proofs.YtihphgiopjiohaaL
theorem smi_allPattern {l : List S46} (h : ∀ y ∈ l, smPattern y) : ∀ y ∈ l.map cPattern, smiPattern y := by
  intro y hy
  obtain ⟨x, hx, rfl⟩ := List.mem_map.1 hy
  exact smi_cPattern (h x hx)
theorem markPatternS_all {l : List S47} (hl : l.length ≤ 1048576) (hs : ∀ y ∈ l, smiPattern y) {m : Int} (h0 : 0 ≤ m) (h1 : m ≤ 1152921504606846976) : ∃ (m' : Int) (l' : List S47), m ≤ m' ∧ m' ≤ m + 8796093022208 ∧ Ev (fun k => laws_markPatternS.f k l m) (m', l') ∧ True := by
  have main : ∀ (d i : Nat) (x : List S47) (q : Int), i + d = l.length → x.length = l.length → (∀ j, (h : j < x.length) → i ≤ j → x[j].f0.length ≤ 1048576) → 0 ≤ q → q ≤ 1152921504606846976 + i * 1048577 → ∃ (m' : Int) (l' : List S47), q ≤ m' ∧ m' ≤ q + d * 1048577 ∧ Ev (fun k => laws_markPatternS.l0 k x q (i : Int)) (m', l') := by
    intro d
    induction d with
    | zero =>
      intro i x q hi hx hp hq0 hq
      refine ⟨q, x, Int.le_refl _, by omega, Ev.step (f := fun _ => some (q, x)) (fun k => ?_) (Ev.now _)⟩
      simp only [laws_markPatternS.l0]
      rw [if_neg (by omega)]
    | succ d ih =>
      intro i x q hi hx hp hq0 hq
      have hlt : i < x.length := by omega
      have hxi := hp i hlt (Nat.le_refl _)
      have hr : rd_T47 x (i : Int) = x[i] := rd_iPattern hlt
      obtain ⟨n, hn⟩ : ∃ n, x[i].f0.length = n := ⟨_, rfl⟩
      rw [hn] at hxi
      have hmk := markI_ev (l := x[i].f0) (m := q) hq0 (by rw [hn]; omega)
      rw [hn] at hmk
      have w1 : wrap64 (q + (n : Int) + 1) = q + (n : Int) + 1 := wrap_id (by omega) (by omega)
      have ws : wrap64 ((i : Int) + 1) = ((i + 1 : Nat) : Int) := wrap_succ hlt (by omega)
      obtain ⟨m', l', b1, b2, b3⟩ := ih (i + 1) (x.set i ⟨mkI q n, q + (n : Int)⟩) (q + (n : Int) + 1) (by omega) (by simpa using hx) (fun j h hj => by rw [List.getElem_set_ne (by omega)]; exact hp j (by simpa using h) (by omega)) (by omega) (by omega)
      refine ⟨m', l', by omega, by omega, ?_⟩
      refine Ev.step (f := fun k => (laws_markInt64S.f k x[i].f0 q).bind fun t => laws_markPatternS.l0 k (x.set i ⟨t.2, t.1⟩) (wrap64 (t.1 + 1)) ((i + 1 : Nat) : Int)) (fun k => ?_) (Ev.bind hmk (by dsimp only; rw [w1]; exact b3))
      simp only [laws_markPatternS.l0]
      rw [if_pos (lt_cast hlt), if_pos (nn_cast i), hr, ws, Int.toNat_natCast]
  obtain ⟨m', l', b1, b2, b3⟩ := main l.length 0 l m (by omega) rfl (fun j h _ => hs _ (List.getElem_mem h)) h0 (by omega)
  exact ⟨m', l', b1, by omega, b3, trivial⟩
end Go.Proofs.Ytihphgiopjiohaa.P

/- The plain law behind FnExactParseMelody: the reference and the program answer the same, and the copies stay. Conditions: none beyond the kinds' own bounds. -/
namespace Go.Proofs.Ytihphgiopjiohaa.Pure
open Go.RowKit Go.Proofs.YtihphgiopjiohaaW.PrintWords Go.Proofs.YtihphgiopjiohaaL Go.Proofs.Ytihphgiopjiohaa.P
theorem FnExactParseMelody : ∀ (x0 : List P.S46) (x1 : List Int) (x2 : Int), (x0.length ≤ maxLen ∧ ∀ y ∈ x0, g46 y) → (x1.length ≤ maxLen ∧ ∀ y ∈ x1, (Lit.int .i64 y).wf = true) → (Lit.int .i64 x2).wf = true → ∃ k : Nat, P.laws_FnExactParseMelody.f k x0 x1 x2 = some true := by
  intro x0 x1 x2 ⟨hl0, hg0⟩ ⟨hl1, hg1⟩ _
  refine Ev.rounds (g := fun k => P.laws_FnExactParseMelody.f k x0 x1 x2) ?_
  unfold laws_FnExactParseMelody.f
  by_cases hs1x : (x1.length : Int) > 1048576
  · exact Ev.pos hs1x (Ev.now _)
  refine Ev.neg hs1x ?_
  have hx1 : x1.length ≤ 1048576 := by omega
  obtain ⟨r0, hr0, h0⟩ := szPatternS_some hl0 hg0 (a := 1048576) (by omega) (by omega) (k := 10000000) (by omega)
  refine Ev.bind (a := r0) (Ev.of (g := fun k => laws_szPatternS.f k x0 1048576) (fun k => laws_szPatternS.mono _ _ k) hr0) ?_
  try dsimp only
  by_cases g0 : r0 < 0
  · exact Ev.pos g0 (Ev.now _)
  refine Ev.neg g0 ?_
  obtain ⟨p0, q0, z0, s0⟩ := h0.resolve_left g0
  unfold laws_FnExactParseMelody.g
  have hx0 : (x0.map cPattern).length ≤ 1048576 := by simpa using z0
  have hs0 : ∀ y ∈ x0.map cPattern, smiPattern y := fun y hy => by obtain ⟨x, hx, rfl⟩ := List.mem_map.1 hy; exact smi_cPattern (s0 x hx)
  have hT0 : Ev (fun k => laws_toPatternS.f k x0) (x0.map cPattern) := Ev.le 10000000 (fun k hk => toPatternS_eq z0 s0 (by omega))
  have hE0 : Ev (fun k => laws_eqPatternS.f k (x0.map cPattern) (x0.map cPattern)) true := Ev.le 10000000 (fun k hk => by rw [eqPatternS_eq hx0 hs0 (by omega)]; simp)
  have hT1 : Ev (fun k => laws_toInt64S.f k x1) x1 := Ev.le 10000000 (fun k hk => toInt64S_eq hx1 (by omega))
  have hE1 : Ev (fun k => laws_eqInt64S.f k x1 x1) true := Ev.le 10000000 (fun k hk => by rw [eqInt64S_eq hx1 (by omega)]; simp)
  generalize x0.map cPattern = l0 at hx0 hT0 hE0 hs0 ⊢
  refine Ev.bind hT0 ?_
  try dsimp only
  refine Ev.bind hT1 ?_
  try dsimp only
  obtain ⟨v, c, hv, hS, hI⟩ := core_ParseMelody hx0 hx1 x2
  have hV : Ev (fun k => laws_eqInt64S.f k v v) true := Ev.le 10000000 (fun k hk => by rw [eqInt64S_eq hv (by omega)]; simp)
  refine Ev.bind hS ?_
  try dsimp only
  refine Ev.bind hT0 ?_
  try dsimp only
  refine Ev.bind hT1 ?_
  try dsimp only
  refine Ev.bind hI ?_
  try dsimp only
  refine Ev.yes hV ?_
  refine Ev.pos rfl ?_
  refine Ev.bind hT0 ?_
  try dsimp only
  refine Ev.yes hE0 ?_
  refine Ev.bind hT1 ?_
  try dsimp only
  refine Ev.yes hE1 ?_
  obtain ⟨m0, y0, mb0, mc0, hM0, hH0⟩ := markPatternS_all hx0 hs0 (m := 1) (by omega) (by omega)
  refine Ev.bind hM0 ?_
  try dsimp only
  obtain ⟨m1, y1, mb1, mc1, hM1, hH1⟩ := markInt64S_all hx1 (m := m0) (by omega) (by omega)
  refine Ev.bind hM1 ?_
  try dsimp only
  refine Ev.neg (by omega) ?_
  refine Ev.yes hV ?_
  refine Ev.pos rfl ?_
  obtain ⟨m2, y2, mb2, mc2, hM2, hH2⟩ := markInt64S_all hv (m := 1) (by omega) (by omega)
  refine Ev.bind hM2 ?_
  try dsimp only
  refine Ev.bind hH2 ?_
  try dsimp only
  refine Ev.neg (by omega) ?_
  refine Ev.pos rfl ?_
  refine Ev.bind hT0 ?_
  try dsimp only
  refine Ev.bind hT1 ?_
  try dsimp only
  refine Ev.bind hI ?_
  try dsimp only
  refine Ev.yes hV ?_
  refine Ev.pos rfl ?_
  refine Ev.bind hH2 ?_
  try dsimp only
  refine Ev.neg (by omega) ?_
  refine Ev.pos rfl ?_
  exact Ev.now _
end Go.Proofs.Ytihphgiopjiohaa.Pure
