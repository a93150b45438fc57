/- Part e of what FnExactMergeStates stands on: functions of the program as Lean functions with their walks, and plain lemmas. -/
import Derived.Test.YtocegmkifmdlcaaBFnExactMergeStatesa
import Derived.Test.YtocegmkifmdlcaaK
import Derived.Test.YtocegmkifmdlcaaBFnExactMergeStatesd
import Derived.Test.YtocegmkifmdlcaaBFnExactMergeStatesc
import Derived.Test.YtocegmkifmdlcaaBFnExactMergeStatesb
namespace Go.Proofs.Ytocegmkifmdlcaa.P
open Go.RowKit Go.Proofs.YtocegmkifmdlcaaW.PrintWords Go.Proofs.YtocegmkifmdlcaaL
set_option linter.unusedVariables false
set_option linter.unusedSimpArgs false

theorem ext_iAnswer {a b : S125} : a = b ↔ a.f0.toList = b.f0.toList ∧ a.f1.toList = b.f1.toList ∧ a.f2 = b.f2 := by
  simp only [bytes_eq]; cases a; cases b; simp
instance : DecidableEq S125 := fun _ _ => decidable_of_iff _ ext_iAnswer.symm
-- Change: fields of other kinds
def cSetting (x : S74) : S80 := ⟨x.f0, x.f1⟩
def smSetting (x : S74) : Prop := x.f0.size ≤ 1048576
theorem rd_lSetting {l : List S74} {i : Nat} (h : i < l.length) : rd_T74 l (i : Int) = l[i] := by
  simp [rd_T74, List.getD_eq_getElem?_getD, List.getElem?_eq_getElem h]
theorem rd_iSetting {l : List S80} {i : Nat} (h : i < l.length) : rd_T80 l (i : Int) = l[i] := by
  simp [rd_T80, List.getD_eq_getElem?_getD, List.getElem?_eq_getElem h]
theorem ext_iSetting {a b : S80} : a = b ↔ a.f0.toList = b.f0.toList ∧ a.f1 = b.f1 := by
  simp only [bytes_eq]; cases a; cases b; simp
instance : DecidableEq S80 := fun _ _ => decidable_of_iff _ ext_iSetting.symm
theorem szSetting_some {x : S74} (hg : Go.Proofs.Ytocegmkifmdlcaa.g74 x) {a : Int} (ha0 : 0 ≤ a) (ha : a ≤ 1048576) : ∃ r, laws_szSetting.f x.f0 x.f1 a = some r ∧ (r < 0 ∨ (0 ≤ r ∧ r ≤ a ∧ smSetting x)) := by
  unfold laws_szSetting.f smSetting
  have hs0 : x.f0.size ≤ 9223372036854775807 := by have := hg.1; simpa only [maxLen] using this
  rw [wrap_id (x := a - (x.f0.size : Int)) (by omega) (by omega)]
  by_cases h0 : a - (x.f0.size : Int) < 0
  · rw [if_pos h0]; exact ⟨-1, rfl, .inl (by omega)⟩
  rw [if_neg h0]
  exact ⟨_, rfl, .inr ⟨by omega, by omega, by omega⟩⟩
theorem szSettingS_some {l : List S74} (hl : l.length ≤ maxLen) (hg : ∀ y ∈ l, Go.Proofs.Ytocegmkifmdlcaa.g74 y) {a : Int} (ha0 : 0 ≤ a) (ha : a ≤ 1048576) {k : Nat} (hk : 1048600 ≤ k) : ∃ r, laws_szSettingS.f k l a = some r ∧ (r < 0 ∨ (0 ≤ r ∧ r ≤ a ∧ l.length ≤ 1048576 ∧ ∀ y ∈ l, smSetting y)) := by
  have hl' : l.length ≤ 9223372036854775807 := by simpa only [maxLen] using hl
  unfold laws_szSettingS.f
  rw [wrap_id (by omega) (by omega)]
  by_cases h0 : a - (l.length : Int) < 0
  · rw [if_pos h0]; exact ⟨-1, rfl, .inl (by omega)⟩
  · rw [if_neg h0]
    have main : ∀ (d k i : Nat) (s : Int), i + d = l.length → 0 + d < k → 0 ≤ s → s ≤ a - l.length → ∃ r, laws_szSettingS.l0 k l s (i : Int) = some r ∧ (r < 0 ∨ (0 ≤ r ∧ r ≤ s ∧ ∀ y ∈ l.drop i, smSetting y)) := by
      intro d
      induction d with
      | zero =>
        intro k i s hi hk h0 h1
        obtain ⟨k, rfl⟩ : ∃ m, k = m + 1 := ⟨k - 1, by omega⟩
        obtain rfl : i = l.length := by omega
        simp only [laws_szSettingS.l0]
        rw [if_neg (nlt_cast _)]
        exact ⟨s, rfl, .inr ⟨h0, by omega, by simp⟩⟩
      | succ d ih =>
        intro k i s hi hk h0 h1
        obtain ⟨k, rfl⟩ : ∃ m, k = m + 1 := ⟨k - 1, by omega⟩
        have hlt : i < l.length := by omega
        simp only [laws_szSettingS.l0]
        rw [if_pos (lt_cast hlt), if_pos (nn_cast i), rd_lSetting hlt, wrap_succ hlt (by omega)]
        obtain ⟨r1, hr1, e1⟩ := szSetting_some (hg l[i] (List.getElem_mem hlt)) (a := s) (by omega) (by omega)
        rw [hr1]; simp only [Option.bind_some]
        by_cases h2 : r1 < 0
        · rw [if_pos h2]
          exact ⟨-1, rfl, .inl (by omega)⟩
        · rw [if_neg h2]
          have e1' := e1.resolve_left h2
          obtain ⟨r, hr, h3⟩ := ih k (i + 1) r1 (by omega) (by omega) (by omega) (by omega)
          refine ⟨r, hr, h3.imp id fun h3 => ⟨h3.1, by omega, ?_⟩⟩
          rw [drop_cons hlt]
          intro y hy
          rcases List.mem_cons.1 hy with rfl | hy
          · exact e1'.2.2
          · exact h3.2.2 y hy
    obtain ⟨r, hr, h⟩ := main l.length k 0 (a - l.length) (by omega) (by omega) (by omega) (by omega)
    refine ⟨r, hr, h.imp id fun h => ⟨h.1, by omega, by omega, ?_⟩⟩
    simpa using h.2.2
theorem toSetting_eq {x : S74} (hs : smSetting x) : laws_toSetting.f x.f0 x.f1 = some ((cSetting x).f0, (cSetting x).f1) := by
  unfold smSetting at hs
  unfold laws_toSetting.f
  rfl
theorem toSettingS_eq {l : List S74} (hl : l.length ≤ 1048576) (hs : ∀ y ∈ l, smSetting y) {k : Nat} (hk : 1048600 ≤ k) : laws_toSettingS.f k l = some (l.map cSetting) := by
  unfold laws_toSettingS.f
  rw [if_pos (nn_cast _), if_pos (by simp; omega)]
  refine set_loop (fun k acc i => laws_toSettingS.l0 k l acc i) l cSetting 0 (fun k i hi acc ha hB => ?_) (fun k acc => ?_) k _ (by omega) (by simp)
  · simp only [laws_toSettingS.l0]
    rw [if_pos (lt_cast hi), if_pos (nn_cast i), rd_lSetting hi, wrap_succ hi (by omega), toSetting_eq (hs _ (List.getElem_mem hi))]
    simp only [Option.bind_some]
    rw [if_pos (by omega)]
    rfl
  · simp only [laws_toSettingS.l0]
    rw [if_neg (nlt_cast _)]
def smiSetting (x : S80) : Prop := True
theorem smi_cSetting {x : S74} (hs : smSetting x) : smiSetting (cSetting x) := by
  unfold smSetting at hs
  unfold smiSetting
  trivial
theorem eqSetting_eq {a b : S80} (hs : smiSetting a) : laws_eqSetting.f a.f0 a.f1 b.f0 b.f1 = some (decide (a = b)) := by
  unfold smiSetting at hs
  unfold laws_eqSetting.f
  by_cases e0 : a.f0.toList = b.f0.toList
  rotate_left
  · rw [if_neg e0]; have hne : ¬ a = b := fun e => e0 (ext_iSetting.1 e).1; simp [hne]
  rw [if_pos e0]
  by_cases e1 : a.f1 = b.f1
  rotate_left
  · rw [if_neg e1]; have hne : ¬ a = b := fun e => e1 (ext_iSetting.1 e).2; simp [hne]
  rw [if_pos e1]
  rw [decide_eq_true (ext_iSetting.2 ⟨e0, e1⟩)]
theorem eqSettingS_eq {a b : List S80} (hl : a.length ≤ 1048576) (hs : ∀ y ∈ a, smiSetting y) {k : Nat} (hk : 1048600 ≤ k) : laws_eqSettingS.f k a b = some (decide (a = b)) := by
  unfold laws_eqSettingS.f
  by_cases h : a.length = b.length
  · rw [if_pos (by omega)]
    refine eq_loop (fun k i => laws_eqSettingS.l0 k a b i) a b h 0 (fun k i h1 h2 hB => ?_) (fun k => ?_) k (by omega)
    · simp only [laws_eqSettingS.l0]
      rw [if_pos (lt_cast h1), if_pos (nn_cast i), if_pos (lt_cast h2), rd_iSetting h1, rd_iSetting h2, wrap_succ h1 (by omega), eqSetting_eq (hs _ (List.getElem_mem h1))]
      simp only [Option.bind_some, decide_eq_true_eq]
    · simp only [laws_eqSettingS.l0]
      rw [if_neg (nlt_cast _)]
  · rw [if_neg (by omega)]
    have : a ≠ b := fun e => h (by rw [e])
    simp [this]
theorem ext_iTurn {a b : S127} : a = b ↔ a.f0.toList = b.f0.toList ∧ a.f1 = b.f1 ∧ a.f2 = b.f2 := by
  simp only [bytes_eq]; cases a; cases b; simp
instance : DecidableEq S127 := fun _ _ => decidable_of_iff _ ext_iTurn.symm
def mt (n : Int) : ByteArray := (laws_markText.f 100 n).getD ⟨#[]⟩
theorem strOf_one (x : Int) : (strOfNums [x]).size = 1 := rfl
theorem markText_some : ∀ (d k : Nat) (n : Int) (s : ByteArray), 0 ≤ n → n ≤ 9223372036854775807 → n < 10 ^ d → s.size + d ≤ 1000 → d < k → ∃ r, laws_markText.l0 k n s = some r := by
  intro d
  induction d with
  | zero =>
    intro k n s h0 hb h1 hs hk
    obtain ⟨k, rfl⟩ : ∃ m, k = m + 1 := ⟨k - 1, by omega⟩
    have : n = 0 := by simp at h1; omega
    subst this
    simp only [laws_markText.l0]
    rw [if_neg (by omega), if_pos (by omega)]
    exact ⟨_, rfl⟩
  | succ d ih =>
    intro k n s h0 hb h1 hs hk
    obtain ⟨k, rfl⟩ : ∃ m, k = m + 1 := ⟨k - 1, by omega⟩
    simp only [laws_markText.l0]
    by_cases h : n > 0
    · rw [if_pos h]
      simp only [Option.bind_some]
      rw [if_pos (by rw [strOf_one]; omega)]
      have e : wrap64 (n.tdiv 10) = n / 10 := by
        rw [Int.tdiv_eq_ediv_of_nonneg h0, wrap_id (by omega) (by omega)]
      rw [e]
      refine ih k _ _ (by omega) (by omega) ?_ ?_ (by omega)
      · have : (10 : Int) ^ (d + 1) = 10 ^ d * 10 := by rw [Int.pow_succ]
        rw [this] at h1
        exact Int.ediv_lt_of_lt_mul (by omega) h1
      · rw [ByteArray.size_append, strOf_one]; omega
    · rw [if_neg h, if_pos (by omega)]
      exact ⟨_, rfl⟩
theorem markText_eq {n : Int} (h0 : 0 ≤ n) (h : n ≤ 1073741824) {k : Nat} (hk : 100 ≤ k) : laws_markText.f k n = some (mt n) := by
  have hs : ∃ r, laws_markText.f 100 n = some r := by
    unfold laws_markText.f
    by_cases h1 : n ≤ 0
    · rw [if_pos h1]; exact ⟨_, rfl⟩
    · rw [if_neg h1]
      exact markText_some 12 100 n _ h0 (by omega) (by omega) (by decide) (by omega)
  obtain ⟨r, hr⟩ := hs
  have := at_rounds (fun k => laws_markText.mono n k) hk hr
  rw [this]
  unfold mt
  rw [hr]; rfl
theorem rdm_iSetting {pre rest : List S80} {x : S80} : rd_T80 (pre ++ x :: rest) (pre.length : Int) = x := by simp [rd_T80]
def mkSettingS (l : List S80) (m : Int) : List S80 := mkl (fun (_ : S80) m => (⟨mt (m), m + 1⟩ : S80)) (fun _ => 2) l m
theorem markSettingS_eq {l : List S80} {m : Int} (hm : 0 ≤ m) (hb : m + 2 * l.length ≤ 1073741824) {k : Nat} (hk : 200 + l.length ≤ k) : laws_markSettingS.f k l m = some (m + 2 * l.length, mkSettingS l m) := by
  unfold laws_markSettingS.f mkSettingS
  have h := mark_loop (fun k l m i => laws_markSettingS.l0 k l m i) (fun (_ : S80) m => (⟨mt (m), m + 1⟩ : S80)) (fun _ => 2) 1073741824 100 (fun _ => by omega) (fun k pre x rest m hB hp hm hM => ?_) (fun k l m => ?_) k l m (by omega) (by omega) hm (by rw [mtot_const]; omega)
  · rw [mtot_const] at h
    exact h
  · simp only [laws_markSettingS.l0]
    have w1 : wrap64 (m + 1) = m + 1 := wrap_id (by omega) (by omega)
    have w2 : wrap64 ((m + 1) + 1) = m + 1 + 1 := wrap_id (by omega) (by omega)
    have t0 := fun k (hB : 100 ≤ k) => markText_eq (n := m) (by omega) (by omega) hB
    rw [if_pos (by simp; omega)]
    simp only [Option.bind_some, w1, w2, t0 _ hB]
    (try rw [if_pos (nn_cast _)])
    simp only [Option.bind_some, rdm_iSetting, set_mid, w1, w2, t0 _ hB]
    (try rw [if_pos (nn_cast _)])
    (try simp only [Option.bind_some, rdm_iSetting, set_mid, w1, w2])
    rw [wrap_succ (i := pre.length) (n := pre.length + 1) (by omega) (by omega), show m + (2 : Int) = m + 1 + 1 from by omega]
  · simp only [laws_markSettingS.l0]
    rw [if_neg (nlt_cast _)]
theorem heldSettingS_mk {l : List S80} {m0 : Int} (hm : 0 ≤ m0) (hb : m0 + 2 * l.length ≤ 1073741824) {k : Nat} (hk : 200 + l.length ≤ k) : laws_heldSettingS.f k (mkSettingS l m0) m0 = some (m0 + 2 * l.length) := by
  unfold laws_heldSettingS.f
  have h := held_loop (fun k m i => laws_heldSettingS.l0 k (mkSettingS l m0) m i) (fun (_ : S80) m => (⟨mt (m), m + 1⟩ : S80)) (fun _ => 2) 1073741824 100 (fun _ => by omega) (mkSettingS l m0) (fun k pre x rest m he hB hp hm hM => ?_) (fun k m => ?_) k l m0 rfl (by omega) (by omega) hm (by rw [mtot_const]; omega)
  · rw [mtot_const] at h
    exact h
  · simp only [laws_heldSettingS.l0]
    have w1 : wrap64 (m + 1) = m + 1 := wrap_id (by omega) (by omega)
    have w2 : wrap64 ((m + 1) + 1) = m + 1 + 1 := wrap_id (by omega) (by omega)
    have t0 := fun k (hB : 100 ≤ k) => markText_eq (n := m) (by omega) (by omega) hB
    rw [if_pos (by rw [he]; simp; omega), if_pos (nn_cast _)]
    simp only [he, rdm_iSetting, Option.bind_some, w1, w2, t0 _ hB, if_true]
    rw [wrap_succ (i := pre.length) (n := pre.length + 1) (by omega) (by omega), show m + (2 : Int) = m + 1 + 1 from by omega]
  · simp only [laws_heldSettingS.l0]
    rw [if_neg (nlt_cast _)]
end Go.Proofs.Ytocegmkifmdlcaa.P

namespace Go.Proofs.Ytocegmkifmdlcaa.P
open Go.RowKit Go.Proofs.YtocegmkifmdlcaaW.PrintWords Go.Proofs.YtocegmkifmdlcaaL

def settingB (x : S80) : Bool := nameB x.f0 && (decide (0 ≤ x.f1) && decide (x.f1 ≤ 1000))
def stateAt (l : List S80) (i : Nat) : Bool := settingB (rd_T80 l (i : Int)) && (decide (i = 0) || Op.bytesLess (rd_T80 l ((i - 1 : Nat) : Int)).f0.toList (rd_T80 l (i : Int)).f0.toList)
def stateB (l : List S80) : Bool := (List.range l.length).all (stateAt l) && decide (l.length ≤ 24)

theorem l27Setting_e_eq (l : List S80) (i : Int) {k : Nat} (hk : 20 ≤ k) : spec_l27Setting_e.f k l i = some (settingB (rd_T80 l i)) := by
  unfold spec_l27Setting_e.f settingB
  rw [l01Name_eq _ hk]; simp only [Option.bind_some, in_eq]
  by_cases h : nameB (rd_T80 l i).f0 = true
  · rw [if_pos h]; simp [h]
  · rw [if_neg h]; simp [h]
theorem Setting_valid_eq (x : S80) {k : Nat} (hk : 20 ≤ k) : impl_Setting_valid.f k x.f0 x.f1 = some (settingB x) := by
  unfold impl_Setting_valid.f settingB
  rw [IsName_eq _ hk]; simp only [Option.bind_some, within_eq]
  by_cases h : nameB x.f0 = true
  · rw [if_pos h]; simp [h]
  · rw [if_neg h]; simp [h]

theorem l27State_eq {l : List S80} (hl : l.length ≤ 1048576) {k : Nat} (hk : 1048600 ≤ k) : spec_l27State.f k l = some (stateB l) := by
  unfold spec_l27State.f stateB
  refine all_loop (fun k i => spec_l27State.l0 k l i) l.length (stateAt l) (decide (l.length ≤ 24)) 20 (fun k i hi hB => ?_) (fun k _ => ?_) k (by omega)
  · simp only [spec_l27State.l0]
    rw [if_pos (lt_cast hi), if_pos (nn_cast i), l27Setting_e_eq _ _ hB, wrap_succ hi (by omega)]
    simp only [Option.bind_some, stateAt]
    by_cases h : settingB (rd_T80 l (i : Int)) = true
    · rw [if_pos h]
      by_cases h0 : i = 0
      · rw [if_neg (by omega)]; simp only [h, decide_eq_true h0, Bool.true_or, Bool.and_self, if_true]
      · rw [if_pos (by omega), pred_cast (by omega) hi (by omega), if_pos (nn_cast _), if_pos (by omega)]
        simp [h, h0]
    · rw [if_neg h]; simp [h]
  · simp only [spec_l27State.l0]
    rw [if_neg (nlt_cast _)]
    congr 2
    exact propext (by omega)
theorem ValidState_eq {l : List S80} (hl : l.length ≤ 1048576) {k : Nat} (hk : 1048600 ≤ k) : impl_ValidState.f k l = some (stateB l) := by
  unfold impl_ValidState.f stateB
  by_cases h24 : (l.length : Int) > 24
  · rw [if_pos h24]
    have : ¬ l.length ≤ 24 := by omega
    simp [this]
  · rw [if_neg h24]
    have h24' : l.length ≤ 24 := by omega
    rw [decide_eq_true h24']
    refine all_loop (fun k i => impl_ValidState.l0 k l l (l.length : Int) i) l.length (stateAt l) true 20 (fun k i hi hB => ?_) (fun k _ => ?_) k (by omega)
    · simp only [impl_ValidState.l0]
      rw [if_pos (lt_cast hi), if_pos (nn_cast i), if_pos (lt_cast hi), Setting_valid_eq _ hB, wrap_succ hi (by omega)]
      simp only [Option.bind_some, stateAt]
      by_cases h : settingB (rd_T80 l (i : Int)) = true
      · rw [if_pos h]
        by_cases h0 : i = 0
        · rw [if_neg (by omega)]; simp only [h, decide_eq_true h0, Bool.true_or, Bool.and_self, if_true]
        · rw [if_pos (by omega), pred_cast (by omega) hi (by omega), if_pos (nn_cast _), if_pos (by omega)]
          simp [h, h0]
      · rw [if_neg h]; simp [h]
    · simp only [impl_ValidState.l0]
      rw [if_neg (nlt_cast _)]
end Go.Proofs.Ytocegmkifmdlcaa.P

namespace Go.Proofs.Ytocegmkifmdlcaa.P
open Go.RowKit Go.Proofs.YtocegmkifmdlcaaW.PrintWords Go.Proofs.YtocegmkifmdlcaaL
theorem Ev.le {α : Type} {g : Nat → Option α} {r : α} (K : Nat) (h : ∀ k, K ≤ k → g k = some r) : Ev g r := ⟨K, h⟩
theorem Ev.yes {α : Type} {c : Nat → Option Bool} {f : Nat → Option α} {r : α} (h : Ev c true) (k : Ev f r) : Ev (fun n => if c n = some true then f n else none) r := by
  obtain ⟨K, hK⟩ := h
  obtain ⟨K', hK'⟩ := k
  exact ⟨max K K', fun n hn => by
    show (if c n = some true then f n else none) = some r
    rw [if_pos (hK n (by omega))]; exact hK' n (by omega)⟩
theorem Ev.pos {α : Type} {c : Prop} [Decidable c] {f g : Nat → Option α} {r : α} (h : c) (k : Ev f r) : Ev (fun n => if c then f n else g n) r := Ev.congr (fun _ => if_pos h) k
theorem Ev.neg {α : Type} {c : Prop} [Decidable c] {f g : Nat → Option α} {r : α} (h : ¬ c) (k : Ev g r) : Ev (fun n => if c then f n else g n) r := Ev.congr (fun _ => if_neg h) k
end Go.Proofs.Ytocegmkifmdlcaa.P

namespace Go.Proofs.Ytocegmkifmdlcaa.P
open Go.RowKit Go.Proofs.YtocegmkifmdlcaaW.PrintWords Go.Proofs.YtocegmkifmdlcaaL
theorem rd_set27 {l : List S80} {i : Nat} (h : i < l.length) : rd_T80 l (i : Int) = l[i] := by simp [rd_T80, List.getD_eq_getElem?_getD, List.getElem?_eq_getElem h]
def at27 (nm : ByteArray) : Nat → List S80 → Int
  | _, [] => -1
  | n, x :: r => if x.f0.toList = nm.toList then (n : Int) else at27 nm (n + 1) r
def val27 (nm : ByteArray) : List S80 → Int × Bool
  | [] => (0, false)
  | x :: r => if x.f0.toList = nm.toList then (x.f1, true) else val27 nm r
theorem at27_ev {l : List S80} (hl : l.length ≤ 1048576) (nm : ByteArray) : Ev (fun k => spec_l27At.f k l nm) (at27 nm 0 l) := by
  unfold spec_l27At.f
  have main : ∀ (d i : Nat), i + d = l.length → Ev (fun k => spec_l27At.l0 k l nm (i : Int)) (at27 nm i (l.drop i)) := by
    intro d
    induction d with
    | zero =>
      intro i hi
      obtain rfl : i = l.length := by omega
      refine Ev.step (f := fun _ => some (-1)) (fun k => ?_) ?_
      · simp only [spec_l27At.l0]; rw [if_neg (nlt_cast _)]
      · rw [List.drop_length]; exact Ev.now _
    | succ d ih =>
      intro i hi
      have hlt : i < l.length := by omega
      rw [drop_cons hlt, at27]
      by_cases h1 : l[i].f0.toList = nm.toList
      · rw [if_pos h1]
        refine Ev.step (f := fun _ => some (i : Int)) (fun k => ?_) (Ev.now _)
        simp only [spec_l27At.l0]
        rw [if_pos (lt_cast hlt), if_pos (nn_cast i), rd_set27 hlt, if_pos h1]
      · rw [if_neg h1]
        refine Ev.step (fun k => ?_) (ih (i + 1) (by omega))
        simp only [spec_l27At.l0]
        rw [if_pos (lt_cast hlt), if_pos (nn_cast i), rd_set27 hlt, if_neg h1, wrap_succ hlt (by omega)]
  have := main l.length 0 (by omega)
  simpa using this
theorem val27_ev {l : List S80} (hl : l.length ≤ 1048576) (nm : ByteArray) : Ev (fun k => impl_valueAt.f k l nm) (val27 nm l) := by
  unfold impl_valueAt.f
  have main : ∀ (d i : Nat), i + d = l.length → Ev (fun k => impl_valueAt.l0 k nm l (l.length : Int) (i : Int)) (val27 nm (l.drop i)) := by
    intro d
    induction d with
    | zero =>
      intro i hi
      obtain rfl : i = l.length := by omega
      refine Ev.step (f := fun _ => some (0, false)) (fun k => ?_) ?_
      · simp only [impl_valueAt.l0]; rw [if_neg (nlt_cast _)]
      · rw [List.drop_length]; exact Ev.now _
    | succ d ih =>
      intro i hi
      have hlt : i < l.length := by omega
      rw [drop_cons hlt, val27]
      by_cases h1 : l[i].f0.toList = nm.toList
      · rw [if_pos h1]
        refine Ev.step (f := fun _ => some (l[i].f1, true)) (fun k => ?_) (Ev.now _)
        simp only [impl_valueAt.l0]
        rw [if_pos (lt_cast hlt), if_pos (nn_cast i), if_pos (lt_cast hlt), rd_set27 hlt, if_pos h1]
      · rw [if_neg h1]
        refine Ev.step (fun k => ?_) (ih (i + 1) (by omega))
        simp only [impl_valueAt.l0]
        rw [if_pos (lt_cast hlt), if_pos (nn_cast i), if_pos (lt_cast hlt), rd_set27 hlt, if_neg h1, wrap_succ hlt (by omega)]
  have := main l.length 0 (by omega)
  simpa using this
theorem at27_cases (nm : ByteArray) : ∀ (l : List S80) (n : Nat), (at27 nm n l = -1 ∧ val27 nm l = (0, false) ∧ ∀ x ∈ l, x.f0.toList ≠ nm.toList) ∨ ∃ (j : Nat) (h : j < l.length), at27 nm n l = ((n + j : Nat) : Int) ∧ val27 nm l = (l[j].f1, true) ∧ l[j].f0.toList = nm.toList
  | [], n => .inl ⟨rfl, rfl, by simp⟩
  | x :: r, n => by
    by_cases h : x.f0.toList = nm.toList
    · exact .inr ⟨0, by simp, by rw [at27, if_pos h]; rfl, by rw [val27, if_pos h]; rfl, h⟩
    · rcases at27_cases nm r (n + 1) with ⟨h1, h2, h3⟩ | ⟨j, hj, h1, h2, h3⟩
      · refine .inl ⟨by rw [at27, if_neg h]; exact h1, by rw [val27, if_neg h]; exact h2, fun y hy => ?_⟩
        rcases List.mem_cons.1 hy with e | hy
        · subst e; exact h
        · exact h3 y hy
      · exact .inr ⟨j + 1, by simp; omega, by rw [at27, if_neg h, h1]; congr 1; omega, by rw [val27, if_neg h, h2]; rfl, h3⟩
theorem State_spec_ev {l : List S80} (hl : l.length ≤ 1048576) : Ev (fun k => spec_l27State.f k l) (stateB l) := Ev.le 1048600 (fun k hk => l27State_eq hl hk)
theorem State_impl_ev {l : List S80} (hl : l.length ≤ 1048576) : Ev (fun k => impl_ValidState.f k l) (stateB l) := Ev.le 1048600 (fun k hk => ValidState_eq hl hk)
theorem state_len {l : List S80} (h : stateB l = true) : l.length ≤ 24 := by
  unfold stateB at h; simp only [Bool.and_eq_true, decide_eq_true_iff] at h; exact h.2
end Go.Proofs.Ytocegmkifmdlcaa.P

namespace Go.Proofs.Ytocegmkifmdlcaa.P
open Go.RowKit Go.Sort Go.Proofs.YtocegmkifmdlcaaW.PrintWords
def ltB (a b : ByteArray) : Bool := Op.bytesLess a.toList b.toList
theorem bytesLess_eq' : ∀ (x y : List UInt8), Op.bytesLess x y = decide (x < y)
  | [], [] => by simp [Op.bytesLess]
  | _ :: _, [] => by simp [Op.bytesLess]
  | [], _ :: _ => by simp [Op.bytesLess]
  | a :: x, b :: y => by
    rw [Op.bytesLess, bytesLess_eq' x y]
    simp only [List.cons_lt_cons_iff]
    by_cases h1 : a < b <;> by_cases h2 : a = b <;> by_cases h3 : x < y <;> simp [h1, h2, h3]
theorem toList_data' (b : ByteArray) : b.toList = b.data.toList := by simp [ByteArray.toList_eq]
theorem ltB_iff {a b : ByteArray} : ltB a b = true ↔ a.data.toList < b.data.toList := by
  unfold ltB; rw [bytesLess_eq', toList_data', toList_data']; simp
theorem ba_ext {a b : ByteArray} : a.data.toList = b.data.toList ↔ a = b := by
  rw [← toList_data', ← toList_data']
  constructor
  · intro h
    have h2 : a.data.toList = b.data.toList := by rw [← toList_data', ← toList_data']; exact h
    have h3 : a.data = b.data := Array.ext' h2
    cases a; cases b; simp at h3; rw [h3]
  · intro h; rw [h]
theorem ltB_irrefl (a : ByteArray) : ¬ ltB a a = true := by rw [ltB_iff]; exact List.lt_irrefl _
theorem ltB_trans {a b c : ByteArray} (h : ltB a b = true) (h2 : ltB b c = true) : ltB a c = true := by rw [ltB_iff] at *; exact List.lt_trans h h2
theorem lt_of_le_ne {a b : List UInt8} (h : a ≤ b) (hne : a ≠ b) : a < b := Classical.byContradiction fun hn => hne (List.le_antisymm h (List.not_lt.1 hn))
theorem ltB_total {a b : ByteArray} (h : ¬ ltB a b = true) (hne : a ≠ b) : ltB b a = true := by
  rw [ltB_iff] at *
  rcases List.le_total a.data.toList b.data.toList with h1 | h1
  · exact absurd (lt_of_le_ne h1 (fun e => hne (ba_ext.1 e))) h
  · exact lt_of_le_ne h1 (fun e => hne (ba_ext.1 e).symm)
/-- Ascending, nothing twice. -/
def Asc (l : List ByteArray) : Prop := l.Pairwise fun a b => ltB a b = true
theorem asc_ext : ∀ {a b : List ByteArray}, Asc a → Asc b → (∀ x, x ∈ a ↔ x ∈ b) → a = b
  | [], [], _, _, _ => rfl
  | [], y :: _, _, _, h => absurd ((h y).2 List.mem_cons_self) (by simp)
  | x :: _, [], _, _, h => absurd ((h x).1 List.mem_cons_self) (by simp)
  | x :: r, y :: s, ha, hb, h => by
    obtain ⟨hx, hr⟩ := List.pairwise_cons.1 ha
    obtain ⟨hy, hs⟩ := List.pairwise_cons.1 hb
    have e : x = y := by
      have h1 := (h x).1 List.mem_cons_self
      have h2 := (h y).2 List.mem_cons_self
      rcases List.mem_cons.1 h1 with e | h1
      · exact e
      rcases List.mem_cons.1 h2 with e | h2
      · exact e.symm
      exact absurd (ltB_trans (hx y h2) (hy x h1)) (ltB_irrefl x)
    subst e
    congr 1
    refine asc_ext hr hs fun z => ⟨fun hz => ?_, fun hz => ?_⟩
    · rcases List.mem_cons.1 ((h z).1 (List.mem_cons_of_mem _ hz)) with e | h'
      · subst e; exact absurd (hx z hz) (ltB_irrefl z)
      · exact h'
    · rcases List.mem_cons.1 ((h z).2 (List.mem_cons_of_mem _ hz)) with e | h'
      · subst e; exact absurd (hy z hz) (ltB_irrefl z)
      · exact h'
/-- The reference's putting: what is less, the name, what is greater. -/
def putG (x : ByteArray) : List ByteArray → Bool → List ByteArray
  | [], d => if d = true then [] else [x]
  | y :: r, d => (if (!d && !ltB y x) = true then [x] else []) ++ ((if y.toList = x.toList then [] else [y]) ++ putG x r (d || !ltB y x))
theorem putG_true (x : ByteArray) : ∀ l, putG x l true = l.filter fun y => decide (y.toList ≠ x.toList)
  | [] => by simp [putG]
  | y :: r => by
    rw [putG, Bool.true_or, putG_true x r]
    by_cases h : y.toList = x.toList <;> simp [h]
theorem toList_iff {a b : ByteArray} : a.toList = b.toList ↔ a = b := by rw [toList_data', toList_data']; exact ba_ext
theorem mem_putG (x : ByteArray) : ∀ l z, z ∈ putG x l false ↔ z = x ∨ z ∈ l
  | [], z => by simp [putG]
  | y :: r, z => by
    rw [putG]
    by_cases h : ltB y x = true
    · have hne : ¬ y.toList = x.toList := fun e => ltB_irrefl x (by rw [toList_iff] at e; rwa [e] at h)
      simp only [h, Bool.not_true, Bool.and_false, Bool.false_eq_true, if_false, List.nil_append, if_neg hne, Bool.or_false, List.singleton_append, List.mem_cons, mem_putG x r z]
      constructor
      · rintro (h | h | h) <;> simp [h]
      · rintro (h | h | h) <;> simp [h]
    · rw [Bool.not_eq_true] at h
      simp only [h, Bool.not_false, Bool.and_self, if_true, Bool.or_true, putG_true]
      by_cases e : y.toList = x.toList
      · have e' := toList_iff.1 e
        subst e'
        simp only [if_true, List.nil_append, List.singleton_append, List.mem_cons, List.mem_filter, decide_eq_true_iff]
        constructor
        · rintro (h | h); exact .inl h; exact .inr (.inr h.1)
        · rintro (h | h | h)
          · exact .inl h
          · exact .inl h
          · by_cases e2 : z = y
            · exact .inl e2
            · exact .inr ⟨h, fun e3 => e2 (toList_iff.1 e3)⟩
      · simp only [if_neg e, List.singleton_append, List.mem_cons, List.mem_filter, decide_eq_true_iff]
        constructor
        · rintro (h | h | h); exact .inl h; exact .inr (.inl h); exact .inr (.inr h.1)
        · rintro (h | h | h)
          · exact .inl h
          · exact .inr (.inl h)
          · by_cases e2 : z = x
            · exact .inl e2
            · exact .inr (.inr ⟨h, fun e3 => e2 (toList_iff.1 e3)⟩)
theorem asc_putG (x : ByteArray) : ∀ {l}, Asc l → Asc (putG x l false)
  | [], _ => by simp [putG, Asc]
  | y :: r, ha => by
    obtain ⟨hy, hr⟩ := List.pairwise_cons.1 ha
    rw [putG]
    by_cases h : ltB y x = true
    · have hne : ¬ y.toList = x.toList := fun e => ltB_irrefl x (by rw [toList_iff] at e; rwa [e] at h)
      simp only [h, Bool.not_true, Bool.and_false, Bool.false_eq_true, if_false, List.nil_append, if_neg hne, Bool.or_false, List.singleton_append]
      refine List.pairwise_cons.2 ⟨fun z hz => ?_, asc_putG x hr⟩
      rcases (mem_putG x r z).1 hz with e | hz
      · rw [e]; exact h
      · exact hy z hz
    · have h' := h
      rw [Bool.not_eq_true] at h'
      simp only [h', Bool.not_false, Bool.and_self, if_true, Bool.or_true, putG_true]
      have hf : Asc (r.filter fun z => decide (z.toList ≠ x.toList)) := List.Pairwise.filter _ hr
      by_cases e : y.toList = x.toList
      · have e' := toList_iff.1 e
        subst e'
        simp only [if_true, List.nil_append, List.singleton_append]
        exact List.pairwise_cons.2 ⟨fun z hz => hy z (List.mem_filter.1 hz).1, hf⟩
      · have hxy : ltB x y = true := ltB_total h (fun e2 => e (toList_iff.2 e2))
        simp only [if_neg e, List.singleton_append]
        refine List.pairwise_cons.2 ⟨fun z hz => ?_, List.pairwise_cons.2 ⟨fun z hz => hy z (List.mem_filter.1 hz).1, hf⟩⟩
        rcases List.mem_cons.1 hz with e2 | hz
        · rw [e2]; exact hxy
        · exact ltB_trans hxy (hy z (List.mem_filter.1 hz).1)
theorem putG_length (x : ByteArray) : ∀ l d, (putG x l d).length ≤ l.length + 1
  | [], d => by rw [putG]; split <;> simp
  | y :: r, d => by
    rw [putG]
    cases d with
    | true =>
      have := putG_length x r true
      simp only [Bool.not_true, Bool.false_and, Bool.false_eq_true, if_false, List.nil_append, Bool.true_or, List.length_append, List.length_cons]
      split <;> simp <;> omega
    | false =>
      by_cases h : ltB y x = true
      · have := putG_length x r false
        simp only [h, Bool.not_true, Bool.and_false, Bool.false_eq_true, if_false, List.nil_append, Bool.or_false, List.length_append, List.length_cons]
        split <;> simp <;> omega
      · rw [Bool.not_eq_true] at h
        have h1 := List.length_filter_le (fun z => decide (z.toList ≠ x.toList)) r
        simp only [h, Bool.not_false, Bool.and_self, if_true, Bool.or_true, putG_true, List.length_append, List.length_cons]
        split <;> simp at h1 ⊢ <;> omega
/-- All of a list put, one behind the other. -/
def puts (l acc : List ByteArray) : List ByteArray := l.foldl (fun a x => putG x a false) acc
theorem asc_puts : ∀ (l : List ByteArray) {acc}, Asc acc → Asc (puts l acc)
  | [], _, h => h
  | x :: r, _, h => asc_puts r (asc_putG x h)
theorem mem_puts : ∀ (l : List ByteArray) (acc : List ByteArray) (z : ByteArray), z ∈ puts l acc ↔ z ∈ l ∨ z ∈ acc
  | [], acc, z => by simp [puts]
  | x :: r, acc, z => by
    show z ∈ puts r (putG x acc false) ↔ _
    rw [mem_puts r, mem_putG, List.mem_cons]
    constructor
    · rintro (h | h | h) <;> simp [h]
    · rintro ((h | h) | h) <;> simp [h]
theorem puts_length : ∀ (l acc : List ByteArray), (puts l acc).length ≤ l.length + acc.length
  | [], acc => by simp [puts]
  | x :: r, acc => by
    have h1 := puts_length r (putG x acc false)
    have h2 := putG_length x acc false
    show (puts r (putG x acc false)).length ≤ _
    rw [List.length_cons]; omega
theorem compactUpTo_mem {α : Type} [Inhabited α] [DecidableEq α] (d : Array α) : ∀ (m : Nat) (x : α), x ∈ Lib.compactUpTo d m ↔ ∃ j, j < m ∧ d[j]! = x
  | 0, x => by simp [Lib.compactUpTo]
  | m + 1, x => by
    rw [Lib.compactUpTo_succ, List.mem_append, compactUpTo_mem d m x]
    by_cases hk : Lib.keeps d m = true
    · rw [if_pos hk, List.mem_singleton]
      constructor
      · rintro (⟨j, hj, e⟩ | e)
        · exact ⟨j, by omega, e⟩
        · exact ⟨m, by omega, e.symm⟩
      · rintro ⟨j, hj, e⟩
        by_cases h : j = m
        · subst h; exact .inr e.symm
        · exact .inl ⟨j, by omega, e⟩
    · rw [if_neg hk]
      have hm : m ≠ 0 ∧ d[m]! = d[m - 1]! := by
        unfold Lib.keeps at hk
        simp only [decide_eq_true_iff, not_or, Classical.not_not] at hk
        exact hk
      constructor
      · rintro (⟨j, hj, e⟩ | e)
        · exact ⟨j, by omega, e⟩
        · simp at e
      · rintro ⟨j, hj, e⟩
        by_cases h : j = m
        · subst h; exact .inl ⟨j - 1, by omega, by rw [← hm.2]; exact e⟩
        · exact .inl ⟨j, by omega, e⟩
theorem compactUpTo_asc (d : Array (List UInt8)) (hs : ∀ i j, i ≤ j → j < d.size → d[i]! ≤ d[j]!) : ∀ m, m ≤ d.size → (Lib.compactUpTo d m).Pairwise (fun a b => a < b)
  | 0, _ => by simp [Lib.compactUpTo]
  | m + 1, hm => by
    rw [Lib.compactUpTo_succ]
    have ih := compactUpTo_asc d hs m (by omega)
    by_cases hk : Lib.keeps d m = true
    · rw [if_pos hk]
      refine List.pairwise_append.2 ⟨ih, by simp, fun a ha b hb => ?_⟩
      rw [List.mem_singleton] at hb; subst hb
      obtain ⟨j, hj, rfl⟩ := (compactUpTo_mem d m a).1 ha
      have h2 : d[m]! ≠ d[m - 1]! := by
        unfold Lib.keeps at hk
        rcases of_decide_eq_true hk with h | h
        · omega
        · exact h
      have h3 : d[m - 1]! < d[m]! := lt_of_le_ne (hs _ _ (by omega) (by omega)) (fun e => h2 e.symm)
      exact List.lt_of_le_of_lt (hs j (m - 1) (by omega) (by omega)) h3
    · rw [if_neg hk, List.append_nil]; exact ih
theorem unS_mkS (l : List (List UInt8)) : unS (mkS l) = l := by
  unfold unS mkS; rw [List.map_map]; exact (List.map_congr_left (fun _ _ => rfl)).trans (List.map_id l)
theorem compactSort_eq (l : List ByteArray) : compactS (sortS l) = puts l [] := by
  have hsp := List.pairwise_mergeSort (le := fun x y : List UInt8 => decide (x ≤ y)) (fun a b c h1 h2 => by simp at *; exact List.le_trans h1 h2) (fun a b => by simp; exact List.le_total a b) (unS l)
  have hpm := List.mergeSort_perm (unS l) (fun x y : List UInt8 => decide (x ≤ y))
  unfold compactS sortS
  rw [unS_mkS]
  generalize hz : (unS l).mergeSort (fun x y : List UInt8 => decide (x ≤ y)) = zs at hsp hpm ⊢
  have hs : ∀ i j, i ≤ j → j < zs.toArray.size → zs.toArray[i]! ≤ zs.toArray[j]! := by
    intro i j hij hj
    have hj' : j < zs.length := by simpa using hj
    rw [getElem!_pos _ i (by simp; omega), getElem!_pos _ j (by simpa using hj')]
    simp only [List.getElem_toArray]
    by_cases e : i = j
    · subst e; exact List.le_refl _
    · simpa using List.pairwise_iff_getElem.1 hsp i j (by omega) hj' (by omega)
  refine asc_ext ?_ (asc_puts l (by simp [Asc])) (fun x => ?_)
  · unfold Lib.compact mkS Asc
    rw [List.pairwise_map]
    refine (compactUpTo_asc zs.toArray hs zs.length (by simp)).imp fun {a b} h => ?_
    rw [ltB_iff]; simpa using h
  · rw [mem_puts]
    unfold Lib.compact mkS
    simp only [List.mem_map, compactUpTo_mem, List.not_mem_nil, or_false]
    constructor
    · rintro ⟨_, ⟨j, hj, rfl⟩, rfl⟩
      rw [getElem!_pos _ j (by simpa using hj)]
      have h1 : zs[j] ∈ unS l := hpm.mem_iff.1 (List.getElem_mem hj)
      unfold unS at h1
      obtain ⟨b, hb, e⟩ := List.mem_map.1 h1
      have : (⟨(zs.toArray[j]'(by simpa using hj)).toArray⟩ : ByteArray) = b := by
        simp only [List.getElem_toArray, ← e]
      rw [this]; exact hb
    · intro hx
      have h1 : x.data.toList ∈ zs := hpm.mem_iff.2 (List.mem_map.2 ⟨x, hx, rfl⟩)
      obtain ⟨j, hj, e⟩ := List.getElem_of_mem h1
      refine ⟨x.data.toList, ⟨j, hj, ?_⟩, rfl⟩
      rw [getElem!_pos _ j (by simpa using hj)]
      simpa using e
end Go.Proofs.Ytocegmkifmdlcaa.P

namespace Go.Proofs.Ytocegmkifmdlcaa.P
open Go.RowKit Go.Proofs.YtocegmkifmdlcaaW.PrintWords Go.Proofs.YtocegmkifmdlcaaL
def setG (n : ByteArray) (v : Int) : List S80 → Bool → List S80
  | [], d => if d = true then [] else [⟨n, v⟩]
  | y :: r, d => (if (!d && !ltB y.f0 n) = true then [⟨n, v⟩] else []) ++ ((if y.f0.toList = n.toList then [] else [y]) ++ setG n v r (d || !ltB y.f0 n))
theorem setG_map (n : ByteArray) (v : Int) : ∀ l d, (setG n v l d).map (·.f0) = putG n (l.map (·.f0)) d
  | [], d => by cases d <;> rfl
  | y :: r, d => by
    rw [setG, List.map_cons, putG, List.map_append, List.map_append, setG_map n v r]
    congr 1
    · split <;> rfl
    · congr 1
      split <;> rfl
theorem set_main {l : List S80} (hl : l.length ≤ 1048576) (n : ByteArray) (v : Int) : ∀ (e i : Nat) (out : List S80) (d : Bool), i + e = l.length → out.length ≤ 2 * i → Ev (fun k => spec_l27Set.l0 k l out d (i : Int) n v) (out ++ setG n v (l.drop i) d) := by
  intro e
  induction e with
  | zero =>
    intro i out d hi ho
    obtain rfl : i = l.length := by omega
    rw [List.drop_length]
    cases d with
    | true => exact Ev.step (f := fun _ => some out) (fun k => by simp only [spec_l27Set.l0]; rw [if_neg (nlt_cast _), if_pos trivial]) (by simp only [setG, if_true, List.append_nil]; exact Ev.now _)
    | false => exact Ev.step (f := fun _ => some (out ++ [(⟨n, v⟩ : S80)])) (fun k => by simp only [spec_l27Set.l0]; rw [if_neg (nlt_cast _), if_neg (by decide), if_pos (by omega)]) (by simp only [setG, Bool.false_eq_true, if_false]; exact Ev.now _)
  | succ e ih =>
    intro i out d hi ho
    have hlt : i < l.length := by omega
    have hw := wrap_succ hlt (by omega)
    rw [drop_cons hlt, setG]
    have j1f : ∀ d', Ev (fun k => spec_l27Set.j1 k l out d' (i : Int) false n v) (out ++ ((if l[i].f0.toList = n.toList then [] else [l[i]]) ++ setG n v (l.drop (i + 1)) d')) := by
      intro d'
      by_cases he : l[i].f0.toList = n.toList
      · rw [if_pos he, List.nil_append]
        refine Ev.step (fun k => ?_) (ih (i + 1) out d' (by omega) (by omega))
        simp only [spec_l27Set.j1]
        rw [if_neg (by decide), if_pos (nn_cast i), if_pos (lt_cast hlt), rd_set27 hlt, if_pos he, hw]
      · rw [if_neg he]
        have := ih (i + 1) (out ++ [l[i]]) d' (by omega) (by simp; omega)
        rw [List.append_assoc] at this
        refine Ev.step (fun k => ?_) this
        simp only [spec_l27Set.j1]
        rw [if_neg (by decide), if_pos (nn_cast i), if_pos (lt_cast hlt), rd_set27 hlt, if_neg he, if_pos (by omega), hw]
    cases d with
    | true =>
      refine Ev.step (f := fun k => spec_l27Set.j1 k l out true (i : Int) false n v) (fun k => by simp only [spec_l27Set.l0]; rw [if_pos (lt_cast hlt), if_pos trivial]) ?_
      simpa using j1f true
    | false =>
      refine Ev.step (f := fun k => spec_l27Set.j1 k l out false (i : Int) (!(ltB l[i].f0 n)) n v) (fun k => by simp only [spec_l27Set.l0]; rw [if_pos (lt_cast hlt), if_neg (by decide), if_pos (nn_cast i), rd_set27 hlt]; rfl) ?_
      cases hb : ltB l[i].f0 n with
      | true => simpa using j1f false
      | false =>
        show Ev (fun k => spec_l27Set.j1 k l out false (i : Int) true n v) (out ++ ([⟨n, v⟩] ++ ((if l[i].f0.toList = n.toList then [] else [l[i]]) ++ setG n v (l.drop (i + 1)) true)))
        rw [← List.append_assoc]
        by_cases he : l[i].f0.toList = n.toList
        · rw [if_pos he, List.nil_append]
          refine Ev.step (fun k => ?_) (ih (i + 1) (out ++ [⟨n, v⟩]) true (by omega) (by simp; omega))
          simp only [spec_l27Set.j1]
          rw [if_pos trivial, if_pos (by omega), Option.bind_some, if_pos (nn_cast i), if_pos (lt_cast hlt), rd_set27 hlt, if_pos he, hw]
        · rw [if_neg he]
          have := ih (i + 1) (out ++ [⟨n, v⟩] ++ [l[i]]) true (by omega) (by simp; omega)
          rw [List.append_assoc (out ++ [(⟨n, v⟩ : S80)]) [l[i]]] at this
          refine Ev.step (fun k => ?_) this
          simp only [spec_l27Set.j1]
          rw [if_pos trivial, if_pos (by omega), Option.bind_some, if_pos (nn_cast i), if_pos (lt_cast hlt), rd_set27 hlt, if_neg he, if_pos (by simp; omega), hw]
theorem set_ev {l : List S80} (hl : l.length ≤ 1048576) (n : ByteArray) (v : Int) : Ev (fun k => spec_l27Set.f k l n v) (setG n v l false) := by
  have := set_main hl n v l.length 0 [] false (by omega) (by simp)
  rw [List.nil_append, List.drop_zero] at this
  exact this
def setAll (l acc : List S80) : List S80 := l.foldl (fun a x => setG x.f0 x.f1 a false) acc
theorem setAll_map : ∀ (l acc : List S80), (setAll l acc).map (·.f0) = puts (l.map (·.f0)) (acc.map (·.f0))
  | [], acc => rfl
  | x :: r, acc => by
    show (setAll r (setG x.f0 x.f1 acc false)).map (·.f0) = puts (r.map (·.f0)) (putG x.f0 (acc.map (·.f0)) false)
    rw [setAll_map r, setG_map]
theorem setAll_len : ∀ (l acc : List S80), (setAll l acc).length ≤ l.length + acc.length := fun l acc => by
  have h := congrArg List.length (setAll_map l acc)
  have h2 := puts_length (l.map (·.f0)) (acc.map (·.f0))
  simp only [List.length_map] at h h2
  omega
/-- A loop that puts all of a state, and goes on. -/
theorem names_row {l : List S80} (hl : l.length ≤ 1048576) {α : Type} {r : α} (L : Nat → List S80 → Int → Option α) (N : Nat → List S80 → Option α)
    (hstep : ∀ k x (i : Nat) (h : i < l.length), L (k + 1) x (i : Int) = (spec_l27Set.f k x (l[i]).f0 (l[i]).f1).bind fun t => L k t ((i + 1 : Nat) : Int))
    (hstop : ∀ k x, L (k + 1) x (l.length : Int) = N k x) : ∀ (e i : Nat) (acc : List S80), i + e = l.length → acc.length + e ≤ 1048576 → Ev (fun k => N k (setAll (l.drop i) acc)) r → Ev (fun k => L k acc (i : Int)) r := by
  intro e
  induction e with
  | zero =>
    intro i acc hi ha h
    obtain rfl : i = l.length := by omega
    rw [List.drop_length] at h
    exact Ev.step (fun k => hstop k acc) h
  | succ e ih =>
    intro i acc hi ha h
    have hlt : i < l.length := by omega
    rw [drop_cons hlt] at h
    refine Ev.step (fun k => hstep k acc i hlt) ?_
    refine Ev.bind (set_ev (by omega) _ _) ?_
    have h2 := setAll_len [l[i]] acc
    exact ih (i + 1) _ (by omega) (by show (setAll [l[i]] acc).length + e ≤ _; simp at h2; omega) h
def names3 (a b c : List S80) : List ByteArray := puts (c.map (·.f0)) (puts (b.map (·.f0)) (puts (a.map (·.f0)) []))
theorem names3_len (a b c : List S80) : (names3 a b c).length ≤ a.length + b.length + c.length := by
  have h1 := puts_length (c.map (·.f0)) (puts (b.map (·.f0)) (puts (a.map (·.f0)) []))
  have h2 := puts_length (b.map (·.f0)) (puts (a.map (·.f0)) [])
  have h3 := puts_length (a.map (·.f0)) []
  simp only [List.length_map, List.length_nil] at h1 h2 h3
  unfold names3; omega
theorem names_ev {a b c : List S80} (ha : a.length ≤ 24) (hb : b.length ≤ 24) (hc : c.length ≤ 24) : Ev (fun k => spec_l27Names.f k a b c) (names3 a b c) := by
  unfold spec_l27Names.f
  have l1 := setAll_len a []
  have l2 := setAll_len b (setAll a [])
  have l3 := setAll_len c (setAll b (setAll a []))
  simp only [List.length_nil] at l1
  have last : Ev (fun k => spec_l27Names.l3 k (setAll c (setAll b (setAll a []))) [] 0) (names3 a b c) := by
    have e : names3 a b c = (setAll c (setAll b (setAll a []))).map (·.f0) := by rw [setAll_map, setAll_map, setAll_map]; rfl
    rw [e]
    generalize setAll c (setAll b (setAll a [])) = l at l3
    have main : ∀ (e i : Nat) (out : List ByteArray), i + e = l.length → out.length = i → Ev (fun k => spec_l27Names.l3 k l out (i : Int)) (out ++ (l.drop i).map (·.f0)) := by
      intro e
      induction e with
      | zero =>
        intro i out hi ho
        obtain rfl : i = l.length := by omega
        rw [List.drop_length]
        exact Ev.step (f := fun _ => some out) (fun k => by simp only [spec_l27Names.l3]; rw [if_neg (nlt_cast _)]) (by simp only [List.map_nil, List.append_nil]; exact Ev.now _)
      | succ e ih =>
        intro i out hi ho
        have hlt : i < l.length := by omega
        rw [drop_cons hlt, List.map_cons]
        have := ih (i + 1) (out ++ [l[i].f0]) (by omega) (by simp; omega)
        rw [List.append_assoc] at this
        refine Ev.step (fun k => ?_) this
        simp only [spec_l27Names.l3]
        rw [if_pos (lt_cast hlt), if_pos (nn_cast i), if_pos (by omega), rd_set27 hlt, wrap_succ hlt (by omega)]
    have := main l.length 0 [] (by omega) rfl
    simpa using this
  refine names_row (l := a) (by omega) (fun k x i => spec_l27Names.l0 k a b c x i) (fun k x => spec_l27Names.l1 k b c x 0) (fun k x i hi => ?_) (fun k x => ?_) a.length 0 [] (by omega) (by simp; omega) ?_
  · simp only [spec_l27Names.l0]; rw [if_pos (lt_cast hi), if_pos (nn_cast i), rd_set27 hi, wrap_succ hi (by omega)]
  · simp only [spec_l27Names.l0]; rw [if_neg (nlt_cast _)]
  rw [List.drop_zero]
  refine names_row (l := b) (by omega) (fun k x i => spec_l27Names.l1 k b c x i) (fun k x => spec_l27Names.l2 k c x 0) (fun k x i hi => ?_) (fun k x => ?_) b.length 0 _ (by omega) (by omega) ?_
  · simp only [spec_l27Names.l1]; rw [if_pos (lt_cast hi), if_pos (nn_cast i), rd_set27 hi, wrap_succ hi (by omega)]
  · simp only [spec_l27Names.l1]; rw [if_neg (nlt_cast _)]
  rw [List.drop_zero]
  refine names_row (l := c) (by omega) (fun k x i => spec_l27Names.l2 k c x i) (fun k x => spec_l27Names.l3 k x [] 0) (fun k x i hi => ?_) (fun k x => ?_) c.length 0 _ (by omega) (by omega) ?_
  · simp only [spec_l27Names.l2]; rw [if_pos (lt_cast hi), if_pos (nn_cast i), rd_set27 hi, wrap_succ hi (by omega)]
  · simp only [spec_l27Names.l2]; rw [if_neg (nlt_cast _)]
  rw [List.drop_zero]
  exact last
theorem impl_names_ev {a b c : List S80} (ha : a.length ≤ 24) (hb : b.length ≤ 24) (hc : c.length ≤ 24) : Ev (fun k => impl_namesOf.f k [a, b, c]) (names3 a b c) := by
  unfold impl_namesOf.f
  have row : ∀ (l : List S80) (j : Int) (r : List ByteArray), l.length ≤ 24 → ∀ (e i : Nat) (x : List ByteArray), i + e = l.length → x.length + e ≤ 100 → Ev (fun k => impl_namesOf.l0 k (x ++ (l.drop i).map (·.f0)) [a, b, c] 3 (wrap64 (j + 1))) r → Ev (fun k => impl_namesOf.l1 k x [a, b, c] 3 j l (l.length : Int) (i : Int)) r := by
    intro l j r hl e
    induction e with
    | zero =>
      intro i x hi hx h
      obtain rfl : i = l.length := by omega
      rw [List.drop_length, List.map_nil, List.append_nil] at h
      exact Ev.step (fun k => by simp only [impl_namesOf.l1]; rw [if_neg (by omega)]) h
    | succ e ih =>
      intro i x hi hx h
      have hlt : i < l.length := by omega
      rw [drop_cons hlt, List.map_cons] at h
      refine Ev.step (fun k => ?_) (ih (i + 1) (x ++ [l[i].f0]) (by omega) (by simp; omega) (by rw [List.append_assoc]; exact h))
      simp only [impl_namesOf.l1]
      rw [if_pos (lt_cast hlt), if_pos (nn_cast i), if_pos (lt_cast hlt), if_pos (by omega), rd_set27 hlt, wrap_succ hlt (by omega)]
  have step : ∀ (j : Nat) (l : List S80) (x : List ByteArray) (r : List ByteArray), j < 3 → rd_L15 [a, b, c] (j : Int) = l → l.length ≤ 24 → x.length ≤ 24 * j → Ev (fun k => impl_namesOf.l0 k (x ++ l.map (·.f0)) [a, b, c] 3 ((j + 1 : Nat) : Int)) r → Ev (fun k => impl_namesOf.l0 k x [a, b, c] 3 (j : Int)) r := by
    intro j l x r hj hl h24 hx h
    refine Ev.step (f := fun k => impl_namesOf.l1 k x [a, b, c] 3 (j : Int) l (l.length : Int) 0) (fun k => ?_) ?_
    · simp only [impl_namesOf.l0]
      rw [if_pos (by omega), if_pos (by omega), if_pos (by simp; omega), hl]
    · refine row l (j : Int) r h24 l.length 0 x (by omega) (by omega) ?_
      rw [List.drop_zero, wrap_id (by omega) (by omega)]
      exact h
  refine step 0 a [] _ (by omega) rfl ha (by simp) ?_
  refine step 1 b _ _ (by omega) rfl hb (by simp; omega) ?_
  refine step 2 c _ _ (by omega) rfl hc (by simp; omega) ?_
  refine Ev.step (f := fun k => some (names3 a b c)) (fun k => ?_) (Ev.now _)
  simp only [impl_namesOf.l0]
  rw [if_neg (by omega)]
  unfold slices_Sort_S_string.f slices_Compact_S_string.f
  rw [if_pos (by simp; omega), Option.bind_some, Option.bind_some, compactSort_eq]
  unfold names3 puts
  rw [List.nil_append, List.foldl_append, List.foldl_append]
/-- What the reference gets: the name and the value, or nothing. -/
def get27 (l : List S80) (nm : ByteArray) : ByteArray × Int := if (val27 nm l).2 = true then (nm, (val27 nm l).1) else (⟨#[]⟩, 0)
theorem get_ev {l : List S80} (hl : l.length ≤ 1048576) (nm : ByteArray) : Ev (fun k => spec_l27Get.f k l nm) (get27 l nm) := by
  unfold spec_l27Get.f get27
  refine Ev.bind (at27_ev hl nm) ?_
  rcases at27_cases nm l 0 with ⟨h1, h2, _⟩ | ⟨j, hj, h1, h2, h3⟩
  · rw [h1, h2]
    exact Ev.pos (by decide) (Ev.now _)
  · rw [h1, h2, Nat.zero_add]
    refine Ev.neg (by omega) (Ev.pos (nn_cast j) (Ev.pos (lt_cast hj) ?_))
    rw [rd_set27 hj, if_pos rfl, toList_iff.1 h3]
    exact Ev.now _
theorem thing_ev {l : List S80} (hl : l.length ≤ 1048576) (nm : ByteArray) : Ev (fun k => impl_thingAt.f k l nm) (val27 nm l) := by
  unfold impl_thingAt.f
  exact Ev.bind (val27_ev hl nm) (Ev.now _)
theorem get_same {nm : ByteArray} (hn : nm.toList ≠ []) (a b : List S80) : ((get27 a nm).1.toList == (get27 b nm).1.toList && ((get27 a nm).2 == (get27 b nm).2)) = (((val27 nm a).1 == (val27 nm b).1) && ((val27 nm a).2 == (val27 nm b).2)) := by
  have hz : ∀ l, (val27 nm l).2 = false → val27 nm l = (0, false) := fun l h => by
    rcases at27_cases nm l 0 with ⟨_, h2, _⟩ | ⟨j, hj, _, h2, _⟩
    · exact h2
    · rw [h2] at h; cases h
  have he : (⟨#[]⟩ : ByteArray).toList = [] := by rw [toList_data']
  unfold get27
  cases h1 : (val27 nm a).2 <;> cases h2 : (val27 nm b).2
  · rw [hz a h1, hz b h2]; simp
  · rw [if_neg (by decide), if_pos rfl, he, hz a h1]; simp; exact fun e => absurd e hn
  · rw [if_pos rfl, if_neg (by decide), he, hz b h2]; simp [hn]
  · simp
def same27 (a b : List S80) (nm : ByteArray) : Bool := ((val27 nm a).1 == (val27 nm b).1) && ((val27 nm a).2 == (val27 nm b).2)
def confB (a b c : List S80) (nm : ByteArray) : Bool := !(same27 b c nm || same27 b a nm || same27 c a nm)
theorem same_symm (a b : List S80) (nm : ByteArray) : same27 a b nm = same27 b a nm := by unfold same27; rw [Bool.beq_comm, Bool.beq_comm (a := (val27 nm a).2)]
theorem confl_ev {a b c : List S80} (ha : a.length ≤ 1048576) (hb : b.length ≤ 1048576) (hc : c.length ≤ 1048576) {ns : List ByteArray} (hn : ns.length ≤ 1048576) (hne : ∀ x ∈ ns, x.toList ≠ []) : Ev (fun k => spec_l27Conflicts.l0 k a b c ns [] 0) (ns.filter (confB a b c)) := by
  have main : ∀ (e i : Nat) (out : List ByteArray), i + e = ns.length → out.length ≤ i → Ev (fun k => spec_l27Conflicts.l0 k a b c ns out (i : Int)) (out ++ (ns.drop i).filter (confB a b c)) := by
    intro e
    induction e with
    | zero =>
      intro i out hi ho
      obtain rfl : i = ns.length := by omega
      rw [List.drop_length]
      exact Ev.step (f := fun _ => some out) (fun k => by simp only [spec_l27Conflicts.l0]; rw [if_neg (nlt_cast _)]) (by simp only [List.filter_nil, List.append_nil]; exact Ev.now _)
    | succ e ih =>
      intro i out hi ho
      have hlt : i < ns.length := by omega
      have hr : rdOf ByteArray.empty ns (i : Int) = ns[i] := by simp [rdOf, List.getD_eq_getElem?_getD, List.getElem?_eq_getElem hlt]
      have hx := hne ns[i] (List.getElem_mem hlt)
      rw [drop_cons hlt, List.filter_cons]
      refine Ev.step (f := fun k => (spec_l27Get.f k a ns[i]).bind fun x => (spec_l27Get.f k b ns[i]).bind fun y => (spec_l27Get.f k c ns[i]).bind fun z => (if (!(x.1.toList == y.1.toList && (x.2 == y.2))) = true then (if (!(x.1.toList == z.1.toList && (x.2 == z.2))) = true then (if (!(y.1.toList == z.1.toList && (y.2 == z.2))) = true then spec_l27Conflicts.l0 k a b c ns (out ++ [ns[i]]) ((i + 1 : Nat) : Int) else spec_l27Conflicts.l0 k a b c ns out ((i + 1 : Nat) : Int)) else spec_l27Conflicts.l0 k a b c ns out ((i + 1 : Nat) : Int)) else spec_l27Conflicts.l0 k a b c ns out ((i + 1 : Nat) : Int))) (fun k => ?_) ?_
      · simp only [spec_l27Conflicts.l0, hr]
        rw [if_pos (lt_cast hlt), if_pos (nn_cast i), wrap_succ hlt (by omega), if_pos (by omega : out.length < 8796093022208)]
        simp only [Bool.not_and]
      · refine Ev.bind (get_ev ha _) (Ev.bind (get_ev hb _) (Ev.bind (get_ev hc _) ?_))
        rw [get_same hx a b, get_same hx a c, get_same hx b c]
        have n1 := ih (i + 1) out (by omega) (by omega)
        have n2 := ih (i + 1) (out ++ [ns[i]]) (by omega) (by simp; omega)
        rw [List.append_assoc] at n2
        have h1 : same27 b a ns[i] = same27 a b ns[i] := same_symm _ _ _
        have h2 : same27 c a ns[i] = same27 a c ns[i] := same_symm _ _ _
        have hcf : confB a b c ns[i] = !(same27 b c ns[i] || same27 a b ns[i] || same27 a c ns[i]) := by unfold confB; rw [h1, h2]
        rw [hcf]
        change Ev (fun k => if (!(same27 a b ns[i])) = true then (if (!(same27 a c ns[i])) = true then (if (!(same27 b c ns[i])) = true then _ else _) else _) else _) _
        cases e1 : same27 a b ns[i] <;> cases e2 : same27 a c ns[i] <;> cases e3 : same27 b c ns[i] <;> first | exact n1 | exact n2
  have := main ns.length 0 [] (by omega) (by simp)
  rw [List.nil_append, List.drop_zero] at this
  exact this
theorem sel_ev {a b c : List S80} (ha : a.length ≤ 1048576) (hb : b.length ≤ 1048576) (hc : c.length ≤ 1048576) : ∀ (ns : List ByteArray), Ev (fun k => impl_conflictsOf.sel (impl_conflictsOf.q k a b c) ns) (ns.filter (confB a b c))
  | [] => Ev.now _
  | x :: r => by
    have hq : Ev (fun k => impl_conflictsOf.q k a b c x) (same27 b c x || same27 b a x || same27 c a x) :=
      Ev.bind (thing_ev ha x) (Ev.bind (thing_ev hb x) (Ev.bind (thing_ev hc x) (Ev.now _)))
    have := Ev.bind (f := fun k t => some (if (same27 b c x || same27 b a x || same27 c a x) = true then t else x :: t)) (sel_ev ha hb hc r) (Ev.now _)
    rw [List.filter_cons]
    have he : (if (same27 b c x || same27 b a x || same27 c a x) = true then r.filter (confB a b c) else x :: r.filter (confB a b c)) = if confB a b c x = true then x :: r.filter (confB a b c) else r.filter (confB a b c) := by
      unfold confB
      cases (same27 b c x || same27 b a x || same27 c a x) <;> rfl
    rw [← he]
    exact Ev.bind hq this
theorem state_name {l : List S80} (h : stateB l = true) : ∀ x ∈ l, 1 ≤ x.f0.size ∧ x.f0.size ≤ 10 := by
  intro x hx
  obtain ⟨i, hi, rfl⟩ := List.getElem_of_mem hx
  unfold stateB at h
  simp only [Bool.and_eq_true, List.all_eq_true, List.mem_range, stateAt, settingB, nameB, decide_eq_true_iff] at h
  have := (h.1 i hi).1.1
  rw [rd_set27 hi] at this
  exact ⟨this.1.1.1, this.1.1.2⟩
theorem names3_name {a b c : List S80} (ha : stateB a = true) (hb : stateB b = true) (hc : stateB c = true) : ∀ x ∈ names3 a b c, 1 ≤ x.size ∧ x.size ≤ 10 := by
  intro x hx
  unfold names3 at hx
  rw [mem_puts, mem_puts, mem_puts] at hx
  simp only [List.mem_map] at hx
  rcases hx with ⟨y, hy, rfl⟩ | ⟨y, hy, rfl⟩ | ⟨y, hy, rfl⟩ | hx
  · exact state_name hc y hy
  · exact state_name hb y hy
  · exact state_name ha y hy
  · cases hx
theorem ne_of_size {x : ByteArray} (h : 1 ≤ x.size) : x.toList ≠ [] := fun e => by have := size_zero.1 e; omega
end Go.Proofs.Ytocegmkifmdlcaa.P

namespace Go.Proofs.Ytocegmkifmdlcaa.P
open Go.RowKit Go.Proofs.YtocegmkifmdlcaaW.PrintWords Go.Proofs.YtocegmkifmdlcaaL
theorem markSettingS_all {l : List S80} (hl : l.length ≤ 1048576) (_ : ∀ y ∈ l, smiSetting y) {m : Int} (h0 : 0 ≤ m) (h1 : m ≤ 536870912) : ∃ (m' : Int) (l' : List S80), m ≤ m' ∧ m' ≤ m + 8388608 ∧ Ev (fun k => laws_markSettingS.f k l m) (m', l') ∧ Ev (fun k => laws_heldSettingS.f k l' m) m' :=
  ⟨m + 2 * l.length, mkSettingS l m, by omega, by omega, Ev.le 10000000 (fun k hk => markSettingS_eq h0 (by omega) (by omega)), Ev.le 10000000 (fun k hk => heldSettingS_mk h0 (by omega) (by omega))⟩
end Go.Proofs.Ytocegmkifmdlcaa.P

namespace Go.Proofs.Ytocegmkifmdlcaa.P
open Go.RowKit Go.Proofs.YtocegmkifmdlcaaW.PrintWords Go.Proofs.YtocegmkifmdlcaaL
theorem l27Conflicts_ev {a b c : List S80} (ha : stateB a = true) (hb : stateB b = true) (hc : stateB c = true) : Ev (fun k => spec_l27Conflicts.f k a b c) ((names3 a b c).filter (confB a b c)) := by
  have la := state_len ha
  have lb := state_len hb
  have lc := state_len hc
  have hl := names3_len a b c
  exact Ev.bind (names_ev la lb lc) (confl_ev (by omega) (by omega) (by omega) (by omega) (fun x hx => ne_of_size (names3_name ha hb hc x hx).1))
theorem conflictsOf_ev {a b c : List S80} (ha : stateB a = true) (hb : stateB b = true) (hc : stateB c = true) : Ev (fun k => impl_conflictsOf.f k a b c) ((names3 a b c).filter (confB a b c)) := by
  have la := state_len ha
  have lb := state_len hb
  have lc := state_len hc
  exact Ev.bind (impl_names_ev la lb lc) (sel_ev (by omega) (by omega) (by omega) _)
end Go.Proofs.Ytocegmkifmdlcaa.P

namespace Go.Proofs.Ytocegmkifmdlcaa.P
open Go.RowKit Go.Proofs.YtocegmkifmdlcaaW.PrintWords Go.Proofs.YtocegmkifmdlcaaL
def mrg (a b c : List S80) (nm : ByteArray) : List S80 := if same27 b a nm = true then (if (val27 nm c).2 = true then [⟨nm, (val27 nm c).1⟩] else []) else (if (val27 nm b).2 = true then [⟨nm, (val27 nm b).1⟩] else [])
def merged (a b c : List S80) (ns : List ByteArray) : List S80 := ns.flatMap (mrg a b c)
def mcode (l : List S80) : List S80 × Int := if (l.length : Int) > 24 then ([], 5) else (l, 0)
theorem merge_spec {a b c : List S80} (ha : a.length ≤ 1048576) (hb : b.length ≤ 1048576) (hc : c.length ≤ 1048576) {ns : List ByteArray} (hn : ns.length ≤ 1048576) (hne : ∀ x ∈ ns, x.toList ≠ []) : Ev (fun k => spec_l27Merge.l0 k a b c ns [] 0) (mcode (merged a b c ns)) := by
  have main : ∀ (e i : Nat) (out : List S80), i + e = ns.length → out.length ≤ i → Ev (fun k => spec_l27Merge.l0 k a b c ns out (i : Int)) (mcode (out ++ merged a b c (ns.drop i))) := by
    intro e
    induction e with
    | zero =>
      intro i out hi ho
      obtain rfl : i = ns.length := by omega
      rw [List.drop_length]
      refine Ev.step (f := fun _ => some (mcode out)) (fun k => ?_) (by simp only [merged, List.flatMap_nil, List.append_nil]; exact Ev.now _)
      simp only [spec_l27Merge.l0, mcode]
      rw [if_neg (nlt_cast _)]
      split <;> rfl
    | succ e ih =>
      intro i out hi ho
      have hlt : i < ns.length := by omega
      have hr : rdOf ByteArray.empty ns (i : Int) = ns[i] := by simp [rdOf, List.getD_eq_getElem?_getD, List.getElem?_eq_getElem hlt]
      have hx := hne ns[i] (List.getElem_mem hlt)
      have he : (⟨#[]⟩ : ByteArray).toList = [] := by rw [toList_data']
      have hm : merged a b c (ns.drop i) = mrg a b c ns[i] ++ merged a b c (ns.drop (i + 1)) := by rw [drop_cons hlt]; rfl
      have n1 := ih (i + 1) out (by omega) (by omega)
      have n2 := fun z => ih (i + 1) (out ++ [z]) (by omega) (by simp; omega)
      refine Ev.step (f := fun k => (spec_l27Get.f k b ns[i]).bind fun y => (spec_l27Get.f k a ns[i]).bind fun x => (if (y.1.toList == x.1.toList && (y.2 == x.2)) = true then ((spec_l27Get.f k c ns[i]).bind fun z => (if z.1.toList = ([] : List UInt8) then spec_l27Merge.l0 k a b c ns out ((i + 1 : Nat) : Int) else spec_l27Merge.l0 k a b c ns (out ++ [⟨z.1, z.2⟩]) ((i + 1 : Nat) : Int))) else (if y.1.toList = ([] : List UInt8) then spec_l27Merge.l0 k a b c ns out ((i + 1 : Nat) : Int) else spec_l27Merge.l0 k a b c ns (out ++ [⟨y.1, y.2⟩]) ((i + 1 : Nat) : Int)))) (fun k => ?_) ?_
      · simp only [spec_l27Merge.l0, hr]
        rw [if_pos (lt_cast hlt), if_pos (nn_cast i), wrap_succ hlt (by omega)]
        simp only [if_pos (by omega : out.length < 5864062014805)]
      · refine Ev.bind (get_ev hb _) (Ev.bind (get_ev ha _) ?_)
        rw [get_same hx b a, hm]
        unfold mrg
        by_cases h1 : same27 b a ns[i] = true
        · rw [if_pos h1]
          refine Ev.pos h1 (Ev.bind (get_ev hc _) ?_)
          unfold get27
          by_cases h2 : (val27 ns[i] c).2 = true
          · rw [if_pos h2, if_pos h2, ← List.append_assoc]
            exact Ev.neg hx (n2 _)
          · rw [if_neg h2, if_neg h2, List.nil_append]
            exact Ev.pos he n1
        · rw [if_neg h1]
          refine Ev.neg h1 ?_
          unfold get27
          by_cases h2 : (val27 ns[i] b).2 = true
          · rw [if_pos h2, if_pos h2, ← List.append_assoc]
            exact Ev.neg hx (n2 _)
          · rw [if_neg h2, if_neg h2, List.nil_append]
            exact Ev.pos he n1
  have := main ns.length 0 [] (by omega) (by simp)
  rw [List.nil_append, List.drop_zero] at this
  exact this
theorem merge_impl {a b c : List S80} (ha : a.length ≤ 1048576) (hb : b.length ≤ 1048576) (hc : c.length ≤ 1048576) {ns : List ByteArray} (hn : ns.length ≤ 1048576) : Ev (fun k => impl_MergeStates.l0 k a b c [] ns (ns.length : Int) 0) (mcode (merged a b c ns)) := by
  have main : ∀ (e i : Nat) (out : List S80), i + e = ns.length → out.length ≤ i → Ev (fun k => impl_MergeStates.l0 k a b c out ns (ns.length : Int) (i : Int)) (mcode (out ++ merged a b c (ns.drop i))) := by
    intro e
    induction e with
    | zero =>
      intro i out hi ho
      obtain rfl : i = ns.length := by omega
      rw [List.drop_length]
      refine Ev.step (f := fun _ => some (mcode out)) (fun k => ?_) (by simp only [merged, List.flatMap_nil, List.append_nil]; exact Ev.now _)
      simp only [impl_MergeStates.l0, mcode]
      rw [if_neg (nlt_cast _)]
      split <;> rfl
    | succ e ih =>
      intro i out hi ho
      have hlt : i < ns.length := by omega
      have hr : rdOf ByteArray.empty ns (i : Int) = ns[i] := by simp [rdOf, List.getD_eq_getElem?_getD, List.getElem?_eq_getElem hlt]
      have hm : merged a b c (ns.drop i) = mrg a b c ns[i] ++ merged a b c (ns.drop (i + 1)) := by rw [drop_cons hlt]; rfl
      have n1 := ih (i + 1) out (by omega) (by omega)
      have n2 := fun z => ih (i + 1) (out ++ [z]) (by omega) (by simp; omega)
      refine Ev.step (f := fun k => (impl_thingAt.f k b ns[i]).bind fun y => (impl_thingAt.f k a ns[i]).bind fun x => (if (y.1 == x.1 && (y.2 == x.2)) = true then ((impl_thingAt.f k c ns[i]).bind fun z => (if z.2 = true then impl_MergeStates.l0 k a b c (out ++ [⟨ns[i], z.1⟩]) ns (ns.length : Int) ((i + 1 : Nat) : Int) else impl_MergeStates.l0 k a b c out ns (ns.length : Int) ((i + 1 : Nat) : Int))) else (if y.2 = true then impl_MergeStates.l0 k a b c (out ++ [⟨ns[i], y.1⟩]) ns (ns.length : Int) ((i + 1 : Nat) : Int) else impl_MergeStates.l0 k a b c out ns (ns.length : Int) ((i + 1 : Nat) : Int)))) (fun k => ?_) ?_
      · simp only [impl_MergeStates.l0, hr]
        rw [if_pos (lt_cast hlt), if_pos (nn_cast i), if_pos (lt_cast hlt), wrap_succ hlt (by omega)]
        simp only [if_pos (by omega : out.length < 5864062014805)]
      · refine Ev.bind (thing_ev hb _) (Ev.bind (thing_ev ha _) ?_)
        rw [hm]
        unfold mrg
        by_cases h1 : same27 b a ns[i] = true
        · rw [if_pos h1]
          refine Ev.pos h1 (Ev.bind (thing_ev hc _) ?_)
          by_cases h2 : (val27 ns[i] c).2 = true
          · rw [if_pos h2, ← List.append_assoc]
            exact Ev.pos h2 (n2 _)
          · rw [if_neg h2, List.nil_append]
            exact Ev.neg h2 n1
        · rw [if_neg h1]
          refine Ev.neg h1 ?_
          by_cases h2 : (val27 ns[i] b).2 = true
          · rw [if_pos h2, ← List.append_assoc]
            exact Ev.pos h2 (n2 _)
          · rw [if_neg h2, List.nil_append]
            exact Ev.neg h2 n1
  have := main ns.length 0 [] (by omega) (by simp)
  rw [List.nil_append, List.drop_zero] at this
  exact this
def mergeR (a b c : List S80) : List S80 × Int := if (((names3 a b c).filter (confB a b c)).length : Int) > 0 then ([], 6) else mcode (merged a b c (names3 a b c))
theorem l27Merge_ev {a b c : List S80} (ha : stateB a = true) (hb : stateB b = true) (hc : stateB c = true) : Ev (fun k => spec_l27Merge.f k a b c) (mergeR a b c) := by
  have la := state_len ha
  have lb := state_len hb
  have lc := state_len hc
  have hl := names3_len a b c
  unfold spec_l27Merge.f mergeR
  refine Ev.bind (l27Conflicts_ev ha hb hc) ?_
  by_cases h : (((names3 a b c).filter (confB a b c)).length : Int) > 0
  · rw [if_pos h]; exact Ev.pos h (Ev.now _)
  · rw [if_neg h]
    exact Ev.neg h (Ev.bind (names_ev la lb lc) (merge_spec (by omega) (by omega) (by omega) (by omega) (fun x hx => ne_of_size (names3_name ha hb hc x hx).1)))
theorem merge_j0 {a b c : List S80} (ha : stateB a = true) (hb : stateB b = true) (hc : stateB c = true) : Ev (fun k => impl_MergeStates.j0 k a b c false) (mergeR a b c) := by
  have la := state_len ha
  have lb := state_len hb
  have lc := state_len hc
  have hl := names3_len a b c
  unfold mergeR
  refine Ev.step (f := fun k => (impl_conflictsOf.f k a b c).bind fun t => (if (t.length : Int) > 0 then some ([], 6) else ((impl_namesOf.f k [a, b, c]).bind fun ns => impl_MergeStates.l0 k a b c [] ns (ns.length : Int) 0))) (fun k => by simp only [impl_MergeStates.j0]; rw [if_neg (by decide)]) ?_
  refine Ev.bind (conflictsOf_ev ha hb hc) ?_
  by_cases h : (((names3 a b c).filter (confB a b c)).length : Int) > 0
  · rw [if_pos h]; exact Ev.pos h (Ev.now _)
  · rw [if_neg h]
    exact Ev.neg h (Ev.bind (impl_names_ev la lb lc) (merge_impl (by omega) (by omega) (by omega) (by omega)))
theorem mergeR_len (a b c : List S80) : (mergeR a b c).1.length ≤ 24 := by
  unfold mergeR mcode
  split
  · simp
  · split
    · simp
    · next h => simp only; omega
def mergeS (a b c : List S80) : List S80 × Int := if stateB a = true then (if stateB b = true then (if stateB c = true then mergeR a b c else ([], 1)) else ([], 1)) else ([], 1)
theorem merge_spec_ev {a b c : List S80} (ha : a.length ≤ 1048576) (hb : b.length ≤ 1048576) (hc : c.length ≤ 1048576) : Ev (fun k => spec_MergeStates.f k a b c) (mergeS a b c) := by
  unfold spec_MergeStates.f mergeS
  refine Ev.bind (State_spec_ev ha) ?_
  by_cases h1 : stateB a = true
  rotate_left
  · rw [if_neg h1]; exact Ev.neg h1 (Ev.now _)
  rw [if_pos h1]
  refine Ev.pos h1 (Ev.bind (State_spec_ev hb) ?_)
  by_cases h2 : stateB b = true
  rotate_left
  · rw [if_neg h2]; exact Ev.neg h2 (Ev.now _)
  rw [if_pos h2]
  refine Ev.pos h2 (Ev.bind (State_spec_ev hc) ?_)
  by_cases h3 : stateB c = true
  rotate_left
  · rw [if_neg h3]; exact Ev.neg h3 (Ev.now _)
  rw [if_pos h3]
  exact Ev.pos h3 (Ev.bind (l27Merge_ev h1 h2 h3) (Ev.now _))
theorem merge_impl_ev {a b c : List S80} (ha : a.length ≤ 1048576) (hb : b.length ≤ 1048576) (hc : c.length ≤ 1048576) : Ev (fun k => impl_MergeStates.f k a b c) (mergeS a b c) := by
  have jt : Ev (fun k => impl_MergeStates.j0 k a b c true) (([] : List S80), (1 : Int)) := Ev.step (f := fun _ => some ([], 1)) (fun k => by simp only [impl_MergeStates.j0, if_true]) (Ev.now _)
  unfold impl_MergeStates.f mergeS
  refine Ev.bind (State_impl_ev ha) ?_
  by_cases h1 : stateB a = true
  rotate_left
  · rw [if_neg h1]; exact Ev.neg h1 jt
  rw [if_pos h1]
  refine Ev.pos h1 (Ev.bind (State_impl_ev hb) ?_)
  by_cases h2 : stateB b = true
  rotate_left
  · rw [if_neg h2]; exact Ev.neg h2 jt
  rw [if_pos h2]
  refine Ev.pos h2 (Ev.bind (State_impl_ev hc) ?_)
  by_cases h3 : stateB c = true
  rotate_left
  · rw [if_neg h3, eq_false_of_ne_true h3]; exact jt
  rw [if_pos h3, h3]
  exact merge_j0 h1 h2 h3
theorem mergeS_len (a b c : List S80) : (mergeS a b c).1.length ≤ 24 := by
  have := mergeR_len a b c
  unfold mergeS
  repeat' split
  all_goals first | exact this | simp
theorem core_MergeStates {a : List S80} (ha : a.length ≤ 1048576) {b : List S80} (hb : b.length ≤ 1048576) {c : List S80} (hc : c.length ≤ 1048576) : ∃ (v : List S80) (n : Int), (v.length ≤ 1048576 ∧ ∀ y ∈ v, smiSetting y) ∧ Ev (fun k => spec_MergeStates.f k a b c) (v, n) ∧ Ev (fun k => impl_MergeStates.f k a b c) (v, n) :=
  ⟨(mergeS a b c).1, (mergeS a b c).2, ⟨by have := mergeS_len a b c; omega, fun _ _ => trivial⟩, merge_spec_ev ha hb hc, merge_impl_ev ha hb hc⟩
end Go.Proofs.Ytocegmkifmdlcaa.P

namespace Go.Proofs.Ytocegmkifmdlcaa.Pure
open Go.RowKit Go.Proofs.YtocegmkifmdlcaaW.PrintWords Go.Proofs.YtocegmkifmdlcaaL Go.Proofs.Ytocegmkifmdlcaa.P
theorem FnExactMergeStates : ∀ (x0 : List P.S74) (x1 : List P.S74) (x2 : List P.S74), (x0.length ≤ maxLen ∧ ∀ y ∈ x0, g74 y) → (x1.length ≤ maxLen ∧ ∀ y ∈ x1, g74 y) → (x2.length ≤ maxLen ∧ ∀ y ∈ x2, g74 y) → ∃ k : Nat, P.laws_FnExactMergeStates.f k x0 x1 x2 = some true := by
  intro x0 x1 x2 ⟨hl0, hg0⟩ ⟨hl1, hg1⟩ ⟨hl2, hg2⟩
  refine Ev.rounds (g := fun k => P.laws_FnExactMergeStates.f k x0 x1 x2) ?_
  unfold laws_FnExactMergeStates.f
  obtain ⟨r0, hr0, h0⟩ := szSettingS_some hl0 hg0 (a := 1048576) (by omega) (by omega) (k := 10000000) (by omega)
  refine Ev.bind (a := r0) (Ev.of (g := fun k => laws_szSettingS.f k x0 1048576) (fun k => laws_szSettingS.mono _ _ k) hr0) ?_
  try dsimp only
  by_cases g0 : r0 < 0
  · exact Ev.pos g0 (Ev.now _)
  refine Ev.neg g0 ?_
  obtain ⟨p0, q0, z0, s0⟩ := h0.resolve_left g0
  obtain ⟨r1, hr1, h1⟩ := szSettingS_some hl1 hg1 (a := r0) (by omega) (by omega) (k := 10000000) (by omega)
  refine Ev.bind (a := r1) (Ev.of (g := fun k => laws_szSettingS.f k x1 r0) (fun k => laws_szSettingS.mono _ _ k) hr1) ?_
  try dsimp only
  by_cases g1 : r1 < 0
  · exact Ev.pos g1 (Ev.now _)
  refine Ev.neg g1 ?_
  obtain ⟨p1, q1, z1, s1⟩ := h1.resolve_left g1
  obtain ⟨r2, hr2, h2⟩ := szSettingS_some hl2 hg2 (a := r1) (by omega) (by omega) (k := 10000000) (by omega)
  refine Ev.bind (a := r2) (Ev.of (g := fun k => laws_szSettingS.f k x2 r1) (fun k => laws_szSettingS.mono _ _ k) hr2) ?_
  try dsimp only
  by_cases g2 : r2 < 0
  · exact Ev.pos g2 (Ev.now _)
  refine Ev.neg g2 ?_
  obtain ⟨p2, q2, z2, s2⟩ := h2.resolve_left g2
  unfold laws_FnExactMergeStates.g
  have hx0 : (x0.map cSetting).length ≤ 1048576 := by simpa using z0
  have hs0 : ∀ y ∈ x0.map cSetting, smiSetting y := fun y hy => by obtain ⟨x, hx, rfl⟩ := List.mem_map.1 hy; exact smi_cSetting (s0 x hx)
  have hT0 : Ev (fun k => laws_toSettingS.f k x0) (x0.map cSetting) := Ev.le 10000000 (fun k hk => toSettingS_eq z0 s0 (by omega))
  have hE0 : Ev (fun k => laws_eqSettingS.f k (x0.map cSetting) (x0.map cSetting)) true := Ev.le 10000000 (fun k hk => by rw [eqSettingS_eq hx0 hs0 (by omega)]; simp)
  have hx1 : (x1.map cSetting).length ≤ 1048576 := by simpa using z1
  have hs1 : ∀ y ∈ x1.map cSetting, smiSetting y := fun y hy => by obtain ⟨x, hx, rfl⟩ := List.mem_map.1 hy; exact smi_cSetting (s1 x hx)
  have hT1 : Ev (fun k => laws_toSettingS.f k x1) (x1.map cSetting) := Ev.le 10000000 (fun k hk => toSettingS_eq z1 s1 (by omega))
  have hE1 : Ev (fun k => laws_eqSettingS.f k (x1.map cSetting) (x1.map cSetting)) true := Ev.le 10000000 (fun k hk => by rw [eqSettingS_eq hx1 hs1 (by omega)]; simp)
  have hx2 : (x2.map cSetting).length ≤ 1048576 := by simpa using z2
  have hs2 : ∀ y ∈ x2.map cSetting, smiSetting y := fun y hy => by obtain ⟨x, hx, rfl⟩ := List.mem_map.1 hy; exact smi_cSetting (s2 x hx)
  have hT2 : Ev (fun k => laws_toSettingS.f k x2) (x2.map cSetting) := Ev.le 10000000 (fun k hk => toSettingS_eq z2 s2 (by omega))
  have hE2 : Ev (fun k => laws_eqSettingS.f k (x2.map cSetting) (x2.map cSetting)) true := Ev.le 10000000 (fun k hk => by rw [eqSettingS_eq hx2 hs2 (by omega)]; simp)
  generalize x0.map cSetting = l0 at hx0 hT0 hE0 hs0 ⊢
  generalize x1.map cSetting = l1 at hx1 hT1 hE1 hs1 ⊢
  generalize x2.map cSetting = l2 at hx2 hT2 hE2 hs2 ⊢
  refine Ev.bind hT0 ?_
  try dsimp only
  refine Ev.bind hT1 ?_
  try dsimp only
  refine Ev.bind hT2 ?_
  try dsimp only
  obtain ⟨v, c, hv, hS, hI⟩ := core_MergeStates hx0 hx1 hx2
  have hV : Ev (fun k => laws_eqSettingS.f k v v) true := Ev.le 10000000 (fun k hk => by rw [eqSettingS_eq hv.1 hv.2 (by omega)]; simp)
  refine Ev.bind hS ?_
  try dsimp only
  refine Ev.bind hT0 ?_
  try dsimp only
  refine Ev.bind hT1 ?_
  try dsimp only
  refine Ev.bind hT2 ?_
  try dsimp only
  refine Ev.bind hI ?_
  try dsimp only
  refine Ev.yes hV ?_
  refine Ev.pos rfl ?_
  refine Ev.bind hT0 ?_
  try dsimp only
  refine Ev.yes hE0 ?_
  refine Ev.bind hT1 ?_
  try dsimp only
  refine Ev.yes hE1 ?_
  refine Ev.bind hT2 ?_
  try dsimp only
  refine Ev.yes hE2 ?_
  obtain ⟨m0, y0, mb0, mc0, hM0, hH0⟩ := markSettingS_all hx0 hs0 (m := 1) (by omega) (by omega)
  refine Ev.bind hM0 ?_
  try dsimp only
  obtain ⟨m1, y1, mb1, mc1, hM1, hH1⟩ := markSettingS_all hx1 hs1 (m := m0) (by omega) (by omega)
  refine Ev.bind hM1 ?_
  try dsimp only
  obtain ⟨m2, y2, mb2, mc2, hM2, hH2⟩ := markSettingS_all hx2 hs2 (m := m1) (by omega) (by omega)
  refine Ev.bind hM2 ?_
  try dsimp only
  refine Ev.neg (by omega) ?_
  refine Ev.yes hV ?_
  refine Ev.pos rfl ?_
  obtain ⟨m3, y3, mb3, mc3, hM3, hH3⟩ := markSettingS_all hv.1 hv.2 (m := 1) (by omega) (by omega)
  refine Ev.bind hM3 ?_
  try dsimp only
  refine Ev.bind hH3 ?_
  try dsimp only
  refine Ev.neg (by omega) ?_
  refine Ev.pos rfl ?_
  refine Ev.bind hT0 ?_
  try dsimp only
  refine Ev.bind hT1 ?_
  try dsimp only
  refine Ev.bind hT2 ?_
  try dsimp only
  refine Ev.bind hI ?_
  try dsimp only
  refine Ev.yes hV ?_
  refine Ev.pos rfl ?_
  refine Ev.bind hH3 ?_
  try dsimp only
  refine Ev.neg (by omega) ?_
  refine Ev.pos rfl ?_
  exact Ev.now _
end Go.Proofs.Ytocegmkifmdlcaa.Pure
