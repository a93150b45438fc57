/- Part d of what FnExactTopicsOf stands on: functions of the program as Lean functions with their walks, and plain lemmas. -/
import Derived.Test.YtleajljmjohcaaaBFnExactTopicsOfa
import Derived.Test.YtleajljmjohcaaaBFnExactTopicsOfc
import Derived.Test.YtleajljmjohcaaaBFnExactTopicsOfb
import Derived.Test.YtleajljmjohcaaaK
namespace Go.Proofs.Ytleajljmjohcaaa.P
open Go.RowKit Go.Proofs.YtleajljmjohcaaaW.PrintWords Go.Proofs.YtleajljmjohcaaaL
set_option linter.unusedVariables false
set_option linter.unusedSimpArgs false

theorem eqStringS_eq {a b : List ByteArray} (hl : a.length ≤ 1048576) {k : Nat} (hk : 1048600 ≤ k) : laws_eqStringS.f k a b = some (decide (a = b)) := by
  unfold laws_eqStringS.f
  by_cases h : a.length = b.length
  · rw [if_pos (by omega)]
    refine eq_loop (fun k i => laws_eqStringS.l0 k a b i) a b h 0 (fun k i h1 h2 _ => ?_) (fun k => ?_) k (by omega)
    · simp only [laws_eqStringS.l0]
      rw [if_pos (lt_cast h1), if_pos (nn_cast i), if_pos (lt_cast h2), rdOf_get h1, rdOf_get h2, wrap_succ h1 (by omega)]
      by_cases e0 : a[i].toList = b[i].toList
      · rw [if_pos e0, if_pos (bytes_eq.1 e0)]
      · rw [if_neg e0, if_neg (fun e => e0 (bytes_eq.2 e))]
    · simp only [laws_eqStringS.l0]
      rw [if_neg (nlt_cast _)]
  · rw [if_neg (by omega)]
    have : a ≠ b := fun e => h (by rw [e])
    simp [this]
def cLesson (x : S48) : S49 := ⟨x.f0, x.f1, x.f2, x.f3, x.f4⟩
def smLesson (x : S48) : Prop := x.f1.size ≤ 1048576 ∧ x.f2.size ≤ 1048576
theorem rd_lLesson {l : List S48} {i : Nat} (h : i < l.length) : rd_T48 l (i : Int) = l[i] := by
  simp [rd_T48, List.getD_eq_getElem?_getD, List.getElem?_eq_getElem h]
theorem rd_iLesson {l : List S49} {i : Nat} (h : i < l.length) : rd_T49 l (i : Int) = l[i] := by
  simp [rd_T49, List.getD_eq_getElem?_getD, List.getElem?_eq_getElem h]
theorem ext_iLesson {a b : S49} : a = b ↔ a.f0 = b.f0 ∧ a.f1.toList = b.f1.toList ∧ a.f2.toList = b.f2.toList ∧ a.f3 = b.f3 ∧ a.f4 = b.f4 := by
  simp only [bytes_eq]; cases a; cases b; simp
instance : DecidableEq S49 := fun _ _ => decidable_of_iff _ ext_iLesson.symm
theorem szLesson_some {x : S48} (hg : Go.Proofs.Ytleajljmjohcaaa.g48 x) {a : Int} (ha0 : 0 ≤ a) (ha : a ≤ 1048576) : ∃ r, laws_szLesson.f x.f0 x.f1 x.f2 x.f3 x.f4 a = some r ∧ (r < 0 ∨ (0 ≤ r ∧ r ≤ a ∧ smLesson x)) := by
  unfold laws_szLesson.f smLesson
  have hs1 : x.f1.size ≤ 9223372036854775807 := by have := hg.2.1; simpa only [maxLen] using this
  rw [wrap_id (x := a - (x.f1.size : Int)) (by omega) (by omega)]
  by_cases h1 : a - (x.f1.size : Int) < 0
  · rw [if_pos h1]; exact ⟨-1, rfl, .inl (by omega)⟩
  rw [if_neg h1]
  have hs2 : x.f2.size ≤ 9223372036854775807 := by have := hg.2.2.1; simpa only [maxLen] using this
  rw [wrap_id (x := (a - (x.f1.size : Int)) - (x.f2.size : Int)) (by omega) (by omega)]
  by_cases h2 : (a - (x.f1.size : Int)) - (x.f2.size : Int) < 0
  · rw [if_pos h2]; exact ⟨-1, rfl, .inl (by omega)⟩
  rw [if_neg h2]
  exact ⟨_, rfl, .inr ⟨by omega, by omega, by omega, by omega⟩⟩
theorem szLessonS_some {l : List S48} (hl : l.length ≤ maxLen) (hg : ∀ y ∈ l, Go.Proofs.Ytleajljmjohcaaa.g48 y) {a : Int} (ha0 : 0 ≤ a) (ha : a ≤ 1048576) {k : Nat} (hk : 1048600 ≤ k) : ∃ r, laws_szLessonS.f k l a = some r ∧ (r < 0 ∨ (0 ≤ r ∧ r ≤ a ∧ l.length ≤ 1048576 ∧ ∀ y ∈ l, smLesson y)) := by
  have hl' : l.length ≤ 9223372036854775807 := by simpa only [maxLen] using hl
  unfold laws_szLessonS.f
  rw [wrap_id (by omega) (by omega)]
  by_cases h0 : a - (l.length : Int) < 0
  · rw [if_pos h0]; exact ⟨-1, rfl, .inl (by omega)⟩
  · rw [if_neg h0]
    have main : ∀ (d k i : Nat) (s : Int), i + d = l.length → 0 + d < k → 0 ≤ s → s ≤ a - l.length → ∃ r, laws_szLessonS.l0 k l s (i : Int) = some r ∧ (r < 0 ∨ (0 ≤ r ∧ r ≤ s ∧ ∀ y ∈ l.drop i, smLesson y)) := by
      intro d
      induction d with
      | zero =>
        intro k i s hi hk h0 h1
        obtain ⟨k, rfl⟩ : ∃ m, k = m + 1 := ⟨k - 1, by omega⟩
        obtain rfl : i = l.length := by omega
        simp only [laws_szLessonS.l0]
        rw [if_neg (nlt_cast _)]
        exact ⟨s, rfl, .inr ⟨h0, by omega, by simp⟩⟩
      | succ d ih =>
        intro k i s hi hk h0 h1
        obtain ⟨k, rfl⟩ : ∃ m, k = m + 1 := ⟨k - 1, by omega⟩
        have hlt : i < l.length := by omega
        simp only [laws_szLessonS.l0]
        rw [if_pos (lt_cast hlt), if_pos (nn_cast i), rd_lLesson hlt, wrap_succ hlt (by omega)]
        obtain ⟨r1, hr1, e1⟩ := szLesson_some (hg l[i] (List.getElem_mem hlt)) (a := s) (by omega) (by omega)
        rw [hr1]; simp only [Option.bind_some]
        by_cases h2 : r1 < 0
        · rw [if_pos h2]
          exact ⟨-1, rfl, .inl (by omega)⟩
        · rw [if_neg h2]
          have e1' := e1.resolve_left h2
          obtain ⟨r, hr, h3⟩ := ih k (i + 1) r1 (by omega) (by omega) (by omega) (by omega)
          refine ⟨r, hr, h3.imp id fun h3 => ⟨h3.1, by omega, ?_⟩⟩
          rw [drop_cons hlt]
          intro y hy
          rcases List.mem_cons.1 hy with rfl | hy
          · exact e1'.2.2
          · exact h3.2.2 y hy
    obtain ⟨r, hr, h⟩ := main l.length k 0 (a - l.length) (by omega) (by omega) (by omega) (by omega)
    refine ⟨r, hr, h.imp id fun h => ⟨h.1, by omega, by omega, ?_⟩⟩
    simpa using h.2.2
theorem toLesson_eq {x : S48} (hs : smLesson x) : laws_toLesson.f x.f0 x.f1 x.f2 x.f3 x.f4 = some ((cLesson x).f0, (cLesson x).f1, (cLesson x).f2, (cLesson x).f3, (cLesson x).f4) := by
  unfold smLesson at hs
  unfold laws_toLesson.f
  rfl
theorem toLessonS_eq {l : List S48} (hl : l.length ≤ 1048576) (hs : ∀ y ∈ l, smLesson y) {k : Nat} (hk : 1048600 ≤ k) : laws_toLessonS.f k l = some (l.map cLesson) := by
  unfold laws_toLessonS.f
  rw [if_pos (nn_cast _), if_pos (by simp; omega)]
  refine set_loop (fun k acc i => laws_toLessonS.l0 k l acc i) l cLesson 0 (fun k i hi acc ha hB => ?_) (fun k acc => ?_) k _ (by omega) (by simp)
  · simp only [laws_toLessonS.l0]
    rw [if_pos (lt_cast hi), if_pos (nn_cast i), rd_lLesson hi, wrap_succ hi (by omega), toLesson_eq (hs _ (List.getElem_mem hi))]
    simp only [Option.bind_some]
    rw [if_pos (by omega)]
    rfl
  · simp only [laws_toLessonS.l0]
    rw [if_neg (nlt_cast _)]
def smiLesson (x : S49) : Prop := True
theorem eqLesson_eq {a b : S49} (hs : smiLesson a) : laws_eqLesson.f a.f0 a.f1 a.f2 a.f3 a.f4 b.f0 b.f1 b.f2 b.f3 b.f4 = some (decide (a = b)) := by
  unfold smiLesson at hs
  unfold laws_eqLesson.f
  by_cases e0 : a.f0 = b.f0
  rotate_left
  · rw [if_neg e0]; have hne : ¬ a = b := fun e => e0 (ext_iLesson.1 e).1; simp [hne]
  rw [if_pos e0]
  by_cases e1 : a.f1.toList = b.f1.toList
  rotate_left
  · rw [if_neg e1]; have hne : ¬ a = b := fun e => e1 (ext_iLesson.1 e).2.1; simp [hne]
  rw [if_pos e1]
  by_cases e2 : a.f2.toList = b.f2.toList
  rotate_left
  · rw [if_neg e2]; have hne : ¬ a = b := fun e => e2 (ext_iLesson.1 e).2.2.1; simp [hne]
  rw [if_pos e2]
  by_cases e3 : a.f3 = b.f3
  rotate_left
  · rw [if_neg e3]; have hne : ¬ a = b := fun e => e3 (ext_iLesson.1 e).2.2.2.1; simp [hne]
  rw [if_pos e3]
  by_cases e4 : a.f4 = b.f4
  rotate_left
  · rw [if_neg e4]; have hne : ¬ a = b := fun e => e4 (ext_iLesson.1 e).2.2.2.2; simp [hne]
  rw [if_pos e4]
  rw [decide_eq_true (ext_iLesson.2 ⟨e0, e1, e2, e3, e4⟩)]
theorem eqLessonS_eq {a b : List S49} (hl : a.length ≤ 1048576) (hs : ∀ y ∈ a, smiLesson y) {k : Nat} (hk : 1048600 ≤ k) : laws_eqLessonS.f k a b = some (decide (a = b)) := by
  unfold laws_eqLessonS.f
  by_cases h : a.length = b.length
  · rw [if_pos (by omega)]
    refine eq_loop (fun k i => laws_eqLessonS.l0 k a b i) a b h 0 (fun k i h1 h2 hB => ?_) (fun k => ?_) k (by omega)
    · simp only [laws_eqLessonS.l0]
      rw [if_pos (lt_cast h1), if_pos (nn_cast i), if_pos (lt_cast h2), rd_iLesson h1, rd_iLesson h2, wrap_succ h1 (by omega), eqLesson_eq (hs _ (List.getElem_mem h1))]
      simp only [Option.bind_some, decide_eq_true_eq]
    · simp only [laws_eqLessonS.l0]
      rw [if_neg (nlt_cast _)]
  · rw [if_neg (by omega)]
    have : a ≠ b := fun e => h (by rw [e])
    simp [this]
def mt (n : Int) : ByteArray := (laws_markText.f 100 n).getD ⟨#[]⟩
theorem strOf_one (x : Int) : (strOfNums [x]).size = 1 := rfl
theorem markText_some : ∀ (d k : Nat) (n : Int) (s : ByteArray), 0 ≤ n → n ≤ 9223372036854775807 → n < 10 ^ d → s.size + d ≤ 1000 → d < k → ∃ r, laws_markText.l0 k n s = some r := by
  intro d
  induction d with
  | zero =>
    intro k n s h0 hb h1 hs hk
    obtain ⟨k, rfl⟩ : ∃ m, k = m + 1 := ⟨k - 1, by omega⟩
    have : n = 0 := by simp at h1; omega
    subst this
    simp only [laws_markText.l0]
    rw [if_neg (by omega), if_pos (by omega)]
    exact ⟨_, rfl⟩
  | succ d ih =>
    intro k n s h0 hb h1 hs hk
    obtain ⟨k, rfl⟩ : ∃ m, k = m + 1 := ⟨k - 1, by omega⟩
    simp only [laws_markText.l0]
    by_cases h : n > 0
    · rw [if_pos h]
      simp only [Option.bind_some]
      rw [if_pos (by rw [strOf_one]; omega)]
      have e : wrap64 (n.tdiv 10) = n / 10 := by
        rw [Int.tdiv_eq_ediv_of_nonneg h0, wrap_id (by omega) (by omega)]
      rw [e]
      refine ih k _ _ (by omega) (by omega) ?_ ?_ (by omega)
      · have : (10 : Int) ^ (d + 1) = 10 ^ d * 10 := by rw [Int.pow_succ]
        rw [this] at h1
        exact Int.ediv_lt_of_lt_mul (by omega) h1
      · rw [ByteArray.size_append, strOf_one]; omega
    · rw [if_neg h, if_pos (by omega)]
      exact ⟨_, rfl⟩
theorem markText_eq {n : Int} (h0 : 0 ≤ n) (h : n ≤ 1073741824) {k : Nat} (hk : 100 ≤ k) : laws_markText.f k n = some (mt n) := by
  have hs : ∃ r, laws_markText.f 100 n = some r := by
    unfold laws_markText.f
    by_cases h1 : n ≤ 0
    · rw [if_pos h1]; exact ⟨_, rfl⟩
    · rw [if_neg h1]
      exact markText_some 12 100 n _ h0 (by omega) (by omega) (by decide) (by omega)
  obtain ⟨r, hr⟩ := hs
  have := at_rounds (fun k => laws_markText.mono n k) hk hr
  rw [this]
  unfold mt
  rw [hr]; rfl
def mkStringS (l : List ByteArray) (m : Int) : List ByteArray := mkl (fun _ m => mt m) (fun _ => 1) l m
theorem markStringS_eq {l : List ByteArray} {m : Int} (hm : 0 ≤ m) (hb : m + l.length ≤ 1073741824) {k : Nat} (hk : 200 + l.length ≤ k) : laws_markStringS.f k l m = some (m + l.length, mkStringS l m) := by
  unfold laws_markStringS.f mkStringS
  have h := mark_loop (fun k l m i => laws_markStringS.l0 k l m i) (fun _ m => mt m) (fun _ => 1) 1073741824 100 (fun _ => by omega) (fun k pre x rest m hB hp hm hM => ?_) (fun k l m => ?_) k l m (by omega) (by omega) hm (by rw [mtot_const]; omega)
  · rw [mtot_const] at h
    rw [show m + (l.length : Int) = m + 1 * l.length from by omega]
    exact h
  · simp only [laws_markStringS.l0]
    rw [if_pos (by simp; omega), markText_eq hm (by omega) hB]
    simp only [Option.bind_some]
    rw [if_pos (nn_cast _), set_mid, wrap_id (x := m + 1) (by omega) (by omega), wrap_succ (i := pre.length) (n := pre.length + 1) (by omega) (by omega)]
  · simp only [laws_markStringS.l0]
    rw [if_neg (nlt_cast _)]
theorem heldStringS_mk {l : List ByteArray} {m0 : Int} (hm : 0 ≤ m0) (hb : m0 + l.length ≤ 1073741824) {k : Nat} (hk : 200 + l.length ≤ k) : laws_heldStringS.f k (mkStringS l m0) m0 = some (m0 + l.length) := by
  unfold laws_heldStringS.f
  have h := held_loop (fun k m i => laws_heldStringS.l0 k (mkStringS l m0) m i) (fun _ m => mt m) (fun _ => 1) 1073741824 100 (fun _ => by omega) (mkStringS l m0) (fun k pre x rest m he hB hp hm hM => ?_) (fun k m => ?_) k l m0 rfl (by omega) (by omega) hm (by rw [mtot_const]; omega)
  · rw [mtot_const] at h
    rw [show m0 + (l.length : Int) = m0 + 1 * l.length from by omega]
    exact h
  · simp only [laws_heldStringS.l0]
    rw [if_pos (by rw [he]; simp; omega), if_pos (nn_cast _), markText_eq hm (by omega) hB]
    simp only [Option.bind_some]
    rw [he, rdOf_mid, if_pos rfl, wrap_id (x := m + 1) (by omega) (by omega), wrap_succ (i := pre.length) (n := pre.length + 1) (by omega) (by omega)]
  · simp only [laws_heldStringS.l0]
    rw [if_neg (nlt_cast _)]
theorem rdm_iLesson {pre rest : List S49} {x : S49} : rd_T49 (pre ++ x :: rest) (pre.length : Int) = x := by simp [rd_T49]
def mkLessonS (l : List S49) (m : Int) : List S49 := mkl (fun (_ : S49) m => (⟨m, mt (m + 1), mt (m + 1 + 1), m + 1 + 1 + 1, m + 1 + 1 + 1 + 1⟩ : S49)) (fun _ => 5) l m
theorem markLessonS_eq {l : List S49} {m : Int} (hm : 0 ≤ m) (hb : m + 5 * l.length ≤ 1073741824) {k : Nat} (hk : 200 + l.length ≤ k) : laws_markLessonS.f k l m = some (m + 5 * l.length, mkLessonS l m) := by
  unfold laws_markLessonS.f mkLessonS
  have h := mark_loop (fun k l m i => laws_markLessonS.l0 k l m i) (fun (_ : S49) m => (⟨m, mt (m + 1), mt (m + 1 + 1), m + 1 + 1 + 1, m + 1 + 1 + 1 + 1⟩ : S49)) (fun _ => 5) 1073741824 100 (fun _ => by omega) (fun k pre x rest m hB hp hm hM => ?_) (fun k l m => ?_) k l m (by omega) (by omega) hm (by rw [mtot_const]; omega)
  · rw [mtot_const] at h
    exact h
  · simp only [laws_markLessonS.l0]
    have w1 : wrap64 (m + 1) = m + 1 := wrap_id (by omega) (by omega)
    have w2 : wrap64 ((m + 1) + 1) = m + 1 + 1 := wrap_id (by omega) (by omega)
    have w3 : wrap64 ((m + 1 + 1) + 1) = m + 1 + 1 + 1 := wrap_id (by omega) (by omega)
    have w4 : wrap64 ((m + 1 + 1 + 1) + 1) = m + 1 + 1 + 1 + 1 := wrap_id (by omega) (by omega)
    have w5 : wrap64 ((m + 1 + 1 + 1 + 1) + 1) = m + 1 + 1 + 1 + 1 + 1 := wrap_id (by omega) (by omega)
    have t1 := fun k (hB : 100 ≤ k) => markText_eq (n := m + 1) (by omega) (by omega) hB
    have t2 := fun k (hB : 100 ≤ k) => markText_eq (n := m + 1 + 1) (by omega) (by omega) hB
    rw [if_pos (by simp; omega)]
    simp only [Option.bind_some, w1, w2, w3, w4, w5, t1 _ hB, t2 _ hB]
    (try rw [if_pos (nn_cast _)])
    simp only [Option.bind_some, rdm_iLesson, set_mid, w1, w2, w3, w4, w5, t1 _ hB, t2 _ hB]
    (try rw [if_pos (nn_cast _)])
    (try simp only [Option.bind_some, rdm_iLesson, set_mid, w1, w2, w3, w4, w5])
    rw [wrap_succ (i := pre.length) (n := pre.length + 1) (by omega) (by omega), show m + (5 : Int) = m + 1 + 1 + 1 + 1 + 1 from by omega]
  · simp only [laws_markLessonS.l0]
    rw [if_neg (nlt_cast _)]
end Go.Proofs.Ytleajljmjohcaaa.P

namespace Go.Proofs.Ytleajljmjohcaaa.P
open Go.RowKit Go.Proofs.YtleajljmjohcaaaW.PrintWords Go.Proofs.YtleajljmjohcaaaL
def lesB (x : S49) : Bool := (decide (0 ≤ x.f0) && decide (x.f0 ≤ 100000)) && (nameB x.f1 && (nameB x.f2 && ((decide (1 ≤ x.f3) && decide (x.f3 ≤ 480)) && (decide (0 ≤ x.f4) && decide (x.f4 ≤ 100)))))
def lesLess (a b : S49) : Bool := if a.f0 = b.f0 then (if a.f1.toList = b.f1.toList then Op.bytesLess a.f2.toList b.f2.toList else Op.bytesLess a.f1.toList b.f1.toList) else decide (a.f0 < b.f0)
def lesAt (l : List S49) (i : Nat) : Bool := lesB (rd_T49 l (i : Int)) && (decide (i = 0) || lesLess (rd_T49 l ((i - 1 : Nat) : Int)) (rd_T49 l (i : Int)))
def pupils (l : List S49) : List ByteArray := puts (l.map (·.f1)) []
def lessonsB (l : List S49) : Bool := (List.range l.length).all (lesAt l) && (decide (l.length ≤ 64) && decide ((pupils l).length ≤ 12))
def cmpL (a b : S49) : Int := if cmpI a.f0 b.f0 = 0 then (if cmpS a.f1 b.f1 = 0 then cmpS a.f2 b.f2 else cmpS a.f1 b.f1) else cmpI a.f0 b.f0

theorem l28One_e_eq (l : List S49) (i : Int) {k : Nat} (hk : 20 ≤ k) : spec_l28One_e.f k l i = some (lesB (rd_T49 l i)) := by
  unfold spec_l28One_e.f lesB
  rw [l01Name_eq _ hk, l01Name_eq _ hk]; simp only [Option.bind_some, in_eq]
  cases (decide (0 ≤ (rd_T49 l i).f0) && decide ((rd_T49 l i).f0 ≤ 100000)) <;> cases nameB (rd_T49 l i).f1 <;> cases nameB (rd_T49 l i).f2 <;> cases (decide (1 ≤ (rd_T49 l i).f3) && decide ((rd_T49 l i).f3 ≤ 480)) <;> simp
theorem l28Before_e_eq (l : List S49) (i j : Int) : spec_l28Before_e.f l i l j = some (lesLess (rd_T49 l i) (rd_T49 l j)) := by
  unfold spec_l28Before_e.f lesLess
  split
  · split <;> rfl
  · rfl
theorem Lesson_valid_eq (x : S49) {k : Nat} (hk : 20 ≤ k) : impl_Lesson_valid.f k x.f0 x.f1 x.f2 x.f3 x.f4 = some (lesB x) := by
  unfold impl_Lesson_valid.f lesB
  rw [IsName_eq _ hk, IsName_eq _ hk]; simp only [Option.bind_some, within_eq]
  cases (decide (0 ≤ x.f0) && decide (x.f0 ≤ 100000)) <;> cases nameB x.f1 <;> cases nameB x.f2 <;> cases (decide (1 ≤ x.f3) && decide (x.f3 ≤ 480)) <;> simp
theorem compareLessons_eq (a b : S49) {k : Nat} (hk : 10 ≤ k) : impl_compareLessons.f k a.f0 a.f1 a.f2 a.f3 a.f4 b.f0 b.f1 b.f2 b.f3 b.f4 = some (cmpL a b) := by
  unfold impl_compareLessons.f cmpL
  rw [Compare_int64_eq, Compare_string_eq, Compare_string_eq]
  simp only [Option.bind_some]
  rw [Or3_eq _ _ _ hk]; rfl
theorem cmpI_zero {a b : Int} : cmpI a b = 0 ↔ a = b := by
  unfold cmpI; constructor
  · intro h; split at h
    · omega
    · split at h <;> omega
  · intro h; rw [if_neg (by omega), if_neg (by omega)]
theorem cmpS_zero {a b : ByteArray} : cmpS a b = 0 ↔ a.toList = b.toList := by
  unfold cmpS; constructor
  · intro h
    by_cases h1 : Op.bytesLess a.toList b.toList = true
    · rw [if_pos h1] at h; omega
    · rw [if_neg h1] at h
      by_cases h2 : Op.bytesLess b.toList a.toList = true
      · rw [if_pos h2] at h; omega
      · by_cases e : a.toList = b.toList
        · exact e
        · exact absurd (less_total (by simpa using h1) e) h2
  · intro h; rw [h, less_irrefl]; rfl
theorem cmpS_neg (a b : ByteArray) : cmpS a b ≥ 0 ↔ Op.bytesLess a.toList b.toList = false := by
  unfold cmpS
  by_cases h3 : Op.bytesLess a.toList b.toList = true
  · rw [if_pos h3]; simp [h3]
  · rw [if_neg h3]; simp [h3]; split <;> omega
theorem cmpL_neg (a b : S49) : cmpL a b ≥ 0 ↔ lesLess a b = false := by
  unfold cmpL lesLess
  by_cases h1 : a.f0 = b.f0
  · rw [if_pos (cmpI_zero.2 h1), if_pos h1]
    by_cases h2 : a.f1.toList = b.f1.toList
    · rw [if_pos (cmpS_zero.2 h2), if_pos h2]; exact cmpS_neg _ _
    · rw [if_neg (fun e => h2 (cmpS_zero.1 e)), if_neg h2]; exact cmpS_neg _ _
  · rw [if_neg (fun e => h1 (cmpI_zero.1 e)), if_neg h1]
    unfold cmpI
    by_cases h3 : a.f0 < b.f0
    · rw [if_pos h3]; simp [h3]
    · rw [if_neg h3, if_pos (by omega)]; simp [h3]

theorem rds_get {l : List ByteArray} {i : Nat} (h : i < l.length) : rdOf ByteArray.empty l (i : Int) = l[i] := rdOf_get h
theorem l28Put_eq {l : List ByteArray} (hl : l.length ≤ 1048576) (x : ByteArray) {k : Nat} (hk : 2 * l.length + 10 ≤ k) : spec_l28Put.f k l x = some (putG x l false) := by
  unfold spec_l28Put.f
  have main := list_loopV (fun k (s : List ByteArray × Bool) i => spec_l28Put.l0 k l x s.1 s.2 i) l (fun r s => s.1 ++ putG x r s.2) (fun i s => s.1.length ≤ 2 * i) 0 2
    (fun k i hi s hI _ => ?_) (fun k s hI _ => ?_) k ([], false) (by omega) (by simp)
  · simpa using main
  · obtain ⟨out, done⟩ := s
    right
    have hb : out.length ≤ 2 * i := hI
    simp only [spec_l28Put.l0]
    rw [if_pos (lt_cast hi), if_pos (nn_cast i), rds_get hi]
    have hw := wrap_succ hi (by omega)
    cases done with
    | true =>
      rw [if_pos rfl]
      simp only [spec_l28Put.j1]
      rw [if_neg (by decide), if_pos (nn_cast i), if_pos (lt_cast hi), rds_get hi, hw]
      by_cases e : l[i].toList = x.toList
      · rw [if_pos e]
        exact ⟨(out, true), k, Nat.le_refl _, (by show out.length ≤ _; omega), by simp only [putG]; simp [e], rfl⟩
      · rw [if_neg e, if_pos (by omega)]
        exact ⟨(out ++ [l[i]], true), k, Nat.le_refl _, (by show (out ++ [l[i]]).length ≤ _; simp; omega), by simp only [putG]; simp [e], rfl⟩
    | false =>
      rw [if_neg (by decide)]
      simp only [spec_l28Put.j1]
      by_cases h : Op.bytesLess l[i].toList x.toList = true
      · have hlt : ltB l[i] x = true := h
        rw [h, if_neg (by decide), if_pos (nn_cast i), if_pos (lt_cast hi), rds_get hi, hw]
        have e : ¬ l[i].toList = x.toList := fun e => by rw [e, less_irrefl] at h; exact absurd h (by decide)
        rw [if_neg e, if_pos (by omega)]
        exact ⟨(out ++ [l[i]], false), k, Nat.le_refl _, (by show (out ++ [l[i]]).length ≤ _; simp; omega), by simp only [putG]; simp [e, hlt], rfl⟩
      · rw [Bool.not_eq_true] at h
        have hlt : ltB l[i] x = false := h
        rw [h, if_pos (by decide), if_pos (by omega), Option.bind_some, if_pos (nn_cast i), if_pos (lt_cast hi), rds_get hi, hw]
        by_cases e : l[i].toList = x.toList
        · rw [if_pos e]
          exact ⟨(out ++ [x], true), k, Nat.le_refl _, (by show (out ++ [x]).length ≤ _; simp; omega), by simp only [putG]; simp [e, hlt], rfl⟩
        · rw [if_neg e, if_pos (by simp; omega)]
          exact ⟨(out ++ [x] ++ [l[i]], true), k, Nat.le_refl _, (by show (out ++ [x] ++ [l[i]]).length ≤ _; simp; omega), by simp only [putG]; simp [e, hlt], rfl⟩
  · obtain ⟨out, done⟩ := s
    have hb : out.length ≤ 2 * l.length := hI
    simp only [spec_l28Put.l0]
    rw [if_neg (nlt_cast _)]
    cases done with
    | true => rw [if_pos rfl]; simp [putG]
    | false => rw [if_neg (by decide), if_pos (by omega)]; simp [putG]
theorem l28Pupils_eq {l : List S49} (hl : l.length ≤ 64) {k : Nat} (hk : 300 ≤ k) : spec_l28Pupils.f k l = some (pupils l) := by
  unfold spec_l28Pupils.f pupils
  refine list_loop (fun k s i => spec_l28Pupils.l0 k l s i) l (fun r s => puts (r.map (·.f1)) s) (fun i s => s.length ≤ i) 200 (fun k i hi s hI hB => ?_) (fun k s hI => ?_) k [] (by omega) (by simp)
  · right
    simp only [spec_l28Pupils.l0]
    rw [if_pos (lt_cast hi), if_pos (nn_cast i), rd_iLesson hi, l28Put_eq (by omega) _ (by omega), wrap_succ hi (by omega)]
    refine ⟨putG l[i].f1 s false, ?_, rfl, rfl⟩
    have := putG_length l[i].f1 s false
    omega
  · simp only [spec_l28Pupils.l0]
    rw [if_neg (nlt_cast _)]; rfl
theorem Sort_eq {l : List ByteArray} (hl : l.length ≤ 1048576) : slices_Sort_S_string.f l = some (sortS l) := by
  unfold slices_Sort_S_string.f; rw [if_pos (by omega)]
theorem pupilsOf_eq {l : List S49} (hl : l.length ≤ 1048576) {k : Nat} (hk : l.length + 10 ≤ k) : impl_pupilsOf.f k l = some (pupils l) := by
  unfold impl_pupilsOf.f pupils
  rw [← compactSort_eq]
  refine (list_loop (fun k s i => impl_pupilsOf.l0 k s l (l.length : Int) i) l (fun r s => compactS (sortS (s ++ r.map (·.f1)))) (fun i s => s.length = i) 0 (fun k i hi s hI hB => ?_) (fun k s hI => ?_) k [] (by omega) (by simp)).trans ?_
  · right
    simp only [impl_pupilsOf.l0]
    rw [if_pos (lt_cast hi), if_pos (nn_cast i), if_pos (lt_cast hi), if_pos (by omega), rd_iLesson hi, wrap_succ hi (by omega)]
    exact ⟨s ++ [l[i].f1], by simp [hI], by rw [List.map_cons, List.append_assoc]; rfl, rfl⟩
  · simp only [impl_pupilsOf.l0]
    rw [if_neg (nlt_cast _), Sort_eq (by omega)]
    simp [slices_Compact_S_string.f]
  · simp
theorem l28Ok_eq {l : List S49} (hl : l.length ≤ 1048576) {k : Nat} (hk : 1049000 ≤ k) : spec_l28Ok.f k l = some (lessonsB l) := by
  unfold spec_l28Ok.f lessonsB
  refine all_loop (fun k i => spec_l28Ok.l0 k l i) l.length (lesAt l) _ 310 (fun k i hi hB => ?_) (fun k hB => ?_) k (by omega)
  · simp only [spec_l28Ok.l0]
    rw [if_pos (lt_cast hi), if_pos (nn_cast i), l28One_e_eq _ _ (by omega), wrap_succ hi (by omega)]
    simp only [Option.bind_some, lesAt]
    by_cases h : lesB (rd_T49 l (i : Int)) = true
    · rw [if_pos h]
      by_cases h0 : i = 0
      · rw [if_neg (by omega)]; simp only [h, decide_eq_true h0, Bool.true_or, Bool.and_self, if_true]
      · rw [if_pos (by omega), pred_cast (by omega) hi (by omega), if_pos (nn_cast _), if_pos (by omega), l28Before_e_eq]
        simp [h, h0]
    · rw [if_neg h]; simp [h]
  · simp only [spec_l28Ok.l0]
    rw [if_neg (nlt_cast _)]
    by_cases h : l.length ≤ 64
    · rw [if_pos (by omega), l28Pupils_eq h (by omega), decide_eq_true h]
      simp only [Option.bind_some, Bool.true_and]
      congr 2
      exact propext (by omega)
    · rw [if_neg (by omega), decide_eq_false h]; simp
theorem ValidLessons_eq {l : List S49} {k : Nat} (hk : 400 ≤ k) : impl_ValidLessons.f k l = some (lessonsB l) := by
  obtain ⟨k, rfl⟩ : ∃ m, k = m + 1 := ⟨k - 1, by omega⟩
  unfold impl_ValidLessons.f lessonsB
  by_cases h64 : (l.length : Int) > 64
  · rw [if_pos h64]
    have : ¬ l.length ≤ 64 := by omega
    simp [this, impl_ValidLessons.j0]
  rw [if_neg h64]
  have h64' : l.length ≤ 64 := by omega
  rw [decide_eq_true h64', pupilsOf_eq (by omega) (by omega)]
  simp only [Option.bind_some, impl_ValidLessons.j0, Bool.true_and]
  by_cases h12 : (pupils l).length ≤ 12
  · rw [if_neg (by simp; omega), decide_eq_true h12]
    refine all_loop (fun k i => impl_ValidLessons.l0 k l l (l.length : Int) i) l.length (lesAt l) true 20 (fun k i hi hB => ?_) (fun k _ => ?_) k (by omega)
    · simp only [impl_ValidLessons.l0]
      rw [if_pos (lt_cast hi), if_pos (nn_cast i), if_pos (lt_cast hi), Lesson_valid_eq _ hB, wrap_succ hi (by omega)]
      simp only [Option.bind_some, lesAt]
      by_cases h : lesB (rd_T49 l (i : Int)) = true
      · rw [if_pos h]
        by_cases h0 : i = 0
        · rw [if_neg (by omega)]; simp only [h, decide_eq_true h0, Bool.true_or, Bool.and_self, if_true]
        · rw [if_pos (by omega), pred_cast (by omega) hi (by omega), if_pos (nn_cast _), if_pos (by omega), compareLessons_eq _ _ (by omega)]
          simp only [Option.bind_some, cmpL_neg, h, decide_eq_false h0, Bool.false_or, Bool.true_and]
          by_cases h3 : lesLess (rd_T49 l ((i - 1 : Nat) : Int)) (rd_T49 l (i : Int)) = true
          · rw [if_neg (by simp [h3]), if_pos h3]
          · rw [if_pos (by simpa using h3), if_neg h3]
      · rw [if_neg h]; simp [h]
    · simp only [impl_ValidLessons.l0]
      rw [if_neg (nlt_cast _)]
  · rw [if_pos (by simp; omega), decide_eq_false h12]; simp
theorem smi_lessons (l : List S49) : ∀ y ∈ l, smiLesson y := fun _ _ => trivial
end Go.Proofs.Ytleajljmjohcaaa.P

namespace Go.Proofs.Ytleajljmjohcaaa.P
open Go.RowKit Go.Proofs.YtleajljmjohcaaaW.PrintWords Go.Proofs.YtleajljmjohcaaaL
def ofB (l : List S49) (p : ByteArray) : List S49 := l.filter fun x => decide (x.f1.toList = p.toList)
theorem ofB_length (l : List S49) (p : ByteArray) : (ofB l p).length ≤ l.length := List.length_filter_le _ _
theorem lessons_len {l : List S49} (h : lessonsB l = true) : l.length ≤ 64 := by
  unfold lessonsB at h
  simp only [Bool.and_eq_true, decide_eq_true_iff] at h
  exact h.2.1
theorem l28Of_eq {l : List S49} (hl : l.length ≤ 1048576) (p : ByteArray) {k : Nat} (hk : l.length + 10 ≤ k) : spec_l28Of.f k l p = some (ofB l p) := by
  unfold spec_l28Of.f ofB
  refine (list_loop (fun k s i => spec_l28Of.l0 k l p s i) l (fun r s => s ++ r.filter fun x => decide (x.f1.toList = p.toList)) (fun i s => s.length ≤ i) 0 (fun k i hi s hI hB => ?_) (fun k s hI => ?_) k [] (by omega) (by simp)).trans (by simp)
  · right
    simp only [spec_l28Of.l0]
    rw [if_pos (lt_cast hi), if_pos (nn_cast i), rd_iLesson hi, wrap_succ hi (by omega), List.filter_cons]
    by_cases h : l[i].f1.toList = p.toList
    · rw [if_pos (decide_eq_true h), if_pos h, if_pos (by omega)]
      exact ⟨s ++ [l[i]], by simp; omega, by rw [List.append_assoc]; rfl, rfl⟩
    · rw [if_neg (c := decide _ = true) (by simpa using h), if_neg h]
      exact ⟨s, by omega, rfl, rfl⟩
  · simp only [spec_l28Of.l0]
    rw [if_neg (nlt_cast _)]; simp
theorem lessonsOf_eq (l : List S49) (p : ByteArray) {k : Nat} (hk : 400 ≤ k) : impl_lessonsOf.f k l p = some (if lessonsB l = true then (if (ofB l p).length = 0 then ([], 3) else (ofB l p, 0)) else ([], 1)) := by
  unfold impl_lessonsOf.f
  rw [ValidLessons_eq hk]; simp only [Option.bind_some]
  by_cases hv : lessonsB l = true
  · rw [if_pos hv, if_pos hv]
    have hl := lessons_len hv
    refine (list_loop (fun k s i => impl_lessonsOf.l0 k p s l (l.length : Int) i) l (fun r s => if (s ++ ofB r p).length = 0 then ([], 3) else (s ++ ofB r p, 0)) (fun i s => s.length ≤ i) 0 (fun k i hi s hI hB => ?_) (fun k s hI => ?_) k [] (by omega) (by simp)).trans (by simp)
    · right
      simp only [impl_lessonsOf.l0]
      rw [if_pos (lt_cast hi), if_pos (nn_cast i), if_pos (lt_cast hi), rd_iLesson hi, wrap_succ hi (by omega)]
      by_cases h : l[i].f1.toList = p.toList
      · rw [if_pos h, if_pos (show s.length < 2513169434916 by omega)]
        have e : s ++ ofB (l[i] :: l.drop (i + 1)) p = (s ++ [l[i]]) ++ ofB (l.drop (i + 1)) p := by
          unfold ofB; rw [List.filter_cons, if_pos (decide_eq_true h), List.append_assoc]; rfl
        exact ⟨s ++ [l[i]], by simp; omega, by rw [e], rfl⟩
      · rw [if_neg h]
        have e : ofB (l[i] :: l.drop (i + 1)) p = ofB (l.drop (i + 1)) p := by
          unfold ofB; rw [List.filter_cons, if_neg (by simpa using h)]
        exact ⟨s, by omega, by rw [e], rfl⟩
    · simp only [impl_lessonsOf.l0]
      rw [if_neg (nlt_cast _)]
      have e : ofB ([] : List S49) p = [] := rfl
      rw [e, List.append_nil]
      by_cases h : s.length = 0
      · rw [if_pos (by omega), if_pos h]
      · rw [if_neg (by omega), if_neg h]
  · rw [if_neg hv, if_neg hv]
def askB (l : List S49) (p : ByteArray) : Int := if lessonsB l = true then (if (ofB l p).length = 0 then 3 else 0) else 1
theorem l28Ask_eq {l : List S49} (hl : l.length ≤ 1048576) (p : ByteArray) {k : Nat} (hk : 1049000 ≤ k) : spec_l28Ask.f k l p = some (askB l p) := by
  unfold spec_l28Ask.f askB
  rw [l28Ok_eq hl hk]; simp only [Option.bind_some]
  by_cases hv : lessonsB l = true
  · rw [if_pos hv, if_pos hv, l28Of_eq hl p (by omega)]; simp only [Option.bind_some]
    by_cases h : (ofB l p).length = 0
    · rw [if_pos (by omega), if_pos h]
    · rw [if_neg (by omega), if_neg h]
  · rw [if_neg hv, if_neg hv]
end Go.Proofs.Ytleajljmjohcaaa.P

namespace Go.Proofs.Ytleajljmjohcaaa.P
open Go.RowKit Go.Proofs.YtleajljmjohcaaaW.PrintWords Go.Proofs.YtleajljmjohcaaaW.PrintMore Go.Proofs.YtleajljmjohcaaaL
def topics (l : List S49) : List ByteArray := puts (l.map (·.f2)) []
theorem l28Topics_eq {l : List S49} (hl : l.length ≤ 64) {k : Nat} (hk : 300 ≤ k) : spec_l28Topics.f k l = some (topics l) := by
  unfold spec_l28Topics.f topics
  refine list_loop (fun k s i => spec_l28Topics.l0 k l s i) l (fun r s => puts (r.map (·.f2)) s) (fun i s => s.length ≤ i) 200 (fun k i hi s hI hB => ?_) (fun k s hI => ?_) k [] (by omega) (by simp)
  · right
    simp only [spec_l28Topics.l0]
    rw [if_pos (lt_cast hi), if_pos (nn_cast i), rd_iLesson hi, l28Put_eq (by omega) _ (by omega), wrap_succ hi (by omega)]
    refine ⟨putG l[i].f2 s false, ?_, rfl, rfl⟩
    have := putG_length l[i].f2 s false
    omega
  · simp only [spec_l28Topics.l0]
    rw [if_neg (nlt_cast _)]; rfl
theorem topicsOf_eq {l : List S49} (hl : l.length ≤ 1048576) {k : Nat} (hk : l.length + 10 ≤ k) : impl_topicsOf.f k l = some (topics l) := by
  unfold impl_topicsOf.f topics
  rw [← compactSort_eq]
  refine (list_loop (fun k s i => impl_topicsOf.l0 k s l (l.length : Int) i) l (fun r s => compactS (sortS (s ++ r.map (·.f2)))) (fun i s => s.length = i) 0 (fun k i hi s hI hB => ?_) (fun k s hI => ?_) k [] (by omega) (by simp)).trans ?_
  · right
    simp only [impl_topicsOf.l0]
    rw [if_pos (lt_cast hi), if_pos (nn_cast i), if_pos (lt_cast hi), if_pos (by omega), rd_iLesson hi, wrap_succ hi (by omega)]
    exact ⟨s ++ [l[i].f2], by simp [hI], by rw [List.map_cons, List.append_assoc]; rfl, rfl⟩
  · simp only [impl_topicsOf.l0]
    rw [if_neg (nlt_cast _), Sort_eq (by omega)]
    simp [slices_Compact_S_string.f]
  · simp
end Go.Proofs.Ytleajljmjohcaaa.P

namespace Go.Proofs.Ytleajljmjohcaaa.Pure
open Go.RowKit Go.Proofs.YtleajljmjohcaaaW.PrintWords Go.Proofs.YtleajljmjohcaaaL Go.Proofs.Ytleajljmjohcaaa.P
theorem FnExactTopicsOf : ∀ (x0 : List (P.S48)) (x1 : ByteArray), (x0.length ≤ maxLen ∧ ∀ y ∈ x0, g48 y) → x1.size ≤ maxLen → ∃ k : Nat, P.laws_FnExactTopicsOf.f k x0 x1 = some true := by
  intro x0 x1 ⟨hl0, hg0⟩ _
  refine ⟨2097200, ?_⟩
  unfold laws_FnExactTopicsOf.f
  by_cases hsx1 : (x1.size : Int) > 1048576
  · rw [if_pos hsx1]
  rw [if_neg hsx1]
  obtain ⟨r, hr, h⟩ := szLessonS_some hl0 hg0 (a := 1048576) (by omega) (by omega) (k := 2097200) (by omega)
  rw [hr]; simp only [Option.bind_some]
  by_cases h0 : r < 0
  · rw [if_pos h0]
  rw [if_neg h0]
  obtain ⟨_, _, z0, s0⟩ := h.resolve_left h0
  have hz : (x0.map cLesson).length ≤ 1048576 := by simpa using z0
  have hT : ∀ k, 1048600 ≤ k → laws_toLessonS.f k x0 = some (x0.map cLesson) := fun k hk => toLessonS_eq z0 s0 hk
  have hE : ∀ k, 1048600 ≤ k → laws_eqLessonS.f k (x0.map cLesson) (x0.map cLesson) = some true := fun k hk => by rw [eqLessonS_eq hz (smi_lessons _) hk]; simp
  rw [hT _ (by omega)]
  simp only [Option.bind_some]
  generalize x0.map cLesson = l at hz hT hE ⊢
  obtain ⟨v, hS, hI, hb⟩ : ∃ v, (∀ k, 2097000 ≤ k → spec_TopicsOf.f k l x1 = some v) ∧ (∀ k, 2097000 ≤ k → impl_TopicsOf.f k l x1 = some v) ∧ v.1.length ≤ 100 := by
    by_cases hv : lessonsB l = true
    · have hl := lessons_len hv
      have ho := ofB_length l x1
      by_cases h3 : (ofB l x1).length = 0
      · refine ⟨([], 3), fun k hk => ?_, fun k hk => ?_, by simp⟩
        · unfold spec_TopicsOf.f; rw [l28Ask_eq hz x1 (by omega)]; simp [askB, hv, h3]
        · unfold impl_TopicsOf.f; rw [lessonsOf_eq l x1 (by omega)]; simp [hv, h3]
      · have hA : askB l x1 = 0 := by unfold askB; rw [if_pos hv, if_neg h3]
        refine ⟨(topics (ofB l x1), 0), fun k hk => ?_, fun k hk => ?_, ?_⟩
        · unfold spec_TopicsOf.f; rw [l28Ask_eq hz x1 (by omega), hA]; simp only [Option.bind_some, if_true]
          rw [l28Of_eq hz x1 (by omega)]; simp only [Option.bind_some]
          rw [l28Topics_eq (by omega) (by omega)]; rfl
        · unfold impl_TopicsOf.f; rw [lessonsOf_eq l x1 (by omega), if_pos hv, if_neg h3]; simp only [Option.bind_some, if_true]
          rw [topicsOf_eq (by omega) (by omega)]; rfl
        · have := puts_length ((ofB l x1).map (·.f2)) []
          unfold topics; simp at this ⊢; omega
    · refine ⟨([], 1), fun k hk => ?_, fun k hk => ?_, by simp⟩
      · unfold spec_TopicsOf.f; rw [l28Ask_eq hz x1 (by omega)]; simp [askB, hv]
      · unfold impl_TopicsOf.f; rw [lessonsOf_eq l x1 (by omega)]; simp [hv]
  rw [hS _ (by omega)]
  simp only [Option.bind_some]
  rw [hI _ (by omega)]
  simp only [Option.bind_some]
  have hQ : ∀ k, 1048600 ≤ k → laws_eqStringS.f k v.1 v.1 = some true := fun k hk => by rw [eqStringS_eq (by omega) hk]; simp
  rw [hQ _ (by omega)]
  simp only [Option.bind_some, if_true, bne_self_eq_false]
  rw [laws_FnExactTopicsOf.j0, if_neg (by decide), hT _ (by omega)]; simp only [Option.bind_some]
  rw [hE _ (by omega)]; simp only [Option.bind_some, if_true]
  rw [markLessonS_eq (by omega) (by omega) (by omega)]; simp only [Option.bind_some]
  rw [if_neg (by omega), hQ _ (by omega)]; simp only [Option.bind_some, if_true]
  rw [laws_FnExactTopicsOf.j1, if_neg (by simp), markStringS_eq (by omega) (by omega) (by omega)]; simp only [Option.bind_some]
  rw [heldStringS_mk (by omega) (by omega) (by omega)]; simp only [Option.bind_some]
  rw [if_neg (by omega), if_pos trivial, hT _ (by omega)]; simp only [Option.bind_some]
  rw [hI _ (by omega)]; simp only [Option.bind_some]
  rw [hQ _ (by omega)]; simp only [Option.bind_some, if_true]
  rw [laws_FnExactTopicsOf.j2, if_neg (by simp), heldStringS_mk (by omega) (by omega) (by omega)]; simp only [Option.bind_some]
  rw [if_neg (by omega), if_pos trivial]
end Go.Proofs.Ytleajljmjohcaaa.Pure
