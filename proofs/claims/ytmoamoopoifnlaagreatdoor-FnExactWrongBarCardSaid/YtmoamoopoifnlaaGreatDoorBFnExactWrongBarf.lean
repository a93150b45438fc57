/- Part f of what FnExactWrongBar stands on: functions of the program as Lean functions with their walks, and plain lemmas. -/
import Derived.Test.YtmoamoopoifnlaaGreatDoorBFnExactWrongBara
import Derived.Test.YtmoamoopoifnlaaGreatDoorBFnExactWrongBard
import Derived.Test.YtmoamoopoifnlaaGreatDoorBFnExactWrongBarc
import Derived.Test.YtmoamoopoifnlaaGreatDoorBFnExactWrongBare
import Derived.Test.YtmoamoopoifnlaaGreatDoorBFnExactWrongBarb
namespace Go.Proofs.YtmoamoopoifnlaaGreatDoor.P
open Go.RowKit Go.Proofs.YtmoamoopoifnlaaGreatDoorW.PrintWords Go.Proofs.YtmoamoopoifnlaaGreatDoorL
def NM : List UInt8 := [83, 114, 82, 103, 71, 109, 77, 80, 100, 68, 110, 78]
def DG : List UInt8 := [48, 49, 50, 51, 52, 53, 54, 55, 56, 57]
def noteW (x : S67) : List UInt8 := p1 x.f0 ++ (if x.f1 = 1 then [] else Lib.itoa x.f1)
def nameOf (l : List UInt8) : List UInt8 := Lib.trimRightS l DG
def oneX (l : List UInt8) : S67 := ⟨(readPt 1 0 (baL (nameOf l))).1, if nameOf l = l then 1 else (pairN (numV (l.drop (nameOf l).length))).1⟩
def oneN (l : List UInt8) : Option S67 := if (readPt 1 0 (baL (nameOf l))).2 = true then (if noteB (oneX l) = true ∧ noteW (oneX l) = l then some (oneX l) else none) else none
theorem key10 : keyB 1 0 = true := by decide
theorem pt1_data (p : Int) : (pt 1 0 p).data.toList = p1 p := by
  have hn := tab_at (g := fun t => (nameT t).data.toList) (h := fun j => [([83, 114, 82, 103, 71, 109, 77, 80, 100, 68, 110, 78] : List UInt8).getD j 0]) name_tab p
  (try simp only at hn)
  unfold pt p1
  rw [if_pos rfl]
  split
  · rw [ba_app, hn]; rfl
  · split
    · rw [ba_app, hn]; rfl
    · exact hn
theorem pitchText_eq {p : Int} (h0 : -12 ≤ p) (h1 : p ≤ 23) : impl_pitchText.f p = some (pt 1 0 p) := by
  have := pitchIn_eq key10 h0 h1
  unfold impl_pitchIn.f at this
  simpa using this
theorem named_lst (a : ByteArray) : ∀ (n : Nat) (p : Int), -12 ≤ p → p + n = 24 → impl_pitchNamed.lst (impl_pitchNamed.q a) n p = some (readL 1 0 a n p) := by
  intro n
  induction n with
  | zero => intro p _ _; rfl
  | succ n ih =>
    intro p h0 h1
    have := readPitch_lst a key10 (n + 1) p h0 h1
    rw [← this]
    simp only [impl_pitchNamed.lst, impl_readPitchIn.lst, impl_pitchNamed.q, impl_readPitchIn.q]
    rw [pitchText_eq h0 (by omega), pitchIn_eq key10 h0 (by omega)]
    simp only [Option.bind_some]
    have e := ih (p + 1) (by omega) (by omega)
    have e2 := readPitch_lst a key10 n (p + 1) (by omega) (by omega)
    have e3 : impl_pitchNamed.lst (impl_pitchNamed.q a) n (p + 1) = impl_readPitchIn.lst (impl_readPitchIn.q 1 0 a) n (p + 1) := by rw [e, e2]
    split
    · rfl
    · exact e3
theorem pitchNamed_eq (a : ByteArray) : impl_pitchNamed.f a = some (readPt 1 0 a) := named_lst a 36 (-12) (by omega) (by omega)
theorem dg_iff : ∀ b : Fin 256, DG.contains (UInt8.ofNat b.val) = digB (UInt8.ofNat b.val) := by decide +kernel
theorem u8_all {P : UInt8 → Prop} (h : ∀ b : Fin 256, P (UInt8.ofNat b.val)) (c : UInt8) : P c := by
  have := h ⟨c.toNat, c.toNat_lt⟩
  simpa using this
theorem dg_eq (c : UInt8) : DG.contains c = digB c := u8_all (P := fun c => DG.contains c = digB c) dg_iff c
theorem trim_app (l : List UInt8) : ∀ (s : List UInt8), s.all digB = true → nameOf (l ++ s) = nameOf l := by
  intro s h
  unfold nameOf Lib.trimRightS
  rw [List.reverse_append]
  congr 1
  refine List.dropWhile_append_of_pos (fun a ha => ?_)
  rw [dg_eq]
  exact List.all_eq_true.1 h a (List.mem_reverse.1 ha)
theorem trim_le (l : List UInt8) : (nameOf l).length ≤ l.length := by
  unfold nameOf Lib.trimRightS
  rw [List.length_reverse]
  have := (List.dropWhile_sublist (l := l.reverse) (DG.contains ·)).length_le
  rw [List.length_reverse] at this
  exact this
theorem p1_trim : ∀ p : Fin 36, nameOf (p1 ((p.val : Int) - 12)) = p1 ((p.val : Int) - 12) := by decide +kernel
theorem p1_name {p : Int} (h0 : -12 ≤ p) (h1 : p ≤ 23) : nameOf (p1 p) = p1 p := by
  have := p1_trim ⟨(p + 12).toNat, by omega⟩
  simp only at this
  rw [show (((p + 12).toNat : Nat) : Int) - 12 = p by omega] at this
  exact this
theorem itoa_dig {n : Int} (h : 0 ≤ n) : (Lib.itoa n).all digB = true ∧ Lib.itoa n ≠ [] := by
  unfold Lib.itoa
  rw [if_neg (by omega)]
  have := dec_spec n.toNat n.toNat (Nat.le_refl _)
  exact ⟨this.2.1, this.1⟩
theorem noteB_iff {x : S67} : noteB x = true ↔ (-12 ≤ x.f0 ∧ x.f0 ≤ 23) ∧ 1 ≤ x.f1 ∧ x.f1 ≤ 64 := by
  unfold noteB
  rw [Bool.and_eq_true, Bool.and_eq_true, Bool.and_eq_true, decide_eq_true_iff, decide_eq_true_iff, decide_eq_true_iff, decide_eq_true_iff]
theorem baL_p1 (p : Int) : baL (p1 p) = pt 1 0 p := by rw [← pt1_data, data_baL]
theorem one_back {x : S67} (hx : noteB x = true) : oneN (noteW x) = some x := by
  obtain ⟨⟨a1, a2⟩, b1, b2⟩ := noteB_iff.1 hx
  have hd := itoa_dig (n := x.f1) (by omega)
  have hn : nameOf (noteW x) = p1 x.f0 := by
    unfold noteW
    rw [trim_app _ _ (by split; rfl; exact hd.1), p1_name a1 a2]
  have hr : readPt 1 0 (baL (nameOf (noteW x))) = (x.f0, true) := by rw [hn, baL_p1, readPt_pt key10 a1 a2]
  have he : oneX (noteW x) = x := by
    unfold oneX
    rw [hr, hn]
    obtain ⟨p, n⟩ := x
    dsimp only at *
    by_cases h1 : n = 1
    · subst h1
      rw [if_pos (by unfold noteW; simp)]
    · have hw : noteW ⟨p, n⟩ = p1 p ++ Lib.itoa n := by unfold noteW; rw [if_neg h1]
      rw [hw, if_neg (fun e => hd.2 (by have := congrArg List.length e; rw [List.length_append] at this; exact List.eq_nil_of_length_eq_zero (by omega))), List.drop_left, itoa_short (by omega) (by omega)]
      rfl
  unfold oneN
  rw [hr, if_pos rfl, he, if_pos ⟨hx, rfl⟩]
theorem one_of {l : List UInt8} {x : S67} (h : oneN l = some x) : noteB x = true ∧ noteW x = l := by
  unfold oneN at h
  split at h
  · split at h
    · next hc => rw [← Option.some.inj h]; exact hc
    · cases h
  · cases h
/-- The reference's road over a word's letters. -/
def namedL : List UInt8 → Nat → UInt8 → Int
  | [], _, _ => -1
  | b :: r, i, c => if b = c then (i : Int) else namedL r (i + 1) c
def named (c : UInt8) : Int := namedL NM 0 c
theorem named_hit : ∀ c : Fin 256, 0 ≤ named (UInt8.ofNat c.val) → (named (UInt8.ofNat c.val)).toNat < 12 ∧ NM.getD (named (UInt8.ofNat c.val)).toNat 0 = UInt8.ofNat c.val := by decide +kernel
theorem named_of : ∀ t : Fin 12, named (NM.getD t.val 0) = (t.val : Int) := by decide +kernel
theorem Named_l0 (s : ByteArray) (c : UInt8) (hs : s.size ≤ 1000) : ∀ (d K i : Nat), i + d = s.size → d + 1 ≤ K → spec_l03Named.l0 K (c.toNat : Int) s (i : Int) = some (namedL (s.data.toList.drop i) i c) := by
  have hz : s.data.toList.length = s.size := (Lib.size_eq s).symm
  intro d
  induction d with
  | zero =>
    intro K i hi hK
    obtain ⟨K, rfl⟩ : ∃ m, K = m + 1 := ⟨K - 1, by omega⟩
    simp only [spec_l03Named.l0]
    rw [if_neg (by omega), List.drop_eq_nil_of_le (by omega)]; rfl
  | succ d ih =>
    intro K i hi hK
    obtain ⟨K, rfl⟩ : ∃ m, K = m + 1 := ⟨K - 1, by omega⟩
    have hlt : i < s.data.toList.length := by omega
    have hd := List.drop_eq_getElem_cons hlt
    simp only [spec_l03Named.l0]
    rw [if_pos (by omega), if_pos (nn_cast i), bt_drop hd, hd]
    unfold namedL
    by_cases h : s.data.toList[i] = c
    · rw [if_pos (by rw [h]), if_pos h]
    · rw [if_neg (fun e => h (UInt8.toNat_inj.1 (by omega))), if_neg h, wrap_succ hlt (by omega), ih K (i + 1) (by omega) (by omega)]
theorem Named_eq (c : UInt8) {K : Nat} (hK : 13 ≤ K) : spec_l03Named.f K (c.toNat : Int) = some (named c) := by
  unfold spec_l03Named.f spec_l03Names.f
  simp only [Option.bind_some]
  exact Named_l0 (⟨#[83, 114, 82, 103, 71, 109, 77, 80, 100, 68, 110, 78]⟩ : ByteArray) c (by decide) 12 K 0 (by decide) hK
def afterO (p : Int) (r : List UInt8) : Option S67 := if r = [] then some ⟨p, 1⟩ else match numV r with | none => none | some n => if n = 1 then none else if (decide (1 ≤ n) && decide (n ≤ 64)) = true then some ⟨p, n⟩ else none
def octS (t : Int) (r : List UInt8) : Option S67 := match r with | [] => afterO t [] | b :: q => if b = 44 then afterO (wrap64 (t - 12)) q else if b = 39 then afterO (wrap64 (t + 12)) q else afterO t (b :: q)
def specOne (l : List UInt8) : Option S67 := match l with | [] => none | c :: r => if named c < 0 then none else octS (named c) r
def encN : Option S67 → Int × Int × Bool | some x => (x.f0, x.f1, true) | none => (0, 0, false)
theorem afterO_of {p : Int} {r : List UInt8} {x : S67} (h : afterO p r = some x) : x.f0 = p ∧ (1 ≤ x.f1 ∧ x.f1 ≤ 64) ∧ r = (if x.f1 = 1 then [] else Lib.itoa x.f1) := by
  unfold afterO at h
  by_cases h0 : r = []
  · rw [if_pos h0] at h; obtain rfl := Option.some.inj h; exact ⟨rfl, ⟨by show (1 : Int) ≤ 1; omega, by show (1 : Int) ≤ 64; omega⟩, by rw [h0]; rfl⟩
  rw [if_neg h0] at h
  cases hn : numV r with
  | none => rw [hn] at h; cases h
  | some n =>
    rw [hn] at h
    dsimp only at h
    by_cases h1 : n = 1
    · rw [if_pos h1] at h; cases h
    rw [if_neg h1] at h
    split at h
    · next hc =>
      rw [Bool.and_eq_true, decide_eq_true_iff, decide_eq_true_iff] at hc
      obtain rfl := Option.some.inj h
      refine ⟨rfl, hc, ?_⟩
      show r = if n = 1 then [] else Lib.itoa n
      rw [if_neg h1, (num_itoa hn).1]
    · cases h
theorem afterO_to {p n : Int} (h0 : 1 ≤ n) (h1 : n ≤ 64) : afterO p (if n = 1 then [] else Lib.itoa n) = some ⟨p, n⟩ := by
  by_cases h : n = 1
  · subst h; rfl
  · have hd := itoa_dig (n := n) (by omega)
    unfold afterO
    rw [if_neg h, if_neg hd.2, itoa_short (by omega) (by omega)]
    dsimp only
    rw [if_neg h, decide_eq_true h0, decide_eq_true h1]; rfl
theorem octS_44 (t : Int) (q : List UInt8) : octS t (44 :: q) = afterO (wrap64 (t - 12)) q := by
  show (if (44 : UInt8) = 44 then afterO (wrap64 (t - 12)) q else if (44 : UInt8) = 39 then afterO (wrap64 (t + 12)) q else afterO t (44 :: q)) = _
  rw [if_pos rfl]
theorem octS_39 (t : Int) (q : List UInt8) : octS t (39 :: q) = afterO (wrap64 (t + 12)) q := by
  show (if (39 : UInt8) = 44 then afterO (wrap64 (t - 12)) q else if (39 : UInt8) = 39 then afterO (wrap64 (t + 12)) q else afterO t (39 :: q)) = _
  rw [if_neg (by decide), if_pos rfl]
theorem octS_else (t : Int) (b : UInt8) (q : List UInt8) (h4 : ¬ b = 44) (h3 : ¬ b = 39) : octS t (b :: q) = afterO t (b :: q) := by
  show (if b = 44 then afterO (wrap64 (t - 12)) q else if b = 39 then afterO (wrap64 (t + 12)) q else afterO t (b :: q)) = _
  rw [if_neg h4, if_neg h3]
theorem p1_cons (p : Int) : p1 p = NM.getD (p % 12).toNat 0 :: (if p / 12 < 0 then [44] else if p / 12 > 0 then [39] else []) := rfl
theorem spec_of {l : List UInt8} {x : S67} (h : specOne l = some x) : noteB x = true ∧ noteW x = l := by
  cases l with
  | nil => cases h
  | cons c r =>
    unfold specOne at h
    dsimp only at h
    by_cases hc : named c < 0
    · rw [if_pos hc] at h; cases h
    rw [if_neg hc] at h
    obtain ⟨t1, t2⟩ := u8_all (P := fun c => 0 ≤ named c → (named c).toNat < 12 ∧ NM.getD (named c).toNat 0 = c) named_hit c (by omega)
    have fin : ∀ (p : Int) (sg q : List UInt8), p % 12 = named c → (if p / 12 < 0 then [44] else if p / 12 > 0 then [39] else []) = sg → r = sg ++ q → -12 ≤ p → p ≤ 23 → afterO p q = some x → noteB x = true ∧ noteW x = c :: r := by
      intro p sg q e1 e2 e3 e4 e5 e6
      obtain ⟨f1, f2, f3⟩ := afterO_of e6
      refine ⟨noteB_iff.2 ⟨⟨by omega, by omega⟩, f2⟩, ?_⟩
      unfold noteW
      rw [f1, p1_cons, e1, e2, t2, ← f3, e3]; rfl
    unfold octS at h
    cases r with
    | nil => exact fin (named c) [] [] (by omega) (by rw [if_neg (by omega), if_neg (by omega)]) rfl (by omega) (by omega) h
    | cons b q =>
      dsimp only at h
      by_cases h4 : b = 44
      · subst h4
        rw [if_pos rfl, wrap_id (by omega) (by omega)] at h
        exact fin (named c - 12) [44] q (by omega) (by rw [if_pos (by omega)]) rfl (by omega) (by omega) h
      rw [if_neg h4] at h
      by_cases h3 : b = 39
      · subst h3
        rw [if_pos rfl, wrap_id (by omega) (by omega)] at h
        exact fin (named c + 12) [39] q (by omega) (by rw [if_neg (by omega), if_pos (by omega)]) rfl (by omega) (by omega) h
      rw [if_neg h3] at h
      exact fin (named c) [] (b :: q) (by omega) (by rw [if_neg (by omega), if_neg (by omega)]) rfl (by omega) (by omega) h
theorem spec_to {x : S67} (hx : noteB x = true) : specOne (noteW x) = some x := by
  obtain ⟨⟨a1, a2⟩, b1, b2⟩ := noteB_iff.1 hx
  obtain ⟨p, n⟩ := x
  dsimp only at a1 a2 b1 b2
  have hd := itoa_dig (n := n) (by omega)
  have hnm : named (NM.getD (p % 12).toNat 0) = p % 12 := by
    have := named_of ⟨(p % 12).toNat, by omega⟩
    simp only at this
    rw [this]; omega
  unfold noteW
  rw [p1_cons, List.cons_append]
  show (if named (NM.getD (p % 12).toNat 0) < 0 then none else octS (named (NM.getD (p % 12).toNat 0)) ((if p / 12 < 0 then [44] else if p / 12 > 0 then [39] else []) ++ (if n = 1 then [] else Lib.itoa n))) = _
  rw [hnm, if_neg (by omega)]
  have ha := afterO_to (p := p) b1 b2
  by_cases o1 : p / 12 < 0
  · rw [if_pos o1, List.singleton_append, octS_44, wrap_id (by omega) (by omega), show p % 12 - 12 = p by omega]; exact ha
  rw [if_neg o1]
  by_cases o2 : p / 12 > 0
  · rw [if_pos o2, List.singleton_append, octS_39, wrap_id (by omega) (by omega), show p % 12 + 12 = p by omega]; exact ha
  rw [if_neg o2, show p % 12 = p by omega, List.nil_append]
  by_cases h1 : n = 1
  · subst h1; exact ha
  · rw [if_neg h1] at ha ⊢
    cases hi : Lib.itoa n with
    | nil => exact absurd hi hd.2
    | cons b q =>
      rw [hi] at ha hd
      have hb := List.all_eq_true.1 hd.1 b List.mem_cons_self
      rw [digB_iff] at hb
      rw [octS_else _ _ _ (fun e => by rw [e] at hb; exact absurd hb (by decide)) (fun e => by rw [e] at hb; exact absurd hb (by decide))]
      exact ha
theorem specOne_eq (l : List UInt8) : specOne l = oneN l := by
  cases h : specOne l with
  | some x =>
    obtain ⟨h1, h2⟩ := spec_of h
    rw [← h2, one_back h1]
  | none =>
    cases h2 : oneN l with
    | none => rfl
    | some x =>
      obtain ⟨h3, h4⟩ := one_of h2
      rw [← h4, spec_to h3] at h
      cases h
end Go.Proofs.YtmoamoopoifnlaaGreatDoor.P

namespace Go.Proofs.YtmoamoopoifnlaaGreatDoor.P
open Go.RowKit Go.Proofs.YtmoamoopoifnlaaGreatDoorW.PrintWords Go.Proofs.YtmoamoopoifnlaaGreatDoorL
theorem l09Length_eq (n : Int) : spec_l09Length.f n = some (decide (1 ≤ n) && decide (n ≤ 64)) := by unfold spec_l09Length.f; rw [in_eq]; rfl
theorem ext1 (a : ByteArray) : (a.extract 1 a.size).data.toList = a.data.toList.drop 1 := by
  have := Lib.size_eq a
  rw [Lib.extract_eq]
  refine (baL_data _).trans ?_
  rw [List.take_of_length_le]
  rw [List.length_drop]; omega
theorem ext1_size (a : ByteArray) : (a.extract 1 a.size).size = a.size - 1 := by
  rw [Lib.size_eq, ext1, List.length_drop, ← Lib.size_eq]
theorem tl_iff (a b : ByteArray) : a.toList = b.toList ↔ a.data.toList = b.data.toList := by rw [ByteArray.toList_eq, ByteArray.toList_eq]
theorem bt_zero {a : ByteArray} {c : UInt8} {r : List UInt8} (h : a.data.toList = c :: r) : bt a 0 = (c.toNat : Int) := bt_drop (i := 0) (by rw [List.drop_zero]; exact h)
theorem One_j2 (p : Int) (b : ByteArray) (hb : b.size ≤ 1048576) {K : Nat} (hK : 100 ≤ K) : spec_l09ReadOne.j2 K p b = some (encN (afterO p b.data.toList)) := by
  obtain ⟨K, rfl⟩ : ∃ m, K = m + 1 := ⟨K - 1, by omega⟩
  simp only [spec_l09ReadOne.j2]
  unfold afterO
  by_cases h0 : b.data.toList = []
  · rw [if_pos ((empty_iff b).2 h0), if_pos h0]; rfl
  rw [if_neg (fun e => h0 ((empty_iff b).1 e)), if_neg h0, Number_eq b hb (by omega)]
  simp only [Option.bind_some]
  cases numV b.data.toList with
  | none => rfl
  | some n =>
    show (if true = true then (if n = 1 then some (0, 0, false) else ((spec_l09Length.f n).bind fun t => if t = true then some (p, n, true) else some (0, 0, false))) else _) = _
    rw [if_pos rfl, l09Length_eq]
    simp only [Option.bind_some]
    by_cases h1 : n = 1
    · rw [if_pos h1, if_pos h1]; rfl
    rw [if_neg h1, if_neg h1]
    by_cases h2 : (decide (1 ≤ n) && decide (n ≤ 64)) = true
    · rw [if_pos h2, if_pos h2]; rfl
    · rw [if_neg h2, if_neg h2]; rfl
theorem One_j1 (t : Int) (b : ByteArray) (hb : b.size ≤ 1048576) {K : Nat} (hK : 101 ≤ K) : (if b.data.toList = [] then spec_l09ReadOne.j1 K t b false else spec_l09ReadOne.j1 K t b (bt b 0 == 44)) = some (encN (octS t b.data.toList)) := by
  obtain ⟨K, rfl⟩ : ∃ m, K = m + 1 := ⟨K - 1, by omega⟩
  cases hl : b.data.toList with
  | nil =>
    rw [if_pos rfl]
    simp only [spec_l09ReadOne.j1]
    rw [if_neg (by decide), if_pos ((empty_iff b).2 hl), One_j2 t b hb (by omega), hl]; rfl
  | cons x q =>
    have hz : b.size = q.length + 1 := by rw [Lib.size_eq, hl]; rfl
    have hne : ¬ b.toList = [] := fun e => by have := (empty_iff b).1 e; rw [hl] at this; cases this
    have he : (b.extract 1 b.size).data.toList = q := by rw [ext1, hl]; rfl
    have hs : (b.extract 1 b.size).size ≤ 1048576 := by rw [ext1_size]; omega
    rw [if_neg (by simp), bt_zero hl]
    simp only [spec_l09ReadOne.j1]
    by_cases h4 : x = 44
    · subst h4
      rw [if_pos (by decide), if_pos (by omega), One_j2 _ _ hs (by omega), he, octS_44]
    have h4' : ¬ (((x.toNat : Int) == 44) = true) := fun e => h4 (UInt8.toNat_inj.1 (by have := eq_of_beq e; show x.toNat = 44; omega))
    rw [if_neg h4', if_neg hne, if_pos (by omega), bt_zero hl]
    by_cases h3 : x = 39
    · subst h3
      rw [if_pos (by decide), if_pos (by omega), One_j2 _ _ hs (by omega), he, octS_39]
    have h3' : ¬ ((x.toNat : Int) = 39) := fun e => h3 (UInt8.toNat_inj.1 (by show x.toNat = 39; omega))
    rw [if_neg h3', One_j2 t b hb (by omega), hl, octS_else _ _ _ h4 h3]
theorem ReadOne_eq (a : ByteArray) (ha : a.size ≤ 1048576) {K : Nat} (hK : 200 ≤ K) : spec_l09ReadOne.f K a = some (encN (oneN a.data.toList)) := by
  rw [← specOne_eq]
  unfold spec_l09ReadOne.f specOne
  obtain ⟨K, rfl⟩ : ∃ m, K = m + 1 := ⟨K - 1, by omega⟩
  cases hl : a.data.toList with
  | nil =>
    rw [if_pos ((empty_iff a).2 hl)]
    simp only [spec_l09ReadOne.j0]
    rw [if_pos trivial]; rfl
  | cons c r =>
    have hz : a.size = r.length + 1 := by rw [Lib.size_eq, hl]; rfl
    have hne : ¬ a.toList = [] := fun e => by have := (empty_iff a).1 e; rw [hl] at this; cases this
    have he : (a.extract 1 a.size).data.toList = r := by rw [ext1, hl]; rfl
    have hs : (a.extract 1 a.size).size ≤ 1048576 := by rw [ext1_size]; omega
    have hs2 : (a.extract 1 a.size).size = r.length := by rw [ext1_size]; omega
    rw [if_neg hne, if_pos (by omega), bt_zero hl, Named_eq c (by omega)]
    simp only [Option.bind_some, spec_l09ReadOne.j0]
    by_cases hc : named c < 0
    · rw [if_pos (by rw [decide_eq_true hc]), if_pos hc]; rfl
    rw [if_neg (by rw [decide_eq_false hc]; decide), if_neg hc, if_pos (by omega), bt_zero hl, Named_eq c (by omega)]
    simp only [Option.bind_some]
    rw [if_pos (by omega)]
    have h1 := One_j1 (named c) (a.extract 1 a.size) hs (K := K) (by omega)
    rw [he] at h1
    rw [← h1]
    by_cases h0 : r = []
    · rw [if_pos ((empty_iff _).2 (he.trans h0)), if_pos h0]
    · rw [if_neg (fun e => h0 (he.symm.trans ((empty_iff _).1 e))), if_neg h0, if_pos (by have := List.length_pos_iff.2 h0; omega)]
theorem MelodyText_one (x : S67) {K : Nat} (hK : 200 ≤ K) : impl_MelodyText.f K [x] = some (if noteB x = true then baL (noteW x) else (⟨#[]⟩ : ByteArray)) := by
  obtain ⟨K, rfl⟩ : ∃ m, K = m + 2 := ⟨K - 2, by omega⟩
  unfold impl_MelodyText.f
  rw [ValidMelody_eq (by omega)]; simp only [Option.bind_some]
  have hm : melB [x] = noteB x := by unfold melB; simp
  rw [hm]
  by_cases hx : noteB x = true
  rotate_left
  · rw [if_neg hx, if_neg hx]
  rw [if_pos hx, if_pos hx, if_neg (by simp)]
  obtain ⟨⟨a1, a2⟩, b1, b2⟩ := noteB_iff.1 hx
  have hsz := pt_size key10 a1 a2
  have hd := Decimal_size (n := x.f1) (by omega) (by omega)
  have fin : ∀ y : ByteArray, y.size ≤ 99 → y.data.toList = noteW x → impl_MelodyText.l0 (K + 1) [y] [x] (([x] : List S67).length : Int) (wrap64 (0 + 1)) = some (baL (noteW x)) := fun y hy hy2 => by
    have e1 : wrap64 (0 + 1) = 1 := by rw [wrap_id (by omega) (by omega)]; rfl
    simp only [impl_MelodyText.l0]
    rw [if_neg (by rw [e1]; simp), Join_eq (by simp) (fun z hz => by rw [List.mem_singleton] at hz; rw [hz]; exact hy)]
    show some y = _
    rw [← hy2, data_baL]
  simp only [impl_MelodyText.l0]
  rw [if_pos (by simp), if_pos (by decide), if_pos (by simp), show rd_T67 [x] 0 = x from rfl, pitchText_eq a1 a2]
  simp only [Option.bind_some]
  by_cases h1 : x.f1 = 1
  · rw [if_pos h1, if_pos (by simp)]
    exact fin _ (by omega) (by rw [pt1_data]; unfold noteW; rw [if_pos h1, List.append_nil])
  · rw [if_neg h1, Decimal_eq (by omega) (by omega)]
    simp only [Option.bind_some]
    rw [if_pos (by omega), if_pos (by simp)]
    exact fin _ (by rw [ByteArray.size_append]; omega) (by rw [ba_app, pt1_data, dec_list]; unfold noteW; rw [if_neg h1])
def oneR (l : List UInt8) : List S67 × Bool := if l = [45] then ([], true) else match oneN l with | some x => ([x], true) | none => ([], false)
theorem p1_ne (p : Int) : p1 p ≠ [] := by rw [p1_cons]; simp
theorem SplitN_one (a : ByteArray) (ha : a.size ≤ 1048576) (h : (32 : UInt8) ∉ a.data.toList) : strings_SplitN.f a (⟨#[32]⟩ : ByteArray) 49 = some [a] := by
  unfold strings_SplitN.f
  rw [if_pos ⟨⟨by omega, by decide⟩, by decide, by decide⟩]
  unfold strings_SplitN.t
  have h1 := Lib.splitB_data (⟨#[32]⟩ : ByteArray) 0 (min (49 : Int).toNat (a.size + 1) - 1) a
  rw [show (⟨#[32]⟩ : ByteArray).data.toList = [32] from rfl, splitK_no _ _ h] at h1
  have h2 := congrArg (List.map baL) h1
  rw [List.map_map] at h2
  have e : (baL ∘ fun x : ByteArray => x.data.toList) = id := by funext x; exact data_baL x
  rw [e, List.map_id] at h2
  rw [h2]
  show some [baL a.data.toList] = _
  rw [data_baL]
theorem ReadMelody_eq (a : ByteArray) (ha : a.size ≤ 1048576) (h : (32 : UInt8) ∉ a.data.toList) {K : Nat} (hK : 300 ≤ K) : impl_ReadMelody.f K a = some (oneR a.data.toList) := by
  obtain ⟨K, rfl⟩ : ∃ m, K = m + 2 := ⟨K - 2, by omega⟩
  unfold impl_ReadMelody.f oneR
  by_cases h45 : a.data.toList = [45]
  · rw [if_pos (by rw [ByteArray.toList_eq]; exact h45), if_pos h45]
  rw [if_neg (fun e => h45 (by rw [ByteArray.toList_eq] at e; exact e)), if_neg h45, SplitN_one a ha h]
  simp only [Option.bind_some]
  have hz : a.data.toList.length = a.size := (Lib.size_eq a).symm
  have hle := trim_le a.data.toList
  have hT : strings_TrimRight.f a (⟨#[48, 49, 50, 51, 52, 53, 54, 55, 56, 57]⟩ : ByteArray) = some (baL (nameOf a.data.toList)) := by
    unfold strings_TrimRight.f
    rw [if_pos ⟨by omega, by decide, by decide⟩]; rfl
  have e1 : wrap64 (0 + 1) = 1 := by rw [wrap_id (by omega) (by omega)]; rfl
  have fin : ∀ x : S67, (readPt 1 0 (baL (nameOf a.data.toList))).2 = true → x = oneX a.data.toList → impl_ReadMelody.l0 (K + 1) a [x] [a] (([a] : List ByteArray).length : Int) (wrap64 (0 + 1)) = some (match oneN a.data.toList with | some x => ([x], true) | none => ([], false)) := fun x hr hx => by
    simp only [impl_ReadMelody.l0]
    rw [if_neg (by rw [e1]; simp), MelodyText_one x (by omega)]
    simp only [Option.bind_some]
    unfold oneN
    rw [if_pos hr, ← hx]
    by_cases hb : noteB x = true
    · rw [if_pos hb]
      by_cases hw : noteW x = a.data.toList
      · rw [if_pos ((tl_iff _ _).2 (by rw [baL_data]; exact hw)), if_pos ⟨hb, hw⟩]
      · rw [if_neg (fun e => hw (by have := (tl_iff _ _).1 e; rw [baL_data] at this; exact this)), if_neg (fun e => hw e.2)]
    · rw [if_neg hb]
      rw [if_neg (c := (⟨#[]⟩ : ByteArray).toList = a.toList) (fun e => by
        have h0 : a.data.toList = [] := ((tl_iff _ _).1 e).symm
        have h1 := (readL_bounds 36 (-12) hr).2.2
        have h2 := (tl_iff _ _).1 h1
        rw [pt1_data, baL_data, h0] at h2
        exact p1_ne _ h2), if_neg (fun e => hb e.1)]
  simp only [impl_ReadMelody.l0]
  rw [if_pos (by simp), if_pos (by decide), if_pos (by simp), show rdOf ByteArray.empty [a] 0 = a from rfl, hT]
  simp only [Option.bind_some]
  rw [pitchNamed_eq]
  simp only [Option.bind_some]
  by_cases hn : nameOf a.data.toList = a.data.toList
  · rw [if_pos ((tl_iff _ _).2 (by rw [baL_data]; exact hn))]
    by_cases hr : (readPt 1 0 (baL (nameOf a.data.toList))).2 = true
    · rw [if_pos hr, if_pos (by simp)]
      exact fin _ hr (by unfold oneX; rw [if_pos hn])
    · rw [if_neg hr]; unfold oneN; rw [if_neg hr]
  · rw [if_neg (fun e => hn (by have := (tl_iff _ _).1 e; rw [baL_data] at this; exact this)), baL_size, if_pos (by omega), if_pos (by omega)]
    have hx : (a.extract ((((nameOf a.data.toList).length : Nat) : Int)).toNat a.size).data.toList = a.data.toList.drop (nameOf a.data.toList).length := by
      rw [Lib.extract_eq, Int.toNat_natCast]
      refine (baL_data _).trans ?_
      rw [List.take_of_length_le]
      rw [List.length_drop]; omega
    rw [ReadDecimal_eq _ (by rw [Lib.size_eq, hx, List.length_drop]; omega), hx]
    simp only [Option.bind_some]
    by_cases hr : (readPt 1 0 (baL (nameOf a.data.toList))).2 = true
    · rw [if_pos hr, if_pos (by simp)]
      exact fin _ hr (by unfold oneX; rw [if_neg hn])
    · rw [if_neg hr]; unfold oneN; rw [if_neg hr]
end Go.Proofs.YtmoamoopoifnlaaGreatDoor.P

namespace Go.Proofs.YtmoamoopoifnlaaGreatDoor.P
open Go.RowKit Go.Proofs.YtmoamoopoifnlaaGreatDoorW.PrintWords Go.Proofs.YtmoamoopoifnlaaGreatDoorL
def barB (t : List UInt8) : Bool := decide (t = [124]) || decide (t = [124, 124])
def tieB (t : List UInt8) : Bool := t.head? == some 126
def restW (t : List UInt8) : List UInt8 := if tieB t = true then t.drop 1 else t
def addS (s : List Int) (n : Int) : List Int := s.set ((wrap64 ((s.length : Int) - 1)) : Int).toNat (wrap64 ((rd s (wrap64 ((s.length : Int) - 1))) + n))
def addN (o : List S67) (n : Int) : List S67 := o.set ((wrap64 ((o.length : Int) - 1)) : Int).toNat (⟨(rd_T67 o (wrap64 ((o.length : Int) - 1))).f0, wrap64 (((rd_T67 o (wrap64 ((o.length : Int) - 1))).f1) + n)⟩ : S67)
def lastP (o : List S67) : Int := (rd_T67 o (wrap64 ((o.length : Int) - 1))).f0
def tok : List (List UInt8) → List S67 → List Int → Option (List S67 × List Int)
  | [], o, s => some (o, s)
  | t :: r, o, s => if barB t = true then tok r o (s ++ [0]) else match oneN (restW t) with
    | none => none
    | some x => if tieB t = true then (if o = [] ∨ ¬ lastP o = x.f0 then none else tok r (addN o x.f1) (addS s x.f1)) else tok r (o ++ [x]) (addS s x.f1)
def wrd : List (List UInt8) → Bool → Int → Option (List S95)
  | [], _, _ => some []
  | t :: r, lb, lp => if barB t = true then (wrd r lb lp).map ((⟨true, false, ⟨0, 0⟩⟩ : S95) :: ·) else match oneN (restW t) with
    | none => none
    | some x => if tieB t = true ∧ (lb = true ∨ ¬ lp = x.f0) then none else (wrd r false x.f0).map ((⟨false, tieB t, x⟩ : S95) :: ·)
def foldS : List S95 → List Int → List Int
  | [], s => s
  | w :: r, s => if w.f0 = true then foldS r (s ++ [0]) else foldS r (addS s w.f2.f1)
def foldN : List S95 → List S67 → List S67
  | [], o => o
  | w :: r, o => if w.f0 = true then foldN r o else if w.f1 = true then foldN r (addN o w.f2.f1) else foldN r (o ++ [w.f2])
theorem addS_length (s : List Int) (n : Int) : (addS s n).length = s.length := by unfold addS; rw [List.length_set]
theorem addN_length (o : List S67) (n : Int) : (addN o n).length = o.length := by unfold addN; rw [List.length_set]
theorem last_ix {n : Nat} (h1 : 1 ≤ n) (h2 : n ≤ 100000000) : wrap64 ((n : Int) - 1) = ((n - 1 : Nat) : Int) := by rw [wrap_id (by omega) (by omega)]; omega
theorem lastP_add {o : List S67} (n : Int) (h1 : 1 ≤ o.length) (h2 : o.length ≤ 100000000) : lastP (addN o n) = lastP o := by
  have hlt : o.length - 1 < o.length := by omega
  unfold lastP
  rw [addN_length]
  unfold addN
  rw [last_ix h1 h2, rdN_get (by rw [List.length_set]; omega), rdN_get hlt, Int.toNat_natCast, List.getElem_set_self]
theorem lastP_snoc (o : List S67) (x : S67) (h2 : o.length ≤ 10000000) : lastP (o ++ [x]) = x.f0 := by
  unfold lastP
  rw [List.length_append, List.length_singleton, last_ix (by omega) (by omega), rdN_get (by rw [List.length_append]; simp)]
  simp
theorem tok_wrd : ∀ (ws : List (List UInt8)) (o : List S67) (s : List Int) (lb : Bool) (lp : Int), lb = decide (o = []) → (¬ o = [] → lastP o = lp) → o.length + ws.length ≤ 1000000 → tok ws o s = (wrd ws lb lp).map fun b => (foldN b o, foldS b s)
  | [], _, _, _, _, _, _, _ => rfl
  | t :: r, o, s, lb, lp, h1, h2, h3 => by
    rw [List.length_cons] at h3
    unfold tok wrd
    by_cases hb : barB t = true
    · rw [if_pos hb, if_pos hb, tok_wrd r o (s ++ [0]) lb lp h1 h2 (by omega), Option.map_map]; rfl
    rw [if_neg hb, if_neg hb]
    cases oneN (restW t) with
    | none => rfl
    | some x =>
      try dsimp only
      by_cases ht : tieB t = true
      · rw [if_pos ht]
        have hc : (tieB t = true ∧ (lb = true ∨ ¬ lp = x.f0)) ↔ (o = [] ∨ ¬ lastP o = x.f0) := by
          rw [h1, decide_eq_true_iff]
          constructor
          · rintro ⟨_, h | h⟩
            · exact Or.inl h
            · by_cases ho : o = []
              · exact Or.inl ho
              · exact Or.inr (fun e => h ((h2 ho).symm.trans e))
          · rintro (h | h)
            · exact ⟨ht, Or.inl h⟩
            · by_cases ho : o = []
              · exact ⟨ht, Or.inl ho⟩
              · exact ⟨ht, Or.inr (fun e => h ((h2 ho).trans e))⟩
        by_cases hc2 : o = [] ∨ ¬ lastP o = x.f0
        · rw [if_pos hc2, if_pos (hc.2 hc2)]; rfl
        · rw [if_neg hc2, if_neg (fun e => hc2 (hc.1 e))]
          have ho : ¬ o = [] := fun e => hc2 (Or.inl e)
          have hl : lastP o = x.f0 := Classical.not_not.1 (fun e => hc2 (Or.inr e))
          have hp := List.length_pos_iff.2 ho
          have hne : ¬ addN o x.f1 = [] := fun e => by have := congrArg List.length e; rw [addN_length, List.length_nil] at this; omega
          rw [tok_wrd r (addN o x.f1) (addS s x.f1) false x.f0 (by rw [decide_eq_false hne]) (fun _ => (lastP_add _ (by omega) (by omega)).trans hl) (by rw [addN_length]; omega), Option.map_map]
          congr 1
          funext b
          show _ = (foldN ((⟨false, tieB t, x⟩ : S95) :: b) o, foldS ((⟨false, tieB t, x⟩ : S95) :: b) s)
          show _ = ((if false = true then foldN b o else if tieB t = true then foldN b (addN o x.f1) else foldN b (o ++ [x])), (if false = true then foldS b (s ++ [0]) else foldS b (addS s x.f1)))
          simp [ht]
      · rw [if_neg ht, if_neg (fun e => ht e.1)]
        have hne : ¬ o ++ [x] = [] := by simp
        rw [tok_wrd r (o ++ [x]) (addS s x.f1) false x.f0 (by rw [decide_eq_false hne]) (fun _ => lastP_snoc o x (by omega)) (by rw [List.length_append]; simp; omega), Option.map_map]
        congr 1
        funext b
        show _ = ((if false = true then foldN b o else if tieB t = true then foldN b (addN o x.f1) else foldN b (o ++ [x])), (if false = true then foldS b (s ++ [0]) else foldS b (addS s x.f1)))
        simp [ht]
def tokP : Option (List S67 × List Int) → List S67 × List Int × Bool | some y => (y.1, y.2, true) | none => ([], [], false)
def wrdP (acc : List S95) : Option (List S95) → List S95 × Bool | some b => (acc ++ b, true) | none => ([], false)
theorem baL_iff (l m : List UInt8) (b : ByteArray) (h : b = baL l) : b.toList = m ↔ l = m := by rw [h, ByteArray.toList_eq, baL_data]
theorem rest_size (t : List UInt8) : (restW t).length ≤ t.length := by unfold restW; split; rw [List.length_drop]; omega; omega
theorem Tokens_l0 {ws : List (List UInt8)} (hn : ws.length ≤ 10000) (hp : ∀ t ∈ ws, t.length ≤ 10000) : ∀ (d K i : Nat) (o : List S67) (s : List Int), i + d = ws.length → o.length ≤ i → 1 ≤ s.length → s.length ≤ i + 1 → 5 * d + 300 ≤ K → spec_l25Tokens.l0 K o s (ws.map baL) (i : Int) = some (tokP (tok (ws.drop i) o s)) := by
  intro d
  induction d with
  | zero =>
    intro K i o s hi ho h1 hs hK
    obtain ⟨K, rfl⟩ : ∃ m, K = m + 1 := ⟨K - 1, by omega⟩
    simp only [spec_l25Tokens.l0]
    rw [if_neg (by rw [List.length_map]; omega), List.drop_eq_nil_of_le (by omega)]; rfl
  | succ d ih =>
    intro K i o s hi ho h1 hs hK
    obtain ⟨K, rfl⟩ : ∃ m, K = m + 5 := ⟨K - 5, by omega⟩
    have hlt : i < ws.length := by omega
    have ht := hp ws[i] (List.getElem_mem hlt)
    have hml : (i : Int) < ((ws.map baL).length : Int) := by rw [List.length_map]; omega
    have hz : (baL ws[i]).size = ws[i].length := baL_size _
    rw [List.drop_eq_getElem_cons hlt]
    simp only [spec_l25Tokens.l0]
    rw [if_pos hml, if_pos (nn_cast i), map_baL_get hlt]
    have hflag : (if (baL ws[i]).toList = ([124] : List UInt8) then spec_l25Tokens.j1 (K + 4) o s (ws.map baL) (i : Int) true else spec_l25Tokens.j1 (K + 4) o s (ws.map baL) (i : Int) ((baL ws[i]).toList == ([124, 124] : List UInt8))) = spec_l25Tokens.j1 (K + 4) o s (ws.map baL) (i : Int) (barB ws[i]) := by
      unfold barB
      by_cases c1 : ws[i] = [124]
      · rw [if_pos ((baL_iff _ _ _ rfl).2 c1), decide_eq_true c1, Bool.true_or]
      · rw [if_neg (fun e => c1 ((baL_iff _ _ _ rfl).1 e)), decide_eq_false c1, Bool.false_or]
        congr 1
        by_cases c2 : ws[i] = [124, 124]
        · rw [decide_eq_true c2]; exact beq_iff_eq.2 ((baL_iff _ _ _ rfl).2 c2)
        · rw [decide_eq_false c2]; exact beq_eq_false_iff_ne.2 (fun e => c2 ((baL_iff _ _ _ rfl).1 e))
    rw [hflag]
    simp only [spec_l25Tokens.j1]
    unfold tok
    by_cases hb : barB ws[i] = true
    · rw [if_pos hb, if_pos hb, if_pos (by omega), wrap_succ hlt (by omega), ih (K + 3) (i + 1) o (s ++ [0]) (by omega) (by omega) (by rw [List.length_append]; simp) (by rw [List.length_append]; simp; omega) (by omega)]
    rw [if_neg hb, if_neg hb, if_pos (nn_cast i), if_pos hml]
    have hflag2 : (if (baL ws[i]).toList = ([] : List UInt8) then spec_l25Tokens.j2 (K + 3) o s (ws.map baL) (i : Int) false else if 0 < ((baL ws[i]).size : Int) then spec_l25Tokens.j2 (K + 3) o s (ws.map baL) (i : Int) (bt (baL ws[i]) 0 == 126) else none) = spec_l25Tokens.j2 (K + 3) o s (ws.map baL) (i : Int) (tieB ws[i]) := by
      cases hw : ws[i] with
      | nil => rw [if_pos ((baL_iff _ _ _ rfl).2 rfl)]; rfl
      | cons c q =>
        rw [if_neg (fun e => by have := (baL_iff _ _ _ rfl).1 e; cases this), if_pos (by rw [baL_size, List.length_cons]; omega), bt_zero (baL_data _)]
        congr 1
        show _ = (some c == some (126 : UInt8))
        by_cases h6 : c = 126
        · rw [h6]; rfl
        · rw [beq_eq_false_iff_ne.2 (fun e => h6 (UInt8.toNat_inj.1 (by show c.toNat = 126; omega)) : ¬ (c.toNat : Int) = 126), beq_eq_false_iff_ne.2 (fun e => h6 (Option.some.inj e))]
    rw [map_baL_get hlt, hflag2]
    simp only [spec_l25Tokens.j2]
    rw [if_pos (nn_cast i), if_pos hml]
    have hflag3 : (if tieB ws[i] = true then (if 1 ≤ ((baL ws[i]).size : Int) then spec_l25Tokens.j3 (K + 2) o s (ws.map baL) (i : Int) (tieB ws[i]) ((baL ws[i]).extract 1 (baL ws[i]).size) else none) else spec_l25Tokens.j3 (K + 2) o s (ws.map baL) (i : Int) (tieB ws[i]) (baL ws[i])) = spec_l25Tokens.j3 (K + 2) o s (ws.map baL) (i : Int) (tieB ws[i]) (baL (restW ws[i])) := by
      unfold restW
      by_cases h6 : tieB ws[i] = true
      · rw [if_pos h6, if_pos h6]
        have hne : 1 ≤ ws[i].length := by
          cases hw : ws[i] with
          | nil => rw [hw] at h6; cases h6
          | cons c q => simp
        rw [if_pos (by omega)]
        congr 1
        rw [← data_baL ((baL ws[i]).extract 1 (baL ws[i]).size), ext1, baL_data]
      · rw [if_neg h6, if_neg h6]
    rw [map_baL_get hlt, hflag3]
    simp only [spec_l25Tokens.j3]
    have hr := rest_size ws[i]
    rw [ReadOne_eq (baL (restW ws[i])) (by rw [baL_size]; omega) (by omega), baL_data]
    simp only [Option.bind_some]
    cases hx : oneN (restW ws[i]) with
    | none =>
      show (if false = true then _ else spec_l25Tokens.j4 (K + 1) o s (ws.map baL) (i : Int) (tieB ws[i]) (wrap64 ((o.length : Int) - 1)) true 0 0) = _
      rw [if_neg (by decide)]
      simp only [spec_l25Tokens.j4]
      rw [if_pos trivial]; rfl
    | some x =>
      show (if true = true then (if tieB ws[i] = true then (if (wrap64 ((o.length : Int) - 1)) < 0 then spec_l25Tokens.j4 (K + 1) o s (ws.map baL) (i : Int) (tieB ws[i]) (wrap64 ((o.length : Int) - 1)) true x.f0 x.f1 else (if 0 ≤ wrap64 ((o.length : Int) - 1) then (if wrap64 ((o.length : Int) - 1) < (o.length : Int) then spec_l25Tokens.j4 (K + 1) o s (ws.map baL) (i : Int) (tieB ws[i]) (wrap64 ((o.length : Int) - 1)) (lastP o != x.f0) x.f0 x.f1 else none) else none)) else spec_l25Tokens.j4 (K + 1) o s (ws.map baL) (i : Int) (tieB ws[i]) (wrap64 ((o.length : Int) - 1)) false x.f0 x.f1) else _) = _
      rw [if_pos rfl]
      have hsl := last_ix h1 (by omega)
      by_cases h6 : tieB ws[i] = true
      · rw [if_pos h6, h6]
        by_cases ho0 : o = []
        · subst ho0
          have h00 : wrap64 ((([] : List S67).length : Int) - 1) < 0 := by rw [List.length_nil, wrap_id (by decide) (by decide)]; decide
          rw [if_pos h00]
          simp only [spec_l25Tokens.j4]
          rw [if_pos trivial]
          try dsimp only
          rw [if_pos trivial, if_pos (Or.inl trivial)]; rfl
        have hop := List.length_pos_iff.2 ho0
        have hol := last_ix (n := o.length) (by omega) (by omega)
        rw [if_neg (by rw [hol]; omega), if_pos (by rw [hol]; omega), if_pos (by rw [hol]; omega)]
        simp only [spec_l25Tokens.j4]
        try dsimp only
        rw [if_pos (c := True) trivial]
        by_cases hl : lastP o = x.f0
        · rw [hl, bne_self_eq_false, if_neg (by decide), if_pos (by rw [hsl]; omega), if_pos (by rw [hsl]; omega)]
          simp only [Option.bind_some]
          rw [if_pos trivial, if_pos (by rw [hol]; omega), if_pos (by rw [hol]; omega), wrap_succ hlt (by omega)]
          rw [if_neg (by rintro (h | h); exact ho0 h; exact h trivial)]
          exact ih K (i + 1) (addN o x.f1) (addS s x.f1) (by omega) (by rw [addN_length]; omega) (by rw [addS_length]; omega) (by rw [addS_length]; omega) (by omega)
        · rw [bne_iff_ne.2 hl, if_pos rfl, if_pos (Or.inr hl)]; rfl
      · rw [if_neg h6]
        rw [Bool.not_eq_true] at h6
        rw [h6]
        simp only [spec_l25Tokens.j4]
        try dsimp only
        rw [if_neg (by decide), if_pos (by rw [hsl]; omega), if_pos (by rw [hsl]; omega)]
        simp only [Option.bind_some]
        rw [if_neg (by decide), if_pos (by omega), wrap_succ hlt (by omega), if_neg (by decide)]
        exact ih K (i + 1) (o ++ [x]) (addS s x.f1) (by omega) (by rw [List.length_append]; simp; omega) (by rw [addS_length]; omega) (by rw [addS_length]; omega) (by omega)
theorem CutP_eq (t : List UInt8) : strings_CutPrefix.f (baL t) (⟨#[126]⟩ : ByteArray) = some (baL (restW t), tieB t) := by
  unfold strings_CutPrefix.f
  rw [baL_data, show (⟨#[126]⟩ : ByteArray).data.toList = [126] from rfl]
  have h : Lib.hasPrefix t [126] = tieB t := by
    unfold Lib.hasPrefix tieB
    cases t with
    | nil => rfl
    | cons c q =>
      show ((126 : UInt8) == c && [].isPrefixOf q) = (some c == some (126 : UInt8))
      by_cases h6 : c = 126
      · rw [h6]; simp
      · rw [beq_eq_false_iff_ne.2 (fun e => h6 e.symm), beq_eq_false_iff_ne.2 (fun e => h6 (Option.some.inj e)), Bool.false_and]
  unfold Lib.trimPrefix
  rw [h]; rfl
theorem oneR_flag (l : List UInt8) : (match oneN l with | some _ => False | none => True) → ¬ ((oneR l).2 = true ∧ (oneR l).1.length = 1) := by
  intro h
  unfold oneR
  by_cases h45 : l = [45]
  · rw [if_pos h45]; rintro ⟨_, e⟩; cases e
  · rw [if_neg h45]
    cases hx : oneN l with
    | none => rintro ⟨e, _⟩; cases e
    | some x => rw [hx] at h; exact h.elim
theorem one45 : oneN [45] = none := by
  cases h : oneN [45] with
  | none => rfl
  | some x =>
    obtain ⟨h1, h2⟩ := one_of h
    obtain ⟨⟨a1, a2⟩, _⟩ := noteB_iff.1 h1
    unfold noteW at h2
    rw [p1_cons, List.cons_append] at h2
    have h3 := (List.cons.inj h2).1
    have := named_of ⟨(x.f0 % 12).toNat, by omega⟩
    simp only at this
    rw [h3] at this
    exact absurd this (by have e : named 45 = -1 := by decide +kernel
                          rw [e]; omega)
theorem barWords_l0 {ws : List (List UInt8)} (hn : ws.length ≤ 10000) (hp : ∀ t ∈ ws, t.length ≤ 10000 ∧ (32 : UInt8) ∉ t) : ∀ (d K i : Nat) (acc : List S95) (lb go : Bool) (lp ln : Int), i + d = ws.length → acc.length ≤ i → 3 * d + 400 ≤ K → impl_barWords.l0 K acc (ws.map baL) ((ws.map baL).length : Int) (i : Int) lb go lp ln = some (wrdP acc (wrd (ws.drop i) lb lp)) := by
  intro d
  induction d with
  | zero =>
    intro K i acc lb go lp ln hi ho hK
    obtain ⟨K, rfl⟩ : ∃ m, K = m + 1 := ⟨K - 1, by omega⟩
    simp only [impl_barWords.l0]
    rw [if_neg (by rw [List.length_map]; omega), List.drop_eq_nil_of_le (by omega)]
    show some (acc, true) = some (acc ++ [], true)
    rw [List.append_nil]
  | succ d ih =>
    intro K i acc lb go lp ln hi ho hK
    obtain ⟨K, rfl⟩ : ∃ m, K = m + 3 := ⟨K - 3, by omega⟩
    have hlt : i < ws.length := by omega
    obtain ⟨ht, hno⟩ := hp ws[i] (List.getElem_mem hlt)
    have hml : (i : Int) < ((ws.map baL).length : Int) := by rw [List.length_map]; omega
    have hz : (baL ws[i]).size = ws[i].length := baL_size _
    have hwp : ∀ (y : S95) (q : Option (List S95)), wrdP (acc ++ [y]) q = wrdP acc (q.map (y :: ·)) := fun y q => by
      cases q with
      | none => rfl
      | some b => show ((acc ++ [y]) ++ b, true) = (acc ++ (y :: b), true); rw [List.append_assoc]; rfl
    rw [List.drop_eq_getElem_cons hlt]
    simp only [impl_barWords.l0]
    rw [if_pos hml, if_pos (nn_cast i), if_pos hml, map_baL_get hlt]
    have hflag : (if (baL ws[i]).toList = ([124] : List UInt8) then impl_barWords.j1 (K + 2) acc (baL ws[i]) (ws.map baL) ((ws.map baL).length : Int) (i : Int) true lb go lp ln else impl_barWords.j1 (K + 2) acc (baL ws[i]) (ws.map baL) ((ws.map baL).length : Int) (i : Int) ((baL ws[i]).toList == ([124, 124] : List UInt8)) lb go lp ln) = impl_barWords.j1 (K + 2) acc (baL ws[i]) (ws.map baL) ((ws.map baL).length : Int) (i : Int) (barB ws[i]) lb go lp ln := by
      unfold barB
      by_cases c1 : ws[i] = [124]
      · rw [if_pos ((baL_iff _ _ _ rfl).2 c1), decide_eq_true c1, Bool.true_or]
      · rw [if_neg (fun e => c1 ((baL_iff _ _ _ rfl).1 e)), decide_eq_false c1, Bool.false_or]
        congr 1
        by_cases c2 : ws[i] = [124, 124]
        · rw [decide_eq_true c2]; exact beq_iff_eq.2 ((baL_iff _ _ _ rfl).2 c2)
        · rw [decide_eq_false c2]; exact beq_eq_false_iff_ne.2 (fun e => c2 ((baL_iff _ _ _ rfl).1 e))
    rw [hflag]
    simp only [impl_barWords.j1]
    unfold wrd
    by_cases hb : barB ws[i] = true
    · rw [if_pos hb, if_pos hb, if_pos (by omega), wrap_succ hlt (by omega), ih (K + 1) (i + 1) _ lb go lp ln (by omega) (by rw [List.length_append]; simp; omega) (by omega), hwp]
    rw [if_neg hb, if_neg hb, CutP_eq]
    simp only [Option.bind_some]
    have hr := rest_size ws[i]
    have hno2 : (32 : UInt8) ∉ restW ws[i] := by
      unfold restW
      split
      · exact fun h => hno (List.mem_of_mem_drop h)
      · exact hno
    rw [ReadMelody_eq (baL (restW ws[i])) (by rw [baL_size]; omega) (by rw [baL_data]; exact hno2) (by omega), baL_data]
    simp only [Option.bind_some]
    cases hx : oneN (restW ws[i]) with
    | none =>
      have hf := oneR_flag (restW ws[i]) (by rw [hx]; trivial)
      have : ∀ m : List S67, impl_barWords.j2 (K + 1) acc (tieB ws[i]) m (ws.map baL) ((ws.map baL).length : Int) (i : Int) true lb go lp ln = some (([] : List S95), false) := fun m => by
        simp only [impl_barWords.j2]
        rw [if_pos trivial]
      by_cases h2 : (oneR (restW ws[i])).2 = true
      · rw [if_pos h2, bne_iff_ne.2 (fun e => hf ⟨h2, by omega⟩), this]; rfl
      · rw [if_neg h2, this]; rfl
    | some x =>
      have h45 : ¬ restW ws[i] = [45] := fun e => by rw [e, one45] at hx; cases hx
      have ho1 : oneR (restW ws[i]) = ([x], true) := by unfold oneR; rw [if_neg h45, hx]
      rw [ho1]
      show (if true = true then impl_barWords.j2 (K + 1) acc (tieB ws[i]) [x] (ws.map baL) ((ws.map baL).length : Int) (i : Int) ((([x] : List S67).length : Int) != 1) lb go lp ln else _) = _
      rw [if_pos rfl, show ((([x] : List S67).length : Int) != 1) = false from rfl]
      simp only [impl_barWords.j2]
      rw [if_neg (by decide), if_pos (by simp), show rd_T67 [x] 0 = x from rfl]
      try dsimp only
      have hih := ih K (i + 1) (acc ++ [(⟨false, tieB ws[i], x⟩ : S95)]) false (tieB ws[i]) x.f0 x.f1 (by omega) (by rw [List.length_append]; simp; omega) (by omega)
      rw [hwp] at hih
      by_cases h6 : tieB ws[i] = true
      · rw [if_pos h6]
        by_cases hlb : lb = true
        · rw [if_pos hlb, if_pos ⟨h6, Or.inl hlb⟩]; rfl
        rw [if_neg hlb]
        by_cases hlp : lp = x.f0
        · rw [if_pos hlp, if_pos (by omega), if_neg (by rintro ⟨_, h | h⟩; exact hlb h; exact h hlp), wrap_succ hlt (by omega)]
          exact hih
        · rw [if_neg hlp, if_pos ⟨h6, Or.inr hlp⟩]; rfl
      · rw [if_neg h6, if_pos (by omega), if_neg (fun e => h6 e.1), wrap_succ hlt (by omega)]
        exact hih
theorem rdW_get {l : List S95} {i : Nat} (h : i < l.length) : rd_T95 l (i : Int) = l[i] := by
  simp [rd_T95, List.getD_eq_getElem?_getD, List.getElem?_eq_getElem h]
theorem barSums_l0 {b : List S95} (hn : b.length ≤ 10000) : ∀ (d K i : Nat) (s : List Int), i + d = b.length → 1 ≤ s.length → s.length ≤ i + 1 → d + 1 ≤ K → impl_barSums.l0 K s b (b.length : Int) (i : Int) = some (foldS (b.drop i) s) := by
  intro d
  induction d with
  | zero =>
    intro K i s hi h1 hs hK
    obtain ⟨K, rfl⟩ : ∃ m, K = m + 1 := ⟨K - 1, by omega⟩
    simp only [impl_barSums.l0]
    rw [if_neg (by omega), List.drop_eq_nil_of_le (by omega)]; rfl
  | succ d ih =>
    intro K i s hi h1 hs hK
    obtain ⟨K, rfl⟩ : ∃ m, K = m + 1 := ⟨K - 1, by omega⟩
    have hlt : i < b.length := by omega
    have hsl := last_ix h1 (by omega)
    simp only [impl_barSums.l0]
    rw [if_pos (lt_cast hlt), if_pos (nn_cast i), if_pos (lt_cast hlt), rdW_get hlt, List.drop_eq_getElem_cons hlt]
    unfold foldS
    by_cases hb : b[i].f0 = true
    · rw [if_pos hb, if_pos hb, if_pos (by omega), wrap_succ hlt (by omega), ih K (i + 1) (s ++ [0]) (by omega) (by rw [List.length_append]; simp) (by rw [List.length_append]; simp; omega) (by omega)]
    · rw [if_neg hb, if_neg hb, if_pos (by rw [hsl]; omega), if_pos (by rw [hsl]; omega), wrap_succ hlt (by omega)]
      exact ih K (i + 1) (addS s b[i].f2.f1) (by omega) (by rw [addS_length]; omega) (by rw [addS_length]; omega) (by omega)
theorem split_count {c : UInt8} : ∀ (n : Nat) (l : List UInt8), l.length ≤ n → (splitL c [] l).length = Lib.count l [c] + 1 := by
  intro n
  induction n with
  | zero =>
    intro l h
    obtain rfl := List.eq_nil_of_length_eq_zero (by omega : l.length = 0)
    rw [splitL_none [] [] (by simp), Lib.count_miss (index_no [] (by simp))]; rfl
  | succ n ih =>
    intro l h
    rcases cut_shape l c with ⟨a, b, _, e, ha⟩ | ⟨_, hno⟩
    · subst e
      rw [splitL_at a [] b ha, List.length_cons, ih b (by rw [List.length_append, List.length_cons] at h; omega), Lib.count_hit (by simp) (index_at a b ha)]
      rw [List.length_singleton, show (a ++ c :: b).drop (a.length + 1) = b by rw [List.drop_append]; simp]
      omega
    · rw [splitL_none l [] hno, Lib.count_miss (index_no l hno)]; rfl
theorem SplitF_eq (a : ByteArray) (ha : a.size ≤ 1048576) : strings_Split.f a (⟨#[32]⟩ : ByteArray) = some ((splitL 32 [] a.data.toList).map baL) := by
  unfold strings_Split.f
  rw [if_pos ⟨by omega, by decide⟩]
  unfold strings_Split.t
  have h1 := Lib.splitB_data (⟨#[32]⟩ : ByteArray) 0 (Lib.countB a ⟨#[32]⟩) a
  have hc := split_count (c := 32) a.data.toList.length a.data.toList (Nat.le_refl _)
  have hk : Lib.countB a ⟨#[32]⟩ = Lib.count a.data.toList [32] := rfl
  rw [show (⟨#[32]⟩ : ByteArray).data.toList = [32] from rfl, splitK_same _ _ (by rw [hc, hk]; exact Nat.le_refl _)] at h1
  rw [← h1, List.map_map]
  have e : (baL ∘ fun x : ByteArray => x.data.toList) = id := by funext x; exact data_baL x
  rw [e, List.map_id]
theorem split_no {c : UInt8} : ∀ (l cur : List UInt8), c ∉ cur → ∀ t ∈ splitL c cur l, c ∉ t := by
  intro l
  induction l with
  | nil => intro cur hc t ht; unfold splitL at ht; rw [List.mem_singleton] at ht; rw [ht]; exact hc
  | cons b r ih =>
    intro cur hc t ht
    unfold splitL at ht
    split at ht
    · rcases List.mem_cons.1 ht with rfl | h
      · exact hc
      · exact ih [] (by simp) t h
    · next hb => exact ih _ (by rw [List.mem_append, List.mem_singleton]; rintro (h | h); exact hc h; exact hb (by first | exact h.symm | exact beq_iff_eq.2 h.symm | (rw [h]))) t ht
/-- What the words of a text come to. -/
def wordsOf (l : List UInt8) : Option (List S95) := if l = [45] then some [] else wrd (splitL 32 [] l) true 0
def sumsOf (b : List S95) : List Int := if b = [] then [] else foldS b [0]
theorem wrd_length : ∀ (ws : List (List UInt8)) (lb : Bool) (lp : Int) (b : List S95), wrd ws lb lp = some b → b.length = ws.length
  | [], _, _, b, h => by rw [← Option.some.inj h]; rfl
  | t :: r, lb, lp, b, h => by
    unfold wrd at h
    split at h
    · obtain ⟨q, hq, rfl⟩ := Option.map_eq_some_iff.1 h
      rw [List.length_cons, wrd_length r _ _ q hq, List.length_cons]
    · split at h
      · cases h
      · split at h
        · cases h
        · obtain ⟨q, hq, rfl⟩ := Option.map_eq_some_iff.1 h
          rw [List.length_cons, wrd_length r _ _ q hq, List.length_cons]
theorem barWords_eq (a : ByteArray) (ha : a.size ≤ 2000) {K : Nat} (hK : 10000 ≤ K) : impl_barWords.f K a = some (wrdP [] (wordsOf a.data.toList)) := by
  unfold impl_barWords.f wordsOf
  by_cases h45 : a.data.toList = [45]
  · rw [if_pos (by rw [ByteArray.toList_eq]; exact h45), if_pos h45]; rfl
  rw [if_neg (fun e => h45 (by rw [ByteArray.toList_eq] at e; exact e)), if_neg h45, SplitF_eq a (by omega)]
  simp only [Option.bind_some]
  have hz : a.data.toList.length = a.size := (Lib.size_eq a).symm
  obtain ⟨s1, s2⟩ := splitL_le (c := 32) a.data.toList []
  have := barWords_l0 (ws := splitL 32 [] a.data.toList) (by omega) (fun t ht => ⟨by have := s2 t ht; simp at this; omega, split_no _ _ (by simp) t ht⟩) (splitL 32 [] a.data.toList).length K 0 [] true false 0 0 (by omega) (by simp) (by omega)
  rw [List.drop_zero] at this
  exact this
theorem Tokens_eq (a : ByteArray) (ha : a.size ≤ 2000) {K : Nat} (hK : 20000 ≤ K) : spec_l25Tokens.f K a = some (match wordsOf a.data.toList with | some b => (foldN b [], sumsOf b, true) | none => ([], [], false)) := by
  unfold spec_l25Tokens.f wordsOf
  simp only [Option.bind_some]
  by_cases h45 : a.data.toList = [45]
  · rw [if_pos (by rw [ByteArray.toList_eq]; exact h45), if_pos h45]; rfl
  rw [if_neg (fun e => h45 (by rw [ByteArray.toList_eq] at e; exact e)), if_neg h45]
  have E1 : spec_l01Split.f K a 32 = some ((splitL 32 [] a.data.toList).map baL) := Split_eq a 32 (by omega) (k := K) (by omega)
  rw [E1]; simp only [Option.bind_some]
  have hz : a.data.toList.length = a.size := (Lib.size_eq a).symm
  obtain ⟨s1, s2⟩ := splitL_le (c := 32) a.data.toList []
  have hpos := splitL_pos 32 a.data.toList []
  have := Tokens_l0 (ws := splitL 32 [] a.data.toList) (by omega) (fun t ht => by have := s2 t ht; simp at this; omega) (splitL 32 [] a.data.toList).length K 0 [] [0] (by omega) (by simp) (by simp) (by simp) (by omega)
  rw [List.drop_zero, tok_wrd _ [] [0] true 0 rfl (fun h => absurd rfl h) (by simp; omega)] at this
  refine Eq.trans this ?_
  cases hw : wrd (splitL 32 [] a.data.toList) true 0 with
  | none => rfl
  | some b =>
    have hl := wrd_length _ _ _ _ hw
    have hb : ¬ b = [] := fun e => by rw [e, List.length_nil] at hl; omega
    show some (foldN b [], foldS b [0], true) = some (foldN b [], (if b = [] then [] else foldS b [0]), true)
    rw [if_neg hb]
theorem wordsOf_length {l : List UInt8} {b : List S95} (h : wordsOf l = some b) : b.length ≤ l.length + 1 := by
  unfold wordsOf at h
  split at h
  · rw [← Option.some.inj h]; simp
  · rw [wrd_length _ _ _ _ h]; exact (splitL_le (c := 32) l []).1
theorem barSums_eq (b : List S95) (hb : b.length ≤ 5000) {K : Nat} (hK : 10000 ≤ K) : impl_barSums.f K b = some (sumsOf b) := by
  unfold impl_barSums.f sumsOf
  by_cases h0 : b = []
  · subst h0; rfl
  have hp := List.length_pos_iff.2 h0
  rw [if_neg (by omega), if_neg h0]
  exact barSums_l0 (by omega) b.length K 0 [0] (by omega) (by simp) (by simp) (by omega)
end Go.Proofs.YtmoamoopoifnlaaGreatDoor.P

namespace Go.Proofs.YtmoamoopoifnlaaGreatDoor.P
open Go.RowKit Go.Proofs.YtmoamoopoifnlaaGreatDoorW.PrintWords Go.Proofs.YtmoamoopoifnlaaGreatDoorL

def nameByte (c : Int) : Bool := (decide (97 ≤ c) && decide (c ≤ 122)) || (decide (48 ≤ c) && decide (c ≤ 57))
def nameB (s : ByteArray) : Bool := decide (1 ≤ s.size) && decide (s.size ≤ 10) && (decide (97 ≤ bt s 0) && decide (bt s 0 ≤ 122)) && (List.range s.size).all fun i => nameByte (bt s (i : Int))
theorem size_zero {s : ByteArray} : s.toList = ([] : List UInt8) ↔ s.size = 0 := by
  rw [ByteArray.toList_eq]
  constructor
  · intro h; have := congrArg List.length h; simpa using this
  · intro h
    apply List.eq_nil_of_length_eq_zero
    simpa using h
theorem l01Name_eq (s : ByteArray) {k : Nat} (hk : 20 ≤ k) : spec_l01Name.f k s = some (nameB s) := by
  obtain ⟨k, rfl⟩ : ∃ m, k = m + 1 := ⟨k - 1, by omega⟩
  unfold spec_l01Name.f nameB
  by_cases h0 : s.size = 0
  · rw [if_pos (size_zero.2 h0)]; simp [spec_l01Name.j0, h0]
  rw [if_neg (fun e => h0 (size_zero.1 e))]
  by_cases h1 : (s.size : Int) > 10
  · rw [if_pos h1]
    have : ¬ s.size ≤ 10 := by omega
    simp [spec_l01Name.j0, this]
  rw [if_neg h1, if_pos (by omega)]
  unfold spec_l01Small.f
  have h1' : s.size ≤ 10 := by omega
  have h0' : 1 ≤ s.size := by omega
  by_cases h2 : bt s 0 ≥ 97
  · rw [if_pos h2]; simp only [Option.bind_some, spec_l01Name.j0]
    by_cases h3 : bt s 0 ≤ 122
    · rw [if_neg (by simp [h3])]
      rw [all_loop (fun k i => spec_l01Name.l0 k s i) s.size (fun i => nameByte (bt s (i : Int))) true 1 (fun k i hi hB => ?_) (fun k _ => ?_) k (by omega)]
      · simp [h1', h0', h3, ge_iff_le.1 h2]
      · obtain ⟨k, rfl⟩ : ∃ m, k = m + 1 := ⟨k - 1, by omega⟩
        show spec_l01Name.l0 (k + 1 + 1) s (i : Int) = _
        rw [spec_l01Name.l0]
        rw [if_pos (by omega), if_pos (nn_cast i), wrap_succ hi (by omega)]
        unfold spec_l01Small.f spec_l01Digit.f nameByte
        by_cases e1 : bt s (i : Int) ≥ 97
        · rw [if_pos e1]
          by_cases e2 : bt s (i : Int) ≤ 122
          · simp [e2, ge_iff_le.1 e1]
          · have e3 : bt s (i : Int) ≥ 48 := by omega
            have e4 : ¬ bt s (i : Int) ≤ 57 := by omega
            simp [e2, e4, ge_iff_le.1 e3]
        · rw [if_neg e1]
          have e1' : ¬ 97 ≤ bt s (i : Int) := e1
          by_cases e2 : bt s (i : Int) ≥ 48
          · rw [if_pos e2]
            by_cases e3 : bt s (i : Int) ≤ 57
            · simp [e3, ge_iff_le.1 e2]
            · simp [e3, e1']
          · rw [if_neg e2]
            have e2' : ¬ 48 ≤ bt s (i : Int) := e2
            simp [e1', e2']
      · show spec_l01Name.l0 (_ + 1) s (s.size : Int) = _
        rw [spec_l01Name.l0, if_neg (nlt_cast _)]
    · rw [if_pos (by simp [h3])]; simp [h3]
  · rw [if_neg h2]; simp only [Option.bind_some, spec_l01Name.j0]
    have h2' : ¬ 97 ≤ bt s 0 := h2
    rw [if_pos (by rfl)]; simp [h2']

theorem IsName_eq (s : ByteArray) {k : Nat} (hk : 20 ≤ k) : impl_IsName.f k s = some (nameB s) := by
  unfold impl_IsName.f nameB
  by_cases h0 : (s.size : Int) < 1
  · rw [if_pos h0]
    have : ¬ 1 ≤ s.size := by omega
    simp [this]
  rw [if_neg h0]
  by_cases h1 : (s.size : Int) > 10
  · rw [if_pos h1]
    have : ¬ s.size ≤ 10 := by omega
    simp [this]
  rw [if_neg h1, if_pos (by omega)]
  have h1' : s.size ≤ 10 := by omega
  have h0' : 1 ≤ s.size := by omega
  by_cases h2 : bt s 0 < 97
  · rw [if_pos h2]
    have h2' : ¬ 97 ≤ bt s 0 := by omega
    simp [h2']
  rw [if_neg h2]
  by_cases h3 : bt s 0 > 122
  · rw [if_pos h3]
    have h3' : ¬ bt s 0 ≤ 122 := by omega
    simp [h3']
  rw [if_neg h3]
  have h2' : 97 ≤ bt s 0 := by omega
  have h3' : bt s 0 ≤ 122 := by omega
  unfold impl_onlyNameBytes.f
  rw [all_loop (fun k i => impl_onlyNameBytes.l0 k s (s.size : Int) i) s.size (fun i => nameByte (bt s (i : Int))) true 0 (fun k i hi hB => ?_) (fun k _ => ?_) k (by omega)]
  · simp [h1', h0', h3', h2']
  · show impl_onlyNameBytes.l0 (k + 1) s (s.size : Int) (i : Int) = _
    rw [impl_onlyNameBytes.l0]
    rw [if_pos (lt_cast hi), if_pos (nn_cast i), if_pos (lt_cast hi), wrap_succ hi (by omega)]
    unfold nameByte
    repeat' split
    all_goals first | rfl | (exfalso; simp_all; done) | (exfalso; simp_all; omega)
  · show impl_onlyNameBytes.l0 (k + 1) s (s.size : Int) (s.size : Int) = _
    rw [impl_onlyNameBytes.l0, if_neg (nlt_cast _)]

end Go.Proofs.YtmoamoopoifnlaaGreatDoor.P

namespace Go.Proofs.YtmoamoopoifnlaaGreatDoor.P
open Go.RowKit Go.Proofs.YtmoamoopoifnlaaGreatDoorW.PrintWords Go.Proofs.YtmoamoopoifnlaaGreatDoorL
def wB (a b n : Int) : Bool := decide (a ≤ n) && decide (n ≤ b)
def sumW (acc : Int) : List Int → Int
  | [] => acc
  | x :: r => sumW (wrap64 (acc + x)) r
def markB : List Int → Bool
  | [] => true
  | m :: r => decide (m = 1) && r.all (wB 2 3)
def talaB (s : ByteArray) (S M : List Int) : Bool := nameB s && ((decide (1 ≤ S.length) && decide (S.length ≤ 8)) && (decide (M.length = S.length) && ((S.all (wB 1 16) && markB M) && decide (sumW 0 S ≤ 32))))
theorem allW_eq (l : List Int) (a b : Int) : impl_allWithin.f l a b = some (l.all (wB a b)) := by
  unfold impl_allWithin.f
  congr 1
  induction l with
  | nil => rfl
  | cons x r ih =>
    rw [List.any_cons, List.all_cons, Bool.not_or, ih]
    congr 1
    unfold impl_allWithin.p wB
    cases decide (a ≤ x) <;> cases decide (x ≤ b) <;> rfl
theorem l17Sum_l0 (S : List Int) (hS : S.length ≤ 1000) : ∀ (d K i : Nat) (acc : Int), i + d = S.length → d + 1 ≤ K → spec_l17Sum.l0 K S acc (i : Int) = some (sumW acc (S.drop i)) := by
  intro d
  induction d with
  | zero =>
    intro K i acc hi hK
    obtain ⟨K, rfl⟩ : ∃ m, K = m + 1 := ⟨K - 1, by omega⟩
    simp only [spec_l17Sum.l0]
    rw [if_neg (by omega), List.drop_eq_nil_of_le (by omega)]; rfl
  | succ d ih =>
    intro K i acc hi hK
    obtain ⟨K, rfl⟩ : ∃ m, K = m + 1 := ⟨K - 1, by omega⟩
    have hlt : i < S.length := by omega
    simp only [spec_l17Sum.l0]
    rw [if_pos (lt_cast hlt), if_pos (nn_cast i), rd_get hlt, wrap_succ hlt (by omega), ih K (i + 1) _ (by omega) (by omega), List.drop_eq_getElem_cons hlt]; rfl
theorem l17Sum_eq {S : List Int} (hS : S.length ≤ 1000) {K : Nat} (hK : 1001 ≤ K) : spec_l17Sum.f K S = some (sumW 0 S) := l17Sum_l0 S hS S.length K 0 0 (by omega) (by omega)
theorem sumOf_l0 (S : List Int) (hS : S.length ≤ 1000) : ∀ (d K i : Nat) (acc : Int), i + d = S.length → d + 1 ≤ K → impl_sumOf.l0 K acc S (S.length : Int) (i : Int) = some (sumW acc (S.drop i)) := by
  intro d
  induction d with
  | zero =>
    intro K i acc hi hK
    obtain ⟨K, rfl⟩ : ∃ m, K = m + 1 := ⟨K - 1, by omega⟩
    simp only [impl_sumOf.l0]
    rw [if_neg (by omega), List.drop_eq_nil_of_le (by omega)]; rfl
  | succ d ih =>
    intro K i acc hi hK
    obtain ⟨K, rfl⟩ : ∃ m, K = m + 1 := ⟨K - 1, by omega⟩
    have hlt : i < S.length := by omega
    simp only [impl_sumOf.l0]
    rw [if_pos (lt_cast hlt), if_pos (nn_cast i), if_pos (lt_cast hlt), rd_get hlt, wrap_succ hlt (by omega), ih K (i + 1) _ (by omega) (by omega), List.drop_eq_getElem_cons hlt]; rfl
theorem beats_eq (s : ByteArray) {S : List Int} (M : List Int) (hS : S.length ≤ 1000) {K : Nat} (hK : 1001 ≤ K) : impl_Tala_beats.f K s S M = some (sumW 0 S) := by
  unfold impl_Tala_beats.f impl_sumOf.f
  have := sumOf_l0 S hS S.length K 0 0 (by omega) (by omega)
  rw [List.drop_zero, show ((0 : Nat) : Int) = 0 from rfl] at this
  rw [this]; rfl
theorem ValidTala_eq (s : ByteArray) (S M : List Int) {K : Nat} (hK : 2000 ≤ K) : impl_ValidTala.f K s S M = some (talaB s S M) := by
  unfold impl_ValidTala.f talaB
  rw [IsName_eq s (by omega)]; simp only [Option.bind_some]
  cases hn : nameB s
  · rfl
  rw [if_pos rfl, Bool.true_and]
  by_cases h1 : 1 ≤ S.length
  rotate_left
  · rw [if_pos (by omega), decide_eq_false h1]; rfl
  rw [if_neg (by omega), decide_eq_true h1]
  by_cases h8 : S.length ≤ 8
  rotate_left
  · rw [if_pos (by omega), decide_eq_false h8]; rfl
  rw [if_neg (by omega), decide_eq_true h8, allW_eq]; simp only [Option.bind_some, Bool.true_and]
  cases hw : S.all (wB 1 16)
  · rw [if_neg (by decide), Bool.false_and, Bool.false_and, Bool.and_false]
  rw [if_pos rfl, beats_eq s M (by omega) (by omega)]; simp only [Option.bind_some, Bool.true_and]
  by_cases h32 : sumW 0 S ≤ 32
  rotate_left
  · rw [if_pos (by omega), decide_eq_false h32, Bool.and_false, Bool.and_false]
  rw [if_neg (by omega), decide_eq_true h32, Bool.and_true]
  by_cases hm : M.length = S.length
  rotate_left
  · rw [if_neg (by omega), decide_eq_false hm, Bool.false_and]
  rw [if_pos (by omega), decide_eq_true hm, if_pos (by omega), Bool.true_and]
  cases M with
  | nil => rw [List.length_nil] at hm; omega
  | cons m r =>
    show (if m = 1 then (if 1 ≤ (((m :: r).length : Nat) : Int) then ((impl_allWithin.f r 2 3).bind fun t => some t) else none) else some false) = some (decide (m = 1) && r.all (wB 2 3))
    rw [allW_eq]; simp only [Option.bind_some]
    by_cases h : m = 1
    · rw [if_pos h, if_pos (by rw [List.length_cons]; omega), decide_eq_true h, Bool.true_and]
    · rw [if_neg h, decide_eq_false h, Bool.false_and]
theorem l17Ok_l0 {s : ByteArray} {S M : List Int} (h8 : S.length ≤ 8) (hm : M.length = S.length) : ∀ (d K i : Nat), i + d = S.length → 1 ≤ i → d + 1500 ≤ K → spec_l17Ok_e.l0 K (S.length : Int) (i : Int) [(⟨s, S, M⟩ : S50)] 0 = some (((S.drop i).all (wB 1 16) && (M.drop i).all (wB 2 3)) && decide (sumW 0 S ≤ 32)) := by
  have hr : rd_T50 [(⟨s, S, M⟩ : S50)] 0 = ⟨s, S, M⟩ := rfl
  intro d
  induction d with
  | zero =>
    intro K i hi h1 hK
    obtain ⟨K, rfl⟩ : ∃ m, K = m + 1 := ⟨K - 1, by omega⟩
    simp only [spec_l17Ok_e.l0]
    rw [if_neg (by omega), List.drop_eq_nil_of_le (by omega), List.drop_eq_nil_of_le (by omega), hr]
    show ((spec_l17Sum.f K S).bind fun t => some (decide (t ≤ 32))) = _
    rw [l17Sum_eq (by omega) (by omega)]; rfl
  | succ d ih =>
    intro K i hi h1 hK
    obtain ⟨K, rfl⟩ : ∃ m, K = m + 1 := ⟨K - 1, by omega⟩
    have hlt : i < S.length := by omega
    have hlm : i < M.length := by omega
    simp only [spec_l17Ok_e.l0]
    rw [if_pos (lt_cast hlt), if_pos (nn_cast i), hr]
    dsimp only
    rw [if_pos (lt_cast hlt), rd_get hlt, in_eq]; simp only [Option.bind_some]
    rw [List.drop_eq_getElem_cons hlt, List.drop_eq_getElem_cons hlm, List.all_cons, List.all_cons]
    change (if wB 1 16 S[i] = true then _ else _) = some (((wB 1 16 S[i] && _) && (wB 2 3 M[i] && _)) && _)
    cases wB 1 16 S[i]
    · rfl
    rw [if_pos rfl, if_neg (by omega), if_pos (by omega), if_pos (lt_cast hlm), rd_get hlm, in_eq]; simp only [Option.bind_some]
    change (if wB 2 3 M[i] = true then _ else _) = _
    cases wB 2 3 M[i]
    · rw [if_neg (by decide)]; simp
    rw [if_pos rfl, wrap_succ hlt (by omega), ih K (i + 1) (by omega) (by omega) (by omega)]; simp
theorem l17Ok_eq (s : ByteArray) (S M : List Int) {K : Nat} (hK : 2000 ≤ K) : spec_l17Ok_e.f K [(⟨s, S, M⟩ : S50)] 0 = some (talaB s S M) := by
  have hr : rd_T50 [(⟨s, S, M⟩ : S50)] 0 = ⟨s, S, M⟩ := rfl
  obtain ⟨K, rfl⟩ : ∃ m, K = m + 2 := ⟨K - 2, by omega⟩
  unfold spec_l17Ok_e.f talaB
  rw [hr]
  dsimp only
  rw [l01Name_eq s (by omega)]; simp only [Option.bind_some]
  have hj : ∀ n : Int, spec_l17Ok_e.j0 (K + 2) n true [(⟨s, S, M⟩ : S50)] 0 = some false := fun n => by
    simp only [spec_l17Ok_e.j0]
    rw [if_pos trivial]
  cases hn : nameB s
  · rw [if_neg (by decide), hj]; rfl
  rw [if_pos rfl, in_eq, Bool.true_and]; simp only [Option.bind_some]
  have hc : (decide ((1 : Int) ≤ (S.length : Int)) && decide ((S.length : Int) ≤ 8)) = (decide (1 ≤ S.length) && decide (S.length ≤ 8)) := by
    congr 1
    · exact decide_eq_decide.2 (by omega)
    · exact decide_eq_decide.2 (by omega)
  rw [hc]
  by_cases hl : (decide (1 ≤ S.length) && decide (S.length ≤ 8)) = true
  rotate_left
  · rw [if_neg hl, hj, Bool.eq_false_iff.2 hl]; rfl
  rw [if_pos hl, hl, Bool.true_and]
  rw [Bool.and_eq_true, decide_eq_true_iff, decide_eq_true_iff] at hl
  obtain ⟨h1, h8⟩ := hl
  by_cases hm : M.length = S.length
  rotate_left
  · rw [bne_iff_ne.2 (by omega), hj, decide_eq_false hm]; rfl
  rw [decide_eq_true hm, Bool.true_and, show ((M.length : Int) != (S.length : Int)) = false by rw [hm]; simp]
  simp only [spec_l17Ok_e.j0, Bool.false_eq_true, if_false, spec_l17Ok_e.l0]
  rw [if_pos (by omega), if_pos (by decide), hr]
  dsimp only
  cases S with
  | nil => rw [List.length_nil] at h1; omega
  | cons x q =>
    cases M with
    | nil => rw [List.length_nil, List.length_cons] at hm; omega
    | cons m r =>
      have e1 : rd (x :: q) 0 = x := rd_get (l := x :: q) (i := 0) (by simp)
      have e2 : rd (m :: r) 0 = m := rd_get (l := m :: r) (i := 0) (by simp)
      rw [if_pos (by rw [List.length_cons]; omega), e1, e2, in_eq]; simp only [Option.bind_some]
      rw [List.all_cons]
      change (if wB 1 16 x = true then _ else _) = some (((wB 1 16 x && _) && (decide (m = 1) && r.all (wB 2 3))) && _)
      cases wB 1 16 x
      · rfl
      rw [if_pos rfl, if_pos (c := True) trivial, if_pos (by rw [List.length_cons]; omega)]
      by_cases h : m = 1
      rotate_left
      · rw [if_neg h, decide_eq_false h]; simp
      have hw : wrap64 (0 + 1) = ((1 : Nat) : Int) := by rw [wrap_id (by omega) (by omega)]; rfl
      rw [if_pos h, if_neg (by decide), decide_eq_true h, hw]
      have := l17Ok_l0 (s := s) h8 hm q.length K 1 (by rw [List.length_cons]; omega) (by omega) (by rw [List.length_cons] at h8; omega)
      rw [this]; simp
def codeB (l : List S67) (s : ByteArray) (S M : List Int) (v : Int) : Int := if (melB l && talaB s S M) = true then (if wB 1 8 v = true then 0 else 2) else 1
theorem l25Ask_eq {l : List S67} (hl : l.length ≤ 2000000) (s : ByteArray) (S M : List Int) (v : Int) {K : Nat} (hK : l.length + 3000 ≤ K) : spec_l25Ask_e.f K l [(⟨s, S, M⟩ : S50)] 0 v = some (codeB l s S M v) := by
  obtain ⟨K, rfl⟩ : ∃ m, K = m + 1 := ⟨K - 1, by omega⟩
  unfold spec_l25Ask_e.f codeB
  rw [l09Ok_eq hl (by omega)]; simp only [Option.bind_some]
  cases melB l
  · rfl
  rw [if_pos rfl, l17Ok_eq s S M (by omega), Bool.true_and]; simp only [Option.bind_some, spec_l25Ask_e.j0]
  cases talaB s S M
  · rfl
  rw [in_eq]; simp only [Option.bind_some]
  change (if (!true) = true then _ else (if wB 1 8 v = true then _ else _)) = _
  cases wB 1 8 v <;> rfl
theorem notationCode_eq (l : List S67) (s : ByteArray) (S M : List Int) (v : Int) {K : Nat} (hK : 3000 ≤ K) : impl_notationCode.f K l s S M v = some (codeB l s S M v) := by
  obtain ⟨K, rfl⟩ : ∃ m, K = m + 1 := ⟨K - 1, by omega⟩
  unfold impl_notationCode.f codeB
  rw [ValidMelody_eq (by omega)]; simp only [Option.bind_some]
  cases melB l
  · rfl
  rw [if_pos rfl, ValidTala_eq s S M (by omega), Bool.true_and]; simp only [Option.bind_some, impl_notationCode.j0]
  cases talaB s S M
  · rfl
  rw [within_eq]; simp only [Option.bind_some]
  change (if (!true) = true then _ else (if wB 1 8 v = true then _ else _)) = _
  cases wB 1 8 v <;> rfl
end Go.Proofs.YtmoamoopoifnlaaGreatDoor.P

namespace Go.Proofs.YtmoamoopoifnlaaGreatDoor.Pure
open Go.RowKit Go.Proofs.YtmoamoopoifnlaaGreatDoorW.PrintWords Go.Proofs.YtmoamoopoifnlaaGreatDoorL Go.Proofs.YtmoamoopoifnlaaGreatDoor.P
theorem bar_loop (v : Int) (z : List Int) (s : ByteArray) {S : List Int} (M : List Int) (hS : 1 ≤ S.length) (h8 : S.length ≤ 8) (hz : z.length ≤ 10000) : ∀ (d K i : Nat), i + d = z.length → d + 1 ≤ K → ∃ r, spec_WrongBar.l0 K v z (i : Int) s S M = some r ∧ impl_WrongBar.l0 K v z z (z.length : Int) (i : Int) s S M = some r := by
  intro d
  induction d with
  | zero =>
    intro K i hi hK
    obtain ⟨K, rfl⟩ : ∃ m, K = m + 1 := ⟨K - 1, by omega⟩
    simp only [spec_WrongBar.l0, impl_WrongBar.l0]
    rw [if_neg (by omega), if_neg (by omega)]
    exact ⟨_, rfl, rfl⟩
  | succ d ih =>
    intro K i hi hK
    obtain ⟨K, rfl⟩ : ∃ m, K = m + 1 := ⟨K - 1, by omega⟩
    have hlt : i < z.length := by omega
    have ht : Int.tmod (i : Int) (S.length : Int) = (i : Int) % (S.length : Int) := Int.tmod_eq_emod_of_nonneg (by omega)
    have t0 : 0 ≤ (i : Int) % (S.length : Int) := Int.emod_nonneg _ (by omega)
    have t1 : (i : Int) % (S.length : Int) < (S.length : Int) := Int.emod_lt_of_pos _ (by omega)
    have hw : wrap64 ((z.length : Int) - 1) = (z.length : Int) - 1 := wrap_id (by omega) (by omega)
    have h0 : ¬ (S.length : Int) = 0 := by omega
    obtain ⟨r, e1, e2⟩ := ih K (i + 1) (by omega) (by omega)
    simp only [spec_WrongBar.l0, impl_WrongBar.l0]
    rw [if_pos (lt_cast hlt), if_pos (lt_cast hlt), if_neg h0, if_pos (nn_cast i), if_pos (lt_cast hlt), if_neg h0, ht, if_pos t0, if_pos t1, if_pos t0, if_pos t1, if_pos (nn_cast i), wrap_succ hlt (by omega), e1, e2, hw]
    generalize wrap64 (rd S ((i : Int) % (S.length : Int)) * v) = u
    generalize rd z (i : Int) = a
    by_cases c1 : a > u
    · rw [if_pos c1]
      by_cases c2 : a = 0
      · rw [if_pos c2]; exact ⟨_, rfl, rfl⟩
      · rw [if_neg c2, if_pos c1]; exact ⟨_, rfl, rfl⟩
    rw [if_neg c1]
    by_cases c2 : a = 0
    · rw [if_pos c2, if_pos c2]
      by_cases c3 : (i : Int) < (z.length : Int) - 1
      · rw [if_pos c3]
        by_cases c4 : a < u
        · rw [if_pos c4]; exact ⟨_, rfl, rfl⟩
        · rw [if_neg c4]; exact ⟨_, rfl, rfl⟩
      · rw [if_neg c3]; exact ⟨_, rfl, rfl⟩
    rw [if_neg c2, if_neg c2, if_neg c1]
    by_cases c3 : (i : Int) < (z.length : Int) - 1
    · rw [if_pos c3, if_pos c3]
      by_cases c4 : a < u
      · (first | rw [if_pos c4, if_pos c4] | rw [if_pos c4]); exact ⟨_, rfl, rfl⟩
      · (first | rw [if_neg c4, if_neg c4] | rw [if_neg c4]); exact ⟨_, rfl, rfl⟩
    · rw [if_neg c3, if_neg c3]
      by_cases c4 : a < u
      · rw [if_pos c4]; exact ⟨_, rfl, rfl⟩
      · rw [if_neg c4]; exact ⟨_, rfl, rfl⟩
theorem fold_length : ∀ (b : List S95) (s : List Int), (foldS b s).length ≤ s.length + b.length
  | [], s => Nat.le_refl _
  | w :: r, s => by
    unfold foldS
    split
    · have := fold_length r (s ++ [0]); rw [List.length_append, List.length_singleton] at this; rw [List.length_cons]; omega
    · have := fold_length r (addS s w.f2.f1); rw [addS_length] at this; rw [List.length_cons]; omega
theorem WrongBar_both (a : ByteArray) (s : ByteArray) (S M : List Int) (v : Int) {K : Nat} (hK : 100000 ≤ K) : ∃ r, spec_WrongBar.f K a s S M v = some r ∧ impl_WrongBar.f K a s S M v = some r := by
  unfold spec_WrongBar.f impl_WrongBar.f spec_l25Tala_e.f impl_readWords.f
  rw [l25Ask_eq (by simp) s S M v (by simp; omega), notationCode_eq [] s S M v (by omega)]; simp only [Option.bind_some]
  by_cases hc : codeB [] s S M v = 0
  rotate_left
  · rw [if_neg hc, if_neg hc]; simp only [Option.bind_some]
    rw [if_neg hc]; exact ⟨_, rfl, rfl⟩
  rw [if_pos hc, if_pos hc]
  have hT : talaB s S M = true := by
    unfold codeB at hc
    cases h : talaB s S M
    · rw [h, Bool.and_false, if_neg (by decide)] at hc; exact absurd hc (by decide)
    · rfl
  have hS : 1 ≤ S.length ∧ S.length ≤ 8 := by
    unfold talaB at hT
    rw [Bool.and_eq_true, Bool.and_eq_true, Bool.and_eq_true, decide_eq_true_iff, decide_eq_true_iff] at hT
    exact hT.2.1
  unfold spec_l25Long.f
  by_cases hz : (a.size : Int) > 2000
  · rw [if_pos hz, if_pos hz]; simp only [Option.bind_some]
    rw [if_neg (by decide), if_neg (by decide)]; exact ⟨_, rfl, rfl⟩
  rw [if_neg hz, if_neg hz, Tokens_eq a (by omega) (by omega), barWords_eq a (by omega) (by omega)]; simp only [Option.bind_some]
  rw [if_pos trivial]
  cases hw : wordsOf a.data.toList with
  | none => exact ⟨_, rfl, rfl⟩
  | some b =>
    have h1 := wordsOf_length hw
    have h2 := Lib.size_eq a
    have h3 := fold_length b [0]
    rw [List.length_singleton] at h3
    have h4 : (sumsOf b).length ≤ 10000 := by
      unfold sumsOf
      split
      · exact Nat.zero_le _
      · omega
    obtain ⟨r, e1, e2⟩ := bar_loop v (sumsOf b) s M hS.1 hS.2 h4 (sumsOf b).length K 0 (by omega) (by omega)
    refine ⟨r, ?_, ?_⟩
    · show (if true = true then spec_WrongBar.l0 K v (sumsOf b) 0 s S M else _) = _
      rw [if_pos rfl]; exact e1
    · show (Option.bind (if true = true then some (([] : List S95) ++ b, (0 : Int)) else _) _) = _
      rw [if_pos rfl]; simp only [Option.bind_some, List.nil_append]
      rw [if_pos trivial, barSums_eq b (by omega) (by omega)]; simp only [Option.bind_some]
      exact e2
theorem FnExactWrongBar : ∀ (x0 : ByteArray) (x1 : P.S46) (x2 : Int), x0.size ≤ maxLen → g46 x1 → (Lit.int .i64 x2).wf = true → ∃ k : Nat, P.laws_FnExactWrongBar.f k x0 (x1.f0) (x1.f1) (x1.f2) x2 = some true := by
  intro a x v _ hg _
  refine ⟨6000000, ?_⟩
  unfold laws_FnExactWrongBar.f
  by_cases hz : (a.size : Int) > 1048576
  · rw [if_pos hz]
  rw [if_neg hz]
  obtain ⟨r, hr, h⟩ := szTala_some hg (a := 1048576) (by omega) (by omega)
  rw [hr]; simp only [Option.bind_some]
  by_cases h0 : r < 0
  · rw [if_pos h0]
  rw [if_neg h0]
  obtain ⟨_, _, hs⟩ := h.resolve_left h0
  have hT : ∀ K, 2000000 ≤ K → laws_toTala.f K x.f0 x.f1 x.f2 = some ((cTala x).f0, (cTala x).f1, (cTala x).f2) := fun K hK => toTala_eq hs (by omega)
  have hi := smi_cTala hs
  generalize cTala x = y at hT hi
  have hE : laws_eqTala.f 5999999 y.f0 y.f1 y.f2 y.f0 y.f1 y.f2 = some true := by rw [eqTala_eq hi (by omega)]; simp
  obtain ⟨q, e1, e2⟩ := WrongBar_both a y.f0 y.f1 y.f2 v (K := 6000000) (by omega)
  rw [hT _ (by omega)]; simp only [Option.bind_some]
  rw [e1]; simp only [Option.bind_some]
  rw [e2]; simp only [Option.bind_some, if_true, bne_self_eq_false]
  show laws_FnExactWrongBar.j0 (5999999 + 1) false x.f0 x.f1 x.f2 y.f0 y.f1 y.f2 = _
  simp only [laws_FnExactWrongBar.j0, Bool.false_eq_true, if_false]
  rw [hT _ (by omega)]; simp only [Option.bind_some]
  rw [hE]; rfl
end Go.Proofs.YtmoamoopoifnlaaGreatDoor.Pure
