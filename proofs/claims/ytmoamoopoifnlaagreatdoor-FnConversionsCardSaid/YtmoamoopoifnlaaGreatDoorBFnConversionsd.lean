/- Part d of what FnConversions stands on: functions of the program as Lean functions with their walks, and plain lemmas. -/
import Derived.Test.YtmoamoopoifnlaaGreatDoorBFnConversionsc
import Derived.Test.YtmoamoopoifnlaaGreatDoorBFnConversionsa
import Derived.Lib.ParseIntBCases
import Derived.Lib.IndexBytes
import Derived.Test.YtmoamoopoifnlaaGreatDoorK
import Derived.Test.YtmoamoopoifnlaaGreatDoorBFnConversionsb
import Derived.Laws.BitsAllLaws
namespace Go.Proofs.YtmoamoopoifnlaaGreatDoor.P
open Go.RowKit Go.Proofs.YtmoamoopoifnlaaGreatDoorW.PrintWords Go.Proofs.YtmoamoopoifnlaaGreatDoorL
set_option linter.unusedVariables false
set_option linter.unusedSimpArgs false
def digB (c : UInt8) : Bool := decide (48 ≤ c.toNat) && decide (c.toNat ≤ 57)
def valD (acc : Nat) (d : List UInt8) : Nat := d.foldl (fun a c => a * 10 + (c.toNat - 48)) acc
def okN (neg : Bool) (d : List UInt8) : Bool := decide (1 ≤ d.length) && decide (d.length ≤ 18) && (decide (d.head? ≠ some 48) || (!neg && decide (d.length = 1))) && d.all digB
def sgn (neg : Bool) (n : Nat) : Int := if neg = true then -(n : Int) else (n : Int)
def numN (neg : Bool) (d : List UInt8) : Option Int := if okN neg d = true then some (sgn neg (valD 0 d)) else none
def numV (s : List UInt8) : Option Int := if s.head? = some 45 then numN true (s.drop 1) else numN false s
def pairN : Option Int → Int × Bool | some n => (n, true) | none => (0, false)
theorem digB_iff {c : UInt8} : digB c = true ↔ 48 ≤ c.toNat ∧ c.toNat ≤ 57 := by
  unfold digB
  rw [Bool.and_eq_true, decide_eq_true_iff, decide_eq_true_iff]
theorem valD_cons (acc : Nat) (c : UInt8) (r : List UInt8) : valD acc (c :: r) = valD (acc * 10 + (c.toNat - 48)) r := by
  unfold valD; rw [List.foldl_cons]
theorem valD_ge : ∀ (d : List UInt8) (acc : Nat), acc ≤ valD acc d
  | [], _ => Nat.le_refl _
  | c :: r, acc => by rw [valD_cons]; have := valD_ge r (acc * 10 + (c.toNat - 48)); omega
theorem valD_lt : ∀ (d : List UInt8) (acc j : Nat), d.all digB = true → acc < 10 ^ j → valD acc d < 10 ^ (j + d.length)
  | [], acc, j, _, h => h
  | c :: r, acc, j, ha, h => by
    rw [List.all_cons, Bool.and_eq_true, digB_iff] at ha
    have := valD_lt r (acc * 10 + (c.toNat - 48)) (j + 1) ha.2 (by rw [Nat.pow_succ]; omega)
    rw [valD_cons, List.length_cons, show j + (r.length + 1) = j + 1 + r.length by omega]; exact this
theorem pow17 {j : Nat} (h : j ≤ 17) : 10 ^ j ≤ 100000000000000000 := Nat.le_trans (Nat.pow_le_pow_right (by decide) h) (by decide)
theorem bt_drop {s : ByteArray} {i : Nat} {c : UInt8} {r : List UInt8} (h : s.data.toList.drop i = c :: r) : bt s (i : Int) = (c.toNat : Int) := by
  have hl : i < s.size := by
    have := congrArg List.length h
    rw [List.length_drop, List.length_cons, ← Lib.size_eq] at this; omega
  have e : s.data.toList[i]? = some c := by
    have := List.getElem?_drop (xs := s.data.toList) (i := i) (j := 0)
    rw [h] at this; simpa using this.symm
  rw [Lib.data_getElem? s i hl] at e
  have e' := Option.some.inj e
  have hi : ((i : Int)).toNat = i := by omega
  unfold bt
  rw [dif_pos (by omega)]
  simp only [hi]
  rw [e']
theorem Digit_eq (c : UInt8) : spec_l01Digit.f (c.toNat : Int) = some (digB c) := by
  unfold spec_l01Digit.f digB
  by_cases h : (c.toNat : Int) ≥ 48
  · rw [if_pos h]
    have h1 : 48 ≤ c.toNat := by omega
    by_cases h2 : c.toNat ≤ 57
    · have h3 : (c.toNat : Int) ≤ 57 := by omega
      simp [h1, h2, h3]
    · have h3 : ¬ (c.toNat : Int) ≤ 57 := by omega
      simp [h1, h2, h3]
  · rw [if_neg h]
    have h1 : ¬ 48 ≤ c.toNat := by omega
    simp [h1]
theorem Num_l0 (s : ByteArray) (neg : Bool) (hs : s.size ≤ 1048576) : ∀ (d k i acc j : Nat), i + d = s.size → acc < 10 ^ j → j + d ≤ 18 → d + 1 ≤ k →
    spec_l01Number.l0 k s (if neg = true then 1 else 0) (acc : Int) (i : Int) = some (if (s.data.toList.drop i).all digB = true then (sgn neg (valD acc (s.data.toList.drop i)), true) else (0, false)) := by
  intro d
  induction d with
  | zero =>
    intro k i acc j hi ha hj hk
    obtain ⟨k, rfl⟩ : ∃ m, k = m + 1 := ⟨k - 1, by omega⟩
    have hd : s.data.toList.drop i = [] := List.drop_eq_nil_of_le (by rw [← Lib.size_eq]; omega)
    have := pow17 (j := 17) (by omega)
    have hlt : acc < 1000000000000000000 := Nat.lt_of_lt_of_le ha (Nat.le_trans (Nat.pow_le_pow_right (by decide) (show j ≤ 18 by omega)) (by decide))
    simp only [spec_l01Number.l0]
    rw [if_neg (by omega), hd]
    cases neg
    · simp [sgn, valD]
    · simp [sgn, valD, wrap_id (x := -(acc : Int)) (by omega) (by omega)]
  | succ d ih =>
    intro k i acc j hi ha hj hk
    obtain ⟨k, rfl⟩ : ∃ m, k = m + 1 := ⟨k - 1, by omega⟩
    have hlt : i < s.data.toList.length := by rw [← Lib.size_eq]; omega
    obtain ⟨c, r, hd⟩ : ∃ c r, s.data.toList.drop i = c :: r := ⟨_, _, List.drop_eq_getElem_cons hlt⟩
    have hr : s.data.toList.drop (i + 1) = r := by
      rw [← List.drop_drop, hd]; rfl
    have hp := pow17 (j := j) (by omega)
    simp only [spec_l01Number.l0]
    rw [if_pos (by omega), if_pos (nn_cast i), bt_drop hd, Digit_eq, hd, List.all_cons]
    simp only [Option.bind_some]
    by_cases hc : digB c = true
    · rw [if_pos hc, hc, Bool.true_and]
      rw [digB_iff] at hc
      have e1 : wrap64 (wrap64 (10 * (acc : Int)) + ((c.toNat : Int) - 48) % 256) = ((acc * 10 + (c.toNat - 48) : Nat) : Int) := by
        rw [wrap_id (x := 10 * (acc : Int)) (by omega) (by omega), wrap_id (by omega) (by omega)]; omega
      have e2 : wrap64 ((i : Int) + 1) = ((i + 1 : Nat) : Int) := by rw [wrap_id (by omega) (by omega)]; omega
      rw [e1, e2, ih k (i + 1) _ (j + 1) (by omega) (by rw [Nat.pow_succ]; omega) (by omega) (by omega), hr, valD_cons]
    · rw [if_neg hc]
      rw [Bool.not_eq_true] at hc
      simp [hc]
theorem Num_j1 (s : ByteArray) (neg : Bool) (x4 : Nat) (hx : x4 = if neg = true then 1 else 0) (hle : x4 ≤ s.size) (hs : s.size ≤ 1048576) {k : Nat} (hk : 50 ≤ k) :
    spec_l01Number.j1 k s (x4 : Int) = some (pairN (numN neg (s.data.toList.drop x4))) := by
  obtain ⟨k, rfl⟩ : ∃ m, k = m + 2 := ⟨k - 2, by omega⟩
  have hd : (s.data.toList.drop x4).length = s.size - x4 := by rw [List.length_drop, ← Lib.size_eq]
  have j2t : spec_l01Number.j2 (k + 1) s (x4 : Int) true = some (0, false) := by simp only [spec_l01Number.j2]; rw [if_pos trivial]
  have j2f : s.size - x4 ≤ 18 → spec_l01Number.j2 (k + 1) s (x4 : Int) false = some (if (s.data.toList.drop x4).all digB = true then (sgn neg (valD 0 (s.data.toList.drop x4)), true) else (0, false)) := fun h18 => by
    have := Num_l0 s neg hs (s.size - x4) k x4 0 0 (by omega) (by decide) (by omega) (by omega)
    have e : ((if neg = true then 1 else 0 : Int)) = (x4 : Int) := by rw [hx]; cases neg <;> rfl
    rw [e] at this
    simp only [spec_l01Number.j2]
    rw [if_neg (by decide)]
    exact this
  show spec_l01Number.j1 (k + 1 + 1) s (x4 : Int) = _
  simp only [spec_l01Number.j1]
  unfold numN okN
  by_cases h1 : (s.size : Int) = (x4 : Int)
  · rw [if_pos h1, j2t, hd, show s.size - x4 = 0 by omega]; rfl
  rw [if_neg h1, wrap_id (by omega) (by omega)]
  by_cases h2 : (s.size : Int) - (x4 : Int) > 18
  · have h3 : ¬ s.size - x4 ≤ 18 := by omega
    rw [if_pos h2, j2t, hd, decide_eq_false h3]; simp [pairN]
  have hlt : x4 < s.data.toList.length := by rw [← Lib.size_eq]; omega
  rw [if_neg h2, if_pos (nn_cast x4), if_pos (by omega), hd]
  obtain ⟨c, r, hc⟩ : ∃ c r, s.data.toList.drop x4 = c :: r := ⟨_, _, List.drop_eq_getElem_cons hlt⟩
  have h18 : s.size - x4 ≤ 18 := by omega
  have h1' : 1 ≤ s.size - x4 := by omega
  rw [bt_drop hc]
  have key : ∀ b : Bool, (b = (decide ((s.data.toList.drop x4).head? ≠ some 48) || (!neg && decide (s.size - x4 = 1)))) → (if b = true then spec_l01Number.j2 (k + 1) s (x4 : Int) false else spec_l01Number.j2 (k + 1) s (x4 : Int) true) = some (pairN (if (decide (1 ≤ s.size - x4) && decide (s.size - x4 ≤ 18) && (decide ((s.data.toList.drop x4).head? ≠ some 48) || (!neg && decide (s.size - x4 = 1))) && (s.data.toList.drop x4).all digB) = true then some (sgn neg (valD 0 (s.data.toList.drop x4))) else none)) := by
    intro b hb
    rw [← hb, decide_eq_true h1', decide_eq_true h18]
    cases b
    · rw [if_neg (by decide), j2t]; rfl
    · rw [if_pos rfl, j2f h18]
      cases (s.data.toList.drop x4).all digB <;> rfl
  by_cases h48 : (c.toNat : Int) = 48
  · have hc48 : c = 48 := UInt8.toNat_inj.1 (by rw [show c.toNat = 48 by omega]; rfl)
    rw [if_pos h48]
    have hh : decide ((s.data.toList.drop x4).head? ≠ some 48) = false := by rw [hc, hc48]; rfl
    have := key (!decide ((s.size : Int) > 1)) (by
      rw [hh, Bool.false_or]
      cases neg
      · have : x4 = 0 := hx
        subst this
        by_cases hz : s.size = 1
        · simp [hz]
        · have : (s.size : Int) > 1 := by omega
          simp [hz, this]
      · have : x4 = 1 := hx
        subst this
        have : (s.size : Int) > 1 := by omega
        simp [this])
    rw [← this]
    cases decide ((s.size : Int) > 1) <;> rfl
  · rw [if_neg h48]
    have hh : decide ((s.data.toList.drop x4).head? ≠ some 48) = true := by
      rw [hc]; refine decide_eq_true ?_
      intro e; apply h48; rw [show c = 48 from Option.some.inj e]; rfl
    have := key true (by rw [hh, Bool.true_or])
    rw [← this]; rfl
theorem Number_eq (s : ByteArray) (hs : s.size ≤ 1048576) {k : Nat} (hk : 60 ≤ k) : spec_l01Number.f k s = some (pairN (numV s.data.toList)) := by
  obtain ⟨k, rfl⟩ : ∃ m, k = m + 1 := ⟨k - 1, by omega⟩
  unfold spec_l01Number.f numV
  by_cases h0 : (s.size : Int) > 0
  · have hlt : 0 < s.data.toList.length := by rw [← Lib.size_eq]; omega
    obtain ⟨c, r, hc⟩ : ∃ c r, s.data.toList.drop 0 = c :: r := ⟨_, _, List.drop_eq_getElem_cons hlt⟩
    rw [if_pos h0, if_pos (by omega), show (0 : Int) = ((0 : Nat) : Int) from rfl, bt_drop hc]
    rw [List.drop_zero] at hc
    have hh : s.data.toList.head? = some c := by rw [hc]; rfl
    rw [hh]
    simp only [spec_l01Number.j0]
    by_cases h45 : c = 45
    · subst h45
      rw [if_pos (by decide), if_pos rfl]
      exact Num_j1 s true 1 rfl (by omega) hs (by omega)
    · have : ¬ ((((c.toNat : Nat) : Int)) == 45) = true := by
        intro e; apply h45; exact UInt8.toNat_inj.1 (by have := beq_iff_eq.1 e; rw [show c.toNat = 45 by omega]; rfl)
      rw [if_neg this, if_neg (fun e => h45 (Option.some.inj e))]
      have := Num_j1 s false 0 rfl (by omega) hs (k := k) (by omega)
      rw [List.drop_zero] at this; exact this
  · have hz : s.size = 0 := by omega
    have hn : s.data.toList = [] := List.eq_nil_of_length_eq_zero (by rw [← Lib.size_eq]; exact hz)
    rw [if_neg h0, hn]
    simp only [spec_l01Number.j0]
    rw [if_neg (by decide)]
    have := Num_j1 s false 0 rfl (by omega) hs (k := k) (by omega)
    rw [List.drop_zero, hn] at this; exact this
theorem valD_snoc (l : List UInt8) (b : UInt8) : valD 0 (l ++ [b]) = valD 0 l * 10 + (b.toNat - 48) := by unfold valD; rw [List.foldl_append]; rfl
theorem valD_pos {d : List UInt8} (h0 : d ≠ []) (ha : d.all digB = true) (h : d.head? ≠ some 48) : 1 ≤ valD 0 d := by
  cases d with
  | nil => exact absurd rfl h0
  | cons c r =>
    rw [List.all_cons, Bool.and_eq_true, digB_iff] at ha
    have hc : c.toNat ≠ 48 := fun e => h (by rw [List.head?_cons]; congr 1; exact UInt8.toNat_inj.1 (by rw [e]; rfl))
    have := valD_ge r (0 * 10 + (c.toNat - 48))
    rw [valD_cons]; omega
theorem dec_val : ∀ (n : Nat) (d : List UInt8), d.length ≤ n → d ≠ [] → d.all digB = true → (d.head? ≠ some 48 ∨ d.length = 1) → Lib.decDigits (valD 0 d) = d := by
  intro n
  induction n with
  | zero => intro d h h0; exact absurd (List.eq_nil_of_length_eq_zero (by omega)) h0
  | succ n ih =>
    intro d h h0 ha hh
    rcases List.eq_nil_or_concat d with rfl | ⟨l, b, rfl⟩
    · exact absurd rfl h0
    rw [List.concat_eq_append] at h ha hh ⊢
    rw [List.all_append, Bool.and_eq_true, List.all_cons, Bool.and_eq_true, digB_iff] at ha
    have hb := ha.2.1
    have eb : UInt8.ofNat (48 + (b.toNat - 48)) = b := by rw [show 48 + (b.toNat - 48) = b.toNat by omega]; exact UInt8.ofNat_toNat
    rw [valD_snoc, Lib.decDigits]
    cases l with
    | nil =>
      rw [dif_pos (by show 0 * 10 + _ < 10; omega)]
      show [UInt8.ofNat (48 + (0 * 10 + (b.toNat - 48)))] = _
      rw [Nat.zero_mul, Nat.zero_add, eb]; rfl
    | cons c r =>
      have h48 : (c :: r).head? ≠ some 48 := by
        rcases hh with hh | hh
        · simpa using hh
        · simp at hh
      have hp := valD_pos (by simp) ha.1 h48
      rw [dif_neg (by omega), show (valD 0 (c :: r) * 10 + (b.toNat - 48)) / 10 = valD 0 (c :: r) by omega, show (valD 0 (c :: r) * 10 + (b.toNat - 48)) % 10 = b.toNat - 48 by omega, eb]
      rw [ih (c :: r) (by simp at h ⊢; omega) (by simp) ha.1 (Or.inl h48)]
theorem toNat_dig {u : Nat} (h : u < 10) : (UInt8.ofNat (48 + u)).toNat = 48 + u := by
  rw [UInt8.toNat_ofNat']; omega
theorem dec_spec : ∀ (n u : Nat), u ≤ n → Lib.decDigits u ≠ [] ∧ (Lib.decDigits u).all digB = true ∧ valD 0 (Lib.decDigits u) = u ∧ (u ≠ 0 → (Lib.decDigits u).head? ≠ some 48) ∧ (u = 0 → (Lib.decDigits u).length = 1) := by
  intro n
  induction n with
  | zero =>
    intro u h
    obtain rfl : u = 0 := by omega
    rw [Lib.decDigits_one (by decide)]
    exact ⟨by simp, by decide, by decide, fun h => absurd rfl h, fun _ => rfl⟩
  | succ n ih =>
    intro u h
    rw [Lib.decDigits]
    by_cases h10 : u < 10
    · rw [dif_pos h10]
      have e := toNat_dig h10
      refine ⟨by simp, ?_, ?_, ?_, fun _ => rfl⟩
      · rw [List.all_cons, Bool.and_eq_true, digB_iff, e]; exact ⟨by omega, rfl⟩
      · rw [valD_cons, e]; show 0 * 10 + (48 + u - 48) = u; omega
      · intro h0 e2
        rw [List.head?_cons] at e2
        have := congrArg UInt8.toNat (Option.some.inj e2)
        rw [e] at this
        have e48 : (48 : UInt8).toNat = 48 := rfl
        omega
    · rw [dif_neg h10]
      obtain ⟨i1, i2, i3, i4, _⟩ := ih (u / 10) (by omega)
      have e := toNat_dig (u := u % 10) (by omega)
      refine ⟨by simp, ?_, ?_, ?_, fun h0 => by omega⟩
      · rw [List.all_append, i2, List.all_cons, Bool.true_and, Bool.and_eq_true, digB_iff, e]; exact ⟨by omega, rfl⟩
      · rw [valD_snoc, i3, e]; omega
      · intro _
        have := i4 (by omega)
        revert this i1
        generalize Lib.decDigits (u / 10) = l
        intro i1 i4
        cases l with
        | nil => exact absurd rfl i1
        | cons c r => simpa using i4
theorem parseM : ∀ (d : List UInt8) (acc j : Nat), d.all digB = true → acc < 10 ^ j → j + d.length ≤ 18 → Lib.parseUintM (2 ^ 64 - 1) acc d = .ok (valD acc d)
  | [], acc, j, _, _, _ => rfl
  | c :: r, acc, j, ha, hj, hl => by
    rw [List.all_cons, Bool.and_eq_true, digB_iff] at ha
    rw [List.length_cons] at hl
    have hp := pow17 (j := j) (by omega)
    rw [Lib.parseUintM, if_pos ha.1, if_neg (by omega), if_neg (by omega), valD_cons]
    exact parseM r _ (j + 1) ha.2 (by rw [Nat.pow_succ]; omega) (by omega)
theorem okN_iff {neg : Bool} {d : List UInt8} : okN neg d = true ↔ (1 ≤ d.length ∧ d.length ≤ 18) ∧ (d.head? ≠ some 48 ∨ (neg = false ∧ d.length = 1)) ∧ d.all digB = true := by
  unfold okN
  simp only [Bool.and_eq_true, Bool.or_eq_true, decide_eq_true_iff, Bool.not_eq_true', and_assoc]
theorem parseU {neg : Bool} {d : List UInt8} (h : okN neg d = true) : Lib.parseUintB 64 d = .ok (valD 0 d) ∧ valD 0 d < 1000000000000000000 := by
  obtain ⟨⟨h1, h2⟩, _, h3⟩ := okN_iff.1 h
  unfold Lib.parseUintB
  rw [if_neg (by intro e; rw [e] at h1; simp at h1)]
  refine ⟨parseM d 0 0 h3 (by decide) (by omega), ?_⟩
  have := valD_lt d 0 0 h3 (by decide)
  exact Nat.lt_of_lt_of_le this (Nat.le_trans (Nat.pow_le_pow_right (by decide) (show 0 + d.length ≤ 18 by omega)) (by decide))
theorem dec_list (n : Int) : (impl_Decimal.t n).data.toList = Lib.itoa n := by unfold impl_Decimal.t; simp
theorem trim_minus (r : List UInt8) : Lib.trimPrefix (45 :: r) [45] = r := by
  unfold Lib.trimPrefix Lib.hasPrefix
  rw [if_pos (by simp [List.isPrefixOf])]; rfl
theorem trim_other {c : UInt8} (r : List UInt8) (h : c ≠ 45) : Lib.trimPrefix (c :: r) [45] = c :: r := by
  unfold Lib.trimPrefix Lib.hasPrefix
  rw [if_neg (by simp [List.isPrefixOf]; exact fun e => h e.symm)]
theorem num_itoa {s : List UInt8} {n : Int} (h : numV s = some n) : Lib.itoa n = s ∧ Lib.parseIntB 64 s = .ok n ∧ (Lib.trimPrefix s [45]).length ≤ 18 := by
  unfold numV at h
  by_cases h45 : s.head? = some 45
  · rw [if_pos h45] at h
    obtain ⟨r, rfl⟩ : ∃ r, s = 45 :: r := by
      cases s with
      | nil => simp at h45
      | cons c r => exact ⟨r, by rw [List.head?_cons] at h45; rw [Option.some.inj h45]⟩
    rw [show (45 :: r).drop 1 = r from rfl] at h
    unfold numN at h
    by_cases ho : okN true r = true
    · rw [if_pos ho] at h
      obtain rfl := Option.some.inj h
      obtain ⟨p1, p2⟩ := parseU ho
      obtain ⟨⟨h1, h2⟩, h3, h4⟩ := okN_iff.1 ho
      have h48 : r.head? ≠ some 48 := h3.resolve_right (fun e => by simp at e)
      have hne : r ≠ [] := by intro e; rw [e] at h1; simp at h1
      have hp := valD_pos hne h4 h48
      refine ⟨?_, ?_, by rw [trim_minus]; exact h2⟩
      · unfold Lib.itoa sgn
        rw [if_pos rfl, if_pos (by omega), show (-((valD 0 r : Nat) : Int)).natAbs = valD 0 r by omega, dec_val _ r (Nat.le_refl _) hne h4 (Or.inl h48)]
      · rw [Lib.parseIntB_minus, p1]
        show (if 2 ^ (64 - 1) < valD 0 r then _ else _) = _
        rw [if_neg (by omega)]; rfl
    · rw [if_neg ho] at h; cases h
  · rw [if_neg h45] at h
    unfold numN at h
    by_cases ho : okN false s = true
    · rw [if_pos ho] at h
      obtain rfl := Option.some.inj h
      obtain ⟨p1, p2⟩ := parseU ho
      obtain ⟨⟨h1, h2⟩, h3, h4⟩ := okN_iff.1 ho
      cases s with
      | nil => simp at h1
      | cons c r =>
        have hc : 48 ≤ c.toNat ∧ c.toNat ≤ 57 := by
          rw [List.all_cons, Bool.and_eq_true, digB_iff] at h4; exact h4.1
        have hc45 : c ≠ 45 := fun e => h45 (by rw [e]; rfl)
        refine ⟨?_, ?_, by rw [trim_other r hc45]; exact h2⟩
        · unfold Lib.itoa sgn
          show (if ((valD 0 (c :: r) : Nat) : Int) < 0 then _ else Lib.decDigits (((valD 0 (c :: r) : Nat) : Int)).toNat) = _
          rw [if_neg (by omega), show (((valD 0 (c :: r) : Nat) : Int)).toNat = valD 0 (c :: r) by omega, dec_val _ _ (Nat.le_refl _) (by simp) h4 (h3.imp id (fun e => e.2))]
        · rw [Lib.parseIntB_plain 64 c r (by omega) (by omega), p1]
          show (if 2 ^ (64 - 1) ≤ valD 0 (c :: r) then _ else _) = _
          rw [if_neg (by omega)]; rfl
    · rw [if_neg ho] at h; cases h
theorem num_of_itoa {n : Int} (h : (Lib.trimPrefix (Lib.itoa n) [45]).length ≤ 18) : numV (Lib.itoa n) = some n := by
  unfold Lib.itoa at h ⊢
  by_cases hn : n < 0
  · rw [if_pos hn] at h ⊢
    rw [trim_minus] at h
    obtain ⟨i1, i2, i3, i4, _⟩ := dec_spec n.natAbs n.natAbs (Nat.le_refl _)
    unfold numV
    rw [if_pos (show (45 :: Lib.decDigits n.natAbs).head? = some 45 from rfl), show (45 :: Lib.decDigits n.natAbs).drop 1 = Lib.decDigits n.natAbs from rfl]
    unfold numN
    have hl : 1 ≤ (Lib.decDigits n.natAbs).length := List.length_pos_iff.2 i1
    rw [if_pos (okN_iff.2 ⟨⟨hl, h⟩, Or.inl (i4 (by omega)), i2⟩), i3]
    unfold sgn
    rw [if_pos rfl]; congr 1; omega
  · rw [if_neg hn] at h ⊢
    obtain ⟨i1, i2, i3, i4, i5⟩ := dec_spec n.toNat n.toNat (Nat.le_refl _)
    have hl : 1 ≤ (Lib.decDigits n.toNat).length := List.length_pos_iff.2 i1
    have h45 : (Lib.decDigits n.toNat).head? ≠ some 45 ∧ Lib.trimPrefix (Lib.decDigits n.toNat) [45] = Lib.decDigits n.toNat := by
      revert i1 i2
      generalize Lib.decDigits n.toNat = l
      intro i1 i2
      cases l with
      | nil => exact absurd rfl i1
      | cons c r =>
        rw [List.all_cons, Bool.and_eq_true, digB_iff] at i2
        have hc : c ≠ 45 := fun e => by rw [e] at i2; exact absurd i2.1.1 (by decide)
        exact ⟨fun e => hc (Option.some.inj e), trim_other r hc⟩
    rw [h45.2] at h
    unfold numV
    rw [if_neg h45.1]
    unfold numN
    have hx : (Lib.decDigits n.toNat).head? ≠ some 48 ∨ (false = false ∧ (Lib.decDigits n.toNat).length = 1) := by
      by_cases hz : n.toNat = 0
      · exact Or.inr ⟨rfl, i5 hz⟩
      · exact Or.inl (i4 hz)
    rw [if_pos (okN_iff.2 ⟨⟨hl, h⟩, hx, i2⟩), i3]
    unfold sgn
    rw [if_neg (by decide)]; congr 1; omega
theorem RD_eq (s : ByteArray) : impl_ReadDecimal.v s = numV s.data.toList := by
  cases hn : numV s.data.toList with
  | some n =>
    obtain ⟨h1, h2, h3⟩ := num_itoa hn
    unfold impl_ReadDecimal.v
    rw [h2]
    show (if 18 < (Lib.trimPrefix s.data.toList [45]).length then none else if (impl_Decimal.t n).toList = s.toList then some n else none) = some n
    rw [if_neg (by omega), if_pos (by rw [ByteArray.toList_eq, ByteArray.toList_eq, dec_list, h1])]
  | none =>
    cases hv : impl_ReadDecimal.v s with
    | none => rfl
    | some v =>
      exfalso
      unfold impl_ReadDecimal.v at hv
      rcases hp : Lib.parseIntB 64 s.data.toList with w | _ | _ <;> rw [hp] at hv
      · replace hv : (if 18 < (Lib.trimPrefix s.data.toList [45]).length then none else if (impl_Decimal.t w).toList = s.toList then some w else none) = some v := hv
        by_cases h18 : 18 < (Lib.trimPrefix s.data.toList [45]).length
        · rw [if_pos h18] at hv; cases hv
        rw [if_neg h18] at hv
        by_cases he : (impl_Decimal.t w).toList = s.toList
        · rw [ByteArray.toList_eq, ByteArray.toList_eq, dec_list] at he
          rw [← he] at h18 hn
          rw [num_of_itoa (by omega)] at hn; cases hn
        · rw [if_neg he] at hv; cases hv
      · cases hv
      · cases hv
theorem ReadDecimal_eq (s : ByteArray) (hs : s.size ≤ 1048576) : impl_ReadDecimal.f s = some (pairN (numV s.data.toList)) := by
  unfold impl_ReadDecimal.f
  rw [if_pos (by omega), RD_eq]
  cases numV s.data.toList <;> rfl

def baL (l : List UInt8) : ByteArray := ⟨l.toArray⟩
def splitL (c : UInt8) (cur : List UInt8) : List UInt8 → List (List UInt8)
  | [] => [cur]
  | b :: r => if b = c then cur :: splitL c [] r else splitL c (cur ++ [b]) r
theorem baL_data (l : List UInt8) : (baL l).data.toList = l := by unfold baL; simp
theorem data_baL (s : ByteArray) : baL s.data.toList = s := Lib.mk_data s
theorem Split_l0 (s : ByteArray) (c : UInt8) (hs : s.size ≤ 1048576) : ∀ (d k b i : Nat) (acc : List ByteArray), i + d = s.size → b ≤ i → acc.length ≤ i → d + 1 ≤ k →
    spec_l01Split.l0 k s (c.toNat : Int) acc (b : Int) (i : Int) = some (acc ++ (splitL c ((s.data.toList.drop b).take (i - b)) (s.data.toList.drop i)).map baL) := by
  intro d
  induction d with
  | zero =>
    intro k b i acc hi hb ha hk
    obtain ⟨k, rfl⟩ : ∃ m, k = m + 1 := ⟨k - 1, by omega⟩
    have hd : s.data.toList.drop i = [] := List.drop_eq_nil_of_le (by rw [← Lib.size_eq]; omega)
    simp only [spec_l01Split.l0]
    rw [if_neg (by omega), if_pos (nn_cast b), if_pos (by omega), if_pos (by omega), hd, Lib.extract_eq]
    show some (acc ++ [baL _]) = some (acc ++ [baL _])
    rw [show ((b : Int)).toNat = b by omega, show s.size - b = i - b by omega]
  | succ d ih =>
    intro k b i acc hi hb ha hk
    obtain ⟨k, rfl⟩ : ∃ m, k = m + 1 := ⟨k - 1, by omega⟩
    have hlt : i < s.data.toList.length := by rw [← Lib.size_eq]; omega
    obtain ⟨x, r, hd⟩ : ∃ x r, s.data.toList.drop i = x :: r := ⟨_, _, List.drop_eq_getElem_cons hlt⟩
    have hr : s.data.toList.drop (i + 1) = r := by rw [← List.drop_drop, hd]; rfl
    have e2 : wrap64 ((i : Int) + 1) = ((i + 1 : Nat) : Int) := by rw [wrap_id (by omega) (by omega)]; omega
    simp only [spec_l01Split.l0]
    rw [if_pos (by omega), if_pos (nn_cast i), bt_drop hd, e2, hd]
    by_cases hc : x = c
    · subst hc
      rw [if_pos rfl, if_pos (nn_cast b), if_pos (by omega), if_pos (by omega), if_pos (by omega), ih k (i + 1) (i + 1) _ (by omega) (by omega) (by rw [List.length_append]; simp; omega) (by omega), hr, Lib.extract_eq]
      rw [show splitL x ((s.data.toList.drop b).take (i - b)) (x :: r) = ((s.data.toList.drop b).take (i - b)) :: splitL x [] r from if_pos rfl]
      rw [Nat.sub_self, List.take_zero, List.map_cons, List.append_assoc, show ((b : Int)).toNat = b by omega, show ((i : Int)).toNat = i by omega]
      rfl
    · rw [if_neg (fun e => hc (UInt8.toNat_inj.1 (by omega))), ih k b (i + 1) _ (by omega) (by omega) (by omega) (by omega), hr]
      rw [show splitL c ((s.data.toList.drop b).take (i - b)) (x :: r) = splitL c (((s.data.toList.drop b).take (i - b)) ++ [x]) r from if_neg hc]
      have : (s.data.toList.drop b).take (i + 1 - b) = (s.data.toList.drop b).take (i - b) ++ [x] := by
        rw [show i + 1 - b = (i - b) + 1 by omega, List.take_add_one, List.getElem?_drop, show b + (i - b) = i by omega]
        have : s.data.toList[i]? = some x := by
          have := List.getElem?_drop (xs := s.data.toList) (i := i) (j := 0)
          rw [hd] at this; simpa using this.symm
        rw [this]; rfl
      rw [this]
theorem Split_eq (s : ByteArray) (c : UInt8) (hs : s.size ≤ 1048576) {k : Nat} (hk : s.size + 1 ≤ k) : spec_l01Split.f k s (c.toNat : Int) = some ((splitL c [] s.data.toList).map baL) := by
  unfold spec_l01Split.f
  have := Split_l0 s c hs s.size k 0 0 [] (by omega) (by omega) (by simp) (by omega)
  simpa using this
theorem splitL_none {c : UInt8} : ∀ (l cur : List UInt8), c ∉ l → splitL c cur l = [cur ++ l]
  | [], cur, _ => by simp [splitL]
  | b :: r, cur, h => by
    rw [show splitL c cur (b :: r) = splitL c (cur ++ [b]) r from if_neg (fun e => h (by rw [e]; exact List.mem_cons_self)), splitL_none r _ (fun e => h (List.mem_cons_of_mem _ e))]
    simp
theorem splitL_at {c : UInt8} : ∀ (a cur b : List UInt8), c ∉ a → splitL c cur (a ++ c :: b) = (cur ++ a) :: splitL c [] b
  | [], cur, b, _ => by
    rw [List.nil_append, List.append_nil]; exact if_pos rfl
  | x :: r, cur, b, h => by
    rw [List.cons_append, show splitL c cur (x :: (r ++ c :: b)) = splitL c (cur ++ [x]) (r ++ c :: b) from if_neg (fun e => h (by rw [e]; exact List.mem_cons_self)), splitL_at r _ b (fun e => h (List.mem_cons_of_mem _ e))]
    simp
theorem splitL_pos (c : UInt8) : ∀ (l cur : List UInt8), 1 ≤ (splitL c cur l).length
  | [], _ => Nat.le_refl _
  | b :: r, cur => by
    unfold splitL
    split
    · simp
    · exact splitL_pos c r _
/-- Two pieces: one cut, and no other. -/
theorem splitL_two {c : UInt8} {l : List UInt8} (h : (splitL c [] l).length = 2) : ∃ a b, l = a ++ c :: b ∧ c ∉ a ∧ c ∉ b ∧ splitL c [] l = [a, b] := by
  by_cases hm : c ∈ l
  · obtain ⟨a, b, rfl, ha⟩ := List.eq_append_cons_of_mem hm
    rw [splitL_at a [] b ha] at h ⊢
    by_cases hb : c ∈ b
    · exfalso
      obtain ⟨a2, b2, rfl, ha2⟩ := List.eq_append_cons_of_mem hb
      rw [splitL_at a2 [] b2 ha2] at h
      have := splitL_pos c b2 []
      simp only [List.length_cons] at h; omega
    · exact ⟨a, b, rfl, ha, hb, by rw [splitL_none b [] hb]; simp⟩
  · rw [splitL_none l [] hm] at h; simp at h
theorem indexByte_at {c : UInt8} : ∀ (a b : List UInt8), c ∉ a → Lib.indexByte (a ++ c :: b) c = (a.length : Int)
  | [], b, _ => by simp [Lib.indexByte]
  | x :: r, b, h => by
    have ih := indexByte_at r b (fun e => h (List.mem_cons_of_mem _ e))
    have hx : (x == c) = false := beq_eq_false_iff_ne.2 (fun e => h (by rw [e]; exact List.mem_cons_self))
    rw [List.cons_append, Lib.indexByte, hx, ih]
    have : ((r.length : Int) == -1) = false := beq_eq_false_iff_ne.2 (by omega)
    simp [this]
theorem indexByte_no {c : UInt8} : ∀ (l : List UInt8), c ∉ l → Lib.indexByte l c = -1
  | [], _ => rfl
  | x :: r, h => by
    have ih := indexByte_no r (fun e => h (List.mem_cons_of_mem _ e))
    have hx : (x == c) = false := beq_eq_false_iff_ne.2 (fun e => h (by rw [e]; exact List.mem_cons_self))
    rw [Lib.indexByte, hx, ih]; rfl
theorem cut_at {c : UInt8} (a b : List UInt8) (h : c ∉ a) : Lib.cut (a ++ c :: b) [c] = (a, b, true) := by
  unfold Lib.cut
  rw [Lib.index_one, indexByte_at a b h, if_pos (by omega), show ((a.length : Int)).toNat = a.length by omega]
  simp
theorem cut_no {c : UInt8} (l : List UInt8) (h : c ∉ l) : Lib.cut l [c] = (l, [], false) := by
  unfold Lib.cut
  rw [Lib.index_one, indexByte_no l h, if_neg (by decide)]
theorem Cut_eq (s : ByteArray) (c : UInt8) (hs : s.size ≤ 1048576) : strings_Cut.f s (⟨#[c]⟩ : ByteArray) = some (baL (Lib.cut s.data.toList [c]).1, baL (Lib.cut s.data.toList [c]).2.1, (Lib.cut s.data.toList [c]).2.2) := by
  unfold strings_Cut.f
  rw [if_pos (by omega)]; rfl

def twoN (x : Int × Bool) (y : Option Int) : Option S67 := match x.2, y with | true, some n => some ⟨x.1, n⟩ | _, _ => none
def piece (s k : Int) (t : List UInt8) : Option S67 := twoN (readPt s k (baL (Lib.cut t [58]).1)) (numV (Lib.cut t [58]).2.1)
def allR (s k : Int) : List (List UInt8) → Option (List S67)
  | [] => some []
  | t :: r => match piece s k t with | none => none | some x => (allR s k r).map (x :: ·)
theorem baL_size (l : List UInt8) : (baL l).size = l.length := by unfold baL; show l.toArray.size = _; simp
theorem itoa_mem {n : Int} {b : UInt8} (h : b ∈ Lib.itoa n) : b = 45 ∨ digB b = true := by
  unfold Lib.itoa at h
  split at h
  · rcases List.mem_cons.1 h with rfl | h
    · exact Or.inl rfl
    · exact Or.inr (List.all_eq_true.1 (dec_spec n.natAbs n.natAbs (Nat.le_refl _)).2.1 b h)
  · exact Or.inr (List.all_eq_true.1 (dec_spec n.toNat n.toNat (Nat.le_refl _)).2.1 b h)
theorem itoa_no {n : Int} {b : UInt8} (h0 : b ≠ 45) (h1 : digB b = false) : b ∉ Lib.itoa n := fun h => by
  rcases itoa_mem h with rfl | h
  · exact h0 rfl
  · rw [h1] at h; cases h
theorem num_no {l : List UInt8} {b : UInt8} (hb : b ∈ l) (h0 : b ≠ 45) (h1 : digB b = false) : numV l = none := by
  cases h : numV l with
  | none => rfl
  | some n => exact absurd (by rw [(num_itoa h).1]; exact hb) (itoa_no (n := n) h0 h1)
theorem cut_shape (l : List UInt8) (c : UInt8) : (∃ a b, Lib.cut l [c] = (a, b, true) ∧ l = a ++ c :: b ∧ c ∉ a) ∨ (Lib.cut l [c] = (l, [], false) ∧ c ∉ l) := by
  by_cases hm : c ∈ l
  · obtain ⟨a, b, rfl, ha⟩ := List.eq_append_cons_of_mem hm
    exact Or.inl ⟨a, b, cut_at a b ha, rfl, ha⟩
  · exact Or.inr ⟨cut_no l hm, hm⟩
theorem twoN_none (x : Int × Bool) : twoN x none = none := by unfold twoN; cases x.2 <;> rfl
theorem twoN_false {x : Int × Bool} (h : x.2 = false) (y : Option Int) : twoN x y = none := by unfold twoN; rw [h]
/-- A piece that the reference does not cut in two is no note for the program. -/
theorem piece_bad {s k : Int} {t : List UInt8} (h : ¬ (splitL 58 [] t).length = 2) : piece s k t = none := by
  unfold piece
  rcases cut_shape t 58 with ⟨a, b, e, ht, ha⟩ | ⟨e, ht⟩
  · rw [e]
    have hb : (58 : UInt8) ∈ b := by
      by_cases hb : (58 : UInt8) ∈ b
      · exact hb
      · exfalso; apply h; rw [ht, splitL_at a [] b ha, splitL_none b [] hb]; rfl
    show twoN _ (numV b) = none
    rw [num_no hb (by decide) (by decide), twoN_none]
  · rw [e]
    show twoN _ (numV []) = none
    rw [show numV [] = none from rfl, twoN_none]
theorem piece_two {s k : Int} {t a b : List UInt8} (ht : t = a ++ 58 :: b) (ha : (58 : UInt8) ∉ a) : piece s k t = twoN (readPt s k (baL a)) (numV b) := by
  unfold piece; rw [ht, cut_at a b ha]
theorem at_mem {l : List ByteArray} {t : Int} {b : UInt8} (hb : b ∈ (impl_pitchIn.at_ l t).data.toList) : ∃ x ∈ l, b ∈ x.data.toList := by
  unfold impl_pitchIn.at_ at hb
  rw [List.getD_eq_getElem?_getD] at hb
  cases h : l[t.toNat]? with
  | none => rw [h] at hb; exact absurd hb (by simp)
  | some x => rw [h] at hb; exact ⟨x, List.mem_of_getElem? h, hb⟩
theorem L_no : ∀ x ∈ impl_pitchIn.L, (32 : UInt8) ∉ x.data.toList := by decide
theorem M_no : ∀ x ∈ impl_pitchIn.M, (32 : UInt8) ∉ x.data.toList := by decide
theorem name_no (t : Int) : (32 : UInt8) ∉ (nameT t).data.toList := fun h => by
  unfold nameT at h
  rw [Lib.extract_eq] at h
  have h2 : (32 : UInt8) ∈ [83, 114, 82, 103, 71, 109, 77, 80, 100, 68, 110, 78] := List.mem_of_mem_drop (List.mem_of_mem_take (by simpa using h))
  exact absurd h2 (by decide)
theorem dec_no (n : Int) : (32 : UInt8) ∉ (impl_Decimal.t n).data.toList := by rw [dec_list]; exact itoa_no (by decide) (by decide)
theorem pt_no (s k p : Int) : (32 : UInt8) ∉ (pt s k p).data.toList := by
  have l1 : ∀ t, (32 : UInt8) ∉ (impl_pitchIn.at_ impl_pitchIn.L t).data.toList := fun t h => by obtain ⟨x, hx, hb⟩ := at_mem h; exact L_no x hx hb
  have m1 : ∀ t, (32 : UInt8) ∉ (impl_pitchIn.at_ impl_pitchIn.M t).data.toList := fun t h => by obtain ⟨x, hx, hb⟩ := at_mem h; exact M_no x hx hb
  have n1 := name_no (p % 12)
  have d1 := dec_no
  unfold pt
  repeat' split
  all_goals (try rw [ba_app])
  all_goals simp [n1, l1, m1, d1]
theorem piece_blank {s k : Int} {t : List UInt8} (h : (32 : UInt8) ∈ t) : piece s k t = none := by
  unfold piece
  rcases cut_shape t 58 with ⟨a, b, e, ht, ha⟩ | ⟨e, ht⟩
  · rw [e]
    show twoN (readPt s k (baL a)) (numV b) = none
    rw [ht, List.mem_append, List.mem_cons] at h
    rcases h with h | h | h
    · refine twoN_false ?_ _
      cases hr : (readPt s k (baL a)).2 with
      | false => rfl
      | true =>
        exfalso
        have := (readL_bounds 36 (-12) hr).2.2
        rw [ByteArray.toList_eq, ByteArray.toList_eq, baL_data] at this
        exact pt_no _ _ _ (by rw [this]; exact h)
    · exact absurd h (by decide)
    · rw [num_no h (by decide) (by decide), twoN_none]
  · rw [e]
    show twoN _ (numV []) = none
    rw [show numV [] = none from rfl, twoN_none]
theorem allR_append_none {s k : Int} : ∀ (pre : List (List UInt8)) {t : List UInt8}, piece s k t = none → allR s k (pre ++ [t]) = none
  | [], t, h => by simp [allR, h]
  | x :: r, t, h => by
    have ih := allR_append_none (s := s) (k := k) r h
    rw [List.cons_append]
    unfold allR
    cases piece s k x with
    | none => rfl
    | some y => rw [ih]; rfl
theorem allR_length {s k : Int} : ∀ (l : List (List UInt8)) (ys : List S67), allR s k l = some ys → ys.length = l.length
  | [], ys, h => by
    have e : [] = ys := Option.some.inj h
    rw [← e]; rfl
  | t :: r, ys, h => by
    unfold allR at h
    cases hp : piece s k t with
    | none => rw [hp] at h; cases h
    | some y =>
      rw [hp] at h
      obtain ⟨zs, hz, rfl⟩ := Option.map_eq_some_iff.1 h
      rw [List.length_cons, List.length_cons, allR_length r zs hz]
theorem splitL_le {c : UInt8} : ∀ (l cur : List UInt8), (splitL c cur l).length ≤ l.length + 1 ∧ ∀ t ∈ splitL c cur l, t.length ≤ cur.length + l.length
  | [], cur => ⟨by simp [splitL], fun t ht => by simp [splitL] at ht; rw [ht]; omega⟩
  | b :: r, cur => by
    unfold splitL
    by_cases hb : b = c
    · rw [if_pos hb]
      have ih := splitL_le (c := c) r []
      refine ⟨by rw [List.length_cons, List.length_cons]; have := ih.1; omega, fun t ht => ?_⟩
      rcases List.mem_cons.1 ht with rfl | ht
      · omega
      · have := ih.2 t ht
        rw [List.length_cons]; simp at this; omega
    · rw [if_neg hb]
      have ih := splitL_le (c := c) r (cur ++ [b])
      refine ⟨by rw [List.length_cons]; have := ih.1; omega, fun t ht => ?_⟩
      have := ih.2 t ht
      rw [List.length_cons]; simp at this; omega
theorem index_at {c : UInt8} (a b : List UInt8) (h : c ∉ a) : Lib.index (a ++ c :: b) [c] = (a.length : Int) := by rw [Lib.index_one, indexByte_at a b h]
theorem index_no {c : UInt8} (l : List UInt8) (h : c ∉ l) : Lib.index l [c] = -1 := by rw [Lib.index_one, indexByte_no l h]
theorem splitK_at {c : UInt8} (k : Nat) (a b : List UInt8) (h : c ∉ a) : Lib.splitK [c] 0 (k + 1) (a ++ c :: b) = a :: Lib.splitK [c] 0 k b := by
  have e1 : ((a.length : Int) == -1) = false := beq_eq_false_iff_ne.2 (by omega)
  rw [Lib.splitK, index_at a b h, e1, if_neg (by decide), show ((a.length : Int)).toNat = a.length by omega]
  simp
theorem splitK_no {c : UInt8} (k : Nat) (l : List UInt8) (h : c ∉ l) : Lib.splitK [c] 0 k l = [l] := by
  cases k with
  | zero => rfl
  | succ k => rw [Lib.splitK, index_no l h]; rfl
theorem splitK_same {c : UInt8} : ∀ (k : Nat) (l : List UInt8), (splitL c [] l).length ≤ k + 1 → Lib.splitK [c] 0 k l = splitL c [] l := by
  intro k
  induction k with
  | zero =>
    intro l h
    by_cases hm : c ∈ l
    · obtain ⟨a, b, rfl, ha⟩ := List.eq_append_cons_of_mem hm
      rw [splitL_at a [] b ha, List.length_cons] at h
      have := splitL_pos c b []
      omega
    · rw [splitL_none l [] hm]; rfl
  | succ k ih =>
    intro l h
    by_cases hm : c ∈ l
    · obtain ⟨a, b, rfl, ha⟩ := List.eq_append_cons_of_mem hm
      rw [splitL_at a [] b ha, List.length_cons] at h
      rw [splitK_at k a b ha, splitL_at a [] b ha, ih b (by omega)]; rfl
    · rw [splitL_none l [] hm, splitK_no _ l hm]; rfl
theorem splitK_more {c : UInt8} : ∀ (k : Nat) (l : List UInt8), k + 1 < (splitL c [] l).length → ∃ pre t, Lib.splitK [c] 0 k l = pre ++ [t] ∧ c ∈ t := by
  intro k
  induction k with
  | zero =>
    intro l h
    by_cases hm : c ∈ l
    · exact ⟨[], l, rfl, hm⟩
    · rw [splitL_none l [] hm] at h; simp at h
  | succ k ih =>
    intro l h
    by_cases hm : c ∈ l
    · obtain ⟨a, b, rfl, ha⟩ := List.eq_append_cons_of_mem hm
      rw [splitL_at a [] b ha, List.length_cons] at h
      obtain ⟨pre, t, e, ht⟩ := ih b (by omega)
      exact ⟨a :: pre, t, by rw [splitK_at k a b ha, e]; rfl, ht⟩
    · rw [splitL_none l [] hm] at h; simp at h
theorem splitK_le {c : UInt8} : ∀ (k : Nat) (l : List UInt8), ∀ t ∈ Lib.splitK [c] 0 k l, t.length ≤ l.length := by
  intro k
  induction k with
  | zero => intro l t ht; simp [Lib.splitK] at ht; rw [ht]; omega
  | succ k ih =>
    intro l t ht
    by_cases hm : c ∈ l
    · obtain ⟨a, b, rfl, ha⟩ := List.eq_append_cons_of_mem hm
      rw [splitK_at k a b ha] at ht
      rcases List.mem_cons.1 ht with rfl | ht
      · simp
      · have := ih b t ht
        simp; omega
    · rw [splitK_no _ l hm] at ht
      simp at ht; rw [ht]; omega
def notesOf (s k : Int) (l : List UInt8) : Option (List S67) := if l = [] then some [] else match allR s k (splitL 32 [] l) with | none => none | some ys => if melB ys = true then some ys else none
def specP : Option (List S67) → List S67 × Bool | some ys => (ys, true) | none => ([], false)
def specE (acc : List S67) : Option (List S67) → List S67 × Bool | some ys => if melB (acc ++ ys) = true then (acc ++ ys, true) else ([], false) | none => ([], false)
def implE (acc : List S67) : Option (List S67) → List S67 × Bool | some ys => (acc ++ ys, melB (acc ++ ys)) | none => ([], false)
theorem map_baL_get {ps : List (List UInt8)} {i : Nat} (h : i < ps.length) : rdOf ByteArray.empty (ps.map baL) (i : Int) = baL ps[i] := by
  rw [rdOf_get (by simpa using h)]; simp
theorem specRead_l0 {s k : Int} (hk : keyB s k = true) {ps : List (List UInt8)} (hn : ps.length ≤ 1048577) (hp : ∀ t ∈ ps, t.length ≤ 1048576) : ∀ (d K i : Nat) (acc : List S67), i + d = ps.length → acc.length ≤ i → d + 2000000 ≤ K → spec_l26Read.l0 K s k acc (ps.map baL) (i : Int) = some (specE acc (allR s k (ps.drop i))) := by
  intro d
  induction d with
  | zero =>
    intro K i acc hi ha hK
    obtain ⟨K, rfl⟩ : ∃ m, K = m + 1 := ⟨K - 1, by omega⟩
    simp only [spec_l26Read.l0]
    rw [if_neg (by rw [List.length_map]; omega), List.drop_eq_nil_of_le (by omega)]
    have e : specE acc (allR s k []) = if melB acc = true then (acc, true) else ([], false) := by
      show (if melB (acc ++ []) = true then (acc ++ [], true) else ([], false)) = _
      rw [List.append_nil]
    rw [e]
    rw [l09Ok_eq (by omega) (by omega)]; simp only [Option.bind_some]
    by_cases hm : melB acc = true
    · rw [if_pos hm, if_pos hm]
    · rw [if_neg hm, if_neg hm]
  | succ d ih =>
    intro K i acc hi ha hK
    obtain ⟨K, rfl⟩ : ∃ m, K = m + 1 := ⟨K - 1, by omega⟩
    have hlt : i < ps.length := by omega
    have ht := hp ps[i] (List.getElem_mem hlt)
    simp only [spec_l26Read.l0]
    rw [if_pos (by rw [List.length_map]; omega), if_pos (nn_cast i), map_baL_get hlt, List.drop_eq_getElem_cons hlt]
    have E1 : spec_l01Split.f K (baL ps[i]) 58 = some ((splitL 58 [] ps[i]).map baL) := by
      have := Split_eq (baL ps[i]) 58 (by rw [baL_size]; omega) (k := K) (by rw [baL_size]; omega)
      rw [baL_data] at this; exact this
    rw [E1]; simp only [Option.bind_some]
    by_cases h2 : (splitL 58 [] ps[i]).length = 2
    · obtain ⟨a, b, hab, h3, h4, e⟩ := splitL_two h2
      have hsz : ps[i].length = a.length + 1 + b.length := by rw [hab]; simp; omega
      have l2 : (([baL a, baL b].length : Nat) : Int) = 2 := rfl
      have r2 : rdOf ByteArray.empty [baL a, baL b] 0 = baL a := rfl
      have r3 : rdOf ByteArray.empty [baL a, baL b] 1 = baL b := rfl
      rw [e, show [a, b].map baL = [baL a, baL b] from rfl, l2, if_pos rfl, if_pos (by decide), r2, r3, l26ReadPitch_eq _ hk (by omega)]
      simp only [Option.bind_some]
      rw [if_pos (by decide), Number_eq (baL b) (by rw [baL_size]; omega) (by omega), baL_data]
      simp only [Option.bind_some]
      have hpc := piece_two (s := s) (k := k) hab h3
      unfold allR
      rw [hpc]
      rcases hx : readPt s k (baL a) with ⟨p, _ | _⟩
      · rw [twoN_false rfl]; rw [if_neg (show ¬ false = true by decide)]; rfl
      · cases numV b with
        | none => rw [twoN_none]; rw [if_pos rfl, if_neg (by decide)]; rfl
        | some n =>
          show (if true = true then (if true = true then (if acc.length < 8796093022208 then spec_l26Read.l0 K s k (acc ++ [⟨p, n⟩]) (ps.map baL) (wrap64 ((i : Int) + 1)) else none) else _) else _) = _
          rw [if_pos rfl, if_pos rfl, if_pos (by omega), wrap_succ hlt (by omega), ih K (i + 1) _ (by omega) (by rw [List.length_append]; simp; omega) (by omega)]
          show _ = some (specE acc ((allR s k (ps.drop (i + 1))).map _))
          cases allR s k (ps.drop (i + 1)) with
          | none => rfl
          | some ys => show some (if melB ((acc ++ [⟨p, n⟩]) ++ ys) = true then ((acc ++ [⟨p, n⟩]) ++ ys, true) else ([], false)) = some (if melB (acc ++ (⟨p, n⟩ :: ys)) = true then (acc ++ (⟨p, n⟩ :: ys), true) else ([], false)); rw [List.append_assoc]; rfl
    · rw [if_neg (by rw [List.length_map]; omega)]
      unfold allR
      rw [piece_bad h2]; rfl
theorem implRead_l0 {s k : Int} (hk : keyB s k = true) {ps : List (List UInt8)} (hn : ps.length ≤ 100) (hp : ∀ t ∈ ps, t.length ≤ 1048576) : ∀ (d K i : Nat) (acc : List S67), i + d = ps.length → acc.length ≤ i → d + 2000 ≤ K → impl_readNotesIn.l0 K s k acc (ps.map baL) ((ps.map baL).length : Int) (i : Int) = some (implE acc (allR s k (ps.drop i))) := by
  intro d
  induction d with
  | zero =>
    intro K i acc hi ha hK
    obtain ⟨K, rfl⟩ : ∃ m, K = m + 1 := ⟨K - 1, by omega⟩
    simp only [impl_readNotesIn.l0]
    rw [if_neg (by rw [List.length_map]; omega), List.drop_eq_nil_of_le (by omega), ValidMelody_eq (by omega)]
    show some (acc, melB acc) = some (acc ++ [], melB (acc ++ []))
    rw [List.append_nil]
  | succ d ih =>
    intro K i acc hi ha hK
    obtain ⟨K, rfl⟩ : ∃ m, K = m + 1 := ⟨K - 1, by omega⟩
    have hlt : i < ps.length := by omega
    have ht := hp ps[i] (List.getElem_mem hlt)
    simp only [impl_readNotesIn.l0]
    rw [if_pos (by rw [List.length_map]; omega), if_pos (nn_cast i), if_pos (by rw [List.length_map]; omega), map_baL_get hlt, List.drop_eq_getElem_cons hlt, Cut_eq (baL ps[i]) 58 (by rw [baL_size]; omega), baL_data]
    simp only [Option.bind_some]
    have hsz : (Lib.cut ps[i] [58]).2.1.length ≤ ps[i].length := by
      rcases cut_shape ps[i] 58 with ⟨a, b, e, h, _⟩ | ⟨e, _⟩
      · rw [e, h]; simp; omega
      · rw [e]; simp
    rw [readPitchIn_eq _ hk]
    simp only [Option.bind_some]
    rw [ReadDecimal_eq _ (by rw [baL_size]; omega), baL_data]
    simp only [Option.bind_some]
    unfold allR piece
    rcases hx : readPt s k (baL (Lib.cut ps[i] [58]).1) with ⟨p, _ | _⟩
    · rw [twoN_false rfl]; rw [if_neg (show ¬ false = true by decide)]; rfl
    · cases numV (Lib.cut ps[i] [58]).2.1 with
      | none => rw [twoN_none]; rw [if_pos rfl, if_neg (by decide)]; rfl
      | some n =>
        show (if true = true then (if true = true then (if acc.length < 8796093022208 then impl_readNotesIn.l0 K s k (acc ++ [⟨p, n⟩]) (ps.map baL) ((ps.map baL).length : Int) (wrap64 ((i : Int) + 1)) else none) else _) else _) = _
        rw [if_pos rfl, if_pos rfl, if_pos (by omega), wrap_succ hlt (by omega), ih K (i + 1) _ (by omega) (by rw [List.length_append]; simp; omega) (by omega)]
        show _ = some (implE acc ((allR s k (ps.drop (i + 1))).map _))
        cases allR s k (ps.drop (i + 1)) with
        | none => rfl
        | some ys => show some ((acc ++ [⟨p, n⟩]) ++ ys, melB ((acc ++ [⟨p, n⟩]) ++ ys)) = some (acc ++ (⟨p, n⟩ :: ys), melB (acc ++ (⟨p, n⟩ :: ys))); rw [List.append_assoc]; rfl
theorem empty_iff (a : ByteArray) : a.toList = ([] : List UInt8) ↔ a.data.toList = [] := by rw [ByteArray.toList_eq]
theorem l26Read_eq {s k : Int} (hk : keyB s k = true) {a : ByteArray} (ha : a.size ≤ 1048576) {K : Nat} (hK : 5000000 ≤ K) : spec_l26Read.f K s k a = some (specP (notesOf s k a.data.toList)) := by
  unfold spec_l26Read.f notesOf
  simp only [Option.bind_some]
  by_cases h0 : a.data.toList = []
  · rw [if_pos ((empty_iff a).2 h0), if_pos h0]; rfl
  rw [if_neg (fun e => h0 ((empty_iff a).1 e)), if_neg h0]
  have E1 : spec_l01Split.f K a 32 = some ((splitL 32 [] a.data.toList).map baL) := Split_eq a 32 ha (k := K) (by omega)
  rw [E1]; simp only [Option.bind_some]
  have hz : a.data.toList.length = a.size := (Lib.size_eq a).symm
  obtain ⟨s1, s2⟩ := splitL_le (c := 32) a.data.toList []
  have E2 := specRead_l0 hk (ps := splitL 32 [] a.data.toList) (by omega) (fun t ht => by have := s2 t ht; simp at this; omega) (splitL 32 [] a.data.toList).length K 0 [] (by omega) (by simp) (by omega)
  rw [List.drop_zero, show ((0 : Nat) : Int) = 0 from rfl] at E2
  rw [E2]
  cases allR s k (splitL 32 [] a.data.toList) with
  | none => rfl
  | some ys =>
    show some (if melB ([] ++ ys) = true then ([] ++ ys, true) else ([], false)) = some (specP (if melB ys = true then some ys else none))
    rw [List.nil_append]
    by_cases hm : melB ys = true
    · rw [if_pos hm, if_pos hm]; rfl
    · rw [if_neg hm, if_neg hm]; rfl
theorem readNotesIn_eq {s k : Int} (hk : keyB s k = true) {a : ByteArray} (ha : a.size ≤ 1048576) {K : Nat} (hK : 5000000 ≤ K) : ∃ m, impl_readNotesIn.f K s k a = some (m, (notesOf s k a.data.toList).isSome) ∧ ∀ ys, notesOf s k a.data.toList = some ys → m = ys := by
  unfold impl_readNotesIn.f
  by_cases h0 : a.data.toList = []
  · rw [if_pos ((empty_iff a).2 h0)]
    have : notesOf s k a.data.toList = some [] := by unfold notesOf; rw [if_pos h0]
    rw [this]
    exact ⟨[], rfl, fun ys h => Option.some.inj h⟩
  rw [if_neg (fun e => h0 ((empty_iff a).1 e))]
  have hz : a.data.toList.length = a.size := (Lib.size_eq a).symm
  have hpos : 1 ≤ a.size := by
    rw [← hz]; exact List.length_pos_iff.2 h0
  have E1 : strings_SplitN.f a (⟨#[32]⟩ : ByteArray) 49 = some ((Lib.splitK [32] 0 (min 49 (a.size + 1) - 1) a.data.toList).map baL) := by
    unfold strings_SplitN.f
    rw [if_pos ⟨⟨by omega, by decide⟩, by decide, by decide⟩]
    unfold strings_SplitN.t
    congr 1
    have := Lib.splitB_data (⟨#[32]⟩ : ByteArray) 0 (min 49 (a.size + 1) - 1) a
    rw [show (⟨#[32]⟩ : ByteArray).data.toList = [32] from rfl] at this
    rw [← this, List.map_map, show (49 : Int).toNat = 49 from rfl]
    have e : (baL ∘ fun x : ByteArray => x.data.toList) = id := by funext x; exact data_baL x
    rw [e, List.map_id]
  rw [E1]; simp only [Option.bind_some]
  obtain ⟨s1, s2⟩ := splitL_le (c := 32) a.data.toList []
  generalize hc : min 49 (a.size + 1) - 1 = c
  have hc48 : c ≤ 48 := by omega
  have hn : notesOf s k a.data.toList = match allR s k (splitL 32 [] a.data.toList) with | none => none | some ys => if melB ys = true then some ys else none := by unfold notesOf; rw [if_neg h0]
  by_cases hle : (splitL 32 [] a.data.toList).length ≤ c + 1
  · have E2 := implRead_l0 hk (ps := splitL 32 [] a.data.toList) (by omega) (fun t ht => by have := s2 t ht; simp at this; omega) (splitL 32 [] a.data.toList).length K 0 [] (by omega) (by simp) (by omega)
    rw [List.drop_zero, show ((0 : Nat) : Int) = 0 from rfl] at E2
    rw [splitK_same c _ hle, E2, hn]
    cases allR s k (splitL 32 [] a.data.toList) with
    | none => exact ⟨[], rfl, fun ys h => by cases h⟩
    | some ys =>
      refine ⟨ys, ?_, fun zs h => ?_⟩
      · show some ([] ++ ys, melB ([] ++ ys)) = some (ys, (if melB ys = true then some ys else none).isSome)
        rw [List.nil_append]
        cases melB ys <;> rfl
      · dsimp only at h
        by_cases hm : melB ys = true
        · rw [if_pos hm] at h; exact Option.some.inj h
        · rw [if_neg hm] at h; cases h
  · have hc' : c = 48 := by omega
    subst hc'
    obtain ⟨pre, t, e, ht⟩ := splitK_more (c := 32) 48 a.data.toList (by omega)
    have hlen : (pre ++ [t]).length ≤ 49 := by
      rw [← e]
      have := Lib.splitB_data (⟨#[32]⟩ : ByteArray) 0 48 a
      have h2 := congrArg List.length this
      rw [List.length_map] at h2
      have h3 := Lib.splitB_length_le (⟨#[32]⟩ : ByteArray) 0 48 a
      rw [show (⟨#[32]⟩ : ByteArray).data.toList = [32] from rfl] at h2
      omega
    have hsz : ∀ x ∈ pre ++ [t], x.length ≤ 1048576 := by
      rw [← e]; exact fun x hx => by have := splitK_le (c := 32) 48 a.data.toList x hx; omega
    have E2 := implRead_l0 hk (ps := pre ++ [t]) (by omega) hsz (pre ++ [t]).length K 0 [] (by omega) (by simp) (by omega)
    rw [List.drop_zero, show ((0 : Nat) : Int) = 0 from rfl, allR_append_none pre (piece_blank ht)] at E2
    rw [e, E2]
    have hnone : notesOf s k a.data.toList = none := by
      rw [hn]
      cases hr : allR s k (splitL 32 [] a.data.toList) with
      | none => rfl
      | some ys =>
        have := allR_length _ _ hr
        have hm : melB ys = false := by unfold melB; rw [decide_eq_false (by omega), Bool.and_false]
        dsimp only
        rw [hm]; rfl
    rw [hnone]
    exact ⟨[], rfl, fun ys h => by cases h⟩
theorem notesOf_ok {s k : Int} {l : List UInt8} {ys : List S67} (h : notesOf s k l = some ys) : melB ys = true := by
  unfold notesOf at h
  by_cases h0 : l = []
  · rw [if_pos h0] at h; obtain rfl := Option.some.inj h; rfl
  rw [if_neg h0] at h
  cases hr : allR s k (splitL 32 [] l) with
  | none => rw [hr] at h; cases h
  | some zs =>
    rw [hr] at h
    dsimp only at h
    by_cases hm : melB zs = true
    · rw [if_pos hm] at h; rw [← Option.some.inj h]; exact hm
    · rw [if_neg hm] at h; cases h

def mvd (k o : Int) (ys : List S67) : List S67 := ys.map (impl_RetuneText.mv k o)
def pB (p : Int) : Bool := decide (-12 ≤ p) && decide (p ≤ 23)
def moved (s k o : Int) (ys : List S67) : ByteArray × Int := if ((mvd k o ys).all fun x => pB x.f0) = true then (joinT ((mvd k o ys).map (noteT s o)), 0) else (⟨#[]⟩, 6)
def retR (s k o : Int) (l : List UInt8) : ByteArray × Int := if keyB s k = true ∧ keyB s o = true then (match notesOf s k l with | none => (⟨#[]⟩, 8) | some ys => moved s k o ys) else (⟨#[]⟩, 2)
theorem chk1 (x : S67) : impl_checkedMelody_1.f x.f0 x.f1 = some (!noteB x) := by
  unfold impl_checkedMelody_1.f impl_pitchOk.f impl_lengthOk.f noteB
  rw [within_eq, within_eq]; simp only [Option.bind_some]
  cases (decide (-12 ≤ x.f0) && decide (x.f0 ≤ 23)) <;> simp
theorem chkAny : ∀ l : List S67, anyO (fun x => impl_checkedMelody_1.f x.f0 x.f1) l = some (!(l.all noteB))
  | [] => rfl
  | x :: r => by
    unfold anyO
    rw [chk1, List.all_cons]
    cases noteB x
    · rfl
    · simp only [Bool.not_true, Bool.true_and]
      exact chkAny r
theorem all_mv {k o : Int} : ∀ {ys : List S67}, ys.all noteB = true → (mvd k o ys).all noteB = (mvd k o ys).all fun x => pB x.f0
  | [], _ => rfl
  | x :: r, h => by
    rw [List.all_cons, Bool.and_eq_true] at h
    have ih := all_mv (k := k) (o := o) h.2
    have h1 := h.1
    unfold noteB at h1
    rw [Bool.and_eq_true] at h1
    show (noteB (impl_RetuneText.mv k o x) && (mvd k o r).all noteB) = (pB (impl_RetuneText.mv k o x).f0 && (mvd k o r).all fun x => pB x.f0)
    rw [ih]
    congr 1
    show (pB (impl_RetuneText.mv k o x).f0 && (decide (1 ≤ x.f1) && decide (x.f1 ≤ 64))) = _
    rw [h1.2, Bool.and_true]
theorem chk_eq {k o : Int} {ys : List S67} (h : melB ys = true) : impl_RetuneText.chk (mvd k o ys) = some (if ((mvd k o ys).all fun x => pB x.f0) = true then 0 else 6) := by
  have h2 := h
  unfold melB at h2
  rw [Bool.and_eq_true, decide_eq_true_iff] at h2
  unfold impl_RetuneText.chk
  rw [chkAny, all_mv h2.1]; simp only [Option.bind_some]
  cases hb : (mvd k o ys).all fun x => pB x.f0
  · rfl
  · have : (mvd k o ys).length ≤ 48 := by unfold mvd; rw [List.length_map]; exact h2.2
    simp only [Bool.not_true, Bool.false_eq_true, if_false, if_true]
    rw [if_pos this]
theorem mvd_ok {k o : Int} {ys : List S67} (h : melB ys = true) (h2 : ((mvd k o ys).all fun x => pB x.f0) = true) : melB (mvd k o ys) = true := by
  unfold melB at h ⊢
  rw [Bool.and_eq_true, decide_eq_true_iff] at h
  rw [all_mv h.1, h2, Bool.true_and]
  unfold mvd
  rw [List.length_map]; exact decide_eq_true h.2
theorem Retune_impl (s k o : Int) {a : ByteArray} (ha : a.size ≤ 1048576) {K : Nat} (hK : 5000002 ≤ K) : impl_RetuneText.f K s k o a = some (retR s k o a.data.toList) := by
  unfold impl_RetuneText.f retR
  rw [keyOk_eq, keyOk_eq]; simp only [Option.bind_some]
  by_cases h : keyB s k = true
  · by_cases h2 : keyB s o = true
    · obtain ⟨m, e, hm⟩ := readNotesIn_eq h ha (K := K) (by omega)
      rw [if_pos h, if_pos h2, if_pos ⟨h, h2⟩, e]; simp only [Option.bind_some]
      cases hn : notesOf s k a.data.toList with
      | none => rfl
      | some ys =>
        rw [hm ys hn]
        have ho := notesOf_ok hn
        have hl := (melB_ok ho).1
        show (if true = true then (if ys.length ≤ 1000000 then ((impl_RetuneText.chk (mvd k o ys)).bind fun c => if c = 0 then ((impl_notesIn.f K s o (mvd k o ys)).bind fun t => some (t, (0 : Int))) else some ((⟨#[]⟩ : ByteArray), c)) else none) else _) = _
        rw [if_pos rfl, if_pos (by omega), chk_eq ho]; simp only [Option.bind_some]
        unfold moved
        by_cases hc : ((mvd k o ys).all fun x => pB x.f0) = true
        · obtain ⟨b1, b2⟩ := melB_ok (mvd_ok ho hc)
          rw [if_pos hc, if_pos rfl, notesIn_eq h2 b1 b2 (by omega), if_pos hc]; rfl
        · rw [if_neg hc, if_neg (by decide), if_neg hc]
    · rw [if_pos h, if_neg h2, if_neg (fun e => h2 e.2)]
  · rw [if_neg h, if_neg (fun e => h e.1)]

def p1 (p : Int) : List UInt8 := ([83, 114, 82, 103, 71, 109, 77, 80, 100, 68, 110, 78] : List UInt8).getD (p % 12).toNat 0 :: (if p / 12 < 0 then [44] else if p / 12 > 0 then [39] else [])
def tabL : List (List UInt8) := [[67], [68, 98], [68], [69, 98], [69], [70], [71, 98], [71], [65, 98], [65], [66, 98], [66]]
def tabM : List (List UInt8) := [[49], [50, 98], [50], [51, 98], [51], [52], [52, 35], [53], [54, 98], [54], [55, 98], [55]]
def p2 (q : Int) : List UInt8 := tabL.getD (q % 12).toNat [] ++ [UInt8.ofNat (48 + (q / 12 + 4).toNat)]
def p3 (p : Int) : List UInt8 := (if p / 12 < 0 then [95] else if p / 12 > 0 then [94] else []) ++ tabM.getD (p % 12).toNat []
theorem p1_inj : ∀ a b : Fin 36, p1 ((a.val : Int) - 12) = p1 ((b.val : Int) - 12) → a = b := by decide +kernel
theorem p2_inj : ∀ a b : Fin 47, p2 ((a.val : Int) - 12) = p2 ((b.val : Int) - 12) → a = b := by decide +kernel
theorem p3_inj : ∀ a b : Fin 36, p3 ((a.val : Int) - 12) = p3 ((b.val : Int) - 12) → a = b := by decide +kernel
theorem fin_inj {f : Int → List UInt8} {n : Nat} (h : ∀ a b : Fin n, f ((a.val : Int) - 12) = f ((b.val : Int) - 12) → a = b) {x y : Int} (x0 : -12 ≤ x) (x1 : x < (n : Int) - 12) (y0 : -12 ≤ y) (y1 : y < (n : Int) - 12) (e : f x = f y) : x = y := by
  have := h ⟨(x + 12).toNat, by omega⟩ ⟨(y + 12).toNat, by omega⟩ (by
    show f (((x + 12).toNat : Int) - 12) = f (((y + 12).toNat : Int) - 12)
    rw [show (((x + 12).toNat : Int) - 12) = x by omega, show (((y + 12).toNat : Int) - 12) = y by omega]; exact e)
  have := congrArg Fin.val this
  simp only at this
  omega
theorem name_tab : ∀ j : Fin 12, (nameT (j.val : Int)).data.toList = [([83, 114, 82, 103, 71, 109, 77, 80, 100, 68, 110, 78] : List UInt8).getD j.val 0] := by decide +kernel
theorem L_tab : ∀ j : Fin 12, (impl_pitchIn.at_ impl_pitchIn.L (j.val : Int)).data.toList = tabL.getD j.val [] := by decide +kernel
theorem M_tab : ∀ j : Fin 12, (impl_pitchIn.at_ impl_pitchIn.M (j.val : Int)).data.toList = tabM.getD j.val [] := by decide +kernel
theorem tab_at {α : Type} {g : Int → α} {h : Nat → α} (e : ∀ j : Fin 12, g (j.val : Int) = h j.val) (q : Int) : g (q % 12) = h (q % 12).toNat := by
  have := e ⟨(q % 12).toNat, by omega⟩
  simp only at this
  rw [show (((q % 12).toNat : Nat) : Int) = q % 12 by omega] at this
  exact this
theorem dec_one {n : Int} (h0 : 0 ≤ n) (h1 : n < 10) : (impl_Decimal.t n).data.toList = [UInt8.ofNat (48 + n.toNat)] := by
  rw [dec_list]
  unfold Lib.itoa
  rw [if_neg (by omega), Lib.decDigits_one (by omega)]
theorem itoa_short {n : Int} (h0 : 0 ≤ n) (h1 : n < 1000) : numV (Lib.itoa n) = some n := by
  refine num_of_itoa ?_
  have h2 := Lib.trimPrefix_le (Lib.itoa n) [45]
  have h3 : (Lib.itoa n).length ≤ 18 := by
    unfold Lib.itoa
    rw [if_neg (by omega), Lib.decDigits_length]
    by_cases a : n.toNat < 10
    · rw [Lib.nDigits_small a]; omega
    · rw [Lib.nDigits_big a]
      by_cases b : n.toNat / 10 < 10
      · rw [Lib.nDigits_small b]; omega
      · rw [Lib.nDigits_big b, Lib.nDigits_small (by omega)]; omega
  omega
theorem pt_inj {s k p q : Int} (h : keyB s k = true) (p0 : -12 ≤ p) (p9 : p ≤ 23) (q0 : -12 ≤ q) (q9 : q ≤ 23) (e : (pt s k p).toList = (pt s k q).toList) : p = q := by
  rw [ByteArray.toList_eq, ByteArray.toList_eq] at e
  obtain ⟨⟨a1, a2⟩, b1, b2⟩ := keyB_iff.1 h
  unfold pt at e
  by_cases s1 : s = 1
  · rw [if_pos s1, if_pos s1] at e
    have key : ∀ x : Int, (if x / 12 < 0 then nameT (x % 12) ++ (⟨#[44]⟩ : ByteArray) else if x / 12 > 0 then nameT (x % 12) ++ (⟨#[39]⟩ : ByteArray) else nameT (x % 12)).data.toList = p1 x := fun x => by
      have hn := tab_at (g := fun t => (nameT t).data.toList) (h := fun j => [([83, 114, 82, 103, 71, 109, 77, 80, 100, 68, 110, 78] : List UInt8).getD j 0]) name_tab x
      (try simp only at hn)
      unfold p1
      split
      · first | (rw [ba_app, hn]; done) | (rw [ba_app, hn]; rfl)
      · split
        · first | (rw [ba_app, hn]; done) | (rw [ba_app, hn]; rfl)
        · exact hn
    rw [key, key] at e
    exact fin_inj p1_inj p0 (by omega) q0 (by omega) e
  rw [if_neg s1, if_neg s1] at e
  by_cases s2 : s = 2
  · rw [if_pos s2, if_pos s2] at e
    have key : ∀ x : Int, -12 ≤ x → x < 35 → (impl_pitchIn.at_ impl_pitchIn.L (x % 12) ++ impl_Decimal.t (x / 12 + 4)).data.toList = p2 x := fun x x0 x1 => by
      have hn := tab_at (g := fun t => (impl_pitchIn.at_ impl_pitchIn.L t).data.toList) (h := fun j => tabL.getD j []) L_tab x
      (try simp only at hn)
      unfold p2
      rw [ba_app, hn, dec_one (by omega) (by omega)]
    rw [key _ (by omega) (by omega), key _ (by omega) (by omega)] at e
    have := fin_inj p2_inj (x := p + k) (y := q + k) (by omega) (by omega) (by omega) (by omega) e
    omega
  rw [if_neg s2, if_neg s2] at e
  by_cases s3 : s = 3
  · rw [if_pos s3, if_pos s3] at e
    have key : ∀ x : Int, (if x / 12 < 0 then (⟨#[95]⟩ : ByteArray) ++ impl_pitchIn.at_ impl_pitchIn.M (x % 12) else if x / 12 > 0 then (⟨#[94]⟩ : ByteArray) ++ impl_pitchIn.at_ impl_pitchIn.M (x % 12) else impl_pitchIn.at_ impl_pitchIn.M (x % 12)).data.toList = p3 x := fun x => by
      have hn := tab_at (g := fun t => (impl_pitchIn.at_ impl_pitchIn.M t).data.toList) (h := fun j => tabM.getD j []) M_tab x
      (try simp only at hn)
      unfold p3
      split
      · first | (rw [ba_app, hn]; done) | (rw [ba_app, hn]; rfl)
      · split
        · first | (rw [ba_app, hn]; done) | (rw [ba_app, hn]; rfl)
        · exact hn
    rw [key, key] at e
    exact fin_inj p3_inj p0 (by omega) q0 (by omega) e
  rw [if_neg s3, if_neg s3, dec_list, dec_list] at e
  have e1 := itoa_short (n := p + k + 60) (by omega) (by omega)
  have e2 := itoa_short (n := q + k + 60) (by omega) (by omega)
  rw [e, e2] at e1
  have := Option.some.inj e1
  omega
theorem readL_hit {s k p : Int} (h : keyB s k = true) (p9 : p ≤ 23) : ∀ (n : Nat) (x : Int), -12 ≤ x → x ≤ p → p < x + n → x + n = 24 → readL s k (pt s k p) n x = (p, true) := by
  intro n
  induction n with
  | zero => intro x _ _ _ _; omega
  | succ n ih =>
    intro x x0 x1 x2 x3
    unfold readL
    by_cases e : (pt s k x).toList = (pt s k p).toList
    · rw [if_pos e, pt_inj h x0 (by omega) (by omega) p9 e]
    · rw [if_neg e]
      have hne : x ≠ p := fun h => e (by rw [h])
      exact ih (x + 1) (by omega) (by omega) (by omega) (by omega)
theorem readPt_pt {s k p : Int} (h : keyB s k = true) (p0 : -12 ≤ p) (p9 : p ≤ 23) : readPt s k (pt s k p) = (p, true) := readL_hit h p9 36 (-12) (by omega) p0 (by omega) (by omega)
theorem L_no58 : ∀ x ∈ impl_pitchIn.L, (58 : UInt8) ∉ x.data.toList := by decide
theorem M_no58 : ∀ x ∈ impl_pitchIn.M, (58 : UInt8) ∉ x.data.toList := by decide
theorem name_no58 (t : Int) : (58 : UInt8) ∉ (nameT t).data.toList := fun h => by
  unfold nameT at h
  rw [Lib.extract_eq] at h
  have h2 : (58 : UInt8) ∈ [83, 114, 82, 103, 71, 109, 77, 80, 100, 68, 110, 78] := List.mem_of_mem_drop (List.mem_of_mem_take (by simpa using h))
  exact absurd h2 (by decide)
theorem pt_no58 (s k p : Int) : (58 : UInt8) ∉ (pt s k p).data.toList := by
  have l1 : ∀ t, (58 : UInt8) ∉ (impl_pitchIn.at_ impl_pitchIn.L t).data.toList := fun t h => by obtain ⟨x, hx, hb⟩ := at_mem h; exact L_no58 x hx hb
  have m1 : ∀ t, (58 : UInt8) ∉ (impl_pitchIn.at_ impl_pitchIn.M t).data.toList := fun t h => by obtain ⟨x, hx, hb⟩ := at_mem h; exact M_no58 x hx hb
  have n1 := name_no58 (p % 12)
  have d1 : ∀ n : Int, (58 : UInt8) ∉ (impl_Decimal.t n).data.toList := fun n => by rw [dec_list]; exact itoa_no (by decide) (by decide)
  unfold pt
  repeat' split
  all_goals (try rw [ba_app])
  all_goals simp [n1, l1, m1, d1]
theorem noteT_data (s k : Int) (x : S67) : (noteT s k x).data.toList = (pt s k x.f0).data.toList ++ 58 :: Lib.itoa x.f1 := by
  unfold noteT
  rw [ba_app, ba_app, dec_list]
  simp
theorem note_back {s k : Int} (h : keyB s k = true) {x : S67} (hx : noteB x = true) : piece s k (noteT s k x).data.toList = some x := by
  unfold noteB at hx
  rw [Bool.and_eq_true, Bool.and_eq_true, Bool.and_eq_true, decide_eq_true_iff, decide_eq_true_iff, decide_eq_true_iff, decide_eq_true_iff] at hx
  rw [piece_two (noteT_data s k x) (pt_no58 _ _ _), data_baL, readPt_pt h hx.1.1 hx.1.2, itoa_short (by omega) (by omega)]
  rfl
theorem note_no (s k : Int) (x : S67) : (32 : UInt8) ∉ (noteT s k x).data.toList := by
  rw [noteT_data, List.mem_append, List.mem_cons]
  rintro (h | h | h)
  · exact pt_no _ _ _ h
  · exact absurd h (by decide)
  · exact itoa_no (by decide) (by decide) h
theorem split_join {c : UInt8} : ∀ (r : List (List UInt8)) (a : List UInt8), c ∉ a → (∀ b ∈ r, c ∉ b) → splitL c [] (a ++ Lib.joinTail [c] r) = a :: r
  | [], a, ha, _ => by
    rw [show Lib.joinTail [c] [] = [] from rfl, List.append_nil, splitL_none a [] ha]; rfl
  | b :: r, a, ha, hr => by
    have e : Lib.joinTail [c] (b :: r) = c :: (b ++ Lib.joinTail [c] r) := by simp [Lib.joinTail]
    rw [e, splitL_at a [] _ ha, split_join r b (hr b List.mem_cons_self) (fun x hx => hr x (List.mem_cons_of_mem _ hx))]; rfl
theorem allR_notes {s k : Int} (h : keyB s k = true) : ∀ (m : List S67), m.all noteB = true → allR s k (m.map fun x => (noteT s k x).data.toList) = some m
  | [], _ => rfl
  | x :: r, hm => by
    rw [List.all_cons, Bool.and_eq_true] at hm
    rw [List.map_cons]
    unfold allR
    rw [note_back h hm.1, allR_notes h r hm.2]; rfl
/-- THE WAY BACK: the notes of a valid melody lead to it. -/
theorem notes_back {s k : Int} (h : keyB s k = true) {m : List S67} (hm : melB m = true) : notesOf s k (joinT (m.map (noteT s k))).data.toList = some m := by
  have ha : m.all noteB = true := by unfold melB at hm; rw [Bool.and_eq_true] at hm; exact hm.1
  cases m with
  | nil => rfl
  | cons x r =>
    have hd : (joinT ((x :: r).map (noteT s k))).data.toList = (noteT s k x).data.toList ++ Lib.joinTail [32] (r.map fun y => (noteT s k y).data.toList) := by
      show (catS (noteT s k x) (r.map (noteT s k))).data.toList = _
      rw [catS_data, List.map_map]; rfl
    have hne : (joinT ((x :: r).map (noteT s k))).data.toList ≠ [] := by
      rw [hd, noteT_data]; simp
    unfold notesOf
    rw [if_neg hne, hd, split_join _ _ (note_no _ _ _) (fun b hb => by obtain ⟨y, _, rfl⟩ := List.mem_map.1 hb; exact note_no _ _ _)]
    have := allR_notes h (x :: r) ha
    rw [List.map_cons] at this
    rw [this]
    dsimp only
    rw [if_pos hm]

def convR (s k s2 k2 : Int) (l : List UInt8) : ByteArray × Int := if keyB s k = true ∧ keyB s2 k2 = true then (match notesOf s k l with | some ys => (joinT (ys.map (noteT s2 k2)), 0) | none => (⟨#[]⟩, 8)) else (⟨#[]⟩, 2)
theorem Convert_impl (s k s2 k2 : Int) {a : ByteArray} (ha : a.size ≤ 1048576) {K : Nat} (hK : 5000001 ≤ K) : impl_ConvertNotes.f K s k s2 k2 a = some (convR s k s2 k2 a.data.toList) := by
  obtain ⟨K, rfl⟩ : ∃ m, K = m + 1 := ⟨K - 1, by omega⟩
  unfold impl_ConvertNotes.f convR
  rw [keyOk_eq, keyOk_eq]; simp only [Option.bind_some, impl_ConvertNotes.j0]
  by_cases h : keyB s k = true
  · by_cases h2 : keyB s2 k2 = true
    · obtain ⟨m, e, hm⟩ := readNotesIn_eq h ha (K := K) (by omega)
      rw [if_pos h, h2, if_neg (by decide), if_pos ⟨h, rfl⟩, e]; simp only [Option.bind_some]
      cases hn : notesOf s k a.data.toList with
      | none => rfl
      | some ys =>
        obtain ⟨b1, b2⟩ := melB_ok (notesOf_ok hn)
        rw [hm ys hn]
        show (if true = true then ((impl_notesIn.f K s2 k2 ys).bind _) else _) = _
        rw [if_pos rfl, notesIn_eq h2 b1 b2 (by omega)]; rfl
    · have h2' : keyB s2 k2 = false := Bool.eq_false_iff.2 h2
      rw [if_pos h, h2', if_pos (by decide), if_neg (fun e => absurd e.2 (by decide))]
  · rw [if_neg h, if_pos trivial, if_neg (fun e => h e.1)]
def readR (s k : Int) (l : List UInt8) : List S67 × Int := if keyB s k = true then (match notesOf s k l with | some ys => (ys, 0) | none => ([], 8)) else ([], 2)
theorem ReadNotesIn_spec (s k : Int) {a : ByteArray} (ha : a.size ≤ 1048576) {K : Nat} (hK : 5000000 ≤ K) : spec_ReadNotesIn.f K s k a = some (readR s k a.data.toList) := by
  unfold spec_ReadNotesIn.f readR
  rw [l26Script_eq]; simp only [Option.bind_some]
  by_cases h : keyB s k = true
  · rw [if_pos h, if_pos h, l26Read_eq h ha hK]; simp only [Option.bind_some]
    cases notesOf s k a.data.toList with
    | none => rfl
    | some ys => rfl
  · rw [if_neg h, if_neg h]
def hasN (p : Int) (l : List UInt8) : Bool := match notesOf p 0 l with | some ys => decide (0 < ys.length) | none => false
def scrG (l : List UInt8) : Nat → Int → List Int → List Int × Int
  | 0, _, acc => if acc.length = 0 then ([], 8) else (acc, 0)
  | n + 1, p, acc => scrG l n (p + 1) (if hasN p l = true then acc ++ [p] else acc)
theorem key0 {p : Int} (h0 : 1 ≤ p) (h1 : p ≤ 4) : keyB p 0 = true := keyB_iff.2 ⟨⟨h0, h1⟩, by decide, by decide⟩
theorem scr_impl {a : ByteArray} (ha : a.size ≤ 1048576) : ∀ (n K : Nat) (p : Int) (acc : List Int), p + n = 5 → 1 ≤ p → acc.length + n ≤ 100 → 5000000 + n + 1 ≤ K → impl_ScriptsOf.l0 K a acc p = some (scrG a.data.toList n p acc) := by
  intro n
  induction n with
  | zero =>
    intro K p acc hp h1 hl hK
    obtain ⟨K, rfl⟩ : ∃ m, K = m + 1 := ⟨K - 1, by omega⟩
    simp only [impl_ScriptsOf.l0, scrG]
    rw [if_neg (by omega)]
    by_cases h : acc.length = 0
    · rw [if_pos (by omega), if_pos h]
    · rw [if_neg (by omega), if_neg h]
  | succ n ih =>
    intro K p acc hp h1 hl hK
    obtain ⟨K, rfl⟩ : ∃ m, K = m + 1 := ⟨K - 1, by omega⟩
    have hw : wrap64 (p + 1) = p + 1 := wrap_id (by omega) (by omega)
    obtain ⟨m, e, hm⟩ := readNotesIn_eq (key0 h1 (by omega)) ha (K := K) (by omega)
    simp only [impl_ScriptsOf.l0, scrG]
    rw [if_pos (by omega), e, hw]; simp only [Option.bind_some]
    unfold hasN
    cases hn : notesOf p 0 a.data.toList with
    | none =>
      show (if false = true then _ else impl_ScriptsOf.l0 K a acc (p + 1)) = _
      rw [if_neg (by decide), if_neg (by decide), ih K (p + 1) acc (by omega) (by omega) (by omega) (by omega)]
    | some ys =>
      rw [hm ys hn]
      show (if true = true then (if (ys.length : Int) > 0 then (if acc.length < 17592186044416 then impl_ScriptsOf.l0 K a (acc ++ [p]) (p + 1) else none) else impl_ScriptsOf.l0 K a acc (p + 1)) else _) = _
      rw [if_pos rfl]
      by_cases hy : 0 < ys.length
      · rw [if_pos (by omega), if_pos (by omega), if_pos (decide_eq_true hy), ih K (p + 1) _ (by omega) (by omega) (by rw [List.length_append]; simp; omega) (by omega)]
      · rw [if_neg (by omega), if_neg (show ¬ decide (0 < ys.length) = true by rw [decide_eq_false hy]; decide), ih K (p + 1) acc (by omega) (by omega) (by omega) (by omega)]
theorem piece_of {s k : Int} {t : List UInt8} {x : S67} (h : piece s k t = some x) : t = (noteT s k x).data.toList := by
  unfold piece at h
  rcases cut_shape t 58 with ⟨a, b, e, ht, ha⟩ | ⟨e, ht⟩
  · rw [e] at h
    replace h : twoN (readPt s k (baL a)) (numV b) = some x := h
    cases hr : (readPt s k (baL a)).2 with
    | false => rw [twoN_false hr] at h; cases h
    | true =>
      cases hn : numV b with
      | none => rw [hn, twoN_none] at h; cases h
      | some n =>
        unfold twoN at h
        rw [hr, hn] at h
        have hx : x = ⟨(readPt s k (baL a)).1, n⟩ := (Option.some.inj h).symm
        have h1 := (readL_bounds 36 (-12) hr).2.2
        rw [ByteArray.toList_eq, ByteArray.toList_eq, baL_data] at h1
        rw [noteT_data, hx, ht]
        show a ++ 58 :: b = (pt s k (readPt s k (baL a)).1).data.toList ++ 58 :: Lib.itoa n
        rw [show (pt s k (readPt s k (baL a)).1).data.toList = a from h1, (num_itoa hn).1]
  · rw [e] at h
    replace h : twoN (readPt s k (baL t)) (numV []) = some x := h
    rw [show numV [] = none from rfl, twoN_none] at h; cases h
theorem allR_of {s k : Int} : ∀ (l : List (List UInt8)) (ys : List S67), allR s k l = some ys → l = ys.map fun x => (noteT s k x).data.toList
  | [], ys, h => by rw [← Option.some.inj h]; rfl
  | t :: r, ys, h => by
    unfold allR at h
    cases hp : piece s k t with
    | none => rw [hp] at h; cases h
    | some x =>
      rw [hp] at h
      obtain ⟨zs, hz, rfl⟩ := Option.map_eq_some_iff.1 h
      rw [List.map_cons, ← allR_of r zs hz, ← piece_of hp]
theorem join_split {c : UInt8} : ∀ (l cur : List UInt8), ∃ a r, splitL c cur l = a :: r ∧ a ++ Lib.joinTail [c] r = cur ++ l
  | [], cur => ⟨cur, [], rfl, by simp [Lib.joinTail]⟩
  | b :: l, cur => by
    unfold splitL
    by_cases hb : b = c
    · rw [if_pos hb]
      obtain ⟨a, r, e, h⟩ := join_split l []
      refine ⟨cur, a :: r, by rw [e], ?_⟩
      have e2 : Lib.joinTail [c] (a :: r) = c :: (a ++ Lib.joinTail [c] r) := by simp [Lib.joinTail]
      rw [e2, h, hb, List.nil_append]
    · rw [if_neg hb]
      obtain ⟨a, r, e, h⟩ := join_split l (cur ++ [b])
      exact ⟨a, r, e, by rw [h]; simp⟩
/-- A text that is read is the text of its notes. -/
theorem notes_of {s k : Int} {a : ByteArray} {ys : List S67} (h : notesOf s k a.data.toList = some ys) : joinT (ys.map (noteT s k)) = a := by
  refine ba_mk ?_
  unfold notesOf at h
  by_cases h0 : a.data.toList = []
  · rw [if_pos h0] at h
    rw [← Option.some.inj h, h0]; rfl
  rw [if_neg h0] at h
  cases ha : allR s k (splitL 32 [] a.data.toList) with
  | none => rw [ha] at h; cases h
  | some zs =>
    rw [ha] at h
    replace h : (if melB zs = true then some zs else none) = some ys := h
    split at h
    · obtain rfl := Option.some.inj h
      have h2 := allR_of _ _ ha
      obtain ⟨b, r, e, hj⟩ := join_split (c := 32) a.data.toList []
      cases zs with
      | nil => rw [e] at h2; cases h2
      | cons x q =>
        rw [e, List.map_cons] at h2
        obtain ⟨e1, e2⟩ := List.cons.inj h2
        show (catS (noteT s k x) (q.map (noteT s k))).data.toList = a.data.toList
        rw [catS_data, List.map_map, ← e1, show q.map ((fun x : ByteArray => x.data.toList) ∘ noteT s k) = r from e2.symm, hj, List.nil_append]
    · cases h
theorem mvd_text {s k o : Int} (hk : keyB s k = true) (ho : keyB s o = true) {ys : List S67} (h : melB ys = true) : (mvd k o ys).map (noteT 4 o) = ys.map (noteT 4 k) := by
  obtain ⟨_, k0, k1⟩ := keyB_iff.1 hk
  obtain ⟨_, o0, o1⟩ := keyB_iff.1 ho
  have hb := (melB_ok h).2
  unfold mvd
  rw [List.map_map]
  refine List.map_congr_left (fun x hx => ?_)
  obtain ⟨⟨p0, p1⟩, _⟩ := hb x hx
  show noteT 4 o (impl_RetuneText.mv k o x) = noteT 4 k x
  unfold noteT impl_RetuneText.mv
  rw [wrap_id (x := x.f0 + k) (by omega) (by omega), wrap_id (x := x.f0 + k - o) (by omega) (by omega)]
  have : pt 4 o (x.f0 + k - o) = pt 4 k x.f0 := by
    unfold pt
    rw [if_neg (by decide), if_neg (by decide), if_neg (by decide), if_neg (by decide), if_neg (by decide), if_neg (by decide), show x.f0 + k - o + o + 60 = x.f0 + k + 60 by omega]
  show (pt 4 o (x.f0 + k - o) ++ _) ++ impl_Decimal.t x.f1 = _
  rw [this]
theorem key4 {s k : Int} (h : keyB s k = true) : keyB 4 k = true := keyB_iff.2 ⟨⟨by decide, by decide⟩, (keyB_iff.1 h).2⟩
theorem scrG_eq (l : List UInt8) : scrG l 4 1 [] = ((([1, 2, 3, 4] : List Int).filter fun p => hasN p l), if (([1, 2, 3, 4] : List Int).filter fun p => hasN p l).length = 0 then 8 else 0) := by
  cases h1 : hasN 1 l <;> cases h2 : hasN 2 l <;> cases h3 : hasN 3 l <;> cases h4 : hasN 4 l <;> simp [scrG, h1, h2, h3, h4, List.filter]

def Bts (l : List Int) : Prop := ∀ y ∈ l, 0 ≤ y ∧ y ≤ 255
theorem and_bound (x : Int) : 0 ≤ wrap64 (Go.bits .and .u64 (IntKind.u64.wrap x / 1099511627776) 255) ∧ wrap64 (Go.bits .and .u64 (IntKind.u64.wrap x / 1099511627776) 255) ≤ 255 := by
  rw [IntKind.wrap_u64]
  obtain ⟨n, hn⟩ : ∃ n : Nat, (x % 18446744073709551616) / 1099511627776 = (n : Int) := ⟨((x % 18446744073709551616) / 1099511627776).toNat, by omega⟩
  rw [hn, show (255 : Int) = ((255 : Nat) : Int) from rfl, u64_and_nat n 255 (by omega) (by omega)]
  have h : n &&& 255 ≤ 255 := Nat.and_le_right
  rw [wrap_id (by omega) (by omega)]
  omega
/-- A drawer's answer: within P, and the place has not run far. -/
def Dr {α : Type} (r : Option (α × Int × Int)) (P : α → Prop) (B : Int) : Prop := ∃ v i s, r = some (v, i, s) ∧ P v ∧ 0 ≤ i ∧ i ≤ B
theorem next_ok {l : List Int} (hl : Bts l) {i : Int} (s : Int) {B : Int} (h0 : 0 ≤ i) (h1 : i ≤ B) (hB : B ≤ 4000000000) : Dr (spec_l00Src_next.f l i s) (fun v => 0 ≤ v ∧ v ≤ 255) (B + 1) := by
  unfold spec_l00Src_next.f
  rw [wrap_id (x := i + 1) (by omega) (by omega)]
  by_cases h : i < (l.length : Int)
  · obtain ⟨n, rfl⟩ : ∃ n : Nat, i = (n : Int) := ⟨i.toNat, by omega⟩
    have hlt : n < l.length := by omega
    have hb := hl l[n] (List.getElem_mem hlt)
    rw [if_pos h, if_pos h0, if_pos (by omega), rd_get hlt, wrap_id (x := l[n]) (by omega) (by omega)]
    exact ⟨_, _, _, rfl, hb, by omega, by omega⟩
  · rw [if_neg h, if_neg (by omega)]
    exact ⟨_, _, _, rfl, and_bound _, by omega, by omega⟩
theorem pick_ok {l : List Int} (hl : Bts l) {i : Int} (s : Int) {B : Int} (h0 : 0 ≤ i) (h1 : i ≤ B) (hB : B ≤ 4000000000) {n : Int} (n0 : 1 ≤ n) (n1 : n ≤ 200) : Dr (spec_l00Src_pick.f l i s n) (fun v => 0 ≤ v ∧ v < n) (B + 1) := by
  unfold spec_l00Src_pick.f
  by_cases h : n ≤ 1
  · rw [if_pos h]; exact ⟨_, _, _, rfl, by omega, h0, by omega⟩
  rw [if_neg h]
  obtain ⟨v, j, t, e, ⟨v0, v1⟩, j0, j1⟩ := next_ok hl s h0 h1 hB
  rw [e]; simp only [Option.bind_some]
  rw [if_neg (by omega), if_neg (by omega)]
  refine ⟨_, _, _, rfl, ⟨?_, ?_⟩, j0, j1⟩
  · rw [Int.tmod_eq_emod_of_nonneg v0]; exact Int.emod_nonneg _ (by omega)
  · rw [Int.tmod_eq_emod_of_nonneg v0]; exact Int.emod_lt_of_pos _ (by omega)
theorem among_ok {l : List Int} (hl : Bts l) {i : Int} (s : Int) {B : Int} (h0 : 0 ≤ i) (h1 : i ≤ B) (hB : B ≤ 4000000000) {c : List Int} (n0 : 1 ≤ c.length) (n1 : c.length ≤ 200) : Dr (spec_l00Src_among.f l i s c) (fun v => v ∈ c) (B + 1) := by
  unfold spec_l00Src_among.f
  obtain ⟨v, j, t, e, ⟨v0, v1⟩, j0, j1⟩ := pick_ok hl s h0 h1 hB (n := (c.length : Int)) (by omega) (by omega)
  rw [e]; simp only [Option.bind_some]
  rw [if_pos v0, if_pos v1]
  obtain ⟨m, rfl⟩ : ∃ m : Nat, v = (m : Int) := ⟨v.toNat, by omega⟩
  have hm : m < c.length := by omega
  refine ⟨_, _, _, rfl, ?_, j0, j1⟩
  rw [rd_get hm]; exact List.getElem_mem hm
/-- A drawn note: valid, and short. -/
def smallN (x : S67) : Prop := (-12 ≤ x.f0 ∧ x.f0 ≤ 23) ∧ 1 ≤ x.f1 ∧ x.f1 ≤ 6
theorem Draw_l0 {l : List Int} (hl : Bts l) : ∀ (n K : Nat) (acc : List S67) (p i s B : Int), n < K → acc.length + n ≤ 1000 → -12 ≤ p → p ≤ 23 → 0 ≤ i → i ≤ B → B + 2 * n ≤ 1000000 → (∀ x ∈ acc, smallN x) → Dr (spec_l09Draw.l0 K acc p (n : Int) l i s) (fun m => m.length ≤ acc.length + n ∧ ∀ x ∈ m, smallN x) (B + 2 * n) := by
  intro n
  induction n with
  | zero =>
    intro K acc p i s B hK _ _ _ h0 h1 hB hs
    obtain ⟨K, rfl⟩ : ∃ m, K = m + 1 := ⟨K - 1, by omega⟩
    simp only [spec_l09Draw.l0]
    rw [if_neg (by omega)]
    exact ⟨_, _, _, rfl, ⟨by omega, hs⟩, h0, by omega⟩
  | succ n ih =>
    intro K acc p i s B hK ha p0 p1 h0 h1 hB hs
    obtain ⟨K, rfl⟩ : ∃ m, K = m + 1 := ⟨K - 1, by omega⟩
    simp only [spec_l09Draw.l0]
    rw [if_pos (by omega)]
    obtain ⟨v, j, t, e, ⟨v0, v1⟩, j0, j1⟩ := pick_ok hl s h0 h1 (by omega) (n := 9) (by decide) (by decide)
    rw [e]; simp only [Option.bind_some]
    rw [wrap_id (x := p + v) (by omega) (by omega), wrap_id (x := p + v - 4) (by omega) (by omega)]
    obtain ⟨q, hq, q0, q1⟩ : ∃ q, ((spec_l00Min.f 23 (p + v - 4)).bind fun t113 => spec_l00Max.f (-12) t113) = some q ∧ -12 ≤ q ∧ q ≤ 23 := by
      unfold spec_l00Min.f spec_l00Max.f
      by_cases c1 : 23 < p + v - 4
      · rw [if_pos c1]; simp only [Option.bind_some]
        rw [if_neg (by decide)]; exact ⟨_, rfl, by omega, by omega⟩
      · rw [if_neg c1]; simp only [Option.bind_some]
        by_cases c2 : -12 > p + v - 4
        · rw [if_pos c2]; exact ⟨_, rfl, by omega, by omega⟩
        · rw [if_neg c2]; exact ⟨_, rfl, by omega, by omega⟩
    obtain ⟨t113, e113, e114⟩ := Option.bind_eq_some_iff.1 hq
    rw [e113]; simp only [Option.bind_some]
    rw [e114]; simp only [Option.bind_some]
    obtain ⟨v2, j2, t2, e2, hv2, j20, j21⟩ := among_ok hl t j0 j1 (by omega) (c := [1, 1, 2, 2, 3, 4, 6]) (by decide) (by decide)
    rw [e2]; simp only [Option.bind_some]
    rw [if_pos (by omega), show wrap64 (((n + 1 : Nat) : Int) - 1) = (n : Int) by rw [wrap_id (by omega) (by omega)]; omega]
    have hv : 1 ≤ v2 ∧ v2 ≤ 6 := by
      simp only [List.mem_cons, List.not_mem_nil, or_false] at hv2
      omega
    obtain ⟨m, j3, t3, e3, ⟨hm, hm2⟩, j30, j31⟩ := ih K (acc ++ [⟨q, v2⟩]) q j2 t2 (B + 1 + 1) (by omega) (by rw [List.length_append]; simp; omega) q0 q1 j20 j21 (by omega) (fun x hx => by
      rcases List.mem_append.1 hx with hx | hx
      · exact hs x hx
      · rw [List.mem_singleton] at hx; subst hx; exact ⟨⟨q0, q1⟩, hv⟩)
    rw [List.length_append] at hm
    exact ⟨m, j3, t3, e3, ⟨by simp at hm; omega, hm2⟩, j30, by omega⟩
theorem l09Draw_ok {l : List Int} (hl : Bts l) {i : Int} (s : Int) {B : Int} (h0 : 0 ≤ i) (h1 : i ≤ B) (hB : B ≤ 100) {K : Nat} (hK : 100 ≤ K) : Dr (spec_l09Draw.f K l i s) (fun m => m.length ≤ 10 ∧ ∀ x ∈ m, smallN x) (B + 30) := by
  unfold spec_l09Draw.f
  obtain ⟨v, j, t, e, ⟨v0, v1⟩, j0, j1⟩ := pick_ok hl s h0 h1 (by omega) (n := 12) (by decide) (by decide)
  rw [e]; simp only [Option.bind_some]
  obtain ⟨v2, j2, t2, e2, ⟨v20, v21⟩, j20, j21⟩ := pick_ok hl t j0 j1 (by omega) (n := 10) (by decide) (by decide)
  rw [e2]; simp only [Option.bind_some]
  obtain ⟨n, rfl⟩ : ∃ n : Nat, v2 = (n : Int) := ⟨v2.toNat, by omega⟩
  obtain ⟨m, j3, t3, e3, ⟨hm, hm2⟩, j30, j31⟩ := Draw_l0 hl n K [] v j2 t2 (B + 1 + 1) (by omega) (by simp; omega) (by omega) (by omega) j20 j21 (by omega) (fun x hx => by cases hx)
  exact ⟨m, j3, t3, e3, ⟨by simp at hm; omega, hm2⟩, j30, by omega⟩

theorem script_ok {l : List Int} (hl : Bts l) {i : Int} (s : Int) {B : Int} (h0 : 0 ≤ i) (h1 : i ≤ B) (hB : B ≤ 4000000000) : Dr (spec_l26DrawScript.f l i s) (fun _ => True) (B + 1) := by
  unfold spec_l26DrawScript.f
  obtain ⟨v, j, t, e, _, j0, j1⟩ := among_ok hl s h0 h1 hB (c := [1, 2, 3, 4, 1, 2, 3, 4, 0, 5]) (by decide) (by decide)
  rw [e]; exact ⟨_, _, _, rfl, trivial, j0, j1⟩
theorem key_ok {l : List Int} (hl : Bts l) {i : Int} (s : Int) {B : Int} (h0 : 0 ≤ i) (h1 : i ≤ B) (hB : B ≤ 4000000000) : Dr (spec_l26DrawKey.f l i s) (fun _ => True) (B + 1) := by
  unfold spec_l26DrawKey.f
  obtain ⟨v, j, t, e, _, j0, j1⟩ := among_ok hl s h0 h1 hB (c := [0, 2, 5, 7, 11, 0, 12, (-1), 1]) (by decide) (by decide)
  rw [e]; exact ⟨_, _, _, rfl, trivial, j0, j1⟩
theorem one_ok2 {l : List Int} (hl : Bts l) {i : Int} (s : Int) {B : Int} (h0 : 0 ≤ i) (h1 : i ≤ B) (hB : B ≤ 4000000000) {n : Int} (n0 : 1 ≤ n) (n1 : n ≤ 200) : Dr (spec_l00Src_one.f l i s n) (fun _ => True) (B + 1) := by
  unfold spec_l00Src_one.f
  obtain ⟨v, j, t, e, _, j0, j1⟩ := pick_ok hl s h0 h1 hB n0 n1
  rw [e]; exact ⟨_, _, _, rfl, trivial, j0, j1⟩
theorem text_ok2 {l : List Int} (hl : Bts l) {i : Int} (s : Int) {B : Int} (h0 : 0 ≤ i) (h1 : i ≤ B) (hB : B ≤ 4000000000) {c : List ByteArray} (n0 : 1 ≤ c.length) (n1 : c.length ≤ 200) : Dr (spec_l00Src_text.f l i s c) (fun v => v ∈ c) (B + 1) := by
  unfold spec_l00Src_text.f
  obtain ⟨v, j, t, e, ⟨v0, v1⟩, j0, j1⟩ := pick_ok hl s h0 h1 hB (n := (c.length : Int)) (by omega) (by omega)
  rw [e]; simp only [Option.bind_some]
  rw [if_pos v0, if_pos v1]
  obtain ⟨m, rfl⟩ : ∃ m : Nat, v = (m : Int) := ⟨v.toNat, by omega⟩
  have hm : m < c.length := by omega
  refine ⟨_, _, _, rfl, ?_, j0, j1⟩
  rw [rdOf_get hm]; exact List.getElem_mem hm
theorem pick_ok2 {l : List Int} (hl : Bts l) {i : Int} (s : Int) {B : Int} (h0 : 0 ≤ i) (h1 : i ≤ B) (hB : B ≤ 3000000000) {n : Int} (n0 : 1 ≤ n) (n1 : n ≤ 10000000) : Dr (spec_l00Src_pick.f l i s n) (fun v => 0 ≤ v ∧ v < n) (B + 2) := by
  unfold spec_l00Src_pick.f
  by_cases h : n ≤ 1
  · rw [if_pos h]; exact ⟨_, _, _, rfl, by omega, h0, by omega⟩
  rw [if_neg h]
  obtain ⟨v, j, t, e, ⟨v0, v1⟩, j0, j1⟩ := next_ok hl s h0 h1 (by omega)
  rw [e]; simp only [Option.bind_some]
  by_cases h2 : n > 200
  · rw [if_pos h2]
    obtain ⟨v2, j2, t2, e2, ⟨v20, v21⟩, j20, j21⟩ := next_ok hl t j0 j1 (by omega)
    rw [e2]; simp only [Option.bind_some]
    rw [if_neg (by omega), wrap_id (x := v * 256) (by omega) (by omega), wrap_id (x := v * 256 + v2) (by omega) (by omega)]
    refine ⟨_, _, _, rfl, ⟨?_, ?_⟩, j20, by (show j2 ≤ B + 2); omega⟩
    · rw [Int.tmod_eq_emod_of_nonneg (by omega)]; exact Int.emod_nonneg _ (by omega)
    · rw [Int.tmod_eq_emod_of_nonneg (by omega)]; exact Int.emod_lt_of_pos _ (by omega)
  · rw [if_neg h2, if_neg (by omega)]
    refine ⟨_, _, _, rfl, ⟨?_, ?_⟩, j0, by (show j ≤ B + 2); omega⟩
    · rw [Int.tmod_eq_emod_of_nonneg v0]; exact Int.emod_nonneg _ (by omega)
    · rw [Int.tmod_eq_emod_of_nonneg v0]; exact Int.emod_lt_of_pos _ (by omega)
theorem mk_size (l : List UInt8) : (⟨l.toArray⟩ : ByteArray).size = l.length := by show l.toArray.size = _; simp
theorem Spoil_ok {l : List Int} (hl : Bts l) {i : Int} (s : Int) {B : Int} (h0 : 0 ≤ i) (h1 : i ≤ B) (hB : B ≤ 2000000000) {a : ByteArray} (ha : a.size ≤ 100000) : Dr (spec_l01Spoil.f l i s a) (fun v => v.size ≤ 100001) (B + 4) := by
  have hz : a.data.toList.length = a.size := (Lib.size_eq a).symm
  unfold spec_l01Spoil.f
  by_cases h : a.size = 0
  · rw [if_pos h]
    obtain ⟨v, j, t, e, hv, j0, j1⟩ := text_ok2 hl s h0 h1 (by omega) (c := [⟨#[]⟩, ⟨#[32]⟩, ⟨#[120]⟩, ⟨#[10]⟩]) (by decide) (by decide)
    have hc : ∀ x ∈ ([⟨#[]⟩, ⟨#[32]⟩, ⟨#[120]⟩, ⟨#[10]⟩] : List ByteArray), x.size ≤ 100001 := by decide
    exact ⟨v, j, t, e, hc v hv, j0, by omega⟩
  rw [if_neg h, if_neg (by omega)]
  obtain ⟨p, j, t, e, ⟨p0, p1⟩, j0, j1⟩ := pick_ok2 hl s h0 h1 (by omega) (n := (a.size : Int)) (by omega) (by omega)
  rw [e]; simp only [Option.bind_some]
  rw [if_pos ⟨p0, p1⟩]
  obtain ⟨q, j2, t2, e2, ⟨q0, q1⟩, j20, j21⟩ := pick_ok hl t j0 j1 (by omega) (n := 4) (by decide) (by decide)
  rw [e2]; simp only [Option.bind_some]
  by_cases c0 : q = 0
  · rw [if_pos c0]
    obtain ⟨v, j3, t3, e3, _, j30, j31⟩ := next_ok hl t2 j20 j21 (by omega)
    rw [e3]
    refine ⟨_, _, _, rfl, ?_, j30, by (show j3 ≤ B + 4); omega⟩
    show (spec_l01Spoil.s0 a p v).size ≤ _
    unfold spec_l01Spoil.s0
    rw [mk_size, List.length_set]; omega
  rw [if_neg c0]
  by_cases c1 : q = 1
  · rw [if_pos c1]
    refine ⟨_, _, _, rfl, ?_, j20, by (show j2 ≤ B + 4); omega⟩
    show (spec_l01Spoil.s1 a p).size ≤ _
    unfold spec_l01Spoil.s1
    rw [mk_size, List.length_append, List.length_take, List.length_drop]; omega
  rw [if_neg c1]
  by_cases c2 : q = 2
  · rw [if_pos c2]
    obtain ⟨v, j3, t3, e3, _, j30, j31⟩ := among_ok hl t2 j20 j21 (by omega) (c := [32, 10, 48, 44, 120]) (by decide) (by decide)
    rw [e3]
    refine ⟨_, _, _, rfl, ?_, j30, by (show j3 ≤ B + 4); omega⟩
    show (spec_l01Spoil.s2 a v).size ≤ _
    unfold spec_l01Spoil.s2
    rw [mk_size, List.length_append, List.length_singleton]; omega
  rw [if_neg c2, if_pos (by omega)]
  refine ⟨_, _, _, rfl, ?_, j20, by (show j2 ≤ B + 4); omega⟩
  show (spec_l01Spoil.s3 a p).size ≤ _
  unfold spec_l01Spoil.s3
  rw [mk_size, List.length_take]; omega
theorem ok_small {m : List S67} (h : ∀ x ∈ m, smallN x) : ∀ x ∈ m, okNote x := fun x hx => by
  obtain ⟨h1, h2, h3⟩ := h x hx
  exact ⟨h1, by omega, by omega⟩
theorem DrawText_ok {l : List Int} (hl : Bts l) {K : Nat} (hK : 4000 ≤ K) : ∃ s k t i' s', spec_l26DrawText.f K l 0 0 = some (s, k, t, i', s') ∧ t.size ≤ 100001 ∧ 0 ≤ i' ∧ i' ≤ 1000 := by
  unfold spec_l26DrawText.f
  obtain ⟨v1, i1, t1, e1, _, a1, b1⟩ := script_ok hl (i := 0) (B := 0) 0 (by omega) (by omega) (by omega)
  rw [e1]; simp only [Option.bind_some]
  obtain ⟨v2, i2, t2, e2, _, a2, b2⟩ := key_ok hl t1 a1 b1 (by omega)
  rw [e2]; simp only [Option.bind_some]
  obtain ⟨m, i3, t3, e3, ⟨h10, hs⟩, a3, b3⟩ := l09Draw_ok hl t2 a2 b2 (by omega) (K := K) (by omega)
  rw [e3]; simp only [Option.bind_some]
  rw [l26Script_eq]; simp only [Option.bind_some]
  by_cases h : keyB v1 v2 = true
  · rw [if_pos h, l26Notes_eq h (by omega) (ok_small hs) (by omega)]; simp only [Option.bind_some]
    have hz := joinT_size (notes_size h (ok_small hs))
    rw [List.length_map] at hz
    obtain ⟨v4, i4, t4, e4, _, a4, b4⟩ := one_ok2 hl t3 a3 b3 (by omega) (n := 5) (by decide) (by decide)
    rw [e4]; simp only [Option.bind_some]
    by_cases h4 : v4 = true
    · rw [if_pos h4]
      obtain ⟨v5, i5, t5, e5, h5, a5, b5⟩ := Spoil_ok hl t4 a4 b4 (by omega) (a := joinT (m.map (noteT v1 v2))) (by omega)
      rw [e5]; exact ⟨_, _, _, _, _, rfl, h5, a5, by show i5 ≤ 1000; omega⟩
    · rw [if_neg h4]; exact ⟨_, _, _, _, _, rfl, by omega, a4, by omega⟩
  · rw [if_neg h]; exact ⟨_, _, _, _, _, rfl, by decide, a3, by omega⟩
theorem DrawConvert_ok {l : List Int} (hl : Bts l) {K : Nat} (hK : 4000 ≤ K) : ∃ s k s2 k2 t, spec_DrawConvertNotes.f K l = some (s, k, s2, k2, t) ∧ t.size ≤ 100001 := by
  unfold spec_DrawConvertNotes.f spec_l00From.f
  simp only [Option.bind_some]
  obtain ⟨s, k, t, i1, t1, e1, hz, a1, b1⟩ := DrawText_ok hl hK
  rw [e1]; simp only [Option.bind_some]
  obtain ⟨v2, i2, t2, e2, _, a2, b2⟩ := script_ok hl t1 a1 b1 (by omega)
  rw [e2]; simp only [Option.bind_some]
  obtain ⟨v3, i3, t3, e3, _, a3, b3⟩ := key_ok hl t2 a2 b2 (by omega)
  rw [e3]; exact ⟨_, _, _, _, _, rfl, hz⟩
theorem DrawRetune_ok {l : List Int} (hl : Bts l) {K : Nat} (hK : 4000 ≤ K) : ∃ s k o t, spec_DrawRetuneText.f K l = some (s, k, o, t) ∧ t.size ≤ 100001 := by
  unfold spec_DrawRetuneText.f spec_l00From.f
  simp only [Option.bind_some]
  obtain ⟨s, k, t, i1, t1, e1, hz, a1, b1⟩ := DrawText_ok hl hK
  rw [e1]; simp only [Option.bind_some]
  obtain ⟨v3, i3, t3, e3, _, a3, b3⟩ := key_ok hl t1 a1 b1 (by omega)
  rw [e3]; exact ⟨_, _, _, _, rfl, hz⟩
theorem DrawScripts_ok {l : List Int} (hl : Bts l) {K : Nat} (hK : 4000 ≤ K) : ∃ t, spec_DrawScriptsOf.f K l = some t ∧ t.size ≤ 100001 := by
  unfold spec_DrawScriptsOf.f spec_l00From.f
  simp only [Option.bind_some]
  obtain ⟨v, i1, t1, e1, ⟨v0, v1⟩, a1, b1⟩ := pick_ok hl (i := 0) (B := 0) 0 (by omega) (by omega) (by omega) (n := 4) (by decide) (by decide)
  rw [e1]; simp only [Option.bind_some]
  obtain ⟨m, i3, t3, e3, ⟨h10, hs⟩, a3, b3⟩ := l09Draw_ok hl t1 a1 b1 (by omega) (K := K) (by omega)
  rw [e3]; simp only [Option.bind_some]
  rw [wrap_id (x := 1 + v) (by omega) (by omega)]
  have h : keyB (1 + v) 0 = true := keyB_iff.2 ⟨⟨by omega, by omega⟩, by omega, by omega⟩
  rw [l26Notes_eq h (by omega) (ok_small hs) (by omega)]; simp only [Option.bind_some]
  have hz := joinT_size (notes_size h (ok_small hs))
  rw [List.length_map] at hz
  obtain ⟨v4, i4, t4, e4, _, a4, b4⟩ := one_ok2 hl t3 a3 b3 (by omega) (n := 6) (by decide) (by decide)
  rw [e4]; simp only [Option.bind_some]
  by_cases h4 : v4 = true
  · rw [if_pos h4]
    obtain ⟨v5, i5, t5, e5, h5, a5, b5⟩ := Spoil_ok hl t4 a4 b4 (by omega) (a := joinT (m.map (noteT (1 + v) 0))) (by omega)
    rw [e5]; exact ⟨_, rfl, h5⟩
  · rw [if_neg h4]; exact ⟨_, rfl, by omega⟩
end Go.Proofs.YtmoamoopoifnlaaGreatDoor.P

namespace Go.Proofs.YtmoamoopoifnlaaGreatDoor.Pure
open Go.RowKit Go.Proofs.YtmoamoopoifnlaaGreatDoorW.PrintWords Go.Proofs.YtmoamoopoifnlaaGreatDoorL Go.Proofs.YtmoamoopoifnlaaGreatDoor.P
set_option linter.unusedVariables false
set_option linter.unusedSimpArgs false
theorem bts_of {l : List Int} (h : ∀ y ∈ l, (Lit.int .u8 y).wf = true) : Bts l := fun y hy => by
  have := h y hy
  simp only [Lit.wf, IntKind.min, IntKind.max, IntKind.signed, IntKind.bits, Bool.and_eq_true] at this
  simp at this
  omega
theorem Same_ok {m : List S67} (hm : m.length ≤ 1000) {K : Nat} (hK : 2000 ≤ K) : spec_SameMelody.f K m m = some true := by
  have main : ∀ (d K i : Nat), i + d = m.length → d + 1 ≤ K → spec_l09Same.l0 K m m (i : Int) = some true := by
    intro d
    induction d with
    | zero =>
      intro K i hi hK
      obtain ⟨K, rfl⟩ : ∃ q, K = q + 1 := ⟨K - 1, by omega⟩
      simp only [spec_l09Same.l0]
      rw [if_neg (by omega)]
    | succ d ih =>
      intro K i hi hK
      obtain ⟨K, rfl⟩ : ∃ q, K = q + 1 := ⟨K - 1, by omega⟩
      have hlt : i < m.length := by omega
      simp only [spec_l09Same.l0]
      rw [if_pos (lt_cast hlt), if_pos (nn_cast i), if_pos (lt_cast hlt), if_neg (by simp), wrap_succ hlt (by omega)]
      exact ih K (i + 1) (by omega) (by omega)
  unfold spec_SameMelody.f spec_l09Same.f
  rw [if_pos rfl, show spec_l09Same.l0 K m m 0 = some true from main m.length K 0 (by omega) (by omega)]; rfl
theorem Has_ok {l : List Int} (hl : l.length ≤ 1000) (x : Int) : ∀ (d K i : Nat), i + d = l.length → d + 1 ≤ K → laws_b10Has.l0 K l x (i : Int) = some (decide (x ∈ l.drop i)) := by
  intro d
  induction d with
  | zero =>
    intro K i hi hK
    obtain ⟨K, rfl⟩ : ∃ q, K = q + 1 := ⟨K - 1, by omega⟩
    simp only [laws_b10Has.l0]
    rw [if_neg (by omega), List.drop_eq_nil_of_le (by omega)]; rfl
  | succ d ih =>
    intro K i hi hK
    obtain ⟨K, rfl⟩ : ∃ q, K = q + 1 := ⟨K - 1, by omega⟩
    have hlt : i < l.length := by omega
    simp only [laws_b10Has.l0]
    rw [if_pos (lt_cast hlt), if_pos (nn_cast i), rd_get hlt, List.drop_eq_getElem_cons hlt]
    by_cases h : l[i] = x
    · rw [if_pos h, decide_eq_true (by rw [h]; exact List.mem_cons_self)]
    · rw [if_neg h, wrap_succ hlt (by omega), ih K (i + 1) (by omega) (by omega)]
      congr 1
      refine decide_eq_decide.2 ⟨fun hm => List.mem_cons_of_mem _ hm, fun hm => ?_⟩
      rcases List.mem_cons.1 hm with e | hm
      · exact absurd e.symm h
      · exact hm
theorem scripts_loop {a : ByteArray} (ha : a.size ≤ 1048576) {L : List Int} (hL : L.length ≤ 10) {c : Int} (hc : c = if L.length = 0 then 8 else 0) (hh : ∀ p, 1 ≤ p → p ≤ 4 → decide (p ∈ L) = hasN p a.data.toList) : ∀ (n K : Nat) (p : Int), p + n = 5 → 1 ≤ p → 5000000 + n + 1 ≤ K → laws_FnConversions.l0 K a L c p = some true := by
  intro n
  induction n with
  | zero =>
    intro K p hp h1 hK
    obtain ⟨K, rfl⟩ : ∃ m, K = m + 1 := ⟨K - 1, by omega⟩
    simp only [laws_FnConversions.l0]
    rw [if_neg (by omega)]
    congr 1
    by_cases h : L.length = 0
    · rw [hc, if_pos h, h]; rfl
    · rw [hc, if_neg h, decide_eq_true (by omega)]; rfl
  | succ n ih =>
    intro K p hp h1 hK
    obtain ⟨K, rfl⟩ : ∃ m, K = m + 1 := ⟨K - 1, by omega⟩
    have hw : wrap64 (p + 1) = p + 1 := wrap_id (by omega) (by omega)
    have hH : laws_b10Has.f K L p = some (hasN p a.data.toList) := by
      have := Has_ok (l := L) (by omega) p L.length K 0 (by omega) (by omega)
      rw [List.drop_zero, hh p h1 (by omega)] at this
      exact this
    have hih := ih K (p + 1) (by omega) (by omega) (by omega)
    simp only [laws_FnConversions.l0]
    rw [if_pos (by omega), ReadNotesIn_spec p 0 ha (by omega), hw]; simp only [Option.bind_some]
    unfold readR
    rw [if_pos (key0 h1 (by omega))]
    unfold hasN at hH
    cases hn : notesOf p 0 a.data.toList with
    | none =>
      rw [hn] at hH
      replace hH : laws_b10Has.f K L p = some false := hH
      show (if (8 : Int) = 0 then _ else ((laws_b10Has.f K L p).bind fun t141 => (if (false != t141) = true then none else (laws_FnConversions.l0 K a L c (p + 1))))) = some true
      rw [if_neg (by decide), hH]; simp only [Option.bind_some]
      rw [if_neg (by decide)]; exact hih
    | some ys =>
      rw [hn] at hH
      replace hH : laws_b10Has.f K L p = some (decide (0 < ys.length)) := hH
      show (if (0 : Int) = 0 then ((laws_b10Has.f K L p).bind fun t140 => (if ((decide ((ys.length : Int) > 0)) != t140) = true then none else (laws_FnConversions.l0 K a L c (p + 1)))) else _) = some true
      rw [if_pos rfl, hH]; simp only [Option.bind_some]
      rw [show decide ((ys.length : Int) > 0) = decide (0 < ys.length) from decide_eq_decide.2 (by omega), bne_self_eq_false, if_neg (by decide)]; exact hih
theorem part2 {l : List Int} (hl : Bts l) {K : Nat} (hK : 6000000 ≤ K) : laws_FnConversions.j2 K l = some true := by
  obtain ⟨K, rfl⟩ : ∃ m, K = m + 1 := ⟨K - 1, by omega⟩
  obtain ⟨t, e, ht⟩ := DrawScripts_ok hl (K := K) (by omega)
  simp only [laws_FnConversions.j2]
  rw [e]; simp only [Option.bind_some]
  have e2 : impl_ScriptsOf.f K t = some (scrG t.data.toList 4 1 []) := scr_impl (by omega) 4 K 1 [] (by omega) (by omega) (by simp) (by omega)
  rw [e2, scrG_eq]; simp only [Option.bind_some]
  have hlen : (([1, 2, 3, 4] : List Int).filter fun p => hasN p t.data.toList).length ≤ 4 := List.length_filter_le _ _
  refine scripts_loop (by omega) (by omega) rfl (fun p p0 p1 => ?_) 4 K 1 (by omega) (by omega) (by omega)
  have hm : p ∈ ([1, 2, 3, 4] : List Int) := by
    have : p = 1 ∨ p = 2 ∨ p = 3 ∨ p = 4 := by omega
    simpa using this
  cases hp : hasN p t.data.toList
  · rw [decide_eq_false_iff_not, List.mem_filter]
    rintro ⟨_, h⟩
    rw [hp] at h; cases h
  · rw [decide_eq_true_iff, List.mem_filter]
    exact ⟨hm, hp⟩
theorem text_len {s k : Int} (h : keyB s k = true) {ys : List S67} (hm : melB ys = true) : (joinT (ys.map (noteT s k))).size ≤ 1048576 := by
  obtain ⟨b1, b2⟩ := melB_ok hm
  have := joinT_size (notes_size h b2)
  rw [List.length_map] at this; omega
theorem conv_some {s k s2 k2 : Int} (h : keyB s k = true) (h2 : keyB s2 k2 = true) {l : List UInt8} {ys : List S67} (hn : notesOf s k l = some ys) : convR s k s2 k2 l = (joinT (ys.map (noteT s2 k2)), 0) := by
  unfold convR
  rw [if_pos ⟨h, h2⟩, hn]
theorem read_some {s k : Int} (h : keyB s k = true) {l : List UInt8} {ys : List S67} (hn : notesOf s k l = some ys) : readR s k l = (ys, 0) := by
  unfold readR
  rw [if_pos h, hn]
theorem part1 {l m : List Int} (hl : Bts l) (hm : Bts m) {K : Nat} (hK : 6000001 ≤ K) : laws_FnConversions.j1 K l m = some true := by
  obtain ⟨K, rfl⟩ : ∃ q, K = q + 1 := ⟨K - 1, by omega⟩
  obtain ⟨s, k, o, u, e, hu⟩ := DrawRetune_ok hm (K := K) (by omega)
  have h2 := part2 hl (K := K) (by omega)
  simp only [laws_FnConversions.j1]
  rw [e]; simp only [Option.bind_some]
  rw [Retune_impl s k o (by omega) (by omega)]; simp only [Option.bind_some]
  by_cases hk : keyB s k = true ∧ keyB s o = true
  rotate_left
  · rw [show retR s k o u.data.toList = (⟨#[]⟩, 2) by unfold retR; rw [if_neg hk]]
    show (if (2 : Int) = 0 then _ else laws_FnConversions.j2 K l) = some true
    rw [if_neg (by decide)]; exact h2
  obtain ⟨h, h'⟩ := hk
  cases hn : notesOf s k u.data.toList with
  | none =>
    rw [show retR s k o u.data.toList = (⟨#[]⟩, 8) by unfold retR; rw [if_pos ⟨h, h'⟩, hn]]
    show (if (8 : Int) = 0 then _ else laws_FnConversions.j2 K l) = some true
    rw [if_neg (by decide)]; exact h2
  | some ys =>
    have ho := notesOf_ok hn
    have hr : retR s k o u.data.toList = moved s k o ys := by unfold retR; rw [if_pos ⟨h, h'⟩, hn]
    by_cases hc : ((mvd k o ys).all fun x => pB x.f0) = true
    rotate_left
    · rw [show retR s k o u.data.toList = (⟨#[]⟩, 6) by rw [hr]; unfold moved; rw [if_neg hc]]
      show (if (6 : Int) = 0 then _ else laws_FnConversions.j2 K l) = some true
      rw [if_neg (by decide)]; exact h2
    have hmv := mvd_ok ho hc
    rw [show retR s k o u.data.toList = (joinT ((mvd k o ys).map (noteT s o)), 0) by rw [hr]; unfold moved; rw [if_pos hc]]
    try dsimp only
    rw [if_pos (show (0 : Int) = 0 from rfl), Convert_impl s k 4 k (by omega) (by omega), conv_some h (key4 h) hn]; simp only [Option.bind_some]
    rw [Convert_impl s o 4 o (text_len h' hmv) (by omega), conv_some h' (key4 h') (notes_back h' hmv)]; simp only [Option.bind_some]
    rw [if_pos trivial, if_pos trivial, if_pos (by rw [mvd_text h h' ho])]
    exact h2
theorem FnConversions : ∀ (x0 : List Int) (x1 : List Int), (x0.length ≤ maxLen ∧ ∀ y ∈ x0, (Lit.int .u8 y).wf = true) → (x1.length ≤ maxLen ∧ ∀ y ∈ x1, (Lit.int .u8 y).wf = true) → ∃ k : Nat, P.laws_FnConversions.f k x0 x1 = some true := by
  intro x0 x1 ⟨_, w0⟩ ⟨_, w1⟩
  have hb0 := bts_of w0
  have hb1 := bts_of w1
  obtain ⟨K, hK⟩ : ∃ K : Nat, K = 7000000 := ⟨_, rfl⟩
  refine ⟨K + 1, ?_⟩
  unfold laws_FnConversions.f laws_b10Long.f
  simp only [Option.bind_some]
  have hlong : laws_FnConversions.j0 (K + 1) x0 x1 true = some true := by simp only [laws_FnConversions.j0, if_true]
  by_cases c0 : decide ((x0.length : Int) > 1048576) = true
  · rw [if_pos c0]; exact hlong
  rw [if_neg c0]
  by_cases c1 : decide ((x1.length : Int) > 1048576) = true
  · rw [c1]; exact hlong
  rw [Bool.not_eq_true] at c1
  rw [c1]
  have h1 := part1 hb0 hb1 (K := K) (by omega)
  obtain ⟨s, k, s2, k2, t, e, ht⟩ := DrawConvert_ok hb0 (K := K) (by omega)
  simp only [laws_FnConversions.j0]
  rw [if_neg (by decide), e]; simp only [Option.bind_some]
  rw [Convert_impl s k s2 k2 (by omega) (by omega)]; simp only [Option.bind_some]
  by_cases hk : keyB s k = true ∧ keyB s2 k2 = true
  rotate_left
  · rw [show convR s k s2 k2 t.data.toList = (⟨#[]⟩, 2) by unfold convR; rw [if_neg hk]]
    show (if (2 : Int) = 0 then _ else laws_FnConversions.j1 K x0 x1) = some true
    rw [if_neg (by decide)]; exact h1
  obtain ⟨h, h'⟩ := hk
  cases hn : notesOf s k t.data.toList with
  | none =>
    rw [show convR s k s2 k2 t.data.toList = (⟨#[]⟩, 8) by unfold convR; rw [if_pos ⟨h, h'⟩, hn]]
    show (if (8 : Int) = 0 then _ else laws_FnConversions.j1 K x0 x1) = some true
    rw [if_neg (by decide)]; exact h1
  | some ys =>
    have ho := notesOf_ok hn
    have hl := (melB_ok ho).1
    have hb := notes_back h' ho
    have hz := text_len h' ho
    rw [conv_some h h' hn]
    try dsimp only
    rw [if_pos (show (0 : Int) = 0 from rfl), Convert_impl s2 k2 s k hz (by omega), conv_some h' h hb]; simp only [Option.bind_some]
    rw [ReadNotesIn_spec s k (by omega) (by omega), read_some h hn]; simp only [Option.bind_some]
    rw [ReadNotesIn_spec s2 k2 hz (by omega), read_some h' hb]; simp only [Option.bind_some]
    rw [if_pos trivial, if_pos (by rw [notes_of hn]), if_pos trivial, if_pos trivial, Same_ok (by omega) (by omega)]; simp only [Option.bind_some]
    rw [if_pos trivial]; exact h1
end Go.Proofs.YtmoamoopoifnlaaGreatDoor.Pure
