/- A number read from decimal text: the reference's reader and the program's take the same texts, and to the same numbers. A text cut at a byte: the reference's list of pieces and the library's Cut. A turn read from text: the reference cuts at every blank and plus sign, the program cuts once and writes the turn again; both take the same texts. The plain law behind FnExactReadTurn: both read the same turn from the same text. Conditions: none beyond the kinds' own bounds. -/
import Derived.Test.YtoneejhafmneiaaDoorF72
import Derived.Test.YtoneejhafmneiaaDoorF74
import Derived.Test.YtoneejhafmneiaaDoorDec
import Derived.Lib.ParseIntBCases
import Derived.Lib.IndexBytes
import Derived.Test.YtoneejhafmneiaaDoorF71
import Derived.Test.YtoneejhafmneiaaDoorF73
import Derived.Test.YtoneejhafmneiaaDoorF34
import Derived.Test.YtoneejhafmneiaaDoorF35
import Derived.Test.YtoneejhafmneiaaDoorF36
import Derived.Test.YtoneejhafmneiaaDoorNames
import Derived.Test.YtoneejhafmneiaaDoorF8
import Derived.Test.YtoneejhafmneiaaDoorO
namespace Go.Proofs.YtoneejhafmneiaaDoor.P
open Go.RowKit Go.Proofs.YtoneejhafmneiaaDoorW.PrintWords Go.Proofs.YtoneejhafmneiaaDoorL
def digB (c : UInt8) : Bool := decide (48 ≤ c.toNat) && decide (c.toNat ≤ 57)
def valD (acc : Nat) (d : List UInt8) : Nat := d.foldl (fun a c => a * 10 + (c.toNat - 48)) acc
def okN (neg : Bool) (d : List UInt8) : Bool := decide (1 ≤ d.length) && decide (d.length ≤ 18) && (decide (d.head? ≠ some 48) || (!neg && decide (d.length = 1))) && d.all digB
def sgn (neg : Bool) (n : Nat) : Int := if neg = true then -(n : Int) else (n : Int)
def numN (neg : Bool) (d : List UInt8) : Option Int := if okN neg d = true then some (sgn neg (valD 0 d)) else none
def numV (s : List UInt8) : Option Int := if s.head? = some 45 then numN true (s.drop 1) else numN false s
def pairN : Option Int → Int × Bool | some n => (n, true) | none => (0, false)
theorem digB_iff {c : UInt8} : digB c = true ↔ 48 ≤ c.toNat ∧ c.toNat ≤ 57 := by
  unfold digB
  rw [Bool.and_eq_true, decide_eq_true_iff, decide_eq_true_iff]
theorem valD_cons (acc : Nat) (c : UInt8) (r : List UInt8) : valD acc (c :: r) = valD (acc * 10 + (c.toNat - 48)) r := by
  unfold valD; rw [List.foldl_cons]
theorem valD_ge : ∀ (d : List UInt8) (acc : Nat), acc ≤ valD acc d
  | [], _ => Nat.le_refl _
  | c :: r, acc => by rw [valD_cons]; have := valD_ge r (acc * 10 + (c.toNat - 48)); omega
theorem valD_lt : ∀ (d : List UInt8) (acc j : Nat), d.all digB = true → acc < 10 ^ j → valD acc d < 10 ^ (j + d.length)
  | [], acc, j, _, h => h
  | c :: r, acc, j, ha, h => by
    rw [List.all_cons, Bool.and_eq_true, digB_iff] at ha
    have := valD_lt r (acc * 10 + (c.toNat - 48)) (j + 1) ha.2 (by rw [Nat.pow_succ]; omega)
    rw [valD_cons, List.length_cons, show j + (r.length + 1) = j + 1 + r.length by omega]; exact this
theorem pow17 {j : Nat} (h : j ≤ 17) : 10 ^ j ≤ 100000000000000000 := Nat.le_trans (Nat.pow_le_pow_right (by decide) h) (by decide)
theorem bt_drop {s : ByteArray} {i : Nat} {c : UInt8} {r : List UInt8} (h : s.data.toList.drop i = c :: r) : bt s (i : Int) = (c.toNat : Int) := by
  have hl : i < s.size := by
    have := congrArg List.length h
    rw [List.length_drop, List.length_cons, ← Lib.size_eq] at this; omega
  have e : s.data.toList[i]? = some c := by
    have := List.getElem?_drop (xs := s.data.toList) (i := i) (j := 0)
    rw [h] at this; simpa using this.symm
  rw [Lib.data_getElem? s i hl] at e
  have e' := Option.some.inj e
  have hi : ((i : Int)).toNat = i := by omega
  unfold bt
  rw [dif_pos (by omega)]
  simp only [hi]
  rw [e']
theorem Digit_eq (c : UInt8) : spec_l01Digit.f (c.toNat : Int) = some (digB c) := by
  unfold spec_l01Digit.f digB
  by_cases h : (c.toNat : Int) ≥ 48
  · rw [if_pos h]
    have h1 : 48 ≤ c.toNat := by omega
    by_cases h2 : c.toNat ≤ 57
    · have h3 : (c.toNat : Int) ≤ 57 := by omega
      simp [h1, h2, h3]
    · have h3 : ¬ (c.toNat : Int) ≤ 57 := by omega
      simp [h1, h2, h3]
  · rw [if_neg h]
    have h1 : ¬ 48 ≤ c.toNat := by omega
    simp [h1]
theorem Num_l0 (s : ByteArray) (neg : Bool) (hs : s.size ≤ 1048576) : ∀ (d k i acc j : Nat), i + d = s.size → acc < 10 ^ j → j + d ≤ 18 → d + 1 ≤ k →
    spec_l01Number.l0 k s (if neg = true then 1 else 0) (acc : Int) (i : Int) = some (if (s.data.toList.drop i).all digB = true then (sgn neg (valD acc (s.data.toList.drop i)), true) else (0, false)) := by
  intro d
  induction d with
  | zero =>
    intro k i acc j hi ha hj hk
    obtain ⟨k, rfl⟩ : ∃ m, k = m + 1 := ⟨k - 1, by omega⟩
    have hd : s.data.toList.drop i = [] := List.drop_eq_nil_of_le (by rw [← Lib.size_eq]; omega)
    have := pow17 (j := 17) (by omega)
    have hlt : acc < 1000000000000000000 := Nat.lt_of_lt_of_le ha (Nat.le_trans (Nat.pow_le_pow_right (by decide) (show j ≤ 18 by omega)) (by decide))
    simp only [spec_l01Number.l0]
    rw [if_neg (by omega), hd]
    cases neg
    · simp [sgn, valD]
    · simp [sgn, valD, wrap_id (x := -(acc : Int)) (by omega) (by omega)]
  | succ d ih =>
    intro k i acc j hi ha hj hk
    obtain ⟨k, rfl⟩ : ∃ m, k = m + 1 := ⟨k - 1, by omega⟩
    have hlt : i < s.data.toList.length := by rw [← Lib.size_eq]; omega
    obtain ⟨c, r, hd⟩ : ∃ c r, s.data.toList.drop i = c :: r := ⟨_, _, List.drop_eq_getElem_cons hlt⟩
    have hr : s.data.toList.drop (i + 1) = r := by
      rw [← List.drop_drop, hd]; rfl
    have hp := pow17 (j := j) (by omega)
    simp only [spec_l01Number.l0]
    rw [if_pos (by omega), if_pos (nn_cast i), bt_drop hd, Digit_eq, hd, List.all_cons]
    simp only [Option.bind_some]
    by_cases hc : digB c = true
    · rw [if_pos hc, hc, Bool.true_and]
      rw [digB_iff] at hc
      have e1 : wrap64 (wrap64 (10 * (acc : Int)) + ((c.toNat : Int) - 48) % 256) = ((acc * 10 + (c.toNat - 48) : Nat) : Int) := by
        rw [wrap_id (x := 10 * (acc : Int)) (by omega) (by omega), wrap_id (by omega) (by omega)]; omega
      have e2 : wrap64 ((i : Int) + 1) = ((i + 1 : Nat) : Int) := by rw [wrap_id (by omega) (by omega)]; omega
      rw [e1, e2, ih k (i + 1) _ (j + 1) (by omega) (by rw [Nat.pow_succ]; omega) (by omega) (by omega), hr, valD_cons]
    · rw [if_neg hc]
      rw [Bool.not_eq_true] at hc
      simp [hc]
theorem Num_j1 (s : ByteArray) (neg : Bool) (x4 : Nat) (hx : x4 = if neg = true then 1 else 0) (hle : x4 ≤ s.size) (hs : s.size ≤ 1048576) {k : Nat} (hk : 50 ≤ k) :
    spec_l01Number.j1 k s (x4 : Int) = some (pairN (numN neg (s.data.toList.drop x4))) := by
  obtain ⟨k, rfl⟩ : ∃ m, k = m + 2 := ⟨k - 2, by omega⟩
  have hd : (s.data.toList.drop x4).length = s.size - x4 := by rw [List.length_drop, ← Lib.size_eq]
  have j2t : spec_l01Number.j2 (k + 1) s (x4 : Int) true = some (0, false) := by simp only [spec_l01Number.j2]; rw [if_pos trivial]
  have j2f : s.size - x4 ≤ 18 → spec_l01Number.j2 (k + 1) s (x4 : Int) false = some (if (s.data.toList.drop x4).all digB = true then (sgn neg (valD 0 (s.data.toList.drop x4)), true) else (0, false)) := fun h18 => by
    have := Num_l0 s neg hs (s.size - x4) k x4 0 0 (by omega) (by decide) (by omega) (by omega)
    have e : ((if neg = true then 1 else 0 : Int)) = (x4 : Int) := by rw [hx]; cases neg <;> rfl
    rw [e] at this
    simp only [spec_l01Number.j2]
    rw [if_neg (by decide)]
    exact this
  show spec_l01Number.j1 (k + 1 + 1) s (x4 : Int) = _
  simp only [spec_l01Number.j1]
  unfold numN okN
  by_cases h1 : (s.size : Int) = (x4 : Int)
  · rw [if_pos h1, j2t, hd, show s.size - x4 = 0 by omega]; rfl
  rw [if_neg h1, wrap_id (by omega) (by omega)]
  by_cases h2 : (s.size : Int) - (x4 : Int) > 18
  · have h3 : ¬ s.size - x4 ≤ 18 := by omega
    rw [if_pos h2, j2t, hd, decide_eq_false h3]; simp [pairN]
  have hlt : x4 < s.data.toList.length := by rw [← Lib.size_eq]; omega
  rw [if_neg h2, if_pos (nn_cast x4), if_pos (by omega), hd]
  obtain ⟨c, r, hc⟩ : ∃ c r, s.data.toList.drop x4 = c :: r := ⟨_, _, List.drop_eq_getElem_cons hlt⟩
  have h18 : s.size - x4 ≤ 18 := by omega
  have h1' : 1 ≤ s.size - x4 := by omega
  rw [bt_drop hc]
  have key : ∀ b : Bool, (b = (decide ((s.data.toList.drop x4).head? ≠ some 48) || (!neg && decide (s.size - x4 = 1)))) → (if b = true then spec_l01Number.j2 (k + 1) s (x4 : Int) false else spec_l01Number.j2 (k + 1) s (x4 : Int) true) = some (pairN (if (decide (1 ≤ s.size - x4) && decide (s.size - x4 ≤ 18) && (decide ((s.data.toList.drop x4).head? ≠ some 48) || (!neg && decide (s.size - x4 = 1))) && (s.data.toList.drop x4).all digB) = true then some (sgn neg (valD 0 (s.data.toList.drop x4))) else none)) := by
    intro b hb
    rw [← hb, decide_eq_true h1', decide_eq_true h18]
    cases b
    · rw [if_neg (by decide), j2t]; rfl
    · rw [if_pos rfl, j2f h18]
      cases (s.data.toList.drop x4).all digB <;> rfl
  by_cases h48 : (c.toNat : Int) = 48
  · have hc48 : c = 48 := UInt8.toNat_inj.1 (by rw [show c.toNat = 48 by omega]; rfl)
    rw [if_pos h48]
    have hh : decide ((s.data.toList.drop x4).head? ≠ some 48) = false := by rw [hc, hc48]; rfl
    have := key (!decide ((s.size : Int) > 1)) (by
      rw [hh, Bool.false_or]
      cases neg
      · have : x4 = 0 := hx
        subst this
        by_cases hz : s.size = 1
        · simp [hz]
        · have : (s.size : Int) > 1 := by omega
          simp [hz, this]
      · have : x4 = 1 := hx
        subst this
        have : (s.size : Int) > 1 := by omega
        simp [this])
    rw [← this]
    cases decide ((s.size : Int) > 1) <;> rfl
  · rw [if_neg h48]
    have hh : decide ((s.data.toList.drop x4).head? ≠ some 48) = true := by
      rw [hc]; refine decide_eq_true ?_
      intro e; apply h48; rw [show c = 48 from Option.some.inj e]; rfl
    have := key true (by rw [hh, Bool.true_or])
    rw [← this]; rfl
theorem Number_eq (s : ByteArray) (hs : s.size ≤ 1048576) {k : Nat} (hk : 60 ≤ k) : spec_l01Number.f k s = some (pairN (numV s.data.toList)) := by
  obtain ⟨k, rfl⟩ : ∃ m, k = m + 1 := ⟨k - 1, by omega⟩
  unfold spec_l01Number.f numV
  by_cases h0 : (s.size : Int) > 0
  · have hlt : 0 < s.data.toList.length := by rw [← Lib.size_eq]; omega
    obtain ⟨c, r, hc⟩ : ∃ c r, s.data.toList.drop 0 = c :: r := ⟨_, _, List.drop_eq_getElem_cons hlt⟩
    rw [if_pos h0, if_pos (by omega), show (0 : Int) = ((0 : Nat) : Int) from rfl, bt_drop hc]
    rw [List.drop_zero] at hc
    have hh : s.data.toList.head? = some c := by rw [hc]; rfl
    rw [hh]
    simp only [spec_l01Number.j0]
    by_cases h45 : c = 45
    · subst h45
      rw [if_pos (by decide), if_pos rfl]
      exact Num_j1 s true 1 rfl (by omega) hs (by omega)
    · have : ¬ ((((c.toNat : Nat) : Int)) == 45) = true := by
        intro e; apply h45; exact UInt8.toNat_inj.1 (by have := beq_iff_eq.1 e; rw [show c.toNat = 45 by omega]; rfl)
      rw [if_neg this, if_neg (fun e => h45 (Option.some.inj e))]
      have := Num_j1 s false 0 rfl (by omega) hs (k := k) (by omega)
      rw [List.drop_zero] at this; exact this
  · have hz : s.size = 0 := by omega
    have hn : s.data.toList = [] := List.eq_nil_of_length_eq_zero (by rw [← Lib.size_eq]; exact hz)
    rw [if_neg h0, hn]
    simp only [spec_l01Number.j0]
    rw [if_neg (by decide)]
    have := Num_j1 s false 0 rfl (by omega) hs (k := k) (by omega)
    rw [List.drop_zero, hn] at this; exact this
theorem valD_snoc (l : List UInt8) (b : UInt8) : valD 0 (l ++ [b]) = valD 0 l * 10 + (b.toNat - 48) := by unfold valD; rw [List.foldl_append]; rfl
theorem valD_pos {d : List UInt8} (h0 : d ≠ []) (ha : d.all digB = true) (h : d.head? ≠ some 48) : 1 ≤ valD 0 d := by
  cases d with
  | nil => exact absurd rfl h0
  | cons c r =>
    rw [List.all_cons, Bool.and_eq_true, digB_iff] at ha
    have hc : c.toNat ≠ 48 := fun e => h (by rw [List.head?_cons]; congr 1; exact UInt8.toNat_inj.1 (by rw [e]; rfl))
    have := valD_ge r (0 * 10 + (c.toNat - 48))
    rw [valD_cons]; omega
theorem dec_val : ∀ (n : Nat) (d : List UInt8), d.length ≤ n → d ≠ [] → d.all digB = true → (d.head? ≠ some 48 ∨ d.length = 1) → Lib.decDigits (valD 0 d) = d := by
  intro n
  induction n with
  | zero => intro d h h0; exact absurd (List.eq_nil_of_length_eq_zero (by omega)) h0
  | succ n ih =>
    intro d h h0 ha hh
    rcases List.eq_nil_or_concat d with rfl | ⟨l, b, rfl⟩
    · exact absurd rfl h0
    rw [List.concat_eq_append] at h ha hh ⊢
    rw [List.all_append, Bool.and_eq_true, List.all_cons, Bool.and_eq_true, digB_iff] at ha
    have hb := ha.2.1
    have eb : UInt8.ofNat (48 + (b.toNat - 48)) = b := by rw [show 48 + (b.toNat - 48) = b.toNat by omega]; exact UInt8.ofNat_toNat
    rw [valD_snoc, Lib.decDigits]
    cases l with
    | nil =>
      rw [dif_pos (by show 0 * 10 + _ < 10; omega)]
      show [UInt8.ofNat (48 + (0 * 10 + (b.toNat - 48)))] = _
      rw [Nat.zero_mul, Nat.zero_add, eb]; rfl
    | cons c r =>
      have h48 : (c :: r).head? ≠ some 48 := by
        rcases hh with hh | hh
        · simpa using hh
        · simp at hh
      have hp := valD_pos (by simp) ha.1 h48
      rw [dif_neg (by omega), show (valD 0 (c :: r) * 10 + (b.toNat - 48)) / 10 = valD 0 (c :: r) by omega, show (valD 0 (c :: r) * 10 + (b.toNat - 48)) % 10 = b.toNat - 48 by omega, eb]
      rw [ih (c :: r) (by simp at h ⊢; omega) (by simp) ha.1 (Or.inl h48)]
theorem toNat_dig {u : Nat} (h : u < 10) : (UInt8.ofNat (48 + u)).toNat = 48 + u := by
  rw [UInt8.toNat_ofNat']; omega
theorem dec_spec : ∀ (n u : Nat), u ≤ n → Lib.decDigits u ≠ [] ∧ (Lib.decDigits u).all digB = true ∧ valD 0 (Lib.decDigits u) = u ∧ (u ≠ 0 → (Lib.decDigits u).head? ≠ some 48) ∧ (u = 0 → (Lib.decDigits u).length = 1) := by
  intro n
  induction n with
  | zero =>
    intro u h
    obtain rfl : u = 0 := by omega
    rw [Lib.decDigits_one (by decide)]
    exact ⟨by simp, by decide, by decide, fun h => absurd rfl h, fun _ => rfl⟩
  | succ n ih =>
    intro u h
    rw [Lib.decDigits]
    by_cases h10 : u < 10
    · rw [dif_pos h10]
      have e := toNat_dig h10
      refine ⟨by simp, ?_, ?_, ?_, fun _ => rfl⟩
      · rw [List.all_cons, Bool.and_eq_true, digB_iff, e]; exact ⟨by omega, rfl⟩
      · rw [valD_cons, e]; show 0 * 10 + (48 + u - 48) = u; omega
      · intro h0 e2
        rw [List.head?_cons] at e2
        have := congrArg UInt8.toNat (Option.some.inj e2)
        rw [e] at this
        have e48 : (48 : UInt8).toNat = 48 := rfl
        omega
    · rw [dif_neg h10]
      obtain ⟨i1, i2, i3, i4, _⟩ := ih (u / 10) (by omega)
      have e := toNat_dig (u := u % 10) (by omega)
      refine ⟨by simp, ?_, ?_, ?_, fun h0 => by omega⟩
      · rw [List.all_append, i2, List.all_cons, Bool.true_and, Bool.and_eq_true, digB_iff, e]; exact ⟨by omega, rfl⟩
      · rw [valD_snoc, i3, e]; omega
      · intro _
        have := i4 (by omega)
        revert this i1
        generalize Lib.decDigits (u / 10) = l
        intro i1 i4
        cases l with
        | nil => exact absurd rfl i1
        | cons c r => simpa using i4
theorem parseM : ∀ (d : List UInt8) (acc j : Nat), d.all digB = true → acc < 10 ^ j → j + d.length ≤ 18 → Lib.parseUintM (2 ^ 64 - 1) acc d = .ok (valD acc d)
  | [], acc, j, _, _, _ => rfl
  | c :: r, acc, j, ha, hj, hl => by
    rw [List.all_cons, Bool.and_eq_true, digB_iff] at ha
    rw [List.length_cons] at hl
    have hp := pow17 (j := j) (by omega)
    rw [Lib.parseUintM, if_pos ha.1, if_neg (by omega), if_neg (by omega), valD_cons]
    exact parseM r _ (j + 1) ha.2 (by rw [Nat.pow_succ]; omega) (by omega)
theorem okN_iff {neg : Bool} {d : List UInt8} : okN neg d = true ↔ (1 ≤ d.length ∧ d.length ≤ 18) ∧ (d.head? ≠ some 48 ∨ (neg = false ∧ d.length = 1)) ∧ d.all digB = true := by
  unfold okN
  simp only [Bool.and_eq_true, Bool.or_eq_true, decide_eq_true_iff, Bool.not_eq_true', and_assoc]
theorem parseU {neg : Bool} {d : List UInt8} (h : okN neg d = true) : Lib.parseUintB 64 d = .ok (valD 0 d) ∧ valD 0 d < 1000000000000000000 := by
  obtain ⟨⟨h1, h2⟩, _, h3⟩ := okN_iff.1 h
  unfold Lib.parseUintB
  rw [if_neg (by intro e; rw [e] at h1; simp at h1)]
  refine ⟨parseM d 0 0 h3 (by decide) (by omega), ?_⟩
  have := valD_lt d 0 0 h3 (by decide)
  exact Nat.lt_of_lt_of_le this (Nat.le_trans (Nat.pow_le_pow_right (by decide) (show 0 + d.length ≤ 18 by omega)) (by decide))
theorem dec_list (n : Int) : (impl_Decimal.t n).data.toList = Lib.itoa n := by unfold impl_Decimal.t; simp
theorem trim_minus (r : List UInt8) : Lib.trimPrefix (45 :: r) [45] = r := by
  unfold Lib.trimPrefix Lib.hasPrefix
  rw [if_pos (by simp [List.isPrefixOf])]; rfl
theorem trim_other {c : UInt8} (r : List UInt8) (h : c ≠ 45) : Lib.trimPrefix (c :: r) [45] = c :: r := by
  unfold Lib.trimPrefix Lib.hasPrefix
  rw [if_neg (by simp [List.isPrefixOf]; exact fun e => h e.symm)]
theorem num_itoa {s : List UInt8} {n : Int} (h : numV s = some n) : Lib.itoa n = s ∧ Lib.parseIntB 64 s = .ok n ∧ (Lib.trimPrefix s [45]).length ≤ 18 := by
  unfold numV at h
  by_cases h45 : s.head? = some 45
  · rw [if_pos h45] at h
    obtain ⟨r, rfl⟩ : ∃ r, s = 45 :: r := by
      cases s with
      | nil => simp at h45
      | cons c r => exact ⟨r, by rw [List.head?_cons] at h45; rw [Option.some.inj h45]⟩
    rw [show (45 :: r).drop 1 = r from rfl] at h
    unfold numN at h
    by_cases ho : okN true r = true
    · rw [if_pos ho] at h
      obtain rfl := Option.some.inj h
      obtain ⟨p1, p2⟩ := parseU ho
      obtain ⟨⟨h1, h2⟩, h3, h4⟩ := okN_iff.1 ho
      have h48 : r.head? ≠ some 48 := h3.resolve_right (fun e => by simp at e)
      have hne : r ≠ [] := by intro e; rw [e] at h1; simp at h1
      have hp := valD_pos hne h4 h48
      refine ⟨?_, ?_, by rw [trim_minus]; exact h2⟩
      · unfold Lib.itoa sgn
        rw [if_pos rfl, if_pos (by omega), show (-((valD 0 r : Nat) : Int)).natAbs = valD 0 r by omega, dec_val _ r (Nat.le_refl _) hne h4 (Or.inl h48)]
      · rw [Lib.parseIntB_minus, p1]
        show (if 2 ^ (64 - 1) < valD 0 r then _ else _) = _
        rw [if_neg (by omega)]; rfl
    · rw [if_neg ho] at h; cases h
  · rw [if_neg h45] at h
    unfold numN at h
    by_cases ho : okN false s = true
    · rw [if_pos ho] at h
      obtain rfl := Option.some.inj h
      obtain ⟨p1, p2⟩ := parseU ho
      obtain ⟨⟨h1, h2⟩, h3, h4⟩ := okN_iff.1 ho
      cases s with
      | nil => simp at h1
      | cons c r =>
        have hc : 48 ≤ c.toNat ∧ c.toNat ≤ 57 := by
          rw [List.all_cons, Bool.and_eq_true, digB_iff] at h4; exact h4.1
        have hc45 : c ≠ 45 := fun e => h45 (by rw [e]; rfl)
        refine ⟨?_, ?_, by rw [trim_other r hc45]; exact h2⟩
        · unfold Lib.itoa sgn
          show (if ((valD 0 (c :: r) : Nat) : Int) < 0 then _ else Lib.decDigits (((valD 0 (c :: r) : Nat) : Int)).toNat) = _
          rw [if_neg (by omega), show (((valD 0 (c :: r) : Nat) : Int)).toNat = valD 0 (c :: r) by omega, dec_val _ _ (Nat.le_refl _) (by simp) h4 (h3.imp id (fun e => e.2))]
        · rw [Lib.parseIntB_plain 64 c r (by omega) (by omega), p1]
          show (if 2 ^ (64 - 1) ≤ valD 0 (c :: r) then _ else _) = _
          rw [if_neg (by omega)]; rfl
    · rw [if_neg ho] at h; cases h
theorem num_of_itoa {n : Int} (h : (Lib.trimPrefix (Lib.itoa n) [45]).length ≤ 18) : numV (Lib.itoa n) = some n := by
  unfold Lib.itoa at h ⊢
  by_cases hn : n < 0
  · rw [if_pos hn] at h ⊢
    rw [trim_minus] at h
    obtain ⟨i1, i2, i3, i4, _⟩ := dec_spec n.natAbs n.natAbs (Nat.le_refl _)
    unfold numV
    rw [if_pos (show (45 :: Lib.decDigits n.natAbs).head? = some 45 from rfl), show (45 :: Lib.decDigits n.natAbs).drop 1 = Lib.decDigits n.natAbs from rfl]
    unfold numN
    have hl : 1 ≤ (Lib.decDigits n.natAbs).length := List.length_pos_iff.2 i1
    rw [if_pos (okN_iff.2 ⟨⟨hl, h⟩, Or.inl (i4 (by omega)), i2⟩), i3]
    unfold sgn
    rw [if_pos rfl]; congr 1; omega
  · rw [if_neg hn] at h ⊢
    obtain ⟨i1, i2, i3, i4, i5⟩ := dec_spec n.toNat n.toNat (Nat.le_refl _)
    have hl : 1 ≤ (Lib.decDigits n.toNat).length := List.length_pos_iff.2 i1
    have h45 : (Lib.decDigits n.toNat).head? ≠ some 45 ∧ Lib.trimPrefix (Lib.decDigits n.toNat) [45] = Lib.decDigits n.toNat := by
      revert i1 i2
      generalize Lib.decDigits n.toNat = l
      intro i1 i2
      cases l with
      | nil => exact absurd rfl i1
      | cons c r =>
        rw [List.all_cons, Bool.and_eq_true, digB_iff] at i2
        have hc : c ≠ 45 := fun e => by rw [e] at i2; exact absurd i2.1.1 (by decide)
        exact ⟨fun e => hc (Option.some.inj e), trim_other r hc⟩
    rw [h45.2] at h
    unfold numV
    rw [if_neg h45.1]
    unfold numN
    have hx : (Lib.decDigits n.toNat).head? ≠ some 48 ∨ (false = false ∧ (Lib.decDigits n.toNat).length = 1) := by
      by_cases hz : n.toNat = 0
      · exact Or.inr ⟨rfl, i5 hz⟩
      · exact Or.inl (i4 hz)
    rw [if_pos (okN_iff.2 ⟨⟨hl, h⟩, hx, i2⟩), i3]
    unfold sgn
    rw [if_neg (by decide)]; congr 1; omega
theorem RD_eq (s : ByteArray) : impl_ReadDecimal.v s = numV s.data.toList := by
  cases hn : numV s.data.toList with
  | some n =>
    obtain ⟨h1, h2, h3⟩ := num_itoa hn
    unfold impl_ReadDecimal.v
    rw [h2]
    show (if 18 < (Lib.trimPrefix s.data.toList [45]).length then none else if (impl_Decimal.t n).toList = s.toList then some n else none) = some n
    rw [if_neg (by omega), if_pos (by rw [ByteArray.toList_eq, ByteArray.toList_eq, dec_list, h1])]
  | none =>
    cases hv : impl_ReadDecimal.v s with
    | none => rfl
    | some v =>
      exfalso
      unfold impl_ReadDecimal.v at hv
      rcases hp : Lib.parseIntB 64 s.data.toList with w | _ | _ <;> rw [hp] at hv
      · replace hv : (if 18 < (Lib.trimPrefix s.data.toList [45]).length then none else if (impl_Decimal.t w).toList = s.toList then some w else none) = some v := hv
        by_cases h18 : 18 < (Lib.trimPrefix s.data.toList [45]).length
        · rw [if_pos h18] at hv; cases hv
        rw [if_neg h18] at hv
        by_cases he : (impl_Decimal.t w).toList = s.toList
        · rw [ByteArray.toList_eq, ByteArray.toList_eq, dec_list] at he
          rw [← he] at h18 hn
          rw [num_of_itoa (by omega)] at hn; cases hn
        · rw [if_neg he] at hv; cases hv
      · cases hv
      · cases hv
theorem ReadDecimal_eq (s : ByteArray) (hs : s.size ≤ 1048576) : impl_ReadDecimal.f s = some (pairN (numV s.data.toList)) := by
  unfold impl_ReadDecimal.f
  rw [if_pos (by omega), RD_eq]
  cases numV s.data.toList <;> rfl
end Go.Proofs.YtoneejhafmneiaaDoor.P
namespace Go.Proofs.YtoneejhafmneiaaDoor.P
open Go.RowKit Go.Proofs.YtoneejhafmneiaaDoorW.PrintWords Go.Proofs.YtoneejhafmneiaaDoorL
def baL (l : List UInt8) : ByteArray := ⟨l.toArray⟩
def splitL (c : UInt8) (cur : List UInt8) : List UInt8 → List (List UInt8)
  | [] => [cur]
  | b :: r => if b = c then cur :: splitL c [] r else splitL c (cur ++ [b]) r
theorem baL_data (l : List UInt8) : (baL l).data.toList = l := by unfold baL; simp
theorem data_baL (s : ByteArray) : baL s.data.toList = s := Lib.mk_data s
theorem Split_l0 (s : ByteArray) (c : UInt8) (hs : s.size ≤ 1048576) : ∀ (d k b i : Nat) (acc : List ByteArray), i + d = s.size → b ≤ i → acc.length ≤ i → d + 1 ≤ k →
    spec_l01Split.l0 k s (c.toNat : Int) acc (b : Int) (i : Int) = some (acc ++ (splitL c ((s.data.toList.drop b).take (i - b)) (s.data.toList.drop i)).map baL) := by
  intro d
  induction d with
  | zero =>
    intro k b i acc hi hb ha hk
    obtain ⟨k, rfl⟩ : ∃ m, k = m + 1 := ⟨k - 1, by omega⟩
    have hd : s.data.toList.drop i = [] := List.drop_eq_nil_of_le (by rw [← Lib.size_eq]; omega)
    simp only [spec_l01Split.l0]
    rw [if_neg (by omega), if_pos (nn_cast b), if_pos (by omega), if_pos (by omega), hd, Lib.extract_eq]
    show some (acc ++ [baL _]) = some (acc ++ [baL _])
    rw [show ((b : Int)).toNat = b by omega, show s.size - b = i - b by omega]
  | succ d ih =>
    intro k b i acc hi hb ha hk
    obtain ⟨k, rfl⟩ : ∃ m, k = m + 1 := ⟨k - 1, by omega⟩
    have hlt : i < s.data.toList.length := by rw [← Lib.size_eq]; omega
    obtain ⟨x, r, hd⟩ : ∃ x r, s.data.toList.drop i = x :: r := ⟨_, _, List.drop_eq_getElem_cons hlt⟩
    have hr : s.data.toList.drop (i + 1) = r := by rw [← List.drop_drop, hd]; rfl
    have e2 : wrap64 ((i : Int) + 1) = ((i + 1 : Nat) : Int) := by rw [wrap_id (by omega) (by omega)]; omega
    simp only [spec_l01Split.l0]
    rw [if_pos (by omega), if_pos (nn_cast i), bt_drop hd, e2, hd]
    by_cases hc : x = c
    · subst hc
      rw [if_pos rfl, if_pos (nn_cast b), if_pos (by omega), if_pos (by omega), if_pos (by omega), ih k (i + 1) (i + 1) _ (by omega) (by omega) (by rw [List.length_append]; simp; omega) (by omega), hr, Lib.extract_eq]
      rw [show splitL x ((s.data.toList.drop b).take (i - b)) (x :: r) = ((s.data.toList.drop b).take (i - b)) :: splitL x [] r from if_pos rfl]
      rw [Nat.sub_self, List.take_zero, List.map_cons, List.append_assoc, show ((b : Int)).toNat = b by omega, show ((i : Int)).toNat = i by omega]
      rfl
    · rw [if_neg (fun e => hc (UInt8.toNat_inj.1 (by omega))), ih k b (i + 1) _ (by omega) (by omega) (by omega) (by omega), hr]
      rw [show splitL c ((s.data.toList.drop b).take (i - b)) (x :: r) = splitL c (((s.data.toList.drop b).take (i - b)) ++ [x]) r from if_neg hc]
      have : (s.data.toList.drop b).take (i + 1 - b) = (s.data.toList.drop b).take (i - b) ++ [x] := by
        rw [show i + 1 - b = (i - b) + 1 by omega, List.take_add_one, List.getElem?_drop, show b + (i - b) = i by omega]
        have : s.data.toList[i]? = some x := by
          have := List.getElem?_drop (xs := s.data.toList) (i := i) (j := 0)
          rw [hd] at this; simpa using this.symm
        rw [this]; rfl
      rw [this]
theorem Split_eq (s : ByteArray) (c : UInt8) (hs : s.size ≤ 1048576) {k : Nat} (hk : s.size + 1 ≤ k) : spec_l01Split.f k s (c.toNat : Int) = some ((splitL c [] s.data.toList).map baL) := by
  unfold spec_l01Split.f
  have := Split_l0 s c hs s.size k 0 0 [] (by omega) (by omega) (by simp) (by omega)
  simpa using this
theorem splitL_none {c : UInt8} : ∀ (l cur : List UInt8), c ∉ l → splitL c cur l = [cur ++ l]
  | [], cur, _ => by simp [splitL]
  | b :: r, cur, h => by
    rw [show splitL c cur (b :: r) = splitL c (cur ++ [b]) r from if_neg (fun e => h (by rw [e]; exact List.mem_cons_self)), splitL_none r _ (fun e => h (List.mem_cons_of_mem _ e))]
    simp
theorem splitL_at {c : UInt8} : ∀ (a cur b : List UInt8), c ∉ a → splitL c cur (a ++ c :: b) = (cur ++ a) :: splitL c [] b
  | [], cur, b, _ => by
    rw [List.nil_append, List.append_nil]; exact if_pos rfl
  | x :: r, cur, b, h => by
    rw [List.cons_append, show splitL c cur (x :: (r ++ c :: b)) = splitL c (cur ++ [x]) (r ++ c :: b) from if_neg (fun e => h (by rw [e]; exact List.mem_cons_self)), splitL_at r _ b (fun e => h (List.mem_cons_of_mem _ e))]
    simp
theorem splitL_pos (c : UInt8) : ∀ (l cur : List UInt8), 1 ≤ (splitL c cur l).length
  | [], _ => Nat.le_refl _
  | b :: r, cur => by
    unfold splitL
    split
    · simp
    · exact splitL_pos c r _
/-- Two pieces: one cut, and no other. -/
theorem splitL_two {c : UInt8} {l : List UInt8} (h : (splitL c [] l).length = 2) : ∃ a b, l = a ++ c :: b ∧ c ∉ a ∧ c ∉ b ∧ splitL c [] l = [a, b] := by
  by_cases hm : c ∈ l
  · obtain ⟨a, b, rfl, ha⟩ := List.eq_append_cons_of_mem hm
    rw [splitL_at a [] b ha] at h ⊢
    by_cases hb : c ∈ b
    · exfalso
      obtain ⟨a2, b2, rfl, ha2⟩ := List.eq_append_cons_of_mem hb
      rw [splitL_at a2 [] b2 ha2] at h
      have := splitL_pos c b2 []
      simp only [List.length_cons] at h; omega
    · exact ⟨a, b, rfl, ha, hb, by rw [splitL_none b [] hb]; simp⟩
  · rw [splitL_none l [] hm] at h; simp at h
theorem indexByte_at {c : UInt8} : ∀ (a b : List UInt8), c ∉ a → Lib.indexByte (a ++ c :: b) c = (a.length : Int)
  | [], b, _ => by simp [Lib.indexByte]
  | x :: r, b, h => by
    have ih := indexByte_at r b (fun e => h (List.mem_cons_of_mem _ e))
    have hx : (x == c) = false := beq_eq_false_iff_ne.2 (fun e => h (by rw [e]; exact List.mem_cons_self))
    rw [List.cons_append, Lib.indexByte, hx, ih]
    have : ((r.length : Int) == -1) = false := beq_eq_false_iff_ne.2 (by omega)
    simp [this]
theorem indexByte_no {c : UInt8} : ∀ (l : List UInt8), c ∉ l → Lib.indexByte l c = -1
  | [], _ => rfl
  | x :: r, h => by
    have ih := indexByte_no r (fun e => h (List.mem_cons_of_mem _ e))
    have hx : (x == c) = false := beq_eq_false_iff_ne.2 (fun e => h (by rw [e]; exact List.mem_cons_self))
    rw [Lib.indexByte, hx, ih]; rfl
theorem cut_at {c : UInt8} (a b : List UInt8) (h : c ∉ a) : Lib.cut (a ++ c :: b) [c] = (a, b, true) := by
  unfold Lib.cut
  rw [Lib.index_one, indexByte_at a b h, if_pos (by omega), show ((a.length : Int)).toNat = a.length by omega]
  simp
theorem cut_no {c : UInt8} (l : List UInt8) (h : c ∉ l) : Lib.cut l [c] = (l, [], false) := by
  unfold Lib.cut
  rw [Lib.index_one, indexByte_no l h, if_neg (by decide)]
theorem Cut_eq (s : ByteArray) (c : UInt8) (hs : s.size ≤ 1048576) : strings_Cut.f s (⟨#[c]⟩ : ByteArray) = some (baL (Lib.cut s.data.toList [c]).1, baL (Lib.cut s.data.toList [c]).2.1, (Lib.cut s.data.toList [c]).2.2) := by
  unfold strings_Cut.f
  rw [if_pos (by omega)]; rfl
end Go.Proofs.YtoneejhafmneiaaDoor.P
namespace Go.Proofs.YtoneejhafmneiaaDoor.P
open Go.RowKit Go.Proofs.YtoneejhafmneiaaDoorW.PrintWords Go.Proofs.YtoneejhafmneiaaDoorL
def turn3 (p : ByteArray) (s n : Int) : Bool := nameB p && ((decide (0 ≤ s) && decide (s ≤ 10000)) && (decide (1 ≤ n) && decide (n ≤ 10000)))
theorem turn3_bounds {p : ByteArray} {s n : Int} (h : turn3 p s n = true) : p.size ≤ 10 ∧ 0 ≤ s ∧ s ≤ 10000 ∧ 1 ≤ n ∧ n ≤ 10000 := by
  unfold turn3 nameB at h
  simp only [Bool.and_eq_true, decide_eq_true_iff] at h
  exact ⟨h.1.1.1.2, h.2.1.1, h.2.1.2, h.2.2.1, h.2.2.2⟩
theorem rd0_Turn (x : S26) : rd_T26 [x] 0 = x := rfl
theorem l23One_at0 (p : ByteArray) (s n : Int) {k : Nat} (hk : 20 ≤ k) : spec_l23One_e.f k [(⟨p, s, n⟩ : S26)] 0 = some (turn3 p s n) := by
  unfold spec_l23One_e.f turn3
  rw [rd0_Turn]
  dsimp only
  rw [l01Name_eq _ hk]; simp only [Option.bind_some, in_eq]
  cases nameB p with
  | false => rfl
  | true =>
    simp only [if_true, Bool.true_and]
    by_cases h : (decide (0 ≤ s) && decide (s ≤ 10000)) = true
    · rw [if_pos h, h]; simp
    · rw [if_neg h]; rw [Bool.not_eq_true] at h; rw [h]; rfl
theorem Turn_valid_eq (p : ByteArray) (s n : Int) {k : Nat} (hk : 20 ≤ k) : impl_Turn_valid.f k p s n = some (turn3 p s n) := by
  unfold impl_Turn_valid.f turn3
  rw [IsName_eq _ hk]; simp only [Option.bind_some, within_eq]
  cases nameB p with
  | false => rfl
  | true =>
    simp only [if_true, Bool.true_and]
    by_cases h : (decide (0 ≤ s) && decide (s ≤ 10000)) = true
    · rw [if_pos h, h]; simp
    · rw [if_neg h]; rw [Bool.not_eq_true] at h; rw [h]; rfl
def turnT (p : ByteArray) (s n : Int) : ByteArray := if turn3 p s n = true then (((p ++ (⟨#[32]⟩ : ByteArray)) ++ impl_Decimal.t s) ++ (⟨#[43]⟩ : ByteArray)) ++ impl_Decimal.t n else ⟨#[]⟩
theorem TurnText_impl (p : ByteArray) (s n : Int) {k : Nat} (hk : 20 ≤ k) : impl_TurnText.f k p s n = some (turnT p s n) := by
  unfold impl_TurnText.f turnT
  rw [Turn_valid_eq _ _ _ hk]; simp only [Option.bind_some]
  by_cases h : turn3 p s n = true
  · obtain ⟨h0, h1, h2, h3, h4⟩ := turn3_bounds h
    have d1 := Decimal_size (n := s) (by omega) (by omega)
    have d2 := Decimal_size (n := n) (by omega) (by omega)
    have e1 : (⟨#[32]⟩ : ByteArray).size = 1 := rfl
    have e2 : (⟨#[43]⟩ : ByteArray).size = 1 := rfl
    rw [if_pos h, if_pos h, if_pos (by omega), Decimal_eq (by omega) (by omega)]; simp only [Option.bind_some]
    rw [if_pos (by simp only [ByteArray.size_append]; omega), if_pos (by simp only [ByteArray.size_append]; omega), Decimal_eq (by omega) (by omega)]; simp only [Option.bind_some]
    rw [if_pos (by simp only [ByteArray.size_append]; omega)]
  · rw [if_neg h, if_neg h]
theorem turnT_data {p : List UInt8} {s n : Int} (h : turn3 (baL p) s n = true) : (turnT (baL p) s n).data.toList = p ++ 32 :: (Lib.itoa s ++ 43 :: Lib.itoa n) := by
  unfold turnT
  rw [if_pos h]
  simp only [ByteArray.data_append, Array.toList_append, baL_data, dec_list]
  simp
abbrev RT := ByteArray × Int × Int × Bool
def zeroT : RT := ((⟨#[]⟩ : ByteArray), 0, 0, false)
def okT (l p : List UInt8) (n m : Int) : Prop := l = p ++ 32 :: (Lib.itoa n ++ 43 :: Lib.itoa m) ∧ turn3 (baL p) n m = true ∧ numV (Lib.itoa n) = some n ∧ numV (Lib.itoa m) = some m
def twoT (x y : Option Int) (f : Int → Int → RT) : RT := match x, y with | some n, some m => f n m | _, _ => zeroT
theorem baL_size (l : List UInt8) : (baL l).size = l.length := by unfold baL; show l.toArray.size = _; simp
theorem spec_eval {s : ByteArray} (hs : s.size ≤ 1048576) {p a b : List UInt8} (hl : s.data.toList = p ++ 32 :: (a ++ 43 :: b)) (h1 : (32 : UInt8) ∉ p) (h2 : (32 : UInt8) ∉ a ++ 43 :: b) (h3 : (43 : UInt8) ∉ a) (h4 : (43 : UInt8) ∉ b) {k : Nat} (hk : 1048600 ≤ k) :
    spec_ReadTurn.f k s = some (twoT (numV a) (numV b) fun n m => if turn3 (baL p) n m = true then (baL p, n, m, true) else zeroT) := by
  have hz : s.size = p.length + 1 + (a.length + 1 + b.length) := by
    rw [Lib.size_eq, hl]; simp; omega
  have hq : (baL (a ++ 43 :: b)).size ≤ 1048576 := by rw [baL_size]; simp; omega
  have e1 : splitL 32 [] s.data.toList = [p, a ++ 43 :: b] := by
    rw [hl, splitL_at p [] _ h1, splitL_none _ [] h2]; rfl
  have e2 : splitL 43 [] (a ++ 43 :: b) = [a, b] := by
    rw [splitL_at a [] _ h3, splitL_none _ [] h4]; rfl
  unfold spec_ReadTurn.f
  have E1 : spec_l01Split.f k s 32 = some [baL p, baL (a ++ 43 :: b)] := by
    have := Split_eq s 32 hs (k := k) (by omega)
    rw [e1] at this; exact this
  have E2 : spec_l01Split.f k (baL (a ++ 43 :: b)) 43 = some [baL a, baL b] := by
    have := Split_eq (baL (a ++ 43 :: b)) 43 hq (k := k) (by omega)
    rw [baL_data, e2] at this; exact this
  have r0 : rdOf ByteArray.empty [baL p, baL (a ++ 43 :: b)] 0 = baL p := rfl
  have r1 : rdOf ByteArray.empty [baL p, baL (a ++ 43 :: b)] 1 = baL (a ++ 43 :: b) := rfl
  have r2 : rdOf ByteArray.empty [baL a, baL b] 0 = baL a := rfl
  have r3 : rdOf ByteArray.empty [baL a, baL b] 1 = baL b := rfl
  have l1 : (([baL p, baL (a ++ 43 :: b)].length : Nat) : Int) = 2 := rfl
  have l2 : (([baL a, baL b].length : Nat) : Int) = 2 := rfl
  rw [E1]; simp only [Option.bind_some]
  rw [l1, if_pos rfl, if_pos (by decide), r1, E2]; simp only [Option.bind_some]
  rw [l2, if_pos rfl, if_pos (by decide), r2, r3, Number_eq (baL a) (by rw [baL_size]; omega) (by omega), baL_data]; simp only [Option.bind_some]
  rw [if_pos (by decide), Number_eq (baL b) (by rw [baL_size]; omega) (by omega), baL_data]; simp only [Option.bind_some]
  rw [if_pos (by decide), r0]
  cases numV a with
  | none => rfl
  | some n =>
    cases numV b with
    | none => rfl
    | some m =>
      show (if true = true then (if true = true then ((spec_l23One_e.f k [(⟨baL p, n, m⟩ : S26)] 0).bind _) else _) else _) = _
      rw [if_pos rfl, if_pos rfl, l23One_at0 _ _ _ (by omega)]
      simp only [Option.bind_some]
      unfold twoT
      dsimp only
      cases turn3 (baL p) n m <;> rfl
theorem spec_none {s : ByteArray} (hs : s.size ≤ 1048576) (hn : ¬ ∃ p n m, okT s.data.toList p n m) {k : Nat} (hk : 1048600 ≤ k) : spec_ReadTurn.f k s = some zeroT := by
  by_cases h1 : (splitL 32 [] s.data.toList).length = 2
  · obtain ⟨p, q, hl, hp, hq, e⟩ := splitL_two h1
    by_cases h2 : (splitL 43 [] q).length = 2
    · obtain ⟨a, b, rfl, ha, hb, e2⟩ := splitL_two h2
      rw [spec_eval hs hl hp hq ha hb hk]
      congr 1
      unfold twoT
      cases hx : numV a with
      | none => rfl
      | some n =>
        cases hy : numV b with
        | none => rfl
        | some m =>
          dsimp only
          by_cases ht : turn3 (baL p) n m = true
          · exfalso
            have ea := (num_itoa hx).1
            have eb := (num_itoa hy).1
            exact hn ⟨p, n, m, by rw [ea, eb]; exact hl, ht, by rw [ea]; exact hx, by rw [eb]; exact hy⟩
          · rw [if_neg ht]
    · have hz : s.size = p.length + 1 + q.length := by rw [Lib.size_eq, hl]; simp; omega
      unfold spec_ReadTurn.f
      have E1 : spec_l01Split.f k s 32 = some [baL p, baL q] := by
        have := Split_eq s 32 hs (k := k) (by omega)
        rw [e] at this; exact this
      have E2 : spec_l01Split.f k (baL q) 43 = some ((splitL 43 [] q).map baL) := by
        have := Split_eq (baL q) 43 (by rw [baL_size]; omega) (k := k) (by rw [baL_size]; omega)
        rw [baL_data] at this; exact this
      have l1 : (([baL p, baL q].length : Nat) : Int) = 2 := rfl
      have r1 : rdOf ByteArray.empty [baL p, baL q] 1 = baL q := rfl
      rw [E1]; simp only [Option.bind_some]
      rw [l1, if_pos rfl, if_pos (by decide), r1, E2]; simp only [Option.bind_some]
      rw [if_neg (by rw [List.length_map]; omega)]; rfl
  · unfold spec_ReadTurn.f
    have E1 : spec_l01Split.f k s 32 = some ((splitL 32 [] s.data.toList).map baL) := Split_eq s 32 hs (k := k) (by omega)
    rw [E1]; simp only [Option.bind_some]
    rw [if_neg (by rw [List.length_map]; omega)]; rfl
theorem impl_eval {s : ByteArray} (hs : s.size ≤ 1048576) {p q a b : List UInt8} {x y : Bool} (h1 : Lib.cut s.data.toList [32] = (p, q, x)) (h2 : Lib.cut q [43] = (a, b, y)) (hq : q.length ≤ s.size) (ha : a.length ≤ s.size) (hb : b.length ≤ s.size) {k : Nat} (hk : 1048600 ≤ k) :
    impl_ReadTurn.f k s = some (twoT (numV a) (numV b) fun n m => if (turnT (baL p) n m).data.toList = s.data.toList then (baL p, n, m, true) else zeroT) := by
  unfold impl_ReadTurn.f
  rw [Cut_eq s 32 hs, h1]; simp only [Option.bind_some]
  rw [Cut_eq (baL q) 43 (by rw [baL_size]; omega), baL_data, h2]; simp only [Option.bind_some]
  rw [ReadDecimal_eq (baL a) (by rw [baL_size]; omega), ReadDecimal_eq (baL b) (by rw [baL_size]; omega), baL_data, baL_data]; simp only [Option.bind_some]
  cases numV a with
  | none => rfl
  | some n =>
    cases numV b with
    | none => rfl
    | some m =>
      show (if true = true then (if true = true then ((impl_TurnText.f k (baL p) n m).bind _) else _) else _) = _
      rw [if_pos rfl, if_pos rfl, TurnText_impl _ _ _ (by omega)]
      simp only [Option.bind_some, ByteArray.toList_eq]
      unfold twoT
      dsimp only
      by_cases h : (turnT (baL p) n m).data.toList = s.data.toList
      · rw [if_pos h, if_pos h]; rfl
      · rw [if_neg h, if_neg h]; rfl
theorem itoa_mem {n : Int} {b : UInt8} (h : b ∈ Lib.itoa n) : b = 45 ∨ digB b = true := by
  unfold Lib.itoa at h
  split at h
  · rcases List.mem_cons.1 h with rfl | h
    · exact Or.inl rfl
    · exact Or.inr (List.all_eq_true.1 (dec_spec n.natAbs n.natAbs (Nat.le_refl _)).2.1 b h)
  · exact Or.inr (List.all_eq_true.1 (dec_spec n.toNat n.toNat (Nat.le_refl _)).2.1 b h)
theorem itoa_no {n : Int} {b : UInt8} (h0 : b ≠ 45) (h1 : digB b = false) : b ∉ Lib.itoa n := fun h => by
  rcases itoa_mem h with rfl | h
  · exact h0 rfl
  · rw [h1] at h; cases h
theorem name_no {p : List UInt8} (h : nameB (baL p) = true) : (32 : UInt8) ∉ p := fun hm => by
  obtain ⟨i, hi, e⟩ := List.getElem_of_mem hm
  unfold nameB at h
  simp only [Bool.and_eq_true] at h
  have := List.all_eq_true.1 h.2 i (List.mem_range.2 (by rw [baL_size]; exact hi))
  have hd : (baL p).data.toList.drop i = 32 :: p.drop (i + 1) := by rw [baL_data, List.drop_eq_getElem_cons hi, e]
  rw [bt_drop hd] at this
  exact absurd this (by decide)
theorem spec_ok {s : ByteArray} (hs : s.size ≤ 1048576) {p : List UInt8} {n m : Int} (h : okT s.data.toList p n m) {k : Nat} (hk : 1048600 ≤ k) : spec_ReadTurn.f k s = some (baL p, n, m, true) := by
  obtain ⟨hl, ht, hn, hm⟩ := h
  have hp : (32 : UInt8) ∉ p := name_no (by unfold turn3 at ht; rw [Bool.and_eq_true] at ht; exact ht.1)
  have hq : (32 : UInt8) ∉ Lib.itoa n ++ 43 :: Lib.itoa m := fun h => by
    rcases List.mem_append.1 h with h | h
    · exact itoa_no (by decide) (by decide) h
    · rcases List.mem_cons.1 h with h | h
      · exact absurd h (by decide)
      · exact itoa_no (by decide) (by decide) h
  rw [spec_eval hs hl hp hq (itoa_no (by decide) (by decide)) (itoa_no (by decide) (by decide)) hk, hn, hm]
  show some (if turn3 (baL p) n m = true then _ else _) = _
  rw [if_pos ht]
theorem impl_ok {s : ByteArray} (hs : s.size ≤ 1048576) {p : List UInt8} {n m : Int} (h : okT s.data.toList p n m) {k : Nat} (hk : 1048600 ≤ k) : impl_ReadTurn.f k s = some (baL p, n, m, true) := by
  obtain ⟨hl, ht, hn, hm⟩ := h
  have hp : (32 : UInt8) ∉ p := name_no (by unfold turn3 at ht; rw [Bool.and_eq_true] at ht; exact ht.1)
  have hz : s.size = p.length + 1 + ((Lib.itoa n).length + 1 + (Lib.itoa m).length) := by
    rw [Lib.size_eq, hl]; simp; omega
  rw [impl_eval hs (p := p) (q := Lib.itoa n ++ 43 :: Lib.itoa m) (a := Lib.itoa n) (b := Lib.itoa m) (x := true) (y := true) (by rw [hl]; exact cut_at _ _ hp) (cut_at _ _ (itoa_no (by decide) (by decide))) (by simp; omega) (by omega) (by omega) hk, hn, hm]
  show some (if (turnT (baL p) n m).data.toList = s.data.toList then _ else _) = _
  rw [if_pos (by rw [turnT_data ht, hl])]
theorem cut_shape (l : List UInt8) (c : UInt8) : (∃ a b, Lib.cut l [c] = (a, b, true) ∧ l = a ++ c :: b) ∨ Lib.cut l [c] = (l, [], false) := by
  by_cases hm : c ∈ l
  · obtain ⟨a, b, rfl, ha⟩ := List.eq_append_cons_of_mem hm
    exact Or.inl ⟨a, b, cut_at a b ha, rfl⟩
  · exact Or.inr (cut_no l hm)
theorem impl_none {s : ByteArray} (hs : s.size ≤ 1048576) (hn : ¬ ∃ p n m, okT s.data.toList p n m) {k : Nat} (hk : 1048600 ≤ k) : impl_ReadTurn.f k s = some zeroT := by
  have fin : ∀ (p a b : List UInt8), (s.data.toList = [] → a = []) → (twoT (numV a) (numV b) fun n m => if (turnT (baL p) n m).data.toList = s.data.toList then (baL p, n, m, true) else zeroT) = zeroT := by
    intro p a b h0
    unfold twoT
    cases hx : numV a with
    | none => rfl
    | some n =>
      cases hy : numV b with
      | none => rfl
      | some m =>
        dsimp only
        by_cases he : (turnT (baL p) n m).data.toList = s.data.toList
        · exfalso
          by_cases ht : turn3 (baL p) n m = true
          · rw [turnT_data ht] at he
            exact hn ⟨p, n, m, he.symm, ht, by rw [(num_itoa hx).1]; exact hx, by rw [(num_itoa hy).1]; exact hy⟩
          · unfold turnT at he
            rw [if_neg ht] at he
            rw [h0 he.symm] at hx
            have e0 : numV [] = none := rfl
            rw [e0] at hx; cases hx
        · rw [if_neg he]
  rcases cut_shape s.data.toList 32 with ⟨p, q, e, hl⟩ | e
  · have hz : s.size = p.length + 1 + q.length := by rw [Lib.size_eq, hl]; simp; omega
    have h0 : ∀ a : List UInt8, s.data.toList = [] → a = [] := fun a h => by rw [h] at hl; simp at hl
    rcases cut_shape q 43 with ⟨a, b, e2, hq⟩ | e2
    · have hz2 : q.length = a.length + 1 + b.length := by rw [hq]; simp; omega
      rw [impl_eval hs e e2 (by omega) (by omega) (by omega) hk, fin p a b (h0 a)]
    · rw [impl_eval hs e e2 (by omega) (by omega) (by simp) hk, fin p q [] (h0 q)]
  · have e2 : Lib.cut [] [(43 : UInt8)] = ([], [], false) := cut_no [] (by simp)
    rw [impl_eval hs e e2 (by simp) (by simp) (by simp) hk, fin _ [] [] (fun _ => rfl)]
theorem eqT (p : ByteArray) (n m : Int) : laws_eqTurn.f p n m p n m = some true := by unfold laws_eqTurn.f; simp
end Go.Proofs.YtoneejhafmneiaaDoor.P
namespace Go.Proofs.YtoneejhafmneiaaDoor.Pure
open Go.RowKit Go.Proofs.YtoneejhafmneiaaDoorW.PrintWords Go.Proofs.YtoneejhafmneiaaDoorL Go.Proofs.YtoneejhafmneiaaDoor.P
theorem FnExactReadTurn : ∀ (x0 : ByteArray), x0.size ≤ maxLen → ∃ k : Nat, P.laws_FnExactReadTurn.f k x0 = some true := by
  intro s _
  refine ⟨2000000, ?_⟩
  unfold laws_FnExactReadTurn.f
  by_cases h : (s.size : Int) > 1048576
  · rw [if_pos h]
  rw [if_neg h]
  have hs : s.size ≤ 1048576 := by omega
  by_cases ho : ∃ p n m, okT s.data.toList p n m
  · obtain ⟨p, n, m, ho⟩ := ho
    rw [spec_ok hs ho (by omega), impl_ok hs ho (by omega)]
    simp only [Option.bind_some, eqT]; rfl
  · rw [spec_none hs ho (by omega), impl_none hs ho (by omega)]
    unfold zeroT
    simp only [Option.bind_some, eqT]; rfl
end Go.Proofs.YtoneejhafmneiaaDoor.Pure
