/- Part d of what FnExactForgottenTopics stands on: functions of the program as Lean functions with their walks, and plain lemmas. -/
import Derived.Test.YtkihbelhpnhceaaWWords
import Derived.Test.YtkihbelhpnhceaaBFnExactForgottenTopicsa
import Derived.Test.YtkihbelhpnhceaaBFnExactForgottenTopicsb
import Derived.Test.YtkihbelhpnhceaaBFnExactForgottenTopicsc
import Derived.Test.YtkihbelhpnhceaaK
namespace Go.Proofs.YtkihbelhpnhceaaL
open Go.RowKit Go.Proofs.YtkihbelhpnhceaaW.PrintWords

theorem wrap_id {x : Int} (h0 : -9223372036854775808 ≤ x) (h1 : x ≤ 9223372036854775807) : wrap64 x = x := by unfold wrap64; omega
theorem wrap_succ {i n : Nat} (h : i < n) (hn : n ≤ 4611686018427387904) : wrap64 ((i : Int) + 1) = ((i + 1 : Nat) : Int) := by
  rw [wrap_id (by omega) (by omega)]; omega
theorem lt_cast {i n : Nat} (h : i < n) : (i : Int) < (n : Int) := by omega
theorem nn_cast (i : Nat) : 0 ≤ (i : Int) := by omega
theorem nlt_cast (n : Nat) : ¬ ((n : Int) < (n : Int)) := by omega
theorem drop_cons {α : Type} {l : List α} {i : Nat} (h : i < l.length) : l.drop i = l[i] :: l.drop (i + 1) := List.drop_eq_getElem_cons h

/-- A loop over a list: at each element it answers, or it goes on behind it. G: what it answers from a rest on. -/
theorem list_loop {α σ ρ : Type} (L : Nat → σ → Int → Option ρ) (l : List α) (G : List α → σ → ρ) (Inv : Nat → σ → Prop) (B : Nat)
    (step : ∀ (k i : Nat) (hi : i < l.length) (s : σ), Inv i s → B ≤ k →
      L (k + 1) s (i : Int) = some (G (l[i] :: l.drop (i + 1)) s) ∨ ∃ s', Inv (i + 1) s' ∧ G (l[i] :: l.drop (i + 1)) s = G (l.drop (i + 1)) s' ∧ L (k + 1) s (i : Int) = L k s' ((i + 1 : Nat) : Int))
    (stop : ∀ (k : Nat) (s : σ), Inv l.length s → L (k + 1) s (l.length : Int) = some (G [] s)) :
    ∀ (k : Nat) (s : σ), B + l.length < k → Inv 0 s → L k s 0 = some (G l s) := by
  have main : ∀ (d k i : Nat) (s : σ), i + d = l.length → B + d < k → Inv i s → L k s (i : Int) = some (G (l.drop i) s) := by
    intro d
    induction d with
    | zero =>
      intro k i s hi hk hI
      obtain ⟨k, rfl⟩ : ∃ m, k = m + 1 := ⟨k - 1, by omega⟩
      have : i = l.length := by omega
      subst this
      rw [stop k s hI, List.drop_length]
    | succ d ih =>
      intro k i s hi hk hI
      obtain ⟨k, rfl⟩ : ∃ m, k = m + 1 := ⟨k - 1, by omega⟩
      have hlt : i < l.length := by omega
      rw [drop_cons hlt]
      rcases step k i hlt s hI (by omega) with h | ⟨s', hI', hG, hL⟩
      · exact h
      · rw [hL, hG]
        exact ih k (i + 1) s' (by omega) (by omega) hI'
  intro k s hk hI
  have := main l.length k 0 s (by omega) hk hI
  simpa using this

/-- A loop that fills a list that was made, place by place. -/
theorem set_loop {α β : Type} (L : Nat → List β → Int → Option (List β)) (l : List α) (g : α → β) (B : Nat)
    (step : ∀ (k i : Nat) (hi : i < l.length) (acc : List β), acc.length = l.length → B ≤ k → L (k + 1) acc (i : Int) = L k (acc.set i (g l[i])) ((i + 1 : Nat) : Int))
    (stop : ∀ (k : Nat) (acc : List β), L (k + 1) acc (l.length : Int) = some acc) :
    ∀ (k : Nat) (acc : List β), B + l.length < k → acc.length = l.length → L k acc 0 = some (l.map g) := by
  have main : ∀ (d k i : Nat) (acc : List β), i + d = l.length → B + d < k → acc.length = l.length → L k acc (i : Int) = some (acc.take i ++ (l.drop i).map g) := by
    intro d
    induction d with
    | zero =>
      intro k i acc hi hk ha
      obtain ⟨k, rfl⟩ : ∃ m, k = m + 1 := ⟨k - 1, by omega⟩
      have : i = l.length := by omega
      subst this
      rw [stop k acc, List.drop_length, List.take_of_length_le (by omega)]
      simp
    | succ d ih =>
      intro k i acc hi hk ha
      obtain ⟨k, rfl⟩ : ∃ m, k = m + 1 := ⟨k - 1, by omega⟩
      have hlt : i < l.length := by omega
      rw [step k i hlt acc ha (by omega), ih k (i + 1) _ (by omega) (by omega) (by simpa using ha), drop_cons hlt]
      have h2 : (acc.set i (g l[i])).take (i + 1) = acc.take i ++ [g l[i]] := by
        rw [List.take_succ_eq_append_getElem (by simp; omega)]
        have h3 : (acc.set i (g l[i])).take i = acc.take i := by
          apply List.ext_getElem
          · simp
          · intro j h1 h2
            simp at h1
            simp [List.getElem_set_ne (show i ≠ j by omega)]
        rw [h3]
        simp
      rw [h2]
      simp only [List.append_assoc, List.singleton_append, List.map_cons]
  intro k acc hk ha
  have := main l.length k 0 acc (by omega) hk ha
  simpa using this

/-- A loop that compares two lists of one length, place by place. -/
theorem eq_loop {α : Type} [DecidableEq α] (L : Nat → Int → Option Bool) (a b : List α) (hab : a.length = b.length) (B : Nat)
    (step : ∀ (k i : Nat) (h : i < a.length) (h2 : i < b.length), B ≤ k → L (k + 1) (i : Int) = if a[i] = b[i] then L k ((i + 1 : Nat) : Int) else some false)
    (stop : ∀ (k : Nat), L (k + 1) (a.length : Int) = some true) :
    ∀ (k : Nat), B + a.length < k → L k 0 = some (decide (a = b)) := by
  have main : ∀ (d k i : Nat), i + d = a.length → B + d < k → L k (i : Int) = some (decide (a.drop i = b.drop i)) := by
    intro d
    induction d with
    | zero =>
      intro k i hi hk
      obtain ⟨k, rfl⟩ : ∃ m, k = m + 1 := ⟨k - 1, by omega⟩
      obtain rfl : i = a.length := by omega
      rw [stop k, List.drop_length, hab, List.drop_length]
      rfl
    | succ d ih =>
      intro k i hi hk
      obtain ⟨k, rfl⟩ : ∃ m, k = m + 1 := ⟨k - 1, by omega⟩
      have h1 : i < a.length := by omega
      have h2 : i < b.length := by omega
      rw [step k i h1 h2 (by omega), ih k (i + 1) (by omega) (by omega)]
      rw [show (decide (a.drop i = b.drop i)) = decide (a[i] = b[i] ∧ a.drop (i + 1) = b.drop (i + 1)) from by
        congr 1; rw [drop_cons h1, drop_cons h2, List.cons.injEq]]
      by_cases e : a[i] = b[i]
      · rw [if_pos e]; simp [e]
      · rw [if_neg e]; simp [e]
  intro k hk
  have := main a.length k 0 (by omega) hk
  simpa using this

/-- A loop that asks each index below n and stops at the first that says no. -/
theorem all_loop (L : Nat → Int → Option Bool) (n : Nat) (p : Nat → Bool) (fin : Bool) (B : Nat)
    (step : ∀ (k i : Nat), i < n → B ≤ k → L (k + 1) (i : Int) = if p i = true then L k ((i + 1 : Nat) : Int) else some false)
    (stop : ∀ (k : Nat), B ≤ k → L (k + 1) (n : Int) = some fin) :
    ∀ (k : Nat), B + n < k → L k 0 = some ((List.range n).all p && fin) := by
  have main : ∀ (d k i : Nat), i + d = n → B + d < k → L k (i : Int) = some ((List.range' i d).all p && fin) := by
    intro d
    induction d with
    | zero =>
      intro k i hi hk
      obtain ⟨k, rfl⟩ : ∃ m, k = m + 1 := ⟨k - 1, by omega⟩
      obtain rfl : i = n := by omega
      rw [stop k (by omega)]; simp
    | succ d ih =>
      intro k i hi hk
      obtain ⟨k, rfl⟩ : ∃ m, k = m + 1 := ⟨k - 1, by omega⟩
      rw [step k i (by omega) (by omega), List.range'_succ, List.all_cons]
      by_cases h : p i = true
      · rw [if_pos h, ih k (i + 1) (by omega) (by omega), h]; simp
      · rw [if_neg h]; simp [h]
  intro k hk
  have := main n k 0 (by omega) hk
  rw [List.range_eq_range']
  exact this

theorem pred_cast {i n : Nat} (h0 : 0 < i) (h : i < n) (hn : n ≤ 4611686018427387904) : wrap64 ((i : Int) - 1) = ((i - 1 : Nat) : Int) := by
  rw [wrap_id (by omega) (by omega)]; omega

theorem rdOf_get {α : Type} {z : α} {l : List α} {i : Nat} (h : i < l.length) : rdOf z l (i : Int) = l[i] := by
  simp [rdOf, List.getD_eq_getElem?_getD, List.getElem?_eq_getElem h]

/-- A list marked with rising numbers from m on (each element takes c x of them), and the number behind. -/
def mkl {α : Type} (g : α → Int → α) (c : α → Int) : List α → Int → List α
  | [], _ => []
  | x :: r, m => g x m :: mkl g c r (m + c x)
def mtot {α : Type} (c : α → Int) : List α → Int → Int
  | [], m => m
  | x :: r, m => mtot c r (m + c x)
theorem mtot_ge {α : Type} {c : α → Int} (hc : ∀ x, 0 ≤ c x) : ∀ (l : List α) (m : Int), m ≤ mtot c l m
  | [], m => by simp [mtot]
  | x :: r, m => by
    have := mtot_ge hc r (m + c x)
    have := hc x
    simp only [mtot]; omega
theorem mtot_const {α : Type} (n : Int) : ∀ (l : List α) (m : Int), mtot (fun _ => n) l m = m + n * l.length
  | [], m => by simp [mtot]
  | x :: r, m => by
    simp only [mtot, mtot_const n r, List.length_cons]
    rw [show ((r.length + 1 : Nat) : Int) = (r.length : Int) + 1 from by omega, Int.mul_add]
    omega
theorem mark_loop {α : Type} (L : Nat → List α → Int → Int → Option (Int × List α)) (g : α → Int → α) (c : α → Int) (M : Int) (B : Nat) (hc : ∀ x, 0 ≤ c x)
    (step : ∀ (k : Nat) (pre : List α) (x : α) (rest : List α) (m : Int), B ≤ k → pre.length < 4611686018427387904 → 0 ≤ m → m + c x ≤ M →
      L (k + 1) (pre ++ x :: rest) m (pre.length : Int) = L k (pre ++ g x m :: rest) (m + c x) ((pre.length + 1 : Nat) : Int))
    (stop : ∀ (k : Nat) (l : List α) (m : Int), L (k + 1) l m (l.length : Int) = some (m, l)) :
    ∀ (k : Nat) (l : List α) (m : Int), B + l.length < k → l.length ≤ 4611686018427387904 → 0 ≤ m → mtot c l m ≤ M → L k l m 0 = some (mtot c l m, mkl g c l m) := by
  have main : ∀ (rest : List α) (k : Nat) (pre : List α) (m : Int), B + rest.length < k → pre.length + rest.length ≤ 4611686018427387904 → 0 ≤ m → mtot c rest m ≤ M →
      L k (pre ++ rest) m (pre.length : Int) = some (mtot c rest m, pre ++ mkl g c rest m) := by
    intro rest
    induction rest with
    | nil =>
      intro k pre m hk _ _ _
      obtain ⟨k, rfl⟩ : ∃ m, k = m + 1 := ⟨k - 1, by omega⟩
      have := stop k pre m
      simpa [mtot, mkl] using this
    | cons x r ih =>
      intro k pre m hk hl hm hM
      obtain ⟨k, rfl⟩ : ∃ m, k = m + 1 := ⟨k - 1, by omega⟩
      simp only [List.length_cons] at hk hl
      have h1 := mtot_ge hc r (m + c x)
      have h2 := hc x
      simp only [mtot] at hM
      rw [step k pre x r m (by omega) (by omega) hm (by omega)]
      have h3 := ih k (pre ++ [g x m]) (m + c x) (by omega) (by simp; omega) (by omega) hM
      simpa [mtot, mkl, List.append_assoc] using h3
  intro k l m hk hl hm hM
  have := main l k [] m hk (by simpa using hl) hm hM
  simpa using this
theorem held_loop {α : Type} (L : Nat → Int → Int → Option Int) (g : α → Int → α) (c : α → Int) (M : Int) (B : Nat) (hc : ∀ x, 0 ≤ c x) (l' : List α)
    (step : ∀ (k : Nat) (pre : List α) (x : α) (rest : List α) (m : Int), l' = pre ++ g x m :: rest → B ≤ k → pre.length < 4611686018427387904 → 0 ≤ m → m + c x ≤ M →
      L (k + 1) m (pre.length : Int) = L k (m + c x) ((pre.length + 1 : Nat) : Int))
    (stop : ∀ (k : Nat) (m : Int), L (k + 1) m (l'.length : Int) = some m) :
    ∀ (k : Nat) (l : List α) (m : Int), l' = mkl g c l m → B + l.length < k → l.length ≤ 4611686018427387904 → 0 ≤ m → mtot c l m ≤ M → L k m 0 = some (mtot c l m) := by
  have main : ∀ (rest : List α) (k : Nat) (pre : List α) (m : Int), l' = pre ++ mkl g c rest m → B + rest.length < k → pre.length + rest.length ≤ 4611686018427387904 → 0 ≤ m → mtot c rest m ≤ M →
      L k m (pre.length : Int) = some (mtot c rest m) := by
    intro rest
    induction rest with
    | nil =>
      intro k pre m he hk _ _ _
      obtain ⟨k, rfl⟩ : ∃ m, k = m + 1 := ⟨k - 1, by omega⟩
      have := stop k m
      have e : l'.length = pre.length := by rw [he]; simp [mkl]
      rw [e] at this
      simpa [mtot] using this
    | cons x r ih =>
      intro k pre m he hk hl hm hM
      obtain ⟨k, rfl⟩ : ∃ m, k = m + 1 := ⟨k - 1, by omega⟩
      simp only [List.length_cons] at hk hl
      have h1 := mtot_ge hc r (m + c x)
      have h2 := hc x
      simp only [mtot] at hM
      rw [step k pre x (mkl g c r (m + c x)) m (by simpa [mkl] using he) (by omega) (by omega) hm (by omega)]
      have h3 := ih k (pre ++ [g x m]) (m + c x) (by simpa [mkl, List.append_assoc] using he) (by omega) (by simp; omega) (by omega) hM
      simpa [mtot] using h3
  intro k l m he hk hl hm hM
  have := main l k [] m (by simpa using he) hk (by simpa using hl) hm hM
  simpa using this
theorem rdOf_mid {α : Type} {z : α} {pre rest : List α} {x : α} : rdOf z (pre ++ x :: rest) (pre.length : Int) = x := by simp [rdOf]
theorem set_mid {α : Type} {pre rest : List α} {x v : α} : (pre ++ x :: rest).set ((pre.length : Int)).toNat v = pre ++ v :: rest := by simp

theorem bytes_eq {a b : ByteArray} : a.toList = b.toList ↔ a = b := by
  constructor
  · intro h
    have h2 : a.data.toList = b.data.toList := by
      have e : ∀ x : ByteArray, x.toList = x.data.toList := ByteArray.toList_eq
      rw [← e, ← e]; exact h
    cases a; cases b
    simp at h2
    rw [h2]
  · intro h; rw [h]
end Go.Proofs.YtkihbelhpnhceaaL

namespace Go.Proofs.YtkihbelhpnhceaaL
open Go.RowKit Go.Proofs.YtkihbelhpnhceaaW.PrintWords
theorem list_loopW {α σ τ : Type} (L : Nat → σ → Int → τ) (l : List α) (G : List α → σ → τ) (Inv : Nat → σ → Prop) (B c : Nat)
    (step : ∀ (k i : Nat) (hi : i < l.length) (s : σ), Inv i s → B ≤ k →
      L (k + c) s (i : Int) = G (l[i] :: l.drop (i + 1)) s ∨ ∃ s' k', k ≤ k' ∧ Inv (i + 1) s' ∧ G (l[i] :: l.drop (i + 1)) s = G (l.drop (i + 1)) s' ∧ L (k + c) s (i : Int) = L k' s' ((i + 1 : Nat) : Int))
    (stop : ∀ (k : Nat) (s : σ), Inv l.length s → B ≤ k → L (k + c) s (l.length : Int) = G [] s) :
    ∀ (k : Nat) (s : σ), B + c * (l.length + 1) ≤ k → Inv 0 s → L k s 0 = G l s := by
  have main : ∀ (d k i : Nat) (s : σ), i + d = l.length → B + c * (d + 1) ≤ k → Inv i s → L k s (i : Int) = G (l.drop i) s := by
    intro d
    induction d with
    | zero =>
      intro k i s hi hk hI
      have h1 : c * (0 + 1) = c := by simp
      obtain ⟨k, rfl⟩ : ∃ m, k = m + c := ⟨k - c, by omega⟩
      have : i = l.length := by omega
      subst this
      rw [stop k s hI (by omega), List.drop_length]
    | succ d ih =>
      intro k i s hi hk hI
      have h1 : c * (d + 1 + 1) = c * (d + 1) + c := Nat.mul_succ _ _
      obtain ⟨k, rfl⟩ : ∃ m, k = m + c := ⟨k - c, by omega⟩
      have hlt : i < l.length := by omega
      rw [List.drop_eq_getElem_cons hlt]
      rcases step k i hlt s hI (by omega) with h | ⟨s', k', hk', hI', hG, h⟩
      · exact h
      · rw [h, hG]; exact ih k' (i + 1) s' (by omega) (by omega) hI'
  intro k s hk hI
  have := main l.length k 0 s (by omega) hk hI
  simpa using this
theorem list_loopV {α σ ρ : Type} (L : Nat → σ → Int → Option ρ) (l : List α) (G : List α → σ → ρ) (Inv : Nat → σ → Prop) (B c : Nat)
    (step : ∀ (k i : Nat) (hi : i < l.length) (s : σ), Inv i s → B ≤ k →
      L (k + c) s (i : Int) = some (G (l[i] :: l.drop (i + 1)) s) ∨ ∃ s' k', k ≤ k' ∧ Inv (i + 1) s' ∧ G (l[i] :: l.drop (i + 1)) s = G (l.drop (i + 1)) s' ∧ L (k + c) s (i : Int) = L k' s' ((i + 1 : Nat) : Int))
    (stop : ∀ (k : Nat) (s : σ), Inv l.length s → B ≤ k → L (k + c) s (l.length : Int) = some (G [] s)) :
    ∀ (k : Nat) (s : σ), B + c * (l.length + 1) ≤ k → Inv 0 s → L k s 0 = some (G l s) :=
  list_loopW L l (fun r s => some (G r s)) Inv B c (fun k i hi s hI hB => by
    rcases step k i hi s hI hB with h | ⟨s', k', h1, h2, h3, h4⟩
    · exact .inl h
    · exact .inr ⟨s', k', h1, h2, by rw [h3], h4⟩) stop
end Go.Proofs.YtkihbelhpnhceaaL

namespace Go.Proofs.Ytkihbelhpnhceaa.P
open Go.RowKit Go.Proofs.YtkihbelhpnhceaaW.PrintWords Go.Proofs.YtkihbelhpnhceaaL

def nameByte (c : Int) : Bool := (decide (97 ≤ c) && decide (c ≤ 122)) || (decide (48 ≤ c) && decide (c ≤ 57))
def nameB (s : ByteArray) : Bool := decide (1 ≤ s.size) && decide (s.size ≤ 10) && (decide (97 ≤ bt s 0) && decide (bt s 0 ≤ 122)) && (List.range s.size).all fun i => nameByte (bt s (i : Int))
theorem size_zero {s : ByteArray} : s.toList = ([] : List UInt8) ↔ s.size = 0 := by
  rw [ByteArray.toList_eq]
  constructor
  · intro h; have := congrArg List.length h; simpa using this
  · intro h
    apply List.eq_nil_of_length_eq_zero
    simpa using h
theorem l01Name_eq (s : ByteArray) {k : Nat} (hk : 20 ≤ k) : spec_l01Name.f k s = some (nameB s) := by
  obtain ⟨k, rfl⟩ : ∃ m, k = m + 1 := ⟨k - 1, by omega⟩
  unfold spec_l01Name.f nameB
  by_cases h0 : s.size = 0
  · rw [if_pos (size_zero.2 h0)]; simp [spec_l01Name.j0, h0]
  rw [if_neg (fun e => h0 (size_zero.1 e))]
  by_cases h1 : (s.size : Int) > 10
  · rw [if_pos h1]
    have : ¬ s.size ≤ 10 := by omega
    simp [spec_l01Name.j0, this]
  rw [if_neg h1, if_pos (by omega)]
  unfold spec_l01Small.f
  have h1' : s.size ≤ 10 := by omega
  have h0' : 1 ≤ s.size := by omega
  by_cases h2 : bt s 0 ≥ 97
  · rw [if_pos h2]; simp only [Option.bind_some, spec_l01Name.j0]
    by_cases h3 : bt s 0 ≤ 122
    · rw [if_neg (by simp [h3])]
      rw [all_loop (fun k i => spec_l01Name.l0 k s i) s.size (fun i => nameByte (bt s (i : Int))) true 1 (fun k i hi hB => ?_) (fun k _ => ?_) k (by omega)]
      · simp [h1', h0', h3, ge_iff_le.1 h2]
      · obtain ⟨k, rfl⟩ : ∃ m, k = m + 1 := ⟨k - 1, by omega⟩
        show spec_l01Name.l0 (k + 1 + 1) s (i : Int) = _
        rw [spec_l01Name.l0]
        rw [if_pos (by omega), if_pos (nn_cast i), wrap_succ hi (by omega)]
        unfold spec_l01Small.f spec_l01Digit.f nameByte
        by_cases e1 : bt s (i : Int) ≥ 97
        · rw [if_pos e1]
          by_cases e2 : bt s (i : Int) ≤ 122
          · simp [e2, ge_iff_le.1 e1]
          · have e3 : bt s (i : Int) ≥ 48 := by omega
            have e4 : ¬ bt s (i : Int) ≤ 57 := by omega
            simp [e2, e4, ge_iff_le.1 e3]
        · rw [if_neg e1]
          have e1' : ¬ 97 ≤ bt s (i : Int) := e1
          by_cases e2 : bt s (i : Int) ≥ 48
          · rw [if_pos e2]
            by_cases e3 : bt s (i : Int) ≤ 57
            · simp [e3, ge_iff_le.1 e2]
            · simp [e3, e1']
          · rw [if_neg e2]
            have e2' : ¬ 48 ≤ bt s (i : Int) := e2
            simp [e1', e2']
      · show spec_l01Name.l0 (_ + 1) s (s.size : Int) = _
        rw [spec_l01Name.l0, if_neg (nlt_cast _)]
    · rw [if_pos (by simp [h3])]; simp [h3]
  · rw [if_neg h2]; simp only [Option.bind_some, spec_l01Name.j0]
    have h2' : ¬ 97 ≤ bt s 0 := h2
    rw [if_pos (by rfl)]; simp [h2']

theorem IsName_eq (s : ByteArray) {k : Nat} (hk : 20 ≤ k) : impl_IsName.f k s = some (nameB s) := by
  unfold impl_IsName.f nameB
  by_cases h0 : (s.size : Int) < 1
  · rw [if_pos h0]
    have : ¬ 1 ≤ s.size := by omega
    simp [this]
  rw [if_neg h0]
  by_cases h1 : (s.size : Int) > 10
  · rw [if_pos h1]
    have : ¬ s.size ≤ 10 := by omega
    simp [this]
  rw [if_neg h1, if_pos (by omega)]
  have h1' : s.size ≤ 10 := by omega
  have h0' : 1 ≤ s.size := by omega
  by_cases h2 : bt s 0 < 97
  · rw [if_pos h2]
    have h2' : ¬ 97 ≤ bt s 0 := by omega
    simp [h2']
  rw [if_neg h2]
  by_cases h3 : bt s 0 > 122
  · rw [if_pos h3]
    have h3' : ¬ bt s 0 ≤ 122 := by omega
    simp [h3']
  rw [if_neg h3]
  have h2' : 97 ≤ bt s 0 := by omega
  have h3' : bt s 0 ≤ 122 := by omega
  unfold impl_onlyNameBytes.f
  rw [all_loop (fun k i => impl_onlyNameBytes.l0 k s (s.size : Int) i) s.size (fun i => nameByte (bt s (i : Int))) true 0 (fun k i hi hB => ?_) (fun k _ => ?_) k (by omega)]
  · simp [h1', h0', h3', h2']
  · show impl_onlyNameBytes.l0 (k + 1) s (s.size : Int) (i : Int) = _
    rw [impl_onlyNameBytes.l0]
    rw [if_pos (lt_cast hi), if_pos (nn_cast i), if_pos (lt_cast hi), wrap_succ hi (by omega)]
    unfold nameByte
    repeat' split
    all_goals first | rfl | (exfalso; simp_all; done) | (exfalso; simp_all; omega)
  · show impl_onlyNameBytes.l0 (k + 1) s (s.size : Int) (s.size : Int) = _
    rw [impl_onlyNameBytes.l0, if_neg (nlt_cast _)]

theorem in_eq (a b c : Int) : spec_l00In.f a b c = some (decide (b ≤ a) && decide (a ≤ c)) := by
  unfold spec_l00In.f
  by_cases h : a ≥ b
  · rw [if_pos h]; simp [ge_iff_le.1 h]
  · rw [if_neg h]
    have h' : ¬ b ≤ a := h
    simp [h']
theorem within_eq (a b c : Int) : impl_within.f a b c = some (decide (b ≤ a) && decide (a ≤ c)) := by
  unfold impl_within.f
  by_cases h : a ≥ b
  · rw [if_pos h]; simp [ge_iff_le.1 h]
  · rw [if_neg h]
    have h' : ¬ b ≤ a := h
    simp [h']
end Go.Proofs.Ytkihbelhpnhceaa.P

namespace Go.Proofs.Ytkihbelhpnhceaa.P
open Go.RowKit Go.Proofs.YtkihbelhpnhceaaW.PrintWords Go.Proofs.YtkihbelhpnhceaaL
def cmpI (a b : Int) : Int := if a < b then -1 else if a > b then 1 else 0
def cmpS (a b : ByteArray) : Int := if Op.bytesLess a.toList b.toList = true then -1 else if Op.bytesLess b.toList a.toList = true then 1 else 0
theorem Compare_int64_eq (a b : Int) : cmp_Compare_int64.f a b = some (cmpI a b) := by
  unfold cmp_Compare_int64.f cmp_isNaN_int64.f cmpI
  simp only [bne_self_eq_false, Option.bind_some]
  simp only [Bool.false_eq_true, if_false]
  split
  · rfl
  · split <;> rfl
theorem Compare_string_eq (a b : ByteArray) : cmp_Compare_string.f a b = some (cmpS a b) := by
  unfold cmp_Compare_string.f cmp_isNaN_string.f cmpS
  simp only [bne_self_eq_false, Option.bind_some]
  simp only [Bool.false_eq_true, if_false]
  split
  · rfl
  · split <;> rfl
theorem Or3_eq (x y z : Int) {k : Nat} (hk : 10 ≤ k) : cmp_Or_int.f k [x, y, z] = some (if x = 0 then if y = 0 then z else y else x) := by
  obtain ⟨k, rfl⟩ : ∃ m, k = m + 4 := ⟨k - 4, by omega⟩
  have w0 : wrap64 (0 + 1) = 1 := by unfold wrap64; omega
  have w1 : wrap64 (1 + 1) = 2 := by unfold wrap64; omega
  have w2 : wrap64 (2 + 1) = 3 := by unfold wrap64; omega
  unfold cmp_Or_int.f
  simp only [cmp_Or_int.l0, w0, w1, w2, rd]
  by_cases h0 : x = 0
  · by_cases h1 : y = 0
    · by_cases h2 : z = 0
      · simp [h0, h1, h2]
      · simp [h0, h1, h2]
    · simp [h0, h1]
  · simp [h0]
theorem less_irrefl (a : List UInt8) : Op.bytesLess a a = false := by
  induction a with
  | nil => rfl
  | cons x r ih => simp [Op.bytesLess, ih]
theorem less_total {a b : List UInt8} (h : Op.bytesLess a b = false) (hne : a ≠ b) : Op.bytesLess b a = true := by
  have := bytesLess_total a b
  rw [h, beq_eq_false_iff_ne.2 hne] at this
  simpa using this.symm
end Go.Proofs.Ytkihbelhpnhceaa.P

namespace Go.Proofs.Ytkihbelhpnhceaa.P
open Go.RowKit Go.Proofs.YtkihbelhpnhceaaW.PrintWords Go.Proofs.YtkihbelhpnhceaaL
set_option linter.unusedVariables false
set_option linter.unusedSimpArgs false

theorem eqStringS_eq {a b : List ByteArray} (hl : a.length ≤ 1048576) {k : Nat} (hk : 1048600 ≤ k) : laws_eqStringS.f k a b = some (decide (a = b)) := by
  unfold laws_eqStringS.f
  by_cases h : a.length = b.length
  · rw [if_pos (by omega)]
    refine eq_loop (fun k i => laws_eqStringS.l0 k a b i) a b h 0 (fun k i h1 h2 _ => ?_) (fun k => ?_) k (by omega)
    · simp only [laws_eqStringS.l0]
      rw [if_pos (lt_cast h1), if_pos (nn_cast i), if_pos (lt_cast h2), rdOf_get h1, rdOf_get h2, wrap_succ h1 (by omega)]
      by_cases e0 : a[i].toList = b[i].toList
      · rw [if_pos e0, if_pos (bytes_eq.1 e0)]
      · rw [if_neg e0, if_neg (fun e => e0 (bytes_eq.2 e))]
    · simp only [laws_eqStringS.l0]
      rw [if_neg (nlt_cast _)]
  · rw [if_neg (by omega)]
    have : a ≠ b := fun e => h (by rw [e])
    simp [this]
def cLesson (x : S44) : S48 := ⟨x.f0, x.f1, x.f2, x.f3, x.f4⟩
def smLesson (x : S44) : Prop := x.f1.size ≤ 1048576 ∧ x.f2.size ≤ 1048576
theorem rd_lLesson {l : List S44} {i : Nat} (h : i < l.length) : rd_T44 l (i : Int) = l[i] := by
  simp [rd_T44, List.getD_eq_getElem?_getD, List.getElem?_eq_getElem h]
theorem rd_iLesson {l : List S48} {i : Nat} (h : i < l.length) : rd_T48 l (i : Int) = l[i] := by
  simp [rd_T48, List.getD_eq_getElem?_getD, List.getElem?_eq_getElem h]
theorem ext_iLesson {a b : S48} : a = b ↔ a.f0 = b.f0 ∧ a.f1.toList = b.f1.toList ∧ a.f2.toList = b.f2.toList ∧ a.f3 = b.f3 ∧ a.f4 = b.f4 := by
  simp only [bytes_eq]; cases a; cases b; simp
instance : DecidableEq S48 := fun _ _ => decidable_of_iff _ ext_iLesson.symm
theorem szLesson_some {x : S44} (hg : Go.Proofs.Ytkihbelhpnhceaa.g44 x) {a : Int} (ha0 : 0 ≤ a) (ha : a ≤ 1048576) : ∃ r, laws_szLesson.f x.f0 x.f1 x.f2 x.f3 x.f4 a = some r ∧ (r < 0 ∨ (0 ≤ r ∧ r ≤ a ∧ smLesson x)) := by
  unfold laws_szLesson.f smLesson
  have hs1 : x.f1.size ≤ 9223372036854775807 := by have := hg.2.1; simpa only [maxLen] using this
  rw [wrap_id (x := a - (x.f1.size : Int)) (by omega) (by omega)]
  by_cases h1 : a - (x.f1.size : Int) < 0
  · rw [if_pos h1]; exact ⟨-1, rfl, .inl (by omega)⟩
  rw [if_neg h1]
  have hs2 : x.f2.size ≤ 9223372036854775807 := by have := hg.2.2.1; simpa only [maxLen] using this
  rw [wrap_id (x := (a - (x.f1.size : Int)) - (x.f2.size : Int)) (by omega) (by omega)]
  by_cases h2 : (a - (x.f1.size : Int)) - (x.f2.size : Int) < 0
  · rw [if_pos h2]; exact ⟨-1, rfl, .inl (by omega)⟩
  rw [if_neg h2]
  exact ⟨_, rfl, .inr ⟨by omega, by omega, by omega, by omega⟩⟩
theorem szLessonS_some {l : List S44} (hl : l.length ≤ maxLen) (hg : ∀ y ∈ l, Go.Proofs.Ytkihbelhpnhceaa.g44 y) {a : Int} (ha0 : 0 ≤ a) (ha : a ≤ 1048576) {k : Nat} (hk : 1048600 ≤ k) : ∃ r, laws_szLessonS.f k l a = some r ∧ (r < 0 ∨ (0 ≤ r ∧ r ≤ a ∧ l.length ≤ 1048576 ∧ ∀ y ∈ l, smLesson y)) := by
  have hl' : l.length ≤ 9223372036854775807 := by simpa only [maxLen] using hl
  unfold laws_szLessonS.f
  rw [wrap_id (by omega) (by omega)]
  by_cases h0 : a - (l.length : Int) < 0
  · rw [if_pos h0]; exact ⟨-1, rfl, .inl (by omega)⟩
  · rw [if_neg h0]
    have main : ∀ (d k i : Nat) (s : Int), i + d = l.length → 0 + d < k → 0 ≤ s → s ≤ a - l.length → ∃ r, laws_szLessonS.l0 k l s (i : Int) = some r ∧ (r < 0 ∨ (0 ≤ r ∧ r ≤ s ∧ ∀ y ∈ l.drop i, smLesson y)) := by
      intro d
      induction d with
      | zero =>
        intro k i s hi hk h0 h1
        obtain ⟨k, rfl⟩ : ∃ m, k = m + 1 := ⟨k - 1, by omega⟩
        obtain rfl : i = l.length := by omega
        simp only [laws_szLessonS.l0]
        rw [if_neg (nlt_cast _)]
        exact ⟨s, rfl, .inr ⟨h0, by omega, by simp⟩⟩
      | succ d ih =>
        intro k i s hi hk h0 h1
        obtain ⟨k, rfl⟩ : ∃ m, k = m + 1 := ⟨k - 1, by omega⟩
        have hlt : i < l.length := by omega
        simp only [laws_szLessonS.l0]
        rw [if_pos (lt_cast hlt), if_pos (nn_cast i), rd_lLesson hlt, wrap_succ hlt (by omega)]
        obtain ⟨r1, hr1, e1⟩ := szLesson_some (hg l[i] (List.getElem_mem hlt)) (a := s) (by omega) (by omega)
        rw [hr1]; simp only [Option.bind_some]
        by_cases h2 : r1 < 0
        · rw [if_pos h2]
          exact ⟨-1, rfl, .inl (by omega)⟩
        · rw [if_neg h2]
          have e1' := e1.resolve_left h2
          obtain ⟨r, hr, h3⟩ := ih k (i + 1) r1 (by omega) (by omega) (by omega) (by omega)
          refine ⟨r, hr, h3.imp id fun h3 => ⟨h3.1, by omega, ?_⟩⟩
          rw [drop_cons hlt]
          intro y hy
          rcases List.mem_cons.1 hy with rfl | hy
          · exact e1'.2.2
          · exact h3.2.2 y hy
    obtain ⟨r, hr, h⟩ := main l.length k 0 (a - l.length) (by omega) (by omega) (by omega) (by omega)
    refine ⟨r, hr, h.imp id fun h => ⟨h.1, by omega, by omega, ?_⟩⟩
    simpa using h.2.2
theorem toLesson_eq {x : S44} (hs : smLesson x) : laws_toLesson.f x.f0 x.f1 x.f2 x.f3 x.f4 = some ((cLesson x).f0, (cLesson x).f1, (cLesson x).f2, (cLesson x).f3, (cLesson x).f4) := by
  unfold smLesson at hs
  unfold laws_toLesson.f
  rfl
theorem toLessonS_eq {l : List S44} (hl : l.length ≤ 1048576) (hs : ∀ y ∈ l, smLesson y) {k : Nat} (hk : 1048600 ≤ k) : laws_toLessonS.f k l = some (l.map cLesson) := by
  unfold laws_toLessonS.f
  rw [if_pos (nn_cast _), if_pos (by simp; omega)]
  refine set_loop (fun k acc i => laws_toLessonS.l0 k l acc i) l cLesson 0 (fun k i hi acc ha hB => ?_) (fun k acc => ?_) k _ (by omega) (by simp)
  · simp only [laws_toLessonS.l0]
    rw [if_pos (lt_cast hi), if_pos (nn_cast i), rd_lLesson hi, wrap_succ hi (by omega), toLesson_eq (hs _ (List.getElem_mem hi))]
    simp only [Option.bind_some]
    rw [if_pos (by omega)]
    rfl
  · simp only [laws_toLessonS.l0]
    rw [if_neg (nlt_cast _)]
def smiLesson (x : S48) : Prop := True
theorem eqLesson_eq {a b : S48} (hs : smiLesson a) : laws_eqLesson.f a.f0 a.f1 a.f2 a.f3 a.f4 b.f0 b.f1 b.f2 b.f3 b.f4 = some (decide (a = b)) := by
  unfold smiLesson at hs
  unfold laws_eqLesson.f
  by_cases e0 : a.f0 = b.f0
  rotate_left
  · rw [if_neg e0]; have hne : ¬ a = b := fun e => e0 (ext_iLesson.1 e).1; simp [hne]
  rw [if_pos e0]
  by_cases e1 : a.f1.toList = b.f1.toList
  rotate_left
  · rw [if_neg e1]; have hne : ¬ a = b := fun e => e1 (ext_iLesson.1 e).2.1; simp [hne]
  rw [if_pos e1]
  by_cases e2 : a.f2.toList = b.f2.toList
  rotate_left
  · rw [if_neg e2]; have hne : ¬ a = b := fun e => e2 (ext_iLesson.1 e).2.2.1; simp [hne]
  rw [if_pos e2]
  by_cases e3 : a.f3 = b.f3
  rotate_left
  · rw [if_neg e3]; have hne : ¬ a = b := fun e => e3 (ext_iLesson.1 e).2.2.2.1; simp [hne]
  rw [if_pos e3]
  by_cases e4 : a.f4 = b.f4
  rotate_left
  · rw [if_neg e4]; have hne : ¬ a = b := fun e => e4 (ext_iLesson.1 e).2.2.2.2; simp [hne]
  rw [if_pos e4]
  rw [decide_eq_true (ext_iLesson.2 ⟨e0, e1, e2, e3, e4⟩)]
theorem eqLessonS_eq {a b : List S48} (hl : a.length ≤ 1048576) (hs : ∀ y ∈ a, smiLesson y) {k : Nat} (hk : 1048600 ≤ k) : laws_eqLessonS.f k a b = some (decide (a = b)) := by
  unfold laws_eqLessonS.f
  by_cases h : a.length = b.length
  · rw [if_pos (by omega)]
    refine eq_loop (fun k i => laws_eqLessonS.l0 k a b i) a b h 0 (fun k i h1 h2 hB => ?_) (fun k => ?_) k (by omega)
    · simp only [laws_eqLessonS.l0]
      rw [if_pos (lt_cast h1), if_pos (nn_cast i), if_pos (lt_cast h2), rd_iLesson h1, rd_iLesson h2, wrap_succ h1 (by omega), eqLesson_eq (hs _ (List.getElem_mem h1))]
      simp only [Option.bind_some, decide_eq_true_eq]
    · simp only [laws_eqLessonS.l0]
      rw [if_neg (nlt_cast _)]
  · rw [if_neg (by omega)]
    have : a ≠ b := fun e => h (by rw [e])
    simp [this]
def mt (n : Int) : ByteArray := (laws_markText.f 100 n).getD ⟨#[]⟩
theorem strOf_one (x : Int) : (strOfNums [x]).size = 1 := rfl
theorem markText_some : ∀ (d k : Nat) (n : Int) (s : ByteArray), 0 ≤ n → n ≤ 9223372036854775807 → n < 10 ^ d → s.size + d ≤ 1000 → d < k → ∃ r, laws_markText.l0 k n s = some r := by
  intro d
  induction d with
  | zero =>
    intro k n s h0 hb h1 hs hk
    obtain ⟨k, rfl⟩ : ∃ m, k = m + 1 := ⟨k - 1, by omega⟩
    have : n = 0 := by simp at h1; omega
    subst this
    simp only [laws_markText.l0]
    rw [if_neg (by omega), if_pos (by omega)]
    exact ⟨_, rfl⟩
  | succ d ih =>
    intro k n s h0 hb h1 hs hk
    obtain ⟨k, rfl⟩ : ∃ m, k = m + 1 := ⟨k - 1, by omega⟩
    simp only [laws_markText.l0]
    by_cases h : n > 0
    · rw [if_pos h]
      simp only [Option.bind_some]
      rw [if_pos (by rw [strOf_one]; omega)]
      have e : wrap64 (n.tdiv 10) = n / 10 := by
        rw [Int.tdiv_eq_ediv_of_nonneg h0, wrap_id (by omega) (by omega)]
      rw [e]
      refine ih k _ _ (by omega) (by omega) ?_ ?_ (by omega)
      · have : (10 : Int) ^ (d + 1) = 10 ^ d * 10 := by rw [Int.pow_succ]
        rw [this] at h1
        exact Int.ediv_lt_of_lt_mul (by omega) h1
      · rw [ByteArray.size_append, strOf_one]; omega
    · rw [if_neg h, if_pos (by omega)]
      exact ⟨_, rfl⟩
theorem markText_eq {n : Int} (h0 : 0 ≤ n) (h : n ≤ 1073741824) {k : Nat} (hk : 100 ≤ k) : laws_markText.f k n = some (mt n) := by
  have hs : ∃ r, laws_markText.f 100 n = some r := by
    unfold laws_markText.f
    by_cases h1 : n ≤ 0
    · rw [if_pos h1]; exact ⟨_, rfl⟩
    · rw [if_neg h1]
      exact markText_some 12 100 n _ h0 (by omega) (by omega) (by decide) (by omega)
  obtain ⟨r, hr⟩ := hs
  have := at_rounds (fun k => laws_markText.mono n k) hk hr
  rw [this]
  unfold mt
  rw [hr]; rfl
def mkStringS (l : List ByteArray) (m : Int) : List ByteArray := mkl (fun _ m => mt m) (fun _ => 1) l m
theorem markStringS_eq {l : List ByteArray} {m : Int} (hm : 0 ≤ m) (hb : m + l.length ≤ 1073741824) {k : Nat} (hk : 200 + l.length ≤ k) : laws_markStringS.f k l m = some (m + l.length, mkStringS l m) := by
  unfold laws_markStringS.f mkStringS
  have h := mark_loop (fun k l m i => laws_markStringS.l0 k l m i) (fun _ m => mt m) (fun _ => 1) 1073741824 100 (fun _ => by omega) (fun k pre x rest m hB hp hm hM => ?_) (fun k l m => ?_) k l m (by omega) (by omega) hm (by rw [mtot_const]; omega)
  · rw [mtot_const] at h
    rw [show m + (l.length : Int) = m + 1 * l.length from by omega]
    exact h
  · simp only [laws_markStringS.l0]
    rw [if_pos (by simp; omega), markText_eq hm (by omega) hB]
    simp only [Option.bind_some]
    rw [if_pos (nn_cast _), set_mid, wrap_id (x := m + 1) (by omega) (by omega), wrap_succ (i := pre.length) (n := pre.length + 1) (by omega) (by omega)]
  · simp only [laws_markStringS.l0]
    rw [if_neg (nlt_cast _)]
theorem heldStringS_mk {l : List ByteArray} {m0 : Int} (hm : 0 ≤ m0) (hb : m0 + l.length ≤ 1073741824) {k : Nat} (hk : 200 + l.length ≤ k) : laws_heldStringS.f k (mkStringS l m0) m0 = some (m0 + l.length) := by
  unfold laws_heldStringS.f
  have h := held_loop (fun k m i => laws_heldStringS.l0 k (mkStringS l m0) m i) (fun _ m => mt m) (fun _ => 1) 1073741824 100 (fun _ => by omega) (mkStringS l m0) (fun k pre x rest m he hB hp hm hM => ?_) (fun k m => ?_) k l m0 rfl (by omega) (by omega) hm (by rw [mtot_const]; omega)
  · rw [mtot_const] at h
    rw [show m0 + (l.length : Int) = m0 + 1 * l.length from by omega]
    exact h
  · simp only [laws_heldStringS.l0]
    rw [if_pos (by rw [he]; simp; omega), if_pos (nn_cast _), markText_eq hm (by omega) hB]
    simp only [Option.bind_some]
    rw [he, rdOf_mid, if_pos rfl, wrap_id (x := m + 1) (by omega) (by omega), wrap_succ (i := pre.length) (n := pre.length + 1) (by omega) (by omega)]
  · simp only [laws_heldStringS.l0]
    rw [if_neg (nlt_cast _)]
theorem rdm_iLesson {pre rest : List S48} {x : S48} : rd_T48 (pre ++ x :: rest) (pre.length : Int) = x := by simp [rd_T48]
def mkLessonS (l : List S48) (m : Int) : List S48 := mkl (fun (_ : S48) m => (⟨m, mt (m + 1), mt (m + 1 + 1), m + 1 + 1 + 1, m + 1 + 1 + 1 + 1⟩ : S48)) (fun _ => 5) l m
theorem markLessonS_eq {l : List S48} {m : Int} (hm : 0 ≤ m) (hb : m + 5 * l.length ≤ 1073741824) {k : Nat} (hk : 200 + l.length ≤ k) : laws_markLessonS.f k l m = some (m + 5 * l.length, mkLessonS l m) := by
  unfold laws_markLessonS.f mkLessonS
  have h := mark_loop (fun k l m i => laws_markLessonS.l0 k l m i) (fun (_ : S48) m => (⟨m, mt (m + 1), mt (m + 1 + 1), m + 1 + 1 + 1, m + 1 + 1 + 1 + 1⟩ : S48)) (fun _ => 5) 1073741824 100 (fun _ => by omega) (fun k pre x rest m hB hp hm hM => ?_) (fun k l m => ?_) k l m (by omega) (by omega) hm (by rw [mtot_const]; omega)
  · rw [mtot_const] at h
    exact h
  · simp only [laws_markLessonS.l0]
    have w1 : wrap64 (m + 1) = m + 1 := wrap_id (by omega) (by omega)
    have w2 : wrap64 ((m + 1) + 1) = m + 1 + 1 := wrap_id (by omega) (by omega)
    have w3 : wrap64 ((m + 1 + 1) + 1) = m + 1 + 1 + 1 := wrap_id (by omega) (by omega)
    have w4 : wrap64 ((m + 1 + 1 + 1) + 1) = m + 1 + 1 + 1 + 1 := wrap_id (by omega) (by omega)
    have w5 : wrap64 ((m + 1 + 1 + 1 + 1) + 1) = m + 1 + 1 + 1 + 1 + 1 := wrap_id (by omega) (by omega)
    have t1 := fun k (hB : 100 ≤ k) => markText_eq (n := m + 1) (by omega) (by omega) hB
    have t2 := fun k (hB : 100 ≤ k) => markText_eq (n := m + 1 + 1) (by omega) (by omega) hB
    rw [if_pos (by simp; omega)]
    simp only [Option.bind_some, w1, w2, w3, w4, w5, t1 _ hB, t2 _ hB]
    (try rw [if_pos (nn_cast _)])
    simp only [Option.bind_some, rdm_iLesson, set_mid, w1, w2, w3, w4, w5, t1 _ hB, t2 _ hB]
    (try rw [if_pos (nn_cast _)])
    (try simp only [Option.bind_some, rdm_iLesson, set_mid, w1, w2, w3, w4, w5])
    rw [wrap_succ (i := pre.length) (n := pre.length + 1) (by omega) (by omega), show m + (5 : Int) = m + 1 + 1 + 1 + 1 + 1 from by omega]
  · simp only [laws_markLessonS.l0]
    rw [if_neg (nlt_cast _)]
end Go.Proofs.Ytkihbelhpnhceaa.P

namespace Go.Proofs.Ytkihbelhpnhceaa.P
open Go.RowKit Go.Proofs.YtkihbelhpnhceaaW.PrintWords Go.Proofs.YtkihbelhpnhceaaL
def lesB (x : S48) : Bool := (decide (0 ≤ x.f0) && decide (x.f0 ≤ 100000)) && (nameB x.f1 && (nameB x.f2 && ((decide (1 ≤ x.f3) && decide (x.f3 ≤ 480)) && (decide (0 ≤ x.f4) && decide (x.f4 ≤ 100)))))
def lesLess (a b : S48) : Bool := if a.f0 = b.f0 then (if a.f1.toList = b.f1.toList then Op.bytesLess a.f2.toList b.f2.toList else Op.bytesLess a.f1.toList b.f1.toList) else decide (a.f0 < b.f0)
def lesAt (l : List S48) (i : Nat) : Bool := lesB (rd_T48 l (i : Int)) && (decide (i = 0) || lesLess (rd_T48 l ((i - 1 : Nat) : Int)) (rd_T48 l (i : Int)))
def pupils (l : List S48) : List ByteArray := puts (l.map (·.f1)) []
def lessonsB (l : List S48) : Bool := (List.range l.length).all (lesAt l) && (decide (l.length ≤ 64) && decide ((pupils l).length ≤ 12))
def cmpL (a b : S48) : Int := if cmpI a.f0 b.f0 = 0 then (if cmpS a.f1 b.f1 = 0 then cmpS a.f2 b.f2 else cmpS a.f1 b.f1) else cmpI a.f0 b.f0

theorem l28One_e_eq (l : List S48) (i : Int) {k : Nat} (hk : 20 ≤ k) : spec_l28One_e.f k l i = some (lesB (rd_T48 l i)) := by
  unfold spec_l28One_e.f lesB
  rw [l01Name_eq _ hk, l01Name_eq _ hk]; simp only [Option.bind_some, in_eq]
  cases (decide (0 ≤ (rd_T48 l i).f0) && decide ((rd_T48 l i).f0 ≤ 100000)) <;> cases nameB (rd_T48 l i).f1 <;> cases nameB (rd_T48 l i).f2 <;> cases (decide (1 ≤ (rd_T48 l i).f3) && decide ((rd_T48 l i).f3 ≤ 480)) <;> simp
theorem l28Before_e_eq (l : List S48) (i j : Int) : spec_l28Before_e.f l i l j = some (lesLess (rd_T48 l i) (rd_T48 l j)) := by
  unfold spec_l28Before_e.f lesLess
  split
  · split <;> rfl
  · rfl
theorem Lesson_valid_eq (x : S48) {k : Nat} (hk : 20 ≤ k) : impl_Lesson_valid.f k x.f0 x.f1 x.f2 x.f3 x.f4 = some (lesB x) := by
  unfold impl_Lesson_valid.f lesB
  rw [IsName_eq _ hk, IsName_eq _ hk]; simp only [Option.bind_some, within_eq]
  cases (decide (0 ≤ x.f0) && decide (x.f0 ≤ 100000)) <;> cases nameB x.f1 <;> cases nameB x.f2 <;> cases (decide (1 ≤ x.f3) && decide (x.f3 ≤ 480)) <;> simp
theorem compareLessons_eq (a b : S48) {k : Nat} (hk : 10 ≤ k) : impl_compareLessons.f k a.f0 a.f1 a.f2 a.f3 a.f4 b.f0 b.f1 b.f2 b.f3 b.f4 = some (cmpL a b) := by
  unfold impl_compareLessons.f cmpL
  rw [Compare_int64_eq, Compare_string_eq, Compare_string_eq]
  simp only [Option.bind_some]
  rw [Or3_eq _ _ _ hk]; rfl
theorem cmpI_zero {a b : Int} : cmpI a b = 0 ↔ a = b := by
  unfold cmpI; constructor
  · intro h; split at h
    · omega
    · split at h <;> omega
  · intro h; rw [if_neg (by omega), if_neg (by omega)]
theorem cmpS_zero {a b : ByteArray} : cmpS a b = 0 ↔ a.toList = b.toList := by
  unfold cmpS; constructor
  · intro h
    by_cases h1 : Op.bytesLess a.toList b.toList = true
    · rw [if_pos h1] at h; omega
    · rw [if_neg h1] at h
      by_cases h2 : Op.bytesLess b.toList a.toList = true
      · rw [if_pos h2] at h; omega
      · by_cases e : a.toList = b.toList
        · exact e
        · exact absurd (less_total (by simpa using h1) e) h2
  · intro h; rw [h, less_irrefl]; rfl
theorem cmpS_neg (a b : ByteArray) : cmpS a b ≥ 0 ↔ Op.bytesLess a.toList b.toList = false := by
  unfold cmpS
  by_cases h3 : Op.bytesLess a.toList b.toList = true
  · rw [if_pos h3]; simp [h3]
  · rw [if_neg h3]; simp [h3]; split <;> omega
theorem cmpL_neg (a b : S48) : cmpL a b ≥ 0 ↔ lesLess a b = false := by
  unfold cmpL lesLess
  by_cases h1 : a.f0 = b.f0
  · rw [if_pos (cmpI_zero.2 h1), if_pos h1]
    by_cases h2 : a.f1.toList = b.f1.toList
    · rw [if_pos (cmpS_zero.2 h2), if_pos h2]; exact cmpS_neg _ _
    · rw [if_neg (fun e => h2 (cmpS_zero.1 e)), if_neg h2]; exact cmpS_neg _ _
  · rw [if_neg (fun e => h1 (cmpI_zero.1 e)), if_neg h1]
    unfold cmpI
    by_cases h3 : a.f0 < b.f0
    · rw [if_pos h3]; simp [h3]
    · rw [if_neg h3, if_pos (by omega)]; simp [h3]

theorem rds_get {l : List ByteArray} {i : Nat} (h : i < l.length) : rdOf ByteArray.empty l (i : Int) = l[i] := rdOf_get h
theorem l28Put_eq {l : List ByteArray} (hl : l.length ≤ 1048576) (x : ByteArray) {k : Nat} (hk : 2 * l.length + 10 ≤ k) : spec_l28Put.f k l x = some (putG x l false) := by
  unfold spec_l28Put.f
  have main := list_loopV (fun k (s : List ByteArray × Bool) i => spec_l28Put.l0 k l x s.1 s.2 i) l (fun r s => s.1 ++ putG x r s.2) (fun i s => s.1.length ≤ 2 * i) 0 2
    (fun k i hi s hI _ => ?_) (fun k s hI _ => ?_) k ([], false) (by omega) (by simp)
  · simpa using main
  · obtain ⟨out, done⟩ := s
    right
    have hb : out.length ≤ 2 * i := hI
    simp only [spec_l28Put.l0]
    rw [if_pos (lt_cast hi), if_pos (nn_cast i), rds_get hi]
    have hw := wrap_succ hi (by omega)
    cases done with
    | true =>
      rw [if_pos rfl]
      simp only [spec_l28Put.j1]
      rw [if_neg (by decide), if_pos (nn_cast i), if_pos (lt_cast hi), rds_get hi, hw]
      by_cases e : l[i].toList = x.toList
      · rw [if_pos e]
        exact ⟨(out, true), k, Nat.le_refl _, (by show out.length ≤ _; omega), by simp only [putG]; simp [e], rfl⟩
      · rw [if_neg e, if_pos (by omega)]
        exact ⟨(out ++ [l[i]], true), k, Nat.le_refl _, (by show (out ++ [l[i]]).length ≤ _; simp; omega), by simp only [putG]; simp [e], rfl⟩
    | false =>
      rw [if_neg (by decide)]
      simp only [spec_l28Put.j1]
      by_cases h : Op.bytesLess l[i].toList x.toList = true
      · have hlt : ltB l[i] x = true := h
        rw [h, if_neg (by decide), if_pos (nn_cast i), if_pos (lt_cast hi), rds_get hi, hw]
        have e : ¬ l[i].toList = x.toList := fun e => by rw [e, less_irrefl] at h; exact absurd h (by decide)
        rw [if_neg e, if_pos (by omega)]
        exact ⟨(out ++ [l[i]], false), k, Nat.le_refl _, (by show (out ++ [l[i]]).length ≤ _; simp; omega), by simp only [putG]; simp [e, hlt], rfl⟩
      · rw [Bool.not_eq_true] at h
        have hlt : ltB l[i] x = false := h
        rw [h, if_pos (by decide), if_pos (by omega), Option.bind_some, if_pos (nn_cast i), if_pos (lt_cast hi), rds_get hi, hw]
        by_cases e : l[i].toList = x.toList
        · rw [if_pos e]
          exact ⟨(out ++ [x], true), k, Nat.le_refl _, (by show (out ++ [x]).length ≤ _; simp; omega), by simp only [putG]; simp [e, hlt], rfl⟩
        · rw [if_neg e, if_pos (by simp; omega)]
          exact ⟨(out ++ [x] ++ [l[i]], true), k, Nat.le_refl _, (by show (out ++ [x] ++ [l[i]]).length ≤ _; simp; omega), by simp only [putG]; simp [e, hlt], rfl⟩
  · obtain ⟨out, done⟩ := s
    have hb : out.length ≤ 2 * l.length := hI
    simp only [spec_l28Put.l0]
    rw [if_neg (nlt_cast _)]
    cases done with
    | true => rw [if_pos rfl]; simp [putG]
    | false => rw [if_neg (by decide), if_pos (by omega)]; simp [putG]
theorem l28Pupils_eq {l : List S48} (hl : l.length ≤ 64) {k : Nat} (hk : 300 ≤ k) : spec_l28Pupils.f k l = some (pupils l) := by
  unfold spec_l28Pupils.f pupils
  refine list_loop (fun k s i => spec_l28Pupils.l0 k l s i) l (fun r s => puts (r.map (·.f1)) s) (fun i s => s.length ≤ i) 200 (fun k i hi s hI hB => ?_) (fun k s hI => ?_) k [] (by omega) (by simp)
  · right
    simp only [spec_l28Pupils.l0]
    rw [if_pos (lt_cast hi), if_pos (nn_cast i), rd_iLesson hi, l28Put_eq (by omega) _ (by omega), wrap_succ hi (by omega)]
    refine ⟨putG l[i].f1 s false, ?_, rfl, rfl⟩
    have := putG_length l[i].f1 s false
    omega
  · simp only [spec_l28Pupils.l0]
    rw [if_neg (nlt_cast _)]; rfl
theorem Sort_eq {l : List ByteArray} (hl : l.length ≤ 1048576) : slices_Sort_S_string.f l = some (sortS l) := by
  unfold slices_Sort_S_string.f; rw [if_pos (by omega)]
theorem pupilsOf_eq {l : List S48} (hl : l.length ≤ 1048576) {k : Nat} (hk : l.length + 10 ≤ k) : impl_pupilsOf.f k l = some (pupils l) := by
  unfold impl_pupilsOf.f pupils
  rw [← compactSort_eq]
  refine (list_loop (fun k s i => impl_pupilsOf.l0 k s l (l.length : Int) i) l (fun r s => compactS (sortS (s ++ r.map (·.f1)))) (fun i s => s.length = i) 0 (fun k i hi s hI hB => ?_) (fun k s hI => ?_) k [] (by omega) (by simp)).trans ?_
  · right
    simp only [impl_pupilsOf.l0]
    rw [if_pos (lt_cast hi), if_pos (nn_cast i), if_pos (lt_cast hi), if_pos (by omega), rd_iLesson hi, wrap_succ hi (by omega)]
    exact ⟨s ++ [l[i].f1], by simp [hI], by rw [List.map_cons, List.append_assoc]; rfl, rfl⟩
  · simp only [impl_pupilsOf.l0]
    rw [if_neg (nlt_cast _), Sort_eq (by omega)]
    simp [slices_Compact_S_string.f]
  · simp
theorem l28Ok_eq {l : List S48} (hl : l.length ≤ 1048576) {k : Nat} (hk : 1049000 ≤ k) : spec_l28Ok.f k l = some (lessonsB l) := by
  unfold spec_l28Ok.f lessonsB
  refine all_loop (fun k i => spec_l28Ok.l0 k l i) l.length (lesAt l) _ 310 (fun k i hi hB => ?_) (fun k hB => ?_) k (by omega)
  · simp only [spec_l28Ok.l0]
    rw [if_pos (lt_cast hi), if_pos (nn_cast i), l28One_e_eq _ _ (by omega), wrap_succ hi (by omega)]
    simp only [Option.bind_some, lesAt]
    by_cases h : lesB (rd_T48 l (i : Int)) = true
    · rw [if_pos h]
      by_cases h0 : i = 0
      · rw [if_neg (by omega)]; simp only [h, decide_eq_true h0, Bool.true_or, Bool.and_self, if_true]
      · rw [if_pos (by omega), pred_cast (by omega) hi (by omega), if_pos (nn_cast _), if_pos (by omega), l28Before_e_eq]
        simp [h, h0]
    · rw [if_neg h]; simp [h]
  · simp only [spec_l28Ok.l0]
    rw [if_neg (nlt_cast _)]
    by_cases h : l.length ≤ 64
    · rw [if_pos (by omega), l28Pupils_eq h (by omega), decide_eq_true h]
      simp only [Option.bind_some, Bool.true_and]
      congr 2
      exact propext (by omega)
    · rw [if_neg (by omega), decide_eq_false h]; simp
theorem ValidLessons_eq {l : List S48} {k : Nat} (hk : 400 ≤ k) : impl_ValidLessons.f k l = some (lessonsB l) := by
  obtain ⟨k, rfl⟩ : ∃ m, k = m + 1 := ⟨k - 1, by omega⟩
  unfold impl_ValidLessons.f lessonsB
  by_cases h64 : (l.length : Int) > 64
  · rw [if_pos h64]
    have : ¬ l.length ≤ 64 := by omega
    simp [this, impl_ValidLessons.j0]
  rw [if_neg h64]
  have h64' : l.length ≤ 64 := by omega
  rw [decide_eq_true h64', pupilsOf_eq (by omega) (by omega)]
  simp only [Option.bind_some, impl_ValidLessons.j0, Bool.true_and]
  by_cases h12 : (pupils l).length ≤ 12
  · rw [if_neg (by simp; omega), decide_eq_true h12]
    refine all_loop (fun k i => impl_ValidLessons.l0 k l l (l.length : Int) i) l.length (lesAt l) true 20 (fun k i hi hB => ?_) (fun k _ => ?_) k (by omega)
    · simp only [impl_ValidLessons.l0]
      rw [if_pos (lt_cast hi), if_pos (nn_cast i), if_pos (lt_cast hi), Lesson_valid_eq _ hB, wrap_succ hi (by omega)]
      simp only [Option.bind_some, lesAt]
      by_cases h : lesB (rd_T48 l (i : Int)) = true
      · rw [if_pos h]
        by_cases h0 : i = 0
        · rw [if_neg (by omega)]; simp only [h, decide_eq_true h0, Bool.true_or, Bool.and_self, if_true]
        · rw [if_pos (by omega), pred_cast (by omega) hi (by omega), if_pos (nn_cast _), if_pos (by omega), compareLessons_eq _ _ (by omega)]
          simp only [Option.bind_some, cmpL_neg, h, decide_eq_false h0, Bool.false_or, Bool.true_and]
          by_cases h3 : lesLess (rd_T48 l ((i - 1 : Nat) : Int)) (rd_T48 l (i : Int)) = true
          · rw [if_neg (by simp [h3]), if_pos h3]
          · rw [if_pos (by simpa using h3), if_neg h3]
      · rw [if_neg h]; simp [h]
    · simp only [impl_ValidLessons.l0]
      rw [if_neg (nlt_cast _)]
  · rw [if_pos (by simp; omega), decide_eq_false h12]; simp
theorem smi_lessons (l : List S48) : ∀ y ∈ l, smiLesson y := fun _ _ => trivial
end Go.Proofs.Ytkihbelhpnhceaa.P

namespace Go.Proofs.Ytkihbelhpnhceaa.P
open Go.RowKit Go.Proofs.YtkihbelhpnhceaaW.PrintWords Go.Proofs.YtkihbelhpnhceaaL
def ofB (l : List S48) (p : ByteArray) : List S48 := l.filter fun x => decide (x.f1.toList = p.toList)
theorem ofB_length (l : List S48) (p : ByteArray) : (ofB l p).length ≤ l.length := List.length_filter_le _ _
theorem lessons_len {l : List S48} (h : lessonsB l = true) : l.length ≤ 64 := by
  unfold lessonsB at h
  simp only [Bool.and_eq_true, decide_eq_true_iff] at h
  exact h.2.1
theorem l28Of_eq {l : List S48} (hl : l.length ≤ 1048576) (p : ByteArray) {k : Nat} (hk : l.length + 10 ≤ k) : spec_l28Of.f k l p = some (ofB l p) := by
  unfold spec_l28Of.f ofB
  refine (list_loop (fun k s i => spec_l28Of.l0 k l p s i) l (fun r s => s ++ r.filter fun x => decide (x.f1.toList = p.toList)) (fun i s => s.length ≤ i) 0 (fun k i hi s hI hB => ?_) (fun k s hI => ?_) k [] (by omega) (by simp)).trans (by simp)
  · right
    simp only [spec_l28Of.l0]
    rw [if_pos (lt_cast hi), if_pos (nn_cast i), rd_iLesson hi, wrap_succ hi (by omega), List.filter_cons]
    by_cases h : l[i].f1.toList = p.toList
    · rw [if_pos (decide_eq_true h), if_pos h, if_pos (by omega)]
      exact ⟨s ++ [l[i]], by simp; omega, by rw [List.append_assoc]; rfl, rfl⟩
    · rw [if_neg (c := decide _ = true) (by simpa using h), if_neg h]
      exact ⟨s, by omega, rfl, rfl⟩
  · simp only [spec_l28Of.l0]
    rw [if_neg (nlt_cast _)]; simp
theorem lessonsOf_eq (l : List S48) (p : ByteArray) {k : Nat} (hk : 400 ≤ k) : impl_lessonsOf.f k l p = some (if lessonsB l = true then (if (ofB l p).length = 0 then ([], 3) else (ofB l p, 0)) else ([], 1)) := by
  unfold impl_lessonsOf.f
  rw [ValidLessons_eq hk]; simp only [Option.bind_some]
  by_cases hv : lessonsB l = true
  · rw [if_pos hv, if_pos hv]
    have hl := lessons_len hv
    refine (list_loop (fun k s i => impl_lessonsOf.l0 k p s l (l.length : Int) i) l (fun r s => if (s ++ ofB r p).length = 0 then ([], 3) else (s ++ ofB r p, 0)) (fun i s => s.length ≤ i) 0 (fun k i hi s hI hB => ?_) (fun k s hI => ?_) k [] (by omega) (by simp)).trans (by simp)
    · right
      simp only [impl_lessonsOf.l0]
      rw [if_pos (lt_cast hi), if_pos (nn_cast i), if_pos (lt_cast hi), rd_iLesson hi, wrap_succ hi (by omega)]
      by_cases h : l[i].f1.toList = p.toList
      · rw [if_pos h, if_pos (show s.length < 2513169434916 by omega)]
        have e : s ++ ofB (l[i] :: l.drop (i + 1)) p = (s ++ [l[i]]) ++ ofB (l.drop (i + 1)) p := by
          unfold ofB; rw [List.filter_cons, if_pos (decide_eq_true h), List.append_assoc]; rfl
        exact ⟨s ++ [l[i]], by simp; omega, by rw [e], rfl⟩
      · rw [if_neg h]
        have e : ofB (l[i] :: l.drop (i + 1)) p = ofB (l.drop (i + 1)) p := by
          unfold ofB; rw [List.filter_cons, if_neg (by simpa using h)]
        exact ⟨s, by omega, by rw [e], rfl⟩
    · simp only [impl_lessonsOf.l0]
      rw [if_neg (nlt_cast _)]
      have e : ofB ([] : List S48) p = [] := rfl
      rw [e, List.append_nil]
      by_cases h : s.length = 0
      · rw [if_pos (by omega), if_pos h]
      · rw [if_neg (by omega), if_neg h]
  · rw [if_neg hv, if_neg hv]
def askB (l : List S48) (p : ByteArray) : Int := if lessonsB l = true then (if (ofB l p).length = 0 then 3 else 0) else 1
theorem l28Ask_eq {l : List S48} (hl : l.length ≤ 1048576) (p : ByteArray) {k : Nat} (hk : 1049000 ≤ k) : spec_l28Ask.f k l p = some (askB l p) := by
  unfold spec_l28Ask.f askB
  rw [l28Ok_eq hl hk]; simp only [Option.bind_some]
  by_cases hv : lessonsB l = true
  · rw [if_pos hv, if_pos hv, l28Of_eq hl p (by omega)]; simp only [Option.bind_some]
    by_cases h : (ofB l p).length = 0
    · rw [if_pos (by omega), if_pos h]
    · rw [if_neg (by omega), if_neg h]
  · rw [if_neg hv, if_neg hv]
end Go.Proofs.Ytkihbelhpnhceaa.P

namespace Go.Proofs.Ytkihbelhpnhceaa.P
open Go.RowKit Go.Proofs.YtkihbelhpnhceaaW.PrintWords Go.Proofs.YtkihbelhpnhceaaW.PrintMore Go.Proofs.YtkihbelhpnhceaaL
def topics (l : List S48) : List ByteArray := puts (l.map (·.f2)) []
theorem l28Topics_eq {l : List S48} (hl : l.length ≤ 64) {k : Nat} (hk : 300 ≤ k) : spec_l28Topics.f k l = some (topics l) := by
  unfold spec_l28Topics.f topics
  refine list_loop (fun k s i => spec_l28Topics.l0 k l s i) l (fun r s => puts (r.map (·.f2)) s) (fun i s => s.length ≤ i) 200 (fun k i hi s hI hB => ?_) (fun k s hI => ?_) k [] (by omega) (by simp)
  · right
    simp only [spec_l28Topics.l0]
    rw [if_pos (lt_cast hi), if_pos (nn_cast i), rd_iLesson hi, l28Put_eq (by omega) _ (by omega), wrap_succ hi (by omega)]
    refine ⟨putG l[i].f2 s false, ?_, rfl, rfl⟩
    have := putG_length l[i].f2 s false
    omega
  · simp only [spec_l28Topics.l0]
    rw [if_neg (nlt_cast _)]; rfl
theorem topicsOf_eq {l : List S48} (hl : l.length ≤ 1048576) {k : Nat} (hk : l.length + 10 ≤ k) : impl_topicsOf.f k l = some (topics l) := by
  unfold impl_topicsOf.f topics
  rw [← compactSort_eq]
  refine (list_loop (fun k s i => impl_topicsOf.l0 k s l (l.length : Int) i) l (fun r s => compactS (sortS (s ++ r.map (·.f2)))) (fun i s => s.length = i) 0 (fun k i hi s hI hB => ?_) (fun k s hI => ?_) k [] (by omega) (by simp)).trans ?_
  · right
    simp only [impl_topicsOf.l0]
    rw [if_pos (lt_cast hi), if_pos (nn_cast i), if_pos (lt_cast hi), if_pos (by omega), rd_iLesson hi, wrap_succ hi (by omega)]
    exact ⟨s ++ [l[i].f2], by simp [hI], by rw [List.map_cons, List.append_assoc]; rfl, rfl⟩
  · simp only [impl_topicsOf.l0]
    rw [if_neg (nlt_cast _), Sort_eq (by omega)]
    simp [slices_Compact_S_string.f]
  · simp
end Go.Proofs.Ytkihbelhpnhceaa.P

namespace Go.Proofs.Ytkihbelhpnhceaa.P
open Go.RowKit Go.Proofs.YtkihbelhpnhceaaW.PrintWords Go.Proofs.YtkihbelhpnhceaaL
theorem Ev.le {α : Type} {g : Nat → Option α} {r : α} (K : Nat) (h : ∀ k, K ≤ k → g k = some r) : Ev g r := ⟨K, h⟩
theorem Ev.pos {α : Type} {c : Prop} [Decidable c] {f g : Nat → Option α} {r : α} (h : c) (k : Ev f r) : Ev (fun n => if c then f n else g n) r := Ev.congr (fun _ => if_pos h) k
theorem Ev.neg {α : Type} {c : Prop} [Decidable c] {f g : Nat → Option α} {r : α} (h : ¬ c) (k : Ev g r) : Ev (fun n => if c then f n else g n) r := Ev.congr (fun _ => if_neg h) k
end Go.Proofs.Ytkihbelhpnhceaa.P

namespace Go.Proofs.Ytkihbelhpnhceaa.P
open Go.RowKit Go.Proofs.YtkihbelhpnhceaaW.PrintWords Go.Proofs.YtkihbelhpnhceaaW.PrintMore Go.Proofs.YtkihbelhpnhceaaL
theorem forgot_in {own : List S48} {ts out : List ByteArray} (ho : own.length ≤ 1048576) (hts : ts.length ≤ 1048576) (day after : Int) {i : Nat} (hi : i < ts.length) (hout : out.length ≤ 1048576) {r : List ByteArray × Int} :
    ∀ (d j : Nat) (rc : Bool), j + d = own.length →
      Ev (fun k => spec_ForgottenTopics.l0 k day after own ts (if (rc || (own.drop j).any (impl_ForgottenTopics.p ts[i] day after)) = true then out else out ++ [ts[i]]) ((i + 1 : Nat) : Int)) r →
      Ev (fun k => spec_ForgottenTopics.l1 k day after own ts out (i : Int) rc (j : Int)) r := by
  have WI := Aside0.mk (show wrap64 ((i : Int) + 1) = ((i + 1 : Nat) : Int) from wrap_succ hi (by omega))
  have hti : rdOf ByteArray.empty ts (i : Int) = ts[i] := rdOf_get hi
  intro d
  induction d with
  | zero =>
    intro j rc hj h
    obtain rfl : j = own.length := by omega
    rw [List.drop_length, List.any_nil, Bool.or_false] at h
    cases rc with
    | true =>
      rw [if_pos rfl] at h
      refine Ev.step (fun k => ?_) h
      simp only [spec_ForgottenTopics.l1]
      rw [if_neg (nlt_cast _), if_pos trivial, WI.out]
    | false =>
      rw [if_neg (by simp)] at h
      refine Ev.step (fun k => ?_) h
      simp only [spec_ForgottenTopics.l1]
      rw [if_neg (nlt_cast _), if_neg (by simp), if_pos (nn_cast i), if_pos (lt_cast hi), if_pos (by omega), hti, WI.out]
  | succ d ih =>
    intro j rc hj h
    have hlt : j < own.length := by omega
    have WJ := Aside0.mk (show wrap64 ((j : Int) + 1) = ((j + 1 : Nat) : Int) from wrap_succ hlt (by omega))
    rw [List.drop_eq_getElem_cons hlt, List.any_cons] at h
    cases rc with
    | true =>
      refine Ev.step (fun k => ?_) (ih (j + 1) true (by omega) (by simpa using h))
      simp only [spec_ForgottenTopics.l1]
      rw [if_pos (lt_cast hlt), if_pos trivial, WJ.out]
    | false =>
      refine Ev.step (fun k => ?_) (ih (j + 1) (impl_ForgottenTopics.p ts[i] day after own[j]) (by omega) (by simpa using h))
      simp only [spec_ForgottenTopics.l1]
      rw [if_pos (lt_cast hlt), if_neg (by simp), if_pos (nn_cast j), if_pos (nn_cast i), if_pos (lt_cast hi), rd_iLesson hlt, hti, WJ.out]
      unfold impl_ForgottenTopics.p
      by_cases e1 : own[j].f2.toList = ts[i].toList
      · rw [if_pos e1, decide_eq_true e1, Bool.true_and]
        by_cases e2 : own[j].f0 ≤ day
        · rw [if_pos e2, decide_eq_true e2, Bool.true_and]
        · rw [if_neg e2, decide_eq_false e2, Bool.false_and]
      · rw [if_neg e1, decide_eq_false e1, Bool.false_and]
theorem forgot_out {own : List S48} {ts : List ByteArray} (ho : own.length ≤ 1048576) (hts : ts.length ≤ 1048576) (day after : Int) : ∀ (d i : Nat) (out : List ByteArray), i + d = ts.length → out.length ≤ i →
    Ev (fun k => spec_ForgottenTopics.l0 k day after own ts out (i : Int)) (out ++ (ts.drop i).filter (fun x => !impl_ForgottenTopics.recent own day after x), 0) := by
  intro d
  induction d with
  | zero =>
    intro i out hi _
    obtain rfl : i = ts.length := by omega
    refine Ev.step (f := fun _ => some (out, 0)) (fun k => ?_) ?_
    · simp only [spec_ForgottenTopics.l0]
      rw [if_neg (nlt_cast _)]
    · rw [List.drop_length, List.filter_nil, List.append_nil]; exact Ev.now _
  | succ d ih =>
    intro i out hi hout
    have hlt : i < ts.length := by omega
    refine Ev.step (f := fun k => spec_ForgottenTopics.l1 k day after own ts out (i : Int) false ((0 : Nat) : Int)) (fun k => ?_) (forgot_in ho hts day after hlt (by omega) own.length 0 false (by omega) ?_)
    · simp only [spec_ForgottenTopics.l0]
      rw [if_pos (lt_cast hlt)]; rfl
    · rw [List.drop_zero, Bool.false_or, List.drop_eq_getElem_cons hlt]
      cases hr : own.any (impl_ForgottenTopics.p ts[i] day after) with
      | true =>
        have hq : impl_ForgottenTopics.recent own day after ts[i] = true := hr
        rw [List.filter_cons_of_neg (by rw [hq]; simp), if_pos rfl]
        exact ih (i + 1) out (by omega) (by omega)
      | false =>
        have hq : impl_ForgottenTopics.recent own day after ts[i] = false := hr
        rw [List.filter_cons_of_pos (by rw [hq]; rfl), if_neg (by simp)]
        have := ih (i + 1) (out ++ [ts[i]]) (by omega) (by simp; omega)
        rw [List.append_assoc] at this
        exact this
theorem core_ForgottenTopics {l : List S48} (hl : l.length ≤ 1048576) (p : ByteArray) (day after : Int) : ∃ v : List ByteArray × Int, v.1.length ≤ 1048576 ∧ Ev (fun k => spec_ForgottenTopics.f k l p day after) v ∧ Ev (fun k => impl_ForgottenTopics.f k l p day after) v := by
  have eA : Ev (fun k => spec_l28Ask.f k l p) (askB l p) := Ev.le 1049000 (fun k hk => l28Ask_eq hl p hk)
  have eL := fun (r : List S48 × Int) (h : (if lessonsB l = true then (if (ofB l p).length = 0 then ([], 3) else (ofB l p, 0)) else ([], 1)) = r) => (show Ev (fun k => impl_lessonsOf.f k l p) r from Ev.le 400 (fun k hk => by rw [lessonsOf_eq l p hk, h]))
  have b : ∀ c : Int, c ≠ 0 → Ev (fun k => spec_ForgottenTopics.j0 k l p day after c false) (([] : List ByteArray), c) := fun c hc => by
    refine Ev.step (f := fun k => spec_ForgottenTopics.j1 k l p day after c) (fun k => by rw [spec_ForgottenTopics.j0]; exact if_neg (by simp)) ?_
    exact Ev.step (f := fun _ => some ([], c)) (fun k => by rw [spec_ForgottenTopics.j1]; exact if_neg hc) (Ev.now _)
  have b2 : Ev (fun k => spec_ForgottenTopics.j0 k l p day after 0 true) (([] : List ByteArray), (2 : Int)) := by
    refine Ev.step (f := fun k => spec_ForgottenTopics.j1 k l p day after 2) (fun k => by rw [spec_ForgottenTopics.j0]; exact if_pos rfl) ?_
    exact Ev.step (f := fun _ => some ([], 2)) (fun k => by rw [spec_ForgottenTopics.j1]; exact if_neg (by decide)) (Ev.now _)
  have hin : ∀ a b c : Int, spec_l00In.f a b c = some (decide (b ≤ a) && decide (a ≤ c)) := fun a b c => by
    unfold spec_l00In.f
    by_cases h : a ≥ b
    · rw [if_pos h, decide_eq_true (show b ≤ a from h), Bool.true_and]
    · rw [if_neg h, decide_eq_false (show ¬ b ≤ a from h), Bool.false_and]
  unfold spec_ForgottenTopics.f impl_ForgottenTopics.f
  by_cases hv : lessonsB l = true
  rotate_left
  · have ha : askB l p = 1 := by unfold askB; rw [if_neg hv]
    rw [ha] at eA
    exact ⟨([], 1), by simp, Ev.bind eA (Ev.neg (by decide) (b 1 (by decide))), Ev.bind (eL ([], 1) (by rw [if_neg hv])) (Ev.neg (by decide) (Ev.now _))⟩
  by_cases h3 : (ofB l p).length = 0
  · have ha : askB l p = 3 := by unfold askB; rw [if_pos hv, if_pos h3]
    rw [ha] at eA
    exact ⟨([], 3), by simp, Ev.bind eA (Ev.neg (by decide) (b 3 (by decide))), Ev.bind (eL ([], 3) (by rw [if_pos hv, if_pos h3])) (Ev.neg (by decide) (Ev.now _))⟩
  have ha : askB l p = 0 := by unfold askB; rw [if_pos hv, if_neg h3]
  rw [ha] at eA
  have hlen := lessons_len hv
  have hof := ofB_length l p
  have eI : ∀ r, Ev (fun k => impl_ForgottenTopics.asked k (ofB l p) day after) r → Ev (fun k => (impl_lessonsOf.f k l p).bind fun b => if b.2 = 0 then impl_ForgottenTopics.asked k b.1 day after else some ([], b.2)) r := fun r h => Ev.bind (eL (ofB l p, 0) (by rw [if_pos hv, if_neg h3])) (Ev.pos rfl h)
  suffices hh : ∃ v : List ByteArray × Int, v.1.length ≤ 1048576 ∧ Ev (fun k => (spec_l00In.f day 0 100000).bind fun t102 => (if t102 = true then ((spec_l00In.f after 1 1000).bind fun t103 => (spec_ForgottenTopics.j0 k l p day after 0 (!t103))) else (spec_ForgottenTopics.j0 k l p day after 0 true))) v ∧ Ev (fun k => impl_ForgottenTopics.asked k (ofB l p) day after) v by
    obtain ⟨v, hl2, hS, hI⟩ := hh
    exact ⟨v, hl2, Ev.bind eA (Ev.pos rfl hS), eI v hI⟩
  unfold impl_ForgottenTopics.asked
  rw [hin, hin]
  cases hd : decide (0 ≤ day) && decide (day ≤ 100000) with
  | false => exact ⟨([], 2), by simp, Ev.bind (Ev.now _) (Ev.neg (by simp) b2), Ev.neg (by simp) (Ev.now _)⟩
  | true =>
    cases hf : decide (1 ≤ after) && decide (after ≤ 1000) with
    | false => exact ⟨([], 2), by simp, Ev.bind (Ev.now _) (Ev.pos rfl (Ev.bind (Ev.now _) b2)), Ev.pos rfl (Ev.neg (by simp) (Ev.now _))⟩
    | true =>
      have ht : (topics (ofB l p)).length ≤ 64 := by
        have := puts_length ((ofB l p).map (·.f2)) []
        unfold topics; simp at this ⊢; omega
      have e4 : Ev (fun k => spec_l28Of.f k l p) (ofB l p) := Ev.le 1049000 (fun k hk => l28Of_eq hl p (by omega))
      have e5 : Ev (fun k => spec_l28Topics.f k (ofB l p)) (topics (ofB l p)) := Ev.le 1049000 (fun k hk => l28Topics_eq (by omega) (by omega))
      have e6 : Ev (fun k => impl_topicsOf.f k (ofB l p)) (topics (ofB l p)) := Ev.le 1049000 (fun k hk => topicsOf_eq (by omega) (by omega))
      have e7 := forgot_out (own := ofB l p) (ts := topics (ofB l p)) (by omega) (by omega) day after (topics (ofB l p)).length 0 [] (by omega) (by simp)
      rw [List.nil_append, List.drop_zero] at e7
      refine ⟨((topics (ofB l p)).filter (fun x => !impl_ForgottenTopics.recent (ofB l p) day after x), 0), ?_, Ev.bind (Ev.now _) (Ev.pos rfl (Ev.bind (Ev.now _) ?_)), Ev.pos rfl (Ev.pos rfl (Ev.bind e6 (Ev.now _)))⟩
      · have := List.length_filter_le (fun x => !impl_ForgottenTopics.recent (ofB l p) day after x) (topics (ofB l p))
        simp only; omega
      · refine Ev.step (f := fun k => spec_ForgottenTopics.j1 k l p day after 0) (fun k => by rw [spec_ForgottenTopics.j0]; exact if_neg (by simp)) ?_
        refine Ev.step (f := fun k => (spec_l28Of.f k l p).bind fun t104 => ((spec_l28Topics.f k t104).bind fun t107 => (spec_ForgottenTopics.l0 k day after t104 t107 ([] : List ByteArray) 0))) (fun k => by rw [spec_ForgottenTopics.j1]; exact if_pos rfl) ?_
        exact Ev.bind e4 (Ev.bind e5 e7)
end Go.Proofs.Ytkihbelhpnhceaa.P

namespace Go.Proofs.Ytkihbelhpnhceaa.Pure
open Go.RowKit Go.Proofs.YtkihbelhpnhceaaW.PrintWords Go.Proofs.YtkihbelhpnhceaaL Go.Proofs.Ytkihbelhpnhceaa.P
theorem FnExactForgottenTopics : ∀ (x0 : List (P.S44)) (x1 : ByteArray) (x2 : Int) (x3 : Int), (x0.length ≤ maxLen ∧ ∀ y ∈ x0, g44 y) → x1.size ≤ maxLen → (Lit.int .i64 x2).wf = true → (Lit.int .i64 x3).wf = true → ∃ k : Nat, P.laws_FnExactForgottenTopics.f k x0 x1 x2 x3 = some true := by
  intro x0 x1 x2 x3 ⟨hl0, hg0⟩ _ _ _
  by_cases hsx1 : (x1.size : Int) > 1048576
  · exact ⟨0, by unfold laws_FnExactForgottenTopics.f; rw [if_pos hsx1]⟩
  obtain ⟨r, hr, h⟩ := szLessonS_some hl0 hg0 (a := 1048576) (by omega) (by omega) (k := 2097200) (by omega)
  by_cases h0 : r < 0
  · exact ⟨2097200, by unfold laws_FnExactForgottenTopics.f; rw [if_neg hsx1, hr, Option.bind_some, if_pos h0]⟩
  obtain ⟨_, _, z0, s0⟩ := h.resolve_left h0
  have hz : (x0.map cLesson).length ≤ 1048576 := by simpa using z0
  have hT : ∀ k, 1048600 ≤ k → laws_toLessonS.f k x0 = some (x0.map cLesson) := fun k hk => toLessonS_eq z0 s0 hk
  have hE : ∀ k, 1048600 ≤ k → laws_eqLessonS.f k (x0.map cLesson) (x0.map cLesson) = some true := fun k hk => by rw [eqLessonS_eq hz (smi_lessons _) hk]; simp
  obtain ⟨v, hb, ⟨K1, hS⟩, ⟨K2, hI⟩⟩ := core_ForgottenTopics hz x1 x2 x3
  replace hS : ∀ n, K1 ≤ n → spec_ForgottenTopics.f n (x0.map cLesson) x1 x2 x3 = some v := hS
  replace hI : ∀ n, K2 ≤ n → impl_ForgottenTopics.f n (x0.map cLesson) x1 x2 x3 = some v := hI
  obtain ⟨m, hm⟩ : ∃ m, K1 + K2 + 2097210 ≤ m := ⟨_, Nat.le_refl _⟩
  refine ⟨m + 3, ?_⟩
  have hr2 := at_rounds (fun k => laws_szLessonS.mono x0 1048576 k) (show 2097200 ≤ m + 3 by omega) hr
  unfold laws_FnExactForgottenTopics.f
  rw [if_neg hsx1, hr2, Option.bind_some, if_neg h0, hT _ (by omega)]
  simp only [Option.bind_some]
  generalize x0.map cLesson = l at hz hT hE hS hI ⊢
  rw [hS _ (by omega)]
  simp only [Option.bind_some]
  rw [hI _ (by omega)]
  simp only [Option.bind_some]
  have hQ : ∀ k, 1048600 ≤ k → laws_eqStringS.f k v.1 v.1 = some true := fun k hk => by rw [eqStringS_eq (by omega) hk]; simp
  rw [hQ _ (by omega)]
  simp only [Option.bind_some, if_true, bne_self_eq_false]
  rw [laws_FnExactForgottenTopics.j0, if_neg (by decide), hT _ (by omega)]; simp only [Option.bind_some]
  rw [hE _ (by omega)]; simp only [Option.bind_some, if_true]
  rw [markLessonS_eq (by omega) (by omega) (by omega)]; simp only [Option.bind_some]
  rw [if_neg (by omega), hQ _ (by omega)]; simp only [Option.bind_some, if_true]
  rw [laws_FnExactForgottenTopics.j1, if_neg (by simp), markStringS_eq (by omega) (by omega) (by omega)]; simp only [Option.bind_some]
  rw [heldStringS_mk (by omega) (by omega) (by omega)]; simp only [Option.bind_some]
  rw [if_neg (by omega), if_pos trivial, hT _ (by omega)]; simp only [Option.bind_some]
  rw [hI _ (by omega)]; simp only [Option.bind_some]
  rw [hQ _ (by omega)]; simp only [Option.bind_some, if_true]
  rw [laws_FnExactForgottenTopics.j2, if_neg (by simp), heldStringS_mk (by omega) (by omega) (by omega)]; simp only [Option.bind_some]
  rw [if_neg (by omega), if_pos trivial]
end Go.Proofs.Ytkihbelhpnhceaa.Pure
