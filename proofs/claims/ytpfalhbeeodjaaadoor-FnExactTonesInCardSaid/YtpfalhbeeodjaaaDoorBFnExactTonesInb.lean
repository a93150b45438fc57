/- Part b of what FnExactTonesIn stands on: functions of the program as Lean functions with their walks, and plain lemmas. -/
import Derived.Test.YtpfalhbeeodjaaaDoorWWords
import Derived.Test.YtpfalhbeeodjaaaDoorBFnExactTonesIna
import Derived.Test.YtpfalhbeeodjaaaDoorK
/- Plain lemmas: loops over lists as the print writes them. No program in sight. -/
namespace Go.Proofs.YtpfalhbeeodjaaaDoorL
open Go.RowKit Go.Proofs.YtpfalhbeeodjaaaDoorW.PrintWords

theorem wrap_id {x : Int} (h0 : -9223372036854775808 ≤ x) (h1 : x ≤ 9223372036854775807) : wrap64 x = x := by unfold wrap64; omega
theorem wrap_succ {i n : Nat} (h : i < n) (hn : n ≤ 4611686018427387904) : wrap64 ((i : Int) + 1) = ((i + 1 : Nat) : Int) := by
  rw [wrap_id (by omega) (by omega)]; omega
theorem lt_cast {i n : Nat} (h : i < n) : (i : Int) < (n : Int) := by omega
theorem nn_cast (i : Nat) : 0 ≤ (i : Int) := by omega
theorem nlt_cast (n : Nat) : ¬ ((n : Int) < (n : Int)) := by omega
theorem drop_cons {α : Type} {l : List α} {i : Nat} (h : i < l.length) : l.drop i = l[i] :: l.drop (i + 1) := List.drop_eq_getElem_cons h

/-- A loop over a list: at each element it answers, or it goes on behind it. G: what it answers from a rest on. -/
theorem list_loop {α σ ρ : Type} (L : Nat → σ → Int → Option ρ) (l : List α) (G : List α → σ → ρ) (Inv : Nat → σ → Prop) (B : Nat)
    (step : ∀ (k i : Nat) (hi : i < l.length) (s : σ), Inv i s → B ≤ k →
      L (k + 1) s (i : Int) = some (G (l[i] :: l.drop (i + 1)) s) ∨ ∃ s', Inv (i + 1) s' ∧ G (l[i] :: l.drop (i + 1)) s = G (l.drop (i + 1)) s' ∧ L (k + 1) s (i : Int) = L k s' ((i + 1 : Nat) : Int))
    (stop : ∀ (k : Nat) (s : σ), Inv l.length s → L (k + 1) s (l.length : Int) = some (G [] s)) :
    ∀ (k : Nat) (s : σ), B + l.length < k → Inv 0 s → L k s 0 = some (G l s) := by
  have main : ∀ (d k i : Nat) (s : σ), i + d = l.length → B + d < k → Inv i s → L k s (i : Int) = some (G (l.drop i) s) := by
    intro d
    induction d with
    | zero =>
      intro k i s hi hk hI
      obtain ⟨k, rfl⟩ : ∃ m, k = m + 1 := ⟨k - 1, by omega⟩
      have : i = l.length := by omega
      subst this
      rw [stop k s hI, List.drop_length]
    | succ d ih =>
      intro k i s hi hk hI
      obtain ⟨k, rfl⟩ : ∃ m, k = m + 1 := ⟨k - 1, by omega⟩
      have hlt : i < l.length := by omega
      rw [drop_cons hlt]
      rcases step k i hlt s hI (by omega) with h | ⟨s', hI', hG, hL⟩
      · exact h
      · rw [hL, hG]
        exact ih k (i + 1) s' (by omega) (by omega) hI'
  intro k s hk hI
  have := main l.length k 0 s (by omega) hk hI
  simpa using this

/-- The same without a state. -/
theorem list_loop0 {α ρ : Type} (L : Nat → Int → Option ρ) (l : List α) (G : List α → ρ) (B : Nat)
    (step : ∀ (k i : Nat) (hi : i < l.length), B ≤ k →
      L (k + 1) (i : Int) = some (G (l[i] :: l.drop (i + 1))) ∨ (G (l[i] :: l.drop (i + 1)) = G (l.drop (i + 1)) ∧ L (k + 1) (i : Int) = L k ((i + 1 : Nat) : Int)))
    (stop : ∀ (k : Nat), L (k + 1) (l.length : Int) = some (G [])) :
    ∀ (k : Nat), B + l.length < k → L k 0 = some (G l) := by
  intro k hk
  exact list_loop (σ := Unit) (fun k _ i => L k i) l (fun l _ => G l) (fun _ _ => True) B (fun k i hi s _ hB => by
    rcases step k i hi hB with h | ⟨h1, h2⟩
    · exact .inl h
    · exact .inr ⟨(), trivial, h1, h2⟩) (fun k _ _ => stop k) k () hk trivial

/-- A loop that fills a list that was made, place by place. -/
theorem set_loop {α β : Type} (L : Nat → List β → Int → Option (List β)) (l : List α) (g : α → β) (B : Nat)
    (step : ∀ (k i : Nat) (hi : i < l.length) (acc : List β), acc.length = l.length → B ≤ k → L (k + 1) acc (i : Int) = L k (acc.set i (g l[i])) ((i + 1 : Nat) : Int))
    (stop : ∀ (k : Nat) (acc : List β), L (k + 1) acc (l.length : Int) = some acc) :
    ∀ (k : Nat) (acc : List β), B + l.length < k → acc.length = l.length → L k acc 0 = some (l.map g) := by
  have main : ∀ (d k i : Nat) (acc : List β), i + d = l.length → B + d < k → acc.length = l.length → L k acc (i : Int) = some (acc.take i ++ (l.drop i).map g) := by
    intro d
    induction d with
    | zero =>
      intro k i acc hi hk ha
      obtain ⟨k, rfl⟩ : ∃ m, k = m + 1 := ⟨k - 1, by omega⟩
      have : i = l.length := by omega
      subst this
      rw [stop k acc, List.drop_length, List.take_of_length_le (by omega)]
      simp
    | succ d ih =>
      intro k i acc hi hk ha
      obtain ⟨k, rfl⟩ : ∃ m, k = m + 1 := ⟨k - 1, by omega⟩
      have hlt : i < l.length := by omega
      rw [step k i hlt acc ha (by omega), ih k (i + 1) _ (by omega) (by omega) (by simpa using ha), drop_cons hlt]
      have h2 : (acc.set i (g l[i])).take (i + 1) = acc.take i ++ [g l[i]] := by
        rw [List.take_succ_eq_append_getElem (by simp; omega)]
        have h3 : (acc.set i (g l[i])).take i = acc.take i := by
          apply List.ext_getElem
          · simp
          · intro j h1 h2
            simp at h1
            simp [List.getElem_set_ne (show i ≠ j by omega)]
        rw [h3]
        simp
      rw [h2]
      simp only [List.append_assoc, List.singleton_append, List.map_cons]
  intro k acc hk ha
  have := main l.length k 0 acc (by omega) hk ha
  simpa using this

/-- A loop that compares two lists of one length, place by place. -/
theorem eq_loop {α : Type} [DecidableEq α] (L : Nat → Int → Option Bool) (a b : List α) (hab : a.length = b.length) (B : Nat)
    (step : ∀ (k i : Nat) (h : i < a.length) (h2 : i < b.length), B ≤ k → L (k + 1) (i : Int) = if a[i] = b[i] then L k ((i + 1 : Nat) : Int) else some false)
    (stop : ∀ (k : Nat), L (k + 1) (a.length : Int) = some true) :
    ∀ (k : Nat), B + a.length < k → L k 0 = some (decide (a = b)) := by
  have main : ∀ (d k i : Nat), i + d = a.length → B + d < k → L k (i : Int) = some (decide (a.drop i = b.drop i)) := by
    intro d
    induction d with
    | zero =>
      intro k i hi hk
      obtain ⟨k, rfl⟩ : ∃ m, k = m + 1 := ⟨k - 1, by omega⟩
      obtain rfl : i = a.length := by omega
      rw [stop k, List.drop_length, hab, List.drop_length]
      rfl
    | succ d ih =>
      intro k i hi hk
      obtain ⟨k, rfl⟩ : ∃ m, k = m + 1 := ⟨k - 1, by omega⟩
      have h1 : i < a.length := by omega
      have h2 : i < b.length := by omega
      rw [step k i h1 h2 (by omega), ih k (i + 1) (by omega) (by omega)]
      rw [show (decide (a.drop i = b.drop i)) = decide (a[i] = b[i] ∧ a.drop (i + 1) = b.drop (i + 1)) from by
        congr 1; rw [drop_cons h1, drop_cons h2, List.cons.injEq]]
      by_cases e : a[i] = b[i]
      · rw [if_pos e]; simp [e]
      · rw [if_neg e]; simp [e]
  intro k hk
  have := main a.length k 0 (by omega) hk
  simpa using this

/-- A loop that asks each index below n and stops at the first that says no. -/
theorem all_loop (L : Nat → Int → Option Bool) (n : Nat) (p : Nat → Bool) (fin : Bool) (B : Nat)
    (step : ∀ (k i : Nat), i < n → B ≤ k → L (k + 1) (i : Int) = if p i = true then L k ((i + 1 : Nat) : Int) else some false)
    (stop : ∀ (k : Nat), B ≤ k → L (k + 1) (n : Int) = some fin) :
    ∀ (k : Nat), B + n < k → L k 0 = some ((List.range n).all p && fin) := by
  have main : ∀ (d k i : Nat), i + d = n → B + d < k → L k (i : Int) = some ((List.range' i d).all p && fin) := by
    intro d
    induction d with
    | zero =>
      intro k i hi hk
      obtain ⟨k, rfl⟩ : ∃ m, k = m + 1 := ⟨k - 1, by omega⟩
      obtain rfl : i = n := by omega
      rw [stop k (by omega)]; simp
    | succ d ih =>
      intro k i hi hk
      obtain ⟨k, rfl⟩ : ∃ m, k = m + 1 := ⟨k - 1, by omega⟩
      rw [step k i (by omega) (by omega), List.range'_succ, List.all_cons]
      by_cases h : p i = true
      · rw [if_pos h, ih k (i + 1) (by omega) (by omega), h]; simp
      · rw [if_neg h]; simp [h]
  intro k hk
  have := main n k 0 (by omega) hk
  rw [List.range_eq_range']
  exact this

theorem pred_cast {i n : Nat} (h0 : 0 < i) (h : i < n) (hn : n ≤ 4611686018427387904) : wrap64 ((i : Int) - 1) = ((i - 1 : Nat) : Int) := by
  rw [wrap_id (by omega) (by omega)]; omega

theorem rd_get {l : List Int} {i : Nat} (h : i < l.length) : rd l (i : Int) = l[i] := by
  simp [rd, List.getD_eq_getElem?_getD, List.getElem?_eq_getElem h]
theorem rdOf_get {α : Type} {z : α} {l : List α} {i : Nat} (h : i < l.length) : rdOf z l (i : Int) = l[i] := by
  simp [rdOf, List.getD_eq_getElem?_getD, List.getElem?_eq_getElem h]

/-- A list marked with rising numbers from m on (each element takes c x of them), and the number behind. -/
def mkl {α : Type} (g : α → Int → α) (c : α → Int) : List α → Int → List α
  | [], _ => []
  | x :: r, m => g x m :: mkl g c r (m + c x)
def mtot {α : Type} (c : α → Int) : List α → Int → Int
  | [], m => m
  | x :: r, m => mtot c r (m + c x)
theorem mtot_ge {α : Type} {c : α → Int} (hc : ∀ x, 0 ≤ c x) : ∀ (l : List α) (m : Int), m ≤ mtot c l m
  | [], m => by simp [mtot]
  | x :: r, m => by
    have := mtot_ge hc r (m + c x)
    have := hc x
    simp only [mtot]; omega
theorem mtot_const {α : Type} (n : Int) : ∀ (l : List α) (m : Int), mtot (fun _ => n) l m = m + n * l.length
  | [], m => by simp [mtot]
  | x :: r, m => by
    simp only [mtot, mtot_const n r, List.length_cons]
    rw [show ((r.length + 1 : Nat) : Int) = (r.length : Int) + 1 from by omega, Int.mul_add]
    omega
theorem mkl_length {α : Type} (g : α → Int → α) (c : α → Int) : ∀ (l : List α) (m : Int), (mkl g c l m).length = l.length
  | [], _ => rfl
  | x :: r, m => by simp [mkl, mkl_length g c r]
theorem mark_loop {α : Type} (L : Nat → List α → Int → Int → Option (Int × List α)) (g : α → Int → α) (c : α → Int) (M : Int) (B : Nat) (hc : ∀ x, 0 ≤ c x)
    (step : ∀ (k : Nat) (pre : List α) (x : α) (rest : List α) (m : Int), B ≤ k → pre.length < 4611686018427387904 → 0 ≤ m → m + c x ≤ M →
      L (k + 1) (pre ++ x :: rest) m (pre.length : Int) = L k (pre ++ g x m :: rest) (m + c x) ((pre.length + 1 : Nat) : Int))
    (stop : ∀ (k : Nat) (l : List α) (m : Int), L (k + 1) l m (l.length : Int) = some (m, l)) :
    ∀ (k : Nat) (l : List α) (m : Int), B + l.length < k → l.length ≤ 4611686018427387904 → 0 ≤ m → mtot c l m ≤ M → L k l m 0 = some (mtot c l m, mkl g c l m) := by
  have main : ∀ (rest : List α) (k : Nat) (pre : List α) (m : Int), B + rest.length < k → pre.length + rest.length ≤ 4611686018427387904 → 0 ≤ m → mtot c rest m ≤ M →
      L k (pre ++ rest) m (pre.length : Int) = some (mtot c rest m, pre ++ mkl g c rest m) := by
    intro rest
    induction rest with
    | nil =>
      intro k pre m hk _ _ _
      obtain ⟨k, rfl⟩ : ∃ m, k = m + 1 := ⟨k - 1, by omega⟩
      have := stop k pre m
      simpa [mtot, mkl] using this
    | cons x r ih =>
      intro k pre m hk hl hm hM
      obtain ⟨k, rfl⟩ : ∃ m, k = m + 1 := ⟨k - 1, by omega⟩
      simp only [List.length_cons] at hk hl
      have h1 := mtot_ge hc r (m + c x)
      have h2 := hc x
      simp only [mtot] at hM
      rw [step k pre x r m (by omega) (by omega) hm (by omega)]
      have h3 := ih k (pre ++ [g x m]) (m + c x) (by omega) (by simp; omega) (by omega) hM
      simpa [mtot, mkl, List.append_assoc] using h3
  intro k l m hk hl hm hM
  have := main l k [] m hk (by simpa using hl) hm hM
  simpa using this
theorem held_loop {α : Type} (L : Nat → Int → Int → Option Int) (g : α → Int → α) (c : α → Int) (M : Int) (B : Nat) (hc : ∀ x, 0 ≤ c x) (l' : List α)
    (step : ∀ (k : Nat) (pre : List α) (x : α) (rest : List α) (m : Int), l' = pre ++ g x m :: rest → B ≤ k → pre.length < 4611686018427387904 → 0 ≤ m → m + c x ≤ M →
      L (k + 1) m (pre.length : Int) = L k (m + c x) ((pre.length + 1 : Nat) : Int))
    (stop : ∀ (k : Nat) (m : Int), L (k + 1) m (l'.length : Int) = some m) :
    ∀ (k : Nat) (l : List α) (m : Int), l' = mkl g c l m → B + l.length < k → l.length ≤ 4611686018427387904 → 0 ≤ m → mtot c l m ≤ M → L k m 0 = some (mtot c l m) := by
  have main : ∀ (rest : List α) (k : Nat) (pre : List α) (m : Int), l' = pre ++ mkl g c rest m → B + rest.length < k → pre.length + rest.length ≤ 4611686018427387904 → 0 ≤ m → mtot c rest m ≤ M →
      L k m (pre.length : Int) = some (mtot c rest m) := by
    intro rest
    induction rest with
    | nil =>
      intro k pre m he hk _ _ _
      obtain ⟨k, rfl⟩ : ∃ m, k = m + 1 := ⟨k - 1, by omega⟩
      have := stop k m
      have e : l'.length = pre.length := by rw [he]; simp [mkl]
      rw [e] at this
      simpa [mtot] using this
    | cons x r ih =>
      intro k pre m he hk hl hm hM
      obtain ⟨k, rfl⟩ : ∃ m, k = m + 1 := ⟨k - 1, by omega⟩
      simp only [List.length_cons] at hk hl
      have h1 := mtot_ge hc r (m + c x)
      have h2 := hc x
      simp only [mtot] at hM
      rw [step k pre x (mkl g c r (m + c x)) m (by simpa [mkl] using he) (by omega) (by omega) hm (by omega)]
      have h3 := ih k (pre ++ [g x m]) (m + c x) (by simpa [mkl, List.append_assoc] using he) (by omega) (by simp; omega) (by omega) hM
      simpa [mtot] using h3
  intro k l m he hk hl hm hM
  have := main l k [] m (by simpa using he) hk (by simpa using hl) hm hM
  simpa using this
theorem rd_mid {pre rest : List Int} {x : Int} : rd (pre ++ x :: rest) (pre.length : Int) = x := by simp [rd]
theorem rdOf_mid {α : Type} {z : α} {pre rest : List α} {x : α} : rdOf z (pre ++ x :: rest) (pre.length : Int) = x := by simp [rdOf]
theorem set_mid {α : Type} {pre rest : List α} {x v : α} : (pre ++ x :: rest).set ((pre.length : Int)).toNat v = pre ++ v :: rest := by simp

theorem bytes_eq {a b : ByteArray} : a.toList = b.toList ↔ a = b := by
  constructor
  · intro h
    have h2 : a.data.toList = b.data.toList := by
      have e : ∀ x : ByteArray, x.toList = x.data.toList := ByteArray.toList_eq
      rw [← e, ← e]; exact h
    cases a; cases b
    simp at h2
    rw [h2]
  · intro h; rw [h]
end Go.Proofs.YtpfalhbeeodjaaaDoorL

/- A loop over a list whose rounds take up to c steps each. -/
namespace Go.Proofs.YtpfalhbeeodjaaaDoorL
open Go.RowKit Go.Proofs.YtpfalhbeeodjaaaDoorW.PrintWords
theorem list_loopW {α σ τ : Type} (L : Nat → σ → Int → τ) (l : List α) (G : List α → σ → τ) (Inv : Nat → σ → Prop) (B c : Nat)
    (step : ∀ (k i : Nat) (hi : i < l.length) (s : σ), Inv i s → B ≤ k →
      L (k + c) s (i : Int) = G (l[i] :: l.drop (i + 1)) s ∨ ∃ s' k', k ≤ k' ∧ Inv (i + 1) s' ∧ G (l[i] :: l.drop (i + 1)) s = G (l.drop (i + 1)) s' ∧ L (k + c) s (i : Int) = L k' s' ((i + 1 : Nat) : Int))
    (stop : ∀ (k : Nat) (s : σ), Inv l.length s → B ≤ k → L (k + c) s (l.length : Int) = G [] s) :
    ∀ (k : Nat) (s : σ), B + c * (l.length + 1) ≤ k → Inv 0 s → L k s 0 = G l s := by
  have main : ∀ (d k i : Nat) (s : σ), i + d = l.length → B + c * (d + 1) ≤ k → Inv i s → L k s (i : Int) = G (l.drop i) s := by
    intro d
    induction d with
    | zero =>
      intro k i s hi hk hI
      have h1 : c * (0 + 1) = c := by simp
      obtain ⟨k, rfl⟩ : ∃ m, k = m + c := ⟨k - c, by omega⟩
      have : i = l.length := by omega
      subst this
      rw [stop k s hI (by omega), List.drop_length]
    | succ d ih =>
      intro k i s hi hk hI
      have h1 : c * (d + 1 + 1) = c * (d + 1) + c := Nat.mul_succ _ _
      obtain ⟨k, rfl⟩ : ∃ m, k = m + c := ⟨k - c, by omega⟩
      have hlt : i < l.length := by omega
      rw [List.drop_eq_getElem_cons hlt]
      rcases step k i hlt s hI (by omega) with h | ⟨s', k', hk', hI', hG, h⟩
      · exact h
      · rw [h, hG]; exact ih k' (i + 1) s' (by omega) (by omega) hI'
  intro k s hk hI
  have := main l.length k 0 s (by omega) hk hI
  simpa using this
theorem list_loopV {α σ ρ : Type} (L : Nat → σ → Int → Option ρ) (l : List α) (G : List α → σ → ρ) (Inv : Nat → σ → Prop) (B c : Nat)
    (step : ∀ (k i : Nat) (hi : i < l.length) (s : σ), Inv i s → B ≤ k →
      L (k + c) s (i : Int) = some (G (l[i] :: l.drop (i + 1)) s) ∨ ∃ s' k', k ≤ k' ∧ Inv (i + 1) s' ∧ G (l[i] :: l.drop (i + 1)) s = G (l.drop (i + 1)) s' ∧ L (k + c) s (i : Int) = L k' s' ((i + 1 : Nat) : Int))
    (stop : ∀ (k : Nat) (s : σ), Inv l.length s → B ≤ k → L (k + c) s (l.length : Int) = some (G [] s)) :
    ∀ (k : Nat) (s : σ), B + c * (l.length + 1) ≤ k → Inv 0 s → L k s 0 = some (G l s) :=
  list_loopW L l (fun r s => some (G r s)) Inv B c (fun k i hi s hI hB => by
    rcases step k i hi s hI hB with h | ⟨s', k', h1, h2, h3, h4⟩
    · exact .inl h
    · exact .inr ⟨s', k', h1, h2, by rw [h3], h4⟩) stop
end Go.Proofs.YtpfalhbeeodjaaaDoorL

/- A number in decimal: the reference's digits are the library's. -/
namespace Go.Proofs.YtpfalhbeeodjaaaDoor.P
open Go.RowKit Go.Proofs.YtpfalhbeeodjaaaDoorW.PrintWords Go.Proofs.YtpfalhbeeodjaaaDoorL
/-- The digits of a number from behind, as the reference lays them. -/
def rdig (u : Nat) : List Int := if h : u = 0 then [] else (48 + (u % 10 : Nat) : Int) :: rdig (u / 10)
termination_by u
decreasing_by omega
theorem rdig_zero : rdig 0 = [] := by rw [rdig, dif_pos rfl]
theorem rdig_pos {u : Nat} (h : u ≠ 0) : rdig u = (48 + (u % 10 : Nat) : Int) :: rdig (u / 10) := by rw [rdig, dif_neg h]
theorem rdig_dec : ∀ (n u : Nat), u ≤ n → u ≠ 0 → (rdig u).reverse.map (fun z => UInt8.ofNat z.toNat) = Lib.decDigits u := by
  intro n
  induction n with
  | zero => intro u h h0; omega
  | succ n ih =>
    intro u h h0
    rw [rdig_pos h0, List.reverse_cons, List.map_append, Lib.decDigits]
    by_cases h10 : u < 10
    · rw [dif_pos h10, show u / 10 = 0 by omega, rdig_zero]
      have : (48 + ((u % 10 : Nat) : Int)).toNat = 48 + u := by omega
      show [UInt8.ofNat (48 + ((u % 10 : Nat) : Int)).toNat] = _
      rw [this]
    · rw [dif_neg h10, ih (u / 10) (by omega) (by omega)]
      have : (48 + ((u % 10 : Nat) : Int)).toNat = 48 + u % 10 := by omega
      show _ ++ [UInt8.ofNat (48 + ((u % 10 : Nat) : Int)).toNat] = _
      rw [this]
theorem rdig_length : ∀ (n u : Nat), u < 10 ^ n → (rdig u).length ≤ n := by
  intro n
  induction n with
  | zero => intro u h; have : u = 0 := by simpa using h
            subst this; simp [rdig_zero]
  | succ n ih =>
    intro u h
    by_cases h0 : u = 0
    · subst h0; simp [rdig_zero]
    · rw [rdig_pos h0, List.length_cons]
      have := ih (u / 10) (by rw [Nat.pow_succ] at h; omega)
      omega
theorem dg_step {m : Int} (h0 : -9223372036854775808 ≤ m) (h1 : m ≤ 9223372036854775807) : (Int.tmod m 10 < 0 → (wrap64 (48 + wrap64 (-(Int.tmod m 10)))) % 256 = 48 + ((m.natAbs % 10 : Nat) : Int)) ∧ (¬ Int.tmod m 10 < 0 → (wrap64 (48 + Int.tmod m 10)) % 256 = 48 + ((m.natAbs % 10 : Nat) : Int)) ∧ (wrap64 (Int.tdiv m 10)).natAbs = m.natAbs / 10 ∧ -9223372036854775808 ≤ wrap64 (Int.tdiv m 10) ∧ wrap64 (Int.tdiv m 10) ≤ 9223372036854775807 := by
  rcases Int.le_total 0 m with h | h
  · have t1 : Int.tdiv m 10 = m / 10 := Int.tdiv_eq_ediv_of_nonneg h
    have t2 : Int.tmod m 10 = m % 10 := Int.tmod_eq_emod_of_nonneg h
    rw [t1, t2, wrap_id (x := m / 10) (by omega) (by omega), wrap_id (x := 48 + m % 10) (by omega) (by omega)]
    exact ⟨fun h => by omega, fun _ => by omega, by omega, by omega, by omega⟩
  · obtain ⟨a, ha, rfl⟩ : ∃ a : Int, 0 ≤ a ∧ m = -a := ⟨-m, by omega, by omega⟩
    have t1 : Int.tdiv (-a) 10 = -(a / 10) := by rw [Int.neg_tdiv, Int.tdiv_eq_ediv_of_nonneg ha]
    have t2 : Int.tmod (-a) 10 = -(a % 10) := by rw [Int.neg_tmod, Int.tmod_eq_emod_of_nonneg ha]
    rw [t1, t2, wrap_id (x := -(a / 10)) (by omega) (by omega), wrap_id (x := -(-(a % 10))) (by omega) (by omega), wrap_id (x := 48 + -(-(a % 10))) (by omega) (by omega), wrap_id (x := 48 + -(a % 10)) (by omega) (by omega)]
    exact ⟨fun _ => by omega, fun h => by omega, by omega, by omega, by omega⟩
theorem Dec_l1 {ds : List Int} (hl : ds.length ≤ 1000) : ∀ (d k : Nat) (acc : List Int), d ≤ ds.length → d + 1 ≤ k → acc.length + d ≤ 1000 → spec_l01Dec.l1 k ds acc ((d : Int) - 1) = some (strOfNums (acc ++ (ds.take d).reverse)) := by
  intro d
  induction d with
  | zero =>
    intro k acc hd hk ha
    obtain ⟨k, rfl⟩ : ∃ m, k = m + 1 := ⟨k - 1, by omega⟩
    simp only [spec_l01Dec.l1]
    rw [if_neg (by omega)]; simp
  | succ d ih =>
    intro k acc hd hk ha
    obtain ⟨k, rfl⟩ : ∃ m, k = m + 1 := ⟨k - 1, by omega⟩
    simp only [spec_l01Dec.l1]
    have e : ((d + 1 : Nat) : Int) - 1 = (d : Int) := by omega
    have hdl : d < ds.length := by omega
    rw [e, if_pos (by omega), if_pos (by omega), if_pos (lt_cast hdl), if_pos (by omega), rd_get hdl, wrap_id (by omega) (by omega), ih k _ (by omega) (by omega) (by simp; omega), List.take_succ_eq_append_getElem hdl, List.reverse_append]
    simp
theorem Dec_j1 {ds : List Int} (hl : ds.length ≤ 1000) {k : Nat} (hk : ds.length + 3 ≤ k) : spec_l01Dec.j1 k ds = some (strOfNums ds.reverse) := by
  obtain ⟨k, rfl⟩ : ∃ m, k = m + 1 := ⟨k - 1, by omega⟩
  simp only [spec_l01Dec.j1]
  rw [wrap_id (by omega) (by omega), Dec_l1 hl ds.length k [] (Nat.le_refl _) (by omega) (by simp; omega)]
  simp
theorem Dec_l0 (x0 : Int) : ∀ (n : Nat) (m : Int) (acc : List Int) (k : Nat), m.natAbs < 10 ^ n → -9223372036854775808 ≤ m → m ≤ 9223372036854775807 → acc.length + n ≤ 900 → n + 1000 ≤ k →
    spec_l01Dec.l0 k x0 acc m = some (strOfNums ((acc ++ rdig m.natAbs) ++ (if x0 < 0 then [45] else [])).reverse) := by
  intro n
  induction n with
  | zero =>
    intro m acc k hm h0 h1 ha hk
    obtain ⟨k, rfl⟩ : ∃ m, k = m + 1 := ⟨k - 1, by omega⟩
    have : m = 0 := by simp at hm; exact hm
    subst this
    simp only [spec_l01Dec.l0]
    rw [if_pos trivial]
    have e : rdig (Int.natAbs 0) = [] := rdig_zero
    rw [e, List.append_nil]
    by_cases hx : x0 < 0
    · rw [if_pos hx, if_pos hx, if_pos (by omega), Dec_j1 (by simp; omega) (by simp; omega)]
    · rw [if_neg hx, if_neg hx, Dec_j1 (by omega) (by omega), List.append_nil]
  | succ n ih =>
    intro m acc k hm h0 h1 ha hk
    obtain ⟨k, rfl⟩ : ∃ m, k = m + 1 := ⟨k - 1, by omega⟩
    by_cases hz : m = 0
    · subst hz
      simp only [spec_l01Dec.l0]
      rw [if_pos trivial]
      have e : rdig (Int.natAbs 0) = [] := rdig_zero
      rw [e, List.append_nil]
      by_cases hx : x0 < 0
      · rw [if_pos hx, if_pos hx, if_pos (by omega), Dec_j1 (by simp; omega) (by simp; omega)]
      · rw [if_neg hx, if_neg hx, Dec_j1 (by omega) (by omega), List.append_nil]
    · obtain ⟨d1, d2, d3, d4, d5⟩ := dg_step h0 h1
      have hr := rdig_pos (u := m.natAbs) (by omega)
      have hn : (wrap64 (Int.tdiv m 10)).natAbs < 10 ^ n := by rw [d3]; rw [Nat.pow_succ] at hm; omega
      have go := ih (wrap64 (Int.tdiv m 10)) (acc ++ [48 + ((m.natAbs % 10 : Nat) : Int)]) k hn d4 d5 (by simp; omega) (by omega)
      rw [d3] at go
      simp only [spec_l01Dec.l0]
      rw [if_neg hz, hr]
      have hlen : acc.length < 140737488355328 := by omega
      by_cases hs : Int.tmod m 10 < 0
      · rw [if_pos hs, if_pos hlen, d1 hs, go]; simp
      · rw [if_neg hs, if_pos hlen, d2 hs, go]; simp
theorem l01Dec_eq {n : Int} (h0 : -9223372036854775808 ≤ n) (h1 : n ≤ 9223372036854775807) {k : Nat} (hk : 2000 ≤ k) : spec_l01Dec.f k n = some (impl_Decimal.t n) := by
  unfold spec_l01Dec.f impl_Decimal.t
  by_cases hz : n = 0
  · subst hz
    rw [if_pos rfl]
    have : Lib.itoa 0 = [48] := by unfold Lib.itoa; rw [if_neg (by decide)]; exact Lib.decDigits_one (i := 0) (by decide)
    rw [this]
  · rw [if_neg hz, Dec_l0 n 20 n [] k (by omega) h0 h1 (by simp) (by omega), List.nil_append, List.reverse_append]
    congr 1
    unfold strOfNums Lib.itoa
    congr 2
    rw [List.map_append, rdig_dec n.natAbs n.natAbs (Nat.le_refl _) (by omega)]
    by_cases hx : n < 0
    · rw [if_pos hx, if_pos hx]; rfl
    · rw [if_neg hx, if_neg hx, show n.natAbs = n.toNat by omega]; rfl
theorem Decimal_eq {n : Int} (h0 : -9223372036854775808 ≤ n) (h1 : n ≤ 9223372036854775807) : impl_Decimal.f n = some (impl_Decimal.t n) := if_pos ⟨h0, h1⟩
theorem Decimal_size {n : Int} (h0 : -9223372036854775808 ≤ n) (h1 : n ≤ 9223372036854775807) : (impl_Decimal.t n).size ≤ 21 := by
  have hr := rdig_length 20 n.natAbs (by omega)
  have hs : (impl_Decimal.t n).size = (Lib.itoa n).length := by unfold impl_Decimal.t; show (Lib.itoa n).toArray.size = _; simp
  have hd : ∀ u : Nat, u ≠ 0 → u = n.natAbs → (Lib.decDigits u).length ≤ 20 := fun u hu e => by
    rw [← rdig_dec u u (Nat.le_refl _) hu, List.length_map, List.length_reverse, e]; exact hr
  rw [hs]
  unfold Lib.itoa
  by_cases hz : n = 0
  · subst hz
    have : Lib.decDigits (Int.toNat 0) = [48] := Lib.decDigits_one (i := 0) (by decide)
    rw [if_neg (by decide), this]; decide
  · by_cases hx : n < 0
    · rw [if_pos hx, List.length_cons]; have := hd n.natAbs (by omega) rfl; omega
    · rw [if_neg hx]; have := hd n.toNat (by omega) (by omega); omega
end Go.Proofs.YtpfalhbeeodjaaaDoor.P

/- A pitch as text in a script: the reference and the program write the same. -/
namespace Go.Proofs.YtpfalhbeeodjaaaDoor.P
open Go.RowKit Go.Proofs.YtpfalhbeeodjaaaDoorW.PrintWords Go.Proofs.YtpfalhbeeodjaaaDoorL
theorem in_eq (a b c : Int) : spec_l00In.f a b c = some (decide (b ≤ a) && decide (a ≤ c)) := by
  unfold spec_l00In.f
  by_cases h : a ≥ b
  · rw [if_pos h]; simp [ge_iff_le.1 h]
  · rw [if_neg h]
    have h' : ¬ b ≤ a := h
    simp [h']
theorem within_eq (a b c : Int) : impl_within.f a b c = some (decide (b ≤ a) && decide (a ≤ c)) := by
  unfold impl_within.f
  by_cases h : a ≥ b
  · rw [if_pos h]; simp [ge_iff_le.1 h]
  · rw [if_neg h]
    have h' : ¬ b ≤ a := h
    simp [h']
def keyB (s k : Int) : Bool := (decide (1 ≤ s) && decide (s ≤ 4)) && (decide (0 ≤ k) && decide (k ≤ 11))
theorem keyOk_eq (s k : Int) : impl_keyOk.f s k = some (keyB s k) := by
  unfold impl_keyOk.f keyB
  rw [within_eq]; simp only [Option.bind_some, within_eq]
  cases (decide (1 ≤ s) && decide (s ≤ 4)) <;> simp
theorem l26Script_eq (s k : Int) : spec_l26Script.f s k = some (keyB s k) := by
  unfold spec_l26Script.f keyB
  rw [in_eq]; simp only [Option.bind_some, in_eq]
  cases (decide (1 ≤ s) && decide (s ≤ 4)) <;> simp
theorem keyB_iff {s k : Int} : keyB s k = true ↔ (1 ≤ s ∧ s ≤ 4) ∧ 0 ≤ k ∧ k ≤ 11 := by
  unfold keyB
  rw [Bool.and_eq_true, Bool.and_eq_true, Bool.and_eq_true, decide_eq_true_iff, decide_eq_true_iff, decide_eq_true_iff, decide_eq_true_iff]
theorem tone_eq {q : Int} (h0 : -1000 ≤ q) (h1 : q ≤ 1000) : Int.tmod (wrap64 (Int.tmod q 12 + 12)) 12 = q % 12 := by
  rcases Int.le_total 0 q with h | h
  · have t2 : Int.tmod q 12 = q % 12 := Int.tmod_eq_emod_of_nonneg h
    rw [t2, wrap_id (by omega) (by omega), Int.tmod_eq_emod_of_nonneg (by omega)]; omega
  · obtain ⟨a, ha, rfl⟩ : ∃ a : Int, 0 ≤ a ∧ q = -a := ⟨-q, by omega, by omega⟩
    have t2 : Int.tmod (-a) 12 = -(a % 12) := by rw [Int.neg_tmod, Int.tmod_eq_emod_of_nonneg ha]
    rw [t2, wrap_id (by omega) (by omega), Int.tmod_eq_emod_of_nonneg (by omega)]; omega
theorem ToneOf_eq {q : Int} (h0 : -1000 ≤ q) (h1 : q ≤ 1000) : impl_ToneOf.f q = some (q % 12) := by unfold impl_ToneOf.f; rw [tone_eq h0 h1]
theorem l03Tone_eq {q : Int} (h0 : -1000 ≤ q) (h1 : q ≤ 1000) : spec_l03Tone.f q = some (q % 12) := by unfold spec_l03Tone.f; rw [tone_eq h0 h1]
theorem floor_eq {q : Int} (h0 : -1000 ≤ q) (h1 : q ≤ 1000) : wrap64 (Int.tdiv (wrap64 (q - q % 12)) 12) = q / 12 := by
  rw [wrap_id (x := q - q % 12) (by omega) (by omega), show q - q % 12 = 12 * (q / 12) by omega, Int.mul_tdiv_cancel_left _ (by decide), wrap_id (by omega) (by omega)]
theorem octaveOf_eq {q : Int} (h0 : -1000 ≤ q) (h1 : q ≤ 1000) : impl_octaveOf.f q = some (q / 12) := by
  unfold impl_octaveOf.f; rw [ToneOf_eq h0 h1]; simp only [Option.bind_some]; rw [floor_eq h0 h1]
theorem l03Floor_eq {q : Int} (h0 : -1000 ≤ q) (h1 : q ≤ 1000) : spec_l03Floor.f q = some (q / 12) := by
  unfold spec_l03Floor.f; rw [l03Tone_eq h0 h1]; simp only [Option.bind_some]; rw [floor_eq h0 h1]
def nameT (t : Int) : ByteArray := (⟨#[83, 114, 82, 103, 71, 109, 77, 80, 100, 68, 110, 78]⟩ : ByteArray).extract t.toNat (wrap64 (t + 1)).toNat
def pt (s k p : Int) : ByteArray :=
  if s = 1 then (if p / 12 < 0 then nameT (p % 12) ++ (⟨#[44]⟩ : ByteArray) else if p / 12 > 0 then nameT (p % 12) ++ (⟨#[39]⟩ : ByteArray) else nameT (p % 12))
  else if s = 2 then impl_pitchIn.at_ impl_pitchIn.L ((p + k) % 12) ++ impl_Decimal.t ((p + k) / 12 + 4)
  else if s = 3 then (if p / 12 < 0 then (⟨#[95]⟩ : ByteArray) ++ impl_pitchIn.at_ impl_pitchIn.M (p % 12) else if p / 12 > 0 then (⟨#[94]⟩ : ByteArray) ++ impl_pitchIn.at_ impl_pitchIn.M (p % 12) else impl_pitchIn.at_ impl_pitchIn.M (p % 12))
  else impl_Decimal.t (p + k + 60)
theorem at_size {l : List ByteArray} (hl : ∀ x ∈ l, x.size ≤ 2) (t : Int) : (impl_pitchIn.at_ l t).size ≤ 2 := by
  unfold impl_pitchIn.at_
  rw [List.getD_eq_getElem?_getD]
  cases h : l[t.toNat]? with
  | none => exact Nat.zero_le _
  | some x => exact hl x (List.mem_of_getElem? h)
theorem L_two : ∀ x ∈ impl_pitchIn.L, x.size ≤ 2 := by decide
theorem M_two : ∀ x ∈ impl_pitchIn.M, x.size ≤ 2 := by decide
theorem nameT_size {t : Int} (h0 : 0 ≤ t) (h1 : t < 12) : (nameT t).size ≤ 1 := by
  unfold nameT
  rw [ByteArray.size_extract, wrap_id (by omega) (by omega)]; omega
theorem pt_size {s k p : Int} (h : keyB s k = true) (h0 : -12 ≤ p) (h1 : p ≤ 23) : (pt s k p).size ≤ 30 := by
  obtain ⟨⟨a1, a2⟩, b1, b2⟩ := keyB_iff.1 h
  have z1 : (⟨#[44]⟩ : ByteArray).size = 1 := rfl
  have z2 : (⟨#[39]⟩ : ByteArray).size = 1 := rfl
  have z3 : (⟨#[95]⟩ : ByteArray).size = 1 := rfl
  have z4 : (⟨#[94]⟩ : ByteArray).size = 1 := rfl
  have n1 := nameT_size (t := p % 12) (by omega) (by omega)
  have n2 := at_size L_two ((p + k) % 12)
  have n3 := at_size M_two (p % 12)
  have n4 := Decimal_size (n := (p + k) / 12 + 4) (by omega) (by omega)
  have n5 := Decimal_size (n := p + k + 60) (by omega) (by omega)
  unfold pt
  repeat' split
  all_goals (try simp only [ByteArray.size_append])
  all_goals omega
theorem ba_nil (n : ByteArray) : n ++ (⟨#[]⟩ : ByteArray) = n := ByteArray.append_empty
theorem ba_nil' (n : ByteArray) : (⟨#[]⟩ : ByteArray) ++ n = n := ByteArray.empty_append
theorem ToneName_eq {t : Int} (h0 : 0 ≤ t) (h1 : t < 12) : impl_ToneName.f t = some (nameT t) := by
  unfold impl_ToneName.f impl_toneOk.f nameT
  rw [within_eq, decide_eq_true h0, decide_eq_true (by omega : t ≤ 11)]
  simp only [Option.bind_some, Bool.and_true, if_true]
  rw [if_pos h0, wrap_id (by omega) (by omega), if_pos (by omega), if_pos (by omega)]
theorem pitchIn_eq {s k p : Int} (h : keyB s k = true) (h0 : -12 ≤ p) (h1 : p ≤ 23) : impl_pitchIn.f s k p = some (pt s k p) := by
  obtain ⟨⟨a1, a2⟩, b1, b2⟩ := keyB_iff.1 h
  unfold impl_pitchIn.f pt
  by_cases s2 : s = 2
  · subst s2
    have n2 := at_size L_two ((p + k) % 12)
    have n4 := Decimal_size (n := (p + k) / 12 + 4) (by omega) (by omega)
    rw [if_pos rfl, if_neg (by decide), if_pos rfl, wrap_id (x := p + k) (by omega) (by omega), ToneOf_eq (by omega) (by omega), octaveOf_eq (by omega) (by omega)]
    simp only [Option.bind_some]
    rw [wrap_id (by omega) (by omega), Decimal_eq (by omega) (by omega)]
    simp only [Option.bind_some]
    rw [if_pos ⟨by omega, by omega⟩]
  rw [if_neg s2]
  by_cases s3 : s = 3
  · subst s3
    have n3 := at_size M_two (p % 12)
    rw [if_pos rfl, if_neg (by decide), if_neg (by decide), if_pos rfl, octaveOf_eq (by omega) (by omega), ToneOf_eq (by omega) (by omega)]
    simp only [Option.bind_some]
    rw [if_pos ⟨by omega, by omega⟩]
    unfold impl_pitchIn.o3
    by_cases o1 : p / 12 = -1
    · rw [if_pos o1, if_pos (by omega)]
    rw [if_neg o1]
    by_cases o2 : p / 12 = 0
    · rw [if_pos o2, if_neg (by omega), if_neg (by omega), ba_nil']
    · rw [if_neg o2, if_pos (by omega), if_neg (by omega), if_pos (by omega)]
  rw [if_neg s3]
  by_cases s4 : s = 4
  · subst s4
    rw [if_pos rfl, if_neg (by decide), if_neg (by decide), if_neg (by decide), wrap_id (x := p + k) (by omega) (by omega), wrap_id (by omega) (by omega), Decimal_eq (by omega) (by omega)]
  rw [if_neg s4]
  obtain rfl : s = 1 := by omega
  have n1 := nameT_size (t := p % 12) (by omega) (by omega)
  unfold impl_pitchText.f
  rw [if_pos rfl, ToneOf_eq (by omega) (by omega)]
  simp only [Option.bind_some]
  rw [ToneName_eq (by omega) (by omega)]
  simp only [Option.bind_some]
  rw [octaveOf_eq (by omega) (by omega)]
  simp only [Option.bind_some]
  rw [if_pos (by omega)]
  by_cases o1 : p / 12 = -1
  · rw [if_pos o1, if_pos (by omega)]
  rw [if_neg o1]
  by_cases o2 : p / 12 = 0
  · rw [if_pos o2, if_neg (by omega), if_neg (by omega), ba_nil]
  · rw [if_neg o2, if_pos (by omega), if_neg (by omega), if_pos (by omega)]
theorem l26Pitch_eq {s k p : Int} (h : keyB s k = true) (h0 : -12 ≤ p) (h1 : p ≤ 23) {K : Nat} (hK : 2000 ≤ K) : spec_l26Pitch.f K s k p = some (pt s k p) := by
  obtain ⟨⟨a1, a2⟩, b1, b2⟩ := keyB_iff.1 h
  have eL : spec_l26Pitch.at_ spec_l26Pitch.L = impl_pitchIn.at_ impl_pitchIn.L := rfl
  have eM : spec_l26Pitch.at_ spec_l26Pitch.M = impl_pitchIn.at_ impl_pitchIn.M := rfl
  have eN : spec_l26Pitch.nm = nameT := rfl
  unfold spec_l26Pitch.f pt
  rw [l03Tone_eq (by omega) (by omega), l03Floor_eq (by omega) (by omega), eL, eM, eN]
  simp only [Option.bind_some]
  rw [if_pos ⟨by omega, by omega⟩]
  by_cases s1 : s = 1
  · subst s1
    rw [if_pos rfl, if_pos rfl]
    by_cases o1 : p / 12 < 0
    · rw [if_pos o1, if_pos o1]
    rw [if_neg o1, if_neg o1]
    by_cases o2 : p / 12 > 0
    · rw [if_pos o2, if_pos o2]
    · rw [if_neg o2, if_neg o2]
  rw [if_neg s1, if_neg s1]
  by_cases s2 : s = 2
  · subst s2
    have n2 := at_size L_two ((p + k) % 12)
    have n4 := Decimal_size (n := (p + k) / 12 + 4) (by omega) (by omega)
    rw [if_pos rfl, if_pos rfl, wrap_id (x := p + k) (by omega) (by omega), l03Tone_eq (by omega) (by omega), l03Floor_eq (by omega) (by omega)]
    simp only [Option.bind_some]
    rw [wrap_id (by omega) (by omega), l01Dec_eq (by omega) (by omega) hK]
    simp only [Option.bind_some]
    rw [if_pos ⟨by omega, by omega⟩]
  rw [if_neg s2, if_neg s2]
  by_cases s3 : s = 3
  · subst s3
    have n3 := at_size M_two (p % 12)
    rw [if_pos rfl, if_pos rfl, if_pos (by omega)]
    by_cases o1 : p / 12 < 0
    · rw [if_pos o1, if_pos o1]
    rw [if_neg o1, if_neg o1]
    by_cases o2 : p / 12 > 0
    · rw [if_pos o2, if_pos o2]
    · rw [if_neg o2, if_neg o2]
  rw [if_neg s3, if_neg s3, wrap_id (x := p + k) (by omega) (by omega), wrap_id (by omega) (by omega), l01Dec_eq (by omega) (by omega) hK]
end Go.Proofs.YtpfalhbeeodjaaaDoor.P

/- Texts joined by a blank: text behind text. -/
namespace Go.Proofs.YtpfalhbeeodjaaaDoor.P
open Go.RowKit Go.Proofs.YtpfalhbeeodjaaaDoorW.PrintWords Go.Proofs.YtpfalhbeeodjaaaDoorL
def catS (acc : ByteArray) (r : List ByteArray) : ByteArray := r.foldl (fun s x => (s ++ (⟨#[32]⟩ : ByteArray)) ++ x) acc
theorem ba_mk {a b : ByteArray} (h : a.data.toList = b.data.toList) : a = b := ByteArray.ext (Array.toList_inj.1 h)
theorem ba_app (a b : ByteArray) : (a ++ b).data.toList = a.data.toList ++ b.data.toList := by rw [ByteArray.data_append, Array.toList_append]
theorem catS_data : ∀ (r : List ByteArray) (acc : ByteArray), (catS acc r).data.toList = acc.data.toList ++ Lib.joinTail [32] (r.map (·.data.toList))
  | [], acc => by simp [catS, Lib.joinTail]
  | x :: r, acc => by
    have ih := catS_data r ((acc ++ (⟨#[32]⟩ : ByteArray)) ++ x)
    show (catS ((acc ++ (⟨#[32]⟩ : ByteArray)) ++ x) r).data.toList = _
    rw [ih, ba_app, ba_app]
    simp [Lib.joinTail]
def joinT : List ByteArray → ByteArray | [] => ⟨#[]⟩ | x :: r => catS x r
theorem join_T (l : List ByteArray) : strings_Join.t l ⟨#[32]⟩ = joinT l := by
  cases l with
  | nil => rfl
  | cons x r =>
    refine ba_mk ?_
    unfold joinT
    rw [catS_data]
    unfold strings_Join.t
    show (Lib.join _ _ : List UInt8) = _
    rw [List.map_cons, Lib.join_cons]
theorem catS_size : ∀ (r : List ByteArray) (acc : ByteArray), (∀ x ∈ r, x.size ≤ 99) → (catS acc r).size ≤ acc.size + 100 * r.length
  | [], acc, _ => by simp [catS]
  | x :: r, acc, h => by
    have ih := catS_size r ((acc ++ (⟨#[32]⟩ : ByteArray)) ++ x) (fun y hy => h y (List.mem_cons_of_mem _ hy))
    have hx := h x List.mem_cons_self
    have e1 : (⟨#[32]⟩ : ByteArray).size = 1 := rfl
    rw [ByteArray.size_append, ByteArray.size_append] at ih
    show (catS ((acc ++ (⟨#[32]⟩ : ByteArray)) ++ x) r).size ≤ _
    rw [List.length_cons]; omega
theorem joinT_size {l : List ByteArray} (h : ∀ x ∈ l, x.size ≤ 99) : (joinT l).size ≤ 100 * l.length := by
  cases l with
  | nil => exact Nat.zero_le _
  | cons x r =>
    have h1 := catS_size r x (fun y hy => h y (List.mem_cons_of_mem _ hy))
    have h2 := h x List.mem_cons_self
    show (catS x r).size ≤ _
    rw [List.length_cons]; omega
theorem Join_eq {l : List ByteArray} (hl : l.length ≤ 1000) (h : ∀ x ∈ l, x.size ≤ 99) : strings_Join.f l (⟨#[32]⟩ : ByteArray) = some (joinT l) := by
  have hz := joinT_size h
  unfold strings_Join.f
  rw [join_T, if_pos ⟨by omega, by omega⟩]
theorem catS_snoc (acc x : ByteArray) (r : List ByteArray) : catS acc (x :: r) = catS ((acc ++ (⟨#[32]⟩ : ByteArray)) ++ x) r := rfl
theorem bnil (n : ByteArray) : (⟨#[]⟩ : ByteArray) ++ n = n := ByteArray.empty_append
end Go.Proofs.YtpfalhbeeodjaaaDoor.P

/- A scale as text in a script: the reference and the program write the same. -/
namespace Go.Proofs.YtpfalhbeeodjaaaDoor.P
open Go.RowKit Go.Proofs.YtpfalhbeeodjaaaDoorW.PrintWords Go.Proofs.YtpfalhbeeodjaaaDoorL
def incB (l : List Int) : Bool := (List.range (l.length - 1)).all fun j => decide (rd l (j : Int) < rd l ((j + 1 : Nat) : Int))
theorem incB_iff {l : List Int} : incB l = true ↔ ∀ j : Nat, j + 1 < l.length → rd l (j : Int) < rd l ((j + 1 : Nat) : Int) := by
  unfold incB
  rw [List.all_eq_true]
  constructor
  · intro h j hj
    exact of_decide_eq_true (h j (List.mem_range.2 (by omega)))
  · intro h j hj
    exact decide_eq_true (h j (by have := List.mem_range.1 hj; omega))
theorem increasing_eq {l : List Int} (hl : l.length ≤ 1048576) (h1 : 1 ≤ l.length) {k : Nat} (hk : l.length + 2 ≤ k) : impl_increasing.f k l = some (incB l) := by
  unfold impl_increasing.f incB
  have := all_loop (fun k i => impl_increasing.l0 k l (i + 1)) (l.length - 1) (fun j => decide (rd l (j : Int) < rd l ((j + 1 : Nat) : Int))) true 0 (fun k i hi _ => by
    show impl_increasing.l0 (k + 1) l ((i : Int) + 1) = _
    simp only [impl_increasing.l0]
    have e1 : wrap64 ((i : Int) + 1 - 1) = (i : Int) := by rw [wrap_id (by omega) (by omega)]; omega
    have e2 : wrap64 ((i : Int) + 1 + 1) = ((i + 1 : Nat) : Int) + 1 := by rw [wrap_id (by omega) (by omega)]; omega
    rw [e1, e2, if_pos (by omega), if_pos (by omega), if_pos (by omega), if_pos (by omega), show (i : Int) + 1 = ((i + 1 : Nat) : Int) by omega]
    by_cases h : rd l (i : Int) < rd l ((i + 1 : Nat) : Int)
    · rw [if_neg (by omega), if_pos (decide_eq_true h)]
    · rw [if_pos (by omega), if_neg (by rw [decide_eq_false h]; decide)]) (fun k _ => by
    show impl_increasing.l0 (k + 1) l (((l.length - 1 : Nat) : Int) + 1) = _
    simp only [impl_increasing.l0]
    rw [if_neg (by omega)]) k (by omega)
  rw [Bool.and_true] at this
  exact this
def risB (l : List Int) : Bool := (List.range l.length).all fun j => (decide (0 ≤ rd l (j : Int)) && decide (rd l (j : Int) ≤ 11)) && (decide (j = 0) || decide (rd l ((j - 1 : Nat) : Int) < rd l (j : Int)))
theorem l00Rises_eq {l : List Int} (hl : l.length ≤ 1048576) {k : Nat} (hk : l.length + 2 ≤ k) : spec_l00Rises.f k l 0 11 = some (risB l) := by
  unfold spec_l00Rises.f risB
  have := all_loop (fun k i => spec_l00Rises.l0 k l 0 11 i) l.length (fun j => (decide (0 ≤ rd l (j : Int)) && decide (rd l (j : Int) ≤ 11)) && (decide (j = 0) || decide (rd l ((j - 1 : Nat) : Int) < rd l (j : Int)))) true 0 (fun k i hi _ => by
    show spec_l00Rises.l0 (k + 1) l 0 11 (i : Int) = _
    simp only [spec_l00Rises.l0]
    rw [if_pos (lt_cast hi), if_pos (nn_cast i), in_eq, wrap_succ hi (by omega)]
    simp only [Option.bind_some]
    cases (decide (0 ≤ rd l (i : Int)) && decide (rd l (i : Int) ≤ 11))
    · rw [if_neg (by decide), if_neg (by simp)]
    · rw [if_pos rfl, Bool.true_and]
      by_cases h0 : i = 0
      · subst h0
        rw [if_neg (by decide), if_pos (by simp)]
      · rw [if_pos (by omega), pred_cast (n := l.length) (by omega) hi (by omega), if_pos (nn_cast _), if_pos (by omega), decide_eq_false h0, Bool.false_or]
        by_cases h : rd l ((i - 1 : Nat) : Int) < rd l (i : Int)
        · rw [if_neg (by omega), if_pos (decide_eq_true h)]
        · rw [if_pos (by omega), if_neg (by rw [decide_eq_false h]; decide)]) (fun k _ => by
    show spec_l00Rises.l0 (k + 1) l 0 11 (l.length : Int) = _
    simp only [spec_l00Rises.l0]
    rw [if_neg (nlt_cast _)]) k (by omega)
  rw [Bool.and_true] at this
  exact this
theorem risB_iff {l : List Int} : risB l = true ↔ (∀ j : Nat, j < l.length → 0 ≤ rd l (j : Int) ∧ rd l (j : Int) ≤ 11) ∧ incB l = true := by
  rw [incB_iff]
  unfold risB
  rw [List.all_eq_true]
  constructor
  · intro h
    constructor
    · intro j hj
      have := h j (List.mem_range.2 hj)
      rw [Bool.and_eq_true, Bool.and_eq_true, decide_eq_true_iff, decide_eq_true_iff] at this
      exact this.1
    · intro j hj
      have := h (j + 1) (List.mem_range.2 hj)
      rw [Bool.and_eq_true, Bool.or_eq_true, decide_eq_true_iff, decide_eq_true_iff] at this
      rcases this.2 with h0 | h0
      · omega
      · exact h0
  · intro h j hj
    have hj := List.mem_range.1 hj
    rw [Bool.and_eq_true, Bool.and_eq_true, Bool.or_eq_true, decide_eq_true_iff, decide_eq_true_iff, decide_eq_true_iff, decide_eq_true_iff]
    refine ⟨h.1 j hj, ?_⟩
    cases j with
    | zero => exact Or.inl rfl
    | succ j => exact Or.inr (h.2 j hj)
def scaleB (l : List Int) : Bool := decide (5 ≤ l.length) && (risB l && decide (rd l 0 = 0))
theorem l03Scale_eq {l : List Int} (hl : l.length ≤ 1048576) {k : Nat} (hk : l.length + 2 ≤ k) : spec_l03Scale.f k l = some (scaleB l) := by
  unfold spec_l03Scale.f scaleB
  by_cases h5 : 5 ≤ l.length
  · rw [if_pos (by omega), l00Rises_eq hl hk, decide_eq_true h5]
    simp only [Option.bind_some]
    cases risB l
    · rfl
    · rw [if_pos rfl, if_pos (by omega), Bool.true_and, Bool.true_and]; rfl
  · rw [if_neg (by omega), decide_eq_false h5]; rfl
theorem inc_ge {l : List Int} (h : incB l = true) : ∀ (d j : Nat), j + d < l.length → rd l (j : Int) + d ≤ rd l ((j + d : Nat) : Int) := by
  intro d
  induction d with
  | zero => intro j _; simp
  | succ d ih =>
    intro j hj
    have h1 := ih j (by omega)
    have h2 := incB_iff.1 h (j + d) (by omega)
    rw [show j + (d + 1) = j + d + 1 by omega]
    omega
theorem ValidScale_eq {l : List Int} (hl : l.length ≤ 1048576) {k : Nat} (hk : l.length + 2 ≤ k) : impl_ValidScale.f k l = some (scaleB l) := by
  unfold impl_ValidScale.f scaleB
  by_cases h5 : 5 ≤ l.length
  · rw [if_pos (by omega), if_pos (by omega), decide_eq_true h5]
    by_cases h0 : rd l 0 = 0
    · rw [if_pos h0, increasing_eq hl (by omega) hk, decide_eq_true h0]
      simp only [Option.bind_some, Bool.true_and, Bool.and_true]
      have e1 : wrap64 ((l.length : Int) - 1) = ((l.length - 1 : Nat) : Int) := by rw [wrap_id (by omega) (by omega)]; omega
      cases hi : incB l with
      | false =>
        have : risB l = false := by
          rw [← Bool.not_eq_true]; intro e; rw [(risB_iff.1 e).2] at hi; cases hi
        rw [this]; rfl
      | true =>
        rw [if_pos rfl, e1, if_pos (nn_cast _), if_pos (by omega)]
        congr 1
        by_cases hb : rd l ((l.length - 1 : Nat) : Int) < 12
        · rw [decide_eq_true hb]
          refine (risB_iff.2 ⟨fun j hj => ?_, hi⟩).symm
          have a1 := inc_ge hi j 0 (by omega)
          have a2 := inc_ge hi (l.length - 1 - j) j (by omega)
          rw [Nat.zero_add, show ((0 : Nat) : Int) = 0 from rfl, h0] at a1
          rw [show j + (l.length - 1 - j) = l.length - 1 by omega] at a2
          omega
        · rw [decide_eq_false hb]
          symm
          rw [← Bool.not_eq_true]; intro e
          have := (risB_iff.1 e).1 (l.length - 1) (by omega)
          omega
    · rw [if_neg h0, decide_eq_false h0, Bool.and_false, Bool.and_false]
  · rw [if_neg (by omega), decide_eq_false h5]; rfl
theorem scaleB_bounds {l : List Int} (h : scaleB l = true) : (l.length ≤ 12 ∧ ∀ x ∈ l, 0 ≤ x ∧ x ≤ 11) := by
  unfold scaleB at h
  rw [Bool.and_eq_true, Bool.and_eq_true, decide_eq_true_iff, decide_eq_true_iff] at h
  obtain ⟨h5, hr, h0⟩ := h
  obtain ⟨hb, hi⟩ := risB_iff.1 hr
  constructor
  · have a1 := inc_ge hi (l.length - 1) 0 (by omega)
    have a2 := hb (l.length - 1) (by omega)
    rw [Nat.zero_add, show ((0 : Nat) : Int) = 0 from rfl, h0] at a1
    omega
  · intro x hx
    obtain ⟨j, hj, rfl⟩ := List.getElem_of_mem hx
    have := hb j hj
    rw [rd_get hj] at this
    exact this
theorem tones_size {s k : Int} (h : keyB s k = true) {l : List Int} (hb : ∀ x ∈ l, 0 ≤ x ∧ x ≤ 11) : ∀ x ∈ l.map (pt s k), x.size ≤ 99 := by
  intro x hx
  obtain ⟨y, hy, rfl⟩ := List.mem_map.1 hx
  have := hb y hy
  have := pt_size h (p := y) (by omega) (by omega)
  omega
theorem TonesIn_impl_l0 {s k : Int} (h : keyB s k = true) {l : List Int} (hl : l.length ≤ 12) (hb : ∀ x ∈ l, 0 ≤ x ∧ x ≤ 11) : ∀ (d K i : Nat), i + d = l.length → d + 1 ≤ K → impl_TonesIn.l0 K s k ((l.take i).map (pt s k)) l (l.length : Int) (i : Int) = some (joinT (l.map (pt s k)), 0) := by
  intro d
  induction d with
  | zero =>
    intro K i hi hK
    obtain ⟨K, rfl⟩ : ∃ m, K = m + 1 := ⟨K - 1, by omega⟩
    simp only [impl_TonesIn.l0]
    rw [if_neg (by omega), List.take_of_length_le (by omega), Join_eq (by rw [List.length_map]; omega) (tones_size h hb)]; rfl
  | succ d ih =>
    intro K i hi hK
    obtain ⟨K, rfl⟩ : ∃ m, K = m + 1 := ⟨K - 1, by omega⟩
    have hlt : i < l.length := by omega
    have hx := hb l[i] (List.getElem_mem hlt)
    simp only [impl_TonesIn.l0]
    rw [if_pos (lt_cast hlt), if_pos (nn_cast i), if_pos (lt_cast hlt), rd_get hlt, pitchIn_eq h (by omega) (by omega)]
    simp only [Option.bind_some]
    rw [if_pos (by rw [List.length_map, List.length_take]; omega), wrap_succ hlt (by omega)]
    have e : (l.take i).map (pt s k) ++ [pt s k l[i]] = (l.take (i + 1)).map (pt s k) := by
      rw [List.take_add_one, List.getElem?_eq_getElem hlt, List.map_append]; rfl
    rw [e]
    exact ih K (i + 1) (by omega) (by omega)
theorem TonesIn_spec_l0 {s k : Int} (h : keyB s k = true) {l : List Int} (hl : l.length ≤ 12) (hb : ∀ x ∈ l, 0 ≤ x ∧ x ≤ 11) : ∀ (d K i : Nat) (acc : ByteArray), i + d = l.length → 0 < i → acc.size ≤ 100 * i → d + 2100 ≤ K → spec_TonesIn.l0 K s k l acc (i : Int) = some (catS acc ((l.drop i).map (pt s k)), 0) := by
  intro d
  induction d with
  | zero =>
    intro K i acc hi h0 ha hK
    obtain ⟨K, rfl⟩ : ∃ m, K = m + 1 := ⟨K - 1, by omega⟩
    simp only [spec_TonesIn.l0]
    rw [if_neg (by omega), List.drop_eq_nil_of_le (by omega)]; rfl
  | succ d ih =>
    intro K i acc hi h0 ha hK
    obtain ⟨K, rfl⟩ : ∃ m, K = m + 1 := ⟨K - 1, by omega⟩
    have hlt : i < l.length := by omega
    have hx := hb l[i] (List.getElem_mem hlt)
    have hz := pt_size h (p := l[i]) (by omega) (by omega)
    have e1 : (⟨#[32]⟩ : ByteArray).size = 1 := rfl
    simp only [spec_TonesIn.l0]
    rw [if_pos (lt_cast hlt), if_pos (by omega), if_pos (by omega), if_pos (nn_cast i), rd_get hlt, l26Pitch_eq h (by omega) (by omega) (by omega)]
    simp only [Option.bind_some]
    rw [if_pos (by rw [ByteArray.size_append]; omega), wrap_succ hlt (by omega), ih K (i + 1) _ (by omega) (by omega) (by rw [ByteArray.size_append, ByteArray.size_append]; omega) (by omega), List.drop_eq_getElem_cons hlt, List.map_cons, catS_snoc]
theorem TonesIn_spec_text {s k : Int} (h : keyB s k = true) {l : List Int} (hl : l.length ≤ 12) (hb : ∀ x ∈ l, 0 ≤ x ∧ x ≤ 11) {K : Nat} (hK : 3000 ≤ K) : spec_TonesIn.l0 K s k l (⟨#[]⟩ : ByteArray) 0 = some (joinT (l.map (pt s k)), 0) := by
  obtain ⟨K, rfl⟩ : ∃ m, K = m + 1 := ⟨K - 1, by omega⟩
  cases l with
  | nil => simp only [spec_TonesIn.l0]; rfl
  | cons x r =>
    have hx := hb x List.mem_cons_self
    have hz := pt_size h (p := x) (by omega) (by omega)
    have h0 : (0 : Int) < (((x :: r).length : Nat) : Int) := by rw [List.length_cons]; omega
    have e0 : (⟨#[]⟩ : ByteArray).size = 0 := rfl
    have e2 : rd (x :: r) 0 = x := rfl
    have hw : wrap64 (0 + 1) = ((1 : Nat) : Int) := by rw [wrap_id (by omega) (by omega)]; rfl
    simp only [spec_TonesIn.l0]
    rw [if_pos h0, if_neg (by omega), if_pos (Int.le_refl 0), e2, l26Pitch_eq h (by omega) (by omega) (by omega)]
    simp only [Option.bind_some]
    rw [if_pos (by omega), bnil, hw, TonesIn_spec_l0 h hl hb r.length K 1 _ (by rw [List.length_cons]; omega) (by omega) (by omega) (by rw [List.length_cons] at hl; omega)]
    rfl
def tonesR (s k : Int) (l : List Int) : ByteArray × Int := if keyB s k = true then (if scaleB l = true then (joinT (l.map (pt s k)), 0) else (⟨#[]⟩, 1)) else (⟨#[]⟩, 2)
theorem TonesIn_spec (s k : Int) {l : List Int} (hl : l.length ≤ 1048576) {K : Nat} (hK : 1060000 ≤ K) : spec_TonesIn.f K s k l = some (tonesR s k l) := by
  unfold spec_TonesIn.f tonesR
  rw [l26Script_eq]; simp only [Option.bind_some]
  by_cases h : keyB s k = true
  · rw [if_pos h, if_pos h, l03Scale_eq hl (by omega)]; simp only [Option.bind_some]
    by_cases h2 : scaleB l = true
    · obtain ⟨b1, b2⟩ := scaleB_bounds h2
      rw [if_pos h2, if_pos h2, TonesIn_spec_text h b1 b2 (by omega)]
    · rw [if_neg h2, if_neg h2]
  · rw [if_neg h, if_neg h]
theorem TonesIn_impl (s k : Int) {l : List Int} (hl : l.length ≤ 1048576) {K : Nat} (hK : 1060000 ≤ K) : impl_TonesIn.f K s k l = some (tonesR s k l) := by
  unfold impl_TonesIn.f tonesR
  rw [keyOk_eq]; simp only [Option.bind_some]
  by_cases h : keyB s k = true
  · rw [if_pos h, if_pos h, ValidScale_eq hl (by omega)]; simp only [Option.bind_some]
    by_cases h2 : scaleB l = true
    · obtain ⟨b1, b2⟩ := scaleB_bounds h2
      rw [if_pos h2, if_pos h2]
      exact TonesIn_impl_l0 h b1 b2 l.length K 0 (by omega) (by omega)
    · rw [if_neg h2, if_neg h2]
  · rw [if_neg h, if_neg h]
end Go.Proofs.YtpfalhbeeodjaaaDoor.P

/- laws_szNoteS: what it answers, and that the machine's call comes to it. -/
namespace Go.Proofs.YtpfalhbeeodjaaaDoor.P
open Go.RowKit Go.Proofs.YtpfalhbeeodjaaaDoorW.PrintWords Go.Proofs.YtpfalhbeeodjaaaDoorW.PrintLast Go.Proofs.YtpfalhbeeodjaaaDoorW.PrintMore
attribute [local go_sem] max2_int min2_int max_two min_two max_three min_three max_four min_four str_leq str_gtr str_geq
set_option linter.unusedVariables false
set_option linter.unusedSimpArgs false

/-! ### laws_szNoteS: function 18 -/
def laws_szNoteS.f (l0 : List (S62)) (a1 : Int) : Option (Int) := if (wrap64 (a1 - (l0.length : Int))) < 0 then (some (-1)) else (some (wrap64 (a1 - (l0.length : Int))))
set_option maxHeartbeats 8000000 in
set_option maxRecDepth 100000 in
theorem laws_szNoteS.calls (A0 : Option Addr) (c0 : Nat) (l0 : List (S62)) (a1 : Int) (r : Int) (w : World) (hr0 : Kd.C k62 w A0 l0.length l0) (hc0 : l0.length ≤ c0) (h : laws_szNoteS.f l0 a1 = some r) :
    Calls Tryd.prog 18 #[.slice A0 l0.length c0, .int .i64 a1] w fun e w' => e = .returned (.int .i64 r) ∧ Drawn0 w w' := by
  have HR0 := Aside0.mk hr0
  have HC0 := Aside0.mk hc0
  clear hr0 hc0
  have H : (if (wrap64 (a1 - (l0.length : Int))) < 0 then (some (-1)) else (some (wrap64 (a1 - (l0.length : Int))))) = some r := h
  clear h
  by_cases c3 : (wrap64 (a1 - (l0.length : Int))) < 0
  · rw [if_pos c3] at H
    have c3b0 : decide ((wrap64 (a1 - (l0.length : Int))) < 0) = true := decide_eq_true c3
    clear c3
    obtain rfl := Option.some.inj H
    go_enter Tryd.func18, Tryd.ntmps18
    go_wp2
    go_ret
    exact ⟨by first | rfl | (simp; done) | (simp [*]; done), by repeat (first | exact Drawn0.refl _ | apply Drawn0.step)⟩
  · rw [if_neg c3] at H
    have c3b0 : decide ((wrap64 (a1 - (l0.length : Int))) < 0) = false := decide_eq_false c3
    clear c3
    obtain rfl := Option.some.inj H
    go_enter Tryd.func18, Tryd.ntmps18
    go_wp2
    go_ret
    exact ⟨by first | rfl | (simp; done) | (simp [*]; done), by repeat (first | exact Drawn0.refl _ | apply Drawn0.step)⟩

end Go.Proofs.YtpfalhbeeodjaaaDoor.P

/- laws_toNote: what it answers, and that the machine's call comes to it. -/
namespace Go.Proofs.YtpfalhbeeodjaaaDoor.P
open Go.RowKit Go.Proofs.YtpfalhbeeodjaaaDoorW.PrintWords Go.Proofs.YtpfalhbeeodjaaaDoorW.PrintLast Go.Proofs.YtpfalhbeeodjaaaDoorW.PrintMore
attribute [local go_sem] max2_int min2_int max_two min_two max_three min_three max_four min_four str_leq str_gtr str_geq
set_option linter.unusedVariables false
set_option linter.unusedSimpArgs false

/-! ### laws_toNote: function 46 -/
def laws_toNote.f (a0_0 : Int) (a0_1 : Int) : Option (Int × Int) := some (a0_0, a0_1)
set_option maxHeartbeats 8000000 in
set_option maxRecDepth 100000 in
theorem laws_toNote.calls (a0_0 : Int) (a0_1 : Int) (r1 : Int) (r2 : Int) (w : World) (h : laws_toNote.f a0_0 a0_1 = some (r1, r2)) :
    Calls Tryd.prog 46 #[.agg #[.int .i64 a0_0, .int .i64 a0_1]] w fun e w' => e = .returned (.agg #[.int .i64 r1, .int .i64 r2]) ∧ Below w.heap.size w w' := by
  have hu62 := Tryd.underlying62
  have hu60 := Tryd.underlying60
  have HB := Aside0.mk (Below.refl w.heap.size w)
  have H : (some (a0_0, a0_1)) = some (r1, r2) := h
  clear h
  simp only [Option.some.injEq, Prod.mk.injEq] at H
  obtain ⟨rfl, rfl⟩ := H
  go_enter Tryd.func46, Tryd.ntmps46
  go_wp2_with (first | ((with_reducible refine gate_dst (N := 1) rfl ?_); refine box_event ?hg (N := 1) ?hd (cs := #[.int .i64 a0_0, .int .i64 a0_1]) (t := 62) ?hr ?_; (case hd => rfl); (case hg => rfl); (case hr => first | (go_simp; done) | (go_simp; rfl)); intro gb101 hg w2 hbox hb; have n0_ := Aside0.mk (below_step (by repeat (first | (with_reducible first | exact HB.out | apply below_alloc | apply pw_below_drewN | apply below_drew1) | exact HB.out)) hb); have n1_ := Aside0.mk (hbox); have n2_ := Aside0.mk ((by rw [hg]; exact (below_size (by repeat (first | (with_reducible first | exact HB.out | apply below_alloc | apply pw_below_drewN | apply below_drew1) | exact HB.out))) : w.heap.size ≤ gb101)); have n3_ := Aside0.mk ((by rw [hg]; exact (below_size (by repeat (first | (with_reducible first | exact HB.out | apply below_alloc | apply pw_below_drewN | apply below_drew1) | exact HB.out))) : w.heap.size ≤ gb101)); clear HB; have HB := n0_; have BK101 := n1_; have GW101 := n2_; have GE101 := n3_; clear n0_ n1_ n2_ n3_; clear hb hbox hg) | ((with_reducible refine gate_dst (N := 2) rfl ?_); refine box_event ?hg (N := 2) ?hd (cs := #[.int .i64 0, .int .i64 0]) (t := 60) ?hr ?_; (case hd => rfl); (case hg => rfl); (case hr => first | (go_simp; done) | (go_simp; rfl)); intro gb102 hg w3 hbox hb; have n0_ := Aside0.mk (blk_below (g := gb101) (o := .cells #[.int .i64 a0_0, .int .i64 a0_1] 62 (0, 0)) (by (with_reducible repeat (first | refine blk_drewN ?_ _ | refine blk_drew ?_ | refine blk_alloc ?_ _)); exact BK101.out) hb); have n1_ := Aside0.mk (below_step (by repeat (first | (with_reducible first | exact HB.out | apply below_alloc | apply pw_below_drewN | apply below_drew1 | refine below_set ?_ GE101.out) | exact HB.out)) hb); have n2_ := Aside0.mk (hbox); have n3_ := Aside0.mk ((by rw [hg]; exact (below_size (by repeat (first | (with_reducible first | exact HB.out | apply below_alloc | apply pw_below_drewN | apply below_drew1 | refine below_set ?_ GE101.out) | exact HB.out))) : w.heap.size ≤ gb102)); have n4_ := Aside0.mk ((by rw [hg]; exact (below_size (by repeat (first | (with_reducible first | exact HB.out | apply below_alloc | apply pw_below_drewN | apply below_drew1 | refine below_set ?_ GE101.out) | exact HB.out))) : w.heap.size ≤ gb102)); have n5_ := Aside0.mk ((by rw [hg]; exact Nat.ne_of_lt (blk_lt (g := gb101) (o := .cells #[.int .i64 a0_0, .int .i64 a0_1] 62 (0, 0)) (by (with_reducible repeat (first | refine blk_drewN ?_ _ | refine blk_drew ?_ | refine blk_alloc ?_ _)); exact BK101.out)) : gb101 ≠ gb102)); have n6_ := Aside0.mk ((by rw [hg]; exact Nat.ne_of_gt (blk_lt (g := gb101) (o := .cells #[.int .i64 a0_0, .int .i64 a0_1] 62 (0, 0)) (by (with_reducible repeat (first | refine blk_drewN ?_ _ | refine blk_drew ?_ | refine blk_alloc ?_ _)); exact BK101.out)) : gb102 ≠ gb101)); clear BK101; clear HB; have BK101 := n0_; have HB := n1_; have BK102 := n2_; have GW102 := n3_; have GE102 := n4_; have NB101_102 := n5_; have NB102_101 := n6_; clear n0_ n1_ n2_ n3_ n4_ n5_ n6_; clear hb hbox hg) | ((with_reducible refine gate_dst (N := 3) rfl ?_); refine box_event ?hg (N := 3) ?hd (cs := #[.int .i64 0, .int .i64 0]) (t := 60) ?hr ?_; (case hd => rfl); (case hg => rfl); (case hr => first | (go_simp; done) | (go_simp; rfl)); intro gb103 hg w4 hbox hb; have n0_ := Aside0.mk (blk_below (g := gb101) (o := .cells #[.int .i64 a0_0, .int .i64 a0_1] 62 (0, 0)) (by (with_reducible repeat (first | refine blk_drewN ?_ _ | refine blk_drew ?_ | refine blk_alloc ?_ _)); exact BK101.out) hb); have n1_ := Aside0.mk (blk_below (g := gb102) (o := .cells #[.int .i64 0, .int .i64 0] 60 (0, 0)) (by (with_reducible repeat (first | refine blk_drewN ?_ _ | refine blk_drew ?_ | refine blk_alloc ?_ _)); exact BK102.out) hb); have n2_ := Aside0.mk (below_step (by repeat (first | (with_reducible first | exact HB.out | apply below_alloc | apply pw_below_drewN | apply below_drew1 | refine below_set ?_ GE101.out | refine below_set ?_ GE102.out) | exact HB.out)) hb); have n3_ := Aside0.mk (hbox); have n4_ := Aside0.mk ((by rw [hg]; exact (below_size (by repeat (first | (with_reducible first | exact HB.out | apply below_alloc | apply pw_below_drewN | apply below_drew1 | refine below_set ?_ GE101.out | refine below_set ?_ GE102.out) | exact HB.out))) : w.heap.size ≤ gb103)); have n5_ := Aside0.mk ((by rw [hg]; exact (below_size (by repeat (first | (with_reducible first | exact HB.out | apply below_alloc | apply pw_below_drewN | apply below_drew1 | refine below_set ?_ GE101.out | refine below_set ?_ GE102.out) | exact HB.out))) : w.heap.size ≤ gb103)); have n6_ := Aside0.mk ((by rw [hg]; exact Nat.ne_of_lt (blk_lt (g := gb101) (o := .cells #[.int .i64 a0_0, .int .i64 a0_1] 62 (0, 0)) (by (with_reducible repeat (first | refine blk_drewN ?_ _ | refine blk_drew ?_ | refine blk_alloc ?_ _)); exact BK101.out)) : gb101 ≠ gb103)); have n7_ := Aside0.mk ((by rw [hg]; exact Nat.ne_of_gt (blk_lt (g := gb101) (o := .cells #[.int .i64 a0_0, .int .i64 a0_1] 62 (0, 0)) (by (with_reducible repeat (first | refine blk_drewN ?_ _ | refine blk_drew ?_ | refine blk_alloc ?_ _)); exact BK101.out)) : gb103 ≠ gb101)); have n8_ := Aside0.mk ((by rw [hg]; exact Nat.ne_of_lt (blk_lt (g := gb102) (o := .cells #[.int .i64 0, .int .i64 0] 60 (0, 0)) (by (with_reducible repeat (first | refine blk_drewN ?_ _ | refine blk_drew ?_ | refine blk_alloc ?_ _)); exact BK102.out)) : gb102 ≠ gb103)); have n9_ := Aside0.mk ((by rw [hg]; exact Nat.ne_of_gt (blk_lt (g := gb102) (o := .cells #[.int .i64 0, .int .i64 0] 60 (0, 0)) (by (with_reducible repeat (first | refine blk_drewN ?_ _ | refine blk_drew ?_ | refine blk_alloc ?_ _)); exact BK102.out)) : gb103 ≠ gb102)); clear BK101; clear BK102; clear HB; have BK101 := n0_; have BK102 := n1_; have HB := n2_; have BK103 := n3_; have GW103 := n4_; have GE103 := n5_; have NB101_103 := n6_; have NB103_101 := n7_; have NB102_103 := n8_; have NB103_102 := n9_; clear n0_ n1_ n2_ n3_ n4_ n5_ n6_ n7_ n8_ n9_; clear hb hbox hg; have hnb5 := NB101_102.out; have hnc5 := NB102_101.out; have hnb6 := NB101_103.out; have hnc6 := NB103_101.out; have hcz7_0 : w4.cell? ⟨gb101, 0, none⟩ = some (.int .i64 a0_0) := (blk_cell BK101.out 0).trans rfl; have hcz7_1 : w4.cell? ⟨gb101, 1, none⟩ = some (.int .i64 a0_1) := (blk_cell BK101.out 1).trans rfl; have hfz7_0 := blk_frozen BK101.out 0; have hfz7_1 := blk_frozen BK101.out 1; have hnb8 := NB103_102.out; have hnc8 := NB102_103.out; have hcz9_0 : w4.cell? ⟨gb103, 0, none⟩ = some (.int .i64 0) := (blk_cell BK103.out 0).trans rfl; have hcz9_1 : w4.cell? ⟨gb103, 1, none⟩ = some (.int .i64 0) := (blk_cell BK103.out 1).trans rfl; have hfz9_0 := blk_frozen BK103.out 0; have hfz9_1 := blk_frozen BK103.out 1; have hcz10_0 : w4.cell? ⟨gb102, 0, none⟩ = some (.int .i64 0) := (blk_cell BK102.out 0).trans rfl; have hcz10_1 : w4.cell? ⟨gb102, 1, none⟩ = some (.int .i64 0) := (blk_cell BK102.out 1).trans rfl; have hfz10_0 := blk_frozen BK102.out 0; have hfz10_1 := blk_frozen BK102.out 1))
  refine bodyPost_ret (results_cell_row rfl _ _ gb102 60 #[.int .i64 a0_0, .int .i64 a0_1] (0, 0) _ rfl (by (with_reducible repeat (first | refine blk_drewN ?_ _ | refine blk_drew ?_ | refine blk_alloc ?_ _)); refine blk_put (cs := #[.int .i64 a0_0, .int .i64 0]) ?_ 1 _ rfl; (with_reducible repeat (first | refine blk_drewN ?_ _ | refine blk_drew ?_ | refine blk_alloc ?_ _)); refine blk_put (cs := #[.int .i64 0, .int .i64 0]) ?_ 0 _ rfl; (with_reducible repeat (first | refine blk_drewN ?_ _ | refine blk_drew ?_ | refine blk_alloc ?_ _)); refine blk_far ?_ NB102_103.out _; (with_reducible repeat (first | refine blk_drewN ?_ _ | refine blk_drew ?_ | refine blk_alloc ?_ _)); refine blk_far ?_ NB102_103.out _; (with_reducible repeat (first | refine blk_drewN ?_ _ | refine blk_drew ?_ | refine blk_alloc ?_ _)); exact BK102.out) Tryd.underlying60 rfl (by kernel_rfl)) rfl ?_
  exact ⟨by first | rfl | (simp [errW_none, errW_some] <;> rfl) | (simp [*, errW_none, errW_some] <;> rfl), by repeat (first | (with_reducible first | exact HB.out | apply below_alloc | apply pw_below_drewN | apply below_drew1 | refine below_set ?_ GE101.out | refine below_set ?_ GE102.out | refine below_set ?_ GE103.out) | exact HB.out)⟩

end Go.Proofs.YtpfalhbeeodjaaaDoor.P

/- laws_toNoteS: what it answers, and that the machine's call comes to it. -/
namespace Go.Proofs.YtpfalhbeeodjaaaDoor.P
open Go.RowKit Go.Proofs.YtpfalhbeeodjaaaDoorW.PrintWords Go.Proofs.YtpfalhbeeodjaaaDoorW.PrintLast Go.Proofs.YtpfalhbeeodjaaaDoorW.PrintMore
attribute [local go_sem] max2_int min2_int max_two min_two max_three min_three max_four min_four str_leq str_gtr str_geq
set_option linter.unusedVariables false
set_option linter.unusedSimpArgs false

/-! ### laws_toNoteS: function 20 -/
def laws_toNoteS.l0 : Nat → List (S62) → List (S60) → Int → Option ((List (S60)))
  | 0, _, _, _ => none
  | k + 1, x0, x3, x4 => if x4 < (x0.length : Int) then (if 0 ≤ x4 then ((laws_toNote.f ((rd_T62 x0 x4).f0) ((rd_T62 x0 x4).f1)).bind fun bt105 => (if x4 < (x3.length : Int) then (laws_toNoteS.l0 k x0 (x3.set (x4 : Int).toNat (⟨bt105.1, bt105.2⟩ : S60)) (wrap64 (x4 + 1))) else (none))) else (none)) else (some x3)
def laws_toNoteS.f (k : Nat) (l0 : List (S62)) : Option ((List (S60))) := if 0 ≤ (l0.length : Int) then (if ((l0.length : Int) : Int).toNat ≤ 17592186044416 then (laws_toNoteS.l0 k l0 (List.replicate ((l0.length : Int) : Int).toNat z60) 0) else (none)) else (none)
theorem laws_toNoteS.mono_l : ∀ k, (∀ y0 y1 y2, LeO (laws_toNoteS.l0 k y0 y1 y2) (laws_toNoteS.l0 (k + 1) y0 y1 y2))
  | 0 => fun _ _ _ r h => by simp [laws_toNoteS.l0] at h
  | k + 1 => by
    have ih0 := laws_toNoteS.mono_l k
    · intro y0 y1 y2
      unfold laws_toNoteS.l0
      repeat' first
      | (with_reducible exact ih0 _ _ _)
      | (with_reducible exact LeO.refl _)
      | (with_reducible exact LeO.none _)
      | (with_reducible refine LeO.ite ?_ ?_)
      | (with_reducible refine LeO.bind ?_ (fun _ => ?_))
      | exact ih0 _ _ _
      | exact LeO.none _
      | refine LeO.ite ?_ ?_
      | refine LeO.bind ?_ (fun _ => ?_)
theorem laws_toNoteS.mono : ∀ a0 k, LeO (laws_toNoteS.f k a0) (laws_toNoteS.f (k + 1) a0) := by
  intro a0 k
  have ih0 := laws_toNoteS.mono_l k
  unfold laws_toNoteS.f
  repeat' first
      | (with_reducible exact ih0 _ _ _)
      | (with_reducible exact LeO.refl _)
      | (with_reducible exact LeO.none _)
      | (with_reducible refine LeO.ite ?_ ?_)
      | (with_reducible refine LeO.bind ?_ (fun _ => ?_))
      | exact ih0 _ _ _
      | exact LeO.none _
      | refine LeO.ite ?_ ?_
      | refine LeO.bind ?_ (fun _ => ?_)
set_option maxHeartbeats 8000000 in
set_option maxRecDepth 100000 in
theorem laws_toNoteS.calls (k : Nat) (A0 : Option Addr) (c0 : Nat) (l0 : List (S62)) (r : List (S60)) (w : World) (hr0 : Kd.C k62 w A0 l0.length l0) (hc0 : l0.length ≤ c0) (h : laws_toNoteS.f k l0 = some r) :
    Calls Tryd.prog 20 #[.slice A0 l0.length c0] w fun e w' => ∃ v0_ : Value, e = .returned (v0_) ∧ Kd.R k60 60 w' w.heap.size (fun _ => True) v0_ r ∧ Below w.heap.size w w' := by
  have hu62 := Tryd.underlying62
  have hu60 := Tryd.underlying60
  have HR0 := Aside0.mk hr0
  have HC0 := Aside0.mk hc0
  clear hr0 hc0
  have HB := Aside0.mk (Below.refl w.heap.size w)
  have H : (if 0 ≤ (l0.length : Int) then (if ((l0.length : Int) : Int).toNat ≤ 17592186044416 then (laws_toNoteS.l0 k l0 (List.replicate ((l0.length : Int) : Int).toNat z60) 0) else (none)) else (none)) = some r := h
  clear h
  by_cases c2 : 0 ≤ (l0.length : Int)
  · rw [if_pos c2] at H
    have c2b0 := eq_true c2
    have c2b1 : decide (0 ≤ (l0.length : Int)) = true := decide_eq_true c2
    clear c2
    by_cases c3 : ((l0.length : Int) : Int).toNat ≤ 17592186044416
    · rw [if_pos c3] at H
      have c3b0 := eq_true c3
      have c3b1 : decide (((l0.length : Int) : Int).toNat ≤ 17592186044416) = true := decide_eq_true c3
      clear c3
      obtain ⟨y101, hy101⟩ : ∃ y_ : List (S60), y_ = (List.replicate ((l0.length : Int) : Int).toNat z60) := ⟨_, rfl⟩
      replace H : (laws_toNoteS.l0 k l0 y101 0) = some r := by first | (rw [hy101]; with_reducible exact H) | (have H2_ := (Option.bind_some _ _).symm.trans H; rw [hy101]; with_reducible exact H2_) | (have H2_ := (Option.bind_some _ _).symm.trans H; with_reducible exact H2_) | with_reducible exact H | (rw [hy101]; exact H) | exact H
      have Ny101 := Aside0.mk hy101
      clear hy101
      have H' := Aside0.mk H
      clear H
      go_enter Tryd.func20, Tryd.ntmps20
      go_wp2_with (first | ((with_reducible refine gate_dst (N := 7) rfl ?_); refine Kd.R_make k60 _ 60 rfl (N := 7) rfl 36 _ _ rfl (l0.length : Int) rfl rfl Tryd.underlying36 (.agg #[(.int .i64 0), (.int .i64 0)]) 16 info60 rfl (by decide) (by omega) z60 (ok := fun _ => True) (okp := fun _ => True) (k60_mkM _ _ _ z60 ) (fun _ hk => hk) trivial (of_decide_eq_true (by first | (with_reducible assumption) | assumption)) (Nat.le_trans (Nat.mul_le_mul_right _ (of_decide_eq_true (by first | (with_reducible assumption) | assumption) : (l0.length : Int).toNat ≤ 17592186044416)) (by omega)) (Below.refl _ _) (Nat.le_refl _) ?_; intro v102 w4 ho5 hb hg_ hnew_; clear hg_ hnew_; (first | rw [← Ny101.out] at ho5 | (simp only [Int.reduceToNat] at ho5; rw [← Ny101.out] at ho5)); have n0_ := Aside0.mk (Kd.R_lower ho5 (below_size (by repeat (first | (with_reducible first | exact HB.out | apply below_alloc | apply pw_below_drewN | apply below_drew1) | exact HB.out)))); have n1_ := Aside0.mk (below_step (by repeat (first | (with_reducible first | exact HB.out | apply below_alloc | apply pw_below_drewN | apply below_drew1) | exact HB.out)) hb); clear HB; have HO103 := n0_; have HB := n1_; clear n0_ n1_; clear hb ho5))
      go_loopg [4] k (fun kq v4 w' => ∃ (x3_1 : List (S60)) (x4_1 : Int), v4 = .int .i64 x4_1 ∧ Aside0 (laws_toNoteS.l0 kq l0 x3_1 x4_1 = some r) ∧ Aside0 (kq ≤ k) ∧ Aside0 (Kd.R k60 60 w' w.heap.size (fun _ => True) v102 x3_1) ∧ Aside0 (Below w.heap.size w w'))
      case atStart => exact ⟨(y101), (0), (by first | rfl | (simp; done) | (simp [*]; done)), H', ⟨Nat.le_refl _⟩, ⟨by (with_reducible repeat (first | apply Kd.R_alloc | apply Kd.R_drewN | apply Kd.R_drew)); exact HO103.out⟩, ⟨by repeat (first | (with_reducible first | exact HB.out | apply below_alloc | apply pw_below_drewN | apply below_drew1) | exact HB.out)⟩⟩
      case round =>
        clear H'
        try clear c2
        try clear c2b0
        try clear c2b1
        try clear p2
        try clear c3
        try clear c3b0
        try clear c3b1
        obtain ⟨x3_1, x4_1, rfl, HA, HK1, HO_3, HB⟩ := hrel
        cases gk with
        | zero => exact absurd HA.out (by simp [laws_toNoteS.l0])
        | succ k1 =>
          have H := HA.out
          clear HA
          simp only [laws_toNoteS.l0] at H
          by_cases c6 : x4_1 < (l0.length : Int)
          · rw [if_pos c6] at H
            have c6b0 : decide (x4_1 < (l0.length : Int)) = true := decide_eq_true c6
            clear c6
            by_cases c7 : 0 ≤ x4_1
            · rw [if_pos c7] at H
              have c7b0 : decide (0 ≤ x4_1) = true := decide_eq_true c7
              clear c7
              replace H := Option.bind_eq_some_iff.mp H
              obtain ⟨⟨t105, t106⟩, A80, H⟩ := H
              replace H : (if x4_1 < (x3_1.length : Int) then (laws_toNoteS.l0 k1 l0 (x3_1.set (x4_1 : Int).toNat (⟨t105, t106⟩ : S60)) (wrap64 (x4_1 + 1))) else (none)) = some r := H
              have A8 := Aside0.mk A80
              clear A80
              by_cases c9 : x4_1 < (x3_1.length : Int)
              · rw [if_pos c9] at H
                have c9b0 : decide (x4_1 < (x3_1.length : Int)) = true := decide_eq_true c9
                clear c9
                obtain ⟨y107, hy107⟩ : ∃ y_ : List (S60), y_ = (x3_1.set (x4_1 : Int).toNat (⟨t105, t106⟩ : S60)) := ⟨_, rfl⟩
                replace H : (laws_toNoteS.l0 k1 l0 y107 (wrap64 (x4_1 + 1))) = some r := by first | (rw [hy107]; with_reducible exact H) | (have H2_ := (Option.bind_some _ _).symm.trans H; rw [hy107]; with_reducible exact H2_) | (have H2_ := (Option.bind_some _ _).symm.trans H; with_reducible exact H2_) | with_reducible exact H | (rw [hy107]; exact H) | exact H
                have Ny107 := Aside0.mk hy107
                clear hy107
                have H' := Aside0.mk H
                clear H
                have p104 : 0 ≤ (x4_1 : Int) := of_decide_eq_true (by first | (with_reducible assumption) | assumption)
                have q104 : x4_1 < (l0.length : Int) := of_decide_eq_true (by first | (with_reducible assumption) | assumption)
                obtain ⟨ad104, e104, hx104_0, hx104_1⟩ := at_T62 HR0.out x4_1 p104 q104
                cases e104
                replace hx104_0 := (HB.out.cell (World.block_lt_of_cell? w _ hx104_0)).trans hx104_0
                replace hx104_1 := (HB.out.cell (World.block_lt_of_cell? w _ hx104_1)).trans hx104_1
                replace p104 := eq_true p104
                replace q104 := eq_true q104
                go_wp2_with (first | ((with_reducible refine gate_callee (f := 46) rfl ?_); refine goesL_ (some 20) rfl rfl Tryd.func46 (by kernel_rfl) rfl #[.agg #[.int .i64 ((rd_T62 l0 x4_1).f0), .int .i64 ((rd_T62 l0 x4_1).f1)]] rfl (by (try simp only [List.map_toArray, List.map_cons, List.map_nil]); first | done | rfl | (simp only [List.length_drop, List.length_take]; rfl)) ?_; (with_reducible refine (laws_toNote.calls ((rd_T62 l0 x4_1).f0) ((rd_T62 l0 x4_1).f1) t105 t106 _ A8.out).mono ?_); rintro e w11 ⟨rfl, hb⟩; refine ⟨_, rfl, ?_⟩; have n0_ := Aside0.mk (Kd.R_below (by (with_reducible repeat (first | apply Kd.R_alloc | apply Kd.R_drewN | apply Kd.R_drew)); exact HO_3.out) hb); have n1_ := Aside0.mk (below_step (by repeat (first | (with_reducible first | exact HB.out | apply below_alloc | apply pw_below_drewN | apply below_drew1) | exact HB.out)) hb); clear HO_3; clear HB; have HO_3 := n0_; have HB := n1_; clear n0_ n1_; (try clear hb); (try clear hb2); (try clear hk); (try clear hi); have p10 : 0 ≤ (x4_1 : Int) := of_decide_eq_true (by first | (with_reducible assumption) | assumption); have q10 : (x4_1 : Int) < ((x3_1.length : Int) : Int) := of_decide_eq_true (by first | (with_reducible assumption) | assumption); obtain ⟨go10, co10, eo10, gb10, gl10, cl10, HG10⟩ := Kd.R_form HO_3.out (by omega); (first | cases eo10 | (injection eo10 with ea_ en_ ec_; (first | subst ea_ | (injection ea_ with ea_; subst ea_)); subst ec_; clear en_)); have GB10 := Aside0.mk gb10; have GG10 := Aside0.mk HG10; clear gb10 gl10 HG10; obtain ⟨ce10, hcl10, hM10, hcc10, hfr10⟩ := Kd.R_elem HO_3.out z60 (x4_1 : Int) p10 q10; obtain rfl := k60_openM hM10; have hx10_0 : w11.cell? ⟨go10, (x4_1 : Int).toNat * 2, none⟩ = some (.int .i64 ((rd_T60 x3_1 x4_1).f0)) := hcc10 0 _ rfl; have hx10_1 : w11.cell? ⟨go10, (x4_1 : Int).toNat * 2 + 1, none⟩ = some (.int .i64 ((rd_T60 x3_1 x4_1).f1)) := hcc10 1 _ rfl; have hf10_0 : w11.frozen? ⟨go10, (x4_1 : Int).toNat * 2, none⟩ = false := hfr10 0; have hf10_1 : w11.frozen? ⟨go10, (x4_1 : Int).toNat * 2 + 1, none⟩ = false := hfr10 1; clear hcl10 hcc10 hfr10 hM10; replace p10 := eq_true p10; replace q10 := eq_true q10; have HX12 := Aside0.mk (show Kd.R k60 60 w11 w.heap.size (fun _ => True) (.slice (some ⟨go10, 0, none⟩) x3_1.length co10) x3_1 from (by (with_reducible repeat (first | apply Kd.R_alloc | apply Kd.R_drewN | apply Kd.R_drew)); exact HO_3.out)); obtain ⟨ce12, hcl12, hM12, hcc12, hfr12⟩ := Kd.R_elem HX12.out z60 (x4_1 : Int) (of_decide_eq_true (by first | (with_reducible assumption) | assumption)) (by have h_ : (x4_1 : Int) < ((x3_1.length : Int) : Int) := of_decide_eq_true (by first | (with_reducible assumption) | assumption); first | exact h_ | (have e_ := (Kd.R_reads' HO_3.out).1; omega) | simpa using h_); obtain rfl := k60_openM hM12; have HP12 := Kd.R_seg HX12.out (x4_1 : Int) (of_decide_eq_true (by first | (with_reducible assumption) | assumption)) (by have h_ : (x4_1 : Int) < ((x3_1.length : Int) : Int) := of_decide_eq_true (by first | (with_reducible assumption) | assumption); first | exact h_ | (have e_ := (Kd.R_reads' HO_3.out).1; omega) | simpa using h_) (seg := [.int .i64 t105, .int .i64 t106]) (j := 0) hcl12 hcc12 (show 2 ≤ 2 from by decide) (x' := (⟨t105, t106⟩ : S60)) (k60_mkM _ _ _ (⟨t105, t106⟩ : S60) ) (fun _ hk => hk); have hx12_0 := hcc12 0 _ rfl; (try simp only [show (k60).sz = 2 from rfl, Nat.mul_one, Nat.add_zero] at hx12_0); have hf12_0 := hfr12 0; (try simp only [show (k60).sz = 2 from rfl, Nat.mul_one, Nat.add_zero] at hf12_0); have hx12_1 := hcc12 1 _ rfl; (try simp only [show (k60).sz = 2 from rfl, Nat.mul_one, Nat.add_zero] at hx12_1); have hf12_1 := hfr12 1; (try simp only [show (k60).sz = 2 from rfl, Nat.mul_one, Nat.add_zero] at hf12_1); clear hcl12 hcc12 hfr12 hM12) | ((with_reducible refine gate_store (t := 60) (p := 21) rfl ?_); refine store_event (t := 60) (p := 21) (v := ?vo_w13) (w1 := ((w11.setCell ⟨go10, (x4_1 : Int).toNat * 2, none⟩ (.int .i64 t105)).setCell ⟨go10, (x4_1 : Int).toNat * 2 + 1, none⟩ (.int .i64 t106))) ?hg ?ho ?hn ?hr ?_; (case ho => rfl); (case hg => rfl); (case hn => rfl); (case hr => first | (go_simp; done) | (go_simp; rfl)); intro w13 hw; have hg : w11.grownBy w13 (some go10) := (by rw [hw]; exact HP12.2); have hp_ : Kd.R k60 60 w13 w.heap.size (fun _ => True) (.slice (some ⟨go10, 0, none⟩) x3_1.length co10) y107 := (by rw [hw, Ny107.out]; exact HP12.1); clear HP12; have n0_ := Aside0.mk (hp_); have n1_ := Aside0.mk ((by rw [hw]; exact below_set (below_set (HB.out) GB10.out) GB10.out : Below w.heap.size w w13)); clear HO_3; clear HB; have HO_3 := n0_; have HB := n1_; clear n0_ n1_; clear hg hw hp_))
                go_roundg k1
                case measure => have := HK1.out; omega
                case rel => exact ⟨(y107), (wrap64 (x4_1 + 1)), (by first | rfl | (simp; done) | (simp [*]; done)), H', ⟨by have := HK1.out; omega⟩, ⟨by (with_reducible repeat (first | apply Kd.R_alloc | apply Kd.R_drewN | apply Kd.R_drew)); exact HO_3.out⟩, ⟨by repeat (first | (with_reducible first | exact HB.out | apply below_alloc | apply pw_below_drewN | apply below_drew1) | exact HB.out)⟩⟩
              · rw [if_neg c9] at H
                exact absurd H (by simp)
            · rw [if_neg c7] at H
              exact absurd H (by simp)
          · rw [if_neg c6] at H
            have c6b0 : decide (x4_1 < (l0.length : Int)) = false := decide_eq_false c6
            clear c6
            obtain rfl := Option.some.inj H
            go_wp2
            go_ret
            exact ⟨_, by first | rfl | (simp [errW_none, errW_some] <;> rfl) | (simp [*, errW_none, errW_some] <;> rfl), by (with_reducible repeat (first | apply Kd.R_alloc | apply Kd.R_drewN | apply Kd.R_drew)); exact HO_3.out, by repeat (first | (with_reducible first | exact HB.out | apply below_alloc | apply pw_below_drewN | apply below_drew1) | exact HB.out)⟩
    · rw [if_neg c3] at H
      exact absurd H (by simp)
  · rw [if_neg c2] at H
    exact absurd H (by simp)

end Go.Proofs.YtpfalhbeeodjaaaDoor.P

/- laws_eqNote: what it answers, and that the machine's call comes to it. -/
namespace Go.Proofs.YtpfalhbeeodjaaaDoor.P
open Go.RowKit Go.Proofs.YtpfalhbeeodjaaaDoorW.PrintWords Go.Proofs.YtpfalhbeeodjaaaDoorW.PrintLast Go.Proofs.YtpfalhbeeodjaaaDoorW.PrintMore
attribute [local go_sem] max2_int min2_int max_two min_two max_three min_three max_four min_four str_leq str_gtr str_geq
set_option linter.unusedVariables false
set_option linter.unusedSimpArgs false

/-! ### laws_eqNote: function 49 -/
def laws_eqNote.f (a0_0 : Int) (a0_1 : Int) (a1_0 : Int) (a1_1 : Int) : Option (Bool) := if a0_0 = a1_0 then (if a0_1 = a1_1 then (some true) else (some false)) else (some false)
set_option maxHeartbeats 8000000 in
set_option maxRecDepth 100000 in
theorem laws_eqNote.calls (a0_0 : Int) (a0_1 : Int) (a1_0 : Int) (a1_1 : Int) (r : Bool) (w : World) (h : laws_eqNote.f a0_0 a0_1 a1_0 a1_1 = some r) :
    Calls Tryd.prog 49 #[.agg #[.int .i64 a0_0, .int .i64 a0_1], .agg #[.int .i64 a1_0, .int .i64 a1_1]] w fun e w' => e = .returned (.bool r) ∧ Below w.heap.size w w' := by
  have hu60 := Tryd.underlying60
  have HB := Aside0.mk (Below.refl w.heap.size w)
  have H : (if a0_0 = a1_0 then (if a0_1 = a1_1 then (some true) else (some false)) else (some false)) = some r := h
  clear h
  by_cases c3 : a0_0 = a1_0
  · rw [if_pos c3] at H
    have c3b0 : (a0_0 == a1_0) = true := beq_iff_eq.mpr c3
    have c3b1 : (a0_0 != a1_0) = false := bne_eq_false_iff_eq.mpr c3
    clear c3
    by_cases c4 : a0_1 = a1_1
    · rw [if_pos c4] at H
      have c4b0 : (a0_1 == a1_1) = true := beq_iff_eq.mpr c4
      have c4b1 : (a0_1 != a1_1) = false := bne_eq_false_iff_eq.mpr c4
      clear c4
      obtain rfl := Option.some.inj H
      go_enter Tryd.func49, Tryd.ntmps49
      go_wp2_with (first | ((with_reducible refine gate_dst (N := 2) rfl ?_); refine box_event ?hg (N := 2) ?hd (cs := #[.int .i64 a0_0, .int .i64 a0_1]) (t := 60) ?hr ?_; (case hd => rfl); (case hg => rfl); (case hr => first | (go_simp; done) | (go_simp; rfl)); intro gb101 hg w5 hbox hb; have n0_ := Aside0.mk (below_step (by repeat (first | (with_reducible first | exact HB.out | apply below_alloc | apply pw_below_drewN | apply below_drew1) | exact HB.out)) hb); have n1_ := Aside0.mk (hbox); have n2_ := Aside0.mk ((by rw [hg]; exact (below_size (by repeat (first | (with_reducible first | exact HB.out | apply below_alloc | apply pw_below_drewN | apply below_drew1) | exact HB.out))) : w.heap.size ≤ gb101)); have n3_ := Aside0.mk ((by rw [hg]; exact (below_size (by repeat (first | (with_reducible first | exact HB.out | apply below_alloc | apply pw_below_drewN | apply below_drew1) | exact HB.out))) : w.heap.size ≤ gb101)); clear HB; have HB := n0_; have BK101 := n1_; have GW101 := n2_; have GE101 := n3_; clear n0_ n1_ n2_ n3_; clear hb hbox hg) | ((with_reducible refine gate_dst (N := 3) rfl ?_); refine box_event ?hg (N := 3) ?hd (cs := #[.int .i64 a1_0, .int .i64 a1_1]) (t := 60) ?hr ?_; (case hd => rfl); (case hg => rfl); (case hr => first | (go_simp; done) | (go_simp; rfl)); intro gb102 hg w6 hbox hb; have n0_ := Aside0.mk (blk_below (g := gb101) (o := .cells #[.int .i64 a0_0, .int .i64 a0_1] 60 (0, 0)) (by (with_reducible repeat (first | refine blk_drewN ?_ _ | refine blk_drew ?_ | refine blk_alloc ?_ _)); exact BK101.out) hb); have n1_ := Aside0.mk (below_step (by repeat (first | (with_reducible first | exact HB.out | apply below_alloc | apply pw_below_drewN | apply below_drew1 | refine below_set ?_ GE101.out) | exact HB.out)) hb); have n2_ := Aside0.mk (hbox); have n3_ := Aside0.mk ((by rw [hg]; exact (below_size (by repeat (first | (with_reducible first | exact HB.out | apply below_alloc | apply pw_below_drewN | apply below_drew1 | refine below_set ?_ GE101.out) | exact HB.out))) : w.heap.size ≤ gb102)); have n4_ := Aside0.mk ((by rw [hg]; exact (below_size (by repeat (first | (with_reducible first | exact HB.out | apply below_alloc | apply pw_below_drewN | apply below_drew1 | refine below_set ?_ GE101.out) | exact HB.out))) : w.heap.size ≤ gb102)); have n5_ := Aside0.mk ((by rw [hg]; exact Nat.ne_of_lt (blk_lt (g := gb101) (o := .cells #[.int .i64 a0_0, .int .i64 a0_1] 60 (0, 0)) (by (with_reducible repeat (first | refine blk_drewN ?_ _ | refine blk_drew ?_ | refine blk_alloc ?_ _)); exact BK101.out)) : gb101 ≠ gb102)); have n6_ := Aside0.mk ((by rw [hg]; exact Nat.ne_of_gt (blk_lt (g := gb101) (o := .cells #[.int .i64 a0_0, .int .i64 a0_1] 60 (0, 0)) (by (with_reducible repeat (first | refine blk_drewN ?_ _ | refine blk_drew ?_ | refine blk_alloc ?_ _)); exact BK101.out)) : gb102 ≠ gb101)); clear BK101; clear HB; have BK101 := n0_; have HB := n1_; have BK102 := n2_; have GW102 := n3_; have GE102 := n4_; have NB101_102 := n5_; have NB102_101 := n6_; clear n0_ n1_ n2_ n3_ n4_ n5_ n6_; clear hb hbox hg; have hnb7 := NB101_102.out; have hnc7 := NB102_101.out; have hcz8_0 : w6.cell? ⟨gb101, 0, none⟩ = some (.int .i64 a0_0) := (blk_cell BK101.out 0).trans rfl; have hcz8_1 : w6.cell? ⟨gb101, 1, none⟩ = some (.int .i64 a0_1) := (blk_cell BK101.out 1).trans rfl; have hfz8_0 := blk_frozen BK101.out 0; have hfz8_1 := blk_frozen BK101.out 1; have hcz9_0 : w6.cell? ⟨gb102, 0, none⟩ = some (.int .i64 a1_0) := (blk_cell BK102.out 0).trans rfl; have hcz9_1 : w6.cell? ⟨gb102, 1, none⟩ = some (.int .i64 a1_1) := (blk_cell BK102.out 1).trans rfl; have hfz9_0 := blk_frozen BK102.out 0; have hfz9_1 := blk_frozen BK102.out 1))
      go_ret
      exact ⟨by first | rfl | (simp [errW_none, errW_some] <;> rfl) | (simp [*, errW_none, errW_some] <;> rfl), by repeat (first | (with_reducible first | exact HB.out | apply below_alloc | apply pw_below_drewN | apply below_drew1 | refine below_set ?_ GE101.out | refine below_set ?_ GE102.out) | exact HB.out)⟩
    · rw [if_neg c4] at H
      have c4b0 : (a0_1 == a1_1) = false := beq_eq_false_iff_ne.mpr c4
      have c4b1 : (a0_1 != a1_1) = true := bne_iff_ne.mpr c4
      obtain rfl := Option.some.inj H
      go_enter Tryd.func49, Tryd.ntmps49
      go_wp2_with (first | ((with_reducible refine gate_dst (N := 2) rfl ?_); refine box_event ?hg (N := 2) ?hd (cs := #[.int .i64 a0_0, .int .i64 a0_1]) (t := 60) ?hr ?_; (case hd => rfl); (case hg => rfl); (case hr => first | (go_simp; done) | (go_simp; rfl)); intro gb101 hg w10 hbox hb; have n0_ := Aside0.mk (below_step (by repeat (first | (with_reducible first | exact HB.out | apply below_alloc | apply pw_below_drewN | apply below_drew1) | exact HB.out)) hb); have n1_ := Aside0.mk (hbox); have n2_ := Aside0.mk ((by rw [hg]; exact (below_size (by repeat (first | (with_reducible first | exact HB.out | apply below_alloc | apply pw_below_drewN | apply below_drew1) | exact HB.out))) : w.heap.size ≤ gb101)); have n3_ := Aside0.mk ((by rw [hg]; exact (below_size (by repeat (first | (with_reducible first | exact HB.out | apply below_alloc | apply pw_below_drewN | apply below_drew1) | exact HB.out))) : w.heap.size ≤ gb101)); clear HB; have HB := n0_; have BK101 := n1_; have GW101 := n2_; have GE101 := n3_; clear n0_ n1_ n2_ n3_; clear hb hbox hg) | ((with_reducible refine gate_dst (N := 3) rfl ?_); refine box_event ?hg (N := 3) ?hd (cs := #[.int .i64 a1_0, .int .i64 a1_1]) (t := 60) ?hr ?_; (case hd => rfl); (case hg => rfl); (case hr => first | (go_simp; done) | (go_simp; rfl)); intro gb102 hg w11 hbox hb; have n0_ := Aside0.mk (blk_below (g := gb101) (o := .cells #[.int .i64 a0_0, .int .i64 a0_1] 60 (0, 0)) (by (with_reducible repeat (first | refine blk_drewN ?_ _ | refine blk_drew ?_ | refine blk_alloc ?_ _)); exact BK101.out) hb); have n1_ := Aside0.mk (below_step (by repeat (first | (with_reducible first | exact HB.out | apply below_alloc | apply pw_below_drewN | apply below_drew1 | refine below_set ?_ GE101.out) | exact HB.out)) hb); have n2_ := Aside0.mk (hbox); have n3_ := Aside0.mk ((by rw [hg]; exact (below_size (by repeat (first | (with_reducible first | exact HB.out | apply below_alloc | apply pw_below_drewN | apply below_drew1 | refine below_set ?_ GE101.out) | exact HB.out))) : w.heap.size ≤ gb102)); have n4_ := Aside0.mk ((by rw [hg]; exact (below_size (by repeat (first | (with_reducible first | exact HB.out | apply below_alloc | apply pw_below_drewN | apply below_drew1 | refine below_set ?_ GE101.out) | exact HB.out))) : w.heap.size ≤ gb102)); have n5_ := Aside0.mk ((by rw [hg]; exact Nat.ne_of_lt (blk_lt (g := gb101) (o := .cells #[.int .i64 a0_0, .int .i64 a0_1] 60 (0, 0)) (by (with_reducible repeat (first | refine blk_drewN ?_ _ | refine blk_drew ?_ | refine blk_alloc ?_ _)); exact BK101.out)) : gb101 ≠ gb102)); have n6_ := Aside0.mk ((by rw [hg]; exact Nat.ne_of_gt (blk_lt (g := gb101) (o := .cells #[.int .i64 a0_0, .int .i64 a0_1] 60 (0, 0)) (by (with_reducible repeat (first | refine blk_drewN ?_ _ | refine blk_drew ?_ | refine blk_alloc ?_ _)); exact BK101.out)) : gb102 ≠ gb101)); clear BK101; clear HB; have BK101 := n0_; have HB := n1_; have BK102 := n2_; have GW102 := n3_; have GE102 := n4_; have NB101_102 := n5_; have NB102_101 := n6_; clear n0_ n1_ n2_ n3_ n4_ n5_ n6_; clear hb hbox hg; have hnb12 := NB101_102.out; have hnc12 := NB102_101.out; have hcz13_0 : w11.cell? ⟨gb101, 0, none⟩ = some (.int .i64 a0_0) := (blk_cell BK101.out 0).trans rfl; have hcz13_1 : w11.cell? ⟨gb101, 1, none⟩ = some (.int .i64 a0_1) := (blk_cell BK101.out 1).trans rfl; have hfz13_0 := blk_frozen BK101.out 0; have hfz13_1 := blk_frozen BK101.out 1; have hcz14_0 : w11.cell? ⟨gb102, 0, none⟩ = some (.int .i64 a1_0) := (blk_cell BK102.out 0).trans rfl; have hcz14_1 : w11.cell? ⟨gb102, 1, none⟩ = some (.int .i64 a1_1) := (blk_cell BK102.out 1).trans rfl; have hfz14_0 := blk_frozen BK102.out 0; have hfz14_1 := blk_frozen BK102.out 1))
      go_ret
      exact ⟨by first | rfl | (simp [errW_none, errW_some] <;> rfl) | (simp [*, errW_none, errW_some] <;> rfl), by repeat (first | (with_reducible first | exact HB.out | apply below_alloc | apply pw_below_drewN | apply below_drew1 | refine below_set ?_ GE101.out | refine below_set ?_ GE102.out) | exact HB.out)⟩
  · rw [if_neg c3] at H
    have c3b0 : (a0_0 == a1_0) = false := beq_eq_false_iff_ne.mpr c3
    have c3b1 : (a0_0 != a1_0) = true := bne_iff_ne.mpr c3
    obtain rfl := Option.some.inj H
    go_enter Tryd.func49, Tryd.ntmps49
    go_wp2_with (first | ((with_reducible refine gate_dst (N := 2) rfl ?_); refine box_event ?hg (N := 2) ?hd (cs := #[.int .i64 a0_0, .int .i64 a0_1]) (t := 60) ?hr ?_; (case hd => rfl); (case hg => rfl); (case hr => first | (go_simp; done) | (go_simp; rfl)); intro gb101 hg w15 hbox hb; have n0_ := Aside0.mk (below_step (by repeat (first | (with_reducible first | exact HB.out | apply below_alloc | apply pw_below_drewN | apply below_drew1) | exact HB.out)) hb); have n1_ := Aside0.mk (hbox); have n2_ := Aside0.mk ((by rw [hg]; exact (below_size (by repeat (first | (with_reducible first | exact HB.out | apply below_alloc | apply pw_below_drewN | apply below_drew1) | exact HB.out))) : w.heap.size ≤ gb101)); have n3_ := Aside0.mk ((by rw [hg]; exact (below_size (by repeat (first | (with_reducible first | exact HB.out | apply below_alloc | apply pw_below_drewN | apply below_drew1) | exact HB.out))) : w.heap.size ≤ gb101)); clear HB; have HB := n0_; have BK101 := n1_; have GW101 := n2_; have GE101 := n3_; clear n0_ n1_ n2_ n3_; clear hb hbox hg) | ((with_reducible refine gate_dst (N := 3) rfl ?_); refine box_event ?hg (N := 3) ?hd (cs := #[.int .i64 a1_0, .int .i64 a1_1]) (t := 60) ?hr ?_; (case hd => rfl); (case hg => rfl); (case hr => first | (go_simp; done) | (go_simp; rfl)); intro gb102 hg w16 hbox hb; have n0_ := Aside0.mk (blk_below (g := gb101) (o := .cells #[.int .i64 a0_0, .int .i64 a0_1] 60 (0, 0)) (by (with_reducible repeat (first | refine blk_drewN ?_ _ | refine blk_drew ?_ | refine blk_alloc ?_ _)); exact BK101.out) hb); have n1_ := Aside0.mk (below_step (by repeat (first | (with_reducible first | exact HB.out | apply below_alloc | apply pw_below_drewN | apply below_drew1 | refine below_set ?_ GE101.out) | exact HB.out)) hb); have n2_ := Aside0.mk (hbox); have n3_ := Aside0.mk ((by rw [hg]; exact (below_size (by repeat (first | (with_reducible first | exact HB.out | apply below_alloc | apply pw_below_drewN | apply below_drew1 | refine below_set ?_ GE101.out) | exact HB.out))) : w.heap.size ≤ gb102)); have n4_ := Aside0.mk ((by rw [hg]; exact (below_size (by repeat (first | (with_reducible first | exact HB.out | apply below_alloc | apply pw_below_drewN | apply below_drew1 | refine below_set ?_ GE101.out) | exact HB.out))) : w.heap.size ≤ gb102)); have n5_ := Aside0.mk ((by rw [hg]; exact Nat.ne_of_lt (blk_lt (g := gb101) (o := .cells #[.int .i64 a0_0, .int .i64 a0_1] 60 (0, 0)) (by (with_reducible repeat (first | refine blk_drewN ?_ _ | refine blk_drew ?_ | refine blk_alloc ?_ _)); exact BK101.out)) : gb101 ≠ gb102)); have n6_ := Aside0.mk ((by rw [hg]; exact Nat.ne_of_gt (blk_lt (g := gb101) (o := .cells #[.int .i64 a0_0, .int .i64 a0_1] 60 (0, 0)) (by (with_reducible repeat (first | refine blk_drewN ?_ _ | refine blk_drew ?_ | refine blk_alloc ?_ _)); exact BK101.out)) : gb102 ≠ gb101)); clear BK101; clear HB; have BK101 := n0_; have HB := n1_; have BK102 := n2_; have GW102 := n3_; have GE102 := n4_; have NB101_102 := n5_; have NB102_101 := n6_; clear n0_ n1_ n2_ n3_ n4_ n5_ n6_; clear hb hbox hg; have hnb17 := NB101_102.out; have hnc17 := NB102_101.out; have hcz18_0 : w16.cell? ⟨gb101, 0, none⟩ = some (.int .i64 a0_0) := (blk_cell BK101.out 0).trans rfl; have hcz18_1 : w16.cell? ⟨gb101, 1, none⟩ = some (.int .i64 a0_1) := (blk_cell BK101.out 1).trans rfl; have hfz18_0 := blk_frozen BK101.out 0; have hfz18_1 := blk_frozen BK101.out 1; have hcz19_0 : w16.cell? ⟨gb102, 0, none⟩ = some (.int .i64 a1_0) := (blk_cell BK102.out 0).trans rfl; have hcz19_1 : w16.cell? ⟨gb102, 1, none⟩ = some (.int .i64 a1_1) := (blk_cell BK102.out 1).trans rfl; have hfz19_0 := blk_frozen BK102.out 0; have hfz19_1 := blk_frozen BK102.out 1))
    go_ret
    exact ⟨by first | rfl | (simp [errW_none, errW_some] <;> rfl) | (simp [*, errW_none, errW_some] <;> rfl), by repeat (first | (with_reducible first | exact HB.out | apply below_alloc | apply pw_below_drewN | apply below_drew1 | refine below_set ?_ GE101.out | refine below_set ?_ GE102.out) | exact HB.out)⟩

end Go.Proofs.YtpfalhbeeodjaaaDoor.P

/- laws_eqNoteS: what it answers, and that the machine's call comes to it. -/
namespace Go.Proofs.YtpfalhbeeodjaaaDoor.P
open Go.RowKit Go.Proofs.YtpfalhbeeodjaaaDoorW.PrintWords Go.Proofs.YtpfalhbeeodjaaaDoorW.PrintLast Go.Proofs.YtpfalhbeeodjaaaDoorW.PrintMore
attribute [local go_sem] max2_int min2_int max_two min_two max_three min_three max_four min_four str_leq str_gtr str_geq
set_option linter.unusedVariables false
set_option linter.unusedSimpArgs false

/-! ### laws_eqNoteS: function 22 -/
def laws_eqNoteS.l0 : Nat → List (S60) → List (S60) → Int → Option (Bool)
  | 0, _, _, _ => none
  | k + 1, x0, x1, x5 => if x5 < (x0.length : Int) then (if 0 ≤ x5 then (if x5 < (x1.length : Int) then ((laws_eqNote.f ((rd_T60 x0 x5).f0) ((rd_T60 x0 x5).f1) ((rd_T60 x1 x5).f0) ((rd_T60 x1 x5).f1)).bind fun t103 => (if t103 = true then (laws_eqNoteS.l0 k x0 x1 (wrap64 (x5 + 1))) else (some false))) else (none)) else (none)) else (some true)
def laws_eqNoteS.f (k : Nat) (l0 : List (S60)) (l1 : List (S60)) : Option (Bool) := if (l0.length : Int) = (l1.length : Int) then (laws_eqNoteS.l0 k l0 l1 0) else (some false)
theorem laws_eqNoteS.mono_l : ∀ k, (∀ y0 y1 y2, LeO (laws_eqNoteS.l0 k y0 y1 y2) (laws_eqNoteS.l0 (k + 1) y0 y1 y2))
  | 0 => fun _ _ _ r h => by simp [laws_eqNoteS.l0] at h
  | k + 1 => by
    have ih0 := laws_eqNoteS.mono_l k
    · intro y0 y1 y2
      unfold laws_eqNoteS.l0
      repeat' first
      | (with_reducible exact ih0 _ _ _)
      | (with_reducible exact LeO.refl _)
      | (with_reducible exact LeO.none _)
      | (with_reducible refine LeO.ite ?_ ?_)
      | (with_reducible refine LeO.bind ?_ (fun _ => ?_))
      | exact ih0 _ _ _
      | exact LeO.none _
      | refine LeO.ite ?_ ?_
      | refine LeO.bind ?_ (fun _ => ?_)
theorem laws_eqNoteS.mono : ∀ a0 a1 k, LeO (laws_eqNoteS.f k a0 a1) (laws_eqNoteS.f (k + 1) a0 a1) := by
  intro a0 a1 k
  have ih0 := laws_eqNoteS.mono_l k
  unfold laws_eqNoteS.f
  repeat' first
      | (with_reducible exact ih0 _ _ _)
      | (with_reducible exact LeO.refl _)
      | (with_reducible exact LeO.none _)
      | (with_reducible refine LeO.ite ?_ ?_)
      | (with_reducible refine LeO.bind ?_ (fun _ => ?_))
      | exact ih0 _ _ _
      | exact LeO.none _
      | refine LeO.ite ?_ ?_
      | refine LeO.bind ?_ (fun _ => ?_)
def laws_eqNoteS.T6 : Bool × List (List Nat × List Nat) := (true, [([], []), ([], []), ([0, 1], [0, 1]), ([2], [2]), ([], []), ([], []), ([4, 5], [4, 5]), ([6], [6]), ([3, 7], [3, 7]), ([8], [8])])
def laws_eqNoteS.B6 : List Nat := [0, 0, 3, 7, 0, 0, 48, 112, 255, 511]
theorem laws_eqNoteS.tab6 : rtab .any (opsOf Tryd.f22 6) = laws_eqNoteS.T6 := by kernel_rfl
theorem laws_eqNoteS.bits6 : waitsOk laws_eqNoteS.T6.2 laws_eqNoteS.B6 = true := by kernel_rfl
set_option maxHeartbeats 8000000 in
set_option maxRecDepth 100000 in
theorem laws_eqNoteS.calls (k : Nat) (A0 : Option Addr) (c0 : Nat) (l0 : List (S60)) (A1 : Option Addr) (c1 : Nat) (l1 : List (S60)) (r : Bool) (w : World) (hr0 : Kd.C k60 w A0 l0.length l0) (hc0 : l0.length ≤ c0) (hr1 : Kd.C k60 w A1 l1.length l1) (hc1 : l1.length ≤ c1) (h : laws_eqNoteS.f k l0 l1 = some r) :
    Calls Tryd.prog 22 #[.slice A0 l0.length c0, .slice A1 l1.length c1] w fun e w' => e = .returned (.bool r) ∧ Below w.heap.size w w' := by
  have hu60 := Tryd.underlying60
  have HR0 := Aside0.mk hr0
  have HC0 := Aside0.mk hc0
  clear hr0 hc0
  have HR1 := Aside0.mk hr1
  have HC1 := Aside0.mk hc1
  clear hr1 hc1
  have HB := Aside0.mk (Below.refl w.heap.size w)
  have H : (if (l0.length : Int) = (l1.length : Int) then (laws_eqNoteS.l0 k l0 l1 0) else (some false)) = some r := h
  clear h
  by_cases c3 : (l0.length : Int) = (l1.length : Int)
  · rw [if_pos c3] at H
    have c3b0 : ((l0.length : Int) == (l1.length : Int)) = true := beq_iff_eq.mpr c3
    have c3b1 : ((l0.length : Int) != (l1.length : Int)) = false := bne_eq_false_iff_eq.mpr c3
    have c3b2 : (l0.length == l1.length) = true := by first | simpa using c3 | (simp at c3 ⊢; omega)
    clear c3
    have H' := Aside0.mk H
    clear H
    go_enter Tryd.func22, Tryd.ntmps22
    go_wp2
    go_loopg [5] k (fun kq v5 w' => ∃ (x5_1 : Int), v5 = .int .i64 x5_1 ∧ Aside0 (laws_eqNoteS.l0 kq l0 l1 x5_1 = some r) ∧ Aside0 (kq ≤ k) ∧ Aside0 (Below w.heap.size w w'))
    case atStart => exact ⟨(0), (by first | rfl | (simp; done) | (simp [*]; done)), H', ⟨Nat.le_refl _⟩, ⟨by repeat (first | (with_reducible first | exact HB.out | apply below_alloc | apply pw_below_drewN | apply below_drew1) | exact HB.out)⟩⟩
    case round =>
      clear H'
      try clear c1
      try clear c2
      try clear p2
      try clear c3
      try clear c3b0
      try clear c3b1
      try clear c3b2
      obtain ⟨x5_1, rfl, HA, HK1, HB⟩ := hrel
      cases gk with
      | zero => exact absurd HA.out (by simp [laws_eqNoteS.l0])
      | succ k1 =>
        have H := HA.out
        clear HA
        simp only [laws_eqNoteS.l0] at H
        by_cases c4 : x5_1 < (l0.length : Int)
        · rw [if_pos c4] at H
          have c4b0 : decide (x5_1 < (l0.length : Int)) = true := decide_eq_true c4
          clear c4
          by_cases c5 : 0 ≤ x5_1
          · rw [if_pos c5] at H
            have c5b0 : decide (0 ≤ x5_1) = true := decide_eq_true c5
            clear c5
            by_cases c6 : x5_1 < (l1.length : Int)
            · rw [if_pos c6] at H
              have c6b0 : decide (x5_1 < (l1.length : Int)) = true := decide_eq_true c6
              clear c6
              replace H := Option.bind_eq_some_iff.mp H
              obtain ⟨t103, A70, H⟩ := H
              replace H : (if t103 = true then (laws_eqNoteS.l0 k1 l0 l1 (wrap64 (x5_1 + 1))) else (some false)) = some r := H
              have A7 := Aside0.mk A70
              clear A70
              by_cases c8 : t103 = true
              · subst c8
                have H1 : (laws_eqNoteS.l0 k1 l0 l1 (wrap64 (x5_1 + 1))) = some r := by rw [if_pos rfl] at H; exact H
                clear H
                have H := H1
                clear H1
                have H' := Aside0.mk H
                clear H
                try go_wp2
                have n0_ := Aside0.mk (below_drew1 HB.out)
                clear HB
                have HB := n0_
                clear n0_
                have p101 : 0 ≤ (x5_1 : Int) := of_decide_eq_true (by first | (with_reducible assumption) | assumption)
                have q101 : x5_1 < (l0.length : Int) := of_decide_eq_true (by first | (with_reducible assumption) | assumption)
                obtain ⟨ad101, e101, hx101_0, hx101_1⟩ := at_T60 HR0.out x5_1 p101 q101
                have hw101_1 := hx101_1
                have hw101_0 := hx101_0
                cases e101
                replace hx101_0 := (HB.out.cell (World.block_lt_of_cell? w _ hx101_0)).trans hx101_0
                replace hx101_1 := (HB.out.cell (World.block_lt_of_cell? w _ hx101_1)).trans hx101_1
                replace p101 := eq_true p101
                replace q101 := eq_true q101
                have p102 : 0 ≤ (x5_1 : Int) := of_decide_eq_true (by first | (with_reducible assumption) | assumption)
                have q102 : x5_1 < (l1.length : Int) := of_decide_eq_true (by first | (with_reducible assumption) | assumption)
                obtain ⟨ad102, e102, hx102_0, hx102_1⟩ := at_T60 HR1.out x5_1 p102 q102
                have hw102_1 := hx102_1
                have hw102_0 := hx102_0
                cases e102
                replace hx102_0 := (HB.out.cell (World.block_lt_of_cell? w _ hx102_0)).trans hx102_0
                replace hx102_1 := (HB.out.cell (World.block_lt_of_cell? w _ hx102_1)).trans hx102_1
                replace p102 := eq_true p102
                replace q102 := eq_true q102
                refine start_ (n := 10) (S := fun w' => w'.cell? (ad101.add ((x5_1).toNat * 2)) = some (.int .i64 ((rd_T60 l0 x5_1).f0)) ∧ w'.cell? ⟨(ad101.add ((x5_1).toNat * 2)).block, (ad101.add ((x5_1).toNat * 2)).off + 1, none⟩ = some (.int .i64 ((rd_T60 l0 x5_1).f1)) ∧ w'.cell? (ad102.add ((x5_1).toNat * 2)) = some (.int .i64 ((rd_T60 l1 x5_1).f0)) ∧ w'.cell? ⟨(ad102.add ((x5_1).toNat * 2)).block, (ad102.add ((x5_1).toNat * 2)).off + 1, none⟩ = some (.int .i64 ((rd_T60 l1 x5_1).f1))) (ds := []) #[false, false, false, false, false, false, false, false, false, false] (by kernel_rfl) rfl rfl ⟨((HB.out.cell (World.block_lt_of_cell? w _ hw101_0)).trans hw101_0), ((HB.out.cell (World.block_lt_of_cell? w _ hw101_1)).trans hw101_1), ((HB.out.cell (World.block_lt_of_cell? w _ hw102_0)).trans hw102_0), ((HB.out.cell (World.block_lt_of_cell? w _ hw102_1)).trans hw102_1)⟩ (fun hHeld => ?_); refine with_tabW laws_eqNoteS.tab6 laws_eqNoteS.bits6 (fun HT_ HW_ => ?_)
                generalize wr.drew = w9 at HB hx101_0 hx101_1 hx102_0 hx102_1 hHeld ⊢
                refine pure_ (i := 0) (N := some 17) (v := ?_) (a' := ?_) #[true, false, false, false, false, false, false, false, false, false] rfl rfl (any_of HT_.out (by kernel_rfl)) (fun _ _ _ h => h) (Or.inl ⟨by rfl, ?_⟩) ?_ ?_
                rotate_left
                · intro w'
                  go_simp
                  with_reducible rfl
                rotate_left
                · simp only [Act.put, List.setIfInBounds_toArray, List.set_cons_zero, List.set_cons_succ, i64_w, i32_w]
                  rfl
                refine pure_ (i := 1) (N := some 18) (v := ?_) (a' := ?_) #[true, true, false, false, false, false, false, false, false, false] rfl rfl (any_of HT_.out (by kernel_rfl)) (fun _ _ _ h => h) (Or.inl ⟨by rfl, ?_⟩) ?_ ?_
                rotate_left
                · intro w'
                  go_simp
                  with_reducible rfl
                rotate_left
                · simp only [Act.put, List.setIfInBounds_toArray, List.set_cons_zero, List.set_cons_succ, i64_w, i32_w]
                  rfl
                refine pure_ (i := 2) (N := some 19) (v := ?_) (a' := ?_) #[true, true, true, false, false, false, false, false, false, false] rfl rfl (any_of HT_.out (by kernel_rfl)) (fun _ _ _ h => h) (Or.inl ⟨by rfl, ?_⟩) ?_ ?_
                rotate_left
                · intro w'
                  go_simp
                  with_reducible rfl
                rotate_left
                · simp only [Act.put, List.setIfInBounds_toArray, List.set_cons_zero, List.set_cons_succ, i64_w, i32_w]
                  rfl
                refine pure_ (i := 4) (N := some 21) (v := ?_) (a' := ?_) #[true, true, true, false, true, false, false, false, false, false] rfl rfl (any_of HT_.out (by kernel_rfl)) (fun _ _ _ h => h) (Or.inl ⟨by rfl, ?_⟩) ?_ ?_
                rotate_left
                · intro w'
                  go_simp
                  with_reducible rfl
                rotate_left
                · simp only [Act.put, List.setIfInBounds_toArray, List.set_cons_zero, List.set_cons_succ, i64_w, i32_w]
                  rfl
                refine pure_ (i := 5) (N := some 22) (v := ?_) (a' := ?_) #[true, true, true, false, true, true, false, false, false, false] rfl rfl (any_of HT_.out (by kernel_rfl)) (fun _ _ _ h => h) (Or.inl ⟨by rfl, ?_⟩) ?_ ?_
                rotate_left
                · intro w'
                  go_simp
                  with_reducible rfl
                rotate_left
                · simp only [Act.put, List.setIfInBounds_toArray, List.set_cons_zero, List.set_cons_succ, i64_w, i32_w]
                  rfl
                refine pure_ (i := 6) (N := some 23) (v := ?_) (a' := ?_) #[true, true, true, false, true, true, true, false, false, false] rfl rfl (any_of HT_.out (by kernel_rfl)) (fun _ _ _ h => h) (Or.inl ⟨by rfl, ?_⟩) ?_ ?_
                rotate_left
                · intro w'
                  go_simp
                  with_reducible rfl
                rotate_left
                · simp only [Act.put, List.setIfInBounds_toArray, List.set_cons_zero, List.set_cons_succ, i64_w, i32_w]
                  rfl
                refine take_ (i := 3) (N := some 20) (v := ?_) (a' := ?_) #[true, true, true, true, true, true, true, false, false, false] rfl rfl (take_ofW HT_.out HW_.out (by kernel_rfl)) (fun _ _ _ h => h) (Or.inl ⟨by rfl, ?_⟩) hHeld ?_ ?_
                rotate_left
                · rintro w' ⟨s0, s1, s2, s3⟩
                  go_simp
                  with_reducible rfl
                rotate_left
                · simp only [Act.put, List.setIfInBounds_toArray, List.set_cons_zero, List.set_cons_succ, i64_w, i32_w]
                  rfl
                refine take_ (i := 7) (N := some 24) (v := ?_) (a' := ?_) #[true, true, true, true, true, true, true, true, false, false] rfl rfl (take_ofW HT_.out HW_.out (by kernel_rfl)) (fun _ _ _ h => h) (Or.inl ⟨by rfl, ?_⟩) hHeld ?_ ?_
                rotate_left
                · rintro w' ⟨s0, s1, s2, s3⟩
                  go_simp
                  with_reducible rfl
                rotate_left
                · simp only [Act.put, List.setIfInBounds_toArray, List.set_cons_zero, List.set_cons_succ, i64_w, i32_w]
                  rfl
                refine one_ (i := 8) (N := some 25) #[true, true, true, true, true, true, true, true, true, false] rfl rfl (one_of HT_.out (by kernel_rfl)) (by decide) (fun K hK => ?_)
                refine goes_ Tryd.func49 (by kernel_rfl) rfl #[.agg #[.int .i64 ((rd_T60 l0 x5_1).f0), .int .i64 ((rd_T60 l0 x5_1).f1)], .agg #[.int .i64 ((rd_T60 l1 x5_1).f0), .int .i64 ((rd_T60 l1 x5_1).f1)]] (by rfl) rfl rfl (by (try simp only [List.map_toArray, List.map_cons, List.map_nil]); first | done | rfl | (simp only [List.length_drop, List.length_take]; rfl)) ?_
                with_reducible refine (laws_eqNote.calls ((rd_T60 l0 x5_1).f0) ((rd_T60 l0 x5_1).f1) ((rd_T60 l1 x5_1).f0) ((rd_T60 l1 x5_1).f1) true _ A7.out).mono ?_
                rintro e w10 ⟨rfl, hb⟩
                refine ⟨_, rfl, ?_⟩
                have n0_ := Aside0.mk (below_step (by repeat (first | (with_reducible first | exact HB.out | apply below_alloc | apply pw_below_drewN | apply below_drew1) | exact HB.out)) hb)
                clear HB
                have HB := n0_
                clear n0_
                (try clear hb)
                (try clear hb2)
                (try clear hk)
                (try clear hi)
                refine hK.out _ _ ⟨((HB.out.cell (World.block_lt_of_cell? w _ hw101_0)).trans hw101_0), ((HB.out.cell (World.block_lt_of_cell? w _ hw101_1)).trans hw101_1), ((HB.out.cell (World.block_lt_of_cell? w _ hw102_0)).trans hw102_0), ((HB.out.cell (World.block_lt_of_cell? w _ hw102_1)).trans hw102_1)⟩ (fun hHeld => ?_)
                clear hK K
                refine norm_ (a' := ?_) ?_ ?_
                rotate_left
                · show Act.put _ (some 25) _ = _
                  simp only [Act.put, List.setIfInBounds_toArray, List.set_cons_zero, List.set_cons_succ, i64_w, i32_w]
                  rfl
                refine pure_ (i := 9) (N := some 26) (v := ?_) (a' := ?_) #[true, true, true, true, true, true, true, true, true, true] rfl rfl (any_of HT_.out (by kernel_rfl)) (fun _ _ _ h => h) (Or.inl ⟨by rfl, ?_⟩) ?_ ?_
                rotate_left
                · intro w'
                  go_simp
                  with_reducible rfl
                rotate_left
                · simp only [Act.put, List.setIfInBounds_toArray, List.set_cons_zero, List.set_cons_succ, i64_w, i32_w]
                  rfl
                refine done_ (done_of HT_.out (by kernel_rfl)) ?_
                try go_wp2
                go_roundg k1
                case measure => have := HK1.out; omega
                case rel => exact ⟨(wrap64 (x5_1 + 1)), (by first | rfl | (simp; done) | (simp [*]; done)), H', ⟨by have := HK1.out; omega⟩, ⟨by repeat (first | (with_reducible first | exact HB.out | apply below_alloc | apply pw_below_drewN | apply below_drew1) | exact HB.out)⟩⟩
              · replace c8 := Bool.eq_false_iff.mpr c8
                subst c8
                have H1 : (some false) = some r := by rw [if_neg (show ¬ (false = true) by decide)] at H; exact H
                clear H
                have H := H1
                clear H1
                obtain rfl := Option.some.inj H
                try go_wp2
                have n0_ := Aside0.mk (below_drew1 HB.out)
                clear HB
                have HB := n0_
                clear n0_
                have p101 : 0 ≤ (x5_1 : Int) := of_decide_eq_true (by first | (with_reducible assumption) | assumption)
                have q101 : x5_1 < (l0.length : Int) := of_decide_eq_true (by first | (with_reducible assumption) | assumption)
                obtain ⟨ad101, e101, hx101_0, hx101_1⟩ := at_T60 HR0.out x5_1 p101 q101
                have hw101_1 := hx101_1
                have hw101_0 := hx101_0
                cases e101
                replace hx101_0 := (HB.out.cell (World.block_lt_of_cell? w _ hx101_0)).trans hx101_0
                replace hx101_1 := (HB.out.cell (World.block_lt_of_cell? w _ hx101_1)).trans hx101_1
                replace p101 := eq_true p101
                replace q101 := eq_true q101
                have p102 : 0 ≤ (x5_1 : Int) := of_decide_eq_true (by first | (with_reducible assumption) | assumption)
                have q102 : x5_1 < (l1.length : Int) := of_decide_eq_true (by first | (with_reducible assumption) | assumption)
                obtain ⟨ad102, e102, hx102_0, hx102_1⟩ := at_T60 HR1.out x5_1 p102 q102
                have hw102_1 := hx102_1
                have hw102_0 := hx102_0
                cases e102
                replace hx102_0 := (HB.out.cell (World.block_lt_of_cell? w _ hx102_0)).trans hx102_0
                replace hx102_1 := (HB.out.cell (World.block_lt_of_cell? w _ hx102_1)).trans hx102_1
                replace p102 := eq_true p102
                replace q102 := eq_true q102
                refine start_ (n := 10) (S := fun w' => w'.cell? (ad101.add ((x5_1).toNat * 2)) = some (.int .i64 ((rd_T60 l0 x5_1).f0)) ∧ w'.cell? ⟨(ad101.add ((x5_1).toNat * 2)).block, (ad101.add ((x5_1).toNat * 2)).off + 1, none⟩ = some (.int .i64 ((rd_T60 l0 x5_1).f1)) ∧ w'.cell? (ad102.add ((x5_1).toNat * 2)) = some (.int .i64 ((rd_T60 l1 x5_1).f0)) ∧ w'.cell? ⟨(ad102.add ((x5_1).toNat * 2)).block, (ad102.add ((x5_1).toNat * 2)).off + 1, none⟩ = some (.int .i64 ((rd_T60 l1 x5_1).f1))) (ds := []) #[false, false, false, false, false, false, false, false, false, false] (by kernel_rfl) rfl rfl ⟨((HB.out.cell (World.block_lt_of_cell? w _ hw101_0)).trans hw101_0), ((HB.out.cell (World.block_lt_of_cell? w _ hw101_1)).trans hw101_1), ((HB.out.cell (World.block_lt_of_cell? w _ hw102_0)).trans hw102_0), ((HB.out.cell (World.block_lt_of_cell? w _ hw102_1)).trans hw102_1)⟩ (fun hHeld => ?_); refine with_tabW laws_eqNoteS.tab6 laws_eqNoteS.bits6 (fun HT_ HW_ => ?_)
                generalize wr.drew = w11 at HB hx101_0 hx101_1 hx102_0 hx102_1 hHeld ⊢
                refine pure_ (i := 0) (N := some 17) (v := ?_) (a' := ?_) #[true, false, false, false, false, false, false, false, false, false] rfl rfl (any_of HT_.out (by kernel_rfl)) (fun _ _ _ h => h) (Or.inl ⟨by rfl, ?_⟩) ?_ ?_
                rotate_left
                · intro w'
                  go_simp
                  with_reducible rfl
                rotate_left
                · simp only [Act.put, List.setIfInBounds_toArray, List.set_cons_zero, List.set_cons_succ, i64_w, i32_w]
                  rfl
                refine pure_ (i := 1) (N := some 18) (v := ?_) (a' := ?_) #[true, true, false, false, false, false, false, false, false, false] rfl rfl (any_of HT_.out (by kernel_rfl)) (fun _ _ _ h => h) (Or.inl ⟨by rfl, ?_⟩) ?_ ?_
                rotate_left
                · intro w'
                  go_simp
                  with_reducible rfl
                rotate_left
                · simp only [Act.put, List.setIfInBounds_toArray, List.set_cons_zero, List.set_cons_succ, i64_w, i32_w]
                  rfl
                refine pure_ (i := 2) (N := some 19) (v := ?_) (a' := ?_) #[true, true, true, false, false, false, false, false, false, false] rfl rfl (any_of HT_.out (by kernel_rfl)) (fun _ _ _ h => h) (Or.inl ⟨by rfl, ?_⟩) ?_ ?_
                rotate_left
                · intro w'
                  go_simp
                  with_reducible rfl
                rotate_left
                · simp only [Act.put, List.setIfInBounds_toArray, List.set_cons_zero, List.set_cons_succ, i64_w, i32_w]
                  rfl
                refine pure_ (i := 4) (N := some 21) (v := ?_) (a' := ?_) #[true, true, true, false, true, false, false, false, false, false] rfl rfl (any_of HT_.out (by kernel_rfl)) (fun _ _ _ h => h) (Or.inl ⟨by rfl, ?_⟩) ?_ ?_
                rotate_left
                · intro w'
                  go_simp
                  with_reducible rfl
                rotate_left
                · simp only [Act.put, List.setIfInBounds_toArray, List.set_cons_zero, List.set_cons_succ, i64_w, i32_w]
                  rfl
                refine pure_ (i := 5) (N := some 22) (v := ?_) (a' := ?_) #[true, true, true, false, true, true, false, false, false, false] rfl rfl (any_of HT_.out (by kernel_rfl)) (fun _ _ _ h => h) (Or.inl ⟨by rfl, ?_⟩) ?_ ?_
                rotate_left
                · intro w'
                  go_simp
                  with_reducible rfl
                rotate_left
                · simp only [Act.put, List.setIfInBounds_toArray, List.set_cons_zero, List.set_cons_succ, i64_w, i32_w]
                  rfl
                refine pure_ (i := 6) (N := some 23) (v := ?_) (a' := ?_) #[true, true, true, false, true, true, true, false, false, false] rfl rfl (any_of HT_.out (by kernel_rfl)) (fun _ _ _ h => h) (Or.inl ⟨by rfl, ?_⟩) ?_ ?_
                rotate_left
                · intro w'
                  go_simp
                  with_reducible rfl
                rotate_left
                · simp only [Act.put, List.setIfInBounds_toArray, List.set_cons_zero, List.set_cons_succ, i64_w, i32_w]
                  rfl
                refine take_ (i := 3) (N := some 20) (v := ?_) (a' := ?_) #[true, true, true, true, true, true, true, false, false, false] rfl rfl (take_ofW HT_.out HW_.out (by kernel_rfl)) (fun _ _ _ h => h) (Or.inl ⟨by rfl, ?_⟩) hHeld ?_ ?_
                rotate_left
                · rintro w' ⟨s0, s1, s2, s3⟩
                  go_simp
                  with_reducible rfl
                rotate_left
                · simp only [Act.put, List.setIfInBounds_toArray, List.set_cons_zero, List.set_cons_succ, i64_w, i32_w]
                  rfl
                refine take_ (i := 7) (N := some 24) (v := ?_) (a' := ?_) #[true, true, true, true, true, true, true, true, false, false] rfl rfl (take_ofW HT_.out HW_.out (by kernel_rfl)) (fun _ _ _ h => h) (Or.inl ⟨by rfl, ?_⟩) hHeld ?_ ?_
                rotate_left
                · rintro w' ⟨s0, s1, s2, s3⟩
                  go_simp
                  with_reducible rfl
                rotate_left
                · simp only [Act.put, List.setIfInBounds_toArray, List.set_cons_zero, List.set_cons_succ, i64_w, i32_w]
                  rfl
                refine one_ (i := 8) (N := some 25) #[true, true, true, true, true, true, true, true, true, false] rfl rfl (one_of HT_.out (by kernel_rfl)) (by decide) (fun K hK => ?_)
                refine goes_ Tryd.func49 (by kernel_rfl) rfl #[.agg #[.int .i64 ((rd_T60 l0 x5_1).f0), .int .i64 ((rd_T60 l0 x5_1).f1)], .agg #[.int .i64 ((rd_T60 l1 x5_1).f0), .int .i64 ((rd_T60 l1 x5_1).f1)]] (by rfl) rfl rfl (by (try simp only [List.map_toArray, List.map_cons, List.map_nil]); first | done | rfl | (simp only [List.length_drop, List.length_take]; rfl)) ?_
                with_reducible refine (laws_eqNote.calls ((rd_T60 l0 x5_1).f0) ((rd_T60 l0 x5_1).f1) ((rd_T60 l1 x5_1).f0) ((rd_T60 l1 x5_1).f1) false _ A7.out).mono ?_
                rintro e w12 ⟨rfl, hb⟩
                refine ⟨_, rfl, ?_⟩
                have n0_ := Aside0.mk (below_step (by repeat (first | (with_reducible first | exact HB.out | apply below_alloc | apply pw_below_drewN | apply below_drew1) | exact HB.out)) hb)
                clear HB
                have HB := n0_
                clear n0_
                (try clear hb)
                (try clear hb2)
                (try clear hk)
                (try clear hi)
                refine hK.out _ _ ⟨((HB.out.cell (World.block_lt_of_cell? w _ hw101_0)).trans hw101_0), ((HB.out.cell (World.block_lt_of_cell? w _ hw101_1)).trans hw101_1), ((HB.out.cell (World.block_lt_of_cell? w _ hw102_0)).trans hw102_0), ((HB.out.cell (World.block_lt_of_cell? w _ hw102_1)).trans hw102_1)⟩ (fun hHeld => ?_)
                clear hK K
                refine norm_ (a' := ?_) ?_ ?_
                rotate_left
                · show Act.put _ (some 25) _ = _
                  simp only [Act.put, List.setIfInBounds_toArray, List.set_cons_zero, List.set_cons_succ, i64_w, i32_w]
                  rfl
                refine pure_ (i := 9) (N := some 26) (v := ?_) (a' := ?_) #[true, true, true, true, true, true, true, true, true, true] rfl rfl (any_of HT_.out (by kernel_rfl)) (fun _ _ _ h => h) (Or.inl ⟨by rfl, ?_⟩) ?_ ?_
                rotate_left
                · intro w'
                  go_simp
                  with_reducible rfl
                rotate_left
                · simp only [Act.put, List.setIfInBounds_toArray, List.set_cons_zero, List.set_cons_succ, i64_w, i32_w]
                  rfl
                refine done_ (done_of HT_.out (by kernel_rfl)) ?_
                try go_wp2
                go_ret
                exact ⟨by first | rfl | (simp [errW_none, errW_some] <;> rfl) | (simp [*, errW_none, errW_some] <;> rfl), by repeat (first | (with_reducible first | exact HB.out | apply below_alloc | apply pw_below_drewN | apply below_drew1) | exact HB.out)⟩
            · rw [if_neg c6] at H
              exact absurd H (by simp)
          · rw [if_neg c5] at H
            exact absurd H (by simp)
        · rw [if_neg c4] at H
          have c4b0 : decide (x5_1 < (l0.length : Int)) = false := decide_eq_false c4
          clear c4
          obtain rfl := Option.some.inj H
          go_wp2
          go_ret
          exact ⟨by first | rfl | (simp [errW_none, errW_some] <;> rfl) | (simp [*, errW_none, errW_some] <;> rfl), by repeat (first | (with_reducible first | exact HB.out | apply below_alloc | apply pw_below_drewN | apply below_drew1) | exact HB.out)⟩
  · rw [if_neg c3] at H
    have c3b0 : ((l0.length : Int) == (l1.length : Int)) = false := beq_eq_false_iff_ne.mpr c3
    have c3b1 : ((l0.length : Int) != (l1.length : Int)) = true := bne_iff_ne.mpr c3
    have c3b2 : (l0.length == l1.length) = false := by first | simpa using c3 | (simp at c3 ⊢; omega)
    obtain rfl := Option.some.inj H
    go_enter Tryd.func22, Tryd.ntmps22
    go_wp2
    go_ret
    exact ⟨by first | rfl | (simp [errW_none, errW_some] <;> rfl) | (simp [*, errW_none, errW_some] <;> rfl), by repeat (first | (with_reducible first | exact HB.out | apply below_alloc | apply pw_below_drewN | apply below_drew1) | exact HB.out)⟩

end Go.Proofs.YtpfalhbeeodjaaaDoor.P

/- The laws' own functions on plain data: sizes, copies, equality: what each answers. Printed by program out of the types. -/
namespace Go.Proofs.YtpfalhbeeodjaaaDoor.P
open Go.RowKit Go.Proofs.YtpfalhbeeodjaaaDoorW.PrintWords Go.Proofs.YtpfalhbeeodjaaaDoorL
set_option linter.unusedVariables false
set_option linter.unusedSimpArgs false

theorem toInt64S_eq {l : List Int} (hl : l.length ≤ 1048576) {k : Nat} (hk : 1048600 ≤ k) : laws_toInt64S.f k l = some l := by
  unfold laws_toInt64S.f
  rw [if_pos (nn_cast _), if_pos (by simp; omega)]
  rw [set_loop (fun k acc i => laws_toInt64S.l0 k l acc i) l (fun x => x) 0 (fun k i hi acc ha _ => ?_) (fun k acc => ?_) k _ (by omega) (by simp)]
  · simp
  · simp only [laws_toInt64S.l0]
    rw [if_pos (lt_cast hi), if_pos (nn_cast i), if_pos (by omega), rd_get hi, wrap_succ hi (by omega)]
    rfl
  · simp only [laws_toInt64S.l0]
    rw [if_neg (nlt_cast _)]
theorem eqInt64S_eq {a b : List Int} (hl : a.length ≤ 1048576) {k : Nat} (hk : 1048600 ≤ k) : laws_eqInt64S.f k a b = some (decide (a = b)) := by
  unfold laws_eqInt64S.f
  by_cases h : a.length = b.length
  · rw [if_pos (by omega)]
    refine eq_loop (fun k i => laws_eqInt64S.l0 k a b i) a b h 0 (fun k i h1 h2 _ => ?_) (fun k => ?_) k (by omega)
    · simp only [laws_eqInt64S.l0]
      rw [if_pos (lt_cast h1), if_pos (nn_cast i), if_pos (lt_cast h2), rd_get h1, rd_get h2, wrap_succ h1 (by omega)]

    · simp only [laws_eqInt64S.l0]
      rw [if_neg (nlt_cast _)]
  · rw [if_neg (by omega)]
    have : a ≠ b := fun e => h (by rw [e])
    simp [this]
/-! ### Note -/
def cNote (x : S62) : S60 := ⟨x.f0, x.f1⟩
def smNote (x : S62) : Prop := True
theorem rd_lNote {l : List S62} {i : Nat} (h : i < l.length) : rd_T62 l (i : Int) = l[i] := by
  simp [rd_T62, List.getD_eq_getElem?_getD, List.getElem?_eq_getElem h]
theorem rd_iNote {l : List S60} {i : Nat} (h : i < l.length) : rd_T60 l (i : Int) = l[i] := by
  simp [rd_T60, List.getD_eq_getElem?_getD, List.getElem?_eq_getElem h]
theorem ext_iNote {a b : S60} : a = b ↔ a.f0 = b.f0 ∧ a.f1 = b.f1 := by
  cases a; cases b; simp
instance : DecidableEq S60 := fun _ _ => decidable_of_iff _ ext_iNote.symm
theorem szNoteS_some {l : List S62} (hl : l.length ≤ maxLen) (hg : ∀ y ∈ l, Go.Proofs.YtpfalhbeeodjaaaDoor.g62 y) {a : Int} (ha0 : 0 ≤ a) (ha : a ≤ 1048576) {k : Nat} (_hk : 1048600 ≤ k) : ∃ r, laws_szNoteS.f l a = some r ∧ (r < 0 ∨ (0 ≤ r ∧ r ≤ a ∧ l.length ≤ 1048576 ∧ ∀ y ∈ l, smNote y)) := by
  have hl' : l.length ≤ 9223372036854775807 := by simpa only [maxLen] using hl
  unfold laws_szNoteS.f
  rw [wrap_id (by omega) (by omega)]
  by_cases h0 : a - (l.length : Int) < 0
  · rw [if_pos h0]; exact ⟨-1, rfl, .inl (by omega)⟩
  · rw [if_neg h0]; exact ⟨_, rfl, .inr ⟨by omega, by omega, by omega, fun y hy => by unfold smNote; trivial⟩⟩
theorem toNote_eq {x : S62} (hs : smNote x) : laws_toNote.f x.f0 x.f1 = some ((cNote x).f0, (cNote x).f1) := by
  unfold smNote at hs
  unfold laws_toNote.f
  rfl
theorem toNoteS_eq {l : List S62} (hl : l.length ≤ 1048576) (hs : ∀ y ∈ l, smNote y) {k : Nat} (hk : 1048600 ≤ k) : laws_toNoteS.f k l = some (l.map cNote) := by
  unfold laws_toNoteS.f
  rw [if_pos (nn_cast _), if_pos (by simp; omega)]
  refine set_loop (fun k acc i => laws_toNoteS.l0 k l acc i) l cNote 0 (fun k i hi acc ha hB => ?_) (fun k acc => ?_) k _ (by omega) (by simp)
  · simp only [laws_toNoteS.l0]
    rw [if_pos (lt_cast hi), if_pos (nn_cast i), rd_lNote hi, wrap_succ hi (by omega), toNote_eq (hs _ (List.getElem_mem hi))]
    simp only [Option.bind_some]
    rw [if_pos (by omega)]
    rfl
  · simp only [laws_toNoteS.l0]
    rw [if_neg (nlt_cast _)]
def smiNote (x : S60) : Prop := True
theorem smi_cNote {x : S62} (hs : smNote x) : smiNote (cNote x) := by
  unfold smNote at hs
  unfold smiNote
  trivial
theorem eqNote_eq {a b : S60} (hs : smiNote a) : laws_eqNote.f a.f0 a.f1 b.f0 b.f1 = some (decide (a = b)) := by
  unfold smiNote at hs
  unfold laws_eqNote.f
  by_cases e0 : a.f0 = b.f0
  rotate_left
  · rw [if_neg e0]; have hne : ¬ a = b := fun e => e0 (ext_iNote.1 e).1; simp [hne]
  rw [if_pos e0]
  by_cases e1 : a.f1 = b.f1
  rotate_left
  · rw [if_neg e1]; have hne : ¬ a = b := fun e => e1 (ext_iNote.1 e).2; simp [hne]
  rw [if_pos e1]
  rw [decide_eq_true (ext_iNote.2 ⟨e0, e1⟩)]
theorem eqNoteS_eq {a b : List S60} (hl : a.length ≤ 1048576) (hs : ∀ y ∈ a, smiNote y) {k : Nat} (hk : 1048600 ≤ k) : laws_eqNoteS.f k a b = some (decide (a = b)) := by
  unfold laws_eqNoteS.f
  by_cases h : a.length = b.length
  · rw [if_pos (by omega)]
    refine eq_loop (fun k i => laws_eqNoteS.l0 k a b i) a b h 0 (fun k i h1 h2 hB => ?_) (fun k => ?_) k (by omega)
    · simp only [laws_eqNoteS.l0]
      rw [if_pos (lt_cast h1), if_pos (nn_cast i), if_pos (lt_cast h2), rd_iNote h1, rd_iNote h2, wrap_succ h1 (by omega), eqNote_eq (hs _ (List.getElem_mem h1))]
      simp only [Option.bind_some, decide_eq_true_eq]
    · simp only [laws_eqNoteS.l0]
      rw [if_neg (nlt_cast _)]
  · rw [if_neg (by omega)]
    have : a ≠ b := fun e => h (by rw [e])
    simp [this]
end Go.Proofs.YtpfalhbeeodjaaaDoor.P

/- The plain law behind FnExactTonesIn: both write the same scale. Conditions: none beyond the kinds' own bounds. -/
namespace Go.Proofs.YtpfalhbeeodjaaaDoor.Pure
open Go.RowKit Go.Proofs.YtpfalhbeeodjaaaDoorW.PrintWords Go.Proofs.YtpfalhbeeodjaaaDoorL Go.Proofs.YtpfalhbeeodjaaaDoor.P
theorem FnExactTonesIn : ∀ (x0 : Int) (x1 : Int) (x2 : List Int), (Lit.int .i64 x0).wf = true → (Lit.int .i64 x1).wf = true → (x2.length ≤ maxLen ∧ ∀ y ∈ x2, (Lit.int .i64 y).wf = true) → ∃ k : Nat, P.laws_FnExactTonesIn.f k x0 x1 x2 = some true := by
  intro s k l _ _ _
  refine ⟨3000000, ?_⟩
  unfold laws_FnExactTonesIn.f
  by_cases hz : (l.length : Int) > 1048576
  · rw [if_pos hz]
  rw [if_neg hz]
  have hl : l.length ≤ 1048576 := by omega
  rw [toInt64S_eq hl (by omega)]; simp only [Option.bind_some]
  rw [TonesIn_spec s k hl (by omega), TonesIn_impl s k hl (by omega)]
  simp only [Option.bind_some, if_true]
  show laws_FnExactTonesIn.j0 (2999999 + 1) l l _ = _
  simp only [laws_FnExactTonesIn.j0, bne_self_eq_false, Bool.false_eq_true, if_false]
  rw [toInt64S_eq hl (by omega)]; simp only [Option.bind_some]
  rw [eqInt64S_eq hl (by omega)]; simp
end Go.Proofs.YtpfalhbeeodjaaaDoor.Pure
