/- Plain lemmas: loops over lists as the print writes them. No program in sight. -/
import Derived.Test.YtpfalhbeeodjaaaDoorWWords
namespace Go.Proofs.YtpfalhbeeodjaaaDoorL
open Go.RowKit Go.Proofs.YtpfalhbeeodjaaaDoorW.PrintWords

theorem wrap_id {x : Int} (h0 : -9223372036854775808 ≤ x) (h1 : x ≤ 9223372036854775807) : wrap64 x = x := by unfold wrap64; omega
theorem wrap_succ {i n : Nat} (h : i < n) (hn : n ≤ 4611686018427387904) : wrap64 ((i : Int) + 1) = ((i + 1 : Nat) : Int) := by
  rw [wrap_id (by omega) (by omega)]; omega
theorem lt_cast {i n : Nat} (h : i < n) : (i : Int) < (n : Int) := by omega
theorem nn_cast (i : Nat) : 0 ≤ (i : Int) := by omega
theorem nlt_cast (n : Nat) : ¬ ((n : Int) < (n : Int)) := by omega
theorem drop_cons {α : Type} {l : List α} {i : Nat} (h : i < l.length) : l.drop i = l[i] :: l.drop (i + 1) := List.drop_eq_getElem_cons h

/-- A loop over a list: at each element it answers, or it goes on behind it. G: what it answers from a rest on. -/
theorem list_loop {α σ ρ : Type} (L : Nat → σ → Int → Option ρ) (l : List α) (G : List α → σ → ρ) (Inv : Nat → σ → Prop) (B : Nat)
    (step : ∀ (k i : Nat) (hi : i < l.length) (s : σ), Inv i s → B ≤ k →
      L (k + 1) s (i : Int) = some (G (l[i] :: l.drop (i + 1)) s) ∨ ∃ s', Inv (i + 1) s' ∧ G (l[i] :: l.drop (i + 1)) s = G (l.drop (i + 1)) s' ∧ L (k + 1) s (i : Int) = L k s' ((i + 1 : Nat) : Int))
    (stop : ∀ (k : Nat) (s : σ), Inv l.length s → L (k + 1) s (l.length : Int) = some (G [] s)) :
    ∀ (k : Nat) (s : σ), B + l.length < k → Inv 0 s → L k s 0 = some (G l s) := by
  have main : ∀ (d k i : Nat) (s : σ), i + d = l.length → B + d < k → Inv i s → L k s (i : Int) = some (G (l.drop i) s) := by
    intro d
    induction d with
    | zero =>
      intro k i s hi hk hI
      obtain ⟨k, rfl⟩ : ∃ m, k = m + 1 := ⟨k - 1, by omega⟩
      have : i = l.length := by omega
      subst this
      rw [stop k s hI, List.drop_length]
    | succ d ih =>
      intro k i s hi hk hI
      obtain ⟨k, rfl⟩ : ∃ m, k = m + 1 := ⟨k - 1, by omega⟩
      have hlt : i < l.length := by omega
      rw [drop_cons hlt]
      rcases step k i hlt s hI (by omega) with h | ⟨s', hI', hG, hL⟩
      · exact h
      · rw [hL, hG]
        exact ih k (i + 1) s' (by omega) (by omega) hI'
  intro k s hk hI
  have := main l.length k 0 s (by omega) hk hI
  simpa using this

/-- The same without a state. -/
theorem list_loop0 {α ρ : Type} (L : Nat → Int → Option ρ) (l : List α) (G : List α → ρ) (B : Nat)
    (step : ∀ (k i : Nat) (hi : i < l.length), B ≤ k →
      L (k + 1) (i : Int) = some (G (l[i] :: l.drop (i + 1))) ∨ (G (l[i] :: l.drop (i + 1)) = G (l.drop (i + 1)) ∧ L (k + 1) (i : Int) = L k ((i + 1 : Nat) : Int)))
    (stop : ∀ (k : Nat), L (k + 1) (l.length : Int) = some (G [])) :
    ∀ (k : Nat), B + l.length < k → L k 0 = some (G l) := by
  intro k hk
  exact list_loop (σ := Unit) (fun k _ i => L k i) l (fun l _ => G l) (fun _ _ => True) B (fun k i hi s _ hB => by
    rcases step k i hi hB with h | ⟨h1, h2⟩
    · exact .inl h
    · exact .inr ⟨(), trivial, h1, h2⟩) (fun k _ _ => stop k) k () hk trivial

/-- A loop that fills a list that was made, place by place. -/
theorem set_loop {α β : Type} (L : Nat → List β → Int → Option (List β)) (l : List α) (g : α → β) (B : Nat)
    (step : ∀ (k i : Nat) (hi : i < l.length) (acc : List β), acc.length = l.length → B ≤ k → L (k + 1) acc (i : Int) = L k (acc.set i (g l[i])) ((i + 1 : Nat) : Int))
    (stop : ∀ (k : Nat) (acc : List β), L (k + 1) acc (l.length : Int) = some acc) :
    ∀ (k : Nat) (acc : List β), B + l.length < k → acc.length = l.length → L k acc 0 = some (l.map g) := by
  have main : ∀ (d k i : Nat) (acc : List β), i + d = l.length → B + d < k → acc.length = l.length → L k acc (i : Int) = some (acc.take i ++ (l.drop i).map g) := by
    intro d
    induction d with
    | zero =>
      intro k i acc hi hk ha
      obtain ⟨k, rfl⟩ : ∃ m, k = m + 1 := ⟨k - 1, by omega⟩
      have : i = l.length := by omega
      subst this
      rw [stop k acc, List.drop_length, List.take_of_length_le (by omega)]
      simp
    | succ d ih =>
      intro k i acc hi hk ha
      obtain ⟨k, rfl⟩ : ∃ m, k = m + 1 := ⟨k - 1, by omega⟩
      have hlt : i < l.length := by omega
      rw [step k i hlt acc ha (by omega), ih k (i + 1) _ (by omega) (by omega) (by simpa using ha), drop_cons hlt]
      have h2 : (acc.set i (g l[i])).take (i + 1) = acc.take i ++ [g l[i]] := by
        rw [List.take_succ_eq_append_getElem (by simp; omega)]
        have h3 : (acc.set i (g l[i])).take i = acc.take i := by
          apply List.ext_getElem
          · simp
          · intro j h1 h2
            simp at h1
            simp [List.getElem_set_ne (show i ≠ j by omega)]
        rw [h3]
        simp
      rw [h2]
      simp only [List.append_assoc, List.singleton_append, List.map_cons]
  intro k acc hk ha
  have := main l.length k 0 acc (by omega) hk ha
  simpa using this

/-- A loop that compares two lists of one length, place by place. -/
theorem eq_loop {α : Type} [DecidableEq α] (L : Nat → Int → Option Bool) (a b : List α) (hab : a.length = b.length) (B : Nat)
    (step : ∀ (k i : Nat) (h : i < a.length) (h2 : i < b.length), B ≤ k → L (k + 1) (i : Int) = if a[i] = b[i] then L k ((i + 1 : Nat) : Int) else some false)
    (stop : ∀ (k : Nat), L (k + 1) (a.length : Int) = some true) :
    ∀ (k : Nat), B + a.length < k → L k 0 = some (decide (a = b)) := by
  have main : ∀ (d k i : Nat), i + d = a.length → B + d < k → L k (i : Int) = some (decide (a.drop i = b.drop i)) := by
    intro d
    induction d with
    | zero =>
      intro k i hi hk
      obtain ⟨k, rfl⟩ : ∃ m, k = m + 1 := ⟨k - 1, by omega⟩
      obtain rfl : i = a.length := by omega
      rw [stop k, List.drop_length, hab, List.drop_length]
      rfl
    | succ d ih =>
      intro k i hi hk
      obtain ⟨k, rfl⟩ : ∃ m, k = m + 1 := ⟨k - 1, by omega⟩
      have h1 : i < a.length := by omega
      have h2 : i < b.length := by omega
      rw [step k i h1 h2 (by omega), ih k (i + 1) (by omega) (by omega)]
      rw [show (decide (a.drop i = b.drop i)) = decide (a[i] = b[i] ∧ a.drop (i + 1) = b.drop (i + 1)) from by
        congr 1; rw [drop_cons h1, drop_cons h2, List.cons.injEq]]
      by_cases e : a[i] = b[i]
      · rw [if_pos e]; simp [e]
      · rw [if_neg e]; simp [e]
  intro k hk
  have := main a.length k 0 (by omega) hk
  simpa using this

/-- A loop that asks each index below n and stops at the first that says no. -/
theorem all_loop (L : Nat → Int → Option Bool) (n : Nat) (p : Nat → Bool) (fin : Bool) (B : Nat)
    (step : ∀ (k i : Nat), i < n → B ≤ k → L (k + 1) (i : Int) = if p i = true then L k ((i + 1 : Nat) : Int) else some false)
    (stop : ∀ (k : Nat), B ≤ k → L (k + 1) (n : Int) = some fin) :
    ∀ (k : Nat), B + n < k → L k 0 = some ((List.range n).all p && fin) := by
  have main : ∀ (d k i : Nat), i + d = n → B + d < k → L k (i : Int) = some ((List.range' i d).all p && fin) := by
    intro d
    induction d with
    | zero =>
      intro k i hi hk
      obtain ⟨k, rfl⟩ : ∃ m, k = m + 1 := ⟨k - 1, by omega⟩
      obtain rfl : i = n := by omega
      rw [stop k (by omega)]; simp
    | succ d ih =>
      intro k i hi hk
      obtain ⟨k, rfl⟩ : ∃ m, k = m + 1 := ⟨k - 1, by omega⟩
      rw [step k i (by omega) (by omega), List.range'_succ, List.all_cons]
      by_cases h : p i = true
      · rw [if_pos h, ih k (i + 1) (by omega) (by omega), h]; simp
      · rw [if_neg h]; simp [h]
  intro k hk
  have := main n k 0 (by omega) hk
  rw [List.range_eq_range']
  exact this

theorem pred_cast {i n : Nat} (h0 : 0 < i) (h : i < n) (hn : n ≤ 4611686018427387904) : wrap64 ((i : Int) - 1) = ((i - 1 : Nat) : Int) := by
  rw [wrap_id (by omega) (by omega)]; omega

theorem rd_get {l : List Int} {i : Nat} (h : i < l.length) : rd l (i : Int) = l[i] := by
  simp [rd, List.getD_eq_getElem?_getD, List.getElem?_eq_getElem h]
theorem rdOf_get {α : Type} {z : α} {l : List α} {i : Nat} (h : i < l.length) : rdOf z l (i : Int) = l[i] := by
  simp [rdOf, List.getD_eq_getElem?_getD, List.getElem?_eq_getElem h]

/-- A list marked with rising numbers from m on (each element takes c x of them), and the number behind. -/
def mkl {α : Type} (g : α → Int → α) (c : α → Int) : List α → Int → List α
  | [], _ => []
  | x :: r, m => g x m :: mkl g c r (m + c x)
def mtot {α : Type} (c : α → Int) : List α → Int → Int
  | [], m => m
  | x :: r, m => mtot c r (m + c x)
theorem mtot_ge {α : Type} {c : α → Int} (hc : ∀ x, 0 ≤ c x) : ∀ (l : List α) (m : Int), m ≤ mtot c l m
  | [], m => by simp [mtot]
  | x :: r, m => by
    have := mtot_ge hc r (m + c x)
    have := hc x
    simp only [mtot]; omega
theorem mtot_const {α : Type} (n : Int) : ∀ (l : List α) (m : Int), mtot (fun _ => n) l m = m + n * l.length
  | [], m => by simp [mtot]
  | x :: r, m => by
    simp only [mtot, mtot_const n r, List.length_cons]
    rw [show ((r.length + 1 : Nat) : Int) = (r.length : Int) + 1 from by omega, Int.mul_add]
    omega
theorem mkl_length {α : Type} (g : α → Int → α) (c : α → Int) : ∀ (l : List α) (m : Int), (mkl g c l m).length = l.length
  | [], _ => rfl
  | x :: r, m => by simp [mkl, mkl_length g c r]
theorem mark_loop {α : Type} (L : Nat → List α → Int → Int → Option (Int × List α)) (g : α → Int → α) (c : α → Int) (M : Int) (B : Nat) (hc : ∀ x, 0 ≤ c x)
    (step : ∀ (k : Nat) (pre : List α) (x : α) (rest : List α) (m : Int), B ≤ k → pre.length < 4611686018427387904 → 0 ≤ m → m + c x ≤ M →
      L (k + 1) (pre ++ x :: rest) m (pre.length : Int) = L k (pre ++ g x m :: rest) (m + c x) ((pre.length + 1 : Nat) : Int))
    (stop : ∀ (k : Nat) (l : List α) (m : Int), L (k + 1) l m (l.length : Int) = some (m, l)) :
    ∀ (k : Nat) (l : List α) (m : Int), B + l.length < k → l.length ≤ 4611686018427387904 → 0 ≤ m → mtot c l m ≤ M → L k l m 0 = some (mtot c l m, mkl g c l m) := by
  have main : ∀ (rest : List α) (k : Nat) (pre : List α) (m : Int), B + rest.length < k → pre.length + rest.length ≤ 4611686018427387904 → 0 ≤ m → mtot c rest m ≤ M →
      L k (pre ++ rest) m (pre.length : Int) = some (mtot c rest m, pre ++ mkl g c rest m) := by
    intro rest
    induction rest with
    | nil =>
      intro k pre m hk _ _ _
      obtain ⟨k, rfl⟩ : ∃ m, k = m + 1 := ⟨k - 1, by omega⟩
      have := stop k pre m
      simpa [mtot, mkl] using this
    | cons x r ih =>
      intro k pre m hk hl hm hM
      obtain ⟨k, rfl⟩ : ∃ m, k = m + 1 := ⟨k - 1, by omega⟩
      simp only [List.length_cons] at hk hl
      have h1 := mtot_ge hc r (m + c x)
      have h2 := hc x
      simp only [mtot] at hM
      rw [step k pre x r m (by omega) (by omega) hm (by omega)]
      have h3 := ih k (pre ++ [g x m]) (m + c x) (by omega) (by simp; omega) (by omega) hM
      simpa [mtot, mkl, List.append_assoc] using h3
  intro k l m hk hl hm hM
  have := main l k [] m hk (by simpa using hl) hm hM
  simpa using this
theorem held_loop {α : Type} (L : Nat → Int → Int → Option Int) (g : α → Int → α) (c : α → Int) (M : Int) (B : Nat) (hc : ∀ x, 0 ≤ c x) (l' : List α)
    (step : ∀ (k : Nat) (pre : List α) (x : α) (rest : List α) (m : Int), l' = pre ++ g x m :: rest → B ≤ k → pre.length < 4611686018427387904 → 0 ≤ m → m + c x ≤ M →
      L (k + 1) m (pre.length : Int) = L k (m + c x) ((pre.length + 1 : Nat) : Int))
    (stop : ∀ (k : Nat) (m : Int), L (k + 1) m (l'.length : Int) = some m) :
    ∀ (k : Nat) (l : List α) (m : Int), l' = mkl g c l m → B + l.length < k → l.length ≤ 4611686018427387904 → 0 ≤ m → mtot c l m ≤ M → L k m 0 = some (mtot c l m) := by
  have main : ∀ (rest : List α) (k : Nat) (pre : List α) (m : Int), l' = pre ++ mkl g c rest m → B + rest.length < k → pre.length + rest.length ≤ 4611686018427387904 → 0 ≤ m → mtot c rest m ≤ M →
      L k m (pre.length : Int) = some (mtot c rest m) := by
    intro rest
    induction rest with
    | nil =>
      intro k pre m he hk _ _ _
      obtain ⟨k, rfl⟩ : ∃ m, k = m + 1 := ⟨k - 1, by omega⟩
      have := stop k m
      have e : l'.length = pre.length := by rw [he]; simp [mkl]
      rw [e] at this
      simpa [mtot] using this
    | cons x r ih =>
      intro k pre m he hk hl hm hM
      obtain ⟨k, rfl⟩ : ∃ m, k = m + 1 := ⟨k - 1, by omega⟩
      simp only [List.length_cons] at hk hl
      have h1 := mtot_ge hc r (m + c x)
      have h2 := hc x
      simp only [mtot] at hM
      rw [step k pre x (mkl g c r (m + c x)) m (by simpa [mkl] using he) (by omega) (by omega) hm (by omega)]
      have h3 := ih k (pre ++ [g x m]) (m + c x) (by simpa [mkl, List.append_assoc] using he) (by omega) (by simp; omega) (by omega) hM
      simpa [mtot] using h3
  intro k l m he hk hl hm hM
  have := main l k [] m (by simpa using he) hk (by simpa using hl) hm hM
  simpa using this
theorem rd_mid {pre rest : List Int} {x : Int} : rd (pre ++ x :: rest) (pre.length : Int) = x := by simp [rd]
theorem rdOf_mid {α : Type} {z : α} {pre rest : List α} {x : α} : rdOf z (pre ++ x :: rest) (pre.length : Int) = x := by simp [rdOf]
theorem set_mid {α : Type} {pre rest : List α} {x v : α} : (pre ++ x :: rest).set ((pre.length : Int)).toNat v = pre ++ v :: rest := by simp

theorem bytes_eq {a b : ByteArray} : a.toList = b.toList ↔ a = b := by
  constructor
  · intro h
    have h2 : a.data.toList = b.data.toList := by
      have e : ∀ x : ByteArray, x.toList = x.data.toList := ByteArray.toList_eq
      rw [← e, ← e]; exact h
    cases a; cases b
    simp at h2
    rw [h2]
  · intro h; rw [h]
end Go.Proofs.YtpfalhbeeodjaaaDoorL
