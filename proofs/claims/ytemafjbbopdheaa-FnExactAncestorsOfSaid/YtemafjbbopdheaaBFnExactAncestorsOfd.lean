/- Part d of what FnExactAncestorsOf stands on: functions of the program as Lean functions with their walks, and plain lemmas. -/
import Derived.Test.YtemafjbbopdheaaBFnExactAncestorsOfb
import Derived.Test.YtemafjbbopdheaaBFnExactAncestorsOfc
import Derived.Test.YtemafjbbopdheaaK
import Derived.Test.YtemafjbbopdheaaBFnExactAncestorsOfa
/- The versions from which a version comes. -/
namespace Go.Proofs.Ytemafjbbopdheaa.P
open Go.RowKit Go.Proofs.YtemafjbbopdheaaW.PrintWords Go.Proofs.YtemafjbbopdheaaL
def par (l : List S89) (n : Int) : Int := (rd_T89 l (n - 1)).f1
def lineL (l : List S89) : Nat → Int → List Int
  | 0, _ => []
  | d + 1, n => if n ≤ 0 then [] else n :: lineL l d (par l n)
theorem history_facts {l : List S89} (h : historyB l = true) : l.length ≤ 32 ∧ ∀ n : Int, 1 ≤ n → n ≤ l.length → 0 ≤ par l n ∧ par l n ≤ n - 1 := by
  unfold historyB at h
  simp only [Bool.and_eq_true, decide_eq_true_eq, List.all_eq_true, List.mem_range] at h
  refine ⟨h.2, fun n h1 h2 => ?_⟩
  have := h.1 (n - 1).toNat (by omega)
  unfold versionAt at this
  simp only [Bool.and_eq_true, decide_eq_true_eq] at this
  rw [Int.toNat_of_nonneg (by omega)] at this
  exact this.1.1.2
theorem lineL_length (l : List S89) : ∀ d n, (lineL l d n).length ≤ d
  | 0, _ => by simp [lineL]
  | d + 1, n => by
    unfold lineL
    split
    · simp
    · have := lineL_length l d (par l n); simp; omega
theorem lineOf_l0 {l : List S89} (h : historyB l = true) : ∀ (d k : Nat) (n : Int) (acc : List Int), 0 ≤ n → n ≤ d → n ≤ l.length → d < k → acc.length + d ≤ 1000 → impl_lineOf.l0 k l n acc = some (acc ++ lineL l d n) := by
  obtain ⟨_, hp⟩ := history_facts h
  intro d
  induction d with
  | zero =>
    intro k n acc h0 h1 h2 hk ha
    obtain ⟨k, rfl⟩ : ∃ m, k = m + 1 := ⟨k - 1, by omega⟩
    simp only [impl_lineOf.l0]
    rw [if_neg (by omega)]; simp [lineL]
  | succ d ih =>
    intro k n acc h0 h1 h2 hk ha
    obtain ⟨k, rfl⟩ : ∃ m, k = m + 1 := ⟨k - 1, by omega⟩
    simp only [impl_lineOf.l0, lineL]
    by_cases hn : n > 0
    · have hpn := hp n (by omega) h2
      rw [if_pos hn, if_pos (by omega), wrap_id (x := n - 1) (by omega) (by omega), if_pos (by omega), if_pos (by omega), if_neg (by omega)]
      show impl_lineOf.l0 k l (par l n) (acc ++ [n]) = _
      rw [ih k (par l n) _ (by omega) (by omega) (by omega) (by omega) (by simp; omega)]
      simp
    · rw [if_neg hn, if_pos (by omega)]; simp
theorem lineOf_eq {l : List S89} (h : historyB l = true) {n : Int} (h0 : 0 ≤ n) (h2 : n ≤ l.length) {k : Nat} (hk : 100 ≤ k) : impl_lineOf.f k l n = some (lineL l 40 n) := by
  unfold impl_lineOf.f
  have := (history_facts h).1
  rw [lineOf_l0 h 40 k n [] h0 (by omega) h2 (by omega) (by simp)]; simp
theorem above_l0 {l : List S89} (h : historyB l = true) : ∀ (d k : Nat) (n : Int) (acc : List Int), 0 ≤ n → n ≤ d → n ≤ l.length → d < k → acc.length + d ≤ 1000 → spec_l27Above.l0 k l n acc = some (acc ++ (lineL l (d + 1) n).tail) := by
  obtain ⟨_, hp⟩ := history_facts h
  intro d
  induction d with
  | zero =>
    intro k n acc h0 h1 h2 hk ha
    obtain ⟨k, rfl⟩ : ∃ m, k = m + 1 := ⟨k - 1, by omega⟩
    simp only [spec_l27Above.l0, lineL]
    rw [if_pos (by omega), if_pos (by omega)]; simp
  | succ d ih =>
    intro k n acc h0 h1 h2 hk ha
    obtain ⟨k, rfl⟩ : ∃ m, k = m + 1 := ⟨k - 1, by omega⟩
    rw [spec_l27Above.l0]
    by_cases hn : n = 0
    · rw [if_pos hn, lineL, if_pos (by omega)]; simp
    · have hpn := hp n (by omega) h2
      rw [if_neg hn, wrap_id (x := n - 1) (by omega) (by omega), if_pos (by omega), if_pos (by omega)]
      rw [show lineL l (d + 1 + 1) n = n :: lineL l (d + 1) (par l n) from by rw [lineL, if_neg (by omega)]]
      rw [List.tail_cons]
      show (if par l n = 0 then spec_l27Above.l0 k l (par l n) acc else if acc.length < 17592186044416 then spec_l27Above.l0 k l (par l n) (acc ++ [par l n]) else none) = _
      by_cases hz : par l n = 0
      · rw [if_pos hz, ih k (par l n) acc (by omega) (by omega) (by omega) (by omega) (by omega)]
        rw [lineL, if_pos (by omega)]; rfl
      · rw [if_neg hz, if_pos (by omega), ih k (par l n) _ (by omega) (by omega) (by omega) (by omega) (by simp; omega)]
        rw [show lineL l (d + 1) (par l n) = par l n :: lineL l d (par l (par l n)) from by rw [lineL, if_neg (by omega)]]
        simp
theorem above_eq {l : List S89} (h : historyB l = true) {n : Int} (h0 : 0 ≤ n) (h2 : n ≤ l.length) {k : Nat} (hk : 100 ≤ k) : spec_l27Above.f k l n = some (lineL l 40 n).tail := by
  unfold spec_l27Above.f
  have := (history_facts h).1
  rw [above_l0 h 39 k n [] h0 (by omega) h2 (by omega) (by simp)]; simp
theorem line_cons {l : List S89} {n : Int} (h : 0 < n) : lineL l 40 n = n :: (lineL l 40 n).tail := by
  rw [lineL, if_neg (by omega)]; rfl
def commonL (l : List S89) (a b : Int) : Int := ((lineL l 40 a).find? fun x => decide (x ∈ lineL l 40 b)).getD 0
theorem l27Common_eq {l : List S89} (h : historyB l = true) {a b : Int} (ha : 1 ≤ a) (ha2 : a ≤ l.length) (hb : 1 ≤ b) (hb2 : b ≤ l.length) {k : Nat} (hk : 200 ≤ k) : spec_l27Common.f k l a b = some (commonL l a b) := by
  have l1 := lineL_length l 40 a
  have l2 := lineL_length l 40 b
  have e1 := line_cons (l := l) (n := a) (by omega)
  have e2 := line_cons (l := l) (n := b) (by omega)
  unfold spec_l27Common.f
  simp only [Option.bind_some]
  rw [above_eq h (by omega) ha2 (by omega), above_eq h (by omega) hb2 (by omega)]
  simp only [Option.bind_some]
  rw [if_pos (by simp; omega), if_pos (by simp; omega), List.singleton_append, List.singleton_append, ← e1, ← e2]
  unfold commonL
  generalize lineL l 40 a = A at *
  generalize lineL l 40 b = B at *
  refine list_loop0 (fun k i => spec_l27Common.l0 k A B i) A (fun r => (r.find? fun x => decide (x ∈ B)).getD 0) 50 (fun k i hi hB => ?_) (fun k => ?_) k (by omega)
  · simp only [spec_l27Common.l0]
    rw [if_pos (lt_cast hi), if_pos (nn_cast i), rd_get hi, wrap_succ hi (by omega), l00Has_eq (by omega) _ (by omega)]
    simp only [Option.bind_some, decide_eq_true_eq]
    by_cases hm : A[i] ∈ B
    · rw [if_pos hm]; left
      rw [List.find?_cons_of_pos (by simpa using hm)]; rfl
    · rw [if_neg hm]; right
      rw [List.find?_cons_of_neg (by simpa using hm)]; exact ⟨rfl, rfl⟩
  · simp only [spec_l27Common.l0]
    rw [if_neg (nlt_cast _)]; rfl
theorem commonAncestor_eq {l : List S89} (h : historyB l = true) {a b : Int} (ha : 1 ≤ a) (ha2 : a ≤ l.length) (hb : 1 ≤ b) (hb2 : b ≤ l.length) {k : Nat} (hk : 200 ≤ k) : impl_commonAncestor.f k l a b = some (commonL l a b) := by
  have l1 := lineL_length l 40 a
  have l2 := lineL_length l 40 b
  unfold impl_commonAncestor.f
  rw [lineOf_eq h (by omega) ha2 (by omega), lineOf_eq h (by omega) hb2 (by omega)]
  simp only [Option.bind_some]
  unfold commonL
  generalize lineL l 40 a = A at *
  generalize lineL l 40 b = B at *
  refine list_loop0 (fun k i => impl_commonAncestor.l0 k B A (A.length : Int) i) A (fun r => (r.find? fun x => decide (x ∈ B)).getD 0) 50 (fun k i hi hB => ?_) (fun k => ?_) k (by omega)
  · simp only [impl_commonAncestor.l0]
    rw [if_pos (lt_cast hi), if_pos (nn_cast i), if_pos (lt_cast hi), rd_get hi, wrap_succ hi (by omega), Contains_int64_eq (by omega) _ (by omega)]
    simp only [Option.bind_some, decide_eq_true_eq]
    by_cases hm : A[i] ∈ B
    · rw [if_pos hm]; left
      rw [List.find?_cons_of_pos (by simpa using hm)]; rfl
    · rw [if_neg hm]; right
      rw [List.find?_cons_of_neg (by simpa using hm)]; exact ⟨rfl, rfl⟩
  · simp only [impl_commonAncestor.l0]
    rw [if_neg (nlt_cast _)]; rfl
theorem l27Number_eq (l : List S89) (n : Int) : spec_l27Number.f l n = some (decide (1 ≤ n) && decide (n ≤ (l.length : Int))) := by
  unfold spec_l27Number.f; rw [in_eq]; rfl
theorem allWithin_eq (l : List Int) (a b : Int) : impl_allWithin.f l a b = some (l.all fun n => decide (a ≤ n) && decide (n ≤ b)) := by
  unfold impl_allWithin.f
  congr 1
  induction l with
  | nil => rfl
  | cons x r ih =>
    simp only [List.any_cons, List.all_cons, Bool.not_or, ih, impl_allWithin.p, Bool.not_not]
theorem versionsCode_eq {l : List S89} (hl : l.length ≤ 1048576) (hs : ∀ y ∈ l, okV y) (ns : List Int) {k : Nat} (hk : 2097200 ≤ k) :
    impl_versionsCode.f k l ns = some (if historyB l = true then (if (ns.all fun n => decide (1 ≤ n) && decide (n ≤ (l.length : Int))) = true then 0 else 3) else 1) := by
  unfold impl_versionsCode.f
  rw [ValidHistory_eq hl hs hk]
  simp only [Option.bind_some, allWithin_eq]
  split
  · split <;> rfl
  · rfl
end Go.Proofs.Ytemafjbbopdheaa.P

/- A loop over a list whose rounds take up to c steps each. -/
namespace Go.Proofs.YtemafjbbopdheaaL
open Go.RowKit Go.Proofs.YtemafjbbopdheaaW.PrintWords
theorem list_loopW {α σ τ : Type} (L : Nat → σ → Int → τ) (l : List α) (G : List α → σ → τ) (Inv : Nat → σ → Prop) (B c : Nat)
    (step : ∀ (k i : Nat) (hi : i < l.length) (s : σ), Inv i s → B ≤ k →
      L (k + c) s (i : Int) = G (l[i] :: l.drop (i + 1)) s ∨ ∃ s' k', k ≤ k' ∧ Inv (i + 1) s' ∧ G (l[i] :: l.drop (i + 1)) s = G (l.drop (i + 1)) s' ∧ L (k + c) s (i : Int) = L k' s' ((i + 1 : Nat) : Int))
    (stop : ∀ (k : Nat) (s : σ), Inv l.length s → B ≤ k → L (k + c) s (l.length : Int) = G [] s) :
    ∀ (k : Nat) (s : σ), B + c * (l.length + 1) ≤ k → Inv 0 s → L k s 0 = G l s := by
  have main : ∀ (d k i : Nat) (s : σ), i + d = l.length → B + c * (d + 1) ≤ k → Inv i s → L k s (i : Int) = G (l.drop i) s := by
    intro d
    induction d with
    | zero =>
      intro k i s hi hk hI
      have h1 : c * (0 + 1) = c := by simp
      obtain ⟨k, rfl⟩ : ∃ m, k = m + c := ⟨k - c, by omega⟩
      have : i = l.length := by omega
      subst this
      rw [stop k s hI (by omega), List.drop_length]
    | succ d ih =>
      intro k i s hi hk hI
      have h1 : c * (d + 1 + 1) = c * (d + 1) + c := Nat.mul_succ _ _
      obtain ⟨k, rfl⟩ : ∃ m, k = m + c := ⟨k - c, by omega⟩
      have hlt : i < l.length := by omega
      rw [List.drop_eq_getElem_cons hlt]
      rcases step k i hlt s hI (by omega) with h | ⟨s', k', hk', hI', hG, h⟩
      · exact h
      · rw [h, hG]; exact ih k' (i + 1) s' (by omega) (by omega) hI'
  intro k s hk hI
  have := main l.length k 0 s (by omega) hk hI
  simpa using this
theorem list_loopV {α σ ρ : Type} (L : Nat → σ → Int → Option ρ) (l : List α) (G : List α → σ → ρ) (Inv : Nat → σ → Prop) (B c : Nat)
    (step : ∀ (k i : Nat) (hi : i < l.length) (s : σ), Inv i s → B ≤ k →
      L (k + c) s (i : Int) = some (G (l[i] :: l.drop (i + 1)) s) ∨ ∃ s' k', k ≤ k' ∧ Inv (i + 1) s' ∧ G (l[i] :: l.drop (i + 1)) s = G (l.drop (i + 1)) s' ∧ L (k + c) s (i : Int) = L k' s' ((i + 1 : Nat) : Int))
    (stop : ∀ (k : Nat) (s : σ), Inv l.length s → B ≤ k → L (k + c) s (l.length : Int) = some (G [] s)) :
    ∀ (k : Nat) (s : σ), B + c * (l.length + 1) ≤ k → Inv 0 s → L k s 0 = some (G l s) :=
  list_loopW L l (fun r s => some (G r s)) Inv B c (fun k i hi s hI hB => by
    rcases step k i hi s hI hB with h | ⟨s', k', h1, h2, h3, h4⟩
    · exact .inl h
    · exact .inr ⟨s', k', h1, h2, by rw [h3], h4⟩) stop
end Go.Proofs.YtemafjbbopdheaaL

/- Words for 'enough rounds'. -/
namespace Go.Proofs.Ytemafjbbopdheaa.P
open Go.RowKit Go.Proofs.YtemafjbbopdheaaW.PrintWords Go.Proofs.YtemafjbbopdheaaL
theorem Ev.le {α : Type} {g : Nat → Option α} {r : α} (K : Nat) (h : ∀ k, K ≤ k → g k = some r) : Ev g r := ⟨K, h⟩
theorem Ev.const {α : Type} {x : Option α} {r : α} (h : x = some r) : Ev (fun _ => x) r := ⟨0, fun _ _ => h⟩
theorem Ev.yes {α : Type} {c : Nat → Option Bool} {f : Nat → Option α} {r : α} (h : Ev c true) (k : Ev f r) : Ev (fun n => if c n = some true then f n else none) r := by
  obtain ⟨K, hK⟩ := h
  obtain ⟨K', hK'⟩ := k
  exact ⟨max K K', fun n hn => by
    show (if c n = some true then f n else none) = some r
    rw [if_pos (hK n (by omega))]; exact hK' n (by omega)⟩
theorem Ev.pos {α : Type} {c : Prop} [Decidable c] {f g : Nat → Option α} {r : α} (h : c) (k : Ev f r) : Ev (fun n => if c then f n else g n) r := Ev.congr (fun _ => if_pos h) k
theorem Ev.neg {α : Type} {c : Prop} [Decidable c] {f g : Nat → Option α} {r : α} (h : ¬ c) (k : Ev g r) : Ev (fun n => if c then f n else g n) r := Ev.congr (fun _ => if_neg h) k
theorem Ev.shift {α : Type} {g f : Nat → Option α} {r : α} (c : Nat) (h : ∀ k, g (k + c) = f k) (k : Ev f r) : Ev g r := by
  obtain ⟨K, hK⟩ := k
  refine ⟨K + c, fun n hn => ?_⟩
  obtain ⟨m, rfl⟩ : ∃ m, n = m + c := ⟨n - c, by omega⟩
  show g (m + c) = some r
  rw [h]; exact hK m (by omega)
/-- A list filled with counted marks. -/
def mkI (m : Int) (n : Nat) : List Int := (List.range n).map fun i : Nat => m + (i : Int)
theorem mkI_len (m : Int) (n : Nat) : (mkI m n).length = n := by simp [mkI]
theorem mkI_rd {m : Int} {n i : Nat} (h : i < n) : rd (mkI m n) (i : Int) = m + (i : Int) := by
  rw [rd_get (by simpa [mkI_len] using h)]
  simp [mkI]
/-- A loop that stores a counted mark into each place. -/
theorem mark_ints (L : Nat → List Int → Int → Int → Option (Int × List Int))
    (step : ∀ (k : Nat) (l : List Int) (m : Int) (i : Nat), i < l.length → l.length ≤ 4611686018427387904 → 0 ≤ m → m ≤ 4611686018427387904 → L (k + 1) l m (i : Int) = L k (l.set i m) (m + 1) ((i + 1 : Nat) : Int))
    (stop : ∀ (k : Nat) (l : List Int) (m : Int), L (k + 1) l m (l.length : Int) = some (m, l))
    {l : List Int} {m : Int} (hm : 0 ≤ m) (hb : m + l.length ≤ 4611686018427387904) : Ev (fun k => L k l m 0) (m + l.length, mkI m l.length) := by
  have main : ∀ (d i : Nat) (x : List Int), i + d = l.length → x.length = l.length → (∀ j, (h : j < x.length) → j < i → x[j] = m + (j : Int)) → Ev (fun k => L k x (m + (i : Int)) (i : Int)) (m + l.length, mkI m l.length) := by
    intro d
    induction d with
    | zero =>
      intro i x hi hx hp
      obtain rfl : i = x.length := by omega
      refine ⟨1, fun k hk => ?_⟩
      obtain ⟨k, rfl⟩ : ∃ q, k = q + 1 := ⟨k - 1, by omega⟩
      show L (k + 1) x (m + (x.length : Int)) (x.length : Int) = _
      rw [stop k x, hx]
      congr 2
      apply List.ext_getElem
      · rw [mkI_len]; exact hx
      · intro j h1 h2
        rw [hp j h1 h1]; simp [mkI]
    | succ d ih =>
      intro i x hi hx hp
      have hlt : i < x.length := by omega
      refine Ev.step (fun k => step k x _ i hlt (by omega) (by omega) (by omega)) ?_
      have := ih (i + 1) (x.set i (m + (i : Int))) (by omega) (by simpa using hx) (fun j h1 h2 => by
        rw [List.getElem_set]
        split
        · next e => subst e; rfl
        · exact hp j (by simpa using h1) (by omega))
      rw [show m + ((i + 1 : Nat) : Int) = m + (i : Int) + 1 by omega] at this
      exact this
  have := main l.length 0 l (by omega) rfl (fun j _ h => by omega)
  simpa using this
/-- .. and what looks whether they stand. -/
theorem held_ints {m0 : Int} (L : Nat → Int → Int → Option Int) (n : Nat)
    (step : ∀ (k : Nat) (m : Int) (i : Nat), i < n → 0 ≤ m → m ≤ 4611686018427387904 → m = m0 + (i : Int) → L (k + 1) m (i : Int) = L k (m + 1) ((i + 1 : Nat) : Int))
    (stop : ∀ (k : Nat) (m : Int), L (k + 1) m (n : Int) = some m) (hm : 0 ≤ m0) (hb : m0 + n ≤ 4611686018427387904) : Ev (fun k => L k m0 0) (m0 + n) := by
  have main : ∀ (d i : Nat), i + d = n → Ev (fun k => L k (m0 + (i : Int)) (i : Int)) (m0 + n) := by
    intro d
    induction d with
    | zero =>
      intro i hi
      obtain rfl : i = n := by omega
      exact Ev.step (fun k => stop k _) (Ev.now _)
    | succ d ih =>
      intro i hi
      refine Ev.step (fun k => step k _ i (by omega) (by omega) (by omega) rfl) ?_
      have := ih (i + 1) (by omega)
      rw [show m0 + ((i + 1 : Nat) : Int) = m0 + (i : Int) + 1 by omega] at this
      exact this
  have := main n 0 (by omega)
  simpa using this
theorem mtot_le {α : Type} {c : α → Int} {C : Int} {P : α → Prop} (hC : ∀ x, P x → c x ≤ C) : ∀ (l : List α) (m : Int), (∀ x ∈ l, P x) → mtot c l m ≤ m + (l.length : Int) * C
  | [], m, _ => by simp [mtot]
  | x :: r, m, h => by
    have h1 := mtot_le hC r (m + c x) (fun y hy => h y (List.mem_cons_of_mem _ hy))
    have h2 := hC x (h x List.mem_cons_self)
    simp only [mtot, List.length_cons]
    have e : ((r.length + 1 : Nat) : Int) * C = (r.length : Int) * C + C := by rw [Int.natCast_add, Int.add_mul]; simp
    omega
/-- A loop that marks each place of a list, element by element. -/
theorem mark_ev {α : Type} (L : Nat → List α → Int → Int → Option (Int × List α)) (g : α → Int → α) (c : α → Int) (M : Int) (hc : ∀ x, 0 ≤ c x) (P : α → Prop)
    (step : ∀ (pre : List α) (x : α) (rest : List α) (m : Int) (r : Int × List α), P x → pre.length + rest.length < 4611686018427387904 → 0 ≤ m → m + c x ≤ M → Ev (fun k => L k (pre ++ g x m :: rest) (m + c x) ((pre.length + 1 : Nat) : Int)) r → Ev (fun k => L k (pre ++ x :: rest) m (pre.length : Int)) r)
    (stop : ∀ (k : Nat) (l : List α) (m : Int), L (k + 1) l m (l.length : Int) = some (m, l)) (l : List α) (m : Int) (hp : ∀ x ∈ l, P x) (hl : l.length ≤ 4611686018427387904) (hm : 0 ≤ m) (hM : mtot c l m ≤ M) : Ev (fun k => L k l m 0) (mtot c l m, mkl g c l m) := by
  have main : ∀ (rest : List α) (pre : List α) (m : Int), (∀ x ∈ rest, P x) → pre.length + rest.length ≤ 4611686018427387904 → 0 ≤ m → mtot c rest m ≤ M → Ev (fun k => L k (pre ++ rest) m (pre.length : Int)) (mtot c rest m, pre ++ mkl g c rest m) := by
    intro rest
    induction rest with
    | nil =>
      intro pre m _ _ _ _
      refine Ev.step (f := fun _ => some (m, pre)) (fun k => ?_) ?_
      · rw [List.append_nil]; exact stop k pre m
      · simp only [mtot, mkl, List.append_nil]; exact Ev.now _
    | cons x rest ih =>
      intro pre m hp hl hm hM
      have h2 := mtot_ge hc rest (m + c x)
      have h3 := hc x
      simp only [mtot] at hM
      refine step pre x rest m _ (hp x List.mem_cons_self) (by simp at hl; omega) hm (by omega) ?_
      have := ih (pre ++ [g x m]) (m + c x) (fun y hy => hp y (List.mem_cons_of_mem _ hy)) (by simp at hl ⊢; omega) (by omega) hM
      simp only [List.append_assoc, List.singleton_append, List.length_append, List.length_singleton] at this
      simp only [mtot, mkl]
      exact this
  have := main l [] m hp (by simpa using hl) hm hM
  simpa using this
theorem held_ev {α : Type} (L : Nat → Int → Int → Option Int) (g : α → Int → α) (c : α → Int) (M : Int) (hc : ∀ x, 0 ≤ c x) (P : α → Prop) (l' : List α)
    (step : ∀ (pre : List α) (x : α) (rest : List α) (m : Int) (r : Int), l' = pre ++ g x m :: rest → P x → pre.length < 4611686018427387904 → 0 ≤ m → m + c x ≤ M → Ev (fun k => L k (m + c x) ((pre.length + 1 : Nat) : Int)) r → Ev (fun k => L k m (pre.length : Int)) r)
    (stop : ∀ (k : Nat) (m : Int), L (k + 1) m (l'.length : Int) = some m) (l : List α) (m : Int) (he : l' = mkl g c l m) (hp : ∀ x ∈ l, P x) (hl : l.length ≤ 4611686018427387904) (hm : 0 ≤ m) (hM : mtot c l m ≤ M) : Ev (fun k => L k m 0) (mtot c l m) := by
  have main : ∀ (rest : List α) (pre : List α) (m : Int), l' = pre ++ mkl g c rest m → (∀ x ∈ rest, P x) → pre.length + rest.length ≤ 4611686018427387904 → 0 ≤ m → mtot c rest m ≤ M → Ev (fun k => L k m (pre.length : Int)) (mtot c rest m) := by
    intro rest
    induction rest with
    | nil =>
      intro pre m he _ _ _ _
      simp only [mkl, List.append_nil] at he
      subst he
      simp only [mtot]
      exact Ev.step (f := fun _ => some m) (fun k => stop k m) (Ev.now _)
    | cons x rest ih =>
      intro pre m he hp hl hm hM
      have h2 := mtot_ge hc rest (m + c x)
      have h3 := hc x
      simp only [mtot] at hM
      simp only [mkl] at he
      refine step pre x _ m _ he (hp x List.mem_cons_self) (by simp at hl; omega) hm (by omega) ?_
      have := ih (pre ++ [g x m]) (m + c x) (by rw [he]; simp) (fun y hy => hp y (List.mem_cons_of_mem _ hy)) (by simp at hl ⊢; omega) (by omega) hM
      simp only [List.length_append, List.length_singleton] at this
      simp only [mtot]
      exact this
  have := main l [] m (by simpa using he) hp (by simpa using hl) hm hM
  simpa using this
theorem mkl_len {α : Type} (g : α → Int → α) (c : α → Int) : ∀ (l : List α) (m : Int), (mkl g c l m).length = l.length
  | [], _ => rfl
  | x :: r, m => by simp [mkl, mkl_len g c r]
end Go.Proofs.Ytemafjbbopdheaa.P

/- The versions from which a version comes: both list the same. -/
namespace Go.Proofs.Ytemafjbbopdheaa.P
open Go.RowKit Go.Proofs.YtemafjbbopdheaaW.PrintWords Go.Proofs.YtemafjbbopdheaaL
theorem core_AncestorsOf {l : List S89} (hl : l.length ≤ 1048576) (hs : ∀ y ∈ l, okV y) (n : Int) : ∃ (v : List Int) (c : Int), v.length ≤ 1048576 ∧ Ev (fun k => spec_AncestorsOf.f k l n) (v, c) ∧ Ev (fun k => impl_AncestorsOf.f k l n) (v, c) := by
  unfold spec_AncestorsOf.f impl_AncestorsOf.f
  have hS : Ev (fun k => spec_l27Ok.f k l) (historyB l) := Ev.le 2097200 (fun k hk => l27Ok_eq hl hs hk)
  have hN : Ev (fun _ => spec_l27Number.f l n) (decide (1 ≤ n) && decide (n ≤ (l.length : Int))) := Ev.const (l27Number_eq l n)
  have hI := fun k hk => versionsCode_eq hl hs [n] (k := k) hk
  by_cases h : historyB l = true
  · by_cases h2 : (decide (1 ≤ n) && decide (n ≤ (l.length : Int))) = true
    · have h3 : 1 ≤ n ∧ n ≤ (l.length : Int) := by simpa using h2
      have hc : Ev (fun k => impl_versionsCode.f k l [n]) 0 := Ev.le 2097200 (fun k hk => by rw [hI k hk]; simp [h, h3.1, h3.2])
      have e1 : Ev (fun k => spec_l27Above.f k l n) (lineL l 40 n).tail := Ev.le 100 (fun k hk => above_eq h (by omega) h3.2 hk)
      have e2 : Ev (fun k => impl_lineOf.f k l n) (lineL l 40 n) := Ev.le 100 (fun k hk => lineOf_eq h (by omega) h3.2 hk)
      have h4 := lineL_length l 40 n
      have h5 := line_cons (l := l) (n := n) (by omega)
      have h6 : 1 ≤ ((lineL l 40 n).length : Int) := by rw [h5, List.length_cons]; omega
      refine ⟨(lineL l 40 n).tail, 0, by rw [List.length_tail]; omega, Ev.bind hS (Ev.pos h (Ev.bind hN (Ev.pos h2 (Ev.bind e1 (Ev.now _))))), Ev.bind hc (Ev.pos rfl (Ev.bind e2 (Ev.pos h6 ?_)))⟩
      rw [show (1 : Int).toNat = 1 from rfl, List.drop_one]; exact Ev.now _
    · have h3 : ¬ (1 ≤ n ∧ n ≤ (l.length : Int)) := by simpa using h2
      have hc : Ev (fun k => impl_versionsCode.f k l [n]) 3 := Ev.le 2097200 (fun k hk => by
        rw [hI k hk]
        by_cases q : 1 ≤ n
        · have : ¬ n ≤ (l.length : Int) := fun e => h3 ⟨q, e⟩
          simp [h, q, this]
        · simp [h, q])
      exact ⟨[], 3, by simp, Ev.bind hS (Ev.pos h (Ev.bind hN (Ev.neg h2 (Ev.now _)))), Ev.bind hc (Ev.neg (by decide) (Ev.now _))⟩
  · have hc : Ev (fun k => impl_versionsCode.f k l [n]) 1 := Ev.le 2097200 (fun k hk => by rw [hI k hk]; simp [h])
    exact ⟨[], 1, by simp, Ev.bind hS (Ev.neg h (Ev.now _)), Ev.bind hc (Ev.neg (by decide) (Ev.now _))⟩
end Go.Proofs.Ytemafjbbopdheaa.P

/- Marks of versions, however great the mark. -/
namespace Go.Proofs.Ytemafjbbopdheaa.P
open Go.RowKit Go.Proofs.YtemafjbbopdheaaW.PrintWords Go.Proofs.YtemafjbbopdheaaL
theorem markText_ev {n : Int} (h0 : 0 ≤ n) (h : n ≤ 4611686018427387904) : Ev (fun k => laws_markText.f k n) (mt n) := by
  have hs : ∃ r, laws_markText.f 100 n = some r := by
    unfold laws_markText.f
    by_cases h1 : n ≤ 0
    · rw [if_pos h1]; exact ⟨_, rfl⟩
    · rw [if_neg h1]
      exact markText_some 20 100 n _ h0 (by omega) (by omega) (by decide) (by omega)
  obtain ⟨r, hr⟩ := hs
  refine Ev.le 100 (fun k hk => ?_)
  have := at_rounds (fun k => laws_markText.mono n k) hk hr
  rw [this]
  unfold mt
  rw [hr]; rfl
/-- Marks of settings, however great. -/
theorem markSet_ev {l : List S81} (hl : l.length ≤ 1048576) {m : Int} (h0 : 0 ≤ m) (h1 : m ≤ 2305843009213693952) : Ev (fun k => laws_markSettingS.f k l m) (m + 2 * l.length, mkSettingS l m) := by
  have hc : ∀ x : S81, (0 : Int) ≤ (2 : Int) := fun _ => by omega
  have htot : mtot (fun _ : S81 => (2 : Int)) l m = m + 2 * l.length := mtot_const 2 l m
  unfold laws_markSettingS.f mkSettingS
  rw [← htot]
  refine mark_ev (fun k l m i => laws_markSettingS.l0 k l m i) _ (fun _ => 2) 4611686018427387000 hc (fun _ => True) (fun pre x rest m r hx hp hm hM hE => ?_) (fun k l m => ?_) l m (fun _ _ => trivial) (by omega) h0 (by omega)
  · have W1 := Aside0.mk (show wrap64 (m + 1) = m + 1 from wrap_id (by omega) (by omega))
    have W2 := Aside0.mk (show wrap64 (m + 1 + 1) = m + 2 from (wrap_id (by omega) (by omega)).trans (by omega))
    have WS := Aside0.mk (show wrap64 ((pre.length : Int) + 1) = ((pre.length + 1 : Nat) : Int) from wrap_succ (i := pre.length) (n := pre.length + 1) (by omega) (by omega))
    refine Ev.step (f := fun k => (laws_markText.f k m).bind fun t => laws_markSettingS.l0 k (pre ++ ⟨t, m + 1⟩ :: rest) (m + 2) ((pre.length + 1 : Nat) : Int)) (fun k => ?_) (Ev.bind (markText_ev hm (by omega)) hE)
    have hr : ∀ (y : S81), rd_T81 (pre ++ y :: rest) (pre.length : Int) = y := fun y => by simp [rd_T81]
    simp only [laws_markSettingS.l0]
    rw [if_pos (by simp; omega)]
    simp only [if_pos (nn_cast pre.length), hr, set_mid, W1.out, W2.out, WS.out, Option.bind_some]
  · simp only [laws_markSettingS.l0]
    rw [if_neg (nlt_cast _)]
theorem markVersionS_all {l : List S89} (hl : l.length ≤ 1048576) (hs : ∀ y ∈ l, smiVersion y) {m : Int} (h0 : 0 ≤ m) (h1 : m ≤ 1152921504606846976) : ∃ (m' : Int) (l' : List S89), m ≤ m' ∧ m' ≤ m + 8796093022208 ∧ Ev (fun k => laws_markVersionS.f k l m) (m', l') ∧ True := by
  have hc : ∀ x : S89, (0 : Int) ≤ 3 + 2 * (x.f3.length : Int) := fun x => by omega
  have htot : mtot (fun x : S89 => 3 + 2 * (x.f3.length : Int)) l m ≤ m + (l.length : Int) * 2097155 := mtot_le (P := fun e => e.f3.length ≤ 1048576) (fun x hx => by omega) l m (fun y hy => (hs y hy).1)
  have hge := mtot_ge hc l m
  refine ⟨mtot (fun x : S89 => 3 + 2 * (x.f3.length : Int)) l m, mkl (fun (x : S89) q => (⟨q, q + 1, mt (q + 1 + 1), mkSettingS x.f3 (q + 1 + 1 + 1)⟩ : S89)) (fun x => 3 + 2 * (x.f3.length : Int)) l m, hge, by omega, ?_, trivial⟩
  · unfold laws_markVersionS.f
    refine mark_ev (fun k l m i => laws_markVersionS.l0 k l m i) (fun (x : S89) q => (⟨q, q + 1, mt (q + 1 + 1), mkSettingS x.f3 (q + 1 + 1 + 1)⟩ : S89)) (fun x => 3 + 2 * (x.f3.length : Int)) 2305843009213693952 hc (fun e => e.f3.length ≤ 1048576) (fun pre x rest m r hx hp hm hM hE => ?_) (fun k l m => ?_) l m (fun y hy => (hs y hy).1) (by omega) h0 (by omega)
    · have W1 := Aside0.mk (show wrap64 (m + 1) = m + 1 from wrap_id (by omega) (by omega))
      have W2 := Aside0.mk (show wrap64 (m + 1 + 1) = m + 1 + 1 from wrap_id (by omega) (by omega))
      have W3 := Aside0.mk (show wrap64 (m + 1 + 1 + 1) = m + 1 + 1 + 1 from wrap_id (by omega) (by omega))
      have WS := Aside0.mk (show wrap64 ((pre.length : Int) + 1) = ((pre.length + 1 : Nat) : Int) from wrap_succ (i := pre.length) (n := pre.length + 1) (by omega) (by omega))
      have hr : rd_T89 (pre ++ x :: rest) (pre.length : Int) = x := by simp [rd_T89]
      have e3 : m + (3 + 2 * (x.f3.length : Int)) = m + 1 + 1 + 1 + 2 * (x.f3.length : Int) := by omega
      rw [e3] at hE
      refine Ev.step (f := fun k => (laws_markText.f k (m + 1 + 1)).bind fun t => (laws_markSettingS.f k x.f3 (m + 1 + 1 + 1)).bind fun t3 => laws_markVersionS.l0 k (pre ++ ⟨m, m + 1, t, t3.2⟩ :: rest) t3.1 ((pre.length + 1 : Nat) : Int)) (fun k => ?_) (Ev.bind (markText_ev (by omega) (by omega)) (Ev.bind (markSet_ev hx (by omega) (by omega)) hE))
      simp only [laws_markVersionS.l0]
      rw [if_pos (by simp; omega), if_pos (nn_cast _), W1.out, W2.out, W3.out, WS.out, hr]
      simp only [set_mid]
    · simp only [laws_markVersionS.l0]
      rw [if_neg (nlt_cast _)]
end Go.Proofs.Ytemafjbbopdheaa.P

/- Marks of whole numbers. -/
namespace Go.Proofs.Ytemafjbbopdheaa.P
open Go.RowKit Go.Proofs.YtemafjbbopdheaaW.PrintWords Go.Proofs.YtemafjbbopdheaaL
theorem markI_ev {l : List Int} {m : Int} (hm : 0 ≤ m) (hb : m + l.length ≤ 4611686018427387904) : Ev (fun k => laws_markInt64S.f k l m) (m + l.length, mkI m l.length) := by
  unfold laws_markInt64S.f
  refine mark_ints (fun k l m i => laws_markInt64S.l0 k l m i) (fun k l m i hi hl h0 h1 => ?_) (fun k l m => ?_) hm hb
  · simp only [laws_markInt64S.l0]
    rw [if_pos (lt_cast hi), if_pos (nn_cast i), wrap_id (x := m + 1) (by omega) (by omega), Int.toNat_natCast, wrap_succ hi hl]
  · simp only [laws_markInt64S.l0]
    rw [if_neg (nlt_cast _)]
theorem heldI_ev {n : Nat} {m : Int} (hm : 0 ≤ m) (hb : m + n ≤ 4611686018427387904) : Ev (fun k => laws_heldInt64S.f k (mkI m n) m) (m + n) := by
  unfold laws_heldInt64S.f
  refine held_ints (fun k m' i => laws_heldInt64S.l0 k (mkI m n) m' i) n (fun k m' i hi h0 h1 he => ?_) (fun k m' => ?_) hm hb
  · simp only [laws_heldInt64S.l0]
    rw [mkI_len, if_pos (lt_cast hi), if_pos (nn_cast i), mkI_rd hi, if_pos he.symm, wrap_id (x := m' + 1) (by omega) (by omega), wrap_succ hi (by omega)]
  · simp only [laws_heldInt64S.l0]
    rw [mkI_len, if_neg (nlt_cast _)]
/-- As the plain laws take it. -/
theorem markInt64S_all {l : List Int} (hl : l.length ≤ 1048576) {m : Int} (h0 : 0 ≤ m) (h1 : m ≤ 1152921504606846976) : ∃ (m' : Int) (l' : List Int), m ≤ m' ∧ m' ≤ m + 8796093022208 ∧ Ev (fun k => laws_markInt64S.f k l m) (m', l') ∧ Ev (fun k => laws_heldInt64S.f k l' m) m' :=
  ⟨m + l.length, mkI m l.length, by omega, by omega, markI_ev h0 (by omega), heldI_ev h0 (by omega)⟩
end Go.Proofs.Ytemafjbbopdheaa.P

/- The plain law behind FnExactAncestorsOf: the reference and the program answer the same, and the copies stay. Conditions: none beyond the kinds' own bounds. -/
namespace Go.Proofs.Ytemafjbbopdheaa.Pure
open Go.RowKit Go.Proofs.YtemafjbbopdheaaW.PrintWords Go.Proofs.YtemafjbbopdheaaL Go.Proofs.Ytemafjbbopdheaa.P
theorem FnExactAncestorsOf : ∀ (x0 : List P.S87) (x1 : Int), (x0.length ≤ maxLen ∧ ∀ y ∈ x0, g87 y) → (Lit.int .i64 x1).wf = true → ∃ k : Nat, P.laws_FnExactAncestorsOf.f k x0 x1 = some true := by
  intro x0 x1 ⟨hl0, hg0⟩ _
  refine Ev.rounds (g := fun k => P.laws_FnExactAncestorsOf.f k x0 x1) ?_
  unfold laws_FnExactAncestorsOf.f
  obtain ⟨r0, hr0, h0⟩ := szVersionS_some hl0 hg0 (a := 1048576) (by omega) (by omega) (k := 10000000) (by omega)
  refine Ev.bind (a := r0) (Ev.of (g := fun k => laws_szVersionS.f k x0 1048576) (fun k => laws_szVersionS.mono _ _ k) hr0) ?_
  try dsimp only
  by_cases g0 : r0 < 0
  · exact Ev.pos g0 (Ev.now _)
  refine Ev.neg g0 ?_
  obtain ⟨p0, q0, z0, s0⟩ := h0.resolve_left g0
  unfold laws_FnExactAncestorsOf.g
  have hx0 : (x0.map cVersion).length ≤ 1048576 := by simpa using z0
  have hs0 : ∀ y ∈ x0.map cVersion, smiVersion y := fun y hy => by obtain ⟨x, hx, rfl⟩ := List.mem_map.1 hy; exact smi_cVersion (s0 x hx)
  have hT0 : Ev (fun k => laws_toVersionS.f k x0) (x0.map cVersion) := Ev.le 10000000 (fun k hk => toVersionS_eq z0 s0 (by omega))
  have hE0 : Ev (fun k => laws_eqVersionS.f k (x0.map cVersion) (x0.map cVersion)) true := Ev.le 10000000 (fun k hk => by rw [eqVersionS_eq hx0 hs0 (by omega)]; simp)
  have hok0 : ∀ y ∈ x0.map cVersion, okV y := okV_c s0
  generalize x0.map cVersion = l0 at hx0 hT0 hE0 hs0 hok0 ⊢
  refine Ev.bind hT0 ?_
  try dsimp only
  obtain ⟨v, c, hv, hS, hI⟩ := core_AncestorsOf hx0 hok0 x1
  have hV : Ev (fun k => laws_eqInt64S.f k v v) true := Ev.le 10000000 (fun k hk => by rw [eqInt64S_eq hv (by omega)]; simp)
  refine Ev.bind hS ?_
  try dsimp only
  refine Ev.bind hT0 ?_
  try dsimp only
  refine Ev.bind hI ?_
  try dsimp only
  refine Ev.yes hV ?_
  refine Ev.pos rfl ?_
  refine Ev.bind hT0 ?_
  try dsimp only
  refine Ev.yes hE0 ?_
  obtain ⟨m0, y0, mb0, mc0, hM0, hH0⟩ := markVersionS_all hx0 hs0 (m := 1) (by omega) (by omega)
  refine Ev.bind hM0 ?_
  try dsimp only
  refine Ev.neg (by omega) ?_
  refine Ev.yes hV ?_
  refine Ev.pos rfl ?_
  obtain ⟨m1, y1, mb1, mc1, hM1, hH1⟩ := markInt64S_all hv (m := 1) (by omega) (by omega)
  refine Ev.bind hM1 ?_
  try dsimp only
  refine Ev.bind hH1 ?_
  try dsimp only
  refine Ev.neg (by omega) ?_
  refine Ev.pos rfl ?_
  refine Ev.bind hT0 ?_
  try dsimp only
  refine Ev.bind hI ?_
  try dsimp only
  refine Ev.yes hV ?_
  refine Ev.pos rfl ?_
  refine Ev.bind hH1 ?_
  try dsimp only
  refine Ev.neg (by omega) ?_
  refine Ev.pos rfl ?_
  exact Ev.now _
end Go.Proofs.Ytemafjbbopdheaa.Pure
