/- Part d of what FnExactSoloTime stands on: functions of the program as Lean functions with their walks, and plain lemmas. -/
import Derived.Test.YticelpfemfoeeaaBFnExactSoloTimeb
import Derived.Test.YticelpfemfoeeaaBFnExactSoloTimec
namespace Go.Proofs.Yticelpfemfoeeaa.P
open Go.RowKit Go.Proofs.YticelpfemfoeeaaW.PrintWords Go.Proofs.YticelpfemfoeeaaL
def endsF (acc : List Int) (x : S53) : List Int := putI (wrap64 (x.f1 + x.f2)) (putI x.f1 acc false) false
def ends (l : List S53) : List Int := l.foldl endsF []
theorem l23Ends_eq {l : List S53} (hl : l.length ≤ 100) {k : Nat} (hk : 1000 ≤ k) : spec_l23Ends.f k l = some (ends l) := by
  unfold spec_l23Ends.f ends
  refine list_loop (fun k s i => spec_l23Ends.l0 k l s i) l (fun r s => r.foldl endsF s) (fun i s => s.length ≤ 2 * i) 500 (fun k i hi s hI hB => ?_) (fun k s hI => ?_) k [] (by omega) (by simp)
  · right
    simp only [spec_l23Ends.l0]
    have a1 := putI_length l[i].f1 s
    have a2 := putI_length (wrap64 (l[i].f1 + l[i].f2)) (putI l[i].f1 s false)
    rw [if_pos (lt_cast hi), if_pos (nn_cast i), rd_iTurn hi, l00Put_eq (by omega) _ (by omega), wrap_succ hi (by omega)]
    simp only [Option.bind_some]
    rw [l00Put_eq (by omega) _ (by omega)]
    exact ⟨endsF s l[i], by unfold endsF; omega, rfl, rfl⟩
  · simp only [spec_l23Ends.l0]
    rw [if_neg (nlt_cast _)]; rfl
theorem mem_ends : ∀ (l : List S53) (acc : List Int) (z : Int), z ∈ l.foldl endsF acc ↔ (∃ x ∈ l, z = x.f1 ∨ z = wrap64 (x.f1 + x.f2)) ∨ z ∈ acc
  | [], acc, z => by simp
  | x :: r, acc, z => by
    rw [List.foldl_cons, mem_ends r]
    unfold endsF
    rw [mem_putI, mem_putI]
    constructor
    · rintro (⟨y, hy, h⟩ | h | h | h)
      · exact .inl ⟨y, List.mem_cons_of_mem _ hy, h⟩
      · exact .inl ⟨x, List.mem_cons_self, .inr h⟩
      · exact .inl ⟨x, List.mem_cons_self, .inl h⟩
      · exact .inr h
    · rintro (⟨y, hy, h⟩ | h)
      · rcases List.mem_cons.1 hy with e | hy
        · subst e; rcases h with h | h
          · exact .inr (.inr (.inl h))
          · exact .inr (.inl h)
        · exact .inl ⟨y, hy, h⟩
      · exact .inr (.inr (.inr h))
theorem asc_ends : ∀ (l : List S53) {acc : List Int}, AscI acc → AscI (l.foldl endsF acc)
  | [], _, h => h
  | _ :: r, _, h => asc_ends r (asc_putI _ (asc_putI _ h))
theorem turn_end {x : S53} (h : turnB x = true) : wrap64 (x.f1 + x.f2) = x.f1 + x.f2 ∧ 1 ≤ x.f2 ∧ x.f2 ≤ 10000 ∧ 0 ≤ x.f1 ∧ x.f1 ≤ 10000 := by
  unfold turnB at h
  simp only [Bool.and_eq_true, decide_eq_true_iff] at h
  obtain ⟨⟨_, h1, h2⟩, h3, h4⟩ := h
  exact ⟨wrap_id (by omega) (by omega), h3, h4, h1, h2⟩
def cntP (p : Int → Bool) : Nat → Int
  | 0 => 0
  | n + 1 => cntP p n + (if p (n : Int) = true then 1 else 0)
theorem cntP_bound (p : Int → Bool) : ∀ n : Nat, 0 ≤ cntP p n ∧ cntP p n ≤ n
  | 0 => by simp [cntP]
  | n + 1 => by
    have := cntP_bound p n
    rw [cntP]
    by_cases h : p (n : Int) = true
    · rw [if_pos h]; omega
    · rw [if_neg h]; omega
theorem cntP_flat (p : Int → Bool) (a : Nat) (c : Bool) : ∀ d : Nat, (∀ t : Int, (a : Int) ≤ t → t < (a : Int) + d → p t = c) → cntP p (a + d) = cntP p a + (if c = true then (d : Int) else 0)
  | 0, _ => by cases c <;> simp
  | d + 1, h => by
    have ih := cntP_flat p a c d (fun t h1 h2 => h t h1 (by omega))
    have e := h ((a : Int) + d) (by omega) (by omega)
    rw [show a + (d + 1) = (a + d) + 1 from by omega, cntP, ih, show ((a + d : Nat) : Int) = (a : Int) + d from by omega, e]
    cases c with
    | true => simp; omega
    | false => simp
def sumE (p : Int → Bool) : Int → List Int → Int
  | _, [] => 0
  | a, b :: r => (if p a = true then b - a else 0) + sumE p b r
/-- From the first end to the last one. -/
theorem sum_cnt (p : Int → Bool) (E : List Int) (H : ∀ a t : Int, a ∈ E → a ≤ t → (∀ e ∈ E, ¬ (a < e ∧ e ≤ t)) → p t = p a) :
    ∀ (r : List Int) (a : Int), AscI (a :: r) → 0 ≤ a → a ∈ E → (∀ e ∈ r, e ∈ E) → (∀ e ∈ E, e ≤ a ∨ e ∈ r) → ∃ z : Int, (a :: r).getLast? = some z ∧ a ≤ z ∧ (∀ e ∈ E, e ≤ z) ∧ cntP p z.toNat = cntP p a.toNat + sumE p a r
  | [], a, _, ha, _, _, hE => ⟨a, rfl, Int.le_refl _, fun e he => (hE e he).resolve_right (by simp), by simp [sumE]⟩
  | b :: r, a, hs, ha, haE, hr, hE => by
    obtain ⟨h1, h2⟩ := List.pairwise_cons.1 hs
    have hab := h1 b List.mem_cons_self
    have hb := (List.pairwise_cons.1 h2).1
    obtain ⟨z, hz, hbz, hzE, he⟩ := sum_cnt p E H r b h2 (by omega) (hr b List.mem_cons_self) (fun e he => hr e (List.mem_cons_of_mem _ he)) (fun e he => by
      rcases hE e he with h | h
      · left; omega
      · rcases List.mem_cons.1 h with h | h
        · left; omega
        · exact .inr h)
    refine ⟨z, by rw [List.getLast?_cons_cons]; exact hz, by omega, hzE, ?_⟩
    have hf := cntP_flat p a.toNat (p a) (b - a).toNat (fun t t1 t2 => H a t haE (by omega) (fun e he ⟨e1, e2⟩ => by
      rcases hE e he with h | h
      · omega
      · rcases List.mem_cons.1 h with h | h
        · omega
        · have := hb e h; omega))
    rw [show a.toNat + (b - a).toNat = b.toNat from by omega] at hf
    rw [he, hf, sumE]
    have : ((b - a).toNat : Int) = b - a := by omega
    rw [this]; omega
def sumL (p : Int → Bool) : List Int → Int
  | [] => 0
  | a :: r => sumE p a r
theorem sumL_eq (p : Int → Bool) : ∀ (E : List Int) (h : 0 < E.length), sumE p E[0] (E.drop 1) = sumL p E
  | [], h => absurd h (by simp)
  | _ :: _, _ => rfl
/-- All beats: what lies ahead of the first end and behind the last one adds nothing. -/
theorem all_beats (p : Int → Bool) (E : List Int) (N : Nat) (hs : AscI E) (hN : ∀ e ∈ E, 0 ≤ e ∧ e ≤ N) (H : ∀ a t : Int, a ∈ E → a ≤ t → (∀ e ∈ E, ¬ (a < e ∧ e ≤ t)) → p t = p a)
    (h0 : ∀ t : Int, (∀ e ∈ E, t < e) → p t = false) (h1 : ∀ t : Int, (∀ e ∈ E, e ≤ t) → p t = false) : cntP p N = sumL p E := by
  cases E with
  | nil =>
    have := cntP_flat p 0 false N (fun t _ _ => h0 t (by simp))
    simpa [cntP, sumL] using this
  | cons a r =>
    have ha := hN a List.mem_cons_self
    obtain ⟨z, hz, haz, hzE, he⟩ := sum_cnt p (a :: r) H r a hs ha.1 List.mem_cons_self (fun e he => List.mem_cons_of_mem _ he) (fun e he => by
      rcases List.mem_cons.1 he with h | h
      · left; omega
      · exact .inr h)
    have hzm : z ∈ a :: r := List.mem_of_getLast? hz
    have hzN := hN z hzm
    have f0 := cntP_flat p 0 false a.toNat (fun t _ t2 => h0 t (fun e he => by
      rcases List.mem_cons.1 he with h | h
      · omega
      · have := (List.pairwise_cons.1 hs).1 e h; omega))
    have f1 := cntP_flat p z.toNat false (N - z.toNat) (fun t t1 _ => h1 t (fun e he => by have := hzE e he; omega))
    rw [show z.toNat + (N - z.toNat) = N from by omega] at f1
    simp only [Nat.zero_add, cntP] at f0
    show cntP p N = sumE p a r
    rw [f1, he, f0]; simp
def soloP (l : List S53) (pl : ByteArray) (t : Int) : Bool := decide (playing l t = [pl])
theorem ends_len (l : List S53) : (ends l).length ≤ 2 * l.length := by
  have : ∀ (r : List S53) (acc : List Int), (r.foldl endsF acc).length ≤ acc.length + 2 * r.length := by
    intro r
    induction r with
    | nil => intro acc; simp
    | cons x r ih =>
      intro acc
      have a1 := putI_length x.f1 acc
      have a2 := putI_length (wrap64 (x.f1 + x.f2)) (putI x.f1 acc false)
      have := ih (endsF acc x)
      unfold endsF at this
      rw [List.foldl_cons, List.length_cons]; unfold endsF; omega
  have := this l []
  unfold ends; simp at this; omega
theorem plays_iff {x : S53} (h : turnB x = true) (t : Int) : playsAt t x = true ↔ x.f1 ≤ t ∧ t < x.f1 + x.f2 := by
  obtain ⟨e, h1, h2, h3, h4⟩ := turn_end h
  unfold playsAt
  rw [e, wrap_id (by omega) (by omega)]
  simp only [Bool.and_eq_true, decide_eq_true_iff]
  omega
theorem solo_beats {l : List S53} (hv : turnsB l = true) (pl : ByteArray) : cntP (soloP l pl) 20000 = sumL (soloP l pl) (ends l) := by
  have hmem : ∀ z, z ∈ ends l ↔ ∃ x ∈ l, z = x.f1 ∨ z = wrap64 (x.f1 + x.f2) := fun z => by unfold ends; rw [mem_ends]; simp
  have hE := turns_each hv
  have none_ : ∀ t, (∀ x ∈ l, playsAt t x = false) → soloP l pl t = false := by
    intro t h
    have : playing l t = [] := by
      unfold playing
      rw [List.filter_eq_nil_iff.2 (fun x hx => by rw [h x hx]; decide)]
      rfl
    unfold soloP
    rw [this]; simp
  refine all_beats (soloP l pl) (ends l) 20000 (asc_ends l (by simp [AscI])) (fun e he => ?_) (fun a t ha hat hn => ?_) (fun t ht => none_ t fun x hx => ?_) (fun t ht => none_ t fun x hx => ?_)
  · obtain ⟨x, hx, h⟩ := (hmem e).1 he
    obtain ⟨e1, h1, h2, h3, h4⟩ := turn_end (hE x hx)
    rw [e1] at h
    omega
  · have : l.filter (playsAt t) = l.filter (playsAt a) := by
      refine List.filter_congr fun x hx => ?_
      have ht := turn_end (hE x hx)
      have n1 := hn x.f1 ((hmem _).2 ⟨x, hx, .inl rfl⟩)
      have n2 := hn (x.f1 + x.f2) ((hmem _).2 ⟨x, hx, .inr ht.1.symm⟩)
      rw [Bool.eq_iff_iff, plays_iff (hE x hx), plays_iff (hE x hx)]
      omega
    unfold soloP playing
    rw [this]
  · have := ht x.f1 ((hmem _).2 ⟨x, hx, .inl rfl⟩)
    rw [Bool.eq_false_iff]
    intro h
    have := (plays_iff (hE x hx) t).1 h
    omega
  · have := ht (x.f1 + x.f2) ((hmem _).2 ⟨x, hx, .inr (turn_end (hE x hx)).1.symm⟩)
    rw [Bool.eq_false_iff]
    intro h
    have := (plays_iff (hE x hx) t).1 h
    omega
theorem EqualS_eq {a b : List ByteArray} (hl : a.length ≤ 1048576) {k : Nat} (hk : a.length + 2 ≤ k) : slices_Equal_S_string.f k a b = some (decide (a = b)) := by
  unfold slices_Equal_S_string.f
  by_cases h : (a.length : Int) = (b.length : Int)
  · rw [if_pos h]
    have hlen : a.length = b.length := by omega
    have main : ∀ (d k j : Nat), j + d = a.length → d + 1 ≤ k → slices_Equal_S_string.l0 k a b (a.length : Int) (j : Int) = some (decide (a.drop j = b.drop j)) := by
      intro d
      induction d with
      | zero =>
        intro k j hj hk
        obtain ⟨k, rfl⟩ : ∃ m, k = m + 1 := ⟨k - 1, by omega⟩
        simp only [slices_Equal_S_string.l0]
        rw [if_neg (by omega), List.drop_eq_nil_of_le (by omega), List.drop_eq_nil_of_le (by omega)]; simp
      | succ d ih =>
        intro k j hj hk
        obtain ⟨k, rfl⟩ : ∃ m, k = m + 1 := ⟨k - 1, by omega⟩
        have hja : j < a.length := by omega
        have hjb : j < b.length := by omega
        simp only [slices_Equal_S_string.l0]
        rw [if_pos (by omega), if_pos (nn_cast j), if_pos (lt_cast hja), if_pos (lt_cast hjb), rdOf_get hja, rdOf_get hjb, wrap_succ hja (by omega), List.drop_eq_getElem_cons hja, List.drop_eq_getElem_cons hjb]
        by_cases e : a[j].toList = b[j].toList
        · rw [if_pos e, ih k (j + 1) (by omega) (by omega)]
          have e' : a[j] = b[j] := toList_iff.1 e
          by_cases hd : a.drop (j + 1) = b.drop (j + 1)
          · rw [decide_eq_true hd, decide_eq_true (by rw [e', hd])]
          · rw [decide_eq_false hd, decide_eq_false (fun h => hd (List.cons.inj h).2)]
        · rw [if_neg e, decide_eq_false (fun h => e (by rw [(List.cons.inj h).1]))]
    exact main a.length k 0 (by omega) (by omega)
  · rw [if_neg h]
    have : a ≠ b := fun e => h (by rw [e])
    simp [this]
theorem playing_len {l : List S53} (hl : l.length ≤ 100) (t : Int) : (playing l t).length ≤ 100 := by
  have h1 := puts_length ((l.filter (playsAt t)).map (·.f0)) []
  have h2 := List.length_filter_le (playsAt t) l
  unfold playing; simp only [List.length_map, List.length_nil] at h1 ⊢; omega
theorem one_eq {l : List S53} (hl : l.length ≤ 100) (pl : ByteArray) (t : Int) {k : Nat} (hk : 1000 ≤ k) : impl_SoloTime.one k l pl t = some (soloP l pl t) := by
  unfold impl_SoloTime.one soloP
  have := playing_len hl t
  rw [playersAt_eq (by omega) _ (by omega)]
  simp only [Option.bind_some]
  rw [EqualS_eq (by omega) (by omega)]
theorem cnt_eq {l : List S53} (hl : l.length ≤ 100) (pl : ByteArray) {k : Nat} (hk : 1000 ≤ k) : ∀ n : Nat, n ≤ 20000 → impl_SoloTime.cnt k l pl n = some (cntP (soloP l pl) n)
  | 0, _ => rfl
  | n + 1, hn => by
    have hb := cntP_bound (soloP l pl) n
    rw [impl_SoloTime.cnt, cnt_eq hl pl hk n (by omega)]
    simp only [Option.bind_some]
    rw [one_eq hl pl _ hk]
    simp only [Option.bind_some]
    rw [wrap_id (by omega) (by omega), cntP]
    by_cases h : soloP l pl (n : Int) = true
    · rw [if_pos h, if_pos h]
    · rw [if_neg h, if_neg h]; simp
def hasP (l : List S53) (pl : ByteArray) : Bool := l.any fun x => x.f0.toList == pl.toList
theorem SoloTime_impl {l : List S53} (h : turnsB l = true) (pl : ByteArray) {k : Nat} (hk : 1000 ≤ k) : impl_SoloTime.f k l pl = some (if hasP l pl = true then (cntP (soloP l pl) 20000, 0) else (0, 3)) := by
  have hl' := turns_len h
  unfold impl_SoloTime.f
  rw [ValidTurns_eq (by omega)]; simp only [Option.bind_some, if_pos h]
  show (if hasP l pl = true then _ else _) = _
  by_cases hp : hasP l pl = true
  · rw [if_pos hp, if_pos hp, impl_SoloTime.beats_eq, cnt_eq (by omega) pl hk 20000 (by omega)]; rfl
  · rw [if_neg hp, if_neg hp]
theorem so_w1 (j : Nat) (h : j < 1000) : wrap64 ((j : Int) + 1 - 1) = (j : Int) := by rw [wrap_id (by omega) (by omega)]; omega
theorem so_w2 (j : Nat) (h : j < 1000) : wrap64 ((j : Int) + 1 + 1) = ((j + 1 : Nat) : Int) + 1 := by rw [wrap_id (by omega) (by omega)]; omega
theorem so_ws {s a b : Int} (h0 : 0 ≤ s) (ha : 0 ≤ a) (hs : s ≤ a) (hab : a < b) (hb : b ≤ 20000) : wrap64 (s + wrap64 (b - a)) = s + (b - a) := by
  rw [wrap_id (x := b - a) (by omega) (by omega), wrap_id (by omega) (by omega)]
theorem Solo_l1 {l : List S53} (hl : l.length ≤ 100) (pl : ByteArray) {E : List Int} (hA : AscI E) (hE : ∀ e ∈ E, 0 ≤ e ∧ e ≤ 20000) (hlen : E.length ≤ 1000) : ∀ (d k j : Nat) (s : Int), (hj : j + 1 + d = E.length) → d + 30001 ≤ k → 0 ≤ s → s ≤ E[j]'(by omega) →
    spec_SoloTime.l1 k l pl E s ((j : Int) + 1) = some (s + sumE (soloP l pl) (E[j]'(by omega)) (E.drop (j + 1)), 0) := by
  intro d
  induction d with
  | zero =>
    intro k j s hj hk h0 hs
    obtain ⟨k, rfl⟩ : ∃ m, k = m + 1 := ⟨k - 1, by omega⟩
    have hc : ¬ (j : Int) + 1 < (E.length : Int) := by omega
    simp only [spec_SoloTime.l1]
    rw [if_neg hc, List.drop_eq_nil_of_le (by omega), sumE]; simp
  | succ d ih =>
    intro k j s hj hk h0 hs
    obtain ⟨k, rfl⟩ : ∃ m, k = m + 1 := ⟨k - 1, by omega⟩
    have hj0 : j < E.length := by omega
    have hj1 : j + 1 < E.length := by omega
    have hk2 : d + 30001 ≤ k := by omega
    have hk3 : 30000 ≤ k := by omega
    have hj2 : j + 1 + 1 + d = E.length := by omega
    have hj3 : j < 1000 := by omega
    have hc : (j : Int) + 1 < (E.length : Int) := by omega
    have hc1 : (0 : Int) ≤ (j : Int) + 1 := by omega
    have b0 := hE _ (List.getElem_mem hj0)
    have b1 := hE _ (List.getElem_mem hj1)
    have hab : E[j] < E[j + 1] := List.pairwise_iff_getElem.1 hA j (j + 1) hj0 hj1 (by omega)
    have e2 : rd E ((j : Int) + 1) = E[j + 1] := rd_get hj1
    have e4 : E.drop (j + 1) = E[j + 1] :: E.drop (j + 1 + 1) := List.drop_eq_getElem_cons hj1
    have go : ∀ c : Bool, soloP l pl E[j] = c → spec_SoloTime.l1 k l pl E (if c = true then wrap64 (s + wrap64 (E[j + 1] - E[j])) else s) (((j + 1 : Nat) : Int) + 1) = some (s + sumE (soloP l pl) E[j] (E.drop (j + 1)), 0) := by
      intro c hcc
      rw [e4, sumE, hcc]
      cases c with
      | true =>
        have q1 : 0 ≤ s + (E[j + 1] - E[j]) := by omega
        have q2 : s + (E[j + 1] - E[j]) ≤ E[j + 1] := by omega
        rw [if_pos rfl, if_pos rfl, so_ws h0 b0.1 hs hab b1.2, ih k (j + 1) _ hj2 hk2 q1 q2, Int.add_assoc]
      | false =>
        have q2 : s ≤ E[j + 1] := by omega
        rw [if_neg (by decide), if_neg (by decide), ih k (j + 1) _ hj2 hk2 h0 q2, Int.zero_add]
    simp only [spec_SoloTime.l1]
    rw [so_w1 j hj3, so_w2 j hj3, if_pos hc, if_pos (nn_cast j), if_pos (lt_cast hj0), rd_get hj0, l23At_eq hl _ hk3]
    simp only [Option.bind_some]
    by_cases hp : soloP l pl E[j] = true
    · have hpl : playing l E[j] = [pl] := of_decide_eq_true hp
      have h2 := go true hp
      rw [if_pos rfl] at h2
      rw [hpl, if_pos (show (([pl] : List ByteArray).length : Int) = 1 from rfl), if_pos (show (0 : Int) < (([pl] : List ByteArray).length : Int) from Int.one_pos), if_pos (show (rdOf ByteArray.empty [pl] 0).toList = pl.toList from rfl), if_pos hc1, e2]
      exact h2
    · rw [Bool.not_eq_true] at hp
      have h2 := go false hp
      rw [if_neg (by decide)] at h2
      have hpl : ¬ playing l E[j] = [pl] := of_decide_eq_false hp
      by_cases h1 : ((playing l E[j]).length : Int) = 1
      · obtain ⟨z, hz⟩ : ∃ z, playing l E[j] = [z] := List.length_eq_one_iff.1 (show (playing l E[j]).length = 1 by omega)
        rw [hz] at hpl ⊢
        have hne : ¬ (rdOf ByteArray.empty [z] 0).toList = pl.toList := fun e => hpl (by rw [toList_iff.1 (show z.toList = pl.toList from e)])
        rw [if_pos (show (([z] : List ByteArray).length : Int) = 1 from rfl), if_pos (show (0 : Int) < (([z] : List ByteArray).length : Int) from Int.one_pos), if_neg hne]
        exact h2
      · rw [if_neg h1]
        exact h2
theorem Solo_l0 {l : List S53} (pl : ByteArray) (E : List Int) (hl : l.length ≤ 1000) : ∀ (d k j : Nat) (b : Bool), j + d = l.length → d + 2 ≤ k → ∃ k', k ≤ k' + d + 1 ∧
    spec_SoloTime.l0 k l pl E 0 b (j : Int) = if (b || (l.drop j).any fun x => x.f0.toList == pl.toList) = true then spec_SoloTime.l1 k' l pl E 0 1 else some (0, 3) := by
  intro d
  induction d with
  | zero =>
    intro k j b hj hk
    obtain ⟨k, rfl⟩ : ∃ m, k = m + 1 := ⟨k - 1, by omega⟩
    refine ⟨k, by omega, ?_⟩
    simp only [spec_SoloTime.l0]
    rw [if_neg (by omega), List.drop_eq_nil_of_le (by omega)]; simp
  | succ d ih =>
    intro k j b hj hk
    obtain ⟨k, rfl⟩ : ∃ m, k = m + 1 := ⟨k - 1, by omega⟩
    have hlt : j < l.length := by omega
    simp only [spec_SoloTime.l0]
    rw [if_pos (lt_cast hlt), if_pos (nn_cast j), rd_iTurn hlt, wrap_succ hlt (by omega), List.drop_eq_getElem_cons hlt, List.any_cons]
    cases b with
    | true =>
      obtain ⟨k', h1, h2⟩ := ih k (j + 1) true (by omega) (by omega)
      refine ⟨k', by omega, ?_⟩
      rw [if_pos rfl, h2]; simp
    | false =>
      obtain ⟨k', h1, h2⟩ := ih k (j + 1) (l[j].f0.toList == pl.toList) (by omega) (by omega)
      refine ⟨k', by omega, ?_⟩
      rw [if_neg (by decide), h2, Bool.false_or]
theorem SoloTime_spec {l : List S53} (hl : l.length ≤ 1048576) (hv : turnsB l = true) (pl : ByteArray) {k : Nat} (hk : 1048600 ≤ k) : spec_SoloTime.f k l pl = some (if hasP l pl = true then (cntP (soloP l pl) 20000, 0) else (0, 3)) := by
  have hl' := turns_len hv
  unfold spec_SoloTime.f
  rw [l23Ok_eq hl hk]; simp only [Option.bind_some, if_pos hv]
  rw [l23Ends_eq (by omega) (by omega)]; simp only [Option.bind_some]
  obtain ⟨k', h1, h2⟩ := Solo_l0 (l := l) pl (ends l) (by omega) l.length k 0 false (by omega) (by omega)
  have h2' : spec_SoloTime.l0 k l pl (ends l) 0 false 0 = if hasP l pl = true then spec_SoloTime.l1 k' l pl (ends l) 0 1 else some (0, 3) := by
    have := h2
    rwa [Bool.false_or, List.drop_zero] at this
  rw [h2']
  by_cases hp : hasP l pl = true
  rotate_left
  · rw [if_neg hp, if_neg hp]
  rw [if_pos hp, if_pos hp, solo_beats hv pl]
  have hmem : ∀ z, z ∈ ends l ↔ ∃ x ∈ l, z = x.f1 ∨ z = wrap64 (x.f1 + x.f2) := fun z => by unfold ends; rw [mem_ends]; simp
  have hEb : ∀ e ∈ ends l, 0 ≤ e ∧ e ≤ 20000 := fun e he => by
    obtain ⟨x, hx, h⟩ := (hmem e).1 he
    obtain ⟨e1, h1, h2, h3, h4⟩ := turn_end (turns_each hv x hx)
    rw [e1] at h
    omega
  have hne : ends l ≠ [] := fun e => by
    unfold hasP at hp
    obtain ⟨x, hx, _⟩ := List.any_eq_true.1 hp
    have := (hmem x.f1).2 ⟨x, hx, .inl rfl⟩
    rw [e] at this; simp at this
  have hA := asc_ends l (by simp [AscI] : AscI [])
  have hlen := ends_len l
  have hpos : 0 < (ends l).length := List.length_pos_iff.2 hne
  have b0 := hEb _ (List.getElem_mem hpos)
  have main := Solo_l1 (l := l) (by omega) pl (E := ends l) hA hEb (by omega) ((ends l).length - 1) k' 0 0 (by omega) (by omega) (by omega) b0.1
  have main' : spec_SoloTime.l1 k' l pl (ends l) 0 1 = some (0 + sumE (soloP l pl) (ends l)[0] ((ends l).drop 1), 0) := main
  rw [main', sumL_eq (soloP l pl) (ends l) hpos]
  simp
end Go.Proofs.Yticelpfemfoeeaa.P

namespace Go.Proofs.Yticelpfemfoeeaa.Pure
open Go.RowKit Go.Proofs.YticelpfemfoeeaaW.PrintWords Go.Proofs.YticelpfemfoeeaaL Go.Proofs.Yticelpfemfoeeaa.P
theorem FnExactSoloTime : ∀ (x0 : List (P.S42)) (x1 : ByteArray), (x0.length ≤ maxLen ∧ ∀ y ∈ x0, g42 y) → x1.size ≤ maxLen → ∃ k : Nat, P.laws_FnExactSoloTime.f k x0 x1 = some true := by
  intro x0 x1 ⟨hl0, hg0⟩ _
  refine ⟨2097200, ?_⟩
  unfold laws_FnExactSoloTime.f
  by_cases hx : (x1.size : Int) > 1048576
  · rw [if_pos hx]
  rw [if_neg hx]
  obtain ⟨r, hr, h⟩ := szTurnS_some hl0 hg0 (a := 1048576) (by omega) (by omega) (k := 2097200) (by omega)
  rw [hr]; simp only [Option.bind_some]
  by_cases h0 : r < 0
  · rw [if_pos h0]
  rw [if_neg h0]
  obtain ⟨_, _, z0, s0⟩ := h.resolve_left h0
  have hz : (x0.map cTurn).length ≤ 1048576 := by simpa using z0
  have hT : ∀ k, 1048600 ≤ k → laws_toTurnS.f k x0 = some (x0.map cTurn) := fun k hk => toTurnS_eq z0 s0 hk
  have hE : ∀ k, 1048600 ≤ k → laws_eqTurnS.f k (x0.map cTurn) (x0.map cTurn) = some true := fun k hk => by rw [eqTurnS_eq hz (smi_turns _) hk]; simp
  rw [hT _ (by omega)]
  simp only [Option.bind_some]
  generalize x0.map cTurn = l at hz hT hE ⊢
  obtain ⟨v, hS, hI⟩ : ∃ v, (∀ k, 2097000 ≤ k → spec_SoloTime.f k l x1 = some v) ∧ (∀ k, 2097000 ≤ k → impl_SoloTime.f k l x1 = some v) := by
    by_cases hv : turnsB l = true
    · exact ⟨_, fun k hk => SoloTime_spec hz hv x1 (by omega), fun k hk => SoloTime_impl hv x1 (by omega)⟩
    · refine ⟨(0, 1), fun k hk => ?_, fun k hk => ?_⟩
      · unfold spec_SoloTime.f; rw [l23Ok_eq hz (by omega)]; simp [hv]
      · unfold impl_SoloTime.f; rw [ValidTurns_eq (by omega)]; simp [hv]
  rw [hS _ (by omega)]
  simp only [Option.bind_some]
  rw [hI _ (by omega)]
  simp only [Option.bind_some, if_true, laws_FnExactSoloTime.j0, bne_self_eq_false, Bool.false_eq_true, if_false]
  rw [hT _ (by omega)]; simp only [Option.bind_some]
  rw [hE _ (by omega)]; simp
end Go.Proofs.Yticelpfemfoeeaa.Pure
