/- Part e of what FnNotation stands on: functions of the program as Lean functions with their walks, and plain lemmas. -/
import Derived.Test.YtmoamoopoifnlaaGreatDoorBFnNotationd
import Derived.Test.YtmoamoopoifnlaaGreatDoorK
import Derived.Test.YtmoamoopoifnlaaGreatDoorBFnNotationc
import Derived.Test.YtmoamoopoifnlaaGreatDoorBFnNotationb
namespace Go.Proofs.YtmoamoopoifnlaaGreatDoor.P
open Go.RowKit Go.Proofs.YtmoamoopoifnlaaGreatDoorW.PrintWords Go.Proofs.YtmoamoopoifnlaaGreatDoorL
set_option linter.unusedVariables false
set_option linter.unusedSimpArgs false
def ptW (m : List S67) (p : S136) : S67 := ⟨(rd_T67 m p.f0).f0, p.f1⟩
def wW (m : List S67) (p : S136) : List UInt8 := if p.f3 = true then 126 :: noteW (ptW m p) else noteW (ptW m p)
def bW (b : Bool) (p : S136) : List (List UInt8) := if b = true then [] else if p.f2 < 0 then [] else if p.f2 = 0 then [[124, 124]] else [[124]]
def wdL (m : List S67) : Bool → List S136 → List (List UInt8)
  | _, [] => []
  | b, p :: r => bW b p ++ wW m p :: wdL m false r
def bwP (b : Bool) (p : S136) : List S95 := if b = true then [] else if p.f2 < 0 then [] else [⟨true, false, ⟨0, 0⟩⟩]
def bws (m : List S67) : Bool → List S136 → List S95
  | _, [] => []
  | b, p :: r => bwP b p ++ (⟨false, p.f3, ptW m p⟩ : S95) :: bws m false r
theorem wdP_data (m : List S67) (p : S136) : (wdP m p).data.toList = wW m p := by
  unfold wdP wW ntP ptW
  split
  · rw [ba_app, baL_data]; rfl
  · exact baL_data _
theorem barP_data (b : Bool) (p : S136) : (barP b p).map (·.data.toList) = bW b p := by
  unfold barP bW
  split
  · rfl
  · split
    · rfl
    · split <;> rfl
theorem wds_data (m : List S67) : ∀ (l : List S136) (b : Bool), (wds m b l).map (·.data.toList) = wdL m b l
  | [], _ => rfl
  | p :: r, b => by
    show (barP b p ++ wdP m p :: wds m false r).map (·.data.toList) = bW b p ++ wW m p :: wdL m false r
    rw [List.map_append, List.map_cons, barP_data, wdP_data, wds_data m r false]
theorem NM_ok : ∀ t : Fin 12, NM.getD t.val 0 ≠ 124 ∧ NM.getD t.val 0 ≠ 126 ∧ NM.getD t.val 0 ≠ 45 ∧ NM.getD t.val 0 ≠ 32 := by decide +kernel
theorem noteW_cons (x : S67) : ∃ c r, noteW x = c :: r ∧ c ≠ 124 ∧ c ≠ 126 ∧ c ≠ 45 := by
  have h := NM_ok ⟨(x.f0 % 12).toNat, by omega⟩
  exact ⟨_, _, by unfold noteW; rw [p1_cons, List.cons_append], h.1, h.2.1, h.2.2.1⟩
theorem noteW_no (x : S67) : (32 : UInt8) ∉ noteW x := by
  have h := NM_ok ⟨(x.f0 % 12).toNat, by omega⟩
  unfold noteW
  rw [p1_cons, List.mem_append, List.mem_cons]
  rintro ((e | e) | e)
  · exact h.2.2.2 e.symm
  · split at e
    · exact absurd e (by decide)
    · split at e
      · exact absurd e (by decide)
      · cases e
  · split at e
    · cases e
    · exact itoa_no (by decide) (by decide) e
theorem noteW_len {x : S67} (h : noteB x = true) : (noteW x).length ≤ 4 := by
  obtain ⟨_, b1, b2⟩ := noteB_iff.1 h
  have h1 : (p1 x.f0).length ≤ 2 := by
    rw [p1_cons, List.length_cons]
    split
    · decide
    · split <;> decide
  have h2 : (if x.f1 = 1 then [] else Lib.itoa x.f1).length ≤ 2 := by
    split
    · exact Nat.zero_le _
    · unfold Lib.itoa
      rw [if_neg (by omega), Lib.decDigits_length]
      by_cases a : x.f1.toNat < 10
      · rw [Lib.nDigits_small a]; omega
      · rw [Lib.nDigits_big a, Lib.nDigits_small (by omega)]; omega
  unfold noteW
  rw [List.length_append]; omega
theorem wW_len {m : List S67} (hm : melB m = true) {p : S136} (h : okP m p) : (wW m p).length ≤ 5 := by
  have := noteW_len (x := ptW m p) (piece_note hm h)
  unfold wW
  split
  · rw [List.length_cons]; omega
  · omega
theorem wW_no (m : List S67) (p : S136) : (32 : UInt8) ∉ wW m p := by
  have := noteW_no (ptW m p)
  unfold wW
  split
  · rw [List.mem_cons]; rintro (h | h)
    · exact absurd h (by decide)
    · exact this h
  · exact this
theorem barB_W (m : List S67) (p : S136) : ¬ barB (wW m p) = true := by
  obtain ⟨c, r, e, h1, _⟩ := noteW_cons (ptW m p)
  unfold barB
  rw [Bool.or_eq_true, decide_eq_true_iff, decide_eq_true_iff]
  unfold wW
  split
  · rintro (h | h) <;> exact absurd (List.cons.inj h).1 (by decide)
  · rw [e]; rintro (h | h) <;> exact h1 (List.cons.inj h).1
theorem tie_W (m : List S67) (p : S136) : tieB (wW m p) = p.f3 := by
  obtain ⟨c, r, e, _, h1, _⟩ := noteW_cons (ptW m p)
  unfold tieB wW
  by_cases h : p.f3 = true
  · rw [if_pos h, h]; rfl
  · rw [if_neg h, e]
    rw [Bool.not_eq_true] at h
    rw [h]
    exact beq_eq_false_iff_ne.2 (fun e => h1 (Option.some.inj e))
theorem rest_W (m : List S67) (p : S136) : restW (wW m p) = noteW (ptW m p) := by
  unfold restW
  rw [tie_W]
  unfold wW
  by_cases h : p.f3 = true
  · rw [if_pos h, if_pos h]; rfl
  · rw [if_neg h, if_neg h]
theorem bW_no (b : Bool) (p : S136) : ∀ t ∈ bW b p, (32 : UInt8) ∉ t ∧ t.length ≤ 5 := by
  unfold bW
  intro t ht
  split at ht
  · cases ht
  · split at ht
    · cases ht
    · split at ht
      · rw [List.mem_singleton] at ht; subst ht; decide
      · rw [List.mem_singleton] at ht; subst ht; decide
theorem bW_len (b : Bool) (p : S136) : (bW b p).length ≤ 1 := by
  unfold bW
  split
  · exact Nat.zero_le _
  · split
    · exact Nat.zero_le _
    · split <;> exact Nat.le_refl _
theorem wdL_ok {m : List S67} (hm : melB m = true) : ∀ (l : List S136) (b : Bool), (∀ p ∈ l, okP m p) → (∀ t ∈ wdL m b l, (32 : UInt8) ∉ t ∧ t.length ≤ 5) ∧ (wdL m b l).length ≤ 2 * l.length
  | [], _, _ => ⟨fun t ht => by (cases ht), Nat.le_refl _⟩
  | p :: r, b, h => by
    obtain ⟨h1, h2⟩ := wdL_ok hm r false (fun q hq => h q (List.mem_cons_of_mem _ hq))
    have h3 := bW_len b p
    constructor
    · intro t ht
      rcases List.mem_append.1 ht with ht | ht
      · exact bW_no b p t ht
      · rcases List.mem_cons.1 ht with rfl | ht
        · exact ⟨wW_no m p, wW_len hm (h p List.mem_cons_self)⟩
        · exact h1 t ht
    · show (bW b p ++ wW m p :: wdL m false r).length ≤ _
      rw [List.length_append, List.length_cons, List.length_cons]; omega
theorem tail_len : ∀ (r : List (List UInt8)), (∀ t ∈ r, t.length ≤ 5) → (Lib.joinTail [32] r).length ≤ 6 * r.length
  | [], _ => Nat.le_refl _
  | b :: r, h => by
    have e : Lib.joinTail [32] (b :: r) = 32 :: (b ++ Lib.joinTail [32] r) := by simp [Lib.joinTail]
    have h1 := tail_len r (fun t ht => h t (List.mem_cons_of_mem _ ht))
    have h2 := h b List.mem_cons_self
    rw [e, List.length_cons, List.length_append, List.length_cons]; omega
theorem wrd_bws {S : List Int} {v : Int} {m : List S67} (hm : melB m = true) : ∀ (l : List S136) (T q : Int) (b lb : Bool) (lp : Int), GoodL S v m.length T q l → (0 ≤ q → lb = false ∧ lp = (rd_T67 m q).f0) → wrd (wdL m b l) lb lp = some (bws m b l)
  | [], _, _, _, _, _, _, _ => rfl
  | p :: r, T, q, b, lb, lp, hg, hq => by
    obtain ⟨_, hf3, hok, hg2⟩ := hg
    have main : wrd (wW m p :: wdL m false r) lb lp = some ((⟨false, p.f3, ptW m p⟩ : S95) :: bws m false r) := by
      unfold wrd
      rw [if_neg (barB_W m p), rest_W, one_back (x := ptW m p) (piece_note hm hok)]
      dsimp only
      have ht : ¬ (tieB (wW m p) = true ∧ (lb = true ∨ ¬ lp = (ptW m p).f0)) := by
        rw [tie_W]
        rintro ⟨h3, h⟩
        rw [hf3, decide_eq_true_iff] at h3
        obtain ⟨h1, h2⟩ := hq (by omega)
        rcases h with h | h
        · rw [h1] at h; cases h
        · exact h (by rw [h2, h3]; rfl)
      rw [if_neg ht, wrd_bws hm r (T + p.f1) p.f0 false false (ptW m p).f0 hg2 (fun _ => ⟨rfl, rfl⟩), tie_W]; rfl
    show wrd (bW b p ++ wW m p :: wdL m false r) lb lp = some (bwP b p ++ (⟨false, p.f3, ptW m p⟩ : S95) :: bws m false r)
    unfold bW bwP
    split
    · exact main
    · split
      · exact main
      · split
        · show wrd ([124, 124] :: (wW m p :: wdL m false r)) lb lp = _
          unfold wrd
          rw [if_pos (by decide), main]; rfl
        · show wrd ([124] :: (wW m p :: wdL m false r)) lb lp = _
          unfold wrd
          rw [if_pos (by decide), main]; rfl
/-- Notes: a piece that is tied makes the last note longer. -/
def stN (m : List S67) (o : List S67) (p : S136) : List S67 := if p.f3 = true then addN o p.f1 else o ++ [ptW m p]
theorem foldN_bws (m : List S67) : ∀ (l : List S136) (b : Bool) (o : List S67), foldN (bws m b l) o = l.foldl (stN m) o
  | [], _, _ => rfl
  | p :: r, b, o => by
    have main : foldN ((⟨false, p.f3, ptW m p⟩ : S95) :: bws m false r) o = r.foldl (stN m) (stN m o p) := by
      rw [← foldN_bws m r false]
      show (if false = true then _ else if p.f3 = true then foldN (bws m false r) (addN o (ptW m p).f1) else foldN (bws m false r) (o ++ [ptW m p])) = _
      rw [if_neg (by decide)]
      unfold stN
      split <;> rfl
    rw [List.foldl_cons, ← main]
    show foldN (bwP b p ++ _) o = _
    unfold bwP
    split
    · rfl
    · split
      · rfl
      · rfl
theorem addN_snoc (o : List S67) (q y n : Int) (ho : o.length ≤ 1000000) (h0 : -1000 ≤ y + n) (h1 : y + n ≤ 1000) : addN (o ++ [(⟨q, y⟩ : S67)]) n = o ++ [(⟨q, y + n⟩ : S67)] := by
  have hl : (o ++ [(⟨q, y⟩ : S67)]).length = o.length + 1 := by rw [List.length_append]; rfl
  have hx : wrap64 (((o ++ [(⟨q, y⟩ : S67)]).length : Int) - 1) = ((o.length : Nat) : Int) := by rw [hl, last_ix (by omega) (by omega)]; congr 1
  unfold addN
  rw [hx, rdN_get (by omega), Int.toNat_natCast, List.getElem_append_right (Nat.le_refl _)]
  rw [List.set_append_right _ _ (Nat.le_refl _)]
  simp only [Nat.sub_self, List.getElem_cons_zero, List.set_cons_zero]
  rw [wrap_id (by omega) (by omega)]
theorem cut_more {S : List Int} {v : Int} (g : TG S v) (m : List S67) : ∀ (f : Nat) (x y : Int) (j : Nat) (c q : Int) (i : Int) (o : List S67), 0 ≤ x → x ≤ f → 0 ≤ y → y + x ≤ 64 → o.length ≤ 1000 → j < S.length → 0 ≤ c → c < Lj S v j → (cutN S v f i true x j c).1.foldl (stN m) (o ++ [(⟨q, y⟩ : S67)]) = o ++ [(⟨q, y + x⟩ : S67)] := by
  intro f
  induction f with
  | zero =>
    intro x y j c q i o x0 x1 y0 y1 ho h1 h2 h3
    obtain rfl : x = 0 := by omega
    rw [Int.add_zero]; rfl
  | succ f ih =>
    intro x y j c q i o x0 x1 y0 y1 ho h1 h2 h3
    unfold cutN
    by_cases hx : x > 0
    · rw [if_pos hx]
      obtain ⟨m1, m2, m3⟩ := @mn_le x (Lj S v j - c)
      obtain ⟨a1, a2, a3⟩ := nx_st g h1 (c := c + mn x (Lj S v j - c)) (by omega) (by omega)
      rw [List.foldl_cons]
      have e : stN m (o ++ [(⟨q, y⟩ : S67)]) (⟨i, mn x (Lj S v j - c), if c = 0 then (j : Int) else -1, true⟩ : S136) = o ++ [(⟨q, y + mn x (Lj S v j - c)⟩ : S67)] := by
        unfold stN
        rw [if_pos rfl]
        exact addN_snoc o q y _ (by omega) (by show -1000 ≤ y + mn x (Lj S v j - c); omega) (by show y + mn x (Lj S v j - c) ≤ 1000; omega)
      rw [e, ih (x - mn x (Lj S v j - c)) (y + mn x (Lj S v j - c)) _ _ q i o (by omega) (by omega) (by omega) (by omega) ho a1 a2 a3, show y + mn x (Lj S v j - c) + (x - mn x (Lj S v j - c)) = y + x by omega]
    · obtain rfl : x = 0 := by omega
      rw [if_neg hx, Int.add_zero]; rfl
theorem cut_note {S : List Int} {v : Int} (g : TG S v) (m : List S67) {x : Int} {j : Nat} {c i : Int} (o : List S67) (x0 : 1 ≤ x) (x1 : x ≤ 64) (ho : o.length ≤ 1000) (h1 : j < S.length) (h2 : 0 ≤ c) (h3 : c < Lj S v j) : (cutN S v 64 i false x j c).1.foldl (stN m) o = o ++ [(⟨(rd_T67 m i).f0, x⟩ : S67)] := by
  unfold cutN
  rw [if_pos (by omega)]
  obtain ⟨m1, m2, m3⟩ := @mn_le x (Lj S v j - c)
  obtain ⟨a1, a2, a3⟩ := nx_st g h1 (c := c + mn x (Lj S v j - c)) (by omega) (by omega)
  rw [List.foldl_cons]
  have e : stN m o (⟨i, mn x (Lj S v j - c), if c = 0 then (j : Int) else -1, false⟩ : S136) = o ++ [(⟨(rd_T67 m i).f0, mn x (Lj S v j - c)⟩ : S67)] := by
    unfold stN
    exact if_neg (by intro h; cases h)
  rw [e, cut_more g m 63 (x - mn x (Lj S v j - c)) (mn x (Lj S v j - c)) _ _ _ i o (by omega) (by omega) (by omega) (by omega) ho a1 a2 a3, show mn x (Lj S v j - c) + (x - mn x (Lj S v j - c)) = x by omega]
theorem segs_notes {S : List Int} {v : Int} (g : TG S v) (m : List S67) : ∀ (r o : List S67) (j : Nat) (c : Int), m = o ++ r → m.length ≤ 1000 → (∀ y ∈ r, 1 ≤ y.f1 ∧ y.f1 ≤ 64) → j < S.length → 0 ≤ c → c < Lj S v j → (segs S v r (o.length : Int) j c).foldl (stN m) o = m
  | [], o, _, _, e, _, _, _, _, _ => by rw [e, List.append_nil]; rfl
  | x :: r, o, j, c, e, hl, hy, h1, h2, h3 => by
    have hx := hy x List.mem_cons_self
    have hlt : o.length < m.length := by rw [e, List.length_append, List.length_cons]; omega
    obtain ⟨a1, a2, a3⟩ := cutN_st g 64 (o.length : Int) false x.f1 j c h1 h2 h3
    have ex : rd_T67 m (o.length : Int) = x := by
      rw [rdN_get hlt]
      simp [e]
    show ((cutN S v 64 (o.length : Int) false x.f1 j c).1 ++ segs S v r ((o.length : Int) + 1) _ _).foldl (stN m) o = m
    rw [List.foldl_append, cut_note g m o hx.1 hx.2 (by omega) h1 h2 h3, ex]
    have := segs_notes g m r (o ++ [x]) _ _ (by rw [e, List.append_assoc]; rfl) hl (fun y hy2 => hy y (List.mem_cons_of_mem _ hy2)) a1 a2 a3
    rw [List.length_append, List.length_singleton] at this
    exact this
/-- Sums: a piece at a section's beginning opens a new one. -/
def sumP : Bool → List S136 → List Int → List Int
  | _, [], s => s
  | b, p :: r, s => sumP false r (addS (if b = true then s else if p.f2 < 0 then s else s ++ [0]) p.f1)
theorem foldS_bws (m : List S67) : ∀ (l : List S136) (b : Bool) (s : List Int), foldS (bws m b l) s = sumP b l s
  | [], _, _ => rfl
  | p :: r, b, s => by
    have main : ∀ s, foldS ((⟨false, p.f3, ptW m p⟩ : S95) :: bws m false r) s = sumP false r (addS s p.f1) := fun s => by
      rw [← foldS_bws m r false]; rfl
    show foldS (bwP b p ++ _) s = sumP false r (addS (if b = true then s else if p.f2 < 0 then s else s ++ [0]) p.f1)
    unfold bwP
    split
    · exact main s
    · split
      · exact main s
      · exact main (s ++ [0])
theorem addS_snoc (s : List Int) (y n : Int) (ho : s.length ≤ 1000000) (h0 : -1000 ≤ y + n) (h1 : y + n ≤ 1000) : addS (s ++ [y]) n = s ++ [y + n] := by
  have hl : (s ++ [y]).length = s.length + 1 := by rw [List.length_append]; rfl
  have hx : wrap64 (((s ++ [y]).length : Int) - 1) = ((s.length : Nat) : Int) := by rw [hl, last_ix (by omega) (by omega)]; congr 1
  unfold addS
  rw [hx, rd_get (by omega), Int.toNat_natCast, List.getElem_append_right (Nat.le_refl _), List.set_append_right _ _ (Nat.le_refl _)]
  simp only [Nat.sub_self, List.getElem_cons_zero, List.set_cons_zero]
  rw [wrap_id (by omega) (by omega)]
def fullS (S : List Int) (v : Int) (s : List Int) : Prop := ∀ i (h : i < s.length), s[i] = Lj S v (i % S.length)
def IS (S : List Int) (v : Int) (b : Bool) (s : List Int) (j : Nat) (c : Int) : Prop := if b = true then s = [0] ∧ j = 0 ∧ c = 0 else ∃ s' y, s = s' ++ [y] ∧ fullS S v s' ∧ ((c = 0 ∧ y = Lj S v (s'.length % S.length) ∧ j = (s'.length + 1) % S.length) ∨ (0 < c ∧ y = c ∧ j = s'.length % S.length))
theorem IS_step {S : List Int} {v : Int} (g : TG S v) {b : Bool} {s : List Int} {j : Nat} {c n : Int} (h : IS S v b s j c) (hs : s.length ≤ 1000) (h1 : j < S.length) (h2 : 0 ≤ c) (n0 : 1 ≤ n) (n1 : c + n ≤ Lj S v j) : ∃ s', addS (if b = true then s else if (if c = 0 then (j : Int) else -1) < 0 then s else s ++ [0]) n = s' ∧ IS S v false s' (nx S v j (c + n)).1 (nx S v j (c + n)).2 ∧ s'.length ≤ s.length + 1 ∧ s'.sum = s.sum + n := by
  have hL := Lj_bound g h1
  -- the end of all ways: sections all full, and the last
  have fin : ∀ s' : List Int, fullS S v s' → j = s'.length % S.length → IS S v false (s' ++ [c + n]) (nx S v j (c + n)).1 (nx S v j (c + n)).2 := by
    intro s' hf hj
    unfold IS nx
    rw [if_neg (by decide)]
    refine ⟨s', c + n, rfl, hf, ?_⟩
    by_cases e : c + n = Lj S v j
    · rw [if_pos e]
      exact Or.inl ⟨rfl, by rw [← hj]; exact e, by show (j + 1) % S.length = _; rw [hj, Nat.mod_add_mod]⟩
    · rw [if_neg e]
      exact Or.inr ⟨by show 0 < c + n; omega, rfl, hj⟩
  unfold IS at h
  cases b
  · rw [if_neg (by decide)] at h
    obtain ⟨s', y, rfl, hf, h⟩ := h
    rw [List.length_append, List.length_singleton] at hs
    rw [if_neg (by decide)]
    rcases h with ⟨c0, hy, hj⟩ | ⟨c0, hy, hj⟩
    · subst c0
      rw [if_pos rfl, if_neg (by omega), Int.zero_add] at *
      refine ⟨_, addS_snoc (s' ++ [y]) 0 n (by rw [List.length_append, List.length_singleton]; omega) (by omega) (by omega), ?_, ?_, ?_⟩
      · rw [Int.zero_add]
        refine fin (s' ++ [y]) (fun i hi => ?_) (by rw [List.length_append, List.length_singleton]; exact hj)
        rw [List.length_append, List.length_singleton] at hi
        by_cases hi2 : i < s'.length
        · rw [List.getElem_append_left hi2]; exact hf i hi2
        · obtain rfl : i = s'.length := by omega
          rw [List.getElem_append_right (Nat.le_refl _)]
          simp only [Nat.sub_self, List.getElem_cons_zero]
          exact hy
      · simp
      · simp; omega
    · subst hy
      rw [show (if y = 0 then (j : Int) else -1) = -1 from if_neg (by omega), if_pos (by decide)]
      refine ⟨_, addS_snoc s' y n (by omega) (by omega) (by omega), fin s' hf hj, ?_, ?_⟩
      · simp
      · simp; omega
  · rw [if_pos rfl] at h
    obtain ⟨rfl, rfl, rfl⟩ := h
    rw [if_pos rfl]
    refine ⟨_, addS_snoc [] 0 n (by decide) (by omega) (by omega), fin [] (fun i hi => by simp at hi) (by simp), ?_, ?_⟩
    · simp
    · simp
theorem cut_sums {S : List Int} {v : Int} (g : TG S v) : ∀ (f : Nat) (x : Int) (lt b : Bool) (j : Nat) (c i : Int) (s : List Int) (tail : List S136), 0 ≤ x → x ≤ f → IS S v b s j c → s.length + f ≤ 1000 → j < S.length → 0 ≤ c → c < Lj S v j → ∃ b' s', sumP b ((cutN S v f i lt x j c).1 ++ tail) s = sumP b' tail s' ∧ IS S v b' s' (cutN S v f i lt x j c).2.1 (cutN S v f i lt x j c).2.2 ∧ s'.length ≤ s.length + x.toNat ∧ s'.sum = s.sum + x := by
  intro f
  induction f with
  | zero =>
    intro x lt b j c i s tail x0 x1 hI hs h1 h2 h3
    obtain rfl : x = 0 := by omega
    exact ⟨b, s, rfl, hI, by omega, by omega⟩
  | succ f ih =>
    intro x lt b j c i s tail x0 x1 hI hs h1 h2 h3
    unfold cutN
    by_cases hx : x > 0
    · rw [if_pos hx]
      obtain ⟨m1, m2, m3⟩ := @mn_le x (Lj S v j - c)
      obtain ⟨a1, a2, a3⟩ := nx_st g h1 (c := c + mn x (Lj S v j - c)) (by omega) (by omega)
      obtain ⟨s1, e1, i1, l1, t1⟩ := IS_step g (n := mn x (Lj S v j - c)) hI (by omega) h1 h2 (by omega) (by omega)
      obtain ⟨b2, s2, e2, i2, l2, t2⟩ := ih (x - mn x (Lj S v j - c)) true false _ _ i s1 tail (by omega) (by omega) i1 (by omega) a1 a2 a3
      refine ⟨b2, s2, ?_, i2, by omega, by omega⟩
      rw [← e2, ← e1]
      rfl
    · obtain rfl : x = 0 := by omega
      rw [if_neg hx]
      exact ⟨b, s, rfl, hI, by omega, by omega⟩
theorem segs_sums {S : List Int} {v : Int} (g : TG S v) : ∀ (r : List S67) (b : Bool) (i : Int) (j : Nat) (c : Int) (s : List Int), IS S v b s j c → s.length + 64 * r.length ≤ 900 → (∀ y ∈ r, 1 ≤ y.f1 ∧ y.f1 ≤ 6) → j < S.length → 0 ≤ c → c < Lj S v j → ∃ b' s' j' c', sumP b (segs S v r i j c) s = s' ∧ IS S v b' s' j' c' ∧ (0 ≤ c' ∧ c' < Lj S v j') ∧ s'.length ≤ s.length + 64 * r.length ∧ s'.sum = s.sum + (r.map (·.f1)).sum
  | [], b, i, j, c, s, hI, _, _, h1, h2, h3 => ⟨b, s, j, c, rfl, hI, ⟨h2, h3⟩, by simp, by simp⟩
  | x :: r, b, i, j, c, s, hI, hs, hy, h1, h2, h3 => by
    have hx := hy x List.mem_cons_self
    rw [List.length_cons] at hs
    obtain ⟨a1, a2, a3⟩ := cutN_st g 64 i false x.f1 j c h1 h2 h3
    obtain ⟨b1, s1, e1, i1, l1, t1⟩ := cut_sums g 64 x.f1 false b j c i s (segs S v r (i + 1) (cutN S v 64 i false x.f1 j c).2.1 (cutN S v 64 i false x.f1 j c).2.2) (by omega) (by omega) hI (by omega) h1 h2 h3
    obtain ⟨b2, s2, j2, c2, e2, i2, hc, l2, t2⟩ := segs_sums g r b1 (i + 1) _ _ s1 i1 (by omega) (fun y hy2 => hy y (List.mem_cons_of_mem _ hy2)) a1 a2 a3
    refine ⟨b2, s2, j2, c2, e1.trans e2, i2, hc, by rw [List.length_cons]; omega, ?_⟩
    rw [List.map_cons, List.sum_cons, t2, t1]; omega
/-- Each sum is within its section, and all but the last fill theirs. -/
def FS (S : List Int) (v : Int) (z : List Int) : Prop := ∀ i (h : i < z.length), 1 ≤ z[i] ∧ z[i] ≤ Lj S v (i % S.length) ∧ (i + 1 < z.length → z[i] = Lj S v (i % S.length))
theorem IS_FS {S : List Int} {v : Int} (g : TG S v) {b : Bool} {s : List Int} {j : Nat} {c : Int} (h : IS S v b s j c) (h2 : 0 ≤ c) (h3 : c < Lj S v j) (hs : 1 ≤ s.sum) : FS S v s := by
  have n1 := g.n1
  have hB : ∀ i, 1 ≤ Lj S v (i % S.length) := fun i => (Lj_bound g (Nat.mod_lt _ (by omega))).1
  unfold IS at h
  cases b
  · rw [if_neg (by decide)] at h
    obtain ⟨s', y, rfl, hf, h⟩ := h
    intro i hi
    rw [List.length_append, List.length_singleton] at hi
    by_cases hi2 : i < s'.length
    · rw [List.getElem_append_left hi2, hf i hi2]
      exact ⟨hB i, Int.le_refl _, fun _ => rfl⟩
    · obtain rfl : i = s'.length := by omega
      rw [List.getElem_append_right (Nat.le_refl _)]
      simp only [Nat.sub_self, List.getElem_cons_zero]
      have hb := hB s'.length
      refine ⟨?_, ?_, fun hc => by rw [List.length_append, List.length_singleton] at hc; omega⟩
      · rcases h with ⟨_, hy, _⟩ | ⟨hc, hy, _⟩ <;> omega
      · rcases h with ⟨_, hy, _⟩ | ⟨hc, hy, hj⟩
        · omega
        · rw [← hj]; omega
  · rw [if_pos rfl] at h
    rw [h.1] at hs
    simp at hs
/-- THE WAY BACK: what is notated has words that lead to the same notes, and its sums are those of the sections. -/
theorem bars_back {S : List Int} {v : Int} (g : TG S v) {m : List S67} (hm : melB m = true) (h10 : m.length ≤ 10) (h6 : ∀ y ∈ m, 1 ≤ y.f1 ∧ y.f1 ≤ 6) (h128 : (segs S v m 0 0 0).length ≤ 128) : (notT S v m).size ≤ 2000 ∧ ∃ b, wordsOf (notT S v m).data.toList = some b ∧ foldN b [] = m ∧ FS S v (sumsOf b) ∧ (sumsOf b).sum = (m.map (·.f1)).sum ∧ (sumsOf b).length ≤ 900 := by
  have n1 := g.n1
  have hL := Lj_bound g (j := 0) (by omega)
  have hy := mel_len hm
  by_cases h0 : m = []
  · subst h0
    exact ⟨by show (⟨#[45]⟩ : ByteArray).size ≤ 2000; decide, [], rfl, rfl, fun i hi => by simp [sumsOf] at hi, rfl, by decide⟩
  have hgd := good_segs g m.length m 0 0 0 0 (-1) (Pos_zero g) (by omega) (by omega) (by omega) (by omega) hy
  have hok : ∀ p ∈ segs S v m 0 0 0, okP m p := good_ok hgd
  obtain ⟨w1, w2⟩ := wdL_ok hm (segs S v m 0 0 0) true hok
  have hw := wrd_bws hm (segs S v m 0 0 0) 0 (-1) true true 0 hgd (fun h => absurd h (by decide))
  have hd := wds_data m (segs S v m 0 0 0) true
  have hN : foldN (bws m true (segs S v m 0 0 0)) [] = m := by
    rw [foldN_bws]
    exact segs_notes g m m [] 0 0 rfl (by omega) hy (by omega) (by omega) (by omega)
  obtain ⟨b', s', j', c', e1, i1, ⟨c0, c9⟩, l1, t1⟩ := segs_sums g m true 0 0 0 [0] (by unfold IS; rw [if_pos rfl]; exact ⟨rfl, rfl, rfl⟩) (by rw [List.length_singleton]; omega) h6 (by omega) (by omega) (by omega)
  have hS : foldS (bws m true (segs S v m 0 0 0)) [0] = s' := by rw [foldS_bws]; exact e1
  unfold notT
  rw [if_neg h0]
  cases hs : segs S v m 0 0 0 with
  | nil => exact absurd ((segs_nil_iff hy).1 hs) h0
  | cons p r =>
    rw [hs] at w1 w2 hw hd hN hS h128
    have hT : (joinT (wds m true (p :: r))).data.toList = wW m p ++ Lib.joinTail [32] (wdL m false r) := by
      show (catS (wdP m p) (wds m false r)).data.toList = _
      rw [catS_data, wdP_data, wds_data m r false]
    have w3 : ∀ t ∈ wdL m false r, (32 : UInt8) ∉ t ∧ t.length ≤ 5 := fun t ht => w1 t (List.mem_cons_of_mem _ ht)
    have w4 : (wdL m false r).length + 1 ≤ 2 * (p :: r).length := w2
    have hp := w1 (wW m p) List.mem_cons_self
    have h45 : ¬ wW m p ++ Lib.joinTail [32] (wdL m false r) = [45] := fun e => by
      obtain ⟨c, q, e2, _, _, h3⟩ := noteW_cons (ptW m p)
      unfold wW at e
      split at e
      · exact absurd (List.cons.inj e).1 (by decide)
      · rw [e2] at e; exact h3 (List.cons.inj e).1
    refine ⟨?_, bws m true (p :: r), ?_, hN, ?_⟩
    · rw [Lib.size_eq, hT, List.length_append]
      have := tail_len (wdL m false r) (fun t ht => (w3 t ht).2)
      have := hp.2
      omega
    · unfold wordsOf
      rw [hT, if_neg h45, split_join _ _ hp.1 (fun t ht => (w3 t ht).1)]
      exact hw
    · have hne : ¬ bws m true (p :: r) = [] := by intro e; cases e
      unfold sumsOf
      rw [if_neg hne, hS]
      rw [List.sum_singleton, Int.zero_add] at t1
      have hpos : 1 ≤ (m.map (·.f1)).sum := by
        cases m with
        | nil => exact absurd rfl h0
        | cons x q =>
          have hx := h6 x List.mem_cons_self
          have : ∀ l : List S67, (∀ y ∈ l, 1 ≤ y.f1 ∧ y.f1 ≤ 6) → 0 ≤ (l.map (·.f1)).sum := by
            intro l
            induction l with
            | nil => intro _; simp
            | cons y l ih =>
              intro h
              have h1 := ih (fun z hz => h z (List.mem_cons_of_mem _ hz))
              have h2 := h y List.mem_cons_self
              rw [List.map_cons, List.sum_cons]; omega
          have := this q (fun z hz => h6 z (List.mem_cons_of_mem _ hz))
          rw [List.map_cons, List.sum_cons]; omega
      rw [List.length_singleton] at l1
      exact ⟨IS_FS g i1 c0 c9 (by omega), t1, by omega⟩

def endR (S : List Int) (v : Int) (a : ByteArray) (m : List S67) : List S67 × Int := if melB m = true then (if (segs S v m 0 0 0).length ≤ 128 then (if (notT S v m).toList = a.toList then (m, 0) else ([], 9)) else ([], 9)) else ([], 9)
def readBR (a s : ByteArray) (S M : List Int) (v : Int) : List S67 × Int := if codeB [] s S M v = 0 then (if (a.size : Int) > 2000 then ([], 5) else match wordsOf a.data.toList with | none => ([], 8) | some b => endR S v a (foldN b [])) else ([], codeB [] s S M v)
def WOK : Bool → List S95 → Prop
  | _, [] => True
  | lb, w :: r => if w.f0 = true then WOK lb r else (w.f1 = true → lb = false) ∧ WOK false r
theorem wrd_ok : ∀ (ws : List (List UInt8)) (lb : Bool) (lp : Int) (b : List S95), wrd ws lb lp = some b → WOK lb b
  | [], _, _, b, h => by rw [← Option.some.inj h]; trivial
  | t :: r, lb, lp, b, h => by
    unfold wrd at h
    split at h
    · obtain ⟨q, hq, rfl⟩ := Option.map_eq_some_iff.1 h
      show (if true = true then WOK lb q else _)
      rw [if_pos rfl]
      exact wrd_ok r _ _ q hq
    · split at h
      · cases h
      · split at h
        · cases h
        · next hc =>
          obtain ⟨q, hq, rfl⟩ := Option.map_eq_some_iff.1 h
          show (if false = true then _ else (tieB t = true → lb = false) ∧ WOK false q)
          rw [if_neg (by decide)]
          refine ⟨fun ht => ?_, wrd_ok r _ _ q hq⟩
          cases lb
          · rfl
          · exact absurd ⟨ht, Or.inl rfl⟩ hc
theorem end_impl {S : List Int} {v : Int} (g : TG S v) (a s : ByteArray) (M : List Int) (m : List S67) {K : Nat} (hK : 20000 ≤ K) : ((impl_ValidMelody.f K m).bind fun t113 => (if t113 = true then ((impl_notate.f K m s S M v).bind fun bt114 => (if bt114.2 = true then (if bt114.1.toList = a.toList then (some (m, 0)) else (some (([] : List S67), 9))) else (some (([] : List S67), 9)))) else (some (([] : List S67), 9)))) = some (endR S v a m) := by
  rw [ValidMelody_eq (by omega)]
  simp only [Option.bind_some]
  unfold endR
  by_cases h : melB m = true
  rotate_left
  · rw [if_neg h, if_neg h]
  rw [if_pos h, if_pos h, notate_eq g s M h hK]
  simp only [Option.bind_some]
  by_cases h2 : (segs S v m 0 0 0).length ≤ 128
  · rw [if_pos (decide_eq_true (by omega)), if_pos h2]
    by_cases h3 : (notT S v m).toList = a.toList
    · rw [if_pos h3, if_pos h3]
    · rw [if_neg h3, if_neg h3]
  · rw [if_neg (by rw [decide_eq_false (by omega)]; decide), if_neg h2]
theorem ReadBars_l0 {S : List Int} {v : Int} (g : TG S v) (a s : ByteArray) (M : List Int) {b : List S95} (hb : b.length ≤ 10000) : ∀ (d K i : Nat) (o : List S67) (lb : Bool), i + d = b.length → o.length ≤ i → WOK lb (b.drop i) → (lb = false → ¬ o = []) → d + 20001 ≤ K → impl_ReadBars.l0 K a v o b (b.length : Int) (i : Int) s S M = some (endR S v a (foldN (b.drop i) o)) := by
  intro d
  induction d with
  | zero =>
    intro K i o lb hi ho hw hl hK
    obtain ⟨K, rfl⟩ : ∃ z, K = z + 1 := ⟨K - 1, by omega⟩
    simp only [impl_ReadBars.l0]
    rw [if_neg (by omega), List.drop_eq_nil_of_le (by omega)]
    exact end_impl g a s M o (by omega)
  | succ d ih =>
    intro K i o lb hi ho hw hl hK
    obtain ⟨K, rfl⟩ : ∃ z, K = z + 1 := ⟨K - 1, by omega⟩
    have hlt : i < b.length := by omega
    rw [List.drop_eq_getElem_cons hlt] at hw ⊢
    unfold WOK at hw
    unfold foldN
    simp only [impl_ReadBars.l0]
    rw [if_pos (lt_cast hlt), if_pos (nn_cast i), if_pos (lt_cast hlt), rdW_get hlt, wrap_succ hlt (by omega)]
    by_cases h0 : b[i].f0 = true
    · rw [if_pos h0] at hw
      rw [if_pos h0, if_pos h0]
      exact ih K (i + 1) o lb (by omega) (by omega) hw hl (by omega)
    rw [if_neg h0] at hw
    rw [if_neg h0, if_neg h0]
    obtain ⟨w1, w2⟩ := hw
    by_cases h1 : b[i].f1 = true
    · have hne := hl (w1 h1)
      have hp := List.length_pos_iff.2 hne
      have hli := last_ix (n := o.length) (by omega) (by omega)
      rw [if_pos h1, if_pos h1, if_pos (by rw [hli]; omega), if_pos (by rw [hli]; omega)]
      exact ih K (i + 1) (addN o b[i].f2.f1) false (by omega) (by rw [addN_length]; omega) w2 (fun _ e => by have := congrArg List.length e; rw [addN_length, List.length_nil] at this; omega) (by omega)
    · rw [if_neg h1, if_neg h1, if_pos (by omega)]
      exact ih K (i + 1) (o ++ [b[i].f2]) false (by omega) (by rw [List.length_append]; simp; omega) w2 (fun _ e => by simp at e) (by omega)
theorem words_ok {l : List UInt8} {b : List S95} (h : wordsOf l = some b) : WOK true b := by
  unfold wordsOf at h
  split at h
  · rw [← Option.some.inj h]; trivial
  · exact wrd_ok _ _ _ b h
theorem ReadBars_impl (a s : ByteArray) (S M : List Int) (v : Int) {K : Nat} (hK : 100000 ≤ K) : impl_ReadBars.f K a s S M v = some (readBR a s S M v) := by
  unfold impl_ReadBars.f impl_readWords.f readBR
  rw [notationCode_eq [] s S M v (by omega)]; simp only [Option.bind_some]
  by_cases hc : codeB [] s S M v = 0
  rotate_left
  · rw [if_neg hc, if_neg hc]; simp only [Option.bind_some]
    rw [if_neg hc]
  obtain ⟨_, g⟩ := code_ok hc
  rw [if_pos hc, if_pos hc]
  by_cases hz : (a.size : Int) > 2000
  · rw [if_pos hz, if_pos hz]; simp only [Option.bind_some]
    rw [if_neg (by decide)]
  rw [if_neg hz, if_neg hz, barWords_eq a (by omega) (by omega)]; simp only [Option.bind_some]
  cases hw : wordsOf a.data.toList with
  | none => rfl
  | some b =>
    have h1 := wordsOf_length hw
    have h2 := Lib.size_eq a
    show (Option.bind (if true = true then some (([] : List S95) ++ b, (0 : Int)) else _) _) = _
    rw [if_pos rfl]; simp only [Option.bind_some, List.nil_append]
    rw [if_pos trivial]
    exact ReadBars_l0 g a s M (by omega) b.length K 0 [] true (by omega) (by simp) (words_ok hw) (fun e => by cases e) (by omega)
end Go.Proofs.YtmoamoopoifnlaaGreatDoor.P

namespace Go.Proofs.YtmoamoopoifnlaaGreatDoor.Pure
open Go.RowKit Go.Proofs.YtmoamoopoifnlaaGreatDoorW.PrintWords Go.Proofs.YtmoamoopoifnlaaGreatDoorL Go.Proofs.YtmoamoopoifnlaaGreatDoor.P
set_option linter.unusedVariables false
set_option linter.unusedSimpArgs false
theorem bts_of {l : List Int} (h : ∀ y ∈ l, (Lit.int .u8 y).wf = true) : Bts l := fun y hy => by
  have := h y hy
  simp only [Lit.wf, IntKind.min, IntKind.max, IntKind.signed, IntKind.bits, Bool.and_eq_true] at this
  simp at this
  omega
theorem At_ok {l : List Int} (hl : Bts l) {a n : Int} (ha : 0 ≤ a) (hn : 1 ≤ n) : ∃ v, laws_r8At.f l a n = some v ∧ 0 ≤ v ∧ v < n := by
  unfold laws_r8At.f
  by_cases h1 : n ≤ 1
  · rw [if_pos h1]; exact ⟨0, rfl, by omega, by omega⟩
  rw [if_neg h1]
  by_cases h2 : a ≥ (l.length : Int)
  · rw [if_pos h2]; exact ⟨0, rfl, by omega, by omega⟩
  rw [if_neg h2, if_pos ha, if_pos (by omega), if_neg (by omega)]
  obtain ⟨m, rfl⟩ : ∃ m : Nat, a = (m : Int) := ⟨a.toNat, by omega⟩
  have hm : m < l.length := by omega
  have hb := hl l[m] (List.getElem_mem hm)
  rw [rd_get hm, wrap_id (by omega) (by omega)]
  refine ⟨_, rfl, ?_, ?_⟩
  · rw [Int.tmod_eq_emod_of_nonneg hb.1]; exact Int.emod_nonneg _ (by omega)
  · rw [Int.tmod_eq_emod_of_nonneg hb.1]; exact Int.emod_lt_of_pos _ (by omega)
theorem rdS_want {S : List Int} {v : Int} (g : TG S v) (i : Nat) : Int.tmod (i : Int) (S.length : Int) = ((i % S.length : Nat) : Int) ∧ i % S.length < S.length ∧ wrap64 (rd S ((i % S.length : Nat) : Int) * v) = Lj S v (i % S.length) := by
  have n1 := g.n1
  have h1 : i % S.length < S.length := Nat.mod_lt _ (by omega)
  have hL := Lj_bound g h1
  refine ⟨?_, h1, ?_⟩
  · rw [Int.tmod_eq_emod_of_nonneg (by omega), Int.natCast_emod]
  · show wrap64 (Lj S v (i % S.length)) = _
    exact wrap_id (by omega) (by omega)
theorem wb_loop {S : List Int} {v : Int} (g : TG S v) {z : List Int} (h : FS S v z) (hz : z.length ≤ 10000) (s : ByteArray) (M : List Int) : ∀ (d K i : Nat), i + d = z.length → d + 1 ≤ K → impl_WrongBar.l0 K v z z (z.length : Int) (i : Int) s S M = some (0, 0, 3) := by
  have n1 := g.n1
  intro d
  induction d with
  | zero =>
    intro K i hi hK
    obtain ⟨K, rfl⟩ : ∃ m, K = m + 1 := ⟨K - 1, by omega⟩
    simp only [impl_WrongBar.l0]
    rw [if_neg (by omega)]
  | succ d ih =>
    intro K i hi hK
    obtain ⟨K, rfl⟩ : ∃ m, K = m + 1 := ⟨K - 1, by omega⟩
    have hlt : i < z.length := by omega
    obtain ⟨t1, t2, t3⟩ := rdS_want g i
    obtain ⟨f1, f2, f3⟩ := h i hlt
    have hr : rd z (i : Int) = z[i] := rd_get hlt
    simp only [impl_WrongBar.l0]
    rw [if_pos (lt_cast hlt), if_pos (nn_cast i), if_pos (lt_cast hlt), if_neg (by omega), t1, if_pos (nn_cast _), if_pos (lt_cast t2), t3, hr, if_neg (by omega), if_neg (by omega), wrap_succ hlt (by omega), ih K (i + 1) (by omega) (by omega), wrap_id (x := (z.length : Int) - 1) (by omega) (by omega)]
    by_cases c1 : z[i] < Lj S v (i % S.length)
    · rw [if_pos c1, if_neg (fun c => by have := f3 (by omega); omega)]
    · rw [if_neg c1]
theorem law_loop {S : List Int} {v : Int} (g : TG S v) {z : List Int} (h : FS S v z) (hz : z.length ≤ 10000) (s : ByteArray) (M : List Int) : ∀ (d K i : Nat) (x : Int), i + d = z.length → d + 1 ≤ K → x = (z.drop i).sum → -(128 * (i : Int)) ≤ x → x ≤ 1000000 → laws_FnNotation.l0 K v z x (i : Int) s S M = some true := by
  have n1 := g.n1
  intro d
  induction d with
  | zero =>
    intro K i x hi hK hx h0 h1
    obtain ⟨K, rfl⟩ : ∃ m, K = m + 1 := ⟨K - 1, by omega⟩
    simp only [laws_FnNotation.l0]
    rw [if_neg (by omega), hx, List.drop_eq_nil_of_le (by omega)]; rfl
  | succ d ih =>
    intro K i x hi hK hx h0 h1
    obtain ⟨K, rfl⟩ : ∃ m, K = m + 1 := ⟨K - 1, by omega⟩
    have hlt : i < z.length := by omega
    obtain ⟨t1, t2, t3⟩ := rdS_want g i
    have hL := Lj_bound g t2
    obtain ⟨f1, f2, f3⟩ := h i hlt
    have hr : rd z (i : Int) = z[i] := rd_get hlt
    rw [List.drop_eq_getElem_cons hlt, List.sum_cons] at hx
    have hih := ih K (i + 1) (x - z[i]) (by omega) (by omega) (by omega) (by omega) (by omega)
    simp only [laws_FnNotation.l0]
    rw [if_pos (lt_cast hlt), if_pos (nn_cast i), if_neg (by omega), t1, if_pos (nn_cast _), if_pos (lt_cast t2), t3, hr, if_neg (by omega), if_neg (by omega), wrap_succ hlt (by omega), wrap_id (x := (z.length : Int) - 1) (by omega) (by omega), wrap_id (x := x - z[i]) (by omega) (by omega), hih]
    by_cases c1 : (i : Int) < (z.length : Int) - 1
    · rw [if_pos c1, if_pos (f3 (by omega))]
    · rw [if_neg c1]
theorem Same_ok {m : List S67} (hm : m.length ≤ 1000) {K : Nat} (hK : 2000 ≤ K) : spec_SameMelody.f K m m = some true := by
  have main : ∀ (d K i : Nat), i + d = m.length → d + 1 ≤ K → spec_l09Same.l0 K m m (i : Int) = some true := by
    intro d
    induction d with
    | zero =>
      intro K i hi hK
      obtain ⟨K, rfl⟩ : ∃ q, K = q + 1 := ⟨K - 1, by omega⟩
      simp only [spec_l09Same.l0]
      rw [if_neg (by omega)]
    | succ d ih =>
      intro K i hi hK
      obtain ⟨K, rfl⟩ : ∃ q, K = q + 1 := ⟨K - 1, by omega⟩
      have hlt : i < m.length := by omega
      simp only [spec_l09Same.l0]
      rw [if_pos (lt_cast hlt), if_pos (nn_cast i), if_pos (lt_cast hlt), if_neg (by simp), wrap_succ hlt (by omega)]
      exact ih K (i + 1) (by omega) (by omega)
  unfold spec_SameMelody.f spec_l09Same.f
  rw [if_pos rfl, show spec_l09Same.l0 K m m 0 = some true from main m.length K 0 (by omega) (by omega)]; rfl
theorem Sum_ok {m : List S67} (hm : m.length ≤ 1000) (hs : ∀ x ∈ m, smallN x) : ∀ (d K i : Nat) (x : Int), i + d = m.length → d + 1 ≤ K → 0 ≤ x → x ≤ 6 * (i : Int) → spec_l09Sum.l0 K m x (i : Int) = some (x + ((m.drop i).map (·.f1)).sum) := by
  intro d
  induction d with
  | zero =>
    intro K i x hi hK _ _
    obtain ⟨K, rfl⟩ : ∃ q, K = q + 1 := ⟨K - 1, by omega⟩
    simp only [spec_l09Sum.l0]
    rw [if_neg (by omega), List.drop_eq_nil_of_le (by omega)]
    simp
  | succ d ih =>
    intro K i x hi hK x0 x1
    obtain ⟨K, rfl⟩ : ∃ q, K = q + 1 := ⟨K - 1, by omega⟩
    have hlt : i < m.length := by omega
    obtain ⟨_, b1, b2⟩ := hs m[i] (List.getElem_mem hlt)
    simp only [spec_l09Sum.l0]
    rw [if_pos (lt_cast hlt), if_pos (nn_cast i), rdN_get hlt, wrap_succ hlt (by omega), wrap_id (x := x + m[i].f1) (by omega) (by omega), ih K (i + 1) (x + m[i].f1) (by omega) (by omega) (by omega) (by omega), List.drop_eq_getElem_cons hlt, List.map_cons, List.sum_cons, Int.add_assoc]
theorem FnNotation : ∀ (x0 : List Int) (x1 : List Int), (x0.length ≤ maxLen ∧ ∀ y ∈ x0, (Lit.int .u8 y).wf = true) → (x1.length ≤ maxLen ∧ ∀ y ∈ x1, (Lit.int .u8 y).wf = true) → ∃ k : Nat, P.laws_FnNotation.f k x0 x1 = some true := by
  intro x0 x1 ⟨_, w0⟩ ⟨_, w1⟩
  have hb0 := bts_of w0
  have hb1 := bts_of w1
  obtain ⟨K, hK⟩ : ∃ K : Nat, K = 6000000 := ⟨_, rfl⟩
  refine ⟨K + 1, ?_⟩
  unfold laws_FnNotation.f laws_r8Long.f
  by_cases hl : (x0.length : Int) > 1048576
  · rw [if_pos hl]; rfl
  rw [if_neg hl]; simp only [Option.bind_some]
  by_cases hl2 : decide ((x1.length : Int) > 1048576) = true
  · rw [if_pos hl2]
  rw [if_neg hl2]
  unfold spec_R8Melody.f spec_l00From.f
  simp only [Option.bind_some]
  obtain ⟨m, i1, s1, em, ⟨h10, hs⟩, _, _⟩ := l09Draw_ok hb0 (i := 0) (B := 0) 0 (by omega) (by omega) (by omega) (K := K + 1) (by omega)
  obtain ⟨s, S, M, et, ht⟩ := R8Tala_ok hb1 (K := K + 1) (by omega)
  obtain ⟨a, ea, a0, a1⟩ := At_ok hb1 (a := 0) (n := 4) (by omega) (by omega)
  rw [em]; simp only [Option.bind_some]
  rw [et]; simp only [Option.bind_some]
  rw [ea]; simp only [Option.bind_some]
  rw [wrap_id (x := 1 + a) (by omega) (by omega)]
  have hm : melB m = true := by
    unfold melB
    rw [Bool.and_eq_true, decide_eq_true_iff]
    refine ⟨List.all_eq_true.2 (fun x hx => ?_), by omega⟩
    obtain ⟨⟨p0, p1⟩, q0, q1⟩ := hs x hx
    exact noteB_iff.2 ⟨⟨p0, p1⟩, q0, by omega⟩
  have hv : wB 1 8 (1 + a) = true := by
    unfold wB
    rw [decide_eq_true (by omega), decide_eq_true (by omega)]; rfl
  have hc : codeB m s S M (1 + a) = 0 := by
    unfold codeB
    rw [hm, ht, hv]; rfl
  have hc0 : codeB [] s S M (1 + a) = 0 := by
    unfold codeB
    rw [ht, hv]; rfl
  obtain ⟨_, g⟩ := code_ok hc
  unfold impl_NotateBars.f
  rw [notationCode_eq m s S M (1 + a) (by omega)]; simp only [Option.bind_some]
  rw [if_pos hc, notate_eq g s M hm (by omega)]; simp only [Option.bind_some]
  by_cases h128 : (segs S (1 + a) m 0 0 0).length ≤ 128
  rotate_left
  · rw [if_neg (by rw [decide_eq_false (by omega)]; decide)]; simp only [Option.bind_some]
    rw [if_neg (by decide)]; rfl
  rw [if_pos (decide_eq_true (by omega))]; simp only [Option.bind_some]
  rw [if_pos trivial]
  obtain ⟨hsz, b, hw, hN, hFS, hsum, hlen⟩ := bars_back g hm h10 (fun x hx => (hs x hx).2) h128
  have hR : impl_ReadBars.f (K + 1) (notT S (1 + a) m) s S M (1 + a) = some (m, 0) := by
    rw [ReadBars_impl _ _ _ _ _ (by omega)]
    unfold readBR
    rw [if_pos hc0, if_neg (by omega), hw]
    show some (endR S (1 + a) (notT S (1 + a) m) (foldN b [])) = _
    unfold endR
    rw [hN, if_pos hm, if_pos h128, if_pos rfl]
  have hbl := wordsOf_length hw
  have hsz2 := Lib.size_eq (notT S (1 + a) m)
  have hsums : impl_barSums.f (K + 1) b = some (sumsOf b) := barSums_eq b (by omega) (by omega)
  have hbw : impl_barWords.f (K + 1) (notT S (1 + a) m) = some (b, true) := by
    rw [barWords_eq _ (by omega) (by omega), hw]; rfl
  have hW : impl_WrongBar.f (K + 1) (notT S (1 + a) m) s S M (1 + a) = some (0, 0, 3) := by
    unfold impl_WrongBar.f impl_readWords.f
    rw [notationCode_eq [] s S M (1 + a) (by omega)]; simp only [Option.bind_some]
    rw [if_pos hc0, if_neg (by omega), hbw]; simp only [Option.bind_some]
    rw [if_pos trivial]; simp only [Option.bind_some]
    rw [if_pos trivial, hsums]; simp only [Option.bind_some]
    exact wb_loop g hFS (by omega) s M (sumsOf b).length (K + 1) 0 (by omega) (by omega)
  have hB : impl_BarSums.f (K + 1) (notT S (1 + a) m) = some (sumsOf b, 0) := by
    unfold impl_BarSums.f
    rw [if_neg (by omega), hbw]; simp only [Option.bind_some]
    rw [if_pos trivial, hsums]; rfl
  have hD : spec_DurationOf.f (K + 1) m = some ((m.map (·.f1)).sum, 0) := by
    unfold spec_DurationOf.f
    rw [l09Ok_eq (by omega) (by omega), hm]; simp only [Option.bind_some]
    rw [if_pos trivial]
    have := Sum_ok (m := m) (by omega) hs m.length (K + 1) 0 0 (by omega) (by omega) (by omega) (by omega)
    rw [List.drop_zero, Int.zero_add] at this
    unfold spec_l09Sum.f
    rw [show spec_l09Sum.l0 (K + 1) m 0 0 = some ((m.map (·.f1)).sum) from this]; rfl
  rw [hR]; simp only [Option.bind_some]
  rw [hW]; simp only [Option.bind_some]
  rw [hB]; simp only [Option.bind_some]
  rw [hD]; simp only [Option.bind_some]
  rw [if_pos trivial, Same_ok (by omega) (by omega)]; simp only [Option.bind_some]
  rw [if_pos trivial, if_pos trivial]
  show laws_FnNotation.j0 (K + 1) (1 + a) (sumsOf b) (m.map (·.f1)).sum false s S M = some true
  simp only [laws_FnNotation.j0]
  rw [if_neg (by decide)]
  have hle : ∀ (l : List S67), (∀ x ∈ l, smallN x) → 0 ≤ (l.map (·.f1)).sum ∧ (l.map (·.f1)).sum ≤ 6 * (l.length : Int) := by
    intro l
    induction l with
    | nil => intro _; simp
    | cons x r ih =>
      intro h
      obtain ⟨i0, i1⟩ := ih (fun y hy => h y (List.mem_cons_of_mem _ hy))
      obtain ⟨_, q0, q1⟩ := h x List.mem_cons_self
      rw [List.map_cons, List.sum_cons, List.length_cons]; omega
  obtain ⟨t0, t1⟩ := hle m hs
  exact law_loop g hFS (by omega) s M (sumsOf b).length K 0 _ (by omega) (by omega) (by rw [List.drop_zero]; exact hsum.symm) (by omega) (by omega)
end Go.Proofs.YtmoamoopoifnlaaGreatDoor.Pure
