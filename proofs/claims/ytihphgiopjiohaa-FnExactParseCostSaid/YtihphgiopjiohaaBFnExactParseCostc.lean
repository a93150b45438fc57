/- Part c of what FnExactParseCost stands on: functions of the program as Lean functions with their walks, and plain lemmas. -/
import Derived.Test.YtihphgiopjiohaaBFnExactParseCosta
import Derived.Test.YtihphgiopjiohaaBFnExactParseCostb
/- Least costs of parses: the reference and the program compute one list; at each place it is one of the sums that are compared. -/
namespace Go.Proofs.Ytihphgiopjiohaa.P
open Go.RowKit Go.Proofs.YtihphgiopjiohaaW.PrintWords Go.Proofs.YtihphgiopjiohaaL
theorem At_spec_ev {l : List S47} {p : List Int} (hok : ParseOk l p) {a : Nat} (ha : a ≤ 1000) : Ev (fun k => spec_l11At.f k l p (a : Int)) (atB l p a) :=
  ⟨2000, fun k hk => l11At_eq (by have := hok.l12; omega) hok.short (by have := hok.p64; omega) (by omega) (by have := hok.l12; omega)⟩
theorem At_impl_ev {l : List S47} {p : List Int} (hok : ParseOk l p) {a : Nat} (ha : a ≤ 1000) : Ev (fun k => impl_patternsAt.f k l p (a : Int)) (atB l p a) :=
  ⟨2000, fun k hk => patternsAt_eq (by have := hok.l12; omega) hok.short (by have := hok.p64; omega) (by omega) (by have := hok.l12; omega)⟩
theorem rd_set {s : List Int} {a : Nat} (h : a < s.length) (v : Int) (j : Nat) : rd (s.set a v) (j : Int) = if j = a then v else rd s (j : Int) := by
  unfold rd
  rw [Int.toNat_natCast, List.getD_eq_getElem?_getD, List.getD_eq_getElem?_getD, List.getElem?_set]
  by_cases e : j = a
  · subst e; simp [h]
  · rw [if_neg (fun e2 => e e2.symm), if_neg e]
theorem l00Min_eq (a b : Int) : spec_l00Min.f a b = some (mn a b) := by
  unfold spec_l00Min.f mn
  by_cases h : a < b
  · rw [if_pos h, if_neg (by omega)]
  · by_cases h2 : b < a
    · rw [if_neg h, if_pos h2]
    · rw [if_neg h, if_neg h2, show a = b by omega]
def lnN (l : List S47) (z : Int) : Nat := (rd_T47 l z).f0.length
/-- What stands at a place is one of the sums. -/
def Cand (l : List S47) (p : List Int) (al : Int) (s : List Int) (a : Nat) : Prop :=
  wrap64 (al + rd s ((a + 1 : Nat) : Int)) = rd s (a : Int) ∨ ∃ z ∈ atB l p a, wrap64 ((rd_T47 l z).f1 + rd s ((a + lnN l z : Nat) : Int)) = rd s (a : Int)
theorem Cand.same {l : List S47} {p : List Int} (hok : ParseOk l p) {al : Int} {s s' : List Int} {a : Nat} (h : Cand l p al s a) (hs : ∀ j : Nat, a ≤ j → rd s' (j : Int) = rd s (j : Int)) : Cand l p al s' a := by
  rcases h with h | ⟨z, hz, h⟩
  · left; rw [hs _ (by omega), hs _ (by omega)]; exact h
  · right; exact ⟨z, hz, by rw [hs _ (by omega), hs _ (by omega)]; exact h⟩
theorem at_len {l : List S47} {p : List Int} (hok : ParseOk l p) (a : Nat) : (atB l p a).length ≤ 12 := Nat.le_trans (atF_length (p := p) (a := a) l 0) hok.l12
/-- The pattern with a number that stands at a place, in plain variables. -/
theorem at_mem2 {l : List S47} {p : List Int} (hok : ParseOk l p) {a : Nat} {z : Int} (h : z ∈ atB l p a) : 0 ≤ z ∧ z < (l.length : Int) ∧ 1 ≤ lnN l z ∧ a + lnN l z ≤ p.length := by
  have := at_mem hok h
  unfold lenOf at this
  unfold lnN
  generalize (rd_T47 l z).f0.length = d at this ⊢
  omega
theorem spec_c_step {l : List S47} {p s S : List Int} {al : Int} {a i k d : Nat} {z : Int} (hi : i < S.length) (hz : S[i] = z) (m1 : 0 ≤ z) (m2 : z < (l.length : Int)) (hd : (rd_T47 l z).f0.length = d) (h1 : a < s.length) (h2 : a + d < s.length) (hs : s.length ≤ 1000) (hS : S.length ≤ 12) : spec_l11Costs.l1 (k + 1) l p al s (a : Int) S (i : Int) = spec_l11Costs.l1 k l p al (s.set a (mn (rd s (a : Int)) (wrap64 ((rd_T47 l z).f1 + rd s ((a + d : Nat) : Int))))) (a : Int) S ((i + 1 : Nat) : Int) := by
  have w2 : wrap64 ((a : Int) + (d : Int)) = ((a + d : Nat) : Int) := by rw [wrap_id (by omega) (by omega)]; omega
  have ws : wrap64 ((i : Int) + 1) = ((i + 1 : Nat) : Int) := wrap_succ hi (by omega)
  simp only [spec_l11Costs.l1]
  rw [if_pos (lt_cast hi), if_pos (nn_cast i), rd_get hi, hz, if_pos m1, if_pos m2, if_pos (nn_cast a), if_pos (lt_cast h1), hd, w2, if_pos (nn_cast _), if_pos (lt_cast h2), l00Min_eq, Option.bind_some, ws, Int.toNat_natCast]
theorem impl_c_step {l : List S47} {p s S : List Int} {al : Int} {a i k d : Nat} {z : Int} (hi : i < S.length) (hz : S[i] = z) (m1 : 0 ≤ z) (m2 : z < (l.length : Int)) (hd : (rd_T47 l z).f0.length = d) (h1 : a < s.length) (h2 : a + d < s.length) (hs : s.length ≤ 1000) (hS : S.length ≤ 12) : impl_parseCosts.l1 (k + 1) l p al s (a : Int) S (S.length : Int) (i : Int) = impl_parseCosts.l1 k l p al (s.set a (mn (rd s (a : Int)) (wrap64 ((rd_T47 l z).f1 + rd s ((a + d : Nat) : Int))))) (a : Int) S (S.length : Int) ((i + 1 : Nat) : Int) := by
  have w2 : wrap64 ((a : Int) + (d : Int)) = ((a + d : Nat) : Int) := by rw [wrap_id (by omega) (by omega)]; omega
  have ws : wrap64 ((i : Int) + 1) = ((i + 1 : Nat) : Int) := wrap_succ hi (by omega)
  simp only [impl_parseCosts.l1]
  rw [if_pos (lt_cast hi), if_pos (nn_cast i), if_pos (lt_cast hi), if_pos (nn_cast a), if_pos (lt_cast h1), rd_get hi, hz, if_pos m1, if_pos m2, hd, w2, if_pos (nn_cast _), if_pos (lt_cast h2), ws, Int.toNat_natCast]
theorem costs_inner {l : List S47} {p : List Int} (hok : ParseOk l p) (al : Int) {a : Nat} (ha : a < p.length) : ∀ (d i : Nat) (s : List Int), i + d = (atB l p a).length → s.length = p.length + 1 → Cand l p al s a →
    ∃ s' : List Int, s'.length = p.length + 1 ∧ (∀ j : Nat, j ≠ a → rd s' (j : Int) = rd s (j : Int)) ∧ Cand l p al s' a ∧
      (∀ k, spec_l11Costs.l1 (k + (d + 1)) l p al s (a : Int) (atB l p a) (i : Int) = spec_l11Costs.l0 k l p al s' ((a : Int) - 1)) ∧
      (∀ k, impl_parseCosts.l1 (k + (d + 1)) l p al s (a : Int) (atB l p a) ((atB l p a).length : Int) (i : Int) = impl_parseCosts.l0 k l p al s' ((a : Int) - 1)) := by
  intro d
  have hp := hok.p64
  have hS := at_len hok a
  have w3 : wrap64 ((a : Int) - 1) = (a : Int) - 1 := wrap_id (by omega) (by omega)
  induction d with
  | zero =>
    intro i s hi hs hc
    obtain rfl : i = (atB l p a).length := by omega
    refine ⟨s, hs, fun _ _ => rfl, hc, fun k => ?_, fun k => ?_⟩
    · simp only [Nat.zero_add, spec_l11Costs.l1]
      rw [if_neg (nlt_cast _), w3]
    · simp only [Nat.zero_add, impl_parseCosts.l1]
      rw [if_neg (nlt_cast _), w3]
  | succ d ih =>
    intro i s hi hs hc
    have hlt : i < (atB l p a).length := by omega
    obtain ⟨z, hz⟩ : ∃ z, (atB l p a)[i] = z := ⟨_, rfl⟩
    have hmem : z ∈ atB l p a := by rw [← hz]; exact List.getElem_mem hlt
    have hm := at_mem2 hok hmem
    obtain ⟨e, he⟩ : ∃ e, lnN l z = e := ⟨_, rfl⟩
    rw [he] at hm
    have has : a < s.length := by omega
    have haes : a + e < s.length := by omega
    have hsb : s.length ≤ 1000 := by omega
    have hc1 : Cand l p al (s.set a (mn (rd s (a : Int)) (wrap64 ((rd_T47 l z).f1 + rd s ((a + e : Nat) : Int))))) a := by
      have h0 : ∀ j : Nat, j ≠ a → ∀ v, rd (s.set a v) (j : Int) = rd s (j : Int) := fun j hj v => by rw [rd_set has, if_neg hj]
      have h1 : ∀ v, rd (s.set a v) (a : Int) = v := fun v => by rw [rd_set has, if_pos rfl]
      unfold Cand
      rw [h1]
      unfold mn
      by_cases hcm : wrap64 ((rd_T47 l z).f1 + rd s ((a + e : Nat) : Int)) < rd s (a : Int)
      · rw [if_pos hcm]
        refine .inr ⟨z, hmem, ?_⟩
        rw [he, h0 (a + e) (by omega)]
      · rw [if_neg hcm]
        rcases hc with hc | ⟨y, hy, hc⟩
        · left; rw [h0 (a + 1) (by omega)]; exact hc
        · right
          have hmy := at_mem2 hok hy
          exact ⟨y, hy, by rw [h0 (a + lnN l y) (by omega)]; exact hc⟩
    obtain ⟨s', h1, h2, h3, h4, h5⟩ := ih (i + 1) (s.set a (mn (rd s (a : Int)) (wrap64 ((rd_T47 l z).f1 + rd s ((a + e : Nat) : Int))))) (by omega) (by simpa using hs) hc1
    refine ⟨s', h1, fun j hj => ?_, h3, fun k => ?_, fun k => ?_⟩
    · rw [h2 j hj, rd_set has, if_neg hj]
    · rw [← h4 k]
      exact spec_c_step hlt hz hm.1 hm.2.1 he has haes hsb hS
    · rw [← h5 k]
      exact impl_c_step hlt hz hm.1 hm.2.1 he has haes hsb hS
theorem costs_outer {l : List S47} {p : List Int} (hok : ParseOk l p) (al : Int) : ∀ (a : Nat) (o : List Int), o.length = p.length + 1 → a ≤ p.length → (∀ j : Nat, a ≤ j → j < p.length → Cand l p al o j) →
    ∃ r : List Int, r.length = p.length + 1 ∧ (∀ j : Nat, j < p.length → Cand l p al r j) ∧ Ev (fun k => spec_l11Costs.l0 k l p al o ((a : Int) - 1)) r ∧ Ev (fun k => impl_parseCosts.l0 k l p al o ((a : Int) - 1)) r := by
  intro a
  have hp := hok.p64
  induction a with
  | zero =>
    intro o ho _ hc
    refine ⟨o, ho, fun j hj => hc j (by omega) hj, Ev.step (f := fun _ => some o) (fun k => ?_) (Ev.now _), Ev.step (f := fun _ => some o) (fun k => ?_) (Ev.now _)⟩
    · simp only [spec_l11Costs.l0]; rw [if_neg (by omega)]
    · simp only [impl_parseCosts.l0]; rw [if_neg (by omega)]
  | succ a ih =>
    intro o ho ha hc
    have hao : a < o.length := by omega
    have ha1 : a + 1 < o.length := by omega
    have e1 : (((a + 1 : Nat) : Int) - 1) = (a : Int) := by omega
    have w1 : wrap64 ((a : Int) + 1) = ((a + 1 : Nat) : Int) := by rw [wrap_id (by omega) (by omega)]; omega
    have hge : (a : Int) ≥ 0 := by omega
    obtain ⟨o1, ho1⟩ : ∃ o1, o1 = o.set a (wrap64 (al + rd o ((a + 1 : Nat) : Int))) := ⟨_, rfl⟩
    have h0 : ∀ j : Nat, j ≠ a → rd o1 (j : Int) = rd o (j : Int) := fun j hj => by rw [ho1, rd_set hao, if_neg hj]
    have h1 : rd o1 (a : Int) = wrap64 (al + rd o ((a + 1 : Nat) : Int)) := by rw [ho1, rd_set hao, if_pos rfl]
    have hl1 : o1.length = p.length + 1 := by rw [ho1]; simpa using ho
    obtain ⟨s', hs1, hs2, hs3, hs4, hs5⟩ := costs_inner hok al (a := a) (by omega) (atB l p a).length 0 o1 (by omega) hl1 (.inl (by rw [h0 _ (by omega), h1]))
    obtain ⟨r, hr1, hr2, hr3, hr4⟩ := ih s' hs1 (by omega) (fun j hj hjp => by
      by_cases e : j = a
      · subst e; exact hs3
      · exact (hc j (by omega) hjp).same hok (fun q hq => by rw [hs2 q (by omega), h0 q (by omega)]))
    refine ⟨r, hr1, hr2, ?_, ?_⟩
    · refine Ev.step (f := fun k => (spec_l11At.f k l p (a : Int)).bind fun t => spec_l11Costs.l1 k l p al o1 (a : Int) t 0) (fun k => ?_) (Ev.bind (At_spec_ev hok (by omega)) (Ev.shift _ hs4 hr3))
      rw [e1]
      simp only [spec_l11Costs.l0]
      rw [if_pos hge, w1, if_pos (nn_cast _), if_pos (lt_cast ha1), if_pos (nn_cast a), if_pos (lt_cast hao), Int.toNat_natCast, ← ho1]
    · refine Ev.step (f := fun k => (impl_patternsAt.f k l p (a : Int)).bind fun t => impl_parseCosts.l1 k l p al o1 (a : Int) t (t.length : Int) 0) (fun k => ?_) (Ev.bind (At_impl_ev hok (by omega)) (Ev.shift _ hs5 hr4))
      rw [e1]
      simp only [impl_parseCosts.l0]
      rw [if_pos hge, w1, if_pos (nn_cast _), if_pos (lt_cast ha1), if_pos (nn_cast a), if_pos (lt_cast hao), Int.toNat_natCast, ← ho1]
theorem parse_costs {l : List S47} {p : List Int} (hok : ParseOk l p) (al : Int) : ∃ C : List Int, C.length = p.length + 1 ∧ (∀ j : Nat, j < p.length → Cand l p al C j) ∧ Ev (fun k => spec_l11Costs.f k l p al) C ∧ Ev (fun k => impl_parseCosts.f k l p al) C := by
  have hp := hok.p64
  obtain ⟨r, h1, h2, h3, h4⟩ := costs_outer hok al p.length (List.replicate (p.length + 1) 0) (by simp) (Nat.le_refl _) (fun j hj hjp => by omega)
  have w1 : wrap64 ((p.length : Int) + 1) = ((p.length + 1 : Nat) : Int) := by rw [wrap_id (by omega) (by omega)]; omega
  have w2 : wrap64 ((p.length : Int) - 1) = (p.length : Int) - 1 := wrap_id (by omega) (by omega)
  have hb : p.length + 1 ≤ 35184372088832 := by omega
  refine ⟨r, h1, h2, Ev.congr (fun k => ?_) h3, Ev.congr (fun k => ?_) h4⟩
  · unfold spec_l11Costs.f
    rw [w1, if_pos (nn_cast _), Int.toNat_natCast, if_pos hb, w2]
  · unfold impl_parseCosts.f
    rw [w1, if_pos (nn_cast _), Int.toNat_natCast, if_pos hb, w2]
/-! ### the code -/
def aloneP (l : List S47) (p : List Int) (a : Int) : Int := if patsB l = true then (if 0 ≤ a ∧ a ≤ 1000 then (if pitsB p = true then 0 else 7) else 2) else 1
theorem l11Alone_ev {l : List S47} (hl : l.length ≤ 1048576) {p : List Int} (hp : p.length ≤ 1048576) (a : Int) : Ev (fun k => spec_l11Alone.f k l p a) (aloneP l p a) := by
  refine ⟨1048700, fun k hk => ?_⟩
  show spec_l11Alone.f k l p a = _
  unfold spec_l11Alone.f aloneP
  rw [l11Ask_eq hl hp hk, Option.bind_some]
  unfold askP
  by_cases h : patsB l = true
  · rw [if_pos h, if_pos h, l00In_eq, Option.bind_some]
    have h1 : ¬ (if pitsB p = true then (0 : Int) else 7) = 1 := by split <;> decide
    rw [if_neg h1]
    by_cases hr : 0 ≤ a ∧ a ≤ 1000
    · rw [if_pos (by simp [hr.1, hr.2]), if_pos hr]
    · rw [if_neg (by simp; omega), if_neg hr]
  · rw [if_neg h, if_neg h, if_pos rfl]
theorem parseCode_alone (l : List S47) (p : List Int) (a : Int) : Ev (fun k => impl_parseCode.f k l p 0 a) (aloneP l p a) := by
  refine ⟨10, fun k hk => ?_⟩
  obtain ⟨k, rfl⟩ : ∃ m, k = m + 1 := ⟨k - 1, by omega⟩
  show impl_parseCode.f (k + 1) l p 0 a = _
  unfold impl_parseCode.f aloneP
  rw [ValidPatterns_eq, Option.bind_some]
  by_cases h : patsB l = true
  · rw [if_pos h, if_pos h, impl_allWithin.within, Option.bind_some, if_pos (by simp), impl_allWithin.within, Option.bind_some]
    by_cases hr : 0 ≤ a ∧ a ≤ 1000
    · rw [if_pos hr]
      simp only [impl_parseCode.j0]
      rw [if_neg (by simp [hr.1, hr.2]), pitchesOk_eq, Option.bind_some]
      split <;> rfl
    · rw [if_neg hr]
      simp only [impl_parseCode.j0]
      rw [if_pos (by simp; omega)]
  · rw [if_neg h, if_neg h]
theorem alone_ok {l : List S47} {p : List Int} {a : Int} (h : aloneP l p a = 0) : ParseOk l p := by
  unfold aloneP at h
  by_cases h1 : patsB l = true
  · rw [if_pos h1] at h
    by_cases h2 : 0 ≤ a ∧ a ≤ 1000
    · rw [if_pos h2] at h
      by_cases h3 : pitsB p = true
      · exact ⟨pats_len h1, pits_len h3, pats_each h1⟩
      · rw [if_neg h3] at h; exact absurd h (by decide)
    · rw [if_neg h2] at h; exact absurd h (by decide)
  · rw [if_neg h1] at h; exact absurd h (by decide)
end Go.Proofs.Ytihphgiopjiohaa.P

/- The least cost: both answer alike. -/
namespace Go.Proofs.Ytihphgiopjiohaa.P
open Go.RowKit Go.Proofs.YtihphgiopjiohaaW.PrintWords Go.Proofs.YtihphgiopjiohaaL
theorem core_ParseCost {l : List S47} (hl : l.length ≤ 1048576) {p : List Int} (hp : p.length ≤ 1048576) (a : Int) : ∃ v c : Int, Ev (fun k => spec_ParseCost.f k l p a) (v, c) ∧ Ev (fun k => impl_ParseCost.f k l p a) (v, c) := by
  unfold spec_ParseCost.f impl_ParseCost.f
  by_cases h : aloneP l p a = 0
  · obtain ⟨C, h1, _, h3, h4⟩ := parse_costs (alone_ok h) a
    have hb : 0 < (C.length : Int) := by omega
    exact ⟨rd C 0, 0, Ev.bind (l11Alone_ev hl hp a) (Ev.pos h (Ev.bind h3 (Ev.const (if_pos hb)))), Ev.bind (parseCode_alone l p a) (Ev.pos h (Ev.bind h4 (Ev.const (if_pos hb))))⟩
  · exact ⟨0, aloneP l p a, Ev.bind (l11Alone_ev hl hp a) (Ev.neg h (Ev.now _)), Ev.bind (parseCode_alone l p a) (Ev.neg h (Ev.now _))⟩
end Go.Proofs.Ytihphgiopjiohaa.P

/- The plain law behind FnExactParseCost: the reference and the program answer the same, and the copies stay. Conditions: none beyond the kinds' own bounds. -/
namespace Go.Proofs.Ytihphgiopjiohaa.Pure
open Go.RowKit Go.Proofs.YtihphgiopjiohaaW.PrintWords Go.Proofs.YtihphgiopjiohaaL Go.Proofs.Ytihphgiopjiohaa.P
theorem FnExactParseCost : ∀ (x0 : List P.S46) (x1 : List Int) (x2 : Int), (x0.length ≤ maxLen ∧ ∀ y ∈ x0, g46 y) → (x1.length ≤ maxLen ∧ ∀ y ∈ x1, (Lit.int .i64 y).wf = true) → (Lit.int .i64 x2).wf = true → ∃ k : Nat, P.laws_FnExactParseCost.f k x0 x1 x2 = some true := by
  intro x0 x1 x2 ⟨hl0, hg0⟩ ⟨hl1, hg1⟩ _
  refine Ev.rounds (g := fun k => P.laws_FnExactParseCost.f k x0 x1 x2) ?_
  unfold laws_FnExactParseCost.f
  by_cases hs1x : (x1.length : Int) > 1048576
  · exact Ev.pos hs1x (Ev.now _)
  refine Ev.neg hs1x ?_
  have hx1 : x1.length ≤ 1048576 := by omega
  obtain ⟨r0, hr0, h0⟩ := szPatternS_some hl0 hg0 (a := 1048576) (by omega) (by omega) (k := 10000000) (by omega)
  refine Ev.bind (a := r0) (Ev.of (g := fun k => laws_szPatternS.f k x0 1048576) (fun k => laws_szPatternS.mono _ _ k) hr0) ?_
  try dsimp only
  by_cases g0 : r0 < 0
  · exact Ev.pos g0 (Ev.now _)
  refine Ev.neg g0 ?_
  obtain ⟨p0, q0, z0, s0⟩ := h0.resolve_left g0
  unfold laws_FnExactParseCost.g
  have hx0 : (x0.map cPattern).length ≤ 1048576 := by simpa using z0
  have hs0 : ∀ y ∈ x0.map cPattern, smiPattern y := fun y hy => by obtain ⟨x, hx, rfl⟩ := List.mem_map.1 hy; exact smi_cPattern (s0 x hx)
  have hT0 : Ev (fun k => laws_toPatternS.f k x0) (x0.map cPattern) := Ev.le 10000000 (fun k hk => toPatternS_eq z0 s0 (by omega))
  have hE0 : Ev (fun k => laws_eqPatternS.f k (x0.map cPattern) (x0.map cPattern)) true := Ev.le 10000000 (fun k hk => by rw [eqPatternS_eq hx0 hs0 (by omega)]; simp)
  have hT1 : Ev (fun k => laws_toInt64S.f k x1) x1 := Ev.le 10000000 (fun k hk => toInt64S_eq hx1 (by omega))
  have hE1 : Ev (fun k => laws_eqInt64S.f k x1 x1) true := Ev.le 10000000 (fun k hk => by rw [eqInt64S_eq hx1 (by omega)]; simp)
  generalize x0.map cPattern = l0 at hx0 hT0 hE0 hs0 ⊢
  refine Ev.bind hT0 ?_
  try dsimp only
  refine Ev.bind hT1 ?_
  try dsimp only
  obtain ⟨v, c, hS, hI⟩ := core_ParseCost hx0 hx1 x2
  refine Ev.bind hS ?_
  try dsimp only
  refine Ev.bind hT0 ?_
  try dsimp only
  refine Ev.bind hT1 ?_
  try dsimp only
  refine Ev.bind hI ?_
  try dsimp only
  refine Ev.pos rfl ?_
  refine Ev.pos rfl ?_
  refine Ev.bind hT0 ?_
  try dsimp only
  refine Ev.yes hE0 ?_
  refine Ev.bind hT1 ?_
  try dsimp only
  refine Ev.yes hE1 ?_
  exact Ev.now _
end Go.Proofs.Ytihphgiopjiohaa.Pure
