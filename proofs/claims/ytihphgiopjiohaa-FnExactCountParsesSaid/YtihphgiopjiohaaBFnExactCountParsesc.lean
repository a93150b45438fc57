/- Part c of what FnExactCountParses stands on: functions of the program as Lean functions with their walks, and plain lemmas. -/
import Derived.Test.YtihphgiopjiohaaBFnExactCountParsesa
import Derived.Test.YtihphgiopjiohaaBFnExactCountParsesb
/- Patterns at a place: the reference and the program find the same ones. -/
namespace Go.Proofs.Ytihphgiopjiohaa.P
open Go.RowKit Go.Proofs.YtihphgiopjiohaaW.PrintWords Go.Proofs.YtihphgiopjiohaaL
def fits (x : S47) (p : List Int) (a : Nat) : Bool := decide (a + x.f0.length ≤ p.length) && decide ((p.drop a).take x.f0.length = x.f0)
def atF (p : List Int) (a : Nat) : Nat → List S47 → List Int
  | _, [] => []
  | n, x :: r => if fits x p a = true then (n : Int) :: atF p a (n + 1) r else atF p a (n + 1) r
def atB (l : List S47) (p : List Int) (a : Nat) : List Int := atF p a 0 l
theorem Fits_e_eq (l : List S47) (i : Int) {p : List Int} (hp : p.length ≤ 1048576) {a : Nat} (ha : a ≤ 1048576) (hx : (rd_T47 l i).f0.length ≤ 1048576) {k : Nat} (hk : (rd_T47 l i).f0.length + 10 ≤ k) : spec_l11Fits_e.f k l i p (a : Int) = some (fits (rd_T47 l i) p a) := by
  unfold spec_l11Fits_e.f fits
  have w1 : wrap64 ((a : Int) + ((rd_T47 l i).f0.length : Int)) = ((a + (rd_T47 l i).f0.length : Nat) : Int) := by rw [wrap_id (by omega) (by omega)]; omega
  rw [w1]
  by_cases h : a + (rd_T47 l i).f0.length ≤ p.length
  · rw [if_neg (by omega), decide_eq_true h, Bool.true_and]
    have hlen : ((p.drop a).take (rd_T47 l i).f0.length).length = (rd_T47 l i).f0.length := by rw [List.length_take, List.length_drop]; omega
    refine eq_loop (fun k j => spec_l11Fits_e.l0 k p (a : Int) j l i) _ (rd_T47 l i).f0 hlen 0 (fun k j hj hj2 hB => ?_) (fun k => ?_) k (by omega)
    · simp only [spec_l11Fits_e.l0]
      have w2 : wrap64 ((a : Int) + (j : Int)) = ((a + j : Nat) : Int) := by rw [wrap_id (by omega) (by omega)]; omega
      have hpj : a + j < p.length := by omega
      rw [if_pos (lt_cast hj2), w2, if_pos (nn_cast _), if_pos (lt_cast hpj), if_pos (nn_cast _), rd_get hpj, rd_get hj2, wrap_succ hj2 (by omega)]
      have e : ((p.drop a).take (rd_T47 l i).f0.length)[j] = p[a + j] := by rw [List.getElem_take, List.getElem_drop]
      rw [e]
    · simp only [spec_l11Fits_e.l0]
      rw [if_neg (by omega)]
  · rw [if_pos (by omega), decide_eq_false h]; rfl
theorem Equal_eq {a b : List Int} (ha : a.length ≤ 1048576) {k : Nat} (hk : a.length + 10 ≤ k) : slices_Equal_S_int64.f k a b = some (decide (a = b)) := by
  unfold slices_Equal_S_int64.f
  by_cases h : a.length = b.length
  · rw [if_pos (by omega)]
    refine eq_loop (fun k j => slices_Equal_S_int64.l0 k a b (a.length : Int) j) a b h 0 (fun k j hj hj2 hB => ?_) (fun k => ?_) k (by omega)
    · simp only [slices_Equal_S_int64.l0]
      rw [if_pos (lt_cast hj), if_pos (nn_cast _), if_pos (lt_cast hj), if_pos (lt_cast hj2), rd_get hj, rd_get hj2, wrap_succ hj (by omega)]
    · simp only [slices_Equal_S_int64.l0]
      rw [if_neg (nlt_cast _)]
  · rw [if_neg (by omega), decide_eq_false (fun e => h (by rw [e]))]
theorem atF_step {p : List Int} {a : Nat} {l : List S47} {i : Nat} (hi : i < l.length) : atF p a (l.length - (l[i] :: l.drop (i + 1)).length) (l[i] :: l.drop (i + 1)) = (if fits l[i] p a = true then (i : Int) :: atF p a (l.length - (l.drop (i + 1)).length) (l.drop (i + 1)) else atF p a (l.length - (l.drop (i + 1)).length) (l.drop (i + 1))) := by
  have e1 : l.length - (l[i] :: l.drop (i + 1)).length = i := by rw [List.length_cons, List.length_drop]; omega
  have e2 : l.length - (l.drop (i + 1)).length = i + 1 := by rw [List.length_drop]; omega
  rw [e1, e2, atF]
theorem l11At_eq {l : List S47} (hl : l.length ≤ 1048576) (hx : ∀ x ∈ l, x.f0.length ≤ 1000) {p : List Int} (hp : p.length ≤ 1048576) {a : Nat} (ha : a ≤ 1048576) {k : Nat} (hk : l.length + 1020 ≤ k) : spec_l11At.f k l p (a : Int) = some (atB l p a) := by
  unfold spec_l11At.f atB
  refine (list_loop (fun k s i => spec_l11At.l0 k l p (a : Int) s i) l (fun r s => s ++ atF p a (l.length - r.length) r) (fun i s => s.length ≤ i) 1010 (fun k i hi s hI hB => ?_) (fun k s hI => ?_) k [] (by omega) (by simp)).trans (by simp)
  · right
    have hxi := hx l[i] (List.getElem_mem hi)
    simp only [spec_l11At.l0]
    rw [if_pos (lt_cast hi), if_pos (nn_cast i), Fits_e_eq l (i : Int) hp ha (by rw [rd_iPattern hi]; omega) (by rw [rd_iPattern hi]; omega), rd_iPattern hi, wrap_succ hi (by omega), atF_step hi]
    simp only [Option.bind_some]
    by_cases h : fits l[i] p a = true
    · rw [if_pos h, if_pos h, if_pos (show s.length < 17592186044416 by omega)]
      exact ⟨s ++ [(i : Int)], by simp; omega, by rw [List.append_assoc]; rfl, rfl⟩
    · rw [if_neg h, if_neg h]
      exact ⟨s, by omega, rfl, rfl⟩
  · simp only [spec_l11At.l0]
    rw [if_neg (nlt_cast _)]; simp [atF]
theorem patternsAt_eq {l : List S47} (hl : l.length ≤ 1048576) (hx : ∀ x ∈ l, x.f0.length ≤ 1000) {p : List Int} (_ : p.length ≤ 1048576) {a : Nat} (ha : a ≤ 1048576) {k : Nat} (hk : l.length + 1020 ≤ k) : impl_patternsAt.f k l p (a : Int) = some (atB l p a) := by
  unfold impl_patternsAt.f atB
  refine (list_loop (fun k s i => impl_patternsAt.l0 k p (a : Int) s l (l.length : Int) i) l (fun r s => s ++ atF p a (l.length - r.length) r) (fun i s => s.length ≤ i) 1010 (fun k i hi s hI hB => ?_) (fun k s hI => ?_) k [] (by omega) (by simp)).trans (by simp)
  · right
    have hxi := hx l[i] (List.getElem_mem hi)
    have w1 : wrap64 ((a : Int) + (l[i].f0.length : Int)) = ((a + l[i].f0.length : Nat) : Int) := by rw [wrap_id (by omega) (by omega)]; omega
    simp only [impl_patternsAt.l0]
    rw [if_pos (lt_cast hi), if_pos (nn_cast i), if_pos (lt_cast hi), rd_iPattern hi, w1, wrap_succ hi (by omega), atF_step hi]
    unfold fits
    by_cases h : a + l[i].f0.length ≤ p.length
    · have e : (p.take ((a + l[i].f0.length : Nat) : Int).toNat).drop ((a : Nat) : Int).toNat = (p.drop a).take l[i].f0.length := by
        rw [Int.toNat_natCast, Int.toNat_natCast, List.drop_take, show a + l[i].f0.length - a = l[i].f0.length by omega]
      have hlen : ((p.drop a).take l[i].f0.length).length ≤ 1000 := by rw [List.length_take]; omega
      rw [if_pos (show (((a + l[i].f0.length : Nat) : Int) ≤ (p.length : Int)) by omega), if_pos (nn_cast a), if_pos (show (a : Int) ≤ ((a + l[i].f0.length : Nat) : Int) by omega), e, Equal_eq (by omega) (by omega), decide_eq_true h, Bool.true_and]
      simp only [Option.bind_some]
      by_cases h2 : (p.drop a).take l[i].f0.length = l[i].f0
      · rw [decide_eq_true h2, if_pos rfl, if_pos rfl, if_pos (show s.length < 17592186044416 by omega)]
        exact ⟨s ++ [(i : Int)], by simp; omega, by rw [List.append_assoc]; rfl, rfl⟩
      · rw [decide_eq_false h2, if_neg (by decide), if_neg (by decide)]
        exact ⟨s, by omega, rfl, rfl⟩
    · rw [if_neg (show ¬ (((a + l[i].f0.length : Nat) : Int) ≤ (p.length : Int)) by omega), decide_eq_false h, Bool.false_and, if_neg (by decide)]
      exact ⟨s, by omega, rfl, rfl⟩
  · simp only [impl_patternsAt.l0]
    rw [if_neg (nlt_cast _)]; simp [atF]
theorem mem_atF {p : List Int} {a : Nat} : ∀ (l : List S47) (n : Nat) (z : Int), z ∈ atF p a n l ↔ ∃ j, ∃ h : j < l.length, z = ((n + j : Nat) : Int) ∧ fits l[j] p a = true
  | [], n, z => by simp [atF]
  | x :: r, n, z => by
    have ih := mem_atF (p := p) (a := a) r (n + 1) z
    rw [atF]
    have key : (∃ j, ∃ h : j < (x :: r).length, z = ((n + j : Nat) : Int) ∧ fits (x :: r)[j] p a = true) ↔ (z = (n : Int) ∧ fits x p a = true) ∨ ∃ j, ∃ h : j < r.length, z = ((n + 1 + j : Nat) : Int) ∧ fits r[j] p a = true := by
      constructor
      · rintro ⟨j, h, e, f⟩
        cases j with
        | zero => exact .inl ⟨by simpa using e, by simpa using f⟩
        | succ j => exact .inr ⟨j, by simpa using h, by rw [e]; congr 1; omega, by simpa using f⟩
      · rintro (⟨e, f⟩ | ⟨j, h, e, f⟩)
        · exact ⟨0, by simp, by simpa using e, by simpa using f⟩
        · exact ⟨j + 1, by simpa using h, by rw [e]; congr 1; omega, by simpa using f⟩
    rw [key]
    by_cases h : fits x p a = true
    · rw [if_pos h, List.mem_cons, ih]
      simp [h]
    · rw [if_neg h, ih]
      simp [h]
theorem mem_atB {l : List S47} {p : List Int} {a : Nat} {z : Int} : z ∈ atB l p a ↔ ∃ j, ∃ h : j < l.length, z = (j : Int) ∧ fits l[j] p a = true := by
  unfold atB; rw [mem_atF]; simp
theorem fits_le {x : S47} {p : List Int} {a : Nat} (h : fits x p a = true) : a + x.f0.length ≤ p.length := by
  unfold fits at h; simp only [Bool.and_eq_true, decide_eq_true_iff] at h; exact h.1
theorem atF_length {p : List Int} {a : Nat} : ∀ (l : List S47) (n : Nat), (atF p a n l).length ≤ l.length
  | [], n => by simp [atF]
  | x :: r, n => by
    have := atF_length (p := p) (a := a) r (n + 1)
    rw [atF]; split <;> simp <;> omega
/-! ### the codes -/
def pitsB (p : List Int) : Bool := p.all pitchB && decide (p.length ≤ 64)
def askP (l : List S47) (p : List Int) : Int := if patsB l = true then (if pitsB p = true then 0 else 7) else 1
def placeP (l : List S47) (p : List Int) (a : Int) : Int := if patsB l = true then (if 0 ≤ a ∧ a ≤ (p.length : Int) then (if pitsB p = true then 0 else 7) else 2) else 1
theorem l11Ask_eq {l : List S47} (hl : l.length ≤ 1048576) {p : List Int} (hp : p.length ≤ 1048576) {k : Nat} (hk : 1048700 ≤ k) : spec_l11Ask.f k l p = some (askP l p) := by
  unfold spec_l11Ask.f askP
  rw [l11Ok_eq hl (by omega)]; simp only [Option.bind_some]
  by_cases h : patsB l = true
  · rw [if_pos h, if_pos h, l05Pitches_eq hp (by omega)]; simp only [Option.bind_some]
    unfold pitsB
    split <;> rfl
  · rw [if_neg h, if_neg h]
theorem l11Place_eq {l : List S47} (hl : l.length ≤ 1048576) {p : List Int} (hp : p.length ≤ 1048576) (a : Int) {k : Nat} (hk : 1048700 ≤ k) : spec_l11Place.f k l p a = some (placeP l p a) := by
  unfold spec_l11Place.f placeP
  rw [l11Ask_eq hl hp hk]; simp only [Option.bind_some]
  unfold askP
  by_cases h : patsB l = true
  · rw [if_pos h, if_pos h, l00In_eq]; simp only [Option.bind_some]
    have h1 : ¬ (if pitsB p = true then (0 : Int) else 7) = 1 := by split <;> decide
    rw [if_neg h1]
    by_cases hr : 0 ≤ a ∧ a ≤ (p.length : Int)
    · rw [if_pos (by simp [hr.1, hr.2]), if_pos hr]
    · rw [if_neg (by simp; omega), if_neg hr]
  · rw [if_neg h, if_neg h, if_pos rfl]
theorem pitchesOk_eq (p : List Int) : impl_pitchesOk.f p = some (pitsB p) := by
  unfold impl_pitchesOk.f pitsB impl_allWithin.f
  have e : (!(p.any (impl_allWithin.p (-12) 23))) = p.all pitchB := by
    rw [List.not_any_eq_all_not]
    congr 1; funext n; unfold impl_allWithin.p pitchB
    cases decide (-12 ≤ n) <;> cases decide (n ≤ 23) <;> rfl
  rw [e]
  by_cases h : p.length ≤ 64
  · rw [if_pos (by omega), decide_eq_true h, Bool.and_true]; rfl
  · rw [if_neg (by omega), decide_eq_false h, Bool.and_false]
theorem parseCode_eq (l : List S47) (p : List Int) (a : Int) {k : Nat} (hk : 10 ≤ k) : impl_parseCode.f k l p a 0 = some (placeP l p a) := by
  obtain ⟨k, rfl⟩ : ∃ m, k = m + 1 := ⟨k - 1, by omega⟩
  unfold impl_parseCode.f placeP
  rw [ValidPatterns_eq]; simp only [Option.bind_some]
  by_cases h : patsB l = true
  · rw [if_pos h, if_pos h, impl_allWithin.within, impl_allWithin.within]; simp only [Option.bind_some]
    by_cases hr : 0 ≤ a ∧ a ≤ (p.length : Int)
    · rw [if_pos (by simp [hr.1, hr.2]), if_pos hr]
      simp only [impl_parseCode.j0]
      rw [if_neg (by decide), pitchesOk_eq]; simp only [Option.bind_some]
      split <;> rfl
    · rw [if_neg (by simp; omega), if_neg hr]
      simp only [impl_parseCode.j0, if_true]
  · rw [if_neg h, if_neg h]
theorem place_zero (l : List S47) (p : List Int) : placeP l p 0 = askP l p := by
  unfold placeP askP
  rw [if_pos (show (0 : Int) ≤ 0 ∧ (0 : Int) ≤ (p.length : Int) by omega)]
theorem pats_len {l : List S47} (h : patsB l = true) : l.length ≤ 12 := by
  unfold patsB at h; simp only [Bool.and_eq_true, decide_eq_true_iff] at h; exact h.2
theorem pats_each {l : List S47} (h : patsB l = true) : ∀ x ∈ l, 1 ≤ x.f0.length ∧ x.f0.length ≤ 8 ∧ 0 ≤ x.f1 ∧ x.f1 ≤ 1000 := by
  unfold patsB at h; simp only [Bool.and_eq_true, List.all_eq_true] at h
  intro x hx
  have := h.1 x hx
  unfold patB at this
  simp only [Bool.and_eq_true, decide_eq_true_iff] at this
  exact ⟨this.1.1.1, this.1.1.2, this.2.1, this.2.2⟩
theorem pits_len {p : List Int} (h : pitsB p = true) : p.length ≤ 64 := by
  unfold pitsB at h; simp only [Bool.and_eq_true, decide_eq_true_iff] at h; exact h.2
theorem place_ok {l : List S47} {p : List Int} {a : Int} (h : placeP l p a = 0) : patsB l = true ∧ pitsB p = true ∧ 0 ≤ a ∧ a ≤ (p.length : Int) := by
  unfold placeP at h
  by_cases h1 : patsB l = true
  · rw [if_pos h1] at h
    by_cases h2 : 0 ≤ a ∧ a ≤ (p.length : Int)
    · rw [if_pos h2] at h
      by_cases h3 : pitsB p = true
      · exact ⟨h1, h3, h2.1, h2.2⟩
      · rw [if_neg h3] at h; exact absurd h (by decide)
    · rw [if_neg h2] at h; exact absurd h (by decide)
  · rw [if_neg h1] at h; exact absurd h (by decide)
structure ParseOk (l : List S47) (p : List Int) : Prop where
  l12 : l.length ≤ 12
  p64 : p.length ≤ 64
  each : ∀ x ∈ l, 1 ≤ x.f0.length ∧ x.f0.length ≤ 8 ∧ 0 ≤ x.f1 ∧ x.f1 ≤ 1000
theorem parse_ok {l : List S47} {p : List Int} {a : Int} (h : placeP l p a = 0) : ParseOk l p :=
  have h' := place_ok h
  ⟨pats_len h'.1, pits_len h'.2.1, pats_each h'.1⟩
theorem ParseOk.short {l : List S47} {p : List Int} (h : ParseOk l p) : ∀ x ∈ l, x.f0.length ≤ 1000 := fun x hx => by have := h.each x hx; omega
/-- The length of the pattern with a number. -/
def lenOf (l : List S47) (z : Int) : Int := ((rd_T47 l z).f0.length : Int)
theorem at_mem {l : List S47} {p : List Int} (hok : ParseOk l p) {a : Nat} {z : Int} (h : z ∈ atB l p a) : 0 ≤ z ∧ z < (l.length : Int) ∧ 1 ≤ lenOf l z ∧ (a : Int) + lenOf l z ≤ (p.length : Int) := by
  obtain ⟨j, hj, rfl, hf⟩ := mem_atB.1 h
  have h1 := fits_le hf
  have h2 := hok.each l[j] (List.getElem_mem hj)
  unfold lenOf
  rw [rd_iPattern hj]
  omega
end Go.Proofs.Ytihphgiopjiohaa.P

/- Counting parses. -/
namespace Go.Proofs.Ytihphgiopjiohaa.P
open Go.RowKit Go.Proofs.YtihphgiopjiohaaW.PrintWords Go.Proofs.YtihphgiopjiohaaL
/-! ### counting -/
def cntI (l : List S47) (a : Nat) (o : List Int) (z : Int) : List Int := o.set a (wrap64 (rd o (a : Int) + rd o ((a : Int) + lenOf l z)))
def cntS (l : List S47) (p : List Int) (o : List Int) (a : Nat) : List Int := (atB l p a).foldl (cntI l a) (o.set a (rd o ((a + 1 : Nat) : Int)))
def cnt (l : List S47) (p : List Int) : Nat → List Int → Int × Int
  | 0, o => (rd o 0, 0)
  | a + 1, o => if rd (cntS l p o a) (a : Int) > 1000000000000 then (0, 6) else cnt l p a (cntS l p o a)
theorem cntI_len (l : List S47) (a : Nat) (o : List Int) (z : Int) : (cntI l a o z).length = o.length := by unfold cntI; simp
theorem cntF_len (l : List S47) (a : Nat) : ∀ (r : List Int) (o : List Int), (r.foldl (cntI l a) o).length = o.length
  | [], _ => rfl
  | z :: r, o => by rw [List.foldl_cons, cntF_len l a r, cntI_len]
theorem cntS_len (l : List S47) (p o : List Int) (a : Nat) : (cntS l p o a).length = o.length := by unfold cntS; rw [cntF_len]; simp
theorem spec_l1_step {l : List S47} {p s S : List Int} {a i k d : Nat} {z : Int} (hi : i < S.length) (hz : S[i] = z) (m1 : 0 ≤ z) (m2 : z < (l.length : Int)) (hd : (rd_T47 l z).f0.length = d) (h1 : (a : Int) < (s.length : Int)) (h2 : (a : Int) + (d : Int) < (s.length : Int)) (hs : s.length ≤ 1000) (hS : S.length ≤ 12) : spec_CountParses.l1 (k + 1) l p s (a : Int) S (i : Int) = spec_CountParses.l1 k l p (s.set a (wrap64 (rd s (a : Int) + rd s ((a : Int) + (d : Int))))) (a : Int) S ((i + 1 : Nat) : Int) := by
  have w2 : wrap64 ((a : Int) + (d : Int)) = (a : Int) + (d : Int) := wrap_id (by omega) (by omega)
  have ws : wrap64 ((i : Int) + 1) = ((i + 1 : Nat) : Int) := wrap_succ hi (by omega)
  have h3 : 0 ≤ (a : Int) + (d : Int) := by omega
  simp only [spec_CountParses.l1]
  rw [if_pos (lt_cast hi), if_pos (nn_cast a), if_pos h1, if_pos (nn_cast i), rd_get hi, hz, if_pos m1, if_pos m2, hd, w2, if_pos h3, if_pos h2, ws, Int.toNat_natCast]
theorem impl_l1_step {l : List S47} {p s S : List Int} {a i k d : Nat} {z : Int} (hi : i < S.length) (hz : S[i] = z) (m1 : 0 ≤ z) (m2 : z < (l.length : Int)) (hd : (rd_T47 l z).f0.length = d) (h1 : (a : Int) < (s.length : Int)) (h2 : (a : Int) + (d : Int) < (s.length : Int)) (hs : s.length ≤ 1000) (hS : S.length ≤ 12) : impl_CountParses.l1 (k + 1) l p s (a : Int) S (S.length : Int) (i : Int) = impl_CountParses.l1 k l p (s.set a (wrap64 (rd s (a : Int) + rd s ((a : Int) + (d : Int))))) (a : Int) S (S.length : Int) ((i + 1 : Nat) : Int) := by
  have w2 : wrap64 ((a : Int) + (d : Int)) = (a : Int) + (d : Int) := wrap_id (by omega) (by omega)
  have ws : wrap64 ((i : Int) + 1) = ((i + 1 : Nat) : Int) := wrap_succ hi (by omega)
  have h3 : 0 ≤ (a : Int) + (d : Int) := by omega
  simp only [impl_CountParses.l1]
  rw [if_pos (lt_cast hi), if_pos (nn_cast i), if_pos (lt_cast hi), if_pos (nn_cast a), if_pos h1, rd_get hi, hz, if_pos m1, if_pos m2, hd, w2, if_pos h3, if_pos h2, ws, Int.toNat_natCast]
theorem spec_cnt {l : List S47} {p : List Int} (hok : ParseOk l p) : ∀ (a k : Nat) (o : List Int), o.length = p.length + 1 → a ≤ p.length → 2000 + 100 * a ≤ k → spec_CountParses.l0 k l p o ((a : Int) - 1) = some (cnt l p a o) := by
  intro a
  induction a with
  | zero =>
    intro k o ho ha hk
    obtain ⟨k, rfl⟩ : ∃ m, k = m + 1 := ⟨k - 1, by omega⟩
    simp only [spec_CountParses.l0]
    rw [if_neg (by omega), if_pos (by omega)]; rfl
  | succ a ih =>
    intro k o ho ha hk
    obtain ⟨k, rfl⟩ : ∃ m, k = m + 1 := ⟨k - 1, by omega⟩
    have hl := hok.l12
    have hp := hok.p64
    have e1 : (((a + 1 : Nat) : Int) - 1) = (a : Int) := by omega
    have w1 : wrap64 ((a : Int) + 1) = ((a + 1 : Nat) : Int) := by rw [wrap_id (by omega) (by omega)]; omega
    rw [e1]
    simp only [spec_CountParses.l0]
    rw [if_pos (by omega), w1, if_pos (nn_cast _), if_pos (by omega), if_pos (nn_cast _), if_pos (by omega), l11At_eq (by omega) hok.short (by omega) (by omega) (by omega)]
    simp only [Option.bind_some, Int.toNat_natCast]
    have inner := list_loopW (fun k (s : List Int) i => spec_CountParses.l1 k l p s (a : Int) (atB l p a) i) (atB l p a) (fun r s => if rd (r.foldl (cntI l a) s) (a : Int) > 1000000000000 then some (0, 6) else some (cnt l p a (r.foldl (cntI l a) s))) (fun _ s => s.length = p.length + 1) (2000 + 100 * a) 1 (fun k i hi s hI hB => ?_) (fun k s hI hB => ?_) k (o.set a (rd o ((a + 1 : Nat) : Int))) (by have := atF_length (p := p) (a := a) l 0; unfold atB; omega) (by simp [ho])
    · rw [inner]
      show _ = some (if rd (cntS l p o a) (a : Int) > 1000000000000 then (0, 6) else cnt l p a (cntS l p o a))
      unfold cntS
      split <;> rfl
    · right
      have hm := at_mem hok (List.getElem_mem hi)
      have hI' : s.length = p.length + 1 := hI
      have hlen' : (atB l p a).length ≤ 12 := Nat.le_trans (atF_length (p := p) (a := a) l 0) hl
      have hL := spec_l1_step (l := l) (p := p) (s := s) (S := atB l p a) (a := a) (i := i) (k := k) hi rfl hm.1 hm.2.1 rfl (by rw [hI']; clear hm; omega) (by have := hm.2.2.2; unfold lenOf at this; rw [hI']; generalize (rd_T47 l (atB l p a)[i]).f0.length = d at this ⊢; clear hm; omega) (by rw [hI']; omega) hlen'
      exact ⟨cntI l a s (atB l p a)[i], k, Nat.le_refl _, by rw [cntI_len]; exact hI, by rw [List.foldl_cons], hL⟩
    · simp only [spec_CountParses.l1]
      rw [if_neg (nlt_cast _), if_pos (nn_cast a), if_pos (show (a : Int) < (s.length : Int) by omega)]
      have w3 : wrap64 ((a : Int) - 1) = (a : Int) - 1 := wrap_id (by omega) (by omega)
      rw [w3, ih k s hI (by omega) (by omega)]; rfl
theorem impl_cnt {l : List S47} {p : List Int} (hok : ParseOk l p) : ∀ (a k : Nat) (o : List Int), o.length = p.length + 1 → a ≤ p.length → 2000 + 100 * a ≤ k → impl_CountParses.l0 k l p o ((a : Int) - 1) = some (cnt l p a o) := by
  intro a
  induction a with
  | zero =>
    intro k o ho ha hk
    obtain ⟨k, rfl⟩ : ∃ m, k = m + 1 := ⟨k - 1, by omega⟩
    simp only [impl_CountParses.l0]
    rw [if_neg (by omega), if_pos (by omega)]; rfl
  | succ a ih =>
    intro k o ho ha hk
    obtain ⟨k, rfl⟩ : ∃ m, k = m + 1 := ⟨k - 1, by omega⟩
    have hl := hok.l12
    have hp := hok.p64
    have e1 : (((a + 1 : Nat) : Int) - 1) = (a : Int) := by omega
    have w1 : wrap64 ((a : Int) + 1) = ((a + 1 : Nat) : Int) := by rw [wrap_id (by omega) (by omega)]; omega
    rw [e1]
    simp only [impl_CountParses.l0]
    rw [if_pos (by omega), w1, if_pos (nn_cast _), if_pos (by omega), if_pos (nn_cast _), if_pos (by omega), patternsAt_eq (by omega) hok.short (by omega) (by omega) (by omega)]
    simp only [Option.bind_some, Int.toNat_natCast]
    have inner := list_loopW (fun k (s : List Int) i => impl_CountParses.l1 k l p s (a : Int) (atB l p a) ((atB l p a).length : Int) i) (atB l p a) (fun r s => if rd (r.foldl (cntI l a) s) (a : Int) > 1000000000000 then some (0, 6) else some (cnt l p a (r.foldl (cntI l a) s))) (fun _ s => s.length = p.length + 1) (2000 + 100 * a) 1 (fun k i hi s hI hB => ?_) (fun k s hI hB => ?_) k (o.set a (rd o ((a + 1 : Nat) : Int))) (by have := atF_length (p := p) (a := a) l 0; unfold atB; omega) (by simp [ho])
    · rw [inner]
      show _ = some (if rd (cntS l p o a) (a : Int) > 1000000000000 then (0, 6) else cnt l p a (cntS l p o a))
      unfold cntS
      split <;> rfl
    · right
      have hm := at_mem hok (List.getElem_mem hi)
      have hI' : s.length = p.length + 1 := hI
      have hlen' : (atB l p a).length ≤ 12 := Nat.le_trans (atF_length (p := p) (a := a) l 0) hl
      have hL := impl_l1_step (l := l) (p := p) (s := s) (S := atB l p a) (a := a) (i := i) (k := k) hi rfl hm.1 hm.2.1 rfl (by rw [hI']; clear hm; omega) (by have := hm.2.2.2; unfold lenOf at this; rw [hI']; generalize (rd_T47 l (atB l p a)[i]).f0.length = d at this ⊢; clear hm; omega) (by rw [hI']; omega) hlen'
      exact ⟨cntI l a s (atB l p a)[i], k, Nat.le_refl _, by rw [cntI_len]; exact hI, by rw [List.foldl_cons], hL⟩
    · simp only [impl_CountParses.l1]
      rw [if_neg (nlt_cast _), if_pos (nn_cast a), if_pos (show (a : Int) < (s.length : Int) by omega)]
      have w3 : wrap64 ((a : Int) - 1) = (a : Int) - 1 := wrap_id (by omega) (by omega)
      rw [w3, ih k s hI (by omega) (by omega)]; rfl
def cntAll (l : List S47) (p : List Int) : Int × Int := cnt l p p.length ((List.replicate (p.length + 1) 0).set p.length 1)
theorem CountParses_spec {l : List S47} (hl : l.length ≤ 1048576) {p : List Int} (hp : p.length ≤ 1048576) {k : Nat} (hk : 1048700 ≤ k) : spec_CountParses.f k l p = some (if askP l p = 0 then cntAll l p else (0, askP l p)) := by
  unfold spec_CountParses.f
  rw [l11Ask_eq hl hp hk, Option.bind_some]
  by_cases h : askP l p = 0
  · have hok := parse_ok (a := 0) (by rw [place_zero]; exact h)
    have hp64 := hok.p64
    have w1 : wrap64 ((p.length : Int) + 1) = ((p.length + 1 : Nat) : Int) := by rw [wrap_id (by omega) (by omega)]; omega
    have w2 : wrap64 ((p.length : Int) - 1) = (p.length : Int) - 1 := wrap_id (by omega) (by omega)
    have hb : p.length + 1 ≤ 35184372088832 := by omega
    have hlt : (p.length : Int) < ((List.replicate (p.length + 1) (0 : Int)).length : Int) := by rw [List.length_replicate]; omega
    rw [if_pos h, if_pos h, w1, if_pos (nn_cast _), Int.toNat_natCast, if_pos hb, Option.bind_some, if_pos (nn_cast _), if_pos hlt, Int.toNat_natCast, w2]
    exact spec_cnt hok p.length k _ (by simp) (Nat.le_refl _) (by omega)
  · rw [if_neg h, if_neg h]
theorem CountParses_impl {l : List S47} {p : List Int} {k : Nat} (hk : 1048700 ≤ k) : impl_CountParses.f k l p = some (if askP l p = 0 then cntAll l p else (0, askP l p)) := by
  unfold impl_CountParses.f
  rw [parseCode_eq l p 0 (by omega), place_zero, Option.bind_some]
  by_cases h : askP l p = 0
  · have hok := parse_ok (a := 0) (by rw [place_zero]; exact h)
    have hp64 := hok.p64
    have w1 : wrap64 ((p.length : Int) + 1) = ((p.length + 1 : Nat) : Int) := by rw [wrap_id (by omega) (by omega)]; omega
    have w2 : wrap64 ((p.length : Int) - 1) = (p.length : Int) - 1 := wrap_id (by omega) (by omega)
    have hb : p.length + 1 ≤ 35184372088832 := by omega
    have hlt : (p.length : Int) < ((List.replicate (p.length + 1) (0 : Int)).length : Int) := by rw [List.length_replicate]; omega
    rw [if_pos h, if_pos h, w1, if_pos (nn_cast _), Int.toNat_natCast, if_pos hb, Option.bind_some, if_pos (nn_cast _), if_pos hlt, Int.toNat_natCast, w2]
    exact impl_cnt hok p.length k _ (by simp) (Nat.le_refl _) (by omega)
  · rw [if_neg h, if_neg h]
end Go.Proofs.Ytihphgiopjiohaa.P

/- The plain law behind FnExactCountParses: the reference and the program answer the same, and the copies stay. Conditions: none beyond the kinds' own bounds. -/
namespace Go.Proofs.Ytihphgiopjiohaa.Pure
open Go.RowKit Go.Proofs.YtihphgiopjiohaaW.PrintWords Go.Proofs.YtihphgiopjiohaaL Go.Proofs.Ytihphgiopjiohaa.P
theorem FnExactCountParses : ∀ (x0 : List (P.S46)) (x1 : List Int), (x0.length ≤ maxLen ∧ ∀ y ∈ x0, g46 y) → (x1.length ≤ maxLen ∧ ∀ y ∈ x1, (Lit.int .i64 y).wf = true) → ∃ k : Nat, P.laws_FnExactCountParses.f k x0 x1 = some true := by
  intro x0 x1 ⟨hl0, hg0⟩ _
  refine ⟨3000000, ?_⟩
  unfold laws_FnExactCountParses.f
  by_cases hsx1 : (x1.length : Int) > 1048576
  · rw [if_pos hsx1]
  rw [if_neg hsx1]
  have hx1 : x1.length ≤ 1048576 := by omega
  obtain ⟨r, hr, h⟩ := szPatternS_some hl0 hg0 (a := 1048576) (by omega) (by omega) (k := 3000000) (by omega)
  rw [hr]; simp only [Option.bind_some]
  by_cases h0 : r < 0
  · rw [if_pos h0]
  rw [if_neg h0]
  obtain ⟨_, _, z0, s0⟩ := h.resolve_left h0
  have hz : (x0.map cPattern).length ≤ 1048576 := by simpa using z0
  have hT : ∀ k, 2097200 ≤ k → laws_toPatternS.f k x0 = some (x0.map cPattern) := fun k hk => toPatternS_eq z0 s0 (by omega)
  have hE : ∀ k, 2097200 ≤ k → laws_eqPatternS.f k (x0.map cPattern) (x0.map cPattern) = some true := fun k hk => by rw [eqPatternS_eq hz (smi_pats s0) (by omega)]; simp
  rw [hT _ (by omega)]
  simp only [Option.bind_some]
  generalize x0.map cPattern = l at hz hT hE ⊢
  rw [toInt64S_eq hx1 (by omega)]; simp only [Option.bind_some]
  obtain ⟨v, hS, hI⟩ : ∃ v, (∀ k, 2990000 ≤ k → spec_CountParses.f k l x1 = some v) ∧ (∀ k, 2990000 ≤ k → impl_CountParses.f k l x1 = some v) :=
    ⟨_, fun k hk => CountParses_spec hz hx1 (by omega), fun k hk => CountParses_impl (by omega)⟩
  rw [hS _ (by omega)]
  simp only [Option.bind_some]
  rw [hI _ (by omega)]
  simp only [Option.bind_some, if_true, laws_FnExactCountParses.j0, bne_self_eq_false, Bool.false_eq_true, if_false]
  rw [hT _ (by omega)]; simp only [Option.bind_some]
  rw [hE _ (by omega)]; simp only [Option.bind_some, if_true]
  rw [toInt64S_eq hx1 (by omega)]; simp only [Option.bind_some]
  rw [eqInt64S_eq hx1 (by omega)]; simp
end Go.Proofs.Ytihphgiopjiohaa.Pure
