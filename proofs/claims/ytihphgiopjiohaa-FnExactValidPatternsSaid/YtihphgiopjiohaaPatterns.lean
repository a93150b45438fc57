/- Valid patterns: the reference's and the program's test answer the same. -/
import Derived.Test.YtihphgiopjiohaaF36
import Derived.Test.YtihphgiopjiohaaF14
import Derived.Test.YtihphgiopjiohaaH
namespace Go.Proofs.Ytihphgiopjiohaa.P
open Go.RowKit Go.Proofs.YtihphgiopjiohaaW.PrintWords Go.Proofs.YtihphgiopjiohaaL
def pitchB (n : Int) : Bool := decide (-12 ≤ n) && decide (n ≤ 23)
def patB (x : S47) : Bool := (decide (1 ≤ x.f0.length) && decide (x.f0.length ≤ 8)) && x.f0.all pitchB && (decide (0 ≤ x.f1) && decide (x.f1 ≤ 1000))
def patsB (l : List S47) : Bool := l.all patB && decide (l.length ≤ 12)
theorem l00In_eq (x lo hi : Int) : spec_l00In.f x lo hi = some (decide (lo ≤ x) && decide (x ≤ hi)) := by
  unfold spec_l00In.f
  by_cases h : x ≥ lo
  · rw [if_pos h]; simp [ge_iff_le.1 h]
  · rw [if_neg h]
    have h' : ¬ lo ≤ x := h
    simp [h']
theorem l05Pitches_eq {l : List Int} (hl : l.length ≤ 1048576) {k : Nat} (hk : l.length + 2 ≤ k) : spec_l05Pitches.f k l = some (l.all pitchB && decide (l.length ≤ 64)) := by
  unfold spec_l05Pitches.f
  refine list_loop0 (fun k i => spec_l05Pitches.l0 k l i) l (fun r => r.all pitchB && decide (l.length ≤ 64)) 0 (fun k i hi _ => ?_) (fun k => ?_) k (by omega)
  · simp only [spec_l05Pitches.l0]
    rw [if_pos (lt_cast hi), if_pos (nn_cast i), rd_get hi, wrap_succ hi (by omega)]
    unfold spec_l03Pitch.f
    rw [l00In_eq]; simp only [Option.bind_some]
    rw [List.all_cons]
    change _ = some ((pitchB l[i] && _) && _) ∨ _
    by_cases h : pitchB l[i] = true
    · right
      refine ⟨by rw [h, Bool.true_and], ?_⟩
      exact if_pos h
    · left
      rw [Bool.not_eq_true] at h
      rw [h]
      exact if_neg (by unfold pitchB at h; rw [h]; decide)
  · simp only [spec_l05Pitches.l0]
    rw [if_neg (nlt_cast _)]
    simp
    omega
theorem l11One_e_eq (l : List S47) (i : Int) {k : Nat} (hk : 20 ≤ k) : spec_l11One_e.f k l i = some (patB (rd_T47 l i)) := by
  unfold spec_l11One_e.f patB
  generalize rd_T47 l i = x
  rw [l00In_eq]; simp only [Option.bind_some]
  by_cases h : (decide ((1 : Int) ≤ (x.f0.length : Int)) && decide ((x.f0.length : Int) ≤ 8)) = true
  · rw [if_pos h]
    have h1 : 1 ≤ x.f0.length ∧ x.f0.length ≤ 8 := by simp at h; omega
    rw [l05Pitches_eq (by omega) (by omega), l00In_eq]
    simp only [Option.bind_some]
    have h64 : x.f0.length ≤ 64 := by omega
    rw [decide_eq_true h1.1, decide_eq_true h1.2, decide_eq_true h64, Bool.and_true]
    cases x.f0.all pitchB <;> simp
  · rw [if_neg h]
    by_cases h1 : 1 ≤ x.f0.length
    · have : ¬ x.f0.length ≤ 8 := by intro h2; apply h; simp; omega
      rw [decide_eq_false this]; simp
    · rw [decide_eq_false h1]; simp
theorem Pattern_valid_eq (x : S47) : impl_Pattern_valid.f x.f0 x.f1 = some (patB x) := by
  unfold impl_Pattern_valid.f patB impl_allWithin.f
  rw [impl_allWithin.within]
  have e : (!(x.f0.any (impl_allWithin.p (-12) 23))) = x.f0.all pitchB := by
    rw [List.not_any_eq_all_not]
    congr 1; funext n; unfold impl_allWithin.p pitchB
    cases decide (-12 ≤ n) <;> cases decide (n ≤ 23) <;> rfl
  rw [e]
  by_cases h1 : 1 ≤ x.f0.length
  · rw [if_pos (by omega)]
    by_cases h2 : x.f0.length ≤ 8
    · rw [if_pos (by omega)]
      simp only [Option.bind_some]
      rw [decide_eq_true h1, decide_eq_true h2]
      cases x.f0.all pitchB <;> simp
    · rw [if_neg (by omega), decide_eq_false h2]; simp
  · rw [if_neg (by omega), decide_eq_false h1]; simp
theorem l11Ok_eq {l : List S47} (hl : l.length ≤ 1048576) {k : Nat} (hk : l.length + 30 ≤ k) : spec_l11Ok.f k l = some (patsB l) := by
  unfold spec_l11Ok.f patsB
  refine list_loop0 (fun k i => spec_l11Ok.l0 k l i) l (fun r => r.all patB && decide (l.length ≤ 12)) 20 (fun k i hi hB => ?_) (fun k => ?_) k (by omega)
  · simp only [spec_l11Ok.l0]
    rw [if_pos (lt_cast hi), if_pos (nn_cast i), l11One_e_eq _ _ hB, rd_iPattern hi, wrap_succ hi (by omega), List.all_cons]
    simp only [Option.bind_some]
    by_cases h : patB l[i] = true
    · right; rw [if_pos h, h, Bool.true_and]; exact ⟨rfl, rfl⟩
    · left; rw [if_neg h]; rw [Bool.not_eq_true] at h; rw [h]; rfl
  · simp only [spec_l11Ok.l0]
    rw [if_neg (nlt_cast _)]
    simp
    omega
theorem ValidPatterns_eq (l : List S47) : impl_ValidPatterns.f l = some (patsB l) := by
  unfold impl_ValidPatterns.f patsB
  by_cases h : l.length ≤ 12
  · rw [if_pos (by omega), anyO_some (q := fun x => !patB x) (fun x _ => by unfold impl_ValidPatterns_1.f; rw [Pattern_valid_eq]; rfl)]
    simp only [Option.bind_some, decide_eq_true h, Bool.and_true, List.not_any_eq_all_not, Bool.not_not]
  · rw [if_neg (by omega), decide_eq_false h]; simp
theorem map_cPattern (l : List S46) : (l.map cPattern).length = l.length := by simp
theorem smi_pats {l : List S46} (h : ∀ y ∈ l, smPattern y) : ∀ y ∈ l.map cPattern, smiPattern y := by
  intro y hy; obtain ⟨x, hx, rfl⟩ := List.mem_map.1 hy; exact smi_cPattern (h x hx)
end Go.Proofs.Ytihphgiopjiohaa.P
