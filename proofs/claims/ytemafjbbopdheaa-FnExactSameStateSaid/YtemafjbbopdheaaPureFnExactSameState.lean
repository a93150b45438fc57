/- The plain law behind FnExactSameState: both ways of comparing two states tell whether they are equal, and the copies stay. Conditions: none beyond the kinds' own bounds. -/
import Derived.Test.YtemafjbbopdheaaF3
import Derived.Test.YtemafjbbopdheaaSetting
namespace Go.Proofs.Ytemafjbbopdheaa.P
open Go.RowKit Go.Proofs.YtemafjbbopdheaaW.PrintWords Go.Proofs.YtemafjbbopdheaaL
theorem l27Same_eq {a b : List S81} (hl : a.length ≤ 1048576) {k : Nat} (hk : 1048580 ≤ k) : spec_l27Same.f k a b = some (decide (a = b)) := by
  unfold spec_l27Same.f
  by_cases h : a.length = b.length
  · rw [if_pos (by omega)]
    refine eq_loop (fun k i => spec_l27Same.l0 k a b i) a b h 0 (fun k i h1 h2 _ => ?_) (fun k => ?_) k (by omega)
    · simp only [spec_l27Same.l0]
      rw [if_pos (lt_cast h1), if_pos (nn_cast i), if_pos (lt_cast h2), rd_iSetting h1, rd_iSetting h2, wrap_succ h1 (by omega)]
      by_cases e : a[i] = b[i]
      · rw [if_pos e, if_neg (by simp [e])]
      · rw [if_neg e, if_pos]
        rw [ext_iSetting] at e
        simp only [Bool.or_eq_true, Bool.not_eq_true', beq_eq_false_iff_ne, ne_eq]
        by_cases e0 : a[i].f0.toList = b[i].f0.toList
        · exact .inr (fun e1 => e ⟨e0, e1⟩)
        · exact .inl e0
    · simp only [spec_l27Same.l0]
      rw [if_neg (nlt_cast _)]
  · rw [if_neg (by omega)]
    have : a ≠ b := fun e => h (by rw [e])
    simp [this]
theorem equalSettings_eq {a b : List S81} (hl : a.length ≤ 1048576) {k : Nat} (hk : 1048580 ≤ k) : slices_Equal_S_impl_Setting.f k a b = some (decide (a = b)) := by
  unfold slices_Equal_S_impl_Setting.f
  by_cases h : a.length = b.length
  · rw [if_pos (by omega)]
    refine eq_loop (fun k i => slices_Equal_S_impl_Setting.l0 k a b (a.length : Int) i) a b h 0 (fun k i h1 h2 _ => ?_) (fun k => ?_) k (by omega)
    · simp only [slices_Equal_S_impl_Setting.l0]
      rw [if_pos (lt_cast h1), if_pos (nn_cast i), if_pos (lt_cast h1), if_pos (lt_cast h2), rd_iSetting h1, rd_iSetting h2, wrap_succ h1 (by omega)]
      by_cases e : a[i] = b[i]
      · rw [if_pos e, if_neg (by simp [e])]
      · rw [if_neg e, if_pos]
        rw [ext_iSetting] at e
        simp only [Bool.or_eq_true, Bool.not_eq_true', beq_eq_false_iff_ne, ne_eq]
        by_cases e0 : a[i].f0.toList = b[i].f0.toList
        · exact .inr (fun e1 => e ⟨e0, e1⟩)
        · exact .inl e0
    · simp only [slices_Equal_S_impl_Setting.l0]
      rw [if_neg (nlt_cast _)]
  · rw [if_neg (by omega)]
    have : a ≠ b := fun e => h (by rw [e])
    simp [this]
end Go.Proofs.Ytemafjbbopdheaa.P
namespace Go.Proofs.Ytemafjbbopdheaa.Pure
open Go.RowKit Go.Proofs.YtemafjbbopdheaaW.PrintWords Go.Proofs.YtemafjbbopdheaaL Go.Proofs.Ytemafjbbopdheaa.P
theorem FnExactSameState : ∀ (x0 : List (P.S80)) (x1 : List (P.S80)), (x0.length ≤ maxLen ∧ ∀ x ∈ x0, g80 x) → (x1.length ≤ maxLen ∧ ∀ x ∈ x1, g80 x) → ∃ k : Nat, P.laws_FnExactSameState.f k x0 x1 = some true := by
  intro x0 x1 ⟨hl0, hg0⟩ ⟨hl1, hg1⟩
  refine ⟨1048580, ?_⟩
  unfold laws_FnExactSameState.f
  obtain ⟨r, hr, h⟩ := szSettingS_some hl0 hg0 (a := 1048576) (by omega) (by omega) (k := 1048580) (Nat.le_refl _)
  rw [hr]; simp only [Option.bind_some]
  by_cases h0 : r < 0
  · rw [if_pos h0]
  rw [if_neg h0]
  obtain ⟨r', hr', h'⟩ := szSettingS_some hl1 hg1 (a := r) (by omega) (by omega) (k := 1048580) (Nat.le_refl _)
  rw [hr']; simp only [Option.bind_some]
  by_cases h1 : r' < 0
  · rw [if_pos h1]
  rw [if_neg h1]
  have z0 : x0.length ≤ 1048576 := by omega
  have z1 : x1.length ≤ 1048576 := by omega
  rw [toSettingS_eq z0 (Nat.le_refl _), toSettingS_eq z1 (Nat.le_refl _)]
  simp only [Option.bind_some, spec_SameState.f, impl_SameState.f]
  rw [l27Same_eq (by simpa using z0) (Nat.le_refl _), equalSettings_eq (by simpa using z0) (Nat.le_refl _)]
  simp only [Option.bind_some]
  rw [if_neg (by simp), eqSettingS_eq (by simpa using z0) (Nat.le_refl _), eqSettingS_eq (by simpa using z1) (Nat.le_refl _)]
  simp
end Go.Proofs.Ytemafjbbopdheaa.Pure
