/- The plain law behind FnExactPitchIn: both write the same pitch. Conditions: none beyond the kinds' own bounds. -/
import Derived.Test.YtpfalhbeeodjaaaDoorF3
import Derived.Test.YtpfalhbeeodjaaaDoorPitchT
import Derived.Test.YtpfalhbeeodjaaaDoorO
namespace Go.Proofs.YtpfalhbeeodjaaaDoor.Pure
open Go.RowKit Go.Proofs.YtpfalhbeeodjaaaDoorW.PrintWords Go.Proofs.YtpfalhbeeodjaaaDoorL Go.Proofs.YtpfalhbeeodjaaaDoor.P
theorem FnExactPitchIn : ∀ (x0 : Int) (x1 : Int) (x2 : Int), (Lit.int .i64 x0).wf = true → (Lit.int .i64 x1).wf = true → (Lit.int .i64 x2).wf = true → ∃ k : Nat, P.laws_FnExactPitchIn.f k x0 x1 x2 = some true := by
  intro s k p _ _ _
  refine ⟨5000, ?_⟩
  unfold laws_FnExactPitchIn.f spec_PitchIn.f impl_PitchIn.f spec_l03Pitch.f impl_pitchOk.f
  rw [l26Script_eq, keyOk_eq]; simp only [Option.bind_some]
  by_cases hk : keyB s k = true
  · rw [if_pos hk, if_pos hk, in_eq, within_eq]; simp only [Option.bind_some]
    by_cases hp : (decide (-12 ≤ p) && decide (p ≤ 23)) = true
    · have hp' : -12 ≤ p ∧ p ≤ 23 := by
        rw [Bool.and_eq_true, decide_eq_true_iff, decide_eq_true_iff] at hp; exact hp
      rw [if_pos hp, if_pos hp, l26Pitch_eq hk hp'.1 hp'.2 (by omega), pitchIn_eq hk hp'.1 hp'.2]
      simp
    · rw [if_neg hp, if_neg hp]; simp
  · rw [if_neg hk, if_neg hk]; simp
end Go.Proofs.YtpfalhbeeodjaaaDoor.Pure
