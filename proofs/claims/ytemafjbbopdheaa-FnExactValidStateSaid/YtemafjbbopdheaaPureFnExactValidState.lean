/- The plain law behind FnExactValidState: the reference's and the program's test of a state answer the same, and the copy stays. Conditions: none beyond the kinds' own bounds. -/
import Derived.Test.YtemafjbbopdheaaF4
import Derived.Test.YtemafjbbopdheaaState
namespace Go.Proofs.Ytemafjbbopdheaa.Pure
open Go.RowKit Go.Proofs.YtemafjbbopdheaaW.PrintWords Go.Proofs.YtemafjbbopdheaaL Go.Proofs.Ytemafjbbopdheaa.P
theorem FnExactValidState : ∀ (x0 : List (P.S80)), (x0.length ≤ maxLen ∧ ∀ y ∈ x0, g80 y) → ∃ k : Nat, P.laws_FnExactValidState.f k x0 = some true := by
  intro x0 ⟨hl0, hg0⟩
  refine ⟨1048600, ?_⟩
  unfold laws_FnExactValidState.f
  obtain ⟨r, hr, h⟩ := szSettingS_some hl0 hg0 (a := 1048576) (by omega) (by omega) (k := 1048600) (by omega)
  rw [hr]; simp only [Option.bind_some]
  by_cases h0 : r < 0
  · rw [if_pos h0]
  rw [if_neg h0]
  have z0 : x0.length ≤ 1048576 := by omega
  rw [toSettingS_eq z0 (by omega)]
  simp only [Option.bind_some, spec_ValidState.f]
  rw [l27State_eq (by simpa using z0) (Nat.le_refl _), ValidState_eq (by simpa using z0) (Nat.le_refl _)]
  simp only [Option.bind_some]
  rw [if_neg (by simp), eqSettingS_eq (by simpa using z0) (by omega)]
  simp
end Go.Proofs.Ytemafjbbopdheaa.Pure
