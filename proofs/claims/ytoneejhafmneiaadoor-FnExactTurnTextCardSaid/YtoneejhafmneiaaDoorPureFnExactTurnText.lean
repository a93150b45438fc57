/- The plain law behind FnExactTurnText: the reference and the program write the same. Conditions: none beyond the kinds' own bounds. -/
import Derived.Test.YtoneejhafmneiaaDoorF3
import Derived.Test.YtoneejhafmneiaaDoorTurnT
import Derived.Test.YtoneejhafmneiaaDoorO
namespace Go.Proofs.YtoneejhafmneiaaDoor.Pure
open Go.RowKit Go.Proofs.YtoneejhafmneiaaDoorW.PrintWords Go.Proofs.YtoneejhafmneiaaDoorL Go.Proofs.YtoneejhafmneiaaDoor.P
theorem FnExactTurnText : ∀ (x0 : P.S23), g23 x0 → ∃ k : Nat, P.laws_FnExactTurnText.f k (x0.f0) (x0.f1) (x0.f2) = some true := by
  intro x0 _
  refine ⟨5000, ?_⟩
  unfold laws_FnExactTurnText.f laws_szTurn.f laws_toTurn.f
  by_cases h : wrap64 (1048576 - (x0.f0.size : Int)) < 0
  · rw [if_pos h]; simp
  rw [if_neg h]; simp only [Option.bind_some]
  rw [if_neg h, TurnText_spec _ _ _ (by omega)]; simp only [Option.bind_some]
  rw [TurnText_impl _ _ _ (by omega)]; simp
end Go.Proofs.YtoneejhafmneiaaDoor.Pure
