/- The plain law behind FnExactScriptName: the program's name of a script is the reference's. Conditions: none beyond the kinds' own bounds. -/
import Derived.Test.YtkihbelhpnhceaaF3
import Derived.Test.YtkihbelhpnhceaaO
namespace Go.Proofs.Ytkihbelhpnhceaa.Pure
open Go.RowKit Go.Proofs.YtkihbelhpnhceaaW.PrintWords Go.Proofs.Ytkihbelhpnhceaa.P
theorem FnExactScriptName : ∀ (x0 : Int), (Lit.int .i64 x0).wf = true → ∃ k : Nat, P.laws_FnExactScriptName.f x0 = some true := by
  intro x0 _
  refine ⟨0, ?_⟩
  have h : spec_ScriptName.f x0 = some (impl_ScriptName.nm x0) := by
    unfold spec_ScriptName.f spec_l26Name.f impl_ScriptName.nm
    by_cases h1 : x0 = 1
    · rw [if_pos h1, if_pos h1, Option.bind_some]
    rw [if_neg h1, if_neg h1]
    by_cases h2 : x0 = 2
    · rw [if_pos h2, if_pos h2, Option.bind_some]
    rw [if_neg h2, if_neg h2]
    by_cases h3 : x0 = 3
    · rw [if_pos h3, if_pos h3, Option.bind_some]
    rw [if_neg h3, if_neg h3]
    by_cases h4 : x0 = 4
    · rw [if_pos h4, if_pos h4, Option.bind_some]
    rw [if_neg h4, if_neg h4, Option.bind_some]
  unfold laws_FnExactScriptName.f
  rw [h, Option.bind_some]
  show (some (impl_ScriptName.nm x0)).bind _ = _
  rw [Option.bind_some, if_pos rfl]
end Go.Proofs.Ytkihbelhpnhceaa.Pure
