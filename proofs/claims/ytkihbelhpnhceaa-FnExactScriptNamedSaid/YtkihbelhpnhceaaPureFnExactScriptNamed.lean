/- The plain law behind FnExactScriptNamed: the least number whose name it is. Conditions: none beyond the kinds' own bounds. -/
import Derived.Test.YtkihbelhpnhceaaF4
import Derived.Test.YtkihbelhpnhceaaO
import Derived.Test.YtkihbelhpnhceaaPL
namespace Go.Proofs.Ytkihbelhpnhceaa.Pure
open Go.RowKit Go.Proofs.YtkihbelhpnhceaaW.PrintWords Go.Proofs.Ytkihbelhpnhceaa.P Go.Proofs.YtkihbelhpnhceaaL
theorem named_step (k : Nat) (x0 : ByteArray) (i : Int) (h : i ≤ 4) (h0 : 1 ≤ i) : spec_ScriptNamed.l0 (k + 1) x0 i = if impl_ScriptNamed.p x0 i = true then some (i, true) else spec_ScriptNamed.l0 k x0 (i + 1) := by
  have hn : spec_l26Name.f i = some (impl_ScriptName.nm i) := by
    obtain rfl | rfl | rfl | rfl : i = 1 ∨ i = 2 ∨ i = 3 ∨ i = 4 := by omega
    all_goals rfl
  have hw : wrap64 (i + 1) = i + 1 := wrap_id (by omega) (by omega)
  simp only [spec_ScriptNamed.l0]
  rw [if_pos h, hn, Option.bind_some, hw]
  by_cases e : (impl_ScriptName.nm i).toList = x0.toList
  · rw [if_pos e, if_pos (by unfold impl_ScriptNamed.p; exact beq_iff_eq.mpr e)]
  · rw [if_neg e, if_neg (by unfold impl_ScriptNamed.p; rw [beq_iff_eq]; exact e)]
theorem FnExactScriptNamed : ∀ (x0 : ByteArray), x0.size ≤ maxLen → ∃ k : Nat, P.laws_FnExactScriptNamed.f k x0 = some true := by
  intro x0 _
  refine ⟨5, ?_⟩
  have h : spec_ScriptNamed.f 5 x0 = some (impl_ScriptNamed.least (impl_ScriptNamed.p x0)) := by
    unfold spec_ScriptNamed.f impl_ScriptNamed.least
    rw [named_step 4 x0 1 (by omega) (by omega)]
    by_cases h1 : impl_ScriptNamed.p x0 1 = true
    · rw [if_pos h1, if_pos h1]
    rw [if_neg h1, if_neg h1, named_step 3 x0 (1 + 1) (by omega) (by omega)]
    by_cases h2 : impl_ScriptNamed.p x0 2 = true
    · rw [if_pos h2]; exact if_pos h2
    rw [if_neg h2]; refine (if_neg h2).trans ?_
    rw [named_step 2 x0 (1 + 1 + 1) (by omega) (by omega)]
    by_cases h3 : impl_ScriptNamed.p x0 3 = true
    · rw [if_pos h3]; exact if_pos h3
    rw [if_neg h3]; refine (if_neg h3).trans ?_
    rw [named_step 1 x0 (1 + 1 + 1 + 1) (by omega) (by omega)]
    by_cases h4 : impl_ScriptNamed.p x0 4 = true
    · rw [if_pos h4]; exact if_pos h4
    rw [if_neg h4]; refine (if_neg h4).trans ?_
    simp only [spec_ScriptNamed.l0]
    rw [if_neg (by omega)]
  unfold laws_FnExactScriptNamed.f
  by_cases hl : (x0.size : Int) > 1048576
  · rw [if_pos hl]
  rw [if_neg hl, h, Option.bind_some]
  show (some (impl_ScriptNamed.least (impl_ScriptNamed.p x0))).bind _ = _
  rw [Option.bind_some, if_pos rfl, if_neg (by simp)]
end Go.Proofs.Ytkihbelhpnhceaa.Pure
