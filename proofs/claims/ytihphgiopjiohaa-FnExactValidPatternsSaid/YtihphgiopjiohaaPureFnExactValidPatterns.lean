/- The plain law behind FnExactValidPatterns: the reference's and the program's test of patterns answer the same, and the copy stays. Conditions: none beyond the kinds' own bounds. -/
import Derived.Test.YtihphgiopjiohaaF3
import Derived.Test.YtihphgiopjiohaaPatterns
namespace Go.Proofs.Ytihphgiopjiohaa.Pure
open Go.RowKit Go.Proofs.YtihphgiopjiohaaW.PrintWords Go.Proofs.YtihphgiopjiohaaL Go.Proofs.Ytihphgiopjiohaa.P
theorem FnExactValidPatterns : ∀ (x0 : List (P.S46)), (x0.length ≤ maxLen ∧ ∀ y ∈ x0, g46 y) → ∃ k : Nat, P.laws_FnExactValidPatterns.f k x0 = some true := by
  intro x0 ⟨hl0, hg0⟩
  refine ⟨2097200, ?_⟩
  unfold laws_FnExactValidPatterns.f
  obtain ⟨r, hr, h⟩ := szPatternS_some hl0 hg0 (a := 1048576) (by omega) (by omega) (k := 2097200) (by omega)
  rw [hr]; simp only [Option.bind_some]
  by_cases h0 : r < 0
  · rw [if_pos h0]
  rw [if_neg h0]
  obtain ⟨_, _, z0, s0⟩ := h.resolve_left h0
  rw [toPatternS_eq z0 s0 (by omega)]
  simp only [Option.bind_some, spec_ValidPatterns.f]
  rw [l11Ok_eq (by simpa using z0) (by simp; omega), ValidPatterns_eq]
  simp only [Option.bind_some]
  rw [if_neg (by simp), eqPatternS_eq (by simpa using z0) (smi_pats s0) (by omega)]
  simp
end Go.Proofs.Ytihphgiopjiohaa.Pure
