/- What the arguments of the laws read as: struct by struct. -/
import Derived.Test.YtihphgiopjiohaaK
import Derived.Test.YtihphgiopjiohaaOpen
import Derived.KernelRfl
namespace Go.Proofs.Ytihphgiopjiohaa
open Go.RowKit Go.Proofs.YtihphgiopjiohaaO Go.Proofs.YtihphgiopjiohaaW.PrintWords
def g46 (x : P.S46) : Prop := (x.f0.length ≤ maxLen ∧ ∀ y ∈ x.f0, (Lit.int .i64 y).wf = true) ∧ (Lit.int .i64 x.f1).wf = true
theorem open46 : Opens Try.prog 46 P.k46 g46 :=
  opens_iso (fun x : P.S46 => (x.f0, x.f1)) (fun a => ⟨a.1, a.2⟩) (fun _ => rfl) (opens_struct Try.underlying46 (by kernel_rfl) (opensFs_cons (by rfl) (by kernel_rfl) (opens_slice Try.underlying29 (by kernel_rfl) (opens_int Try.underlying2)) (opensFs_last (by rfl) (by kernel_rfl) (opens_int Try.underlying2))))
end Go.Proofs.Ytihphgiopjiohaa
