/- What the arguments of the laws read as: struct by struct. -/
import Derived.Test.YtemafjbbopdheaaK
import Derived.Test.YtemafjbbopdheaaOpen
import Derived.KernelRfl
namespace Go.Proofs.Ytemafjbbopdheaa
open Go.RowKit Go.Proofs.YtemafjbbopdheaaO Go.Proofs.YtemafjbbopdheaaW.PrintWords
def g80 (x : P.S80) : Prop := x.f0.size ≤ maxLen ∧ (Lit.int .i64 x.f1).wf = true
theorem open80 : Opens Try.prog 80 P.k80 g80 :=
  opens_iso (fun x : P.S80 => (x.f0, x.f1)) (fun a => ⟨a.1, a.2⟩) (fun _ => rfl) (opens_struct Try.underlying80 (by kernel_rfl) (opensFs_cons (by rfl) (by kernel_rfl) (opens_string Try.underlying9) (opensFs_last (by rfl) (by kernel_rfl) (opens_int Try.underlying2))))
end Go.Proofs.Ytemafjbbopdheaa
