/- What the arguments of the laws read as: struct by struct. -/
import Derived.Test.YtemafjbbopdheaaK
import Derived.Test.YtemafjbbopdheaaOpen
import Derived.KernelRfl
namespace Go.Proofs.Ytemafjbbopdheaa
open Go.RowKit Go.Proofs.YtemafjbbopdheaaO Go.Proofs.YtemafjbbopdheaaW.PrintWords
def g80 (x : P.S80) : Prop := x.f0.size ≤ maxLen ∧ (Lit.int .i64 x.f1).wf = true
theorem open80 : Opens Try.prog 80 P.k80 g80 :=
  opens_iso (fun x : P.S80 => (x.f0, x.f1)) (fun a => ⟨a.1, a.2⟩) (fun _ => rfl) (opens_struct Try.underlying80 (by kernel_rfl) (opensFs_cons (by rfl) (by kernel_rfl) (opens_string Try.underlying9) (opensFs_last (by rfl) (by kernel_rfl) (opens_int Try.underlying2))))
def g87 (x : P.S87) : Prop := (Lit.int .i64 x.f0).wf = true ∧ (Lit.int .i64 x.f1).wf = true ∧ x.f2.size ≤ maxLen ∧ (x.f3.length ≤ maxLen ∧ ∀ y ∈ x.f3, g80 y)
theorem open87 : Opens Try.prog 87 P.k87 g87 :=
  opens_iso (fun x : P.S87 => (x.f0, x.f1, x.f2, x.f3)) (fun a => ⟨a.1, a.2.1, a.2.2.1, a.2.2.2⟩) (fun _ => rfl) (opens_struct Try.underlying87 (by kernel_rfl) (opensFs_cons (by rfl) (by kernel_rfl) (opens_int Try.underlying2) (opensFs_cons (by rfl) (by kernel_rfl) (opens_int Try.underlying2) (opensFs_cons (by rfl) (by kernel_rfl) (opens_string Try.underlying9) (opensFs_last (by rfl) (by kernel_rfl) (opens_slice Try.underlying22 (by kernel_rfl) open80))))))
end Go.Proofs.Ytemafjbbopdheaa
