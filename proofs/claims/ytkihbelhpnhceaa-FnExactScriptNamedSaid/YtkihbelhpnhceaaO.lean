/- What the arguments of the laws read as: struct by struct. -/
import Derived.Test.YtkihbelhpnhceaaK
import Derived.Test.YtkihbelhpnhceaaOpen
import Derived.KernelRfl
namespace Go.Proofs.Ytkihbelhpnhceaa
open Go.RowKit Go.Proofs.YtkihbelhpnhceaaO Go.Proofs.YtkihbelhpnhceaaW.PrintWords
def g44 (x : P.S44) : Prop := (Lit.int .i64 x.f0).wf = true ∧ x.f1.size ≤ maxLen ∧ x.f2.size ≤ maxLen ∧ (Lit.int .i64 x.f3).wf = true ∧ (Lit.int .i64 x.f4).wf = true
theorem open44 : Opens Try.prog 44 P.k44 g44 :=
  opens_iso (fun x : P.S44 => (x.f0, x.f1, x.f2, x.f3, x.f4)) (fun a => ⟨a.1, a.2.1, a.2.2.1, a.2.2.2.1, a.2.2.2.2⟩) (fun _ => rfl) (opens_struct Try.underlying44 (by kernel_rfl) (opensFs_cons (by rfl) (by kernel_rfl) (opens_int Try.underlying2) (opensFs_cons (by rfl) (by kernel_rfl) (opens_string Try.underlying9) (opensFs_cons (by rfl) (by kernel_rfl) (opens_string Try.underlying9) (opensFs_cons (by rfl) (by kernel_rfl) (opens_int Try.underlying2) (opensFs_last (by rfl) (by kernel_rfl) (opens_int Try.underlying2)))))))
end Go.Proofs.Ytkihbelhpnhceaa
