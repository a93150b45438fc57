/- What the arguments of the laws read as: struct by struct. -/
import Derived.Test.YtoneejhafmneiaaDoorK
import Derived.Test.YtoneejhafmneiaaDoorOpen
import Derived.KernelRfl
namespace Go.Proofs.YtoneejhafmneiaaDoor
open Go.RowKit Go.Proofs.YtoneejhafmneiaaDoorO Go.Proofs.YtoneejhafmneiaaDoorW.PrintWords
def g30 (x : P.S30) : Prop := (Lit.int .i64 x.f0).wf = true ∧ x.f1.size ≤ maxLen ∧ x.f2.size ≤ maxLen ∧ (Lit.int .i64 x.f3).wf = true ∧ (Lit.int .i64 x.f4).wf = true
theorem open30 : Opens Tryd.prog 30 P.k30 g30 :=
  opens_iso (fun x : P.S30 => (x.f0, x.f1, x.f2, x.f3, x.f4)) (fun a => ⟨a.1, a.2.1, a.2.2.1, a.2.2.2.1, a.2.2.2.2⟩) (fun _ => rfl) (opens_struct Tryd.underlying30 (by kernel_rfl) (opensFs_cons (by rfl) (by kernel_rfl) (opens_int Tryd.underlying2) (opensFs_cons (by rfl) (by kernel_rfl) (opens_string Tryd.underlying9) (opensFs_cons (by rfl) (by kernel_rfl) (opens_string Tryd.underlying9) (opensFs_cons (by rfl) (by kernel_rfl) (opens_int Tryd.underlying2) (opensFs_last (by rfl) (by kernel_rfl) (opens_int Tryd.underlying2)))))))
def g49 (x : P.S49) : Prop := (x.f0.length ≤ maxLen ∧ ∀ y ∈ x.f0, (Lit.int .i64 y).wf = true) ∧ (Lit.int .i64 x.f1).wf = true
theorem open49 : Opens Tryd.prog 49 P.k49 g49 :=
  opens_iso (fun x : P.S49 => (x.f0, x.f1)) (fun a => ⟨a.1, a.2⟩) (fun _ => rfl) (opens_struct Tryd.underlying49 (by kernel_rfl) (opensFs_cons (by rfl) (by kernel_rfl) (opens_slice Tryd.underlying47 (by kernel_rfl) (opens_int Tryd.underlying2)) (opensFs_last (by rfl) (by kernel_rfl) (opens_int Tryd.underlying2))))
def g23 (x : P.S23) : Prop := x.f0.size ≤ maxLen ∧ (Lit.int .i64 x.f1).wf = true ∧ (Lit.int .i64 x.f2).wf = true
theorem open23 : Opens Tryd.prog 23 P.k23 g23 :=
  opens_iso (fun x : P.S23 => (x.f0, x.f1, x.f2)) (fun a => ⟨a.1, a.2.1, a.2.2⟩) (fun _ => rfl) (opens_struct Tryd.underlying23 (by kernel_rfl) (opensFs_cons (by rfl) (by kernel_rfl) (opens_string Tryd.underlying9) (opensFs_cons (by rfl) (by kernel_rfl) (opens_int Tryd.underlying2) (opensFs_last (by rfl) (by kernel_rfl) (opens_int Tryd.underlying2)))))
def g107 (x : P.S107) : Prop := x.f0.size ≤ maxLen ∧ (Lit.int .i64 x.f1).wf = true
theorem open107 : Opens Tryd.prog 107 P.k107 g107 :=
  opens_iso (fun x : P.S107 => (x.f0, x.f1)) (fun a => ⟨a.1, a.2⟩) (fun _ => rfl) (opens_struct Tryd.underlying107 (by kernel_rfl) (opensFs_cons (by rfl) (by kernel_rfl) (opens_string Tryd.underlying9) (opensFs_last (by rfl) (by kernel_rfl) (opens_int Tryd.underlying2))))
def g38 (x : P.S38) : Prop := (Lit.int .i64 x.f0).wf = true ∧ (Lit.int .i64 x.f1).wf = true ∧ x.f2.size ≤ maxLen ∧ (x.f3.length ≤ maxLen ∧ ∀ y ∈ x.f3, g107 y)
theorem open38 : Opens Tryd.prog 38 P.k38 g38 :=
  opens_iso (fun x : P.S38 => (x.f0, x.f1, x.f2, x.f3)) (fun a => ⟨a.1, a.2.1, a.2.2.1, a.2.2.2⟩) (fun _ => rfl) (opens_struct Tryd.underlying38 (by kernel_rfl) (opensFs_cons (by rfl) (by kernel_rfl) (opens_int Tryd.underlying2) (opensFs_cons (by rfl) (by kernel_rfl) (opens_int Tryd.underlying2) (opensFs_cons (by rfl) (by kernel_rfl) (opens_string Tryd.underlying9) (opensFs_last (by rfl) (by kernel_rfl) (opens_slice Tryd.underlying36 (by kernel_rfl) open107))))))
end Go.Proofs.YtoneejhafmneiaaDoor
