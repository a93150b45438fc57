/- Words that the claim's proofs use: what this claim reaches of those that were printed for it. -/
import Derived.Test.YtocegmkifmdlcaaDoorWTab
namespace Go.Proofs.YtocegmkifmdlcaaDoorW.PrintLast
/-- Number i is listed too. -/
def up (b : Nat → Bool) (i : Nat) : Nat → Bool := fun j => if j = i then true else b j
section
variable {P : Program} {ops : Array Oper} {Q : Exit → Act → World → Prop} {md : Region.Mode} {T : Bool × List (List Nat × List Nat)} {B : List Nat} {O : List Nat} {b : Nat → Bool} {i j n : Nat}
end
end Go.Proofs.YtocegmkifmdlcaaDoorW.PrintLast
