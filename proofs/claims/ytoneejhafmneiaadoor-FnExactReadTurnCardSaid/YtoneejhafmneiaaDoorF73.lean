/- strings_Cut: what it answers, and that the machine's call comes to it. -/
import Derived.Shelf.Strings.Cut
import Derived.Test.YtoneejhafmneiaaDoorK
import Derived.Test.YtoneejhafmneiaaDoorDr
import Derived.Test.YtoneejhafmneiaaDoorShelf
namespace Go.Proofs.YtoneejhafmneiaaDoor.P
open Go.RowKit Go.Proofs.YtoneejhafmneiaaDoorW.PrintWords Go.Proofs.YtoneejhafmneiaaDoorW.PrintLast Go.Proofs.YtoneejhafmneiaaDoorW.PrintMore
attribute [local go_sem] max2_int min2_int max_two min_two max_three min_three max_four min_four str_leq str_gtr str_geq
set_option linter.unusedVariables false
set_option linter.unusedSimpArgs false

/-! ### strings_Cut: function 73 (by hand: Cut.lean) -/
def strings_Cut.t (a0 a1 : ByteArray) : ByteArray × ByteArray × Bool := (⟨(Lib.cut a0.data.toList a1.data.toList).1.toArray⟩, ⟨(Lib.cut a0.data.toList a1.data.toList).2.1.toArray⟩, (Lib.cut a0.data.toList a1.data.toList).2.2)
def strings_Cut.f (a0 a1 : ByteArray) : Option (ByteArray × ByteArray × Bool) := if a0.size < 4294967281 then some (strings_Cut.t a0 a1) else none
theorem strings_Cut.calls (a0 a1 : ByteArray) (r1 r2 : ByteArray) (r3 : Bool) (w : World) (hD : Door2 w) (h : strings_Cut.f a0 a1 = some (r1, r2, r3)) :
    Calls Tryd.prog 73 #[.string a0, .string a1] w fun e w' => e = .returned (.tuple #[.string r1, .string r2, .bool r3]) ∧ Below w.heap.size w w' := by
  unfold strings_Cut.f at h
  by_cases hb : a0.size < 4294967281
  rotate_left
  · rw [if_neg hb] at h; exact absurd h (by simp)
  rw [if_pos hb] at h
  unfold strings_Cut.t at h
  simp only [Option.some.injEq, Prod.mk.injEq] at h
  obtain ⟨rfl, rfl, rfl⟩ := h
  obtain ⟨m, hm⟩ := hD.ml 0 (by kernel_rfl)
  refine (Any.strings_Cut sh_Cut a0 a1 m w hb hm).mono ?_
  rintro e w' ⟨rfl, n, rfl⟩
  exact ⟨rfl, pw_below_drewN (Below.refl _ _) n⟩

end Go.Proofs.YtoneejhafmneiaaDoor.P
