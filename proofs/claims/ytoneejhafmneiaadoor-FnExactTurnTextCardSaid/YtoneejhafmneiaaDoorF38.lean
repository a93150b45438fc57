/- spec_l23Text: what it answers, and that the machine's call comes to it. -/
import Derived.Deep.RegionHeld3
import Derived.Test.YtoneejhafmneiaaDoorK
import Derived.Test.YtoneejhafmneiaaDoorF37
import Derived.Test.YtoneejhafmneiaaDoorF49
namespace Go.Proofs.YtoneejhafmneiaaDoor.P
open Go.RowKit Go.Proofs.YtoneejhafmneiaaDoorW.PrintWords Go.Proofs.YtoneejhafmneiaaDoorW.PrintLast Go.Proofs.YtoneejhafmneiaaDoorW.PrintMore
attribute [local go_sem] max2_int min2_int max_two min_two max_three min_three max_four min_four str_leq str_gtr str_geq
set_option linter.unusedVariables false
set_option linter.unusedSimpArgs false

/-! ### spec_l23Text: function 38 (by hand: l23Text.lean) -/
def spec_l23Text.t (s0_0 t1 t2 : ByteArray) : ByteArray := (((s0_0 ++ (⟨#[32]⟩ : ByteArray)) ++ t1) ++ (⟨#[43]⟩ : ByteArray)) ++ t2
def spec_l23Text.f (k : Nat) (s0_0 : ByteArray) (s0_1 : Int) (s0_2 : Int) : Option (ByteArray × ByteArray × Int × Int) := (spec_l01Dec.f k s0_1).bind fun t1 => (spec_l01Dec.f k s0_2).bind fun t2 => if s0_0.size + 1 + t1.size + 1 + t2.size ≤ 9223372036854775807 then some (spec_l23Text.t s0_0 t1 t2, s0_0, s0_1, s0_2) else none
theorem spec_l23Text.mono : ∀ a0 a1 a2 k, LeO (spec_l23Text.f k a0 a1 a2) (spec_l23Text.f (k + 1) a0 a1 a2) := fun a0 a1 a2 k => LeO.bind (spec_l01Dec.mono _ _) (fun _ => LeO.bind (spec_l01Dec.mono _ _) (fun _ => LeO.refl _))
set_option maxHeartbeats 1600000 in
set_option maxRecDepth 100000 in
theorem spec_l23Text.plain (k : Nat) (g : Nat) (f0 : ByteArray) (f1 f2 : Int) (t1 t2 : ByteArray) (w : World) (h0 : w.cell? ⟨g, 0, none⟩ = some (.string f0)) (h1 : w.cell? ⟨g, 1, none⟩ = some (.int .i64 f1)) (h2 : w.cell? ⟨g, 2, none⟩ = some (.int .i64 f2))
    (e1 : spec_l01Dec.f k f1 = some t1) (e2 : spec_l01Dec.f k f2 = some t2) (hs : f0.size + 1 + t1.size + 1 + t2.size ≤ 9223372036854775807) :
    Calls Tryd.prog 38 #[.pointer (some ⟨g, 0, none⟩)] w fun e w' => e = .returned (.string (spec_l23Text.t f0 t1 t2)) ∧ Below w.heap.size w w' := by
  have HB := Aside0.mk (Below.refl w.heap.size w)
  have E1 := Aside0.mk e1
  have E2 := Aside0.mk e2
  have b1 : (9223372036854775807 < f0.size + 1) = False := eq_false (by omega)
  have b2 : (9223372036854775807 < f0.size + 1 + t1.size) = False := eq_false (by omega)
  have b3 : (9223372036854775807 < f0.size + 1 + t1.size + 1) = False := eq_false (by omega)
  have b4 : (9223372036854775807 < f0.size + 1 + t1.size + 1 + t2.size) = False := eq_false (by omega)
  unfold spec_l23Text.t
  clear e1 e2 hs
  go_enter Tryd.func38, Tryd.ntmps38
  go_wp2_with fail
  go_region_held3 (fun w' => w'.cell? ⟨g, 0, none⟩ = some (.string f0) ∧ w'.cell? ⟨g, 1, none⟩ = some (.int .i64 f1) ∧ w'.cell? ⟨g, 2, none⟩ = some (.int .i64 f2)) (first | go_keep | (refine ⟨pw_cell_below hb ?_, pw_cell_below hb ?_, pw_cell_below hb ?_⟩ <;> first | assumption | go_keep)) (first
    | (go_at_call 49; (with_reducible refine (spec_l01Dec.calls k f1 t1 _ E1.out).mono ?_); rintro e w1 ⟨rfl, hb⟩; have n0_ := Aside0.mk (below_step (by repeat (first | (with_reducible first | exact HB.out | apply below_alloc | apply pw_below_drewN | apply below_drew1) | exact HB.out)) hb); clear HB; have HB := n0_; clear n0_)
    | (go_at_call 49; (with_reducible refine (spec_l01Dec.calls k f2 t2 _ E2.out).mono ?_); rintro e w1 ⟨rfl, hb⟩; have n0_ := Aside0.mk (below_step (by repeat (first | (with_reducible first | exact HB.out | apply below_alloc | apply pw_below_drewN | apply below_drew1) | exact HB.out)) hb); clear HB; have HB := n0_; clear n0_))
  all_goals go_wp2
  all_goals go_ret
  all_goals exact ⟨rfl, by repeat (first | (with_reducible first | exact HB.out | apply below_alloc | apply pw_below_drewN | apply below_drew1) | exact HB.out)⟩
theorem spec_l23Text.calls (k : Nat) (g : Nat) (s0_0 : ByteArray) (s0_1 : Int) (s0_2 : Int) (r1 : ByteArray) (r2 : ByteArray) (r3 : Int) (r4 : Int) (w0 w : World) (hI : IsS26 w0 w g s0_0 s0_1 s0_2) (hB : Below w0.heap.size w0 w) (h : spec_l23Text.f k s0_0 s0_1 s0_2 = some (r1, r2, r3, r4)) :
    Calls Tryd.prog 38 #[.pointer (some ⟨g, 0, none⟩)] w fun e w' => e = .returned (.string r1) ∧ IsS26 w0 w' g r2 r3 r4 ∧ Below w0.heap.size w0 w' ∧ KeepBut w w' g none := by
  unfold spec_l23Text.f at h
  obtain ⟨t1, e1, h⟩ := Option.bind_eq_some_iff.1 h
  obtain ⟨t2, e2, h⟩ := Option.bind_eq_some_iff.1 h
  by_cases hs : s0_0.size + 1 + t1.size + 1 + t2.size ≤ 9223372036854775807
  rotate_left
  · rw [if_neg hs] at h; exact absurd h (by simp)
  rw [if_pos hs] at h
  simp only [Option.some.injEq, Prod.mk.injEq] at h
  obtain ⟨rfl, rfl, rfl, rfl⟩ := h
  refine (spec_l23Text.plain k g _ _ _ t1 t2 w (cellS26_0 hI.1) (cellS26_1 hI.1) (cellS26_2 hI.1) e1 e2 hs).mono ?_
  rintro e w' ⟨rfl, hb⟩
  exact ⟨rfl, IsS26.below hI hb, below_step hB hb, KeepBut.of_below hb g none⟩

end Go.Proofs.YtoneejhafmneiaaDoor.P
