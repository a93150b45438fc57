/- spec_TurnText: what it answers, and that the machine's call comes to it. -/
import Derived.Test.YtoneejhafmneiaaDoorK
import Derived.Test.YtoneejhafmneiaaDoorF37
import Derived.Test.YtoneejhafmneiaaDoorF38
namespace Go.Proofs.YtoneejhafmneiaaDoor.P
open Go.RowKit Go.Proofs.YtoneejhafmneiaaDoorW.PrintWords Go.Proofs.YtoneejhafmneiaaDoorW.PrintLast Go.Proofs.YtoneejhafmneiaaDoorW.PrintMore
attribute [local go_sem] max2_int min2_int max_two min_two max_three min_three max_four min_four str_leq str_gtr str_geq
set_option linter.unusedVariables false
set_option linter.unusedSimpArgs false

/-! ### spec_TurnText: function 10 (by hand: TurnText.lean) -/
def spec_TurnText.f (k : Nat) (a0_0 : ByteArray) (a0_1 : Int) (a0_2 : Int) : Option ByteArray := (spec_l23One.f k a0_0 a0_1 a0_2).bind fun b => if b.1 = true then (spec_l23Text.f k b.2.1 b.2.2.1 b.2.2.2).bind fun t => some t.1 else some (⟨#[]⟩ : ByteArray)
theorem spec_TurnText.mono : ∀ a0 a1 a2 k, LeO (spec_TurnText.f k a0 a1 a2) (spec_TurnText.f (k + 1) a0 a1 a2) := fun a0 a1 a2 k => LeO.bind (spec_l23One.mono _ _ _ _) (fun _ => LeO.ite (LeO.bind (spec_l23Text.mono _ _ _ _) (fun _ => LeO.refl _)) (LeO.refl _))
set_option maxHeartbeats 1600000 in
set_option maxRecDepth 100000 in
theorem spec_TurnText.calls (k : Nat) (a0_0 : ByteArray) (a0_1 : Int) (a0_2 : Int) (r : ByteArray) (w : World) (h : spec_TurnText.f k a0_0 a0_1 a0_2 = some r) :
    Calls Tryd.prog 10 #[.agg #[.string a0_0, .int .i64 a0_1, .int .i64 a0_2]] w fun e w' => e = .returned (.string r) ∧ Below w.heap.size w w' := by
  unfold spec_TurnText.f at h
  obtain ⟨⟨b, s0, s1, s2⟩, e1, h⟩ := Option.bind_eq_some_iff.1 h
  dsimp only at h
  have E1 := Aside0.mk e1
  have HB := Aside0.mk (below_alloc (Below.refl w.heap.size w) (.cells #[.string a0_0, .int .i64 a0_1, .int .i64 a0_2] 26))
  have HI := Aside0.mk (IsS26.new w w a0_0 a0_1 a0_2 (Below.refl _ _))
  clear e1
  cases b with
  | false =>
    rw [if_neg (by decide)] at h
    obtain rfl := Option.some.inj h
    clear h
    go_enter Tryd.func10, Tryd.ntmps10
    go_wp2_with (go_at_call 37; (with_reducible refine (spec_l23One.calls k w.heap.size _ _ _ false s0 s1 s2 w _ HI.out HB.out E1.out).mono ?_); rintro e w1 ⟨rfl, hi, hb, hk⟩; clear hi hk; clear HB; have HB := Aside0.mk hb; clear hb)
    all_goals go_ret
    all_goals exact ⟨rfl, HB.out⟩
  | true =>
    rw [if_pos rfl] at h
    obtain ⟨⟨t, q0, q1, q2⟩, e2, h⟩ := Option.bind_eq_some_iff.1 h
    dsimp only at h
    obtain rfl := Option.some.inj h
    have E2 := Aside0.mk e2
    clear h e2
    go_enter Tryd.func10, Tryd.ntmps10
    go_wp2_with (first
      | (go_at_call 37; (with_reducible refine (spec_l23One.calls k w.heap.size _ _ _ true s0 s1 s2 w _ HI.out HB.out E1.out).mono ?_); rintro e w1 ⟨rfl, hi, hb, hk⟩; clear hk; clear HB HI; have HB := Aside0.mk hb; have HI := Aside0.mk hi; clear hb hi)
      | (go_at_call 38; (with_reducible refine (spec_l23Text.calls k w.heap.size _ _ _ t q0 q1 q2 w _ HI.out HB.out E2.out).mono ?_); rintro e w1 ⟨rfl, hi, hb, hk⟩; clear hk; clear HB HI; have HB := Aside0.mk hb; clear hb hi))
    all_goals go_ret
    all_goals exact ⟨rfl, HB.out⟩

end Go.Proofs.YtoneejhafmneiaaDoor.P
