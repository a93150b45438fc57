/- spec_l27Setting_e: what it answers, and that the machine's call comes to it. -/
import Derived.Test.YtemafjbbopdheaaK
import Derived.Test.YtemafjbbopdheaaF120
import Derived.Test.YtemafjbbopdheaaF141
namespace Go.Proofs.Ytemafjbbopdheaa.P
open Go.RowKit Go.Proofs.YtemafjbbopdheaaW.PrintWords Go.Proofs.YtemafjbbopdheaaW.PrintLast Go.Proofs.YtemafjbbopdheaaW.PrintMore
attribute [local go_sem] max2_int min2_int max_two min_two max_three min_three max_four min_four str_leq str_gtr str_geq
set_option linter.unusedVariables false
set_option linter.unusedSimpArgs false

/-! ### spec_l27Setting_e: function 118 -/
def spec_l27Setting_e.f (k : Nat) (l0 : List (S81)) (a0i : Int) : Option (Bool) := (spec_l01Name.f k ((rd_T81 l0 a0i).f0)).bind fun t160 => (if t160 = true then ((spec_l00In.f ((rd_T81 l0 a0i).f1) 0 1000).bind fun t162 => (some t162)) else (some false))
theorem spec_l27Setting_e.mono : ∀ a0 a1 k, LeO (spec_l27Setting_e.f k a0 a1) (spec_l27Setting_e.f (k + 1) a0 a1) := by
  intro a0 a1 k
  unfold spec_l27Setting_e.f
  repeat' first
      | (with_reducible exact spec_l01Name.mono _ _)
      | (with_reducible exact LeO.refl _)
      | (with_reducible exact LeO.none _)
      | (with_reducible refine LeO.ite ?_ ?_)
      | (with_reducible refine LeO.bind ?_ (fun _ => ?_))
      | exact spec_l01Name.mono _ _
      | exact LeO.none _
      | refine LeO.ite ?_ ?_
      | refine LeO.bind ?_ (fun _ => ?_)
set_option maxHeartbeats 8000000 in
set_option maxRecDepth 100000 in
theorem spec_l27Setting_e.calls (k : Nat) (ad0 : Addr) (l0 : List (S81)) (a0i : Int) (r : Bool) (w : World) (hr0 : Kd.C k81 w (some ad0) l0.length l0) (hp0 : decide (0 ≤ a0i) = true) (hq0 : decide (a0i < (l0.length : Int)) = true) (h : spec_l27Setting_e.f k l0 a0i = some r) :
    Calls Try.prog 118 #[.pointer (some (ad0.add (a0i.toNat * 2)))] w fun e w' => e = .returned (.bool r) ∧ Drawn0 w w' := by
  have HR0 := Aside0.mk hr0
  clear hr0
  have H : ((spec_l01Name.f k ((rd_T81 l0 a0i).f0)).bind fun t160 => (if t160 = true then ((spec_l00In.f ((rd_T81 l0 a0i).f1) 0 1000).bind fun t162 => (some t162)) else (some false))) = some r := h
  clear h
  replace H := Option.bind_eq_some_iff.mp H
  obtain ⟨t160, A20, H⟩ := H
  replace H : (if t160 = true then ((spec_l00In.f ((rd_T81 l0 a0i).f1) 0 1000).bind fun t162 => (some t162)) else (some false)) = some r := H
  have A2 := Aside0.mk A20
  clear A20
  by_cases c3 : t160 = true
  · subst c3
    have H1 : ((spec_l00In.f ((rd_T81 l0 a0i).f1) 0 1000).bind fun t162 => (some t162)) = some r := by rw [if_pos rfl] at H; exact H
    clear H
    have H := H1
    clear H1
    replace H := Option.bind_eq_some_iff.mp H
    obtain ⟨t162, A40, H⟩ := H
    replace H : (some t162) = some r := H
    have A4 := Aside0.mk A40
    clear A40
    obtain rfl := Option.some.inj H
    have p159 : 0 ≤ (a0i : Int) := of_decide_eq_true (by first | (with_reducible assumption) | assumption)
    have q159 : a0i < (l0.length : Int) := of_decide_eq_true (by first | (with_reducible assumption) | assumption)
    obtain ⟨ad159, e159, hx159_0, hx159_1⟩ := at_T81 HR0.out a0i p159 q159
    obtain rfl : ad0 = ad159 := (by injection e159)
    replace p159 := eq_true p159
    replace q159 := eq_true q159
    go_enter Try.func118, Try.ntmps118
    go_wp2_with (first | ((with_reducible refine gate_callee (f := 141) rfl ?_); refine goesL_ (some 7) rfl rfl Try.func141 (by kernel_rfl) rfl #[.string ((rd_T81 l0 a0i).f0)] rfl (by (try simp only [List.map_toArray, List.map_cons, List.map_nil]); first | done | rfl | (simp only [List.length_drop, List.length_take]; rfl)) ?_; (with_reducible refine (spec_l01Name.calls k ((rd_T81 l0 a0i).f0) true _ A2.out).mono ?_); rintro e w' ⟨rfl, ⟨nd, rfl⟩⟩; refine ⟨_, rfl, ?_⟩; have p161 : 0 ≤ (a0i : Int) := of_decide_eq_true (by first | (with_reducible assumption) | assumption); have q161 : a0i < (l0.length : Int) := of_decide_eq_true (by first | (with_reducible assumption) | assumption); obtain ⟨ad161, e161, hx161_0, hx161_1⟩ := at_T81 HR0.out a0i p161 q161; obtain rfl : ad0 = ad161 := (by injection e161); replace p161 := eq_true p161; replace q161 := eq_true q161) | (go_at_call 120; (with_reducible refine (spec_l00In.calls ((rd_T81 l0 a0i).f1) 0 1000 t162 _ A4.out).mono ?_); rintro e w' ⟨rfl, ⟨nd, rfl⟩⟩))
    go_ret
    exact ⟨by first | rfl | (simp; done) | (simp [*]; done), by repeat (first | exact Drawn0.refl _ | apply Drawn0.step)⟩
  · replace c3 := Bool.eq_false_iff.mpr c3
    subst c3
    have H1 : (some false) = some r := by rw [if_neg (show ¬ (false = true) by decide)] at H; exact H
    clear H
    have H := H1
    clear H1
    obtain rfl := Option.some.inj H
    have p159 : 0 ≤ (a0i : Int) := of_decide_eq_true (by first | (with_reducible assumption) | assumption)
    have q159 : a0i < (l0.length : Int) := of_decide_eq_true (by first | (with_reducible assumption) | assumption)
    obtain ⟨ad159, e159, hx159_0, hx159_1⟩ := at_T81 HR0.out a0i p159 q159
    obtain rfl : ad0 = ad159 := (by injection e159)
    replace p159 := eq_true p159
    replace q159 := eq_true q159
    go_enter Try.func118, Try.ntmps118
    go_wp2_with (first | ((with_reducible refine gate_callee (f := 141) rfl ?_); refine goesL_ (some 7) rfl rfl Try.func141 (by kernel_rfl) rfl #[.string ((rd_T81 l0 a0i).f0)] rfl (by (try simp only [List.map_toArray, List.map_cons, List.map_nil]); first | done | rfl | (simp only [List.length_drop, List.length_take]; rfl)) ?_; (with_reducible refine (spec_l01Name.calls k ((rd_T81 l0 a0i).f0) false _ A2.out).mono ?_); rintro e w' ⟨rfl, ⟨nd, rfl⟩⟩; refine ⟨_, rfl, ?_⟩))
    go_ret
    exact ⟨by first | rfl | (simp; done) | (simp [*]; done), by repeat (first | exact Drawn0.refl _ | apply Drawn0.step)⟩

end Go.Proofs.Ytemafjbbopdheaa.P
