/- spec_l23One_e: what it answers, and that the machine's call comes to it. -/
import Derived.Test.YtoneejhafmneiaaDoorK
import Derived.Test.YtoneejhafmneiaaDoorF46
import Derived.Test.YtoneejhafmneiaaDoorF75
namespace Go.Proofs.YtoneejhafmneiaaDoor.P
open Go.RowKit Go.Proofs.YtoneejhafmneiaaDoorW.PrintWords Go.Proofs.YtoneejhafmneiaaDoorW.PrintLast Go.Proofs.YtoneejhafmneiaaDoorW.PrintMore
attribute [local go_sem] max2_int min2_int max_two min_two max_three min_three max_four min_four str_leq str_gtr str_geq
set_option linter.unusedVariables false
set_option linter.unusedSimpArgs false

/-! ### spec_l23One_e: function 37 -/
def spec_l23One_e.f (k : Nat) (l0 : List (S26)) (a0i : Int) : Option (Bool) := (spec_l01Name.f k ((rd_T26 l0 a0i).f0)).bind fun t102 => (if t102 = true then ((spec_l00In.f ((rd_T26 l0 a0i).f1) 0 10000).bind fun t104 => (if t104 = true then ((spec_l00In.f ((rd_T26 l0 a0i).f2) 1 10000).bind fun t106 => (some t106)) else (some false))) else (some false))
theorem spec_l23One_e.mono : ∀ a0 a1 k, LeO (spec_l23One_e.f k a0 a1) (spec_l23One_e.f (k + 1) a0 a1) := by
  intro a0 a1 k
  unfold spec_l23One_e.f
  repeat' first
      | (with_reducible exact spec_l01Name.mono _ _)
      | (with_reducible exact LeO.refl _)
      | (with_reducible exact LeO.none _)
      | (with_reducible refine LeO.ite ?_ ?_)
      | (with_reducible refine LeO.bind ?_ (fun _ => ?_))
      | exact spec_l01Name.mono _ _
      | exact LeO.none _
      | refine LeO.ite ?_ ?_
      | refine LeO.bind ?_ (fun _ => ?_)
set_option maxHeartbeats 8000000 in
set_option maxRecDepth 100000 in
theorem spec_l23One_e.calls (k : Nat) (ad0 : Addr) (l0 : List (S26)) (a0i : Int) (r : Bool) (w : World) (hr0 : Kd.C k26 w (some ad0) l0.length l0) (hp0 : decide (0 ≤ a0i) = true) (hq0 : decide (a0i < (l0.length : Int)) = true) (h : spec_l23One_e.f k l0 a0i = some r) :
    Calls Tryd.prog 37 #[.pointer (some (ad0.add (a0i.toNat * 3)))] w fun e w' => e = .returned (.bool r) ∧ Drawn0 w w' := by
  have HR0 := Aside0.mk hr0
  clear hr0
  have H : ((spec_l01Name.f k ((rd_T26 l0 a0i).f0)).bind fun t102 => (if t102 = true then ((spec_l00In.f ((rd_T26 l0 a0i).f1) 0 10000).bind fun t104 => (if t104 = true then ((spec_l00In.f ((rd_T26 l0 a0i).f2) 1 10000).bind fun t106 => (some t106)) else (some false))) else (some false))) = some r := h
  clear h
  replace H := Option.bind_eq_some_iff.mp H
  obtain ⟨t102, A20, H⟩ := H
  replace H : (if t102 = true then ((spec_l00In.f ((rd_T26 l0 a0i).f1) 0 10000).bind fun t104 => (if t104 = true then ((spec_l00In.f ((rd_T26 l0 a0i).f2) 1 10000).bind fun t106 => (some t106)) else (some false))) else (some false)) = some r := H
  have A2 := Aside0.mk A20
  clear A20
  by_cases c3 : t102 = true
  · subst c3
    have H1 : ((spec_l00In.f ((rd_T26 l0 a0i).f1) 0 10000).bind fun t104 => (if t104 = true then ((spec_l00In.f ((rd_T26 l0 a0i).f2) 1 10000).bind fun t106 => (some t106)) else (some false))) = some r := by rw [if_pos rfl] at H; exact H
    clear H
    have H := H1
    clear H1
    replace H := Option.bind_eq_some_iff.mp H
    obtain ⟨t104, A40, H⟩ := H
    replace H : (if t104 = true then ((spec_l00In.f ((rd_T26 l0 a0i).f2) 1 10000).bind fun t106 => (some t106)) else (some false)) = some r := H
    have A4 := Aside0.mk A40
    clear A40
    by_cases c5 : t104 = true
    · subst c5
      have H1 : ((spec_l00In.f ((rd_T26 l0 a0i).f2) 1 10000).bind fun t106 => (some t106)) = some r := by rw [if_pos rfl] at H; exact H
      clear H
      have H := H1
      clear H1
      replace H := Option.bind_eq_some_iff.mp H
      obtain ⟨t106, A60, H⟩ := H
      replace H : (some t106) = some r := H
      have A6 := Aside0.mk A60
      clear A60
      obtain rfl := Option.some.inj H
      have p101 : 0 ≤ (a0i : Int) := of_decide_eq_true (by first | (with_reducible assumption) | assumption)
      have q101 : a0i < (l0.length : Int) := of_decide_eq_true (by first | (with_reducible assumption) | assumption)
      obtain ⟨ad101, e101, hx101_0, hx101_1, hx101_2⟩ := at_T26 HR0.out a0i p101 q101
      obtain rfl : ad0 = ad101 := (by injection e101)
      replace p101 := eq_true p101
      replace q101 := eq_true q101
      go_enter Tryd.func37, Tryd.ntmps37
      go_wp2_with (first | ((with_reducible refine gate_callee (f := 75) rfl ?_); refine goesL_ (some 7) rfl rfl Tryd.func75 (by kernel_rfl) rfl #[.string ((rd_T26 l0 a0i).f0)] rfl (by (try simp only [List.map_toArray, List.map_cons, List.map_nil]); first | done | rfl | (simp only [List.length_drop, List.length_take]; rfl)) ?_; (with_reducible refine (spec_l01Name.calls k ((rd_T26 l0 a0i).f0) true _ A2.out).mono ?_); rintro e w' ⟨rfl, ⟨nd, rfl⟩⟩; refine ⟨_, rfl, ?_⟩; have p103 : 0 ≤ (a0i : Int) := of_decide_eq_true (by first | (with_reducible assumption) | assumption); have q103 : a0i < (l0.length : Int) := of_decide_eq_true (by first | (with_reducible assumption) | assumption); obtain ⟨ad103, e103, hx103_0, hx103_1, hx103_2⟩ := at_T26 HR0.out a0i p103 q103; obtain rfl : ad0 = ad103 := (by injection e103); replace p103 := eq_true p103; replace q103 := eq_true q103) | (go_at_call 46; (with_reducible refine (spec_l00In.calls ((rd_T26 l0 a0i).f1) 0 10000 true _ A4.out).mono ?_); rintro e w' ⟨rfl, ⟨nd, rfl⟩⟩; have p105 : 0 ≤ (a0i : Int) := of_decide_eq_true (by first | (with_reducible assumption) | assumption); have q105 : a0i < (l0.length : Int) := of_decide_eq_true (by first | (with_reducible assumption) | assumption); obtain ⟨ad105, e105, hx105_0, hx105_1, hx105_2⟩ := at_T26 HR0.out a0i p105 q105; obtain rfl : ad0 = ad105 := (by injection e105); replace p105 := eq_true p105; replace q105 := eq_true q105) | (go_at_call 46; (with_reducible refine (spec_l00In.calls ((rd_T26 l0 a0i).f2) 1 10000 t106 _ A6.out).mono ?_); rintro e w' ⟨rfl, ⟨nd, rfl⟩⟩))
      go_ret
      exact ⟨by first | rfl | (simp; done) | (simp [*]; done), by repeat (first | exact Drawn0.refl _ | apply Drawn0.step)⟩
    · replace c5 := Bool.eq_false_iff.mpr c5
      subst c5
      have H1 : (some false) = some r := by rw [if_neg (show ¬ (false = true) by decide)] at H; exact H
      clear H
      have H := H1
      clear H1
      obtain rfl := Option.some.inj H
      have p101 : 0 ≤ (a0i : Int) := of_decide_eq_true (by first | (with_reducible assumption) | assumption)
      have q101 : a0i < (l0.length : Int) := of_decide_eq_true (by first | (with_reducible assumption) | assumption)
      obtain ⟨ad101, e101, hx101_0, hx101_1, hx101_2⟩ := at_T26 HR0.out a0i p101 q101
      obtain rfl : ad0 = ad101 := (by injection e101)
      replace p101 := eq_true p101
      replace q101 := eq_true q101
      go_enter Tryd.func37, Tryd.ntmps37
      go_wp2_with (first | ((with_reducible refine gate_callee (f := 75) rfl ?_); refine goesL_ (some 7) rfl rfl Tryd.func75 (by kernel_rfl) rfl #[.string ((rd_T26 l0 a0i).f0)] rfl (by (try simp only [List.map_toArray, List.map_cons, List.map_nil]); first | done | rfl | (simp only [List.length_drop, List.length_take]; rfl)) ?_; (with_reducible refine (spec_l01Name.calls k ((rd_T26 l0 a0i).f0) true _ A2.out).mono ?_); rintro e w' ⟨rfl, ⟨nd, rfl⟩⟩; refine ⟨_, rfl, ?_⟩; have p103 : 0 ≤ (a0i : Int) := of_decide_eq_true (by first | (with_reducible assumption) | assumption); have q103 : a0i < (l0.length : Int) := of_decide_eq_true (by first | (with_reducible assumption) | assumption); obtain ⟨ad103, e103, hx103_0, hx103_1, hx103_2⟩ := at_T26 HR0.out a0i p103 q103; obtain rfl : ad0 = ad103 := (by injection e103); replace p103 := eq_true p103; replace q103 := eq_true q103) | (go_at_call 46; (with_reducible refine (spec_l00In.calls ((rd_T26 l0 a0i).f1) 0 10000 false _ A4.out).mono ?_); rintro e w' ⟨rfl, ⟨nd, rfl⟩⟩))
      go_ret
      exact ⟨by first | rfl | (simp; done) | (simp [*]; done), by repeat (first | exact Drawn0.refl _ | apply Drawn0.step)⟩
  · replace c3 := Bool.eq_false_iff.mpr c3
    subst c3
    have H1 : (some false) = some r := by rw [if_neg (show ¬ (false = true) by decide)] at H; exact H
    clear H
    have H := H1
    clear H1
    obtain rfl := Option.some.inj H
    have p101 : 0 ≤ (a0i : Int) := of_decide_eq_true (by first | (with_reducible assumption) | assumption)
    have q101 : a0i < (l0.length : Int) := of_decide_eq_true (by first | (with_reducible assumption) | assumption)
    obtain ⟨ad101, e101, hx101_0, hx101_1, hx101_2⟩ := at_T26 HR0.out a0i p101 q101
    obtain rfl : ad0 = ad101 := (by injection e101)
    replace p101 := eq_true p101
    replace q101 := eq_true q101
    go_enter Tryd.func37, Tryd.ntmps37
    go_wp2_with (first | ((with_reducible refine gate_callee (f := 75) rfl ?_); refine goesL_ (some 7) rfl rfl Tryd.func75 (by kernel_rfl) rfl #[.string ((rd_T26 l0 a0i).f0)] rfl (by (try simp only [List.map_toArray, List.map_cons, List.map_nil]); first | done | rfl | (simp only [List.length_drop, List.length_take]; rfl)) ?_; (with_reducible refine (spec_l01Name.calls k ((rd_T26 l0 a0i).f0) false _ A2.out).mono ?_); rintro e w' ⟨rfl, ⟨nd, rfl⟩⟩; refine ⟨_, rfl, ?_⟩))
    go_ret
    exact ⟨by first | rfl | (simp; done) | (simp [*]; done), by repeat (first | exact Drawn0.refl _ | apply Drawn0.step)⟩

end Go.Proofs.YtoneejhafmneiaaDoor.P
