/- Part e of what FnMerges stands on: functions of the program as Lean functions with their walks, and plain lemmas. -/
import Derived.Test.YtocegmkifmdlcaaK
import Derived.Test.YtocegmkifmdlcaaBFnMergesa
import Derived.Test.YtocegmkifmdlcaaBFnMergesb
import Derived.Test.YtocegmkifmdlcaaBFnMergesc
import Derived.Test.YtocegmkifmdlcaaBFnMergesd
import Derived.ChangeOld
import Derived.ChangeArms
import Derived.WideShapes
import Derived.Test.YtocegmkifmdlcaaWWords
import Derived.KernelRfl
import Derived.Laws.BitsAllLaws
namespace Go.Proofs.Ytocegmkifmdlcaa.P
open Go.RowKit Go.Proofs.YtocegmkifmdlcaaW.PrintWords Go.Proofs.YtocegmkifmdlcaaW.PrintLast Go.Proofs.YtocegmkifmdlcaaW.PrintMore
attribute [local go_sem] max2_int min2_int max_two min_two max_three min_three max_four min_four str_leq str_gtr str_geq
set_option linter.unusedVariables false
set_option linter.unusedSimpArgs false

mutual
def laws_FnMerges.j0 : Nat → List Int → List (S80) → List (S80) → List (S80) → Bool → Option (Bool)
  | 0, _, _, _, _, _ => none
  | k + 1, x1, x5, x6, x7, x91 => if x91 = true then none else ((impl_ConflictsOf.f k x5 x6 x7).bind fun bt126 => ((impl_ConflictsOf.f k x5 x7 x6).bind fun bt130 => ((impl_MergeStates.f k x5 x6 x7).bind fun bt134 => ((impl_MergeStates.f k x5 x7 x6).bind fun bt138 => (if bt126.2 = 0 then (if bt130.2 = 0 then (if (bt126.1.length : Int) = (bt130.1.length : Int) then (if bt134.2 = bt138.2 then (if ((bt134.2 == 6) != (decide ((bt126.1.length : Int) > 0))) = true then none else (if bt134.2 = 0 then ((spec_SameState.f k bt134.1 bt138.1).bind fun t142 => (if t142 = true then ((spec_ValidState.f k bt134.1).bind fun t143 => (laws_FnMerges.j1 k x1 (!t143))) else none)) else (laws_FnMerges.j1 k x1 false))) else none) else none) else none) else none)))))
def laws_FnMerges.j1 : Nat → List Int → Bool → Option (Bool)
  | 0, _, _ => none
  | k + 1, x1, x160 => if x160 = true then none else ((spec_R8History.f k x1).bind fun t144 => (if (t144.length : Int) = 0 then (some true) else ((laws_r8At.f x1 0 (t144.length : Int)).bind fun t147 => ((laws_r8At.f x1 1 (t144.length : Int)).bind fun t148 => ((impl_CommonAncestor.f k t144 (wrap64 (1 + t147)) (wrap64 (1 + t148))).bind fun bt149 => ((impl_CommonAncestor.f k t144 (wrap64 (1 + t148)) (wrap64 (1 + t147))).bind fun bt151 => ((impl_MergeVersions.f k t144 (wrap64 (1 + t147)) (wrap64 (1 + t148)) (⟨#[98, 111, 116, 104]⟩ : ByteArray)).bind fun bt153 => (if bt149.2 = 0 then (if bt151.2 = 0 then (if bt149.1 = bt151.1 then (if bt149.1 < 0 then none else (if bt149.1 > (mn (wrap64 (1 + t147)) (wrap64 (1 + t148))) then none else (if bt153.2 = 0 then (if (bt153.1.length : Int) = (wrap64 ((t144.length : Int) + 1)) then ((spec_ValidHistory.f k bt153.1).bind fun t157 => (some t157)) else none) else (some true)))) else none) else none) else none))))))))
end
def laws_FnMerges.f (k : Nat) (l0 : List Int) (l1 : List Int) : Option (Bool) := (laws_r8Long.f l0 l1).bind fun t101 => (if t101 = true then (some true) else ((spec_R8State.f k l0).bind fun t102 => ((spec_R8Changed.f k l1 t102).bind fun t105 => ((spec_R8Changed.f k l0 t102).bind fun t108 => ((impl_MergeStates.f k t102 t105 t102).bind fun bt111 => ((impl_MergeStates.f k t102 t102 t105).bind fun bt115 => ((impl_MergeStates.f k t102 t105 t105).bind fun bt119 => (if bt111.2 = 0 then (if bt115.2 = 0 then (if bt119.2 = 0 then ((spec_SameState.f k bt111.1 t105).bind fun t123 => (if t123 = true then ((spec_SameState.f k bt115.1 t105).bind fun t124 => (if t124 = true then ((spec_SameState.f k bt119.1 t105).bind fun t125 => (laws_FnMerges.j0 k l1 t102 t105 t108 (!t125))) else none)) else none)) else none) else none) else none))))))))
set_option maxHeartbeats 8000000 in
set_option maxRecDepth 100000 in
theorem laws_FnMerges.calls (k : Nat) (A0 : Option Addr) (c0 : Nat) (l0 : List Int) (A1 : Option Addr) (c1 : Nat) (l1 : List Int) (r : Bool) (w : World) (hr0 : Kd.C (Kd.int .u8) w A0 l0.length l0) (hc0 : l0.length ≤ c0) (hr1 : Kd.C (Kd.int .u8) w A1 l1.length l1) (hc1 : l1.length ≤ c1) (h : laws_FnMerges.f k l0 l1 = some r) :
    Calls Try.prog 6 #[.slice A0 l0.length c0, .slice A1 l1.length c1] w fun e w' => e = .returned (.bool r) ∧ Below w.heap.size w w' := by
  have HR0 := Aside0.mk hr0
  have HC0 := Aside0.mk hc0
  clear hr0 hc0
  have HR1 := Aside0.mk hr1
  have HC1 := Aside0.mk hc1
  clear hr1 hc1
  have HB := Aside0.mk (Below.refl w.heap.size w)
  have H : ((laws_r8Long.f l0 l1).bind fun t101 => (if t101 = true then (some true) else ((spec_R8State.f k l0).bind fun t102 => ((spec_R8Changed.f k l1 t102).bind fun t105 => ((spec_R8Changed.f k l0 t102).bind fun t108 => ((impl_MergeStates.f k t102 t105 t102).bind fun bt111 => ((impl_MergeStates.f k t102 t102 t105).bind fun bt115 => ((impl_MergeStates.f k t102 t105 t105).bind fun bt119 => (if bt111.2 = 0 then (if bt115.2 = 0 then (if bt119.2 = 0 then ((spec_SameState.f k bt111.1 t105).bind fun t123 => (if t123 = true then ((spec_SameState.f k bt115.1 t105).bind fun t124 => (if t124 = true then ((spec_SameState.f k bt119.1 t105).bind fun t125 => (laws_FnMerges.j0 k l1 t102 t105 t108 (!t125))) else none)) else none)) else none) else none) else none))))))))) = some r := h
  clear h
  replace H := Option.bind_eq_some_iff.mp H
  obtain ⟨t101, A30, H⟩ := H
  replace H : (if t101 = true then (some true) else ((spec_R8State.f k l0).bind fun t102 => ((spec_R8Changed.f k l1 t102).bind fun t105 => ((spec_R8Changed.f k l0 t102).bind fun t108 => ((impl_MergeStates.f k t102 t105 t102).bind fun bt111 => ((impl_MergeStates.f k t102 t102 t105).bind fun bt115 => ((impl_MergeStates.f k t102 t105 t105).bind fun bt119 => (if bt111.2 = 0 then (if bt115.2 = 0 then (if bt119.2 = 0 then ((spec_SameState.f k bt111.1 t105).bind fun t123 => (if t123 = true then ((spec_SameState.f k bt115.1 t105).bind fun t124 => (if t124 = true then ((spec_SameState.f k bt119.1 t105).bind fun t125 => (laws_FnMerges.j0 k l1 t102 t105 t108 (!t125))) else none)) else none)) else none) else none) else none)))))))) = some r := H
  have A3 := Aside0.mk A30
  clear A30
  by_cases c4 : t101 = true
  · subst c4
    have H1 : (some true) = some r := by rw [if_pos rfl] at H; exact H
    clear H
    have H := H1
    clear H1
    obtain rfl := Option.some.inj H
    go_enter Try.func6, Try.ntmps6
    go_wp2_with (first | ((with_reducible refine gate_callee (f := 26) rfl ?_); refine goesL_ (some 34) rfl rfl Try.func26 (by kernel_rfl) rfl #[.slice A0 l0.length c0, .slice A1 l1.length c1] rfl (by (try simp only [List.map_toArray, List.map_cons, List.map_nil]); first | done | rfl | (simp only [List.length_drop, List.length_take]; rfl)) ?_; (with_reducible refine (laws_r8Long.calls _ _ l0 _ _ l1 true _ ?side1 ?side2 ?side3 ?side4 A3.out).mono ?_); (case side1 => repeat (first | exact HR0.out | (with_reducible refine Kd.C_alloc ?_ _) | (with_reducible refine Kd.C_drewN ?_ _) | (with_reducible refine Kd.C_drew ?_))); (case side2 => exact HC0.out); (case side3 => repeat (first | exact HR1.out | (with_reducible refine Kd.C_alloc ?_ _) | (with_reducible refine Kd.C_drewN ?_ _) | (with_reducible refine Kd.C_drew ?_))); (case side4 => exact HC1.out); rintro e w' ⟨rfl, ⟨nd, rfl⟩⟩; refine ⟨_, rfl, ?_⟩))
    go_ret
    exact ⟨by first | rfl | (simp [errW_none, errW_some] <;> rfl) | (simp [*, errW_none, errW_some] <;> rfl), by repeat (first | (with_reducible first | exact HB.out | apply below_alloc | apply pw_below_drewN | apply below_drew1) | exact HB.out)⟩
  · replace c4 := Bool.eq_false_iff.mpr c4
    subst c4
    have H1 : ((spec_R8State.f k l0).bind fun t102 => ((spec_R8Changed.f k l1 t102).bind fun t105 => ((spec_R8Changed.f k l0 t102).bind fun t108 => ((impl_MergeStates.f k t102 t105 t102).bind fun bt111 => ((impl_MergeStates.f k t102 t102 t105).bind fun bt115 => ((impl_MergeStates.f k t102 t105 t105).bind fun bt119 => (if bt111.2 = 0 then (if bt115.2 = 0 then (if bt119.2 = 0 then ((spec_SameState.f k bt111.1 t105).bind fun t123 => (if t123 = true then ((spec_SameState.f k bt115.1 t105).bind fun t124 => (if t124 = true then ((spec_SameState.f k bt119.1 t105).bind fun t125 => (laws_FnMerges.j0 k l1 t102 t105 t108 (!t125))) else none)) else none)) else none) else none) else none))))))) = some r := by rw [if_neg (show ¬ (false = true) by decide)] at H; exact H
    clear H
    have H := H1
    clear H1
    replace H := Option.bind_eq_some_iff.mp H
    obtain ⟨t102, A50, H⟩ := H
    replace H : ((spec_R8Changed.f k l1 t102).bind fun t105 => ((spec_R8Changed.f k l0 t102).bind fun t108 => ((impl_MergeStates.f k t102 t105 t102).bind fun bt111 => ((impl_MergeStates.f k t102 t102 t105).bind fun bt115 => ((impl_MergeStates.f k t102 t105 t105).bind fun bt119 => (if bt111.2 = 0 then (if bt115.2 = 0 then (if bt119.2 = 0 then ((spec_SameState.f k bt111.1 t105).bind fun t123 => (if t123 = true then ((spec_SameState.f k bt115.1 t105).bind fun t124 => (if t124 = true then ((spec_SameState.f k bt119.1 t105).bind fun t125 => (laws_FnMerges.j0 k l1 t102 t105 t108 (!t125))) else none)) else none)) else none) else none) else none)))))) = some r := H
    have A5 := Aside0.mk A50
    clear A50
    replace H := Option.bind_eq_some_iff.mp H
    obtain ⟨t105, A60, H⟩ := H
    replace H : ((spec_R8Changed.f k l0 t102).bind fun t108 => ((impl_MergeStates.f k t102 t105 t102).bind fun bt111 => ((impl_MergeStates.f k t102 t102 t105).bind fun bt115 => ((impl_MergeStates.f k t102 t105 t105).bind fun bt119 => (if bt111.2 = 0 then (if bt115.2 = 0 then (if bt119.2 = 0 then ((spec_SameState.f k bt111.1 t105).bind fun t123 => (if t123 = true then ((spec_SameState.f k bt115.1 t105).bind fun t124 => (if t124 = true then ((spec_SameState.f k bt119.1 t105).bind fun t125 => (laws_FnMerges.j0 k l1 t102 t105 t108 (!t125))) else none)) else none)) else none) else none) else none))))) = some r := H
    have A6 := Aside0.mk A60
    clear A60
    replace H := Option.bind_eq_some_iff.mp H
    obtain ⟨t108, A70, H⟩ := H
    replace H : ((impl_MergeStates.f k t102 t105 t102).bind fun bt111 => ((impl_MergeStates.f k t102 t102 t105).bind fun bt115 => ((impl_MergeStates.f k t102 t105 t105).bind fun bt119 => (if bt111.2 = 0 then (if bt115.2 = 0 then (if bt119.2 = 0 then ((spec_SameState.f k bt111.1 t105).bind fun t123 => (if t123 = true then ((spec_SameState.f k bt115.1 t105).bind fun t124 => (if t124 = true then ((spec_SameState.f k bt119.1 t105).bind fun t125 => (laws_FnMerges.j0 k l1 t102 t105 t108 (!t125))) else none)) else none)) else none) else none) else none)))) = some r := H
    have A7 := Aside0.mk A70
    clear A70
    replace H := Option.bind_eq_some_iff.mp H
    obtain ⟨⟨t111, t114⟩, A80, H⟩ := H
    replace H : ((impl_MergeStates.f k t102 t102 t105).bind fun bt115 => ((impl_MergeStates.f k t102 t105 t105).bind fun bt119 => (if t114 = 0 then (if bt115.2 = 0 then (if bt119.2 = 0 then ((spec_SameState.f k t111 t105).bind fun t123 => (if t123 = true then ((spec_SameState.f k bt115.1 t105).bind fun t124 => (if t124 = true then ((spec_SameState.f k bt119.1 t105).bind fun t125 => (laws_FnMerges.j0 k l1 t102 t105 t108 (!t125))) else none)) else none)) else none) else none) else none))) = some r := H
    have A8 := Aside0.mk A80
    clear A80
    replace H := Option.bind_eq_some_iff.mp H
    obtain ⟨⟨t115, t118⟩, A90, H⟩ := H
    replace H : ((impl_MergeStates.f k t102 t105 t105).bind fun bt119 => (if t114 = 0 then (if t118 = 0 then (if bt119.2 = 0 then ((spec_SameState.f k t111 t105).bind fun t123 => (if t123 = true then ((spec_SameState.f k t115 t105).bind fun t124 => (if t124 = true then ((spec_SameState.f k bt119.1 t105).bind fun t125 => (laws_FnMerges.j0 k l1 t102 t105 t108 (!t125))) else none)) else none)) else none) else none) else none)) = some r := H
    have A9 := Aside0.mk A90
    clear A90
    replace H := Option.bind_eq_some_iff.mp H
    obtain ⟨⟨t119, t122⟩, A100, H⟩ := H
    replace H : (if t114 = 0 then (if t118 = 0 then (if t122 = 0 then ((spec_SameState.f k t111 t105).bind fun t123 => (if t123 = true then ((spec_SameState.f k t115 t105).bind fun t124 => (if t124 = true then ((spec_SameState.f k t119 t105).bind fun t125 => (laws_FnMerges.j0 k l1 t102 t105 t108 (!t125))) else none)) else none)) else none) else none) else none) = some r := H
    have A10 := Aside0.mk A100
    clear A100
    have HC11 := Aside0.mk H
    clear H
    go_enter Try.func6, Try.ntmps6
    go_upto_region 9 with (first | ((with_reducible refine gate_callee (f := 26) rfl ?_); refine goesL_ (some 34) rfl rfl Try.func26 (by kernel_rfl) rfl #[.slice A0 l0.length c0, .slice A1 l1.length c1] rfl (by (try simp only [List.map_toArray, List.map_cons, List.map_nil]); first | done | rfl | (simp only [List.length_drop, List.length_take]; rfl)) ?_; (with_reducible refine (laws_r8Long.calls _ _ l0 _ _ l1 false _ ?side1 ?side2 ?side3 ?side4 A3.out).mono ?_); (case side1 => repeat (first | exact HR0.out | (with_reducible refine Kd.C_alloc ?_ _) | (with_reducible refine Kd.C_drewN ?_ _) | (with_reducible refine Kd.C_drew ?_))); (case side2 => exact HC0.out); (case side3 => repeat (first | exact HR1.out | (with_reducible refine Kd.C_alloc ?_ _) | (with_reducible refine Kd.C_drewN ?_ _) | (with_reducible refine Kd.C_drew ?_))); (case side4 => exact HC1.out); rintro e w' ⟨rfl, ⟨nd, rfl⟩⟩; refine ⟨_, rfl, ?_⟩) | ((with_reducible refine gate_callee (f := 27) rfl ?_); refine goesL_ (some 36) rfl rfl Try.func27 (by kernel_rfl) rfl #[.slice A0 l0.length c0] rfl (by (try simp only [List.map_toArray, List.map_cons, List.map_nil]); first | done | rfl | (simp only [List.length_drop, List.length_take]; rfl)) ?_; (with_reducible refine (spec_R8State.calls k _ _ l0 t102 _ ?side1 ?side2 A5.out).mono ?_); (case side1 => repeat (first | exact HR0.out | (with_reducible refine Kd.C_alloc ?_ _) | (with_reducible refine Kd.C_drewN ?_ _) | (with_reducible refine Kd.C_drew ?_))); (case side2 => exact HC0.out); rintro e w12 ⟨v103, rfl, ho0, hb⟩; refine ⟨_, rfl, ?_⟩; have n0_ := Aside0.mk (Kd.R_lower ho0 (below_size (by repeat (first | (with_reducible first | exact HB.out | apply below_alloc | apply pw_below_drewN | apply below_drew1) | exact HB.out)))); have n1_ := Aside0.mk (below_step (by repeat (first | (with_reducible first | exact HB.out | apply below_alloc | apply pw_below_drewN | apply below_drew1) | exact HB.out)) hb); clear HB; have HO104 := n0_; have HB := n1_; clear n0_ n1_; (try clear hb); (try clear hb2); (try clear hk); (try clear hi); (try clear ho0); obtain ⟨Ao13, co13, eo13⟩ := Kd.R_slice HO104.out; subst eo13) | ((with_reducible refine gate_callee (f := 28) rfl ?_); refine goesL_ (some 39) rfl rfl Try.func28 (by kernel_rfl) rfl #[.slice A1 l1.length c1, .slice Ao13 t102.length co13] rfl (by (try simp only [List.map_toArray, List.map_cons, List.map_nil]); first | done | rfl | (simp only [List.length_drop, List.length_take]; rfl)) ?_; (with_reducible refine (spec_R8Changed.calls k _ _ l1 _ _ t102 t105 _ ?side1 ?side2 ?side3 ?side4 A6.out).mono ?_); (case side1 => repeat (first | exact (Kd.C_below HR1.out HB.out) | (with_reducible refine Kd.C_alloc ?_ _) | (with_reducible refine Kd.C_drewN ?_ _) | (with_reducible refine Kd.C_drew ?_))); (case side2 => exact HC1.out); (case side3 => repeat (first | exact (Kd.R_reads' HO104.out).2.2 | (with_reducible refine Kd.C_alloc ?_ _) | (with_reducible refine Kd.C_drewN ?_ _) | (with_reducible refine Kd.C_drew ?_))); (case side4 => exact (Kd.R_reads' HO104.out).2.1); rintro e w14 ⟨v106, rfl, ho0, hb⟩; refine ⟨_, rfl, ?_⟩; have n0_ := Aside0.mk (Kd.R_elder' (by (with_reducible repeat (first | apply Kd.R_alloc | apply Kd.R_drewN | apply Kd.R_drew)); exact HO104.out) (Kd.R_base ho0) hb); have n1_ := Aside0.mk (Kd.R_lower (Kd.R_new' ho0 (Kd.R_lt (by (with_reducible repeat (first | apply Kd.R_alloc | apply Kd.R_drewN | apply Kd.R_drew)); exact HO104.out))) (below_size (by repeat (first | (with_reducible first | exact HB.out | apply below_alloc | apply pw_below_drewN | apply below_drew1) | exact HB.out)))); have n2_ := Aside0.mk (below_step (by repeat (first | (with_reducible first | exact HB.out | apply below_alloc | apply pw_below_drewN | apply below_drew1) | exact HB.out)) hb); clear HO104; clear HB; have HO104 := n0_; have HO107 := n1_; have HB := n2_; clear n0_ n1_ n2_; (try clear hb); (try clear hb2); (try clear hk); (try clear hi); (try clear ho0)) | ((with_reducible refine gate_callee (f := 28) rfl ?_); refine goesL_ (some 42) rfl rfl Try.func28 (by kernel_rfl) rfl #[.slice A0 l0.length c0, .slice Ao13 t102.length co13] rfl (by (try simp only [List.map_toArray, List.map_cons, List.map_nil]); first | done | rfl | (simp only [List.length_drop, List.length_take]; rfl)) ?_; (with_reducible refine (spec_R8Changed.calls k _ _ l0 _ _ t102 t108 _ ?side1 ?side2 ?side3 ?side4 A7.out).mono ?_); (case side1 => repeat (first | exact (Kd.C_below HR0.out HB.out) | (with_reducible refine Kd.C_alloc ?_ _) | (with_reducible refine Kd.C_drewN ?_ _) | (with_reducible refine Kd.C_drew ?_))); (case side2 => exact HC0.out); (case side3 => repeat (first | exact (Kd.R_reads' HO104.out).2.2 | (with_reducible refine Kd.C_alloc ?_ _) | (with_reducible refine Kd.C_drewN ?_ _) | (with_reducible refine Kd.C_drew ?_))); (case side4 => exact (Kd.R_reads' HO104.out).2.1); rintro e w15 ⟨v109, rfl, ho0, hb⟩; refine ⟨_, rfl, ?_⟩; have n0_ := Aside0.mk (Kd.R_elder' (by (with_reducible repeat (first | apply Kd.R_alloc | apply Kd.R_drewN | apply Kd.R_drew)); exact HO104.out) (Kd.R_base ho0) hb); have n1_ := Aside0.mk (Kd.R_elder' (by (with_reducible repeat (first | apply Kd.R_alloc | apply Kd.R_drewN | apply Kd.R_drew)); exact HO107.out) (Kd.R_base ho0) hb); have n2_ := Aside0.mk (Kd.R_lower (Kd.R_new' (Kd.R_new' ho0 (Kd.R_lt (by (with_reducible repeat (first | apply Kd.R_alloc | apply Kd.R_drewN | apply Kd.R_drew)); exact HO104.out))) (Kd.R_lt (by (with_reducible repeat (first | apply Kd.R_alloc | apply Kd.R_drewN | apply Kd.R_drew)); exact HO107.out))) (below_size (by repeat (first | (with_reducible first | exact HB.out | apply below_alloc | apply pw_below_drewN | apply below_drew1) | exact HB.out)))); have n3_ := Aside0.mk (below_step (by repeat (first | (with_reducible first | exact HB.out | apply below_alloc | apply pw_below_drewN | apply below_drew1) | exact HB.out)) hb); clear HO104; clear HO107; clear HB; have HO104 := n0_; have HO107 := n1_; have HO110 := n2_; have HB := n3_; clear n0_ n1_ n2_ n3_; (try clear hb); (try clear hb2); (try clear hk); (try clear hi); (try clear ho0); obtain ⟨Ao16, co16, eo16⟩ := Kd.R_slice HO107.out; subst eo16) | ((with_reducible refine gate_callee (f := 25) rfl ?_); refine goesL_ (some 47) rfl rfl Try.func25 (by kernel_rfl) rfl #[.slice Ao13 t102.length co13, .slice Ao16 t105.length co16, .slice Ao13 t102.length co13] rfl (by (try simp only [List.map_toArray, List.map_cons, List.map_nil]); first | done | rfl | (simp only [List.length_drop, List.length_take]; rfl)) ?_; (with_reducible refine (impl_MergeStates.calls k (fun k_ => some k_ = (.slice Ao13 t102.length co13 : Value).ownBlock) _ _ t102 (fun k_ => some k_ = (.slice Ao16 t105.length co16 : Value).ownBlock) _ _ t105 (fun k_ => some k_ = (.slice Ao13 t102.length co13 : Value).ownBlock) _ _ t102 t111 t114 _ ?side1 ?side2 ?side3 A8.out).mono ?_); (case side1 => exact Kd.R_V (Kd.R_tight rfl (HO104.out))); (case side2 => exact Kd.R_V (Kd.R_tight rfl (HO107.out))); (case side3 => exact Kd.R_V (Kd.R_tight rfl (HO104.out))); rintro e w17 ⟨v112, rfl, ho0, hb⟩; refine ⟨_, rfl, ?_⟩; have n0_ := Aside0.mk (Kd.R_elder' (by (with_reducible repeat (first | apply Kd.R_alloc | apply Kd.R_drewN | apply Kd.R_drew)); exact HO104.out) (Kd.R_base ho0) hb); have n1_ := Aside0.mk (Kd.R_elder' (by (with_reducible repeat (first | apply Kd.R_alloc | apply Kd.R_drewN | apply Kd.R_drew)); exact HO107.out) (Kd.R_base ho0) hb); have n2_ := Aside0.mk (Kd.R_elder' (by (with_reducible repeat (first | apply Kd.R_alloc | apply Kd.R_drewN | apply Kd.R_drew)); exact HO110.out) (Kd.R_base ho0) hb); have n3_ := Aside0.mk (Kd.R_lower (Kd.R_new' (Kd.R_new' (Kd.R_new' (Kd.R_mono (ok' := fun k_ => True) ho0 (fun _ hk_ => trivial)) (Kd.R_lt (by (with_reducible repeat (first | apply Kd.R_alloc | apply Kd.R_drewN | apply Kd.R_drew)); exact HO104.out))) (Kd.R_lt (by (with_reducible repeat (first | apply Kd.R_alloc | apply Kd.R_drewN | apply Kd.R_drew)); exact HO107.out))) (Kd.R_lt (by (with_reducible repeat (first | apply Kd.R_alloc | apply Kd.R_drewN | apply Kd.R_drew)); exact HO110.out))) (below_size (by repeat (first | (with_reducible first | exact HB.out | apply below_alloc | apply pw_below_drewN | apply below_drew1) | exact HB.out)))); have n4_ := Aside0.mk (below_step (by repeat (first | (with_reducible first | exact HB.out | apply below_alloc | apply pw_below_drewN | apply below_drew1) | exact HB.out)) hb); clear HO104; clear HO107; clear HO110; clear HB; have HO104 := n0_; have HO107 := n1_; have HO110 := n2_; have HO113 := n3_; have HB := n4_; clear n0_ n1_ n2_ n3_ n4_; (try clear hb); (try clear hb2); (try clear hk); (try clear hi); (try clear ho0)) | ((with_reducible refine gate_callee (f := 25) rfl ?_); refine goesL_ (some 54) rfl rfl Try.func25 (by kernel_rfl) rfl #[.slice Ao13 t102.length co13, .slice Ao13 t102.length co13, .slice Ao16 t105.length co16] rfl (by (try simp only [List.map_toArray, List.map_cons, List.map_nil]); first | done | rfl | (simp only [List.length_drop, List.length_take]; rfl)) ?_; (with_reducible refine (impl_MergeStates.calls k (fun k_ => some k_ = (.slice Ao13 t102.length co13 : Value).ownBlock) _ _ t102 (fun k_ => some k_ = (.slice Ao13 t102.length co13 : Value).ownBlock) _ _ t102 (fun k_ => some k_ = (.slice Ao16 t105.length co16 : Value).ownBlock) _ _ t105 t115 t118 _ ?side1 ?side2 ?side3 A9.out).mono ?_); (case side1 => exact Kd.R_V (Kd.R_tight rfl (HO104.out))); (case side2 => exact Kd.R_V (Kd.R_tight rfl (HO104.out))); (case side3 => exact Kd.R_V (Kd.R_tight rfl (HO107.out))); rintro e w18 ⟨v116, rfl, ho0, hb⟩; refine ⟨_, rfl, ?_⟩; have n0_ := Aside0.mk (Kd.R_elder' (by (with_reducible repeat (first | apply Kd.R_alloc | apply Kd.R_drewN | apply Kd.R_drew)); exact HO104.out) (Kd.R_base ho0) hb); have n1_ := Aside0.mk (Kd.R_elder' (by (with_reducible repeat (first | apply Kd.R_alloc | apply Kd.R_drewN | apply Kd.R_drew)); exact HO107.out) (Kd.R_base ho0) hb); have n2_ := Aside0.mk (Kd.R_elder' (by (with_reducible repeat (first | apply Kd.R_alloc | apply Kd.R_drewN | apply Kd.R_drew)); exact HO110.out) (Kd.R_base ho0) hb); have n3_ := Aside0.mk (Kd.R_elder' (by (with_reducible repeat (first | apply Kd.R_alloc | apply Kd.R_drewN | apply Kd.R_drew)); exact HO113.out) (Kd.R_base ho0) hb); have n4_ := Aside0.mk (Kd.R_lower (Kd.R_new' (Kd.R_new' (Kd.R_new' (Kd.R_new' (Kd.R_mono (ok' := fun k_ => True) ho0 (fun _ hk_ => trivial)) (Kd.R_lt (by (with_reducible repeat (first | apply Kd.R_alloc | apply Kd.R_drewN | apply Kd.R_drew)); exact HO104.out))) (Kd.R_lt (by (with_reducible repeat (first | apply Kd.R_alloc | apply Kd.R_drewN | apply Kd.R_drew)); exact HO107.out))) (Kd.R_lt (by (with_reducible repeat (first | apply Kd.R_alloc | apply Kd.R_drewN | apply Kd.R_drew)); exact HO110.out))) (Kd.R_lt (by (with_reducible repeat (first | apply Kd.R_alloc | apply Kd.R_drewN | apply Kd.R_drew)); exact HO113.out))) (below_size (by repeat (first | (with_reducible first | exact HB.out | apply below_alloc | apply pw_below_drewN | apply below_drew1) | exact HB.out)))); have n5_ := Aside0.mk (below_step (by repeat (first | (with_reducible first | exact HB.out | apply below_alloc | apply pw_below_drewN | apply below_drew1) | exact HB.out)) hb); clear HO104; clear HO107; clear HO110; clear HO113; clear HB; have HO104 := n0_; have HO107 := n1_; have HO110 := n2_; have HO113 := n3_; have HO117 := n4_; have HB := n5_; clear n0_ n1_ n2_ n3_ n4_ n5_; (try clear hb); (try clear hb2); (try clear hk); (try clear hi); (try clear ho0)) | ((with_reducible refine gate_callee (f := 25) rfl ?_); refine goesL_ (some 61) rfl rfl Try.func25 (by kernel_rfl) rfl #[.slice Ao13 t102.length co13, .slice Ao16 t105.length co16, .slice Ao16 t105.length co16] rfl (by (try simp only [List.map_toArray, List.map_cons, List.map_nil]); first | done | rfl | (simp only [List.length_drop, List.length_take]; rfl)) ?_; (with_reducible refine (impl_MergeStates.calls k (fun k_ => some k_ = (.slice Ao13 t102.length co13 : Value).ownBlock) _ _ t102 (fun k_ => some k_ = (.slice Ao16 t105.length co16 : Value).ownBlock) _ _ t105 (fun k_ => some k_ = (.slice Ao16 t105.length co16 : Value).ownBlock) _ _ t105 t119 t122 _ ?side1 ?side2 ?side3 A10.out).mono ?_); (case side1 => exact Kd.R_V (Kd.R_tight rfl (HO104.out))); (case side2 => exact Kd.R_V (Kd.R_tight rfl (HO107.out))); (case side3 => exact Kd.R_V (Kd.R_tight rfl (HO107.out))); rintro e w19 ⟨v120, rfl, ho0, hb⟩; refine ⟨_, rfl, ?_⟩; have n0_ := Aside0.mk (Kd.R_elder' (by (with_reducible repeat (first | apply Kd.R_alloc | apply Kd.R_drewN | apply Kd.R_drew)); exact HO104.out) (Kd.R_base ho0) hb); have n1_ := Aside0.mk (Kd.R_elder' (by (with_reducible repeat (first | apply Kd.R_alloc | apply Kd.R_drewN | apply Kd.R_drew)); exact HO107.out) (Kd.R_base ho0) hb); have n2_ := Aside0.mk (Kd.R_elder' (by (with_reducible repeat (first | apply Kd.R_alloc | apply Kd.R_drewN | apply Kd.R_drew)); exact HO110.out) (Kd.R_base ho0) hb); have n3_ := Aside0.mk (Kd.R_elder' (by (with_reducible repeat (first | apply Kd.R_alloc | apply Kd.R_drewN | apply Kd.R_drew)); exact HO113.out) (Kd.R_base ho0) hb); have n4_ := Aside0.mk (Kd.R_elder' (by (with_reducible repeat (first | apply Kd.R_alloc | apply Kd.R_drewN | apply Kd.R_drew)); exact HO117.out) (Kd.R_base ho0) hb); have n5_ := Aside0.mk (Kd.R_lower (Kd.R_new' (Kd.R_new' (Kd.R_new' (Kd.R_new' (Kd.R_new' (Kd.R_mono (ok' := fun k_ => True) ho0 (fun _ hk_ => trivial)) (Kd.R_lt (by (with_reducible repeat (first | apply Kd.R_alloc | apply Kd.R_drewN | apply Kd.R_drew)); exact HO104.out))) (Kd.R_lt (by (with_reducible repeat (first | apply Kd.R_alloc | apply Kd.R_drewN | apply Kd.R_drew)); exact HO107.out))) (Kd.R_lt (by (with_reducible repeat (first | apply Kd.R_alloc | apply Kd.R_drewN | apply Kd.R_drew)); exact HO110.out))) (Kd.R_lt (by (with_reducible repeat (first | apply Kd.R_alloc | apply Kd.R_drewN | apply Kd.R_drew)); exact HO113.out))) (Kd.R_lt (by (with_reducible repeat (first | apply Kd.R_alloc | apply Kd.R_drewN | apply Kd.R_drew)); exact HO117.out))) (below_size (by repeat (first | (with_reducible first | exact HB.out | apply below_alloc | apply pw_below_drewN | apply below_drew1) | exact HB.out)))); have n6_ := Aside0.mk (below_step (by repeat (first | (with_reducible first | exact HB.out | apply below_alloc | apply pw_below_drewN | apply below_drew1) | exact HB.out)) hb); clear HO104; clear HO107; clear HO110; clear HO113; clear HO117; clear HB; have HO104 := n0_; have HO107 := n1_; have HO110 := n2_; have HO113 := n3_; have HO117 := n4_; have HO121 := n5_; have HB := n6_; clear n0_ n1_ n2_ n3_ n4_ n5_ n6_; (try clear hb); (try clear hb2); (try clear hk); (try clear hi); (try clear ho0)))
    (try simp only [Act.put, List.setIfInBounds_toArray, List.set_cons_zero, List.set_cons_succ])
    go_cut [91] (fun v91 wc => ∃ (kq : Nat) (x91_10 : Bool), v91 = .bool x91_10 ∧ Aside0 (laws_FnMerges.j0 kq l1 t102 t105 t108 x91_10 = some r) ∧ Aside0 (kq ≤ k) ∧ Aside0 (Kd.R k80 80 wc w.heap.size (fun k_ => some k_ ≠ ((.slice Ao16 t105.length co16) : Value).ownBlock ∧ some k_ ≠ (v109 : Value).ownBlock) (.slice Ao13 t102.length co13) t102) ∧ Aside0 (Kd.R k80 80 wc w.heap.size (fun k_ => some k_ ≠ ((.slice Ao13 t102.length co13) : Value).ownBlock ∧ some k_ ≠ (v109 : Value).ownBlock) (.slice Ao16 t105.length co16) t105) ∧ Aside0 (Kd.R k80 80 wc w.heap.size (fun k_ => some k_ ≠ ((.slice Ao13 t102.length co13) : Value).ownBlock ∧ some k_ ≠ ((.slice Ao16 t105.length co16) : Value).ownBlock) v109 t108) ∧ Aside0 (Below w.heap.size w wc))
    case first =>
      have H := HC11.out
      clear HC11
      by_cases c20 : t114 = 0
      · rw [if_pos c20] at H
        have c20b0 : (t114 == 0) = true := beq_iff_eq.mpr c20
        have c20b1 : (t114 != 0) = false := bne_eq_false_iff_eq.mpr c20
        clear c20
        (first | rw [c20b0] | (simp only [i64_w, i32_w]; rw [c20b0]) | skip)
        by_cases c21 : t118 = 0
        · rw [if_pos c21] at H
          have c21b0 : (t118 == 0) = true := beq_iff_eq.mpr c21
          have c21b1 : (t118 != 0) = false := bne_eq_false_iff_eq.mpr c21
          clear c21
          by_cases c22 : t122 = 0
          · rw [if_pos c22] at H
            have c22b0 : (t122 == 0) = true := beq_iff_eq.mpr c22
            have c22b1 : (t122 != 0) = false := bne_eq_false_iff_eq.mpr c22
            clear c22
            replace H := Option.bind_eq_some_iff.mp H
            obtain ⟨t123, A230, H⟩ := H
            replace H : (if t123 = true then ((spec_SameState.f k t115 t105).bind fun t124 => (if t124 = true then ((spec_SameState.f k t119 t105).bind fun t125 => (laws_FnMerges.j0 k l1 t102 t105 t108 (!t125))) else none)) else none) = some r := H
            have A23 := Aside0.mk A230
            clear A230
            by_cases c24 : t123 = true
            · subst c24
              have H1 : ((spec_SameState.f k t115 t105).bind fun t124 => (if t124 = true then ((spec_SameState.f k t119 t105).bind fun t125 => (laws_FnMerges.j0 k l1 t102 t105 t108 (!t125))) else none)) = some r := by rw [if_pos rfl] at H; exact H
              clear H
              have H := H1
              clear H1
              replace H := Option.bind_eq_some_iff.mp H
              obtain ⟨t124, A250, H⟩ := H
              replace H : (if t124 = true then ((spec_SameState.f k t119 t105).bind fun t125 => (laws_FnMerges.j0 k l1 t102 t105 t108 (!t125))) else none) = some r := H
              have A25 := Aside0.mk A250
              clear A250
              by_cases c26 : t124 = true
              · subst c26
                have H1 : ((spec_SameState.f k t119 t105).bind fun t125 => (laws_FnMerges.j0 k l1 t102 t105 t108 (!t125))) = some r := by rw [if_pos rfl] at H; exact H
                clear H
                have H := H1
                clear H1
                replace H := Option.bind_eq_some_iff.mp H
                obtain ⟨t125, A270, H⟩ := H
                replace H : (laws_FnMerges.j0 k l1 t102 t105 t108 (!t125)) = some r := H
                have A27 := Aside0.mk A270
                clear A270
                have H' := Aside0.mk H
                clear H
                obtain ⟨Ao28, co28, eo28⟩ := Kd.R_slice HO113.out
                subst eo28
                go_wp2_with (first | (go_at_call 29; (with_reducible refine (spec_SameState.calls k _ _ t111 _ _ t105 true _ ?side1 ?side2 ?side3 ?side4 A23.out).mono ?_); (case side1 => repeat (first | exact (Kd.R_reads' HO113.out).2.2 | (with_reducible refine Kd.C_alloc ?_ _) | (with_reducible refine Kd.C_drewN ?_ _) | (with_reducible refine Kd.C_drew ?_))); (case side2 => exact (Kd.R_reads' HO113.out).2.1); (case side3 => repeat (first | exact (Kd.R_reads' HO107.out).2.2 | (with_reducible refine Kd.C_alloc ?_ _) | (with_reducible refine Kd.C_drewN ?_ _) | (with_reducible refine Kd.C_drew ?_))); (case side4 => exact (Kd.R_reads' HO107.out).2.1); rintro e w' ⟨rfl, ⟨nd, rfl⟩⟩; obtain ⟨Ao29, co29, eo29⟩ := Kd.R_slice HO117.out; subst eo29) | (go_at_call 29; (with_reducible refine (spec_SameState.calls k _ _ t115 _ _ t105 true _ ?side1 ?side2 ?side3 ?side4 A25.out).mono ?_); (case side1 => repeat (first | exact (Kd.R_reads' HO117.out).2.2 | (with_reducible refine Kd.C_alloc ?_ _) | (with_reducible refine Kd.C_drewN ?_ _) | (with_reducible refine Kd.C_drew ?_))); (case side2 => exact (Kd.R_reads' HO117.out).2.1); (case side3 => repeat (first | exact (Kd.R_reads' HO107.out).2.2 | (with_reducible refine Kd.C_alloc ?_ _) | (with_reducible refine Kd.C_drewN ?_ _) | (with_reducible refine Kd.C_drew ?_))); (case side4 => exact (Kd.R_reads' HO107.out).2.1); rintro e w' ⟨rfl, ⟨nd, rfl⟩⟩; obtain ⟨Ao30, co30, eo30⟩ := Kd.R_slice HO121.out; subst eo30) | (go_at_call 29; (with_reducible refine (spec_SameState.calls k _ _ t119 _ _ t105 t125 _ ?side1 ?side2 ?side3 ?side4 A27.out).mono ?_); (case side1 => repeat (first | exact (Kd.R_reads' HO121.out).2.2 | (with_reducible refine Kd.C_alloc ?_ _) | (with_reducible refine Kd.C_drewN ?_ _) | (with_reducible refine Kd.C_drew ?_))); (case side2 => exact (Kd.R_reads' HO121.out).2.1); (case side3 => repeat (first | exact (Kd.R_reads' HO107.out).2.2 | (with_reducible refine Kd.C_alloc ?_ _) | (with_reducible refine Kd.C_drewN ?_ _) | (with_reducible refine Kd.C_drew ?_))); (case side4 => exact (Kd.R_reads' HO107.out).2.1); rintro e w' ⟨rfl, ⟨nd, rfl⟩⟩))
                go_meet
                case rel => exact ⟨_, (!t125), (by first | rfl | (simp; done) | (simp [*]; done)), H', ⟨by first | omega | exact Nat.le_refl _⟩, ⟨by (with_reducible repeat (first | apply Kd.R_alloc | apply Kd.R_drewN | apply Kd.R_drew)); exact Kd.R_mono HO104.out (fun _ hk => ⟨hk.1.1.1.1.2, hk.1.1.1.2⟩)⟩, ⟨by (with_reducible repeat (first | apply Kd.R_alloc | apply Kd.R_drewN | apply Kd.R_drew)); exact Kd.R_mono HO107.out (fun _ hk => ⟨hk.1.1.1.1.2, hk.1.1.1.2⟩)⟩, ⟨by (with_reducible repeat (first | apply Kd.R_alloc | apply Kd.R_drewN | apply Kd.R_drew)); exact Kd.R_mono HO110.out (fun _ hk => ⟨hk.1.1.1.1.2, hk.1.1.1.2⟩)⟩, ⟨by repeat (first | (with_reducible first | exact HB.out | apply below_alloc | apply pw_below_drewN | apply below_drew1) | exact HB.out)⟩⟩
              · replace c26 := Bool.eq_false_iff.mpr c26
                subst c26
                have H1 : none = some r := by rw [if_neg (show ¬ (false = true) by decide)] at H; exact H
                cases H1
            · replace c24 := Bool.eq_false_iff.mpr c24
              subst c24
              have H1 : none = some r := by rw [if_neg (show ¬ (false = true) by decide)] at H; exact H
              cases H1
          · rw [if_neg c22] at H
            cases H
        · rw [if_neg c21] at H
          cases H
      · rw [if_neg c20] at H
        cases H
    case rest =>
      clear HC11
      try clear c1
      try clear c2
      try clear p2
      try clear c4
      try clear c6
      try clear c20
      try clear c20b0
      try clear c20b1
      try clear c21
      try clear c21b0
      try clear c21b1
      try clear c22
      try clear c22b0
      try clear c22b1
      try clear c24
      try clear c25
      try clear c26
      try clear c27
      try clear c28
      obtain ⟨kq, x91_10, rfl, HA, HJ10, HO_5, HO_6, HO_7, HB⟩ := hcut
      cases kq with
      | zero => exact absurd HA.out (by simp [laws_FnMerges.j0])
      | succ kj10 =>
        have H := HA.out
        clear HA
        simp only [laws_FnMerges.j0] at H
        by_cases c34 : x91_10 = true
        · subst c34
          have H1 : none = some r := by rw [if_pos rfl] at H; exact H
          cases H1
        · replace c34 := Bool.eq_false_iff.mpr c34
          subst c34
          have H1 : ((impl_ConflictsOf.f kj10 t102 t105 t108).bind fun bt126 => ((impl_ConflictsOf.f kj10 t102 t108 t105).bind fun bt130 => ((impl_MergeStates.f kj10 t102 t105 t108).bind fun bt134 => ((impl_MergeStates.f kj10 t102 t108 t105).bind fun bt138 => (if bt126.2 = 0 then (if bt130.2 = 0 then (if (bt126.1.length : Int) = (bt130.1.length : Int) then (if bt134.2 = bt138.2 then (if ((bt134.2 == 6) != (decide ((bt126.1.length : Int) > 0))) = true then none else (if bt134.2 = 0 then ((spec_SameState.f kj10 bt134.1 bt138.1).bind fun t142 => (if t142 = true then ((spec_ValidState.f kj10 bt134.1).bind fun t143 => (laws_FnMerges.j1 kj10 l1 (!t143))) else none)) else (laws_FnMerges.j1 kj10 l1 false))) else none) else none) else none) else none))))) = some r := by rw [if_neg (show ¬ (false = true) by decide)] at H; exact H
          clear H
          have H := H1
          clear H1
          replace H := Option.bind_eq_some_iff.mp H
          obtain ⟨⟨t126, t127⟩, A350, H⟩ := H
          replace H : ((impl_ConflictsOf.f kj10 t102 t108 t105).bind fun bt130 => ((impl_MergeStates.f kj10 t102 t105 t108).bind fun bt134 => ((impl_MergeStates.f kj10 t102 t108 t105).bind fun bt138 => (if t127 = 0 then (if bt130.2 = 0 then (if (t126.length : Int) = (bt130.1.length : Int) then (if bt134.2 = bt138.2 then (if ((bt134.2 == 6) != (decide ((t126.length : Int) > 0))) = true then none else (if bt134.2 = 0 then ((spec_SameState.f kj10 bt134.1 bt138.1).bind fun t142 => (if t142 = true then ((spec_ValidState.f kj10 bt134.1).bind fun t143 => (laws_FnMerges.j1 kj10 l1 (!t143))) else none)) else (laws_FnMerges.j1 kj10 l1 false))) else none) else none) else none) else none)))) = some r := H
          have A35 := Aside0.mk A350
          clear A350
          replace H := Option.bind_eq_some_iff.mp H
          obtain ⟨⟨t130, t131⟩, A360, H⟩ := H
          replace H : ((impl_MergeStates.f kj10 t102 t105 t108).bind fun bt134 => ((impl_MergeStates.f kj10 t102 t108 t105).bind fun bt138 => (if t127 = 0 then (if t131 = 0 then (if (t126.length : Int) = (t130.length : Int) then (if bt134.2 = bt138.2 then (if ((bt134.2 == 6) != (decide ((t126.length : Int) > 0))) = true then none else (if bt134.2 = 0 then ((spec_SameState.f kj10 bt134.1 bt138.1).bind fun t142 => (if t142 = true then ((spec_ValidState.f kj10 bt134.1).bind fun t143 => (laws_FnMerges.j1 kj10 l1 (!t143))) else none)) else (laws_FnMerges.j1 kj10 l1 false))) else none) else none) else none) else none))) = some r := H
          have A36 := Aside0.mk A360
          clear A360
          replace H := Option.bind_eq_some_iff.mp H
          obtain ⟨⟨t134, t137⟩, A370, H⟩ := H
          replace H : ((impl_MergeStates.f kj10 t102 t108 t105).bind fun bt138 => (if t127 = 0 then (if t131 = 0 then (if (t126.length : Int) = (t130.length : Int) then (if t137 = bt138.2 then (if ((t137 == 6) != (decide ((t126.length : Int) > 0))) = true then none else (if t137 = 0 then ((spec_SameState.f kj10 t134 bt138.1).bind fun t142 => (if t142 = true then ((spec_ValidState.f kj10 t134).bind fun t143 => (laws_FnMerges.j1 kj10 l1 (!t143))) else none)) else (laws_FnMerges.j1 kj10 l1 false))) else none) else none) else none) else none)) = some r := H
          have A37 := Aside0.mk A370
          clear A370
          replace H := Option.bind_eq_some_iff.mp H
          obtain ⟨⟨t138, t141⟩, A380, H⟩ := H
          replace H : (if t127 = 0 then (if t131 = 0 then (if (t126.length : Int) = (t130.length : Int) then (if t137 = t141 then (if ((t137 == 6) != (decide ((t126.length : Int) > 0))) = true then none else (if t137 = 0 then ((spec_SameState.f kj10 t134 t138).bind fun t142 => (if t142 = true then ((spec_ValidState.f kj10 t134).bind fun t143 => (laws_FnMerges.j1 kj10 l1 (!t143))) else none)) else (laws_FnMerges.j1 kj10 l1 false))) else none) else none) else none) else none) = some r := H
          have A38 := Aside0.mk A380
          clear A380
          have HC39 := Aside0.mk H
          clear H
          obtain ⟨Ao40, co40, eo40⟩ := Kd.R_slice HO_7.out
          subst eo40
          go_upto_region 15 with (first | ((with_reducible refine gate_callee (f := 20) rfl ?_); refine goesL_ (some 96) rfl rfl Try.func20 (by kernel_rfl) rfl #[.slice Ao13 t102.length co13, .slice Ao16 t105.length co16, .slice Ao40 t108.length co40] rfl (by (try simp only [List.map_toArray, List.map_cons, List.map_nil]); first | done | rfl | (simp only [List.length_drop, List.length_take]; rfl)) ?_; (with_reducible refine (impl_ConflictsOf.calls kj10 _ _ t102 _ _ t105 _ _ t108 t126 t127 _ ?side1 ?side2 ?side3 ?side4 ?side5 ?side6 A35.out).mono ?_); (case side1 => repeat (first | exact (Kd.R_reads' HO_5.out).2.2 | (with_reducible refine Kd.C_alloc ?_ _) | (with_reducible refine Kd.C_drewN ?_ _) | (with_reducible refine Kd.C_drew ?_))); (case side2 => exact (Kd.R_reads' HO_5.out).2.1); (case side3 => repeat (first | exact (Kd.R_reads' HO_6.out).2.2 | (with_reducible refine Kd.C_alloc ?_ _) | (with_reducible refine Kd.C_drewN ?_ _) | (with_reducible refine Kd.C_drew ?_))); (case side4 => exact (Kd.R_reads' HO_6.out).2.1); (case side5 => repeat (first | exact (Kd.R_reads' HO_7.out).2.2 | (with_reducible refine Kd.C_alloc ?_ _) | (with_reducible refine Kd.C_drewN ?_ _) | (with_reducible refine Kd.C_drew ?_))); (case side6 => exact (Kd.R_reads' HO_7.out).2.1); rintro e w41 ⟨v128, rfl, ho0, hb⟩; refine ⟨_, rfl, ?_⟩; have n0_ := Aside0.mk (Kd.R_below (by (with_reducible repeat (first | apply Kd.R_alloc | apply Kd.R_drewN | apply Kd.R_drew)); exact HO_5.out) hb); have n1_ := Aside0.mk (Kd.R_below (by (with_reducible repeat (first | apply Kd.R_alloc | apply Kd.R_drewN | apply Kd.R_drew)); exact HO_6.out) hb); have n2_ := Aside0.mk (Kd.R_below (by (with_reducible repeat (first | apply Kd.R_alloc | apply Kd.R_drewN | apply Kd.R_drew)); exact HO_7.out) hb); have n3_ := Aside0.mk (Kd.R_lower ho0 (below_size (by repeat (first | (with_reducible first | exact HB.out | apply below_alloc | apply pw_below_drewN | apply below_drew1) | exact HB.out)))); have n4_ := Aside0.mk (below_step (by repeat (first | (with_reducible first | exact HB.out | apply below_alloc | apply pw_below_drewN | apply below_drew1) | exact HB.out)) hb); clear HO_5; clear HO_6; clear HO_7; clear HB; have HO_5 := n0_; have HO_6 := n1_; have HO_7 := n2_; have HO129 := n3_; have HB := n4_; clear n0_ n1_ n2_ n3_ n4_; (try clear hb); (try clear hb2); (try clear hk); (try clear hi); (try clear ho0)) | ((with_reducible refine gate_callee (f := 20) rfl ?_); refine goesL_ (some 103) rfl rfl Try.func20 (by kernel_rfl) rfl #[.slice Ao13 t102.length co13, .slice Ao40 t108.length co40, .slice Ao16 t105.length co16] rfl (by (try simp only [List.map_toArray, List.map_cons, List.map_nil]); first | done | rfl | (simp only [List.length_drop, List.length_take]; rfl)) ?_; (with_reducible refine (impl_ConflictsOf.calls kj10 _ _ t102 _ _ t108 _ _ t105 t130 t131 _ ?side1 ?side2 ?side3 ?side4 ?side5 ?side6 A36.out).mono ?_); (case side1 => repeat (first | exact (Kd.R_reads' HO_5.out).2.2 | (with_reducible refine Kd.C_alloc ?_ _) | (with_reducible refine Kd.C_drewN ?_ _) | (with_reducible refine Kd.C_drew ?_))); (case side2 => exact (Kd.R_reads' HO_5.out).2.1); (case side3 => repeat (first | exact (Kd.R_reads' HO_7.out).2.2 | (with_reducible refine Kd.C_alloc ?_ _) | (with_reducible refine Kd.C_drewN ?_ _) | (with_reducible refine Kd.C_drew ?_))); (case side4 => exact (Kd.R_reads' HO_7.out).2.1); (case side5 => repeat (first | exact (Kd.R_reads' HO_6.out).2.2 | (with_reducible refine Kd.C_alloc ?_ _) | (with_reducible refine Kd.C_drewN ?_ _) | (with_reducible refine Kd.C_drew ?_))); (case side6 => exact (Kd.R_reads' HO_6.out).2.1); rintro e w42 ⟨v132, rfl, ho0, hb⟩; refine ⟨_, rfl, ?_⟩; have n0_ := Aside0.mk (Kd.R_below (by (with_reducible repeat (first | apply Kd.R_alloc | apply Kd.R_drewN | apply Kd.R_drew)); exact HO_5.out) hb); have n1_ := Aside0.mk (Kd.R_below (by (with_reducible repeat (first | apply Kd.R_alloc | apply Kd.R_drewN | apply Kd.R_drew)); exact HO_6.out) hb); have n2_ := Aside0.mk (Kd.R_below (by (with_reducible repeat (first | apply Kd.R_alloc | apply Kd.R_drewN | apply Kd.R_drew)); exact HO_7.out) hb); have n3_ := Aside0.mk (Kd.R_elder' (by (with_reducible repeat (first | apply Kd.R_alloc | apply Kd.R_drewN | apply Kd.R_drew)); exact HO129.out) (Kd.R_base ho0) hb); have n4_ := Aside0.mk (Kd.R_lower (Kd.R_new' ho0 (Kd.R_lt (by (with_reducible repeat (first | apply Kd.R_alloc | apply Kd.R_drewN | apply Kd.R_drew)); exact HO129.out))) (below_size (by repeat (first | (with_reducible first | exact HB.out | apply below_alloc | apply pw_below_drewN | apply below_drew1) | exact HB.out)))); have n5_ := Aside0.mk (below_step (by repeat (first | (with_reducible first | exact HB.out | apply below_alloc | apply pw_below_drewN | apply below_drew1) | exact HB.out)) hb); clear HO_5; clear HO_6; clear HO_7; clear HO129; clear HB; have HO_5 := n0_; have HO_6 := n1_; have HO_7 := n2_; have HO129 := n3_; have HO133 := n4_; have HB := n5_; clear n0_ n1_ n2_ n3_ n4_ n5_; (try clear hb); (try clear hb2); (try clear hk); (try clear hi); (try clear ho0)) | ((with_reducible refine gate_callee (f := 25) rfl ?_); refine goesL_ (some 110) rfl rfl Try.func25 (by kernel_rfl) rfl #[.slice Ao13 t102.length co13, .slice Ao16 t105.length co16, .slice Ao40 t108.length co40] rfl (by (try simp only [List.map_toArray, List.map_cons, List.map_nil]); first | done | rfl | (simp only [List.length_drop, List.length_take]; rfl)) ?_; (with_reducible refine (impl_MergeStates.calls kj10 (fun k_ => some k_ = (.slice Ao13 t102.length co13 : Value).ownBlock) _ _ t102 (fun k_ => some k_ = (.slice Ao16 t105.length co16 : Value).ownBlock) _ _ t105 (fun k_ => some k_ = (.slice Ao40 t108.length co40 : Value).ownBlock) _ _ t108 t134 t137 _ ?side1 ?side2 ?side3 A37.out).mono ?_); (case side1 => exact Kd.R_V (Kd.R_tight rfl (Kd.R_apart' (Kd.R_apart' (HO_5.out) (Kd.R_typed HO129.out) (by decide)) (Kd.R_typed HO133.out) (by decide)))); (case side2 => exact Kd.R_V (Kd.R_tight rfl (Kd.R_apart' (Kd.R_apart' (HO_6.out) (Kd.R_typed HO129.out) (by decide)) (Kd.R_typed HO133.out) (by decide)))); (case side3 => exact Kd.R_V (Kd.R_tight rfl (Kd.R_apart' (Kd.R_apart' (HO_7.out) (Kd.R_typed HO129.out) (by decide)) (Kd.R_typed HO133.out) (by decide)))); rintro e w43 ⟨v135, rfl, ho0, hb⟩; refine ⟨_, rfl, ?_⟩; have n0_ := Aside0.mk (Kd.R_elder' (by (with_reducible repeat (first | apply Kd.R_alloc | apply Kd.R_drewN | apply Kd.R_drew)); exact HO_5.out) (Kd.R_base ho0) hb); have n1_ := Aside0.mk (Kd.R_elder' (by (with_reducible repeat (first | apply Kd.R_alloc | apply Kd.R_drewN | apply Kd.R_drew)); exact HO_6.out) (Kd.R_base ho0) hb); have n2_ := Aside0.mk (Kd.R_elder' (by (with_reducible repeat (first | apply Kd.R_alloc | apply Kd.R_drewN | apply Kd.R_drew)); exact HO_7.out) (Kd.R_base ho0) hb); have n3_ := Aside0.mk (Kd.R_below (by (with_reducible repeat (first | apply Kd.R_alloc | apply Kd.R_drewN | apply Kd.R_drew)); exact HO129.out) hb); have n4_ := Aside0.mk (Kd.R_below (by (with_reducible repeat (first | apply Kd.R_alloc | apply Kd.R_drewN | apply Kd.R_drew)); exact HO133.out) hb); have n5_ := Aside0.mk (Kd.R_lower (Kd.R_new' (Kd.R_new' (Kd.R_new' (Kd.R_mono (ok' := fun k_ => True) ho0 (fun _ hk_ => trivial)) (Kd.R_lt (by (with_reducible repeat (first | apply Kd.R_alloc | apply Kd.R_drewN | apply Kd.R_drew)); exact HO_5.out))) (Kd.R_lt (by (with_reducible repeat (first | apply Kd.R_alloc | apply Kd.R_drewN | apply Kd.R_drew)); exact HO_6.out))) (Kd.R_lt (by (with_reducible repeat (first | apply Kd.R_alloc | apply Kd.R_drewN | apply Kd.R_drew)); exact HO_7.out))) (below_size (by repeat (first | (with_reducible first | exact HB.out | apply below_alloc | apply pw_below_drewN | apply below_drew1) | exact HB.out)))); have n6_ := Aside0.mk (below_step (by repeat (first | (with_reducible first | exact HB.out | apply below_alloc | apply pw_below_drewN | apply below_drew1) | exact HB.out)) hb); clear HO_5; clear HO_6; clear HO_7; clear HO129; clear HO133; clear HB; have HO_5 := n0_; have HO_6 := n1_; have HO_7 := n2_; have HO129 := n3_; have HO133 := n4_; have HO136 := n5_; have HB := n6_; clear n0_ n1_ n2_ n3_ n4_ n5_ n6_; (try clear hb); (try clear hb2); (try clear hk); (try clear hi); (try clear ho0)) | ((with_reducible refine gate_callee (f := 25) rfl ?_); refine goesL_ (some 117) rfl rfl Try.func25 (by kernel_rfl) rfl #[.slice Ao13 t102.length co13, .slice Ao40 t108.length co40, .slice Ao16 t105.length co16] rfl (by (try simp only [List.map_toArray, List.map_cons, List.map_nil]); first | done | rfl | (simp only [List.length_drop, List.length_take]; rfl)) ?_; (with_reducible refine (impl_MergeStates.calls kj10 (fun k_ => some k_ = (.slice Ao13 t102.length co13 : Value).ownBlock) _ _ t102 (fun k_ => some k_ = (.slice Ao40 t108.length co40 : Value).ownBlock) _ _ t108 (fun k_ => some k_ = (.slice Ao16 t105.length co16 : Value).ownBlock) _ _ t105 t138 t141 _ ?side1 ?side2 ?side3 A38.out).mono ?_); (case side1 => exact Kd.R_V (Kd.R_tight rfl (Kd.R_apart' (Kd.R_apart' (HO_5.out) (Kd.R_typed HO129.out) (by decide)) (Kd.R_typed HO133.out) (by decide)))); (case side2 => exact Kd.R_V (Kd.R_tight rfl (Kd.R_apart' (Kd.R_apart' (HO_7.out) (Kd.R_typed HO129.out) (by decide)) (Kd.R_typed HO133.out) (by decide)))); (case side3 => exact Kd.R_V (Kd.R_tight rfl (Kd.R_apart' (Kd.R_apart' (HO_6.out) (Kd.R_typed HO129.out) (by decide)) (Kd.R_typed HO133.out) (by decide)))); rintro e w44 ⟨v139, rfl, ho0, hb⟩; refine ⟨_, rfl, ?_⟩; have n0_ := Aside0.mk (Kd.R_elder' (by (with_reducible repeat (first | apply Kd.R_alloc | apply Kd.R_drewN | apply Kd.R_drew)); exact HO_5.out) (Kd.R_base ho0) hb); have n1_ := Aside0.mk (Kd.R_elder' (by (with_reducible repeat (first | apply Kd.R_alloc | apply Kd.R_drewN | apply Kd.R_drew)); exact HO_6.out) (Kd.R_base ho0) hb); have n2_ := Aside0.mk (Kd.R_elder' (by (with_reducible repeat (first | apply Kd.R_alloc | apply Kd.R_drewN | apply Kd.R_drew)); exact HO_7.out) (Kd.R_base ho0) hb); have n3_ := Aside0.mk (Kd.R_below (by (with_reducible repeat (first | apply Kd.R_alloc | apply Kd.R_drewN | apply Kd.R_drew)); exact HO129.out) hb); have n4_ := Aside0.mk (Kd.R_below (by (with_reducible repeat (first | apply Kd.R_alloc | apply Kd.R_drewN | apply Kd.R_drew)); exact HO133.out) hb); have n5_ := Aside0.mk (Kd.R_elder' (by (with_reducible repeat (first | apply Kd.R_alloc | apply Kd.R_drewN | apply Kd.R_drew)); exact HO136.out) (Kd.R_base ho0) hb); have n6_ := Aside0.mk (Kd.R_lower (Kd.R_new' (Kd.R_new' (Kd.R_new' (Kd.R_new' (Kd.R_mono (ok' := fun k_ => True) ho0 (fun _ hk_ => trivial)) (Kd.R_lt (by (with_reducible repeat (first | apply Kd.R_alloc | apply Kd.R_drewN | apply Kd.R_drew)); exact HO_5.out))) (Kd.R_lt (by (with_reducible repeat (first | apply Kd.R_alloc | apply Kd.R_drewN | apply Kd.R_drew)); exact HO_6.out))) (Kd.R_lt (by (with_reducible repeat (first | apply Kd.R_alloc | apply Kd.R_drewN | apply Kd.R_drew)); exact HO_7.out))) (Kd.R_lt (by (with_reducible repeat (first | apply Kd.R_alloc | apply Kd.R_drewN | apply Kd.R_drew)); exact HO136.out))) (below_size (by repeat (first | (with_reducible first | exact HB.out | apply below_alloc | apply pw_below_drewN | apply below_drew1) | exact HB.out)))); have n7_ := Aside0.mk (below_step (by repeat (first | (with_reducible first | exact HB.out | apply below_alloc | apply pw_below_drewN | apply below_drew1) | exact HB.out)) hb); clear HO_5; clear HO_6; clear HO_7; clear HO129; clear HO133; clear HO136; clear HB; have HO_5 := n0_; have HO_6 := n1_; have HO_7 := n2_; have HO129 := n3_; have HO133 := n4_; have HO136 := n5_; have HO140 := n6_; have HB := n7_; clear n0_ n1_ n2_ n3_ n4_ n5_ n6_ n7_; (try clear hb); (try clear hb2); (try clear hk); (try clear hi); (try clear ho0)))
          (try simp only [Act.put, List.setIfInBounds_toArray, List.set_cons_zero, List.set_cons_succ])
          go_cut [160] (fun v160 wc => ∃ (kq : Nat) (x160_38 : Bool), v160 = .bool x160_38 ∧ Aside0 (laws_FnMerges.j1 kq l1 x160_38 = some r) ∧ Aside0 (kq ≤ kj10) ∧ Aside0 (Below w.heap.size w wc))
          case first =>
            have H := HC39.out
            clear HC39
            by_cases c45 : t127 = 0
            · rw [if_pos c45] at H
              have c45b0 : (t127 == 0) = true := beq_iff_eq.mpr c45
              have c45b1 : (t127 != 0) = false := bne_eq_false_iff_eq.mpr c45
              clear c45
              (first | rw [c45b0] | (simp only [i64_w, i32_w]; rw [c45b0]) | skip)
              by_cases c46 : t131 = 0
              · rw [if_pos c46] at H
                have c46b0 : (t131 == 0) = true := beq_iff_eq.mpr c46
                have c46b1 : (t131 != 0) = false := bne_eq_false_iff_eq.mpr c46
                clear c46
                by_cases c47 : (t126.length : Int) = (t130.length : Int)
                · rw [if_pos c47] at H
                  have c47b0 : ((t126.length : Int) == (t130.length : Int)) = true := beq_iff_eq.mpr c47
                  have c47b1 : ((t126.length : Int) != (t130.length : Int)) = false := bne_eq_false_iff_eq.mpr c47
                  have c47b2 : (t126.length == t130.length) = true := by first | simpa using c47 | (simp at c47 ⊢; omega)
                  clear c47
                  by_cases c48 : t137 = t141
                  · rw [if_pos c48] at H
                    have c48b0 : (t137 == t141) = true := beq_iff_eq.mpr c48
                    have c48b1 : (t137 != t141) = false := bne_eq_false_iff_eq.mpr c48
                    clear c48
                    by_cases c49 : ((t137 == 6) != (decide ((t126.length : Int) > 0))) = true
                    · rw [if_pos c49] at H
                      cases H
                    · rw [if_neg c49] at H
                      have c49b0 : ((t137 == 6) != (decide ((t126.length : Int) > 0))) = false := by simpa using c49
                      have k0_ : ((t137 == 6) = decide (0 < t126.length)) := by have q_ := c49b0; rw [show decide ((t126.length : Int) > 0) = decide (0 < t126.length) from decide_eq_decide.2 (by omega)] at q_; simpa using q_
                      have k1_ : decide ((t137 == 6) = decide (0 < t126.length)) = true := decide_eq_true k0_
                      (try (have c49b1 : decide ((t137 == 6) = (decide ((t126.length : Int) > 0))) = true := by simpa using c49))
                      (try (have c49b2 : ((t137 == 6) == (decide ((t126.length : Int) > 0))) = true := by simpa using c49))
                      clear c49
                      by_cases c52 : t137 = 0
                      · rw [if_pos c52] at H
                        have c52b0 : (t137 == 0) = true := beq_iff_eq.mpr c52
                        have c52b1 : (t137 != 0) = false := bne_eq_false_iff_eq.mpr c52
                        clear c52
                        replace H := Option.bind_eq_some_iff.mp H
                        obtain ⟨t142, A530, H⟩ := H
                        replace H : (if t142 = true then ((spec_ValidState.f kj10 t134).bind fun t143 => (laws_FnMerges.j1 kj10 l1 (!t143))) else none) = some r := H
                        have A53 := Aside0.mk A530
                        clear A530
                        by_cases c54 : t142 = true
                        · subst c54
                          have H1 : ((spec_ValidState.f kj10 t134).bind fun t143 => (laws_FnMerges.j1 kj10 l1 (!t143))) = some r := by rw [if_pos rfl] at H; exact H
                          clear H
                          have H := H1
                          clear H1
                          replace H := Option.bind_eq_some_iff.mp H
                          obtain ⟨t143, A550, H⟩ := H
                          replace H : (laws_FnMerges.j1 kj10 l1 (!t143)) = some r := H
                          have A55 := Aside0.mk A550
                          clear A550
                          have H' := Aside0.mk H
                          clear H
                          obtain ⟨Ao56, co56, eo56⟩ := Kd.R_slice HO129.out
                          subst eo56
                          obtain ⟨Ao57, co57, eo57⟩ := Kd.R_slice HO133.out
                          subst eo57
                          obtain ⟨Ao58, co58, eo58⟩ := Kd.R_slice HO136.out
                          subst eo58
                          obtain ⟨Ao59, co59, eo59⟩ := Kd.R_slice HO140.out
                          subst eo59
                          go_wp2_with (first | (go_at_call 29; (with_reducible refine (spec_SameState.calls kj10 _ _ t134 _ _ t138 true _ ?side1 ?side2 ?side3 ?side4 A53.out).mono ?_); (case side1 => repeat (first | exact (Kd.R_reads' HO136.out).2.2 | (with_reducible refine Kd.C_alloc ?_ _) | (with_reducible refine Kd.C_drewN ?_ _) | (with_reducible refine Kd.C_drew ?_))); (case side2 => exact (Kd.R_reads' HO136.out).2.1); (case side3 => repeat (first | exact (Kd.R_reads' HO140.out).2.2 | (with_reducible refine Kd.C_alloc ?_ _) | (with_reducible refine Kd.C_drewN ?_ _) | (with_reducible refine Kd.C_drew ?_))); (case side4 => exact (Kd.R_reads' HO140.out).2.1); rintro e w' ⟨rfl, ⟨nd, rfl⟩⟩) | (go_at_call 30; (with_reducible refine (spec_ValidState.calls kj10 _ _ t134 t143 _ ?side1 ?side2 A55.out).mono ?_); (case side1 => repeat (first | exact (Kd.R_reads' HO136.out).2.2 | (with_reducible refine Kd.C_alloc ?_ _) | (with_reducible refine Kd.C_drewN ?_ _) | (with_reducible refine Kd.C_drew ?_))); (case side2 => exact (Kd.R_reads' HO136.out).2.1); rintro e w' ⟨rfl, ⟨nd, rfl⟩⟩))
                          go_meet
                          case rel => exact ⟨_, (!t143), (by first | rfl | (simp; done) | (simp [*]; done)), H', ⟨by have := HJ10.out; first | omega | exact Nat.le_refl _⟩, ⟨by repeat (first | (with_reducible first | exact HB.out | apply below_alloc | apply pw_below_drewN | apply below_drew1) | exact HB.out)⟩⟩
                        · replace c54 := Bool.eq_false_iff.mpr c54
                          subst c54
                          have H1 : none = some r := by rw [if_neg (show ¬ (false = true) by decide)] at H; exact H
                          cases H1
                      · rw [if_neg c52] at H
                        have c52b0 : (t137 == 0) = false := beq_eq_false_iff_ne.mpr c52
                        have c52b1 : (t137 != 0) = true := bne_iff_ne.mpr c52
                        have H' := Aside0.mk H
                        clear H
                        obtain ⟨Ao64, co64, eo64⟩ := Kd.R_slice HO129.out
                        subst eo64
                        obtain ⟨Ao65, co65, eo65⟩ := Kd.R_slice HO133.out
                        subst eo65
                        go_wp2
                        go_meet
                        case rel => exact ⟨_, (false), (by first | rfl | (simp; done) | (simp [*]; done)), H', ⟨by have := HJ10.out; first | omega | exact Nat.le_refl _⟩, ⟨by repeat (first | (with_reducible first | exact HB.out | apply below_alloc | apply pw_below_drewN | apply below_drew1) | exact HB.out)⟩⟩
                  · rw [if_neg c48] at H
                    cases H
                · rw [if_neg c47] at H
                  cases H
              · rw [if_neg c46] at H
                cases H
            · rw [if_neg c45] at H
              cases H
          case rest =>
            clear HC39
            try clear c1
            try clear c2
            try clear p2
            try clear c3
            try clear c4
            try clear c5
            try clear c6
            try clear c20
            try clear c20b0
            try clear c20b1
            try clear c21
            try clear c21b0
            try clear c21b1
            try clear c22
            try clear c22b0
            try clear c22b1
            try clear c24
            try clear c25
            try clear c26
            try clear c27
            try clear c28
            try clear c34
            try clear c45
            try clear c45b0
            try clear c45b1
            try clear c46
            try clear c46b0
            try clear c46b1
            try clear c47
            try clear c47b0
            try clear c47b1
            try clear c47b2
            try clear c48
            try clear c48b0
            try clear c48b1
            try clear c49
            try clear c49b0
            try clear c49b1
            try clear c49b2
            try clear c52
            try clear c52b0
            try clear c52b1
            try clear c54
            try clear p2
            obtain ⟨kq, x160_38, rfl, HA, HJ38, HB⟩ := hcut
            cases kq with
            | zero => exact absurd HA.out (by simp [laws_FnMerges.j1])
            | succ kj38 =>
              have H := HA.out
              clear HA
              simp only [laws_FnMerges.j1] at H
              by_cases c70 : x160_38 = true
              · subst c70
                have H1 : none = some r := by rw [if_pos rfl] at H; exact H
                cases H1
              · replace c70 := Bool.eq_false_iff.mpr c70
                subst c70
                have H1 : ((spec_R8History.f kj38 l1).bind fun t144 => (if (t144.length : Int) = 0 then (some true) else ((laws_r8At.f l1 0 (t144.length : Int)).bind fun t147 => ((laws_r8At.f l1 1 (t144.length : Int)).bind fun t148 => ((impl_CommonAncestor.f kj38 t144 (wrap64 (1 + t147)) (wrap64 (1 + t148))).bind fun bt149 => ((impl_CommonAncestor.f kj38 t144 (wrap64 (1 + t148)) (wrap64 (1 + t147))).bind fun bt151 => ((impl_MergeVersions.f kj38 t144 (wrap64 (1 + t147)) (wrap64 (1 + t148)) (⟨#[98, 111, 116, 104]⟩ : ByteArray)).bind fun bt153 => (if bt149.2 = 0 then (if bt151.2 = 0 then (if bt149.1 = bt151.1 then (if bt149.1 < 0 then none else (if bt149.1 > (mn (wrap64 (1 + t147)) (wrap64 (1 + t148))) then none else (if bt153.2 = 0 then (if (bt153.1.length : Int) = (wrap64 ((t144.length : Int) + 1)) then ((spec_ValidHistory.f kj38 bt153.1).bind fun t157 => (some t157)) else none) else (some true)))) else none) else none) else none)))))))) = some r := by rw [if_neg (show ¬ (false = true) by decide)] at H; exact H
                clear H
                have H := H1
                clear H1
                replace H := Option.bind_eq_some_iff.mp H
                obtain ⟨t144, A710, H⟩ := H
                replace H : (if (t144.length : Int) = 0 then (some true) else ((laws_r8At.f l1 0 (t144.length : Int)).bind fun t147 => ((laws_r8At.f l1 1 (t144.length : Int)).bind fun t148 => ((impl_CommonAncestor.f kj38 t144 (wrap64 (1 + t147)) (wrap64 (1 + t148))).bind fun bt149 => ((impl_CommonAncestor.f kj38 t144 (wrap64 (1 + t148)) (wrap64 (1 + t147))).bind fun bt151 => ((impl_MergeVersions.f kj38 t144 (wrap64 (1 + t147)) (wrap64 (1 + t148)) (⟨#[98, 111, 116, 104]⟩ : ByteArray)).bind fun bt153 => (if bt149.2 = 0 then (if bt151.2 = 0 then (if bt149.1 = bt151.1 then (if bt149.1 < 0 then none else (if bt149.1 > (mn (wrap64 (1 + t147)) (wrap64 (1 + t148))) then none else (if bt153.2 = 0 then (if (bt153.1.length : Int) = (wrap64 ((t144.length : Int) + 1)) then ((spec_ValidHistory.f kj38 bt153.1).bind fun t157 => (some t157)) else none) else (some true)))) else none) else none) else none))))))) = some r := H
                have A71 := Aside0.mk A710
                clear A710
                by_cases c72 : (t144.length : Int) = 0
                · rw [if_pos c72] at H
                  have c72b0 : ((t144.length : Int) == 0) = true := beq_iff_eq.mpr c72
                  have c72b1 : ((t144.length : Int) != 0) = false := bne_eq_false_iff_eq.mpr c72
                  clear c72
                  obtain rfl := Option.some.inj H
                  go_wp2_with (first | ((with_reducible refine gate_callee (f := 31) rfl ?_); refine goesL_ (some 162) rfl rfl Try.func31 (by kernel_rfl) rfl #[.slice A1 l1.length c1] rfl (by (try simp only [List.map_toArray, List.map_cons, List.map_nil]); first | done | rfl | (simp only [List.length_drop, List.length_take]; rfl)) ?_; (with_reducible refine (spec_R8History.calls kj38 _ _ l1 t144 _ ?side1 ?side2 A71.out).mono ?_); (case side1 => repeat (first | exact (Kd.C_below HR1.out HB.out) | (with_reducible refine Kd.C_alloc ?_ _) | (with_reducible refine Kd.C_drewN ?_ _) | (with_reducible refine Kd.C_drew ?_))); (case side2 => exact HC1.out); rintro e w73 ⟨v145, rfl, ho0, hb⟩; refine ⟨_, rfl, ?_⟩; have n0_ := Aside0.mk (Kd.S_lower ho0 (below_size (by repeat (first | (with_reducible first | exact HB.out | apply below_alloc | apply pw_below_drewN | apply below_drew1) | exact HB.out)))); have n1_ := Aside0.mk (below_step (by repeat (first | (with_reducible first | exact HB.out | apply below_alloc | apply pw_below_drewN | apply below_drew1) | exact HB.out)) hb); clear HB; have HO146 := n0_; have HB := n1_; clear n0_ n1_; (try clear hb); (try clear hb2); (try clear hk); (try clear hi); (try clear ho0); obtain ⟨Ao74, co74, eo74⟩ := Kd.S_slice HO146.out; subst eo74))
                  go_ret
                  exact ⟨by first | rfl | (simp [errW_none, errW_some] <;> rfl) | (simp [*, errW_none, errW_some] <;> rfl), by repeat (first | (with_reducible first | exact HB.out | apply below_alloc | apply pw_below_drewN | apply below_drew1) | exact HB.out)⟩
                · rw [if_neg c72] at H
                  have c72b0 : ((t144.length : Int) == 0) = false := beq_eq_false_iff_ne.mpr c72
                  have c72b1 : ((t144.length : Int) != 0) = true := bne_iff_ne.mpr c72
                  have c72b2 : ¬ (t144 = []) := fun h_ => c72 (by rw [h_]; rfl)
                  replace H := Option.bind_eq_some_iff.mp H
                  obtain ⟨t147, A750, H⟩ := H
                  replace H : ((laws_r8At.f l1 1 (t144.length : Int)).bind fun t148 => ((impl_CommonAncestor.f kj38 t144 (wrap64 (1 + t147)) (wrap64 (1 + t148))).bind fun bt149 => ((impl_CommonAncestor.f kj38 t144 (wrap64 (1 + t148)) (wrap64 (1 + t147))).bind fun bt151 => ((impl_MergeVersions.f kj38 t144 (wrap64 (1 + t147)) (wrap64 (1 + t148)) (⟨#[98, 111, 116, 104]⟩ : ByteArray)).bind fun bt153 => (if bt149.2 = 0 then (if bt151.2 = 0 then (if bt149.1 = bt151.1 then (if bt149.1 < 0 then none else (if bt149.1 > (mn (wrap64 (1 + t147)) (wrap64 (1 + t148))) then none else (if bt153.2 = 0 then (if (bt153.1.length : Int) = (wrap64 ((t144.length : Int) + 1)) then ((spec_ValidHistory.f kj38 bt153.1).bind fun t157 => (some t157)) else none) else (some true)))) else none) else none) else none))))) = some r := H
                  have A75 := Aside0.mk A750
                  clear A750
                  replace H := Option.bind_eq_some_iff.mp H
                  obtain ⟨t148, A760, H⟩ := H
                  replace H : ((impl_CommonAncestor.f kj38 t144 (wrap64 (1 + t147)) (wrap64 (1 + t148))).bind fun bt149 => ((impl_CommonAncestor.f kj38 t144 (wrap64 (1 + t148)) (wrap64 (1 + t147))).bind fun bt151 => ((impl_MergeVersions.f kj38 t144 (wrap64 (1 + t147)) (wrap64 (1 + t148)) (⟨#[98, 111, 116, 104]⟩ : ByteArray)).bind fun bt153 => (if bt149.2 = 0 then (if bt151.2 = 0 then (if bt149.1 = bt151.1 then (if bt149.1 < 0 then none else (if bt149.1 > (mn (wrap64 (1 + t147)) (wrap64 (1 + t148))) then none else (if bt153.2 = 0 then (if (bt153.1.length : Int) = (wrap64 ((t144.length : Int) + 1)) then ((spec_ValidHistory.f kj38 bt153.1).bind fun t157 => (some t157)) else none) else (some true)))) else none) else none) else none)))) = some r := H
                  have A76 := Aside0.mk A760
                  clear A760
                  replace H := Option.bind_eq_some_iff.mp H
                  obtain ⟨⟨t149, t150⟩, A770, H⟩ := H
                  replace H : ((impl_CommonAncestor.f kj38 t144 (wrap64 (1 + t148)) (wrap64 (1 + t147))).bind fun bt151 => ((impl_MergeVersions.f kj38 t144 (wrap64 (1 + t147)) (wrap64 (1 + t148)) (⟨#[98, 111, 116, 104]⟩ : ByteArray)).bind fun bt153 => (if t150 = 0 then (if bt151.2 = 0 then (if t149 = bt151.1 then (if t149 < 0 then none else (if t149 > (mn (wrap64 (1 + t147)) (wrap64 (1 + t148))) then none else (if bt153.2 = 0 then (if (bt153.1.length : Int) = (wrap64 ((t144.length : Int) + 1)) then ((spec_ValidHistory.f kj38 bt153.1).bind fun t157 => (some t157)) else none) else (some true)))) else none) else none) else none))) = some r := H
                  have A77 := Aside0.mk A770
                  clear A770
                  replace H := Option.bind_eq_some_iff.mp H
                  obtain ⟨⟨t151, t152⟩, A780, H⟩ := H
                  replace H : ((impl_MergeVersions.f kj38 t144 (wrap64 (1 + t147)) (wrap64 (1 + t148)) (⟨#[98, 111, 116, 104]⟩ : ByteArray)).bind fun bt153 => (if t150 = 0 then (if t152 = 0 then (if t149 = t151 then (if t149 < 0 then none else (if t149 > (mn (wrap64 (1 + t147)) (wrap64 (1 + t148))) then none else (if bt153.2 = 0 then (if (bt153.1.length : Int) = (wrap64 ((t144.length : Int) + 1)) then ((spec_ValidHistory.f kj38 bt153.1).bind fun t157 => (some t157)) else none) else (some true)))) else none) else none) else none)) = some r := H
                  have A78 := Aside0.mk A780
                  clear A780
                  replace H := Option.bind_eq_some_iff.mp H
                  obtain ⟨⟨t153, t154⟩, A790, H⟩ := H
                  replace H : (if t150 = 0 then (if t152 = 0 then (if t149 = t151 then (if t149 < 0 then none else (if t149 > (mn (wrap64 (1 + t147)) (wrap64 (1 + t148))) then none else (if t154 = 0 then (if (t153.length : Int) = (wrap64 ((t144.length : Int) + 1)) then ((spec_ValidHistory.f kj38 t153).bind fun t157 => (some t157)) else none) else (some true)))) else none) else none) else none) = some r := H
                  have A79 := Aside0.mk A790
                  clear A790
                  by_cases c80 : t150 = 0
                  · rw [if_pos c80] at H
                    have c80b0 : (t150 == 0) = true := beq_iff_eq.mpr c80
                    have c80b1 : (t150 != 0) = false := bne_eq_false_iff_eq.mpr c80
                    clear c80
                    by_cases c81 : t152 = 0
                    · rw [if_pos c81] at H
                      have c81b0 : (t152 == 0) = true := beq_iff_eq.mpr c81
                      have c81b1 : (t152 != 0) = false := bne_eq_false_iff_eq.mpr c81
                      clear c81
                      by_cases c82 : t149 = t151
                      · rw [if_pos c82] at H
                        have c82b0 : (t149 == t151) = true := beq_iff_eq.mpr c82
                        have c82b1 : (t149 != t151) = false := bne_eq_false_iff_eq.mpr c82
                        clear c82
                        by_cases c83 : t149 < 0
                        · rw [if_pos c83] at H
                          cases H
                        · rw [if_neg c83] at H
                          have c83b0 : decide (t149 < 0) = false := decide_eq_false c83
                          clear c83
                          obtain ⟨ji89, hji89⟩ : ∃ j_ : Int, (mn (wrap64 (1 + t147)) (wrap64 (1 + t148))) = j_ := ⟨_, rfl⟩
                          replace H : (if t149 > (ji89) then none else (if t154 = 0 then (if (t153.length : Int) = (wrap64 ((t144.length : Int) + 1)) then ((spec_ValidHistory.f kj38 t153).bind fun t157 => (some t157)) else none) else (some true))) = some r := by first | (rw [hji89] at H; exact H) | (simp only [hji89] at H ⊢; exact H)
                          (try rw [hji89] at A71)
                          (try rw [hji89] at A75)
                          (try rw [hji89] at A76)
                          (try rw [hji89] at A77)
                          (try rw [hji89] at A78)
                          (try rw [hji89] at A79)
                          have hji89_ : (if (wrap64 (1 + t148)) < (wrap64 (1 + t147)) then (wrap64 (1 + t148)) else (wrap64 (1 + t147))) = ji89 := hji89
                          by_cases c90 : t149 > (ji89)
                          · rw [if_pos c90] at H
                            cases H
                          · rw [if_neg c90] at H
                            have c90b0 : decide ((ji89) < t149) = false := decide_eq_false c90
                            clear c90
                            by_cases c96 : t154 = 0
                            · rw [if_pos c96] at H
                              have c96b0 : (t154 == 0) = true := beq_iff_eq.mpr c96
                              have c96b1 : (t154 != 0) = false := bne_eq_false_iff_eq.mpr c96
                              clear c96
                              by_cases c97 : (t153.length : Int) = (wrap64 ((t144.length : Int) + 1))
                              · rw [if_pos c97] at H
                                have c97b0 : ((t153.length : Int) == (wrap64 ((t144.length : Int) + 1))) = true := beq_iff_eq.mpr c97
                                have c97b1 : ((t153.length : Int) != (wrap64 ((t144.length : Int) + 1))) = false := bne_eq_false_iff_eq.mpr c97
                                clear c97
                                replace H := Option.bind_eq_some_iff.mp H
                                obtain ⟨t157, A980, H⟩ := H
                                replace H : (some t157) = some r := H
                                have A98 := Aside0.mk A980
                                clear A980
                                obtain rfl := Option.some.inj H
                                go_wp2_with (first | ((with_reducible refine gate_callee (f := 31) rfl ?_); refine goesL_ (some 162) rfl rfl Try.func31 (by kernel_rfl) rfl #[.slice A1 l1.length c1] rfl (by (try simp only [List.map_toArray, List.map_cons, List.map_nil]); first | done | rfl | (simp only [List.length_drop, List.length_take]; rfl)) ?_; (with_reducible refine (spec_R8History.calls kj38 _ _ l1 t144 _ ?side1 ?side2 A71.out).mono ?_); (case side1 => repeat (first | exact (Kd.C_below HR1.out HB.out) | (with_reducible refine Kd.C_alloc ?_ _) | (with_reducible refine Kd.C_drewN ?_ _) | (with_reducible refine Kd.C_drew ?_))); (case side2 => exact HC1.out); rintro e w99 ⟨v145, rfl, ho0, hb⟩; refine ⟨_, rfl, ?_⟩; have n0_ := Aside0.mk (Kd.S_lower ho0 (below_size (by repeat (first | (with_reducible first | exact HB.out | apply below_alloc | apply pw_below_drewN | apply below_drew1) | exact HB.out)))); have n1_ := Aside0.mk (below_step (by repeat (first | (with_reducible first | exact HB.out | apply below_alloc | apply pw_below_drewN | apply below_drew1) | exact HB.out)) hb); clear HB; have HO146 := n0_; have HB := n1_; clear n0_ n1_; (try clear hb); (try clear hb2); (try clear hk); (try clear hi); (try clear ho0); obtain ⟨Ao100, co100, eo100⟩ := Kd.S_slice HO146.out; subst eo100) | ((with_reducible refine gate_callee (f := 32) rfl ?_); refine goesL_ (some 169) rfl rfl Try.func32 (by kernel_rfl) rfl #[.slice A1 l1.length c1, .int .i64 0, .int .i64 (t144.length : Int)] rfl (by (try simp only [List.map_toArray, List.map_cons, List.map_nil]); first | done | rfl | (simp only [List.length_drop, List.length_take]; rfl)) ?_; (with_reducible refine (laws_r8At.calls _ _ l1 0 (t144.length : Int) t147 _ ?side1 ?side2 A75.out).mono ?_); (case side1 => repeat (first | exact (Kd.C_below HR1.out HB.out) | (with_reducible refine Kd.C_alloc ?_ _) | (with_reducible refine Kd.C_drewN ?_ _) | (with_reducible refine Kd.C_drew ?_))); (case side2 => exact HC1.out); rintro e w' ⟨rfl, ⟨nd, rfl⟩⟩; refine ⟨_, rfl, ?_⟩) | ((with_reducible refine gate_callee (f := 32) rfl ?_); refine goesL_ (some 173) rfl rfl Try.func32 (by kernel_rfl) rfl #[.slice A1 l1.length c1, .int .i64 1, .int .i64 (t144.length : Int)] rfl (by (try simp only [List.map_toArray, List.map_cons, List.map_nil]); first | done | rfl | (simp only [List.length_drop, List.length_take]; rfl)) ?_; (with_reducible refine (laws_r8At.calls _ _ l1 1 (t144.length : Int) t148 _ ?side1 ?side2 A76.out).mono ?_); (case side1 => repeat (first | exact (Kd.C_below HR1.out (by repeat (first | (with_reducible first | exact HB.out | apply below_alloc | apply pw_below_drewN | apply below_drew1) | exact HB.out))) | (with_reducible refine Kd.C_alloc ?_ _) | (with_reducible refine Kd.C_drewN ?_ _) | (with_reducible refine Kd.C_drew ?_))); (case side2 => exact HC1.out); rintro e w' ⟨rfl, ⟨nd, rfl⟩⟩; refine ⟨_, rfl, ?_⟩) | ((with_reducible refine gate_callee (f := 33) rfl ?_); refine goesL_ (some 179) rfl rfl Try.func33 (by kernel_rfl) rfl #[.slice Ao100 t144.length co100, .int .i64 (wrap64 (1 + t147)), .int .i64 (wrap64 (1 + t148))] rfl (by (try simp only [List.map_toArray, List.map_cons, List.map_nil]); first | done | rfl | (simp only [List.length_drop, List.length_take]; rfl)) ?_; (with_reducible refine (impl_CommonAncestor.calls kj38 _ _ t144 (wrap64 (1 + t147)) (wrap64 (1 + t148)) t149 t150 _ ?side1 ?side2 A77.out).mono ?_); (case side1 => repeat (first | exact (Kd.S_reads' HO146.out).2.2 | (with_reducible refine Kd.C_alloc ?_ _) | (with_reducible refine Kd.C_drewN ?_ _) | (with_reducible refine Kd.C_drew ?_))); (case side2 => exact (Kd.S_reads' HO146.out).2.1); rintro e w101 ⟨rfl, hb⟩; refine ⟨_, rfl, ?_⟩; have n0_ := Aside0.mk (Kd.S_below (by (with_reducible repeat (first | apply Kd.S_alloc | apply Kd.S_drewN | apply Kd.S_drew)); exact HO146.out) hb); have n1_ := Aside0.mk (below_step (by repeat (first | (with_reducible first | exact HB.out | apply below_alloc | apply pw_below_drewN | apply below_drew1) | exact HB.out)) hb); clear HO146; clear HB; have HO146 := n0_; have HB := n1_; clear n0_ n1_; (try clear hb); (try clear hb2); (try clear hk); (try clear hi)) | ((with_reducible refine gate_callee (f := 33) rfl ?_); refine goesL_ (some 186) rfl rfl Try.func33 (by kernel_rfl) rfl #[.slice Ao100 t144.length co100, .int .i64 (wrap64 (1 + t148)), .int .i64 (wrap64 (1 + t147))] rfl (by (try simp only [List.map_toArray, List.map_cons, List.map_nil]); first | done | rfl | (simp only [List.length_drop, List.length_take]; rfl)) ?_; (with_reducible refine (impl_CommonAncestor.calls kj38 _ _ t144 (wrap64 (1 + t148)) (wrap64 (1 + t147)) t151 t152 _ ?side1 ?side2 A78.out).mono ?_); (case side1 => repeat (first | exact (Kd.S_reads' HO146.out).2.2 | (with_reducible refine Kd.C_alloc ?_ _) | (with_reducible refine Kd.C_drewN ?_ _) | (with_reducible refine Kd.C_drew ?_))); (case side2 => exact (Kd.S_reads' HO146.out).2.1); rintro e w102 ⟨rfl, hb⟩; refine ⟨_, rfl, ?_⟩; have n0_ := Aside0.mk (Kd.S_below (by (with_reducible repeat (first | apply Kd.S_alloc | apply Kd.S_drewN | apply Kd.S_drew)); exact HO146.out) hb); have n1_ := Aside0.mk (below_step (by repeat (first | (with_reducible first | exact HB.out | apply below_alloc | apply pw_below_drewN | apply below_drew1) | exact HB.out)) hb); clear HO146; clear HB; have HO146 := n0_; have HB := n1_; clear n0_ n1_; (try clear hb); (try clear hb2); (try clear hk); (try clear hi)) | ((with_reducible refine gate_callee (f := 34) rfl ?_); refine goesL_ (some 193) rfl rfl Try.func34 (by kernel_rfl) rfl #[.slice Ao100 t144.length co100, .int .i64 (wrap64 (1 + t147)), .int .i64 (wrap64 (1 + t148)), .string (⟨#[98, 111, 116, 104]⟩ : ByteArray)] rfl (by (try simp only [List.map_toArray, List.map_cons, List.map_nil]); first | done | rfl | (simp only [List.length_drop, List.length_take]; rfl)) ?_; (with_reducible refine (impl_MergeVersions.calls kj38 _ _ t144 (wrap64 (1 + t147)) (wrap64 (1 + t148)) (⟨#[98, 111, 116, 104]⟩ : ByteArray) t153 t154 _ ?side1 ?side2 A79.out).mono ?_); (case side1 => repeat (first | exact (Kd.S_reads' HO146.out).2.2 | (with_reducible refine Kd.C_alloc ?_ _) | (with_reducible refine Kd.C_drewN ?_ _) | (with_reducible refine Kd.C_drew ?_))); (case side2 => exact (Kd.S_reads' HO146.out).2.1); rintro e w103 ⟨v155, rfl, ho0, hb⟩; refine ⟨_, rfl, ?_⟩; have n0_ := Aside0.mk (Kd.S_elder' (by (with_reducible repeat (first | apply Kd.S_alloc | apply Kd.S_drewN | apply Kd.S_drew)); exact HO146.out) (Kd.S_base ho0) hb); have n1_ := Aside0.mk (Kd.S_lower (Kd.S_new' ho0 (Kd.S_lt (by (with_reducible repeat (first | apply Kd.S_alloc | apply Kd.S_drewN | apply Kd.S_drew)); exact HO146.out))) (below_size (by repeat (first | (with_reducible first | exact HB.out | apply below_alloc | apply pw_below_drewN | apply below_drew1) | exact HB.out)))); have n2_ := Aside0.mk (below_step (by repeat (first | (with_reducible first | exact HB.out | apply below_alloc | apply pw_below_drewN | apply below_drew1) | exact HB.out)) hb); clear HO146; clear HB; have HO146 := n0_; have HO156 := n1_; have HB := n2_; clear n0_ n1_ n2_; (try clear hb); (try clear hb2); (try clear hk); (try clear hi); (try clear ho0); obtain ⟨Ao104, co104, eo104⟩ := Kd.S_slice HO156.out; subst eo104) | (go_at_call 35; (with_reducible refine (spec_ValidHistory.calls kj38 _ _ t153 t157 _ ?side1 ?side2 A98.out).mono ?_); (case side1 => repeat (first | exact (Kd.S_reads' HO156.out).2.2 | (with_reducible refine Kd.C_alloc ?_ _) | (with_reducible refine Kd.C_drewN ?_ _) | (with_reducible refine Kd.C_drew ?_))); (case side2 => exact (Kd.S_reads' HO156.out).2.1); rintro e w105 ⟨rfl, hb⟩; have n0_ := Aside0.mk (Kd.S_below (by (with_reducible repeat (first | apply Kd.S_alloc | apply Kd.S_drewN | apply Kd.S_drew)); exact HO146.out) hb); have n1_ := Aside0.mk (Kd.S_below (by (with_reducible repeat (first | apply Kd.S_alloc | apply Kd.S_drewN | apply Kd.S_drew)); exact HO156.out) hb); have n2_ := Aside0.mk (below_step (by repeat (first | (with_reducible first | exact HB.out | apply below_alloc | apply pw_below_drewN | apply below_drew1) | exact HB.out)) hb); clear HO146; clear HO156; clear HB; have HO146 := n0_; have HO156 := n1_; have HB := n2_; clear n0_ n1_ n2_; (try clear hb); (try clear hb2); (try clear hk); (try clear hi)))
                                go_ret
                                exact ⟨by first | rfl | (simp [errW_none, errW_some] <;> rfl) | (simp only [← hji89]; first | rfl | (simp [errW_none, errW_some] <;> rfl)) | (simp [*, errW_none, errW_some] <;> rfl), by repeat (first | (with_reducible first | exact HB.out | apply below_alloc | apply pw_below_drewN | apply below_drew1) | exact HB.out)⟩
                              · rw [if_neg c97] at H
                                cases H
                            · rw [if_neg c96] at H
                              have c96b0 : (t154 == 0) = false := beq_eq_false_iff_ne.mpr c96
                              have c96b1 : (t154 != 0) = true := bne_iff_ne.mpr c96
                              obtain rfl := Option.some.inj H
                              go_wp2_with (first | ((with_reducible refine gate_callee (f := 31) rfl ?_); refine goesL_ (some 162) rfl rfl Try.func31 (by kernel_rfl) rfl #[.slice A1 l1.length c1] rfl (by (try simp only [List.map_toArray, List.map_cons, List.map_nil]); first | done | rfl | (simp only [List.length_drop, List.length_take]; rfl)) ?_; (with_reducible refine (spec_R8History.calls kj38 _ _ l1 t144 _ ?side1 ?side2 A71.out).mono ?_); (case side1 => repeat (first | exact (Kd.C_below HR1.out HB.out) | (with_reducible refine Kd.C_alloc ?_ _) | (with_reducible refine Kd.C_drewN ?_ _) | (with_reducible refine Kd.C_drew ?_))); (case side2 => exact HC1.out); rintro e w112 ⟨v145, rfl, ho0, hb⟩; refine ⟨_, rfl, ?_⟩; have n0_ := Aside0.mk (Kd.S_lower ho0 (below_size (by repeat (first | (with_reducible first | exact HB.out | apply below_alloc | apply pw_below_drewN | apply below_drew1) | exact HB.out)))); have n1_ := Aside0.mk (below_step (by repeat (first | (with_reducible first | exact HB.out | apply below_alloc | apply pw_below_drewN | apply below_drew1) | exact HB.out)) hb); clear HB; have HO146 := n0_; have HB := n1_; clear n0_ n1_; (try clear hb); (try clear hb2); (try clear hk); (try clear hi); (try clear ho0); obtain ⟨Ao113, co113, eo113⟩ := Kd.S_slice HO146.out; subst eo113) | ((with_reducible refine gate_callee (f := 32) rfl ?_); refine goesL_ (some 169) rfl rfl Try.func32 (by kernel_rfl) rfl #[.slice A1 l1.length c1, .int .i64 0, .int .i64 (t144.length : Int)] rfl (by (try simp only [List.map_toArray, List.map_cons, List.map_nil]); first | done | rfl | (simp only [List.length_drop, List.length_take]; rfl)) ?_; (with_reducible refine (laws_r8At.calls _ _ l1 0 (t144.length : Int) t147 _ ?side1 ?side2 A75.out).mono ?_); (case side1 => repeat (first | exact (Kd.C_below HR1.out HB.out) | (with_reducible refine Kd.C_alloc ?_ _) | (with_reducible refine Kd.C_drewN ?_ _) | (with_reducible refine Kd.C_drew ?_))); (case side2 => exact HC1.out); rintro e w' ⟨rfl, ⟨nd, rfl⟩⟩; refine ⟨_, rfl, ?_⟩) | ((with_reducible refine gate_callee (f := 32) rfl ?_); refine goesL_ (some 173) rfl rfl Try.func32 (by kernel_rfl) rfl #[.slice A1 l1.length c1, .int .i64 1, .int .i64 (t144.length : Int)] rfl (by (try simp only [List.map_toArray, List.map_cons, List.map_nil]); first | done | rfl | (simp only [List.length_drop, List.length_take]; rfl)) ?_; (with_reducible refine (laws_r8At.calls _ _ l1 1 (t144.length : Int) t148 _ ?side1 ?side2 A76.out).mono ?_); (case side1 => repeat (first | exact (Kd.C_below HR1.out (by repeat (first | (with_reducible first | exact HB.out | apply below_alloc | apply pw_below_drewN | apply below_drew1) | exact HB.out))) | (with_reducible refine Kd.C_alloc ?_ _) | (with_reducible refine Kd.C_drewN ?_ _) | (with_reducible refine Kd.C_drew ?_))); (case side2 => exact HC1.out); rintro e w' ⟨rfl, ⟨nd, rfl⟩⟩; refine ⟨_, rfl, ?_⟩) | ((with_reducible refine gate_callee (f := 33) rfl ?_); refine goesL_ (some 179) rfl rfl Try.func33 (by kernel_rfl) rfl #[.slice Ao113 t144.length co113, .int .i64 (wrap64 (1 + t147)), .int .i64 (wrap64 (1 + t148))] rfl (by (try simp only [List.map_toArray, List.map_cons, List.map_nil]); first | done | rfl | (simp only [List.length_drop, List.length_take]; rfl)) ?_; (with_reducible refine (impl_CommonAncestor.calls kj38 _ _ t144 (wrap64 (1 + t147)) (wrap64 (1 + t148)) t149 t150 _ ?side1 ?side2 A77.out).mono ?_); (case side1 => repeat (first | exact (Kd.S_reads' HO146.out).2.2 | (with_reducible refine Kd.C_alloc ?_ _) | (with_reducible refine Kd.C_drewN ?_ _) | (with_reducible refine Kd.C_drew ?_))); (case side2 => exact (Kd.S_reads' HO146.out).2.1); rintro e w114 ⟨rfl, hb⟩; refine ⟨_, rfl, ?_⟩; have n0_ := Aside0.mk (Kd.S_below (by (with_reducible repeat (first | apply Kd.S_alloc | apply Kd.S_drewN | apply Kd.S_drew)); exact HO146.out) hb); have n1_ := Aside0.mk (below_step (by repeat (first | (with_reducible first | exact HB.out | apply below_alloc | apply pw_below_drewN | apply below_drew1) | exact HB.out)) hb); clear HO146; clear HB; have HO146 := n0_; have HB := n1_; clear n0_ n1_; (try clear hb); (try clear hb2); (try clear hk); (try clear hi)) | ((with_reducible refine gate_callee (f := 33) rfl ?_); refine goesL_ (some 186) rfl rfl Try.func33 (by kernel_rfl) rfl #[.slice Ao113 t144.length co113, .int .i64 (wrap64 (1 + t148)), .int .i64 (wrap64 (1 + t147))] rfl (by (try simp only [List.map_toArray, List.map_cons, List.map_nil]); first | done | rfl | (simp only [List.length_drop, List.length_take]; rfl)) ?_; (with_reducible refine (impl_CommonAncestor.calls kj38 _ _ t144 (wrap64 (1 + t148)) (wrap64 (1 + t147)) t151 t152 _ ?side1 ?side2 A78.out).mono ?_); (case side1 => repeat (first | exact (Kd.S_reads' HO146.out).2.2 | (with_reducible refine Kd.C_alloc ?_ _) | (with_reducible refine Kd.C_drewN ?_ _) | (with_reducible refine Kd.C_drew ?_))); (case side2 => exact (Kd.S_reads' HO146.out).2.1); rintro e w115 ⟨rfl, hb⟩; refine ⟨_, rfl, ?_⟩; have n0_ := Aside0.mk (Kd.S_below (by (with_reducible repeat (first | apply Kd.S_alloc | apply Kd.S_drewN | apply Kd.S_drew)); exact HO146.out) hb); have n1_ := Aside0.mk (below_step (by repeat (first | (with_reducible first | exact HB.out | apply below_alloc | apply pw_below_drewN | apply below_drew1) | exact HB.out)) hb); clear HO146; clear HB; have HO146 := n0_; have HB := n1_; clear n0_ n1_; (try clear hb); (try clear hb2); (try clear hk); (try clear hi)) | ((with_reducible refine gate_callee (f := 34) rfl ?_); refine goesL_ (some 193) rfl rfl Try.func34 (by kernel_rfl) rfl #[.slice Ao113 t144.length co113, .int .i64 (wrap64 (1 + t147)), .int .i64 (wrap64 (1 + t148)), .string (⟨#[98, 111, 116, 104]⟩ : ByteArray)] rfl (by (try simp only [List.map_toArray, List.map_cons, List.map_nil]); first | done | rfl | (simp only [List.length_drop, List.length_take]; rfl)) ?_; (with_reducible refine (impl_MergeVersions.calls kj38 _ _ t144 (wrap64 (1 + t147)) (wrap64 (1 + t148)) (⟨#[98, 111, 116, 104]⟩ : ByteArray) t153 t154 _ ?side1 ?side2 A79.out).mono ?_); (case side1 => repeat (first | exact (Kd.S_reads' HO146.out).2.2 | (with_reducible refine Kd.C_alloc ?_ _) | (with_reducible refine Kd.C_drewN ?_ _) | (with_reducible refine Kd.C_drew ?_))); (case side2 => exact (Kd.S_reads' HO146.out).2.1); rintro e w116 ⟨v155, rfl, ho0, hb⟩; refine ⟨_, rfl, ?_⟩; have n0_ := Aside0.mk (Kd.S_elder' (by (with_reducible repeat (first | apply Kd.S_alloc | apply Kd.S_drewN | apply Kd.S_drew)); exact HO146.out) (Kd.S_base ho0) hb); have n1_ := Aside0.mk (Kd.S_lower (Kd.S_new' ho0 (Kd.S_lt (by (with_reducible repeat (first | apply Kd.S_alloc | apply Kd.S_drewN | apply Kd.S_drew)); exact HO146.out))) (below_size (by repeat (first | (with_reducible first | exact HB.out | apply below_alloc | apply pw_below_drewN | apply below_drew1) | exact HB.out)))); have n2_ := Aside0.mk (below_step (by repeat (first | (with_reducible first | exact HB.out | apply below_alloc | apply pw_below_drewN | apply below_drew1) | exact HB.out)) hb); clear HO146; clear HB; have HO146 := n0_; have HO156 := n1_; have HB := n2_; clear n0_ n1_ n2_; (try clear hb); (try clear hb2); (try clear hk); (try clear hi); (try clear ho0)))
                              go_ret
                              exact ⟨by first | rfl | (simp [errW_none, errW_some] <;> rfl) | (simp only [← hji89]; first | rfl | (simp [errW_none, errW_some] <;> rfl)) | (simp [*, errW_none, errW_some] <;> rfl), by repeat (first | (with_reducible first | exact HB.out | apply below_alloc | apply pw_below_drewN | apply below_drew1) | exact HB.out)⟩
                      · rw [if_neg c82] at H
                        cases H
                    · rw [if_neg c81] at H
                      cases H
                  · rw [if_neg c80] at H
                    cases H
end Go.Proofs.Ytocegmkifmdlcaa.P

namespace Go.Proofs.YtocegmkifmdlcaaO
open Go.RowKit Go.WideShapes Go.Proofs.YtocegmkifmdlcaaW.PrintWords

theorem addr_add_add (a : Addr) (m i : Nat) : (a.add m).add i = a.add (m + i) := by
  unfold Addr.add
  by_cases h1 : m = 0
  · subst h1; simp
  · by_cases h2 : i = 0
    · subst h2; simp [h1]
    · have h3 : ¬ (m + i = 0) := by omega
      simp [h1, h2, Nat.add_assoc]

/-- Whatever the claim reads at this type is a value of this kind, of which G holds. -/
def Opens {α : Type} (P : Program) (t : TypeId) (d : Kd α) (G : α → Prop) : Prop :=
  ∀ (H : Type) (enc : TypeId × Value → H) (w : World) (base : Nat) (spare : Nat → Bool) (held : Bool) (fuel : Nat) (cs : List Value) (x : DataW H × List MemPlace),
    DataW.trod enc P w base spare held fuel t cs = some x → ∃ a : α, d.K w a cs ∧ G a

section
variable {α β : Type} {P : Program} {t e : TypeId} {d : Kd α} {G : α → Prop}

theorem opens_int {k : IntKind} (ht : P.underlying t = some (.int k)) : Opens P t (Kd.int k) (fun n => (Lit.int k n).wf = true) := by
  intro H enc w base spare held fuel cs x h
  obtain ⟨n, rfl, _, hw⟩ := DataW.trod_int ht h
  exact ⟨n, rfl, hw⟩
theorem list_of_each {p : Nat → α → Prop} : ∀ n : Nat, (∀ i, i < n → ∃ a, p i a) → ∃ l : List α, l.length = n ∧ ∀ i a, l[i]? = some a → p i a
  | 0, _ => ⟨[], rfl, fun i a h => by simp at h⟩
  | n + 1, h => by
    obtain ⟨l, hl, hp⟩ := list_of_each n (fun i hi => h i (by omega))
    obtain ⟨a, ha⟩ := h n (by omega)
    refine ⟨l ++ [a], by simp [hl], fun i b hb => ?_⟩
    by_cases hi : i < l.length
    · rw [List.getElem?_append_left hi] at hb
      exact hp i b hb
    · rw [List.getElem?_append_right (by omega)] at hb
      have h0 : i - l.length = 0 := by
        have := (List.getElem?_eq_some_iff.1 hb).1
        simp at this
        omega
      rw [h0] at hb
      have hi2 : i = n := by omega
      subst hi2
      simp at hb
      subst hb
      exact ha

theorem opens_slice (ht : P.underlying t = some (.slice e)) (hc : P.cellsOf e = d.sz) (hd : Opens P e d G) : Opens P t (Kd.slice e d) (fun l => l.length ≤ maxLen ∧ ∀ x ∈ l, G x) := by
  intro H enc w base spare held fuel cs x h
  rcases DataW.trod_slice ht h with ⟨rfl, _⟩ | ⟨a, len, cap, elems, rest, n, _, rfl, _, hb, hl, hm, hlen, hel, _, _⟩
  · exact ⟨[], ⟨none, 0, rfl, Nat.le_refl _, rfl, by simp, fun hp => by simp at hp⟩, by simp, by simp⟩
  · have each : ∀ i, i < len → ∃ x : α, G x ∧ ∃ c, c.length = d.sz ∧ d.K w x c ∧ ∀ j u, c[j]? = some u → w.cell? (a.add (i * d.sz + j)) = some u := by
      intro i hi
      have h1 := hel i hi
      have h2 : ∃ y, elems[i]? = some y := ⟨elems[i]'(by omega), List.getElem?_eq_getElem (by omega)⟩
      obtain ⟨y, hy⟩ := h2
      rw [hy, Option.bind_eq_some_iff] at h1
      obtain ⟨c, hcs, hy'⟩ := h1
      obtain ⟨x, hK, hG⟩ := hd H enc w base spare held n c y hy'
      refine ⟨x, hG, c, d.K_len hK, hK, fun j u hu => ?_⟩
      have hx := World.cells?_some hcs
      have hj : j < P.cellsOf e := by
        have := (List.getElem?_eq_some_iff.1 hu).1
        have := hx.2.1
        omega
      have hz := hx.2.2 j hj
      rw [addr_add_add, hc, hu] at hz
      exact hz
    obtain ⟨l, hll, hp⟩ := list_of_each len each
    refine ⟨l, ⟨some a, cap, by rw [hll], by omega, rfl, by simp only [maxLen] at hm; omega, fun _ => ⟨a, rfl, fun j p hj => ?_⟩⟩, by simp only [maxLen] at hm ⊢; omega, fun x hx => ?_⟩
    · exact (hp j p hj).2
    · obtain ⟨i, hi, hi2⟩ := List.getElem_of_mem hx
      exact (hp i x (by rw [List.getElem?_eq_getElem hi, hi2])).1

end
end Go.Proofs.YtocegmkifmdlcaaO

namespace Go.Proofs.YtocegmkifmdlcaaL
open Go.RowKit Go.Proofs.YtocegmkifmdlcaaW.PrintWords

theorem wrap_id {x : Int} (h0 : -9223372036854775808 ≤ x) (h1 : x ≤ 9223372036854775807) : wrap64 x = x := by unfold wrap64; omega
theorem wrap_succ {i n : Nat} (h : i < n) (hn : n ≤ 4611686018427387904) : wrap64 ((i : Int) + 1) = ((i + 1 : Nat) : Int) := by
  rw [wrap_id (by omega) (by omega)]; omega
theorem lt_cast {i n : Nat} (h : i < n) : (i : Int) < (n : Int) := by omega
theorem nn_cast (i : Nat) : 0 ≤ (i : Int) := by omega
theorem nlt_cast (n : Nat) : ¬ ((n : Int) < (n : Int)) := by omega
theorem drop_cons {α : Type} {l : List α} {i : Nat} (h : i < l.length) : l.drop i = l[i] :: l.drop (i + 1) := List.drop_eq_getElem_cons h

/-- A loop over a list: at each element it answers, or it goes on behind it. G: what it answers from a rest on. -/
theorem list_loop {α σ ρ : Type} (L : Nat → σ → Int → Option ρ) (l : List α) (G : List α → σ → ρ) (Inv : Nat → σ → Prop) (B : Nat)
    (step : ∀ (k i : Nat) (hi : i < l.length) (s : σ), Inv i s → B ≤ k →
      L (k + 1) s (i : Int) = some (G (l[i] :: l.drop (i + 1)) s) ∨ ∃ s', Inv (i + 1) s' ∧ G (l[i] :: l.drop (i + 1)) s = G (l.drop (i + 1)) s' ∧ L (k + 1) s (i : Int) = L k s' ((i + 1 : Nat) : Int))
    (stop : ∀ (k : Nat) (s : σ), Inv l.length s → L (k + 1) s (l.length : Int) = some (G [] s)) :
    ∀ (k : Nat) (s : σ), B + l.length < k → Inv 0 s → L k s 0 = some (G l s) := by
  have main : ∀ (d k i : Nat) (s : σ), i + d = l.length → B + d < k → Inv i s → L k s (i : Int) = some (G (l.drop i) s) := by
    intro d
    induction d with
    | zero =>
      intro k i s hi hk hI
      obtain ⟨k, rfl⟩ : ∃ m, k = m + 1 := ⟨k - 1, by omega⟩
      have : i = l.length := by omega
      subst this
      rw [stop k s hI, List.drop_length]
    | succ d ih =>
      intro k i s hi hk hI
      obtain ⟨k, rfl⟩ : ∃ m, k = m + 1 := ⟨k - 1, by omega⟩
      have hlt : i < l.length := by omega
      rw [drop_cons hlt]
      rcases step k i hlt s hI (by omega) with h | ⟨s', hI', hG, hL⟩
      · exact h
      · rw [hL, hG]
        exact ih k (i + 1) s' (by omega) (by omega) hI'
  intro k s hk hI
  have := main l.length k 0 s (by omega) hk hI
  simpa using this

/-- The same without a state. -/
theorem list_loop0 {α ρ : Type} (L : Nat → Int → Option ρ) (l : List α) (G : List α → ρ) (B : Nat)
    (step : ∀ (k i : Nat) (hi : i < l.length), B ≤ k →
      L (k + 1) (i : Int) = some (G (l[i] :: l.drop (i + 1))) ∨ (G (l[i] :: l.drop (i + 1)) = G (l.drop (i + 1)) ∧ L (k + 1) (i : Int) = L k ((i + 1 : Nat) : Int)))
    (stop : ∀ (k : Nat), L (k + 1) (l.length : Int) = some (G [])) :
    ∀ (k : Nat), B + l.length < k → L k 0 = some (G l) := by
  intro k hk
  exact list_loop (σ := Unit) (fun k _ i => L k i) l (fun l _ => G l) (fun _ _ => True) B (fun k i hi s _ hB => by
    rcases step k i hi hB with h | ⟨h1, h2⟩
    · exact .inl h
    · exact .inr ⟨(), trivial, h1, h2⟩) (fun k _ _ => stop k) k () hk trivial

/-- A loop that asks each index below n and stops at the first that says no. -/
theorem all_loop (L : Nat → Int → Option Bool) (n : Nat) (p : Nat → Bool) (fin : Bool) (B : Nat)
    (step : ∀ (k i : Nat), i < n → B ≤ k → L (k + 1) (i : Int) = if p i = true then L k ((i + 1 : Nat) : Int) else some false)
    (stop : ∀ (k : Nat), B ≤ k → L (k + 1) (n : Int) = some fin) :
    ∀ (k : Nat), B + n < k → L k 0 = some ((List.range n).all p && fin) := by
  have main : ∀ (d k i : Nat), i + d = n → B + d < k → L k (i : Int) = some ((List.range' i d).all p && fin) := by
    intro d
    induction d with
    | zero =>
      intro k i hi hk
      obtain ⟨k, rfl⟩ : ∃ m, k = m + 1 := ⟨k - 1, by omega⟩
      obtain rfl : i = n := by omega
      rw [stop k (by omega)]; simp
    | succ d ih =>
      intro k i hi hk
      obtain ⟨k, rfl⟩ : ∃ m, k = m + 1 := ⟨k - 1, by omega⟩
      rw [step k i (by omega) (by omega), List.range'_succ, List.all_cons]
      by_cases h : p i = true
      · rw [if_pos h, ih k (i + 1) (by omega) (by omega), h]; simp
      · rw [if_neg h]; simp [h]
  intro k hk
  have := main n k 0 (by omega) hk
  rw [List.range_eq_range']
  exact this

theorem pred_cast {i n : Nat} (h0 : 0 < i) (h : i < n) (hn : n ≤ 4611686018427387904) : wrap64 ((i : Int) - 1) = ((i - 1 : Nat) : Int) := by
  rw [wrap_id (by omega) (by omega)]; omega

theorem rd_get {l : List Int} {i : Nat} (h : i < l.length) : rd l (i : Int) = l[i] := by
  simp [rd, List.getD_eq_getElem?_getD, List.getElem?_eq_getElem h]
theorem bytes_eq {a b : ByteArray} : a.toList = b.toList ↔ a = b := by
  constructor
  · intro h
    have h2 : a.data.toList = b.data.toList := by
      have e : ∀ x : ByteArray, x.toList = x.data.toList := ByteArray.toList_eq
      rw [← e, ← e]; exact h
    cases a; cases b
    simp at h2
    rw [h2]
  · intro h; rw [h]
end Go.Proofs.YtocegmkifmdlcaaL

namespace Go.Proofs.Ytocegmkifmdlcaa.P
open Go.RowKit Go.Proofs.YtocegmkifmdlcaaW.PrintWords Go.Proofs.YtocegmkifmdlcaaL

def nameByte (c : Int) : Bool := (decide (97 ≤ c) && decide (c ≤ 122)) || (decide (48 ≤ c) && decide (c ≤ 57))
def nameB (s : ByteArray) : Bool := decide (1 ≤ s.size) && decide (s.size ≤ 10) && (decide (97 ≤ bt s 0) && decide (bt s 0 ≤ 122)) && (List.range s.size).all fun i => nameByte (bt s (i : Int))
theorem size_zero {s : ByteArray} : s.toList = ([] : List UInt8) ↔ s.size = 0 := by
  rw [ByteArray.toList_eq]
  constructor
  · intro h; have := congrArg List.length h; simpa using this
  · intro h
    apply List.eq_nil_of_length_eq_zero
    simpa using h
theorem l01Name_eq (s : ByteArray) {k : Nat} (hk : 20 ≤ k) : spec_l01Name.f k s = some (nameB s) := by
  obtain ⟨k, rfl⟩ : ∃ m, k = m + 1 := ⟨k - 1, by omega⟩
  unfold spec_l01Name.f nameB
  by_cases h0 : s.size = 0
  · rw [if_pos (size_zero.2 h0)]; simp [spec_l01Name.j0, h0]
  rw [if_neg (fun e => h0 (size_zero.1 e))]
  by_cases h1 : (s.size : Int) > 10
  · rw [if_pos h1]
    have : ¬ s.size ≤ 10 := by omega
    simp [spec_l01Name.j0, this]
  rw [if_neg h1, if_pos (by omega)]
  unfold spec_l01Small.f
  have h1' : s.size ≤ 10 := by omega
  have h0' : 1 ≤ s.size := by omega
  by_cases h2 : bt s 0 ≥ 97
  · rw [if_pos h2]; simp only [Option.bind_some, spec_l01Name.j0]
    by_cases h3 : bt s 0 ≤ 122
    · rw [if_neg (by simp [h3])]
      rw [all_loop (fun k i => spec_l01Name.l0 k s i) s.size (fun i => nameByte (bt s (i : Int))) true 1 (fun k i hi hB => ?_) (fun k _ => ?_) k (by omega)]
      · simp [h1', h0', h3, ge_iff_le.1 h2]
      · obtain ⟨k, rfl⟩ : ∃ m, k = m + 1 := ⟨k - 1, by omega⟩
        show spec_l01Name.l0 (k + 1 + 1) s (i : Int) = _
        rw [spec_l01Name.l0]
        rw [if_pos (by omega), if_pos (nn_cast i), wrap_succ hi (by omega)]
        unfold spec_l01Small.f spec_l01Digit.f nameByte
        by_cases e1 : bt s (i : Int) ≥ 97
        · rw [if_pos e1]
          by_cases e2 : bt s (i : Int) ≤ 122
          · simp [e2, ge_iff_le.1 e1]
          · have e3 : bt s (i : Int) ≥ 48 := by omega
            have e4 : ¬ bt s (i : Int) ≤ 57 := by omega
            simp [e2, e4, ge_iff_le.1 e3]
        · rw [if_neg e1]
          have e1' : ¬ 97 ≤ bt s (i : Int) := e1
          by_cases e2 : bt s (i : Int) ≥ 48
          · rw [if_pos e2]
            by_cases e3 : bt s (i : Int) ≤ 57
            · simp [e3, ge_iff_le.1 e2]
            · simp [e3, e1']
          · rw [if_neg e2]
            have e2' : ¬ 48 ≤ bt s (i : Int) := e2
            simp [e1', e2']
      · show spec_l01Name.l0 (_ + 1) s (s.size : Int) = _
        rw [spec_l01Name.l0, if_neg (nlt_cast _)]
    · rw [if_pos (by simp [h3])]; simp [h3]
  · rw [if_neg h2]; simp only [Option.bind_some, spec_l01Name.j0]
    have h2' : ¬ 97 ≤ bt s 0 := h2
    rw [if_pos (by rfl)]; simp [h2']

theorem IsName_eq (s : ByteArray) {k : Nat} (hk : 20 ≤ k) : impl_IsName.f k s = some (nameB s) := by
  unfold impl_IsName.f nameB
  by_cases h0 : (s.size : Int) < 1
  · rw [if_pos h0]
    have : ¬ 1 ≤ s.size := by omega
    simp [this]
  rw [if_neg h0]
  by_cases h1 : (s.size : Int) > 10
  · rw [if_pos h1]
    have : ¬ s.size ≤ 10 := by omega
    simp [this]
  rw [if_neg h1, if_pos (by omega)]
  have h1' : s.size ≤ 10 := by omega
  have h0' : 1 ≤ s.size := by omega
  by_cases h2 : bt s 0 < 97
  · rw [if_pos h2]
    have h2' : ¬ 97 ≤ bt s 0 := by omega
    simp [h2']
  rw [if_neg h2]
  by_cases h3 : bt s 0 > 122
  · rw [if_pos h3]
    have h3' : ¬ bt s 0 ≤ 122 := by omega
    simp [h3']
  rw [if_neg h3]
  have h2' : 97 ≤ bt s 0 := by omega
  have h3' : bt s 0 ≤ 122 := by omega
  unfold impl_onlyNameBytes.f
  rw [all_loop (fun k i => impl_onlyNameBytes.l0 k s (s.size : Int) i) s.size (fun i => nameByte (bt s (i : Int))) true 0 (fun k i hi hB => ?_) (fun k _ => ?_) k (by omega)]
  · simp [h1', h0', h3', h2']
  · show impl_onlyNameBytes.l0 (k + 1) s (s.size : Int) (i : Int) = _
    rw [impl_onlyNameBytes.l0]
    rw [if_pos (lt_cast hi), if_pos (nn_cast i), if_pos (lt_cast hi), wrap_succ hi (by omega)]
    unfold nameByte
    repeat' split
    all_goals first | rfl | (exfalso; simp_all; done) | (exfalso; simp_all; omega)
  · show impl_onlyNameBytes.l0 (k + 1) s (s.size : Int) (s.size : Int) = _
    rw [impl_onlyNameBytes.l0, if_neg (nlt_cast _)]

theorem in_eq (a b c : Int) : spec_l00In.f a b c = some (decide (b ≤ a) && decide (a ≤ c)) := by
  unfold spec_l00In.f
  by_cases h : a ≥ b
  · rw [if_pos h]; simp [ge_iff_le.1 h]
  · rw [if_neg h]
    have h' : ¬ b ≤ a := h
    simp [h']
theorem within_eq (a b c : Int) : impl_within.f a b c = some (decide (b ≤ a) && decide (a ≤ c)) := by
  unfold impl_within.f
  by_cases h : a ≥ b
  · rw [if_pos h]; simp [ge_iff_le.1 h]
  · rw [if_neg h]
    have h' : ¬ b ≤ a := h
    simp [h']
end Go.Proofs.Ytocegmkifmdlcaa.P

namespace Go.Proofs.Ytocegmkifmdlcaa.P
open Go.RowKit Go.Proofs.YtocegmkifmdlcaaW.PrintWords Go.Proofs.YtocegmkifmdlcaaL
set_option linter.unusedVariables false
set_option linter.unusedSimpArgs false

theorem ext_iAnswer {a b : S125} : a = b ↔ a.f0.toList = b.f0.toList ∧ a.f1.toList = b.f1.toList ∧ a.f2 = b.f2 := by
  simp only [bytes_eq]; cases a; cases b; simp
instance : DecidableEq S125 := fun _ _ => decidable_of_iff _ ext_iAnswer.symm
-- Change: fields of other kinds
theorem ext_iSetting {a b : S80} : a = b ↔ a.f0.toList = b.f0.toList ∧ a.f1 = b.f1 := by
  simp only [bytes_eq]; cases a; cases b; simp
instance : DecidableEq S80 := fun _ _ => decidable_of_iff _ ext_iSetting.symm
theorem ext_iTurn {a b : S127} : a = b ↔ a.f0.toList = b.f0.toList ∧ a.f1 = b.f1 ∧ a.f2 = b.f2 := by
  simp only [bytes_eq]; cases a; cases b; simp
instance : DecidableEq S127 := fun _ _ => decidable_of_iff _ ext_iTurn.symm
end Go.Proofs.Ytocegmkifmdlcaa.P

namespace Go.Proofs.Ytocegmkifmdlcaa.P
open Go.RowKit Go.Proofs.YtocegmkifmdlcaaW.PrintWords Go.Proofs.YtocegmkifmdlcaaL

def settingB (x : S80) : Bool := nameB x.f0 && (decide (0 ≤ x.f1) && decide (x.f1 ≤ 1000))
def stateAt (l : List S80) (i : Nat) : Bool := settingB (rd_T80 l (i : Int)) && (decide (i = 0) || Op.bytesLess (rd_T80 l ((i - 1 : Nat) : Int)).f0.toList (rd_T80 l (i : Int)).f0.toList)
def stateB (l : List S80) : Bool := (List.range l.length).all (stateAt l) && decide (l.length ≤ 24)

theorem l27Setting_e_eq (l : List S80) (i : Int) {k : Nat} (hk : 20 ≤ k) : spec_l27Setting_e.f k l i = some (settingB (rd_T80 l i)) := by
  unfold spec_l27Setting_e.f settingB
  rw [l01Name_eq _ hk]; simp only [Option.bind_some, in_eq]
  by_cases h : nameB (rd_T80 l i).f0 = true
  · rw [if_pos h]; simp [h]
  · rw [if_neg h]; simp [h]
theorem Setting_valid_eq (x : S80) {k : Nat} (hk : 20 ≤ k) : impl_Setting_valid.f k x.f0 x.f1 = some (settingB x) := by
  unfold impl_Setting_valid.f settingB
  rw [IsName_eq _ hk]; simp only [Option.bind_some, within_eq]
  by_cases h : nameB x.f0 = true
  · rw [if_pos h]; simp [h]
  · rw [if_neg h]; simp [h]

theorem l27State_eq {l : List S80} (hl : l.length ≤ 1048576) {k : Nat} (hk : 1048600 ≤ k) : spec_l27State.f k l = some (stateB l) := by
  unfold spec_l27State.f stateB
  refine all_loop (fun k i => spec_l27State.l0 k l i) l.length (stateAt l) (decide (l.length ≤ 24)) 20 (fun k i hi hB => ?_) (fun k _ => ?_) k (by omega)
  · simp only [spec_l27State.l0]
    rw [if_pos (lt_cast hi), if_pos (nn_cast i), l27Setting_e_eq _ _ hB, wrap_succ hi (by omega)]
    simp only [Option.bind_some, stateAt]
    by_cases h : settingB (rd_T80 l (i : Int)) = true
    · rw [if_pos h]
      by_cases h0 : i = 0
      · rw [if_neg (by omega)]; simp only [h, decide_eq_true h0, Bool.true_or, Bool.and_self, if_true]
      · rw [if_pos (by omega), pred_cast (by omega) hi (by omega), if_pos (nn_cast _), if_pos (by omega)]
        simp [h, h0]
    · rw [if_neg h]; simp [h]
  · simp only [spec_l27State.l0]
    rw [if_neg (nlt_cast _)]
    congr 2
    exact propext (by omega)
theorem ValidState_eq {l : List S80} (hl : l.length ≤ 1048576) {k : Nat} (hk : 1048600 ≤ k) : impl_ValidState.f k l = some (stateB l) := by
  unfold impl_ValidState.f stateB
  by_cases h24 : (l.length : Int) > 24
  · rw [if_pos h24]
    have : ¬ l.length ≤ 24 := by omega
    simp [this]
  · rw [if_neg h24]
    have h24' : l.length ≤ 24 := by omega
    rw [decide_eq_true h24']
    refine all_loop (fun k i => impl_ValidState.l0 k l l (l.length : Int) i) l.length (stateAt l) true 20 (fun k i hi hB => ?_) (fun k _ => ?_) k (by omega)
    · simp only [impl_ValidState.l0]
      rw [if_pos (lt_cast hi), if_pos (nn_cast i), if_pos (lt_cast hi), Setting_valid_eq _ hB, wrap_succ hi (by omega)]
      simp only [Option.bind_some, stateAt]
      by_cases h : settingB (rd_T80 l (i : Int)) = true
      · rw [if_pos h]
        by_cases h0 : i = 0
        · rw [if_neg (by omega)]; simp only [h, decide_eq_true h0, Bool.true_or, Bool.and_self, if_true]
        · rw [if_pos (by omega), pred_cast (by omega) hi (by omega), if_pos (nn_cast _), if_pos (by omega)]
          simp [h, h0]
      · rw [if_neg h]; simp [h]
    · simp only [impl_ValidState.l0]
      rw [if_neg (nlt_cast _)]

theorem Ev.le {α : Type} {g : Nat → Option α} {r : α} (K : Nat) (h : ∀ k, K ≤ k → g k = some r) : Ev g r := ⟨K, h⟩
theorem Ev.const {α : Type} {x : Option α} {r : α} (h : x = some r) : Ev (fun _ => x) r := ⟨0, fun _ _ => h⟩
theorem Ev.pos {α : Type} {c : Prop} [Decidable c] {f g : Nat → Option α} {r : α} (h : c) (k : Ev f r) : Ev (fun n => if c then f n else g n) r := Ev.congr (fun _ => if_pos h) k
theorem Ev.neg {α : Type} {c : Prop} [Decidable c] {f g : Nat → Option α} {r : α} (h : ¬ c) (k : Ev g r) : Ev (fun n => if c then f n else g n) r := Ev.congr (fun _ => if_neg h) k

theorem rd_set27 {l : List S80} {i : Nat} (h : i < l.length) : rd_T80 l (i : Int) = l[i] := by simp [rd_T80, List.getD_eq_getElem?_getD, List.getElem?_eq_getElem h]
def at27 (nm : ByteArray) : Nat → List S80 → Int
  | _, [] => -1
  | n, x :: r => if x.f0.toList = nm.toList then (n : Int) else at27 nm (n + 1) r
def val27 (nm : ByteArray) : List S80 → Int × Bool
  | [] => (0, false)
  | x :: r => if x.f0.toList = nm.toList then (x.f1, true) else val27 nm r
theorem at27_ev {l : List S80} (hl : l.length ≤ 1048576) (nm : ByteArray) : Ev (fun k => spec_l27At.f k l nm) (at27 nm 0 l) := by
  unfold spec_l27At.f
  have main : ∀ (d i : Nat), i + d = l.length → Ev (fun k => spec_l27At.l0 k l nm (i : Int)) (at27 nm i (l.drop i)) := by
    intro d
    induction d with
    | zero =>
      intro i hi
      obtain rfl : i = l.length := by omega
      refine Ev.step (f := fun _ => some (-1)) (fun k => ?_) ?_
      · simp only [spec_l27At.l0]; rw [if_neg (nlt_cast _)]
      · rw [List.drop_length]; exact Ev.now _
    | succ d ih =>
      intro i hi
      have hlt : i < l.length := by omega
      rw [drop_cons hlt, at27]
      by_cases h1 : l[i].f0.toList = nm.toList
      · rw [if_pos h1]
        refine Ev.step (f := fun _ => some (i : Int)) (fun k => ?_) (Ev.now _)
        simp only [spec_l27At.l0]
        rw [if_pos (lt_cast hlt), if_pos (nn_cast i), rd_set27 hlt, if_pos h1]
      · rw [if_neg h1]
        refine Ev.step (fun k => ?_) (ih (i + 1) (by omega))
        simp only [spec_l27At.l0]
        rw [if_pos (lt_cast hlt), if_pos (nn_cast i), rd_set27 hlt, if_neg h1, wrap_succ hlt (by omega)]
  have := main l.length 0 (by omega)
  simpa using this
theorem val27_ev {l : List S80} (hl : l.length ≤ 1048576) (nm : ByteArray) : Ev (fun k => impl_valueAt.f k l nm) (val27 nm l) := by
  unfold impl_valueAt.f
  have main : ∀ (d i : Nat), i + d = l.length → Ev (fun k => impl_valueAt.l0 k nm l (l.length : Int) (i : Int)) (val27 nm (l.drop i)) := by
    intro d
    induction d with
    | zero =>
      intro i hi
      obtain rfl : i = l.length := by omega
      refine Ev.step (f := fun _ => some (0, false)) (fun k => ?_) ?_
      · simp only [impl_valueAt.l0]; rw [if_neg (nlt_cast _)]
      · rw [List.drop_length]; exact Ev.now _
    | succ d ih =>
      intro i hi
      have hlt : i < l.length := by omega
      rw [drop_cons hlt, val27]
      by_cases h1 : l[i].f0.toList = nm.toList
      · rw [if_pos h1]
        refine Ev.step (f := fun _ => some (l[i].f1, true)) (fun k => ?_) (Ev.now _)
        simp only [impl_valueAt.l0]
        rw [if_pos (lt_cast hlt), if_pos (nn_cast i), if_pos (lt_cast hlt), rd_set27 hlt, if_pos h1]
      · rw [if_neg h1]
        refine Ev.step (fun k => ?_) (ih (i + 1) (by omega))
        simp only [impl_valueAt.l0]
        rw [if_pos (lt_cast hlt), if_pos (nn_cast i), if_pos (lt_cast hlt), rd_set27 hlt, if_neg h1, wrap_succ hlt (by omega)]
  have := main l.length 0 (by omega)
  simpa using this
theorem at27_cases (nm : ByteArray) : ∀ (l : List S80) (n : Nat), (at27 nm n l = -1 ∧ val27 nm l = (0, false) ∧ ∀ x ∈ l, x.f0.toList ≠ nm.toList) ∨ ∃ (j : Nat) (h : j < l.length), at27 nm n l = ((n + j : Nat) : Int) ∧ val27 nm l = (l[j].f1, true) ∧ l[j].f0.toList = nm.toList
  | [], n => .inl ⟨rfl, rfl, by simp⟩
  | x :: r, n => by
    by_cases h : x.f0.toList = nm.toList
    · exact .inr ⟨0, by simp, by rw [at27, if_pos h]; rfl, by rw [val27, if_pos h]; rfl, h⟩
    · rcases at27_cases nm r (n + 1) with ⟨h1, h2, h3⟩ | ⟨j, hj, h1, h2, h3⟩
      · refine .inl ⟨by rw [at27, if_neg h]; exact h1, by rw [val27, if_neg h]; exact h2, fun y hy => ?_⟩
        rcases List.mem_cons.1 hy with e | hy
        · subst e; exact h
        · exact h3 y hy
      · exact .inr ⟨j + 1, by simp; omega, by rw [at27, if_neg h, h1]; congr 1; omega, by rw [val27, if_neg h, h2]; rfl, h3⟩
theorem State_spec_ev {l : List S80} (hl : l.length ≤ 1048576) : Ev (fun k => spec_l27State.f k l) (stateB l) := Ev.le 1048600 (fun k hk => l27State_eq hl hk)
theorem State_impl_ev {l : List S80} (hl : l.length ≤ 1048576) : Ev (fun k => impl_ValidState.f k l) (stateB l) := Ev.le 1048600 (fun k hk => ValidState_eq hl hk)
theorem state_len {l : List S80} (h : stateB l = true) : l.length ≤ 24 := by
  unfold stateB at h; simp only [Bool.and_eq_true, decide_eq_true_iff] at h; exact h.2
end Go.Proofs.Ytocegmkifmdlcaa.P

namespace Go.Proofs.Ytocegmkifmdlcaa.P
open Go.RowKit Go.Sort Go.Proofs.YtocegmkifmdlcaaW.PrintWords
def ltB (a b : ByteArray) : Bool := Op.bytesLess a.toList b.toList
theorem bytesLess_eq' : ∀ (x y : List UInt8), Op.bytesLess x y = decide (x < y)
  | [], [] => by simp [Op.bytesLess]
  | _ :: _, [] => by simp [Op.bytesLess]
  | [], _ :: _ => by simp [Op.bytesLess]
  | a :: x, b :: y => by
    rw [Op.bytesLess, bytesLess_eq' x y]
    simp only [List.cons_lt_cons_iff]
    by_cases h1 : a < b <;> by_cases h2 : a = b <;> by_cases h3 : x < y <;> simp [h1, h2, h3]
theorem toList_data' (b : ByteArray) : b.toList = b.data.toList := by simp [ByteArray.toList_eq]
theorem ltB_iff {a b : ByteArray} : ltB a b = true ↔ a.data.toList < b.data.toList := by
  unfold ltB; rw [bytesLess_eq', toList_data', toList_data']; simp
theorem ba_ext {a b : ByteArray} : a.data.toList = b.data.toList ↔ a = b := by
  rw [← toList_data', ← toList_data']
  constructor
  · intro h
    have h2 : a.data.toList = b.data.toList := by rw [← toList_data', ← toList_data']; exact h
    have h3 : a.data = b.data := Array.ext' h2
    cases a; cases b; simp at h3; rw [h3]
  · intro h; rw [h]
theorem ltB_irrefl (a : ByteArray) : ¬ ltB a a = true := by rw [ltB_iff]; exact List.lt_irrefl _
theorem ltB_trans {a b c : ByteArray} (h : ltB a b = true) (h2 : ltB b c = true) : ltB a c = true := by rw [ltB_iff] at *; exact List.lt_trans h h2
theorem lt_of_le_ne {a b : List UInt8} (h : a ≤ b) (hne : a ≠ b) : a < b := Classical.byContradiction fun hn => hne (List.le_antisymm h (List.not_lt.1 hn))
theorem ltB_total {a b : ByteArray} (h : ¬ ltB a b = true) (hne : a ≠ b) : ltB b a = true := by
  rw [ltB_iff] at *
  rcases List.le_total a.data.toList b.data.toList with h1 | h1
  · exact absurd (lt_of_le_ne h1 (fun e => hne (ba_ext.1 e))) h
  · exact lt_of_le_ne h1 (fun e => hne (ba_ext.1 e).symm)
/-- Ascending, nothing twice. -/
def Asc (l : List ByteArray) : Prop := l.Pairwise fun a b => ltB a b = true
theorem asc_ext : ∀ {a b : List ByteArray}, Asc a → Asc b → (∀ x, x ∈ a ↔ x ∈ b) → a = b
  | [], [], _, _, _ => rfl
  | [], y :: _, _, _, h => absurd ((h y).2 List.mem_cons_self) (by simp)
  | x :: _, [], _, _, h => absurd ((h x).1 List.mem_cons_self) (by simp)
  | x :: r, y :: s, ha, hb, h => by
    obtain ⟨hx, hr⟩ := List.pairwise_cons.1 ha
    obtain ⟨hy, hs⟩ := List.pairwise_cons.1 hb
    have e : x = y := by
      have h1 := (h x).1 List.mem_cons_self
      have h2 := (h y).2 List.mem_cons_self
      rcases List.mem_cons.1 h1 with e | h1
      · exact e
      rcases List.mem_cons.1 h2 with e | h2
      · exact e.symm
      exact absurd (ltB_trans (hx y h2) (hy x h1)) (ltB_irrefl x)
    subst e
    congr 1
    refine asc_ext hr hs fun z => ⟨fun hz => ?_, fun hz => ?_⟩
    · rcases List.mem_cons.1 ((h z).1 (List.mem_cons_of_mem _ hz)) with e | h'
      · subst e; exact absurd (hx z hz) (ltB_irrefl z)
      · exact h'
    · rcases List.mem_cons.1 ((h z).2 (List.mem_cons_of_mem _ hz)) with e | h'
      · subst e; exact absurd (hy z hz) (ltB_irrefl z)
      · exact h'
/-- The reference's putting: what is less, the name, what is greater. -/
def putG (x : ByteArray) : List ByteArray → Bool → List ByteArray
  | [], d => if d = true then [] else [x]
  | y :: r, d => (if (!d && !ltB y x) = true then [x] else []) ++ ((if y.toList = x.toList then [] else [y]) ++ putG x r (d || !ltB y x))
theorem putG_true (x : ByteArray) : ∀ l, putG x l true = l.filter fun y => decide (y.toList ≠ x.toList)
  | [] => by simp [putG]
  | y :: r => by
    rw [putG, Bool.true_or, putG_true x r]
    by_cases h : y.toList = x.toList <;> simp [h]
theorem toList_iff {a b : ByteArray} : a.toList = b.toList ↔ a = b := by rw [toList_data', toList_data']; exact ba_ext
theorem mem_putG (x : ByteArray) : ∀ l z, z ∈ putG x l false ↔ z = x ∨ z ∈ l
  | [], z => by simp [putG]
  | y :: r, z => by
    rw [putG]
    by_cases h : ltB y x = true
    · have hne : ¬ y.toList = x.toList := fun e => ltB_irrefl x (by rw [toList_iff] at e; rwa [e] at h)
      simp only [h, Bool.not_true, Bool.and_false, Bool.false_eq_true, if_false, List.nil_append, if_neg hne, Bool.or_false, List.singleton_append, List.mem_cons, mem_putG x r z]
      constructor
      · rintro (h | h | h) <;> simp [h]
      · rintro (h | h | h) <;> simp [h]
    · rw [Bool.not_eq_true] at h
      simp only [h, Bool.not_false, Bool.and_self, if_true, Bool.or_true, putG_true]
      by_cases e : y.toList = x.toList
      · have e' := toList_iff.1 e
        subst e'
        simp only [if_true, List.nil_append, List.singleton_append, List.mem_cons, List.mem_filter, decide_eq_true_iff]
        constructor
        · rintro (h | h); exact .inl h; exact .inr (.inr h.1)
        · rintro (h | h | h)
          · exact .inl h
          · exact .inl h
          · by_cases e2 : z = y
            · exact .inl e2
            · exact .inr ⟨h, fun e3 => e2 (toList_iff.1 e3)⟩
      · simp only [if_neg e, List.singleton_append, List.mem_cons, List.mem_filter, decide_eq_true_iff]
        constructor
        · rintro (h | h | h); exact .inl h; exact .inr (.inl h); exact .inr (.inr h.1)
        · rintro (h | h | h)
          · exact .inl h
          · exact .inr (.inl h)
          · by_cases e2 : z = x
            · exact .inl e2
            · exact .inr (.inr ⟨h, fun e3 => e2 (toList_iff.1 e3)⟩)
theorem asc_putG (x : ByteArray) : ∀ {l}, Asc l → Asc (putG x l false)
  | [], _ => by simp [putG, Asc]
  | y :: r, ha => by
    obtain ⟨hy, hr⟩ := List.pairwise_cons.1 ha
    rw [putG]
    by_cases h : ltB y x = true
    · have hne : ¬ y.toList = x.toList := fun e => ltB_irrefl x (by rw [toList_iff] at e; rwa [e] at h)
      simp only [h, Bool.not_true, Bool.and_false, Bool.false_eq_true, if_false, List.nil_append, if_neg hne, Bool.or_false, List.singleton_append]
      refine List.pairwise_cons.2 ⟨fun z hz => ?_, asc_putG x hr⟩
      rcases (mem_putG x r z).1 hz with e | hz
      · rw [e]; exact h
      · exact hy z hz
    · have h' := h
      rw [Bool.not_eq_true] at h'
      simp only [h', Bool.not_false, Bool.and_self, if_true, Bool.or_true, putG_true]
      have hf : Asc (r.filter fun z => decide (z.toList ≠ x.toList)) := List.Pairwise.filter _ hr
      by_cases e : y.toList = x.toList
      · have e' := toList_iff.1 e
        subst e'
        simp only [if_true, List.nil_append, List.singleton_append]
        exact List.pairwise_cons.2 ⟨fun z hz => hy z (List.mem_filter.1 hz).1, hf⟩
      · have hxy : ltB x y = true := ltB_total h (fun e2 => e (toList_iff.2 e2))
        simp only [if_neg e, List.singleton_append]
        refine List.pairwise_cons.2 ⟨fun z hz => ?_, List.pairwise_cons.2 ⟨fun z hz => hy z (List.mem_filter.1 hz).1, hf⟩⟩
        rcases List.mem_cons.1 hz with e2 | hz
        · rw [e2]; exact hxy
        · exact ltB_trans hxy (hy z (List.mem_filter.1 hz).1)
theorem putG_length (x : ByteArray) : ∀ l d, (putG x l d).length ≤ l.length + 1
  | [], d => by rw [putG]; split <;> simp
  | y :: r, d => by
    rw [putG]
    cases d with
    | true =>
      have := putG_length x r true
      simp only [Bool.not_true, Bool.false_and, Bool.false_eq_true, if_false, List.nil_append, Bool.true_or, List.length_append, List.length_cons]
      split <;> simp <;> omega
    | false =>
      by_cases h : ltB y x = true
      · have := putG_length x r false
        simp only [h, Bool.not_true, Bool.and_false, Bool.false_eq_true, if_false, List.nil_append, Bool.or_false, List.length_append, List.length_cons]
        split <;> simp <;> omega
      · rw [Bool.not_eq_true] at h
        have h1 := List.length_filter_le (fun z => decide (z.toList ≠ x.toList)) r
        simp only [h, Bool.not_false, Bool.and_self, if_true, Bool.or_true, putG_true, List.length_append, List.length_cons]
        split <;> simp at h1 ⊢ <;> omega
/-- All of a list put, one behind the other. -/
def puts (l acc : List ByteArray) : List ByteArray := l.foldl (fun a x => putG x a false) acc
theorem asc_puts : ∀ (l : List ByteArray) {acc}, Asc acc → Asc (puts l acc)
  | [], _, h => h
  | x :: r, _, h => asc_puts r (asc_putG x h)
theorem mem_puts : ∀ (l : List ByteArray) (acc : List ByteArray) (z : ByteArray), z ∈ puts l acc ↔ z ∈ l ∨ z ∈ acc
  | [], acc, z => by simp [puts]
  | x :: r, acc, z => by
    show z ∈ puts r (putG x acc false) ↔ _
    rw [mem_puts r, mem_putG, List.mem_cons]
    constructor
    · rintro (h | h | h) <;> simp [h]
    · rintro ((h | h) | h) <;> simp [h]
theorem puts_length : ∀ (l acc : List ByteArray), (puts l acc).length ≤ l.length + acc.length
  | [], acc => by simp [puts]
  | x :: r, acc => by
    have h1 := puts_length r (putG x acc false)
    have h2 := putG_length x acc false
    show (puts r (putG x acc false)).length ≤ _
    rw [List.length_cons]; omega
theorem compactUpTo_mem {α : Type} [Inhabited α] [DecidableEq α] (d : Array α) : ∀ (m : Nat) (x : α), x ∈ Lib.compactUpTo d m ↔ ∃ j, j < m ∧ d[j]! = x
  | 0, x => by simp [Lib.compactUpTo]
  | m + 1, x => by
    rw [Lib.compactUpTo_succ, List.mem_append, compactUpTo_mem d m x]
    by_cases hk : Lib.keeps d m = true
    · rw [if_pos hk, List.mem_singleton]
      constructor
      · rintro (⟨j, hj, e⟩ | e)
        · exact ⟨j, by omega, e⟩
        · exact ⟨m, by omega, e.symm⟩
      · rintro ⟨j, hj, e⟩
        by_cases h : j = m
        · subst h; exact .inr e.symm
        · exact .inl ⟨j, by omega, e⟩
    · rw [if_neg hk]
      have hm : m ≠ 0 ∧ d[m]! = d[m - 1]! := by
        unfold Lib.keeps at hk
        simp only [decide_eq_true_iff, not_or, Classical.not_not] at hk
        exact hk
      constructor
      · rintro (⟨j, hj, e⟩ | e)
        · exact ⟨j, by omega, e⟩
        · simp at e
      · rintro ⟨j, hj, e⟩
        by_cases h : j = m
        · subst h; exact .inl ⟨j - 1, by omega, by rw [← hm.2]; exact e⟩
        · exact .inl ⟨j, by omega, e⟩
theorem compactUpTo_asc (d : Array (List UInt8)) (hs : ∀ i j, i ≤ j → j < d.size → d[i]! ≤ d[j]!) : ∀ m, m ≤ d.size → (Lib.compactUpTo d m).Pairwise (fun a b => a < b)
  | 0, _ => by simp [Lib.compactUpTo]
  | m + 1, hm => by
    rw [Lib.compactUpTo_succ]
    have ih := compactUpTo_asc d hs m (by omega)
    by_cases hk : Lib.keeps d m = true
    · rw [if_pos hk]
      refine List.pairwise_append.2 ⟨ih, by simp, fun a ha b hb => ?_⟩
      rw [List.mem_singleton] at hb; subst hb
      obtain ⟨j, hj, rfl⟩ := (compactUpTo_mem d m a).1 ha
      have h2 : d[m]! ≠ d[m - 1]! := by
        unfold Lib.keeps at hk
        rcases of_decide_eq_true hk with h | h
        · omega
        · exact h
      have h3 : d[m - 1]! < d[m]! := lt_of_le_ne (hs _ _ (by omega) (by omega)) (fun e => h2 e.symm)
      exact List.lt_of_le_of_lt (hs j (m - 1) (by omega) (by omega)) h3
    · rw [if_neg hk, List.append_nil]; exact ih
theorem unS_mkS (l : List (List UInt8)) : unS (mkS l) = l := by
  unfold unS mkS; rw [List.map_map]; exact (List.map_congr_left (fun _ _ => rfl)).trans (List.map_id l)
theorem compactSort_eq (l : List ByteArray) : compactS (sortS l) = puts l [] := by
  have hsp := List.pairwise_mergeSort (le := fun x y : List UInt8 => decide (x ≤ y)) (fun a b c h1 h2 => by simp at *; exact List.le_trans h1 h2) (fun a b => by simp; exact List.le_total a b) (unS l)
  have hpm := List.mergeSort_perm (unS l) (fun x y : List UInt8 => decide (x ≤ y))
  unfold compactS sortS
  rw [unS_mkS]
  generalize hz : (unS l).mergeSort (fun x y : List UInt8 => decide (x ≤ y)) = zs at hsp hpm ⊢
  have hs : ∀ i j, i ≤ j → j < zs.toArray.size → zs.toArray[i]! ≤ zs.toArray[j]! := by
    intro i j hij hj
    have hj' : j < zs.length := by simpa using hj
    rw [getElem!_pos _ i (by simp; omega), getElem!_pos _ j (by simpa using hj')]
    simp only [List.getElem_toArray]
    by_cases e : i = j
    · subst e; exact List.le_refl _
    · simpa using List.pairwise_iff_getElem.1 hsp i j (by omega) hj' (by omega)
  refine asc_ext ?_ (asc_puts l (by simp [Asc])) (fun x => ?_)
  · unfold Lib.compact mkS Asc
    rw [List.pairwise_map]
    refine (compactUpTo_asc zs.toArray hs zs.length (by simp)).imp fun {a b} h => ?_
    rw [ltB_iff]; simpa using h
  · rw [mem_puts]
    unfold Lib.compact mkS
    simp only [List.mem_map, compactUpTo_mem, List.not_mem_nil, or_false]
    constructor
    · rintro ⟨_, ⟨j, hj, rfl⟩, rfl⟩
      rw [getElem!_pos _ j (by simpa using hj)]
      have h1 : zs[j] ∈ unS l := hpm.mem_iff.1 (List.getElem_mem hj)
      unfold unS at h1
      obtain ⟨b, hb, e⟩ := List.mem_map.1 h1
      have : (⟨(zs.toArray[j]'(by simpa using hj)).toArray⟩ : ByteArray) = b := by
        simp only [List.getElem_toArray, ← e]
      rw [this]; exact hb
    · intro hx
      have h1 : x.data.toList ∈ zs := hpm.mem_iff.2 (List.mem_map.2 ⟨x, hx, rfl⟩)
      obtain ⟨j, hj, e⟩ := List.getElem_of_mem h1
      refine ⟨x.data.toList, ⟨j, hj, ?_⟩, rfl⟩
      rw [getElem!_pos _ j (by simpa using hj)]
      simpa using e
end Go.Proofs.Ytocegmkifmdlcaa.P

namespace Go.Proofs.Ytocegmkifmdlcaa.P
open Go.RowKit Go.Proofs.YtocegmkifmdlcaaW.PrintWords Go.Proofs.YtocegmkifmdlcaaL
def setG (n : ByteArray) (v : Int) : List S80 → Bool → List S80
  | [], d => if d = true then [] else [⟨n, v⟩]
  | y :: r, d => (if (!d && !ltB y.f0 n) = true then [⟨n, v⟩] else []) ++ ((if y.f0.toList = n.toList then [] else [y]) ++ setG n v r (d || !ltB y.f0 n))
theorem setG_map (n : ByteArray) (v : Int) : ∀ l d, (setG n v l d).map (·.f0) = putG n (l.map (·.f0)) d
  | [], d => by cases d <;> rfl
  | y :: r, d => by
    rw [setG, List.map_cons, putG, List.map_append, List.map_append, setG_map n v r]
    congr 1
    · split <;> rfl
    · congr 1
      split <;> rfl
theorem set_main {l : List S80} (hl : l.length ≤ 1048576) (n : ByteArray) (v : Int) : ∀ (e i : Nat) (out : List S80) (d : Bool), i + e = l.length → out.length ≤ 2 * i → Ev (fun k => spec_l27Set.l0 k l out d (i : Int) n v) (out ++ setG n v (l.drop i) d) := by
  intro e
  induction e with
  | zero =>
    intro i out d hi ho
    obtain rfl : i = l.length := by omega
    rw [List.drop_length]
    cases d with
    | true => exact Ev.step (f := fun _ => some out) (fun k => by simp only [spec_l27Set.l0]; rw [if_neg (nlt_cast _), if_pos trivial]) (by simp only [setG, if_true, List.append_nil]; exact Ev.now _)
    | false => exact Ev.step (f := fun _ => some (out ++ [(⟨n, v⟩ : S80)])) (fun k => by simp only [spec_l27Set.l0]; rw [if_neg (nlt_cast _), if_neg (by decide), if_pos (by omega)]) (by simp only [setG, Bool.false_eq_true, if_false]; exact Ev.now _)
  | succ e ih =>
    intro i out d hi ho
    have hlt : i < l.length := by omega
    have hw := wrap_succ hlt (by omega)
    rw [drop_cons hlt, setG]
    have j1f : ∀ d', Ev (fun k => spec_l27Set.j1 k l out d' (i : Int) false n v) (out ++ ((if l[i].f0.toList = n.toList then [] else [l[i]]) ++ setG n v (l.drop (i + 1)) d')) := by
      intro d'
      by_cases he : l[i].f0.toList = n.toList
      · rw [if_pos he, List.nil_append]
        refine Ev.step (fun k => ?_) (ih (i + 1) out d' (by omega) (by omega))
        simp only [spec_l27Set.j1]
        rw [if_neg (by decide), if_pos (nn_cast i), if_pos (lt_cast hlt), rd_set27 hlt, if_pos he, hw]
      · rw [if_neg he]
        have := ih (i + 1) (out ++ [l[i]]) d' (by omega) (by simp; omega)
        rw [List.append_assoc] at this
        refine Ev.step (fun k => ?_) this
        simp only [spec_l27Set.j1]
        rw [if_neg (by decide), if_pos (nn_cast i), if_pos (lt_cast hlt), rd_set27 hlt, if_neg he, if_pos (by omega), hw]
    cases d with
    | true =>
      refine Ev.step (f := fun k => spec_l27Set.j1 k l out true (i : Int) false n v) (fun k => by simp only [spec_l27Set.l0]; rw [if_pos (lt_cast hlt), if_pos trivial]) ?_
      simpa using j1f true
    | false =>
      refine Ev.step (f := fun k => spec_l27Set.j1 k l out false (i : Int) (!(ltB l[i].f0 n)) n v) (fun k => by simp only [spec_l27Set.l0]; rw [if_pos (lt_cast hlt), if_neg (by decide), if_pos (nn_cast i), rd_set27 hlt]; rfl) ?_
      cases hb : ltB l[i].f0 n with
      | true => simpa using j1f false
      | false =>
        show Ev (fun k => spec_l27Set.j1 k l out false (i : Int) true n v) (out ++ ([⟨n, v⟩] ++ ((if l[i].f0.toList = n.toList then [] else [l[i]]) ++ setG n v (l.drop (i + 1)) true)))
        rw [← List.append_assoc]
        by_cases he : l[i].f0.toList = n.toList
        · rw [if_pos he, List.nil_append]
          refine Ev.step (fun k => ?_) (ih (i + 1) (out ++ [⟨n, v⟩]) true (by omega) (by simp; omega))
          simp only [spec_l27Set.j1]
          rw [if_pos trivial, if_pos (by omega), Option.bind_some, if_pos (nn_cast i), if_pos (lt_cast hlt), rd_set27 hlt, if_pos he, hw]
        · rw [if_neg he]
          have := ih (i + 1) (out ++ [⟨n, v⟩] ++ [l[i]]) true (by omega) (by simp; omega)
          rw [List.append_assoc (out ++ [(⟨n, v⟩ : S80)]) [l[i]]] at this
          refine Ev.step (fun k => ?_) this
          simp only [spec_l27Set.j1]
          rw [if_pos trivial, if_pos (by omega), Option.bind_some, if_pos (nn_cast i), if_pos (lt_cast hlt), rd_set27 hlt, if_neg he, if_pos (by simp; omega), hw]
theorem set_ev {l : List S80} (hl : l.length ≤ 1048576) (n : ByteArray) (v : Int) : Ev (fun k => spec_l27Set.f k l n v) (setG n v l false) := by
  have := set_main hl n v l.length 0 [] false (by omega) (by simp)
  rw [List.nil_append, List.drop_zero] at this
  exact this
def names3 (a b c : List S80) : List ByteArray := puts (c.map (·.f0)) (puts (b.map (·.f0)) (puts (a.map (·.f0)) []))
theorem names3_len (a b c : List S80) : (names3 a b c).length ≤ a.length + b.length + c.length := by
  have h1 := puts_length (c.map (·.f0)) (puts (b.map (·.f0)) (puts (a.map (·.f0)) []))
  have h2 := puts_length (b.map (·.f0)) (puts (a.map (·.f0)) [])
  have h3 := puts_length (a.map (·.f0)) []
  simp only [List.length_map, List.length_nil] at h1 h2 h3
  unfold names3; omega
theorem impl_names_ev {a b c : List S80} (ha : a.length ≤ 24) (hb : b.length ≤ 24) (hc : c.length ≤ 24) : Ev (fun k => impl_namesOf.f k [a, b, c]) (names3 a b c) := by
  unfold impl_namesOf.f
  have row : ∀ (l : List S80) (j : Int) (r : List ByteArray), l.length ≤ 24 → ∀ (e i : Nat) (x : List ByteArray), i + e = l.length → x.length + e ≤ 100 → Ev (fun k => impl_namesOf.l0 k (x ++ (l.drop i).map (·.f0)) [a, b, c] 3 (wrap64 (j + 1))) r → Ev (fun k => impl_namesOf.l1 k x [a, b, c] 3 j l (l.length : Int) (i : Int)) r := by
    intro l j r hl e
    induction e with
    | zero =>
      intro i x hi hx h
      obtain rfl : i = l.length := by omega
      rw [List.drop_length, List.map_nil, List.append_nil] at h
      exact Ev.step (fun k => by simp only [impl_namesOf.l1]; rw [if_neg (by omega)]) h
    | succ e ih =>
      intro i x hi hx h
      have hlt : i < l.length := by omega
      rw [drop_cons hlt, List.map_cons] at h
      refine Ev.step (fun k => ?_) (ih (i + 1) (x ++ [l[i].f0]) (by omega) (by simp; omega) (by rw [List.append_assoc]; exact h))
      simp only [impl_namesOf.l1]
      rw [if_pos (lt_cast hlt), if_pos (nn_cast i), if_pos (lt_cast hlt), if_pos (by omega), rd_set27 hlt, wrap_succ hlt (by omega)]
  have step : ∀ (j : Nat) (l : List S80) (x : List ByteArray) (r : List ByteArray), j < 3 → rd_L15 [a, b, c] (j : Int) = l → l.length ≤ 24 → x.length ≤ 24 * j → Ev (fun k => impl_namesOf.l0 k (x ++ l.map (·.f0)) [a, b, c] 3 ((j + 1 : Nat) : Int)) r → Ev (fun k => impl_namesOf.l0 k x [a, b, c] 3 (j : Int)) r := by
    intro j l x r hj hl h24 hx h
    refine Ev.step (f := fun k => impl_namesOf.l1 k x [a, b, c] 3 (j : Int) l (l.length : Int) 0) (fun k => ?_) ?_
    · simp only [impl_namesOf.l0]
      rw [if_pos (by omega), if_pos (by omega), if_pos (by simp; omega), hl]
    · refine row l (j : Int) r h24 l.length 0 x (by omega) (by omega) ?_
      rw [List.drop_zero, wrap_id (by omega) (by omega)]
      exact h
  refine step 0 a [] _ (by omega) rfl ha (by simp) ?_
  refine step 1 b _ _ (by omega) rfl hb (by simp; omega) ?_
  refine step 2 c _ _ (by omega) rfl hc (by simp; omega) ?_
  refine Ev.step (f := fun k => some (names3 a b c)) (fun k => ?_) (Ev.now _)
  simp only [impl_namesOf.l0]
  rw [if_neg (by omega)]
  unfold slices_Sort_S_string.f slices_Compact_S_string.f
  rw [if_pos (by simp; omega), Option.bind_some, Option.bind_some, compactSort_eq]
  unfold names3 puts
  rw [List.nil_append, List.foldl_append, List.foldl_append]
theorem thing_ev {l : List S80} (hl : l.length ≤ 1048576) (nm : ByteArray) : Ev (fun k => impl_thingAt.f k l nm) (val27 nm l) := by
  unfold impl_thingAt.f
  exact Ev.bind (val27_ev hl nm) (Ev.now _)
def same27 (a b : List S80) (nm : ByteArray) : Bool := ((val27 nm a).1 == (val27 nm b).1) && ((val27 nm a).2 == (val27 nm b).2)
def confB (a b c : List S80) (nm : ByteArray) : Bool := !(same27 b c nm || same27 b a nm || same27 c a nm)
theorem same_symm (a b : List S80) (nm : ByteArray) : same27 a b nm = same27 b a nm := by unfold same27; rw [Bool.beq_comm, Bool.beq_comm (a := (val27 nm a).2)]
theorem sel_ev {a b c : List S80} (ha : a.length ≤ 1048576) (hb : b.length ≤ 1048576) (hc : c.length ≤ 1048576) : ∀ (ns : List ByteArray), Ev (fun k => impl_conflictsOf.sel (impl_conflictsOf.q k a b c) ns) (ns.filter (confB a b c))
  | [] => Ev.now _
  | x :: r => by
    have hq : Ev (fun k => impl_conflictsOf.q k a b c x) (same27 b c x || same27 b a x || same27 c a x) :=
      Ev.bind (thing_ev ha x) (Ev.bind (thing_ev hb x) (Ev.bind (thing_ev hc x) (Ev.now _)))
    have := Ev.bind (f := fun k t => some (if (same27 b c x || same27 b a x || same27 c a x) = true then t else x :: t)) (sel_ev ha hb hc r) (Ev.now _)
    rw [List.filter_cons]
    have he : (if (same27 b c x || same27 b a x || same27 c a x) = true then r.filter (confB a b c) else x :: r.filter (confB a b c)) = if confB a b c x = true then x :: r.filter (confB a b c) else r.filter (confB a b c) := by
      unfold confB
      cases (same27 b c x || same27 b a x || same27 c a x) <;> rfl
    rw [← he]
    exact Ev.bind hq this

theorem conflictsOf_ev {a b c : List S80} (ha : stateB a = true) (hb : stateB b = true) (hc : stateB c = true) : Ev (fun k => impl_conflictsOf.f k a b c) ((names3 a b c).filter (confB a b c)) := by
  have la := state_len ha
  have lb := state_len hb
  have lc := state_len hc
  exact Ev.bind (impl_names_ev la lb lc) (sel_ev (by omega) (by omega) (by omega) _)

def mrg (a b c : List S80) (nm : ByteArray) : List S80 := if same27 b a nm = true then (if (val27 nm c).2 = true then [⟨nm, (val27 nm c).1⟩] else []) else (if (val27 nm b).2 = true then [⟨nm, (val27 nm b).1⟩] else [])
def merged (a b c : List S80) (ns : List ByteArray) : List S80 := ns.flatMap (mrg a b c)
def mcode (l : List S80) : List S80 × Int := if (l.length : Int) > 24 then ([], 5) else (l, 0)
theorem merge_impl {a b c : List S80} (ha : a.length ≤ 1048576) (hb : b.length ≤ 1048576) (hc : c.length ≤ 1048576) {ns : List ByteArray} (hn : ns.length ≤ 1048576) : Ev (fun k => impl_MergeStates.l0 k a b c [] ns (ns.length : Int) 0) (mcode (merged a b c ns)) := by
  have main : ∀ (e i : Nat) (out : List S80), i + e = ns.length → out.length ≤ i → Ev (fun k => impl_MergeStates.l0 k a b c out ns (ns.length : Int) (i : Int)) (mcode (out ++ merged a b c (ns.drop i))) := by
    intro e
    induction e with
    | zero =>
      intro i out hi ho
      obtain rfl : i = ns.length := by omega
      rw [List.drop_length]
      refine Ev.step (f := fun _ => some (mcode out)) (fun k => ?_) (by simp only [merged, List.flatMap_nil, List.append_nil]; exact Ev.now _)
      simp only [impl_MergeStates.l0, mcode]
      rw [if_neg (nlt_cast _)]
      split <;> rfl
    | succ e ih =>
      intro i out hi ho
      have hlt : i < ns.length := by omega
      have hr : rdOf ByteArray.empty ns (i : Int) = ns[i] := by simp [rdOf, List.getD_eq_getElem?_getD, List.getElem?_eq_getElem hlt]
      have hm : merged a b c (ns.drop i) = mrg a b c ns[i] ++ merged a b c (ns.drop (i + 1)) := by rw [drop_cons hlt]; rfl
      have n1 := ih (i + 1) out (by omega) (by omega)
      have n2 := fun z => ih (i + 1) (out ++ [z]) (by omega) (by simp; omega)
      refine Ev.step (f := fun k => (impl_thingAt.f k b ns[i]).bind fun y => (impl_thingAt.f k a ns[i]).bind fun x => (if (y.1 == x.1 && (y.2 == x.2)) = true then ((impl_thingAt.f k c ns[i]).bind fun z => (if z.2 = true then impl_MergeStates.l0 k a b c (out ++ [⟨ns[i], z.1⟩]) ns (ns.length : Int) ((i + 1 : Nat) : Int) else impl_MergeStates.l0 k a b c out ns (ns.length : Int) ((i + 1 : Nat) : Int))) else (if y.2 = true then impl_MergeStates.l0 k a b c (out ++ [⟨ns[i], y.1⟩]) ns (ns.length : Int) ((i + 1 : Nat) : Int) else impl_MergeStates.l0 k a b c out ns (ns.length : Int) ((i + 1 : Nat) : Int)))) (fun k => ?_) ?_
      · simp only [impl_MergeStates.l0, hr]
        rw [if_pos (lt_cast hlt), if_pos (nn_cast i), if_pos (lt_cast hlt), wrap_succ hlt (by omega)]
        simp only [if_pos (by omega : out.length < 5864062014805)]
      · refine Ev.bind (thing_ev hb _) (Ev.bind (thing_ev ha _) ?_)
        rw [hm]
        unfold mrg
        by_cases h1 : same27 b a ns[i] = true
        · rw [if_pos h1]
          refine Ev.pos h1 (Ev.bind (thing_ev hc _) ?_)
          by_cases h2 : (val27 ns[i] c).2 = true
          · rw [if_pos h2, ← List.append_assoc]
            exact Ev.pos h2 (n2 _)
          · rw [if_neg h2, List.nil_append]
            exact Ev.neg h2 n1
        · rw [if_neg h1]
          refine Ev.neg h1 ?_
          by_cases h2 : (val27 ns[i] b).2 = true
          · rw [if_pos h2, ← List.append_assoc]
            exact Ev.pos h2 (n2 _)
          · rw [if_neg h2, List.nil_append]
            exact Ev.neg h2 n1
  have := main ns.length 0 [] (by omega) (by simp)
  rw [List.nil_append, List.drop_zero] at this
  exact this
def mergeR (a b c : List S80) : List S80 × Int := if (((names3 a b c).filter (confB a b c)).length : Int) > 0 then ([], 6) else mcode (merged a b c (names3 a b c))
theorem merge_j0 {a b c : List S80} (ha : stateB a = true) (hb : stateB b = true) (hc : stateB c = true) : Ev (fun k => impl_MergeStates.j0 k a b c false) (mergeR a b c) := by
  have la := state_len ha
  have lb := state_len hb
  have lc := state_len hc
  have hl := names3_len a b c
  unfold mergeR
  refine Ev.step (f := fun k => (impl_conflictsOf.f k a b c).bind fun t => (if (t.length : Int) > 0 then some ([], 6) else ((impl_namesOf.f k [a, b, c]).bind fun ns => impl_MergeStates.l0 k a b c [] ns (ns.length : Int) 0))) (fun k => by simp only [impl_MergeStates.j0]; rw [if_neg (by decide)]) ?_
  refine Ev.bind (conflictsOf_ev ha hb hc) ?_
  by_cases h : (((names3 a b c).filter (confB a b c)).length : Int) > 0
  · rw [if_pos h]; exact Ev.pos h (Ev.now _)
  · rw [if_neg h]
    exact Ev.neg h (Ev.bind (impl_names_ev la lb lc) (merge_impl (by omega) (by omega) (by omega) (by omega)))
theorem mergeR_len (a b c : List S80) : (mergeR a b c).1.length ≤ 24 := by
  unfold mergeR mcode
  split
  · simp
  · split
    · simp
    · next h => simp only; omega
def mergeS (a b c : List S80) : List S80 × Int := if stateB a = true then (if stateB b = true then (if stateB c = true then mergeR a b c else ([], 1)) else ([], 1)) else ([], 1)
theorem merge_impl_ev {a b c : List S80} (ha : a.length ≤ 1048576) (hb : b.length ≤ 1048576) (hc : c.length ≤ 1048576) : Ev (fun k => impl_MergeStates.f k a b c) (mergeS a b c) := by
  have jt : Ev (fun k => impl_MergeStates.j0 k a b c true) (([] : List S80), (1 : Int)) := Ev.step (f := fun _ => some ([], 1)) (fun k => by simp only [impl_MergeStates.j0, if_true]) (Ev.now _)
  unfold impl_MergeStates.f mergeS
  refine Ev.bind (State_impl_ev ha) ?_
  by_cases h1 : stateB a = true
  rotate_left
  · rw [if_neg h1]; exact Ev.neg h1 jt
  rw [if_pos h1]
  refine Ev.pos h1 (Ev.bind (State_impl_ev hb) ?_)
  by_cases h2 : stateB b = true
  rotate_left
  · rw [if_neg h2]; exact Ev.neg h2 jt
  rw [if_pos h2]
  refine Ev.pos h2 (Ev.bind (State_impl_ev hc) ?_)
  by_cases h3 : stateB c = true
  rotate_left
  · rw [if_neg h3, eq_false_of_ne_true h3]; exact jt
  rw [if_pos h3, h3]
  exact merge_j0 h1 h2 h3
theorem mergeS_len (a b c : List S80) : (mergeS a b c).1.length ≤ 24 := by
  have := mergeR_len a b c
  unfold mergeS
  repeat' split
  all_goals first | exact this | simp

theorem state_at {l : List S80} (h : stateB l = true) {i : Nat} (hi : i < l.length) : settingB l[i] = true ∧ (i = 0 ∨ ltB (l[i - 1]'(by omega)).f0 l[i].f0 = true) := by
  unfold stateB at h
  simp only [Bool.and_eq_true, List.all_eq_true, List.mem_range, decide_eq_true_iff] at h
  have := h.1 i hi
  unfold stateAt at this
  rw [rd_set27 hi, rd_set27 (show i - 1 < l.length by omega)] at this
  simp only [Bool.and_eq_true, Bool.or_eq_true, decide_eq_true_iff] at this
  exact this
theorem state_asc {l : List S80} (h : stateB l = true) : Asc (l.map (·.f0)) := by
  unfold Asc
  rw [List.pairwise_map, List.pairwise_iff_getElem]
  intro i j hi hj hij
  induction j with
  | zero => omega
  | succ j ih =>
    have h1 := ((state_at h hj).2).resolve_left (by omega)
    simp only [Nat.add_sub_cancel] at h1
    by_cases e : i = j
    · subst e; exact h1
    · exact ltB_trans (ih (by omega) (by omega)) h1
theorem state_setting {l : List S80} (h : stateB l = true) : ∀ x ∈ l, settingB x = true := by
  intro x hx
  obtain ⟨i, hi, rfl⟩ := List.getElem_of_mem hx
  exact (state_at h hi).1
theorem state_of {l : List S80} (h1 : Asc (l.map (·.f0))) (h2 : ∀ x ∈ l, settingB x = true) (h3 : l.length ≤ 24) : stateB l = true := by
  unfold stateB
  simp only [Bool.and_eq_true, List.all_eq_true, List.mem_range, decide_eq_true_iff]
  refine ⟨fun i hi => ?_, h3⟩
  unfold stateAt
  rw [rd_set27 hi, rd_set27 (show i - 1 < l.length by omega), h2 _ (List.getElem_mem hi), Bool.true_and]
  simp only [Bool.or_eq_true, decide_eq_true_iff]
  by_cases e : i = 0
  · exact .inl e
  · right
    unfold Asc at h1
    rw [List.pairwise_map, List.pairwise_iff_getElem] at h1
    exact h1 (i - 1) i (by omega) hi (by omega)
theorem names3_asc (a b c : List S80) : Asc (names3 a b c) := by
  unfold names3
  exact asc_puts _ (asc_puts _ (asc_puts _ List.Pairwise.nil))
theorem mem_names3 (a b c : List S80) (z : ByteArray) : z ∈ names3 a b c ↔ z ∈ c.map (·.f0) ∨ z ∈ b.map (·.f0) ∨ z ∈ a.map (·.f0) := by
  unfold names3
  rw [mem_puts, mem_puts, mem_puts]
  simp
theorem names3_symm (a b c : List S80) : names3 a b c = names3 a c b := by
  refine asc_ext (names3_asc _ _ _) (names3_asc _ _ _) (fun x => ?_)
  rw [mem_names3, mem_names3]
  constructor
  · rintro (h | h | h) <;> simp [h]
  · rintro (h | h | h) <;> simp [h]
theorem val_mem : ∀ {l : List S80}, Asc (l.map (·.f0)) → ∀ x ∈ l, val27 x.f0 l = (x.f1, true)
  | [], _, x, hx => by cases hx
  | y :: r, ha, x, hx => by
    obtain ⟨hy, hr⟩ := List.pairwise_cons.1 ha
    rcases List.mem_cons.1 hx with e | hx
    · subst e; rw [val27, if_pos rfl]
    · have hlt : ltB y.f0 x.f0 = true := hy x.f0 (List.mem_map.2 ⟨x, hx, rfl⟩)
      rw [val27, if_neg (fun e => ltB_irrefl x.f0 (by rw [toList_iff] at e; rwa [e] at hlt))]
      exact val_mem hr x hx
theorem val_in {l : List S80} {nm : ByteArray} (h : (val27 nm l).2 = true) : (⟨nm, (val27 nm l).1⟩ : S80) ∈ l := by
  rcases at27_cases nm l 0 with ⟨_, h2, _⟩ | ⟨j, hj, _, h2, h3⟩
  · rw [h2] at h; cases h
  · rw [h2]
    have e : (⟨nm, (l[j].f1, true).1⟩ : S80) = l[j] := by rw [← toList_iff.1 h3]
    rw [e]; exact List.getElem_mem hj
def pick27 (a : List S80) (nm : ByteArray) : List S80 := if (val27 nm a).2 = true then [⟨nm, (val27 nm a).1⟩] else []
theorem mrg_pick (a b c : List S80) (nm : ByteArray) : mrg a b c nm = if same27 b a nm = true then pick27 c nm else pick27 b nm := rfl
theorem same_val {a b : List S80} {nm : ByteArray} (h : same27 a b nm = true) : val27 nm a = val27 nm b := by
  unfold same27 at h
  simp only [Bool.and_eq_true, beq_iff_eq] at h
  exact Prod.ext h.1 h.2
theorem same_self (a : List S80) (nm : ByteArray) : same27 a a nm = true := by simp [same27]
theorem pick_same {a b : List S80} {nm : ByteArray} (h : same27 a b nm = true) : pick27 a nm = pick27 b nm := by unfold pick27; rw [same_val h]
/-- One or none of each name: the names stay in order. -/
theorem flat_asc (g : ByteArray → List S80) (hg : ∀ nm, g nm = [] ∨ ∃ v, g nm = [⟨nm, v⟩]) : ∀ {ns : List ByteArray}, Asc ns → Asc ((ns.flatMap g).map (·.f0)) ∧ ∀ z ∈ (ns.flatMap g).map (·.f0), z ∈ ns
  | [], _ => ⟨List.Pairwise.nil, fun _ h => by cases h⟩
  | n :: r, ha => by
    obtain ⟨hn, hr⟩ := List.pairwise_cons.1 ha
    obtain ⟨i1, i2⟩ := flat_asc g hg hr
    rw [List.flatMap_cons]
    rcases hg n with e | ⟨v, e⟩
    · rw [e, List.nil_append]; exact ⟨i1, fun z hz => List.mem_cons_of_mem _ (i2 z hz)⟩
    · rw [e]
      refine ⟨List.pairwise_cons.2 ⟨fun z hz => hn z (i2 z hz), i1⟩, fun z hz => ?_⟩
      rcases List.mem_cons.1 hz with h | h
      · rw [h]; exact List.mem_cons_self
      · exact List.mem_cons_of_mem _ (i2 z h)
theorem pick_one (a : List S80) (nm : ByteArray) : pick27 a nm = [] ∨ ∃ v, pick27 a nm = [⟨nm, v⟩] := by
  unfold pick27
  split
  · exact .inr ⟨_, rfl⟩
  · exact .inl rfl
theorem mrg_one (a b c : List S80) (nm : ByteArray) : mrg a b c nm = [] ∨ ∃ v, mrg a b c nm = [⟨nm, v⟩] := by
  rw [mrg_pick]; split
  · exact pick_one _ _
  · exact pick_one _ _
theorem ascS_ext : ∀ {a b : List S80}, Asc (a.map (·.f0)) → Asc (b.map (·.f0)) → (∀ x, x ∈ a ↔ x ∈ b) → a = b
  | [], [], _, _, _ => rfl
  | [], y :: _, _, _, h => absurd ((h y).2 List.mem_cons_self) (by simp)
  | x :: _, [], _, _, h => absurd ((h x).1 List.mem_cons_self) (by simp)
  | x :: r, y :: s, ha, hb, h => by
    obtain ⟨hx, hr⟩ := List.pairwise_cons.1 ha
    obtain ⟨hy, hs⟩ := List.pairwise_cons.1 hb
    have e : x = y := by
      have h1 := (h x).1 List.mem_cons_self
      have h2 := (h y).2 List.mem_cons_self
      rcases List.mem_cons.1 h1 with e | h1
      · exact e
      rcases List.mem_cons.1 h2 with e | h2
      · exact e.symm
      exact absurd (ltB_trans (hx y.f0 (List.mem_map.2 ⟨y, h2, rfl⟩)) (hy x.f0 (List.mem_map.2 ⟨x, h1, rfl⟩))) (ltB_irrefl x.f0)
    subst e
    congr 1
    refine ascS_ext hr hs fun z => ⟨fun hz => ?_, fun hz => ?_⟩
    · rcases List.mem_cons.1 ((h z).1 (List.mem_cons_of_mem _ hz)) with e | h'
      · subst e; exact absurd (hx z.f0 (List.mem_map.2 ⟨z, hz, rfl⟩)) (ltB_irrefl z.f0)
      · exact h'
    · rcases List.mem_cons.1 ((h z).2 (List.mem_cons_of_mem _ hz)) with e | h'
      · subst e; exact absurd (hy z.f0 (List.mem_map.2 ⟨z, hz, rfl⟩)) (ltB_irrefl z.f0)
      · exact h'
theorem picks_eq {a : List S80} (ha : Asc (a.map (·.f0))) {ns : List ByteArray} (hn : Asc ns) (hs : ∀ x ∈ a, x.f0 ∈ ns) : ns.flatMap (pick27 a) = a := by
  refine ascS_ext (flat_asc _ (pick_one a) hn).1 ha (fun x => ?_)
  rw [List.mem_flatMap]
  constructor
  · rintro ⟨nm, _, h⟩
    unfold pick27 at h
    split at h
    · next hv => rw [List.mem_singleton.1 h]; exact val_in hv
    · cases h
  · intro hx
    refine ⟨x.f0, hs x hx, ?_⟩
    unfold pick27
    rw [val_mem ha x hx, if_pos rfl]
    exact List.mem_singleton.2 rfl
theorem merged_congr {a b c d e f : List S80} {ns : List ByteArray} (h : ∀ nm ∈ ns, mrg a b c nm = mrg d e f nm) : merged a b c ns = merged d e f ns := by
  induction ns with
  | nil => rfl
  | cons n r ih =>
    unfold merged at ih ⊢
    rw [List.flatMap_cons, List.flatMap_cons, h n List.mem_cons_self, ih (fun x hx => h x (List.mem_cons_of_mem _ hx))]
theorem merged_is {a b c x : List S80} (hx : Asc (x.map (·.f0))) (hsub : ∀ y ∈ x, y.f0 ∈ names3 a b c) (h : ∀ nm, mrg a b c nm = pick27 x nm) : merged a b c (names3 a b c) = x := by
  have : merged a b c (names3 a b c) = (names3 a b c).flatMap (pick27 x) := by unfold merged; congr 1; funext nm; exact h nm
  rw [this]; exact picks_eq hx (names3_asc _ _ _) hsub
theorem mem_f0 {x : List S80} {y : S80} (h : y ∈ x) : y.f0 ∈ x.map (·.f0) := List.mem_map.2 ⟨y, h, rfl⟩
theorem mergeR_is {a b c x : List S80} (hx : stateB x = true) (hsub : ∀ y ∈ x, y.f0 ∈ names3 a b c) (h : ∀ nm, mrg a b c nm = pick27 x nm) (hc : ∀ nm, confB a b c nm = false) : mergeR a b c = (x, 0) := by
  have h1 : (names3 a b c).filter (confB a b c) = [] := List.filter_eq_nil_iff.2 (fun n _ => by rw [hc n]; decide)
  have h2 := state_len hx
  unfold mergeR
  rw [h1, if_neg (by decide), merged_is (state_asc hx) hsub h]
  unfold mcode
  rw [if_neg (by omega)]
theorem merge_left {a x : List S80} (ha : stateB a = true) (hx : stateB x = true) : mergeS a x a = (x, 0) := by
  unfold mergeS
  rw [if_pos ha, if_pos hx, if_pos ha]
  refine mergeR_is hx (fun y hy => (mem_names3 _ _ _ _).2 (.inr (.inl (mem_f0 hy)))) (fun nm => ?_) (fun nm => ?_)
  · rw [mrg_pick]; split
    · next h => exact (pick_same h).symm
    · rfl
  · unfold confB; rw [same_self a]; simp
theorem merge_right {a x : List S80} (ha : stateB a = true) (hx : stateB x = true) : mergeS a a x = (x, 0) := by
  unfold mergeS
  rw [if_pos ha, if_pos ha, if_pos hx]
  refine mergeR_is hx (fun y hy => (mem_names3 _ _ _ _).2 (.inl (mem_f0 hy))) (fun nm => ?_) (fun nm => ?_)
  · rw [mrg_pick, if_pos (same_self a nm)]
  · unfold confB; rw [same_self a]; simp
theorem merge_both {a x : List S80} (ha : stateB a = true) (hx : stateB x = true) : mergeS a x x = (x, 0) := by
  unfold mergeS
  rw [if_pos ha, if_pos hx, if_pos hx]
  refine mergeR_is hx (fun y hy => (mem_names3 _ _ _ _).2 (.inl (mem_f0 hy))) (fun nm => ?_) (fun nm => ?_)
  · rw [mrg_pick]; split <;> rfl
  · unfold confB; rw [same_self x]; simp
theorem conf_symm (a b c : List S80) : confB a b c = confB a c b := by
  funext nm
  unfold confB
  rw [same_symm c b]
  cases same27 b c nm <;> cases same27 b a nm <;> cases same27 c a nm <;> rfl
theorem mrg_symm {a b c : List S80} {nm : ByteArray} (h : confB a b c nm = false) : mrg a b c nm = mrg a c b nm := by
  rw [mrg_pick, mrg_pick]
  unfold confB at h
  cases h1 : same27 b a nm <;> cases h2 : same27 c a nm
  · rw [h1, h2] at h
    have h3 : same27 b c nm = true := by simpa using h
    rw [if_neg (by decide), if_neg (by decide)]; exact pick_same h3
  · rw [if_neg (by decide), if_pos rfl]
  · rw [if_pos rfl, if_neg (by decide)]
  · rw [if_pos rfl, if_pos rfl, pick_same h2, pick_same h1]
theorem confl_symm (a b c : List S80) : (names3 a b c).filter (confB a b c) = (names3 a c b).filter (confB a c b) := by rw [names3_symm a b c, conf_symm a b c]
theorem mergeR_symm (a b c : List S80) : mergeR a b c = mergeR a c b := by
  unfold mergeR
  rw [← confl_symm a b c]
  by_cases h : (((names3 a b c).filter (confB a b c)).length : Int) > 0
  · rw [if_pos h, if_pos h]
  · rw [if_neg h, if_neg h, ← names3_symm a b c]
    congr 1
    refine merged_congr (fun nm hnm => mrg_symm ?_)
    have hnil : (names3 a b c).filter (confB a b c) = [] := List.eq_nil_of_length_eq_zero (by omega)
    have := List.filter_eq_nil_iff.1 hnil nm hnm
    simpa using this
theorem mergeS_symm (a b c : List S80) : mergeS a b c = mergeS a c b := by
  unfold mergeS
  rw [mergeR_symm a b c]
  cases stateB a <;> cases stateB b <;> cases stateB c <;> rfl
theorem pick_in {a : List S80} {nm : ByteArray} {y : S80} (h : y ∈ pick27 a nm) : y ∈ a := by
  unfold pick27 at h
  split at h
  · next hv => rw [List.mem_singleton.1 h]; exact val_in hv
  · cases h
theorem merged_valid {a b c : List S80} (hb : stateB b = true) (hc : stateB c = true) (hl : (merged a b c (names3 a b c)).length ≤ 24) : stateB (merged a b c (names3 a b c)) = true := by
  refine state_of (flat_asc _ (mrg_one a b c) (names3_asc a b c)).1 (fun x hx => ?_) hl
  unfold merged at hx
  obtain ⟨nm, _, h⟩ := List.mem_flatMap.1 hx
  rw [mrg_pick] at h
  split at h
  · exact state_setting hc x (pick_in h)
  · exact state_setting hb x (pick_in h)
theorem mergeS_valid {a b c : List S80} (h : (mergeS a b c).2 = 0) : stateB (mergeS a b c).1 = true := by
  unfold mergeS at h ⊢
  by_cases h1 : stateB a = true
  rotate_left
  · rw [if_neg h1] at h; cases h
  by_cases h2 : stateB b = true
  rotate_left
  · rw [if_pos h1, if_neg h2] at h; cases h
  by_cases h3 : stateB c = true
  rotate_left
  · rw [if_pos h1, if_pos h2, if_neg h3] at h; cases h
  rw [if_pos h1, if_pos h2, if_pos h3] at h ⊢
  unfold mergeR at h ⊢
  by_cases h4 : (((names3 a b c).filter (confB a b c)).length : Int) > 0
  · rw [if_pos h4] at h; cases h
  rw [if_neg h4] at h ⊢
  unfold mcode at h ⊢
  by_cases h5 : ((merged a b c (names3 a b c)).length : Int) > 24
  · rw [if_pos h5] at h; cases h
  rw [if_neg h5]
  exact merged_valid h2 h3 (by omega)
/-- The code of a conflict, where there is one. -/
theorem mergeS_six {a b c : List S80} (ha : stateB a = true) (hb : stateB b = true) (hc : stateB c = true) : ((mergeS a b c).2 == 6) = decide ((((names3 a b c).filter (confB a b c)).length : Int) > 0) := by
  unfold mergeS
  rw [if_pos ha, if_pos hb, if_pos hc]
  unfold mergeR
  by_cases h4 : (((names3 a b c).filter (confB a b c)).length : Int) > 0
  · rw [if_pos h4, decide_eq_true h4]; rfl
  · rw [if_neg h4, decide_eq_false h4]
    unfold mcode
    split <;> rfl

theorem rd_iVersion {l : List S160} {i : Nat} (h : i < l.length) : rd_T160 l (i : Int) = l[i] := by simp [rd_T160, List.getD_eq_getElem?_getD, List.getElem?_eq_getElem h]
def memoB (s : ByteArray) : Bool := (List.range s.size).all (fun i => decide (32 ≤ bt s (i : Int)) && decide (bt s (i : Int) ≤ 126)) && decide (s.size ≤ 20)
def versionAt (l : List S160) (i : Nat) : Bool := decide ((rd_T160 l (i : Int)).f0 = (i : Int) + 1) && (decide (0 ≤ (rd_T160 l (i : Int)).f1) && decide ((rd_T160 l (i : Int)).f1 ≤ (i : Int))) && memoB (rd_T160 l (i : Int)).f2 && stateB (rd_T160 l (i : Int)).f3
def historyB (l : List S160) : Bool := (List.range l.length).all (versionAt l) && decide (l.length ≤ 32)

theorem l27Memo_eq {s : ByteArray} (hs : s.size ≤ 1048576) {k : Nat} (hk : 1048600 ≤ k) : spec_l27Memo.f k s = some (memoB s) := by
  unfold spec_l27Memo.f memoB
  refine all_loop (fun k i => spec_l27Memo.l0 k s i) s.size _ _ 0 (fun k i hi hB => ?_) (fun k _ => ?_) k (by omega)
  · simp only [spec_l27Memo.l0]
    rw [if_pos (lt_cast hi), if_pos (nn_cast i), wrap_succ hi (by omega)]
    by_cases h1 : bt s (i : Int) < 32
    · have : ¬ 32 ≤ bt s (i : Int) := by omega
      rw [if_pos h1]; simp [this]
    · have h1' : 32 ≤ bt s (i : Int) := by omega
      rw [if_neg h1]
      by_cases h2 : bt s (i : Int) > 126
      · have : ¬ bt s (i : Int) ≤ 126 := by omega
        rw [if_pos h2]; simp [this]
      · have h2' : bt s (i : Int) ≤ 126 := by omega
        rw [if_neg h2]; simp [h1', h2']
  · simp only [spec_l27Memo.l0]
    rw [if_neg (nlt_cast _)]
    congr 2
    exact propext (by omega)
theorem memoValid_eq (s : ByteArray) {k : Nat} (hk : 1048600 ≤ k) : impl_memoValid.f k s = some (memoB s) := by
  unfold impl_memoValid.f memoB
  by_cases h : (s.size : Int) ≤ 20
  · rw [if_pos h]
    have h' : s.size ≤ 20 := by omega
    unfold impl_bytesWithin.f
    rw [all_loop (fun k i => impl_bytesWithin.l0 k s 32 126 (s.size : Int) i) s.size (fun i => decide (32 ≤ bt s (i : Int)) && decide (bt s (i : Int) ≤ 126)) true 0 (fun k i hi hB => ?_) (fun k _ => ?_) k (by omega)]
    · simp [h']
    · simp only [impl_bytesWithin.l0]
      rw [if_pos (lt_cast hi), if_pos (nn_cast i), if_pos (lt_cast hi), wrap_succ hi (by omega)]
      by_cases h1 : bt s (i : Int) < 32
      · have : ¬ 32 ≤ bt s (i : Int) := by omega
        rw [if_pos h1]; simp [this]
      · have h1' : 32 ≤ bt s (i : Int) := by omega
        rw [if_neg h1]
        by_cases h2 : bt s (i : Int) > 126
        · have : ¬ bt s (i : Int) ≤ 126 := by omega
          rw [if_pos h2]; simp [this]
        · have h2' : bt s (i : Int) ≤ 126 := by omega
          rw [if_neg h2]; simp [h1', h2']
    · simp only [impl_bytesWithin.l0]
      rw [if_neg (nlt_cast _)]
  · rw [if_neg h]
    have h' : ¬ s.size ≤ 20 := by omega
    simp [h']

/-- Within the sizes that the laws let in. -/
def okV (x : S160) : Prop := x.f2.size ≤ 1048576 ∧ x.f3.length ≤ 1048576
theorem versionAt_eq {l : List S160} {i : Nat} : versionAt l i = (decide ((rd_T160 l (i : Int)).f0 = (i : Int) + 1) && (decide (0 ≤ (rd_T160 l (i : Int)).f1) && decide ((rd_T160 l (i : Int)).f1 ≤ (i : Int))) && memoB (rd_T160 l (i : Int)).f2 && stateB (rd_T160 l (i : Int)).f3) := rfl
theorem l27Ok_eq {l : List S160} (hl : l.length ≤ 1048576) (hs : ∀ y ∈ l, okV y) {k : Nat} (hk : 2097200 ≤ k) : spec_l27Ok.f k l = some (historyB l) := by
  unfold spec_l27Ok.f historyB
  refine all_loop (fun k i => spec_l27Ok.l0 k l i) l.length (versionAt l) _ 1048600 (fun k i hi hB => ?_) (fun k _ => ?_) k (by omega)
  · have ho := hs l[i] (List.getElem_mem hi)
    have hr := rd_iVersion hi
    simp only [spec_l27Ok.l0, versionAt_eq, hr]
    rw [if_pos (lt_cast hi), if_pos (nn_cast i), wrap_succ hi (by omega)]
    rw [in_eq, l27Memo_eq ho.1 hB, l27State_eq ho.2 hB]
    simp only [Option.bind_some]
    by_cases h1 : l[i].f0 = ((i + 1 : Nat) : Int)
    · have h1' : l[i].f0 = (i : Int) + 1 := by omega
      rw [if_pos h1, decide_eq_true h1']
      by_cases h2 : (decide (0 ≤ l[i].f1) && decide (l[i].f1 ≤ (i : Int))) = true
      · rw [if_pos h2, h2]
        by_cases h3 : memoB l[i].f2 = true
        · rw [if_pos h3, h3]
          by_cases h4 : stateB l[i].f3 = true
          · rw [if_pos h4, h4]; simp
          · rw [if_neg h4]; simp [h4]
        · rw [if_neg h3]; simp [h3]
      · rw [if_neg h2]; rw [Bool.not_eq_true] at h2; rw [h2]; simp
    · have h1' : ¬ l[i].f0 = (i : Int) + 1 := by omega
      rw [if_neg h1, decide_eq_false h1']; simp
  · simp only [spec_l27Ok.l0]
    rw [if_neg (nlt_cast _)]
    congr 2
    exact propext (by omega)
theorem ValidHistory_eq {l : List S160} (hl : l.length ≤ 1048576) (hs : ∀ y ∈ l, okV y) {k : Nat} (hk : 2097200 ≤ k) : impl_ValidHistory.f k l = some (historyB l) := by
  unfold impl_ValidHistory.f historyB
  by_cases h32 : (l.length : Int) > 32
  · rw [if_pos h32]
    have : ¬ l.length ≤ 32 := by omega
    simp [this]
  rw [if_neg h32]
  have h32' : l.length ≤ 32 := by omega
  rw [decide_eq_true h32']
  refine all_loop (fun k i => impl_ValidHistory.l0 k l (l.length : Int) i) l.length (versionAt l) true 1048600 (fun k i hi hB => ?_) (fun k _ => ?_) k (by omega)
  · have ho := hs l[i] (List.getElem_mem hi)
    have hr := rd_iVersion hi
    simp only [impl_ValidHistory.l0, versionAt_eq, hr]
    rw [if_pos (lt_cast hi), if_pos (nn_cast i), if_pos (lt_cast hi), wrap_succ hi (by omega)]
    rw [within_eq, memoValid_eq _ hB, ValidState_eq ho.2 hB]
    simp only [Option.bind_some]
    by_cases h1 : l[i].f0 = ((i + 1 : Nat) : Int)
    · have h1' : l[i].f0 = (i : Int) + 1 := by omega
      rw [if_pos h1, decide_eq_true h1']
      by_cases h2 : (decide (0 ≤ l[i].f1) && decide (l[i].f1 ≤ (i : Int))) = true
      · rw [if_pos h2, h2]
        by_cases h3 : memoB l[i].f2 = true
        · rw [if_pos h3, h3]
          by_cases h4 : stateB l[i].f3 = true
          · rw [if_pos h4, h4]; simp
          · rw [if_neg h4]; simp [h4]
        · rw [if_neg h3]; simp [h3]
      · rw [if_neg h2]; rw [Bool.not_eq_true] at h2; rw [h2]; simp
    · have h1' : ¬ l[i].f0 = (i : Int) + 1 := by omega
      rw [if_neg h1, decide_eq_false h1']; simp
  · simp only [impl_ValidHistory.l0]
    rw [if_neg (nlt_cast _)]
theorem Index_int64_some {l : List Int} (hl : l.length ≤ 1048576) (n : Int) {k : Nat} (hk : l.length + 2 ≤ k) : ∃ r, slices_Index_S_int64.f k l n = some r ∧ (r ≥ 0 ↔ n ∈ l) := by
  unfold slices_Index_S_int64.f
  have main : ∀ (d k i : Nat), i + d = l.length → d < k → ∃ r, slices_Index_S_int64.l0 k l n (l.length : Int) (i : Int) = some r ∧ (r ≥ 0 ↔ n ∈ l.drop i) := by
    intro d
    induction d with
    | zero =>
      intro k i hi hk
      obtain ⟨k, rfl⟩ : ∃ m, k = m + 1 := ⟨k - 1, by omega⟩
      obtain rfl : i = l.length := by omega
      simp only [slices_Index_S_int64.l0]
      rw [if_neg (nlt_cast _)]
      exact ⟨-1, rfl, by simp⟩
    | succ d ih =>
      intro k i hi hk
      obtain ⟨k, rfl⟩ : ∃ m, k = m + 1 := ⟨k - 1, by omega⟩
      have hlt : i < l.length := by omega
      simp only [slices_Index_S_int64.l0]
      rw [if_pos (lt_cast hlt), if_pos (nn_cast i), if_pos (lt_cast hlt), rd_get hlt, wrap_succ hlt (by omega), drop_cons hlt]
      by_cases h : n = l[i]
      · rw [if_pos h]; exact ⟨_, rfl, by rw [h]; exact ⟨fun _ => List.mem_cons_self, fun _ => by omega⟩⟩
      · rw [if_neg h]
        obtain ⟨r, hr, h2⟩ := ih k (i + 1) (by omega) (by omega)
        exact ⟨r, hr, by rw [h2, List.mem_cons]; exact ⟨.inr, fun h' => h'.resolve_left h⟩⟩
  have := main l.length k 0 (by omega) (by omega)
  simpa using this
theorem Contains_int64_eq {l : List Int} (hl : l.length ≤ 1048576) (n : Int) {k : Nat} (hk : l.length + 2 ≤ k) : slices_Contains_S_int64.f k l n = some (decide (n ∈ l)) := by
  unfold slices_Contains_S_int64.f
  obtain ⟨r, hr, h⟩ := Index_int64_some hl n hk
  rw [hr]; simp only [Option.bind_some]
  congr 2
  exact propext h
def par (l : List S160) (n : Int) : Int := (rd_T160 l (n - 1)).f1
def lineL (l : List S160) : Nat → Int → List Int
  | 0, _ => []
  | d + 1, n => if n ≤ 0 then [] else n :: lineL l d (par l n)
theorem history_facts {l : List S160} (h : historyB l = true) : l.length ≤ 32 ∧ ∀ n : Int, 1 ≤ n → n ≤ l.length → 0 ≤ par l n ∧ par l n ≤ n - 1 := by
  unfold historyB at h
  simp only [Bool.and_eq_true, decide_eq_true_eq, List.all_eq_true, List.mem_range] at h
  refine ⟨h.2, fun n h1 h2 => ?_⟩
  have := h.1 (n - 1).toNat (by omega)
  unfold versionAt at this
  simp only [Bool.and_eq_true, decide_eq_true_eq] at this
  rw [Int.toNat_of_nonneg (by omega)] at this
  exact this.1.1.2
theorem lineL_length (l : List S160) : ∀ d n, (lineL l d n).length ≤ d
  | 0, _ => by simp [lineL]
  | d + 1, n => by
    unfold lineL
    split
    · simp
    · have := lineL_length l d (par l n); simp; omega
theorem lineOf_l0 {l : List S160} (h : historyB l = true) : ∀ (d k : Nat) (n : Int) (acc : List Int), 0 ≤ n → n ≤ d → n ≤ l.length → d < k → acc.length + d ≤ 1000 → impl_lineOf.l0 k l n acc = some (acc ++ lineL l d n) := by
  obtain ⟨_, hp⟩ := history_facts h
  intro d
  induction d with
  | zero =>
    intro k n acc h0 h1 h2 hk ha
    obtain ⟨k, rfl⟩ : ∃ m, k = m + 1 := ⟨k - 1, by omega⟩
    simp only [impl_lineOf.l0]
    rw [if_neg (by omega)]; simp [lineL]
  | succ d ih =>
    intro k n acc h0 h1 h2 hk ha
    obtain ⟨k, rfl⟩ : ∃ m, k = m + 1 := ⟨k - 1, by omega⟩
    simp only [impl_lineOf.l0, lineL]
    by_cases hn : n > 0
    · have hpn := hp n (by omega) h2
      rw [if_pos hn, if_pos (by omega), wrap_id (x := n - 1) (by omega) (by omega), if_pos (by omega), if_pos (by omega), if_neg (by omega)]
      show impl_lineOf.l0 k l (par l n) (acc ++ [n]) = _
      rw [ih k (par l n) _ (by omega) (by omega) (by omega) (by omega) (by simp; omega)]
      simp
    · rw [if_neg hn, if_pos (by omega)]; simp
theorem lineOf_eq {l : List S160} (h : historyB l = true) {n : Int} (h0 : 0 ≤ n) (h2 : n ≤ l.length) {k : Nat} (hk : 100 ≤ k) : impl_lineOf.f k l n = some (lineL l 40 n) := by
  unfold impl_lineOf.f
  have := (history_facts h).1
  rw [lineOf_l0 h 40 k n [] h0 (by omega) h2 (by omega) (by simp)]; simp
def commonL (l : List S160) (a b : Int) : Int := ((lineL l 40 a).find? fun x => decide (x ∈ lineL l 40 b)).getD 0
theorem commonAncestor_eq {l : List S160} (h : historyB l = true) {a b : Int} (ha : 1 ≤ a) (ha2 : a ≤ l.length) (hb : 1 ≤ b) (hb2 : b ≤ l.length) {k : Nat} (hk : 200 ≤ k) : impl_commonAncestor.f k l a b = some (commonL l a b) := by
  have l1 := lineL_length l 40 a
  have l2 := lineL_length l 40 b
  unfold impl_commonAncestor.f
  rw [lineOf_eq h (by omega) ha2 (by omega), lineOf_eq h (by omega) hb2 (by omega)]
  simp only [Option.bind_some]
  unfold commonL
  generalize lineL l 40 a = A at *
  generalize lineL l 40 b = B at *
  refine list_loop0 (fun k i => impl_commonAncestor.l0 k B A (A.length : Int) i) A (fun r => (r.find? fun x => decide (x ∈ B)).getD 0) 50 (fun k i hi hB => ?_) (fun k => ?_) k (by omega)
  · simp only [impl_commonAncestor.l0]
    rw [if_pos (lt_cast hi), if_pos (nn_cast i), if_pos (lt_cast hi), rd_get hi, wrap_succ hi (by omega), Contains_int64_eq (by omega) _ (by omega)]
    simp only [Option.bind_some, decide_eq_true_eq]
    by_cases hm : A[i] ∈ B
    · rw [if_pos hm]; left
      rw [List.find?_cons_of_pos (by simpa using hm)]; rfl
    · rw [if_neg hm]; right
      rw [List.find?_cons_of_neg (by simpa using hm)]; exact ⟨rfl, rfl⟩
  · simp only [impl_commonAncestor.l0]
    rw [if_neg (nlt_cast _)]; rfl
theorem allWithin_eq (l : List Int) (a b : Int) : impl_allWithin.f l a b = some (l.all fun n => decide (a ≤ n) && decide (n ≤ b)) := by
  unfold impl_allWithin.f
  congr 1
  induction l with
  | nil => rfl
  | cons x r ih =>
    simp only [List.any_cons, List.all_cons, Bool.not_or, ih, impl_allWithin.p, Bool.not_not]
theorem versionsCode_eq {l : List S160} (hl : l.length ≤ 1048576) (hs : ∀ y ∈ l, okV y) (ns : List Int) {k : Nat} (hk : 2097200 ≤ k) :
    impl_versionsCode.f k l ns = some (if historyB l = true then (if (ns.all fun n => decide (1 ≤ n) && decide (n ≤ (l.length : Int))) = true then 0 else 3) else 1) := by
  unfold impl_versionsCode.f
  rw [ValidHistory_eq hl hs hk]
  simp only [Option.bind_some, allWithin_eq]
  split
  · split <;> rfl
  · rfl

def Bts (l : List Int) : Prop := ∀ y ∈ l, 0 ≤ y ∧ y ≤ 255
theorem and_bound (x : Int) : 0 ≤ wrap64 (Go.bits .and .u64 (IntKind.u64.wrap x / 1099511627776) 255) ∧ wrap64 (Go.bits .and .u64 (IntKind.u64.wrap x / 1099511627776) 255) ≤ 255 := by
  rw [IntKind.wrap_u64]
  obtain ⟨n, hn⟩ : ∃ n : Nat, (x % 18446744073709551616) / 1099511627776 = (n : Int) := ⟨((x % 18446744073709551616) / 1099511627776).toNat, by omega⟩
  rw [hn, show (255 : Int) = ((255 : Nat) : Int) from rfl, u64_and_nat n 255 (by omega) (by omega)]
  have h : n &&& 255 ≤ 255 := Nat.and_le_right
  rw [wrap_id (by omega) (by omega)]
  omega
/-- A drawer's answer: within P, and the place has not run far. -/
def Dr {α : Type} (r : Option (α × Int × Int)) (P : α → Prop) (B : Int) : Prop := ∃ v i s, r = some (v, i, s) ∧ P v ∧ 0 ≤ i ∧ i ≤ B
theorem next_ok {l : List Int} (hl : Bts l) {i : Int} (s : Int) {B : Int} (h0 : 0 ≤ i) (h1 : i ≤ B) (hB : B ≤ 4000000000) : Dr (spec_l00Src_next.f l i s) (fun v => 0 ≤ v ∧ v ≤ 255) (B + 1) := by
  unfold spec_l00Src_next.f
  rw [wrap_id (x := i + 1) (by omega) (by omega)]
  by_cases h : i < (l.length : Int)
  · obtain ⟨n, rfl⟩ : ∃ n : Nat, i = (n : Int) := ⟨i.toNat, by omega⟩
    have hlt : n < l.length := by omega
    have hb := hl l[n] (List.getElem_mem hlt)
    rw [if_pos h, if_pos h0, if_pos (by omega), rd_get hlt, wrap_id (x := l[n]) (by omega) (by omega)]
    exact ⟨_, _, _, rfl, hb, by omega, by omega⟩
  · rw [if_neg h, if_neg (by omega)]
    exact ⟨_, _, _, rfl, and_bound _, by omega, by omega⟩
theorem pick_ok {l : List Int} (hl : Bts l) {i : Int} (s : Int) {B : Int} (h0 : 0 ≤ i) (h1 : i ≤ B) (hB : B ≤ 4000000000) {n : Int} (n0 : 1 ≤ n) (n1 : n ≤ 200) : Dr (spec_l00Src_pick.f l i s n) (fun v => 0 ≤ v ∧ v < n) (B + 1) := by
  unfold spec_l00Src_pick.f
  by_cases h : n ≤ 1
  · rw [if_pos h]; exact ⟨_, _, _, rfl, by omega, h0, by omega⟩
  rw [if_neg h]
  obtain ⟨v, j, t, e, ⟨v0, v1⟩, j0, j1⟩ := next_ok hl s h0 h1 hB
  rw [e]; simp only [Option.bind_some]
  rw [if_neg (by omega), if_neg (by omega)]
  refine ⟨_, _, _, rfl, ⟨?_, ?_⟩, j0, j1⟩
  · rw [Int.tmod_eq_emod_of_nonneg v0]; exact Int.emod_nonneg _ (by omega)
  · rw [Int.tmod_eq_emod_of_nonneg v0]; exact Int.emod_lt_of_pos _ (by omega)
theorem pickL_ok {l : List Int} (hl : Bts l) {i : Int} (s : Int) {B : Int} (h0 : 0 ≤ i) (h1 : i ≤ B) (hB : B ≤ 3000000000) {n : Int} (n0 : 200 < n) (n1 : n ≤ 65536) : Dr (spec_l00Src_pick.f l i s n) (fun v => 0 ≤ v ∧ v < n) (B + 2) := by
  unfold spec_l00Src_pick.f
  rw [if_neg (by omega)]
  obtain ⟨v, j, t, e, ⟨v0, v1⟩, j0, j1⟩ := next_ok hl s h0 h1 (by omega)
  rw [e]; simp only [Option.bind_some]
  rw [if_pos (by omega)]
  obtain ⟨u, q, t2, e2, ⟨u0, u1⟩, q0, q1⟩ := next_ok hl t j0 j1 (by omega)
  rw [e2]; simp only [Option.bind_some]
  rw [if_neg (by omega), wrap_id (x := v * 256) (by omega) (by omega), wrap_id (by omega) (by omega)]
  refine ⟨_, _, _, rfl, ⟨?_, ?_⟩, q0, by omega⟩
  · rw [Int.tmod_eq_emod_of_nonneg (by omega)]; exact Int.emod_nonneg _ (by omega)
  · rw [Int.tmod_eq_emod_of_nonneg (by omega)]; exact Int.emod_lt_of_pos _ (by omega)
theorem one_ok {l : List Int} (hl : Bts l) {i : Int} (s : Int) {B : Int} (h0 : 0 ≤ i) (h1 : i ≤ B) (hB : B ≤ 4000000000) {n : Int} (n0 : 1 ≤ n) (n1 : n ≤ 200) : Dr (spec_l00Src_one.f l i s n) (fun _ => True) (B + 1) := by
  unfold spec_l00Src_one.f
  obtain ⟨v, j, t, e, _, j0, j1⟩ := pick_ok hl s h0 h1 hB n0 n1
  rw [e]
  exact ⟨_, _, _, rfl, trivial, j0, j1⟩
theorem text_ok {l : List Int} (hl : Bts l) {i : Int} (s : Int) {B : Int} (h0 : 0 ≤ i) (h1 : i ≤ B) (hB : B ≤ 4000000000) {c : List ByteArray} (n0 : 1 ≤ c.length) (n1 : c.length ≤ 200) : Dr (spec_l00Src_text.f l i s c) (fun v => v ∈ c) (B + 1) := by
  unfold spec_l00Src_text.f
  obtain ⟨v, j, t, e, ⟨v0, v1⟩, j0, j1⟩ := pick_ok hl s h0 h1 hB (n := (c.length : Int)) (by omega) (by omega)
  rw [e]; simp only [Option.bind_some]
  rw [if_pos v0, if_pos v1]
  obtain ⟨m, rfl⟩ : ∃ m : Nat, v = (m : Int) := ⟨v.toNat, by omega⟩
  have hm : m < c.length := by omega
  refine ⟨_, _, _, rfl, ?_, j0, j1⟩
  simp only [rdOf, Int.toNat_natCast, List.getD_eq_getElem?_getD, List.getElem?_eq_getElem hm, Option.getD_some]
  exact List.getElem_mem hm
/-- A drawer that wants rounds. -/
def DrE {α : Type} (g : Nat → Option (α × Int × Int)) (P : α → Prop) (B : Int) : Prop := ∃ v i s, Ev g (v, i, s) ∧ P v ∧ 0 ≤ i ∧ i ≤ B
def St (l : List S80) (n : Nat) : Prop := Asc (l.map (·.f0)) ∧ (∀ x ∈ l, settingB x = true) ∧ l.length ≤ n
theorem St.valid {l : List S80} {n : Nat} (h : St l n) (hn : n ≤ 24) : stateB l = true := state_of h.1 h.2.1 (by have := h.2.2; omega)
def nm5 : List ByteArray := [⟨#[97]⟩, ⟨#[98]⟩, ⟨#[99]⟩, ⟨#[100]⟩, ⟨#[101]⟩]
def nm6 : List ByteArray := [⟨#[97]⟩, ⟨#[98]⟩, ⟨#[99]⟩, ⟨#[100]⟩, ⟨#[101]⟩, ⟨#[102]⟩]
theorem nm5_asc : Asc nm5 := by
  unfold nm5 Asc
  simp only [List.pairwise_cons, List.mem_cons, List.not_mem_nil, ltB_iff, or_false]
  refine ⟨?_, ?_, ?_, ?_, fun _ h => h.elim, List.Pairwise.nil⟩
  · rintro a (rfl | rfl | rfl | rfl) <;> decide
  · rintro a (rfl | rfl | rfl) <;> decide
  · rintro a (rfl | rfl) <;> decide
  · rintro a rfl; decide
theorem nm56 : ∀ x ∈ nm5, x ∈ nm6 := by
  intro x hx
  unfold nm5 at hx
  unfold nm6
  simp only [List.mem_cons, List.not_mem_nil, or_false] at hx ⊢
  rcases hx with h | h | h | h | h <;> simp [h]
theorem name6 : ∀ x ∈ nm6, nameB x = true := by
  intro x hx
  unfold nm6 at hx
  simp only [List.mem_cons, List.not_mem_nil, or_false] at hx
  rcases hx with rfl | rfl | rfl | rfl | rfl | rfl <;> decide
theorem drawState_l0 {l : List Int} (hl : Bts l) : ∀ (e n : Nat) (acc : List S80) (i s B : Int), n + e = 5 → (acc.map (·.f0)).Sublist (nm5.take n) → (∀ x ∈ acc, settingB x = true) → 0 ≤ i → i ≤ B → B + 3 * e ≤ 1000000 → DrE (fun k => spec_l27DrawState.l0 k nm5 acc (n : Int) l i s) (fun v => St v 5) (B + 3 * e) := by
  intro e
  induction e with
  | zero =>
    intro n acc i s B hn hsub hset h0 h1 hB
    obtain rfl : n = 5 := by omega
    refine ⟨acc, i, s, Ev.step (f := fun _ => some (acc, i, s)) (fun k => by simp only [spec_l27DrawState.l0]; rw [if_neg (by decide)]) (Ev.now _), ⟨nm5_asc.sublist hsub, hset, ?_⟩, h0, by omega⟩
    have := hsub.length_le
    simpa [nm5] using this
  | succ e ih =>
    intro n acc i s B hn hsub hset h0 h1 hB
    have hlen : n < nm5.length := by show n < 5; omega
    have hr : rdOf ByteArray.empty nm5 (n : Int) = nm5[n] := by simp [rdOf, List.getD_eq_getElem?_getD, List.getElem?_eq_getElem hlen]
    have hw := wrap_succ hlen (by show 5 ≤ _; omega)
    have hal : acc.length ≤ 5 := by
      have := hsub.length_le
      simp only [List.length_map, List.length_take] at this; omega
    have hst : nm5.take (n + 1) = nm5.take n ++ [nm5[n]] := by rw [List.take_add_one, List.getElem?_eq_getElem hlen]; rfl
    obtain ⟨b, j, t, e1, _, j0, j1⟩ := one_ok hl s h0 h1 (by omega) (n := 2) (by omega) (by omega)
    cases b with
    | false =>
      obtain ⟨v, q, u, e2, hv, q0, q1⟩ := ih (n + 1) acc j t (B + 1) (by omega) (by rw [hst]; exact hsub.trans (List.sublist_append_left _ _)) hset j0 j1 (by omega)
      refine ⟨v, q, u, Ev.step (fun k => ?_) e2, hv, q0, by omega⟩
      simp only [spec_l27DrawState.l0]
      rw [if_pos (by omega), e1, Option.bind_some, if_neg (by simp), hw]
    | true =>
      obtain ⟨p, j2, t2, e3, ⟨p0, p1⟩, j20, j21⟩ := pickL_ok hl t j0 j1 (by omega) (n := 1001) (by omega) (by omega)
      have hmem : nm5[n] ∈ nm6 := nm56 _ (List.getElem_mem hlen)
      obtain ⟨v, q, u, e2, hv, q0, q1⟩ := ih (n + 1) (acc ++ [⟨nm5[n], p⟩]) j2 t2 (B + 3) (by omega) (by
        rw [hst, List.map_append]
        exact hsub.append (List.Sublist.refl _)) (fun x hx => by
        rcases List.mem_append.1 hx with h | h
        · exact hset x h
        · rw [List.mem_singleton.1 h]
          unfold settingB
          rw [name6 _ hmem]
          simp only [Bool.true_and, Bool.and_eq_true, decide_eq_true_iff]
          omega) j20 (by omega) (by omega)
      refine ⟨v, q, u, Ev.step (fun k => ?_) e2, hv, q0, by omega⟩
      simp only [spec_l27DrawState.l0]
      rw [if_pos (by omega), e1, Option.bind_some, if_pos rfl, if_pos (nn_cast n), if_pos (lt_cast hlen), e3, Option.bind_some, if_pos (by omega), hw, hr]
theorem drawState_ok {l : List Int} (hl : Bts l) {i : Int} (s : Int) {B : Int} (h0 : 0 ≤ i) (h1 : i ≤ B) (hB : B ≤ 900000) : DrE (fun k => spec_l27DrawState.f k l i s) (fun v => St v 5) (B + 15) := drawState_l0 hl 5 0 [] i s B (by omega) (by simp) (by simp) h0 h1 (by omega)
theorem mem_setG (n : ByteArray) (v : Int) : ∀ (l : List S80) (d : Bool), ∀ x ∈ setG n v l d, x = ⟨n, v⟩ ∨ x ∈ l
  | [], d, x, hx => by
    unfold setG at hx
    split at hx
    · cases hx
    · exact .inl (List.mem_singleton.1 hx)
  | y :: r, d, x, hx => by
    unfold setG at hx
    rcases List.mem_append.1 hx with h | h
    · split at h
      · exact .inl (List.mem_singleton.1 h)
      · cases h
    · rcases List.mem_append.1 h with h | h
      · split at h
        · cases h
        · exact .inr (by rw [List.mem_singleton.1 h]; exact List.mem_cons_self)
      · rcases mem_setG n v r _ x h with h | h
        · exact .inl h
        · exact .inr (List.mem_cons_of_mem _ h)
theorem setG_len (n : ByteArray) (v : Int) (l : List S80) (d : Bool) : (setG n v l d).length ≤ l.length + 1 := by
  have h := congrArg List.length (setG_map n v l d)
  have h2 := putG_length n (l.map (·.f0)) d
  simp only [List.length_map] at h h2
  omega
theorem changed_l0 {l : List Int} (hl : Bts l) : ∀ (e : Nat) (x : List S80) (m : Nat) (i s B : Int), e ≤ 3 → St x m → m + e ≤ 1000 → 0 ≤ i → i ≤ B → B + 4 * e ≤ 1000000 → DrE (fun k => spec_l27Changed.l0 k x nm6 (e : Int) l i s) (fun v => St v (m + e)) (B + 4 * e) := by
  intro e
  induction e with
  | zero =>
    intro x m i s B _ hx hm h0 h1 hB
    exact ⟨x, i, s, Ev.step (f := fun _ => some (x, i, s)) (fun k => by simp only [spec_l27Changed.l0]; rw [if_neg (by omega)]) (Ev.now _), hx, h0, by omega⟩
  | succ e ih =>
    intro x m i s B he hx hm h0 h1 hB
    have hxl : x.length ≤ 1000 := by have := hx.2.2; omega
    have hw : wrap64 (((e + 1 : Nat) : Int) - 1) = (e : Int) := by rw [wrap_id (by omega) (by omega)]; omega
    obtain ⟨b, j, t, e1, ⟨b0, b1⟩, j0, j1⟩ := pick_ok hl s h0 h1 (by omega) (n := 6) (by omega) (by omega)
    obtain ⟨c, rfl⟩ : ∃ c : Nat, b = (c : Int) := ⟨b.toNat, by omega⟩
    have hc : c < nm6.length := by show c < 6; omega
    have hr : rdOf ByteArray.empty nm6 (c : Int) = nm6[c] := by simp [rdOf, List.getD_eq_getElem?_getD, List.getElem?_eq_getElem hc]
    have hnm := name6 _ (List.getElem_mem hc)
    generalize nm6[c] = nm at hr hnm
    -- what is set
    have hset : ∀ (a : Int) (j t B' : Int), 0 ≤ j → j ≤ B' → B' + 2 + 4 * e ≤ B + 4 * (e + 1) → DrE (fun k => spec_l27Changed.j1 k x nm6 ((e + 1 : Nat) : Int) nm a false l j t) (fun v => St v (m + (e + 1))) (B + 4 * (e + 1)) := by
      intro a j t B' j0 j1 hB'
      obtain ⟨p, j2, t2, e3, ⟨p0, p1⟩, j20, j21⟩ := pickL_ok hl t j0 j1 (by omega) (n := 1001) (by omega) (by omega)
      have hS : St (setG nm p x false) (m + 1) := by
        refine ⟨by rw [setG_map]; exact asc_putG nm hx.1, fun y hy => ?_, by have := setG_len nm p x false; have := hx.2.2; omega⟩
        rcases mem_setG nm p x false y hy with h | h
        · rw [h]; unfold settingB; rw [hnm]
          simp only [Bool.true_and, Bool.and_eq_true, decide_eq_true_iff]; omega
        · exact hx.2.1 y h
      obtain ⟨v, q, u, e2, hv, q0, q1⟩ := ih (setG nm p x false) (m + 1) j2 t2 (B' + 2) (by omega) hS (by omega) j20 (by omega) (by omega)
      refine ⟨v, q, u, Ev.step (f := fun k => (spec_l27Set.f k x nm p).bind fun y => spec_l27Changed.l0 k y nm6 (e : Int) l j2 t2) (fun k => ?_) (Ev.bind (set_ev (by omega) nm p) e2), by rw [show m + (e + 1) = m + 1 + e by omega]; exact hv, q0, by omega⟩
      simp only [spec_l27Changed.j1]
      rw [if_neg (by decide), e3, Option.bind_some, hw]
    rcases at27_cases nm x 0 with ⟨h1', _, _⟩ | ⟨q, hq, h1', _, _⟩
    · obtain ⟨v, q, u, e2, hv, q0, q1⟩ := hset (-1) j t (B + 1) j0 j1 (by omega)
      refine ⟨v, q, u, Ev.step (f := fun k => (spec_l27At.f k x nm).bind fun a => (if a ≥ 0 then ((spec_l00Src_one.f l j t 2).bind fun z => spec_l27Changed.j1 k x nm6 ((e + 1 : Nat) : Int) nm a z.1 l z.2.1 z.2.2) else spec_l27Changed.j1 k x nm6 ((e + 1 : Nat) : Int) nm a false l j t)) (fun k => ?_) (Ev.bind (at27_ev (by omega) nm) ?_), hv, q0, by omega⟩
      · simp only [spec_l27Changed.l0]
        rw [if_pos (by omega), e1, Option.bind_some, if_pos b0, if_pos (lt_cast hc), hr]
      · rw [h1']; exact Ev.neg (by decide) e2
    · rw [Nat.zero_add] at h1'
      obtain ⟨b2, j2, t2, e4, _, j20, j21⟩ := one_ok hl t j0 j1 (by omega) (n := 2) (by omega) (by omega)
      have main : DrE (fun k => spec_l27Changed.j1 k x nm6 ((e + 1 : Nat) : Int) nm (q : Int) b2 l j2 t2) (fun v => St v (m + (e + 1))) (B + 4 * (e + 1)) := by
        cases b2 with
        | false => exact hset q j2 t2 (B + 2) j20 (by omega) (by omega)
        | true =>
          have hS : St (x.take q ++ x.drop (q + 1)) m := by
            have hsub : (x.take q ++ x.drop (q + 1)).Sublist x := by
              conv => rhs; rw [← List.take_append_drop q x]
              exact (List.Sublist.refl _).append (List.drop_sublist_drop_left x (by omega))
            exact ⟨hx.1.sublist (hsub.map _), fun y hy => hx.2.1 y (hsub.subset hy), by have := hsub.length_le; have := hx.2.2; omega⟩
          obtain ⟨v, z, u, e2, hv, z0, z1⟩ := ih (x.take q ++ x.drop (q + 1)) m j2 t2 (B + 2) (by omega) hS (by omega) j20 (by omega) (by omega)
          refine ⟨v, z, u, Ev.step (fun k => ?_) e2, ⟨hv.1, hv.2.1, by have := hv.2.2; omega⟩, z0, by omega⟩
          have hl1 : (x.take q).length + (x.drop (q + 1)).length ≤ 2000 := by simp; omega
          simp only [spec_l27Changed.j1]
          rw [if_pos trivial, Option.bind_some, if_pos (nn_cast q), if_pos (by omega), Option.bind_some, Int.toNat_natCast, List.nil_append]
          rw [if_pos (by simp; omega), Option.bind_some, wrap_succ hq (by omega), if_pos (by omega), if_pos (by omega), Option.bind_some, Int.toNat_natCast, if_pos (by omega), hw]
      obtain ⟨v, z, u, e2, hv, z0, z1⟩ := main
      refine ⟨v, z, u, Ev.step (f := fun k => (spec_l27At.f k x nm).bind fun a => (if a ≥ 0 then ((spec_l00Src_one.f l j t 2).bind fun z => spec_l27Changed.j1 k x nm6 ((e + 1 : Nat) : Int) nm a z.1 l z.2.1 z.2.2) else spec_l27Changed.j1 k x nm6 ((e + 1 : Nat) : Int) nm a false l j t)) (fun k => ?_) (Ev.bind (at27_ev (by omega) nm) ?_), hv, z0, by omega⟩
      · simp only [spec_l27Changed.l0]
        rw [if_pos (by omega), e1, Option.bind_some, if_pos b0, if_pos (lt_cast hc), hr]
      · rw [h1']
        refine Ev.pos (by omega) ?_
        rw [e4]
        exact e2
theorem changed_ok {l : List Int} (hl : Bts l) {x : List S80} {m : Nat} (hx : St x m) (hm : m ≤ 100) {i : Int} (s : Int) {B : Int} (h0 : 0 ≤ i) (h1 : i ≤ B) (hB : B ≤ 900000) : DrE (fun k => spec_l27Changed.f k l i s x) (fun v => St v (m + 3)) (B + 13) := by
  unfold spec_l27Changed.f
  obtain ⟨b, j, t, e1, ⟨b0, b1⟩, j0, j1⟩ := pick_ok hl s h0 h1 (by omega) (n := 4) (by omega) (by omega)
  obtain ⟨c, rfl⟩ : ∃ c : Nat, b = (c : Int) := ⟨b.toNat, by omega⟩
  obtain ⟨v, q, u, e2, hv, q0, q1⟩ := changed_l0 hl c x m j t (B + 1) (by omega) hx (by omega) j0 j1 (by omega)
  refine ⟨v, q, u, ?_, ⟨hv.1, hv.2.1, by have := hv.2.2; omega⟩, q0, by omega⟩
  have hxl := hx.2.2
  refine Ev.congr (fun k => ?_) e2
  rw [Option.bind_some, if_pos (by simp; omega), e1, Option.bind_some, List.nil_append]
  rfl

def HistOk (x : List S160) : Prop := ∀ (i : Nat) (h : i < x.length), x[i].f0 = (i : Int) + 1 ∧ 0 ≤ x[i].f1 ∧ x[i].f1 ≤ (i : Int) ∧ memoB x[i].f2 = true ∧ St x[i].f3 (5 + 3 * i)
theorem memo3 : ∀ x ∈ ([(⟨#[]⟩ : ByteArray), (⟨#[110, 101, 119]⟩ : ByteArray), (⟨#[97, 32, 98]⟩ : ByteArray)] : List ByteArray), memoB x = true := by
  intro x hx
  simp only [List.mem_cons, List.not_mem_nil, or_false] at hx
  rcases hx with rfl | rfl | rfl <;> decide
theorem HistOk.push {x : List S160} (h : HistOk x) {y : S160} (h1 : y.f0 = (x.length : Int) + 1) (h2 : 0 ≤ y.f1) (h3 : y.f1 ≤ (x.length : Int)) (h4 : memoB y.f2 = true) (h5 : St y.f3 (5 + 3 * x.length)) : HistOk (x ++ [y]) := by
  intro i hi
  by_cases e : i < x.length
  · rw [List.getElem_append_left e]; exact h i e
  · simp only [List.length_append, List.length_singleton] at hi
    obtain rfl : i = x.length := by omega
    rw [List.getElem_append_right (by omega)]
    simp only [Nat.sub_self, List.getElem_singleton]
    exact ⟨h1, h2, h3, h4, h5⟩
theorem HistOk.valid {x : List S160} (h : HistOk x) (hl : x.length ≤ 6) : historyB x = true := by
  unfold historyB
  simp only [Bool.and_eq_true, List.all_eq_true, List.mem_range, decide_eq_true_iff]
  refine ⟨fun i hi => ?_, by omega⟩
  obtain ⟨h1, h2, h3, h4, h5⟩ := h i hi
  unfold versionAt
  rw [rd_iVersion hi]
  simp only [Bool.and_eq_true, decide_eq_true_iff]
  exact ⟨⟨⟨h1, h2, h3⟩, h4⟩, h5.valid (by omega)⟩
theorem draw_l0 {l : List Int} (hl : Bts l) : ∀ (e : Nat) (x : List S160) (i s B : Int), x.length + e ≤ 5 → HistOk x → 0 ≤ i → i ≤ B → B + 40 * e ≤ 100000 → DrE (fun k => spec_l27Draw.l0 k x (e : Int) l i s) (fun v => HistOk v ∧ v.length ≤ 5) (B + 40 * e) := by
  intro e
  induction e with
  | zero =>
    intro x i s B hx hh h0 h1 hB
    exact ⟨x, i, s, Ev.step (f := fun _ => some (x, i, s)) (fun k => by simp only [spec_l27Draw.l0]; rw [if_neg (by omega)]) (Ev.now _), ⟨hh, by omega⟩, h0, by omega⟩
  | succ e ih =>
    intro x i s B hx hh h0 h1 hB
    have hw : wrap64 (((e + 1 : Nat) : Int) - 1) = (e : Int) := by rw [wrap_id (by omega) (by omega)]; omega
    have hw2 : wrap64 ((x.length : Int) + 1) = (x.length : Int) + 1 := wrap_id (by omega) (by omega)
    obtain ⟨p, j, t, e1, ⟨p0, p1⟩, j0, j1⟩ := pick_ok hl s h0 h1 (by omega) (n := (x.length : Int) + 1) (by omega) (by omega)
    obtain ⟨st, j2, t2, e2, hst, j20, j21⟩ := drawState_ok hl t j0 j1 (by omega)
    by_cases hp : p > 0
    · obtain ⟨q, rfl⟩ : ∃ q : Nat, p = (q : Int) + 1 := ⟨(p - 1).toNat, by omega⟩
      have hq : q < x.length := by omega
      have hw3 : wrap64 ((q : Int) + 1 - 1) = (q : Int) := by rw [wrap_id (by omega) (by omega)]; omega
      obtain ⟨_, _, _, _, hS⟩ := hh q hq
      obtain ⟨c, j3, t3, e3, hc, j30, j31⟩ := changed_ok hl hS (by omega) t2 j20 j21 (by omega)
      obtain ⟨m, j4, t4, e4, hm, j40, j41⟩ := text_ok hl t3 j30 j31 (by omega) (c := [(⟨#[]⟩ : ByteArray), (⟨#[110, 101, 119]⟩ : ByteArray), (⟨#[97, 32, 98]⟩ : ByteArray)]) (by decide) (by decide)
      obtain ⟨v, j5, t5, e5, hv, j50, j51⟩ := ih (x ++ [⟨(x.length : Int) + 1, (q : Int) + 1, m, c⟩]) j4 t4 (B + 1 + 15 + 13 + 1) (by simp; omega) (hh.push rfl (by show (0 : Int) ≤ (q : Int) + 1; omega) (by show (q : Int) + 1 ≤ _; omega) (memo3 m hm) ⟨hc.1, hc.2.1, by have := hc.2.2; show c.length ≤ _; omega⟩) j40 (by omega) (by omega)
      refine ⟨v, j5, t5, Ev.step (f := fun k => (spec_l27DrawState.f k l j t).bind fun z => (spec_l27Changed.f k l z.2.1 z.2.2 x[q].f3).bind fun c => (spec_l00Src_text.f l c.2.1 c.2.2 [(⟨#[]⟩ : ByteArray), (⟨#[110, 101, 119]⟩ : ByteArray), (⟨#[97, 32, 98]⟩ : ByteArray)]).bind fun m => spec_l27Draw.l0 k (x ++ [⟨(x.length : Int) + 1, (q : Int) + 1, m.1, c.1⟩]) (e : Int) l m.2.1 m.2.2) (fun k => ?_) (Ev.bind e2 (Ev.bind e3 ?_)), hv, j50, by omega⟩
      · simp only [spec_l27Draw.l0]
        rw [if_pos (by omega), hw2, e1, Option.bind_some]
        simp only [if_pos hp, hw3, hw, hw2, if_pos (nn_cast q), if_pos (lt_cast hq), rd_iVersion hq, if_pos (by omega : x.length < 2513169434916)]
      · rw [e4]; exact e5
    · have hp0 : p = 0 := by omega
      subst hp0
      obtain ⟨m, j4, t4, e4, hm, j40, j41⟩ := text_ok hl t2 j20 j21 (by omega) (c := [(⟨#[]⟩ : ByteArray), (⟨#[110, 101, 119]⟩ : ByteArray), (⟨#[97, 32, 98]⟩ : ByteArray)]) (by decide) (by decide)
      obtain ⟨v, j5, t5, e5, hv, j50, j51⟩ := ih (x ++ [⟨(x.length : Int) + 1, 0, m, st⟩]) j4 t4 (B + 1 + 15 + 1) (by simp; omega) (hh.push rfl (Int.le_refl 0) (by show (0 : Int) ≤ _; omega) (memo3 m hm) ⟨hst.1, hst.2.1, by have := hst.2.2; show st.length ≤ _; omega⟩) j40 (by omega) (by omega)
      refine ⟨v, j5, t5, Ev.step (f := fun k => (spec_l27DrawState.f k l j t).bind fun z => (spec_l00Src_text.f l z.2.1 z.2.2 [(⟨#[]⟩ : ByteArray), (⟨#[110, 101, 119]⟩ : ByteArray), (⟨#[97, 32, 98]⟩ : ByteArray)]).bind fun m => spec_l27Draw.l0 k (x ++ [⟨(x.length : Int) + 1, 0, m.1, z.1⟩]) (e : Int) l m.2.1 m.2.2) (fun k => ?_) (Ev.bind e2 ?_), hv, j50, by omega⟩
      · simp only [spec_l27Draw.l0]
        rw [if_pos (by omega), hw2, e1, Option.bind_some]
        simp only [if_neg hp, hw, hw2, if_pos (by omega : x.length < 2513169434916)]
      · rw [e4]; exact e5
theorem R8History_ok {l : List Int} (hl : Bts l) : ∃ v, Ev (fun k => spec_R8History.f k l) v ∧ HistOk v ∧ v.length ≤ 5 := by
  obtain ⟨b, j, t, e1, ⟨b0, b1⟩, j0, j1⟩ := pick_ok hl (0 : Int) (Int.le_refl 0) (Int.le_refl 0) (by omega) (n := 6) (by omega) (by omega)
  obtain ⟨c, rfl⟩ : ∃ c : Nat, b = (c : Int) := ⟨b.toNat, by omega⟩
  obtain ⟨v, q, u, e2, ⟨hv, hv2⟩, _, _⟩ := draw_l0 hl c [] j t 1 (by simp; omega) (fun i hi => by simp at hi) j0 (by omega) (by omega)
  refine ⟨v, ?_, hv, hv2⟩
  unfold spec_R8History.f spec_l27Draw.f spec_l00From.f
  simp only [Option.bind_some, e1]
  exact Ev.bind e2 (Ev.now _)
theorem R8State_ok {l : List Int} (hl : Bts l) : ∃ v, Ev (fun k => spec_R8State.f k l) v ∧ St v 5 := by
  obtain ⟨v, q, u, e2, hv, _, _⟩ := drawState_ok hl (0 : Int) (Int.le_refl 0) (Int.le_refl 0) (by omega)
  refine ⟨v, ?_, hv⟩
  unfold spec_R8State.f spec_l00From.f
  simp only [Option.bind_some]
  exact Ev.bind e2 (Ev.now _)
theorem R8Changed_ok {l : List Int} (hl : Bts l) {x : List S80} (hx : St x 5) : ∃ v, Ev (fun k => spec_R8Changed.f k l x) v ∧ St v 8 := by
  obtain ⟨v, q, u, e2, hv, _, _⟩ := changed_ok hl hx (by omega) (0 : Int) (Int.le_refl 0) (Int.le_refl 0) (by omega)
  refine ⟨v, ?_, hv⟩
  unfold spec_R8Changed.f spec_l00From.f
  simp only [Option.bind_some]
  exact Ev.bind e2 (Ev.now _)
theorem okV_hist {l : List S160} (h : historyB l = true) : ∀ y ∈ l, okV y := by
  intro y hy
  obtain ⟨i, hi, rfl⟩ := List.getElem_of_mem hy
  unfold historyB at h
  simp only [Bool.and_eq_true, List.all_eq_true, List.mem_range, decide_eq_true_iff] at h
  have := h.1 i hi
  unfold versionAt at this
  rw [rd_iVersion hi] at this
  simp only [Bool.and_eq_true, decide_eq_true_iff] at this
  have h2 := state_len this.2
  have h3 := this.1.2
  unfold memoB at h3
  simp only [Bool.and_eq_true, decide_eq_true_iff] at h3
  have h4 := h3.2
  exact ⟨by omega, by omega⟩
theorem line_desc {l : List S160} (h : historyB l = true) : ∀ (d : Nat) (n : Int), n ≤ l.length → (lineL l d n).Pairwise (fun a b => b < a) ∧ ∀ x ∈ lineL l d n, 1 ≤ x ∧ x ≤ n
  | 0, n, _ => ⟨List.Pairwise.nil, fun x hx => by cases hx⟩
  | d + 1, n, hn => by
    unfold lineL
    by_cases h0 : n ≤ 0
    · rw [if_pos h0]; exact ⟨List.Pairwise.nil, fun x hx => by cases hx⟩
    · rw [if_neg h0]
      have hp := (history_facts h).2 n (by omega) hn
      obtain ⟨i1, i2⟩ := line_desc h d (par l n) (by omega)
      refine ⟨List.pairwise_cons.2 ⟨fun x hx => by have := i2 x hx; omega, i1⟩, fun x hx => ?_⟩
      rcases List.mem_cons.1 hx with e | hx
      · rw [e]; omega
      · have := i2 x hx; omega
theorem find_max : ∀ {A : List Int} {p : Int → Bool} {x : Int}, A.Pairwise (fun a b => b < a) → A.find? p = some x → x ∈ A ∧ p x = true ∧ ∀ z ∈ A, p z = true → z ≤ x
  | [], p, x, _, h => by cases h
  | y :: r, p, x, ha, h => by
    obtain ⟨hy, hr⟩ := List.pairwise_cons.1 ha
    by_cases hp : p y = true
    · rw [List.find?_cons_of_pos hp] at h
      obtain rfl := Option.some.inj h
      refine ⟨List.mem_cons_self, hp, fun z hz _ => ?_⟩
      rcases List.mem_cons.1 hz with e | hz
      · omega
      · have := hy z hz; omega
    · rw [List.find?_cons_of_neg hp] at h
      obtain ⟨i1, i2, i3⟩ := find_max hr h
      refine ⟨List.mem_cons_of_mem _ i1, i2, fun z hz hz2 => ?_⟩
      rcases List.mem_cons.1 hz with e | hz
      · rw [e] at hz2; exact absurd hz2 hp
      · exact i3 z hz hz2
theorem common_symm {l : List S160} (h : historyB l = true) {a b : Int} (ha : a ≤ l.length) (hb : b ≤ l.length) : commonL l a b = commonL l b a := by
  obtain ⟨dA, _⟩ := line_desc h 40 a ha
  obtain ⟨dB, _⟩ := line_desc h 40 b hb
  unfold commonL
  generalize lineL l 40 a = A at *
  generalize lineL l 40 b = B at *
  cases hA : A.find? (fun x => decide (x ∈ B)) with
  | none =>
    have h1 : B.find? (fun x => decide (x ∈ A)) = none := List.find?_eq_none.2 (fun x hx hx2 => by
      have := List.find?_eq_none.1 hA x (by simpa using hx2)
      simp [hx] at this)
    rw [h1]
  | some x =>
    obtain ⟨x1, x2, x3⟩ := find_max dA hA
    cases hB : B.find? (fun x => decide (x ∈ A)) with
    | none =>
      have := List.find?_eq_none.1 hB x (by simpa using x2)
      simp [x1] at this
    | some y =>
      obtain ⟨y1, y2, y3⟩ := find_max dB hB
      have h1 := y3 x (by simpa using x2) (by simpa using x1)
      have h2 := x3 y (by simpa using y2) (by simpa using y1)
      show x = y
      omega
theorem common_le {l : List S160} (h : historyB l = true) {a b : Int} (ha0 : 0 ≤ a) (ha : a ≤ l.length) : 0 ≤ commonL l a b ∧ commonL l a b ≤ a := by
  obtain ⟨dA, bA⟩ := line_desc h 40 a ha
  unfold commonL
  cases hA : (lineL l 40 a).find? (fun x => decide (x ∈ lineL l 40 b)) with
  | none => exact ⟨Int.le_refl 0, ha0⟩
  | some x =>
    have := bA x (find_max dA hA).1
    show 0 ≤ x ∧ x ≤ a
    omega
theorem CommonAncestor_ev {l : List S160} (h : historyB l = true) {a b : Int} (ha : 1 ≤ a) (ha2 : a ≤ l.length) (hb : 1 ≤ b) (hb2 : b ≤ l.length) : Ev (fun k => impl_CommonAncestor.f k l a b) (commonL l a b, 0) := by
  have hl := (history_facts h).1
  unfold impl_CommonAncestor.f
  have hc : Ev (fun k => impl_versionsCode.f k l [a, b]) 0 := Ev.le 2097200 (fun k hk => by rw [versionsCode_eq (by omega) (okV_hist h) _ hk]; simp [h, ha, ha2, hb, hb2])
  exact Ev.bind hc (Ev.pos rfl (Ev.bind (Ev.le 200 (fun k hk => commonAncestor_eq h ha ha2 hb hb2 hk)) (Ev.now _)))
def stOf (l : List S160) (n : Int) : List S80 := if n = 0 then [] else (rd_T160 l (n - 1)).f3
theorem versionState_ok {l : List S160} (h : historyB l = true) {n : Int} (h0 : 0 ≤ n) (h1 : n ≤ l.length) : impl_versionState.f l n = some (stOf l n) ∧ stateB (stOf l n) = true := by
  have hl := (history_facts h).1
  unfold impl_versionState.f stOf
  by_cases e : n = 0
  · rw [if_pos e, if_pos e]; exact ⟨rfl, by decide⟩
  · rw [if_neg e, if_neg e, wrap_id (by omega) (by omega), if_pos (by omega), if_pos (by omega)]
    refine ⟨rfl, ?_⟩
    unfold historyB at h
    simp only [Bool.and_eq_true, List.all_eq_true, List.mem_range, decide_eq_true_iff] at h
    have := h.1 (n - 1).toNat (by omega)
    unfold versionAt at this
    rw [Int.toNat_of_nonneg (by omega)] at this
    simp only [Bool.and_eq_true] at this
    exact this.2
theorem MergeVersions_ok {l : List S160} (h : historyB l = true) (h5 : l.length ≤ 5) {a b : Int} (ha : 1 ≤ a) (ha2 : a ≤ l.length) (hb : 1 ≤ b) (hb2 : b ≤ l.length) {m : ByteArray} (hm : memoB m = true) :
    ∃ v c, Ev (fun k => impl_MergeVersions.f k l a b m) (v, c) ∧ (c = 0 → v.length = l.length + 1 ∧ historyB v = true) := by
  have hl := (history_facts h).1
  have hms : m.size ≤ 1048576 := by
    unfold memoB at hm
    simp only [Bool.and_eq_true, decide_eq_true_iff] at hm
    have := hm.2; omega
  have hc : Ev (fun k => impl_versionsCode.f k l [a, b]) 0 := Ev.le 2097200 (fun k hk => by rw [versionsCode_eq (by omega) (okV_hist h) _ hk]; simp [h, ha, ha2, hb, hb2])
  have hcm := common_le (b := b) h (by omega) ha2
  obtain ⟨s1, v1⟩ := versionState_ok h hcm.1 (by omega : commonL l a b ≤ _)
  obtain ⟨s2, v2⟩ := versionState_ok h (by omega : 0 ≤ a) ha2
  obtain ⟨s3, v3⟩ := versionState_ok h (by omega : 0 ≤ b) hb2
  have hme : Ev (fun k => impl_memoValid.f k m) true := Ev.le 1048600 (fun k hk => by rw [memoValid_eq m hk, hm])
  have l1 := state_len v1
  have l2 := state_len v2
  have l3 := state_len v3
  have hM := merge_impl_ev (a := stOf l (commonL l a b)) (b := stOf l a) (c := stOf l b) (by omega) (by omega) (by omega)
  have start : ∀ {r : List S160 × Int}, Ev (fun k => (impl_commonAncestor.f k l a b).bind fun t => (impl_versionState.f l t).bind fun t1 => (impl_versionState.f l a).bind fun t2 => (impl_versionState.f l b).bind fun t3 => (impl_MergeStates.f k t1 t2 t3).bind fun z => (if z.2 = 0 then ((impl_withVersion.f l a m z.1).bind fun y => some (y.1, y.2)) else some ([], z.2))) r → Ev (fun k => impl_MergeVersions.f k l a b m) r := by
    intro r e
    unfold impl_MergeVersions.f
    refine Ev.bind hc (Ev.neg (by decide) (Ev.bind hme ?_))
    refine Ev.step (fun k => ?_) e
    simp only [impl_MergeVersions.j0]
    rw [if_neg (by decide), if_pos trivial]
  have hCA : Ev (fun k => impl_commonAncestor.f k l a b) (commonL l a b) := Ev.le 200 (fun k hk => commonAncestor_eq h ha ha2 hb hb2 hk)
  by_cases h0 : (mergeS (stOf l (commonL l a b)) (stOf l a) (stOf l b)).2 = 0
  · have hval := mergeS_valid h0
    generalize mergeS (stOf l (commonL l a b)) (stOf l a) (stOf l b) = z at hM h0 hval
    have hz := state_len hval
    have hv : historyB (l ++ [impl_withVersion.new l a m z.1]) = true := by
      unfold historyB at h ⊢
      simp only [Bool.and_eq_true, List.all_eq_true, List.mem_range, decide_eq_true_iff] at h ⊢
      refine ⟨fun i hi => ?_, by simp; omega⟩
      unfold versionAt
      rw [rd_iVersion hi]
      by_cases e : i < l.length
      · rw [List.getElem_append_left e]
        have := h.1 i e
        unfold versionAt at this
        rw [rd_iVersion e] at this
        exact this
      · simp only [List.length_append, List.length_singleton] at hi
        obtain rfl : i = l.length := by omega
        rw [List.getElem_append_right (by omega)]
        simp only [Nat.sub_self, List.getElem_singleton, Bool.and_eq_true, decide_eq_true_iff]
        exact ⟨⟨⟨rfl, by show 0 ≤ a; omega, by show a ≤ _; omega⟩, hm⟩, hval⟩
    have hall : ((l ++ [impl_withVersion.new l a m z.1]).all fun x => decide (x.f3.length < 1000000000000)) = true := by
      rw [List.all_eq_true]
      intro x hx
      have := (okV_hist hv x hx).2
      exact decide_eq_true (by omega)
    refine ⟨l ++ [impl_withVersion.new l a m z.1], 0, start (Ev.bind hCA ?_), fun _ => ⟨by simp, hv⟩⟩
    refine Ev.bind (Ev.const s1) (Ev.bind (Ev.const s2) (Ev.bind (Ev.const s3) (Ev.bind hM (Ev.pos h0 (Ev.const ?_)))))
    unfold impl_withVersion.f
    rw [if_neg (by omega), if_pos (by omega), if_pos hall, Option.bind_some]
  · refine ⟨[], (mergeS (stOf l (commonL l a b)) (stOf l a) (stOf l b)).2, start (Ev.bind hCA ?_), fun e => absurd e h0⟩
    exact Ev.bind (Ev.const s1) (Ev.bind (Ev.const s2) (Ev.bind (Ev.const s3) (Ev.bind hM (Ev.neg h0 (Ev.now _)))))
end Go.Proofs.Ytocegmkifmdlcaa.P

namespace Go.Proofs.Ytocegmkifmdlcaa.Pure
open Go.RowKit Go.Proofs.YtocegmkifmdlcaaW.PrintWords Go.Proofs.YtocegmkifmdlcaaL Go.Proofs.Ytocegmkifmdlcaa.P
theorem bts_of {l : List Int} (h : ∀ y ∈ l, (Lit.int .u8 y).wf = true) : Bts l := fun y hy => by
  have := h y hy
  simp only [Lit.wf, IntKind.min, IntKind.max, IntKind.signed, IntKind.bits, Bool.and_eq_true] at this
  simp at this
  omega
theorem Same_self {l : List S80} (hl : l.length ≤ 1048576) : Ev (fun k => spec_SameState.f k l l) true := by
  have main : ∀ (e i : Nat), i + e = l.length → Ev (fun k => spec_l27Same.l0 k l l (i : Int)) true := by
    intro e
    induction e with
    | zero =>
      intro i hi
      obtain rfl : i = l.length := by omega
      exact Ev.step (f := fun _ => some true) (fun k => by simp only [spec_l27Same.l0]; rw [if_neg (nlt_cast _)]) (Ev.now _)
    | succ e ih =>
      intro i hi
      have hlt : i < l.length := by omega
      refine Ev.step (fun k => ?_) (ih (i + 1) (by omega))
      simp only [spec_l27Same.l0]
      rw [if_pos (lt_cast hlt), if_pos (nn_cast i), if_pos (lt_cast hlt), if_neg (by simp), wrap_succ hlt (by omega)]
  unfold spec_SameState.f spec_l27Same.f
  exact Ev.bind (Ev.pos rfl (main l.length 0 (by omega))) (Ev.now _)
theorem At_ok {l : List Int} (hl : Bts l) {a n : Int} (ha : 0 ≤ a) (hn : 1 ≤ n) : ∃ v, laws_r8At.f l a n = some v ∧ 0 ≤ v ∧ v < n := by
  unfold laws_r8At.f
  by_cases h1 : n ≤ 1
  · rw [if_pos h1]; exact ⟨0, rfl, by omega, by omega⟩
  rw [if_neg h1]
  by_cases h2 : a ≥ (l.length : Int)
  · rw [if_pos h2]; exact ⟨0, rfl, by omega, by omega⟩
  rw [if_neg h2, if_pos ha, if_pos (by omega), if_neg (by omega)]
  obtain ⟨m, rfl⟩ : ∃ m : Nat, a = (m : Int) := ⟨a.toNat, by omega⟩
  have hm : m < l.length := by omega
  have hb := hl l[m] (List.getElem_mem hm)
  rw [rd_get hm, wrap_id (by omega) (by omega)]
  refine ⟨_, rfl, ?_, ?_⟩
  · rw [Int.tmod_eq_emod_of_nonneg hb.1]; exact Int.emod_nonneg _ (by omega)
  · rw [Int.tmod_eq_emod_of_nonneg hb.1]; exact Int.emod_lt_of_pos _ (by omega)
theorem both_ok : memoB (⟨#[98, 111, 116, 104]⟩ : ByteArray) = true := by decide
theorem hist_part {x : List Int} (hx : Bts x) : Ev (fun k => laws_FnMerges.j1 k x false) true := by
  obtain ⟨v, e0, hv, h5⟩ := R8History_ok hx
  have hh := hv.valid (by omega)
  refine Ev.step (f := fun k => (spec_R8History.f k x).bind fun t144 => (if (t144.length : Int) = 0 then (some true) else ((laws_r8At.f x 0 (t144.length : Int)).bind fun t147 => ((laws_r8At.f x 1 (t144.length : Int)).bind fun t148 => ((impl_CommonAncestor.f k t144 (wrap64 (1 + t147)) (wrap64 (1 + t148))).bind fun bt149 => ((impl_CommonAncestor.f k t144 (wrap64 (1 + t148)) (wrap64 (1 + t147))).bind fun bt151 => ((impl_MergeVersions.f k t144 (wrap64 (1 + t147)) (wrap64 (1 + t148)) (⟨#[98, 111, 116, 104]⟩ : ByteArray)).bind fun bt153 => (if bt149.2 = 0 then (if bt151.2 = 0 then (if bt149.1 = bt151.1 then (if bt149.1 < 0 then none else (if bt149.1 > (mn (wrap64 (1 + t147)) (wrap64 (1 + t148))) then none else (if bt153.2 = 0 then (if (bt153.1.length : Int) = (wrap64 ((t144.length : Int) + 1)) then ((spec_ValidHistory.f k bt153.1).bind fun t157 => (some t157)) else none) else (some true)))) else none) else none) else none)))))))) (fun k => by simp only [laws_FnMerges.j1]; rw [if_neg (by decide)]) ?_
  refine Ev.bind e0 ?_
  by_cases h0 : (v.length : Int) = 0
  · exact Ev.pos h0 (Ev.now _)
  refine Ev.neg h0 ?_
  obtain ⟨a, ea, a0, a1⟩ := At_ok hx (a := 0) (n := (v.length : Int)) (by omega) (by omega)
  obtain ⟨b, eb, b0, b1⟩ := At_ok hx (a := 1) (n := (v.length : Int)) (by omega) (by omega)
  refine Ev.bind (Ev.const ea) (Ev.bind (Ev.const eb) ?_)
  rw [wrap_id (x := 1 + a) (by omega) (by omega), wrap_id (x := 1 + b) (by omega) (by omega)]
  have c1 := CommonAncestor_ev hh (a := 1 + a) (b := 1 + b) (by omega) (by omega) (by omega) (by omega)
  have c2 := CommonAncestor_ev hh (a := 1 + b) (b := 1 + a) (by omega) (by omega) (by omega) (by omega)
  have hs := common_symm hh (a := 1 + a) (b := 1 + b) (by omega) (by omega)
  have l1 := common_le hh (a := 1 + a) (b := 1 + b) (by omega) (by omega)
  have l2 := common_le hh (a := 1 + b) (b := 1 + a) (by omega) (by omega)
  obtain ⟨m, c, em, hm⟩ := MergeVersions_ok hh h5 (a := 1 + a) (b := 1 + b) (by omega) (by omega) (by omega) (by omega) both_ok
  refine Ev.bind c1 (Ev.bind c2 (Ev.bind em (Ev.pos rfl (Ev.pos rfl (Ev.pos hs (Ev.neg (by show ¬ commonL v (1 + a) (1 + b) < 0; omega) (Ev.neg ?_ ?_)))))))
  · show ¬ commonL v (1 + a) (1 + b) > mn (1 + a) (1 + b)
    unfold mn
    split <;> omega
  · by_cases hc : c = 0
    · obtain ⟨m1, m2⟩ := hm hc
      refine Ev.pos hc (Ev.pos ?_ ?_)
      · show (m.length : Int) = _
        rw [m1, wrap_id (by omega) (by omega)]; omega
      · have h32 := (history_facts m2).1
        have : Ev (fun k => spec_ValidHistory.f k m) true := by
          unfold spec_ValidHistory.f
          exact Ev.bind (Ev.le 2097200 (fun k hk => by rw [l27Ok_eq (by omega) (okV_hist m2) hk, m2])) (Ev.now _)
        exact Ev.bind this (Ev.now _)
    · exact Ev.neg hc (Ev.now _)
theorem ConflictsOf_ev {a b c : List S80} (ha : stateB a = true) (hb : stateB b = true) (hc : stateB c = true) : Ev (fun k => impl_ConflictsOf.f k a b c) ((names3 a b c).filter (confB a b c), 0) := by
  have la := state_len ha
  have lb := state_len hb
  have lc := state_len hc
  unfold impl_ConflictsOf.f
  exact Ev.bind (State_impl_ev (by omega)) (Ev.pos ha (Ev.bind (State_impl_ev (by omega)) (Ev.pos hb (Ev.bind (State_impl_ev (by omega)) (Ev.pos hc (Ev.bind (conflictsOf_ev ha hb hc) (Ev.now _)))))))
theorem FnMerges : ∀ (x0 : List Int) (x1 : List Int), (x0.length ≤ maxLen ∧ ∀ y ∈ x0, (Lit.int .u8 y).wf = true) → (x1.length ≤ maxLen ∧ ∀ y ∈ x1, (Lit.int .u8 y).wf = true) → ∃ k : Nat, P.laws_FnMerges.f k x0 x1 = some true := by
  intro x0 x1 ⟨_, w0⟩ ⟨_, w1⟩
  have hb0 := bts_of w0
  have hb1 := bts_of w1
  refine Ev.rounds (g := fun k => P.laws_FnMerges.f k x0 x1) ?_
  unfold laws_FnMerges.f
  have hlong : laws_r8Long.f x0 x1 = some (decide ((x0.length : Int) > 1048576) || decide ((x1.length : Int) > 1048576)) := by
    unfold laws_r8Long.f
    by_cases h : (x0.length : Int) > 1048576
    · rw [if_pos h, decide_eq_true h]; rfl
    · rw [if_neg h, decide_eq_false h, Bool.false_or]
  refine Ev.bind (Ev.const hlong) ?_
  by_cases hl : (decide ((x0.length : Int) > 1048576) || decide ((x1.length : Int) > 1048576)) = true
  · exact Ev.pos hl (Ev.now _)
  refine Ev.neg hl ?_
  obtain ⟨s, es, hs⟩ := R8State_ok hb0
  obtain ⟨a, ea, ha⟩ := R8Changed_ok hb1 hs
  obtain ⟨b, eb, hb⟩ := R8Changed_ok hb0 hs
  have vs := hs.valid (by omega)
  have va := ha.valid (by omega)
  have vb := hb.valid (by omega)
  have ls := hs.2.2
  have la := ha.2.2
  have lb := hb.2.2
  refine Ev.bind es (Ev.bind ea (Ev.bind eb ?_))
  have m1 := merge_impl_ev (a := s) (b := a) (c := s) (by omega) (by omega) (by omega)
  have m2 := merge_impl_ev (a := s) (b := s) (c := a) (by omega) (by omega) (by omega)
  have m3 := merge_impl_ev (a := s) (b := a) (c := a) (by omega) (by omega) (by omega)
  rw [merge_left vs va] at m1
  rw [merge_right vs va] at m2
  rw [merge_both vs va] at m3
  have same := Same_self (l := a) (by omega)
  refine Ev.bind m1 (Ev.bind m2 (Ev.bind m3 (Ev.pos rfl (Ev.pos rfl (Ev.pos rfl (Ev.bind same (Ev.pos rfl (Ev.bind same (Ev.pos rfl (Ev.bind same ?_))))))))))
  have c1 := ConflictsOf_ev vs va vb
  have c2 := ConflictsOf_ev vs vb va
  have m4 := merge_impl_ev (a := s) (b := a) (c := b) (by omega) (by omega) (by omega)
  have m5 := merge_impl_ev (a := s) (b := b) (c := a) (by omega) (by omega) (by omega)
  rw [← confl_symm s a b] at c2
  rw [← mergeS_symm s a b] at m5
  have h6 := mergeS_six vs va vb
  have hv := mergeS_valid (a := s) (b := a) (c := b)
  have hl24 := mergeS_len s a b
  have hj := hist_part hb1
  generalize mergeS s a b = z at m4 m5 h6 hv hl24
  generalize (names3 s a b).filter (confB s a b) = y at c1 c2 h6
  refine Ev.step (f := fun k => (impl_ConflictsOf.f k s a b).bind fun bt126 => ((impl_ConflictsOf.f k s b a).bind fun bt130 => ((impl_MergeStates.f k s a b).bind fun bt134 => ((impl_MergeStates.f k s b a).bind fun bt138 => (if bt126.2 = 0 then (if bt130.2 = 0 then (if (bt126.1.length : Int) = (bt130.1.length : Int) then (if bt134.2 = bt138.2 then (if ((bt134.2 == 6) != (decide ((bt126.1.length : Int) > 0))) = true then none else (if bt134.2 = 0 then ((spec_SameState.f k bt134.1 bt138.1).bind fun t142 => (if t142 = true then ((spec_ValidState.f k bt134.1).bind fun t143 => (laws_FnMerges.j1 k x1 (!t143))) else none)) else (laws_FnMerges.j1 k x1 false))) else none) else none) else none) else none))))) (fun k => by simp only [laws_FnMerges.j0]; rw [if_neg (by decide)]) ?_
  refine Ev.bind c1 (Ev.bind c2 (Ev.bind m4 (Ev.bind m5 (Ev.pos rfl (Ev.pos rfl (Ev.pos rfl (Ev.pos rfl (Ev.neg ?_ ?_))))))))
  · show ¬ ((z.2 == 6) != decide ((y.length : Int) > 0)) = true
    rw [h6]; simp
  by_cases hz : z.2 = 0
  · have hval := hv hz
    refine Ev.pos hz (Ev.bind (Same_self (by omega)) (Ev.pos rfl ?_))
    have hvs : Ev (fun k => spec_ValidState.f k z.1) true := by
      unfold spec_ValidState.f
      have := State_spec_ev (l := z.1) (by omega)
      rw [hval] at this
      exact Ev.bind this (Ev.now _)
    exact Ev.bind hvs hj
  · exact Ev.neg hz hj
end Go.Proofs.Ytocegmkifmdlcaa.Pure
