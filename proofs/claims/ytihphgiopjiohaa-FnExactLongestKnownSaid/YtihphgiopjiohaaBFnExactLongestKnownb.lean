/- Part b of what FnExactLongestKnown stands on: functions of the program as Lean functions with their walks, and plain lemmas. -/
import Derived.Test.YtihphgiopjiohaaK
import Derived.Test.YtihphgiopjiohaaBFnExactLongestKnowna
import Derived.ChangeOld
import Derived.ChangeArms
import Derived.WideShapes
import Derived.Test.YtihphgiopjiohaaWWords
import Derived.KernelRfl
/- impl_parseCode: what it answers, and that the machine's call comes to it. -/
namespace Go.Proofs.Ytihphgiopjiohaa.P
open Go.RowKit Go.Proofs.YtihphgiopjiohaaW.PrintWords Go.Proofs.YtihphgiopjiohaaW.PrintLast Go.Proofs.YtihphgiopjiohaaW.PrintMore
attribute [local go_sem] max2_int min2_int max_two min_two max_three min_three max_four min_four str_leq str_gtr str_geq
set_option linter.unusedVariables false
set_option linter.unusedSimpArgs false

/-! ### impl_parseCode: function 44 -/
def impl_parseCode.j0 : Nat → List Int → Bool → Option (Int)
  | 0, _, _ => none
  | k + 1, x1, x13 => if x13 = true then (some 2) else ((impl_pitchesOk.f x1).bind fun t104 => (if t104 = true then (some 0) else (some 7)))
def impl_parseCode.f (k : Nat) (l0 : List (S47)) (l1 : List Int) (a2 : Int) (a3 : Int) : Option (Int) := (impl_ValidPatterns.f l0).bind fun t101 => (if t101 = true then ((impl_within.f a2 0 (l1.length : Int)).bind fun t102 => (if t102 = true then ((impl_within.f a3 0 1000).bind fun t103 => (impl_parseCode.j0 k l1 (!t103))) else (impl_parseCode.j0 k l1 true))) else (some 1))
theorem impl_parseCode.mono_l : ∀ k, (∀ y0 y1, LeO (impl_parseCode.j0 k y0 y1) (impl_parseCode.j0 (k + 1) y0 y1))
  | 0 => fun _ _ r h => by simp [impl_parseCode.j0] at h
  | k + 1 => by
    have ih0 := impl_parseCode.mono_l k
    · intro y0 y1
      unfold impl_parseCode.j0
      repeat' first
      | (with_reducible exact ih0 _ _)
      | (with_reducible exact LeO.refl _)
      | (with_reducible exact LeO.none _)
      | (with_reducible refine LeO.ite ?_ ?_)
      | (with_reducible refine LeO.bind ?_ (fun _ => ?_))
      | exact ih0 _ _
      | exact LeO.none _
      | refine LeO.ite ?_ ?_
      | refine LeO.bind ?_ (fun _ => ?_)
theorem impl_parseCode.mono : ∀ a0 a1 a2 a3 k, LeO (impl_parseCode.f k a0 a1 a2 a3) (impl_parseCode.f (k + 1) a0 a1 a2 a3) := by
  intro a0 a1 a2 a3 k
  have ih0 := impl_parseCode.mono_l k
  unfold impl_parseCode.f
  repeat' first
      | (with_reducible exact ih0 _ _)
      | (with_reducible exact LeO.refl _)
      | (with_reducible exact LeO.none _)
      | (with_reducible refine LeO.ite ?_ ?_)
      | (with_reducible refine LeO.bind ?_ (fun _ => ?_))
      | exact ih0 _ _
      | exact LeO.none _
      | refine LeO.ite ?_ ?_
      | refine LeO.bind ?_ (fun _ => ?_)
set_option maxHeartbeats 8000000 in
set_option maxRecDepth 100000 in
theorem impl_parseCode.calls (k : Nat) (A0 : Option Addr) (c0 : Nat) (l0 : List (S47)) (A1 : Option Addr) (c1 : Nat) (l1 : List Int) (a2 : Int) (a3 : Int) (r : Int) (w : World) (hr0 : Kd.C k47 w A0 l0.length l0) (hc0 : l0.length ≤ c0) (hr1 : Kd.C (Kd.int .i64) w A1 l1.length l1) (hc1 : l1.length ≤ c1) (h : impl_parseCode.f k l0 l1 a2 a3 = some r) :
    Calls Try.prog 44 #[.slice A0 l0.length c0, .slice A1 l1.length c1, .int .i64 a2, .int .i64 a3] w fun e w' => e = .returned (.int .i64 r) ∧ Below w.heap.size w w' := by
  have HR0 := Aside0.mk hr0
  have HC0 := Aside0.mk hc0
  clear hr0 hc0
  have HR1 := Aside0.mk hr1
  have HC1 := Aside0.mk hc1
  clear hr1 hc1
  have HB := Aside0.mk (Below.refl w.heap.size w)
  have H : ((impl_ValidPatterns.f l0).bind fun t101 => (if t101 = true then ((impl_within.f a2 0 (l1.length : Int)).bind fun t102 => (if t102 = true then ((impl_within.f a3 0 1000).bind fun t103 => (impl_parseCode.j0 k l1 (!t103))) else (impl_parseCode.j0 k l1 true))) else (some 1))) = some r := h
  clear h
  replace H := Option.bind_eq_some_iff.mp H
  obtain ⟨t101, A50, H⟩ := H
  replace H : (if t101 = true then ((impl_within.f a2 0 (l1.length : Int)).bind fun t102 => (if t102 = true then ((impl_within.f a3 0 1000).bind fun t103 => (impl_parseCode.j0 k l1 (!t103))) else (impl_parseCode.j0 k l1 true))) else (some 1)) = some r := H
  have A5 := Aside0.mk A50
  clear A50
  by_cases c6 : t101 = true
  · subst c6
    have H1 : ((impl_within.f a2 0 (l1.length : Int)).bind fun t102 => (if t102 = true then ((impl_within.f a3 0 1000).bind fun t103 => (impl_parseCode.j0 k l1 (!t103))) else (impl_parseCode.j0 k l1 true))) = some r := by rw [if_pos rfl] at H; exact H
    clear H
    have H := H1
    clear H1
    have HC7 := Aside0.mk H
    clear H
    go_enter Try.func44, Try.ntmps44
    go_upto_region 3 with (first | ((with_reducible refine gate_callee (f := 14) rfl ?_); refine goesL_ (some 11) rfl rfl Try.func14 (by kernel_rfl) rfl #[.slice A0 l0.length c0] rfl (by (try simp only [List.map_toArray, List.map_cons, List.map_nil]); first | done | rfl | (simp only [List.length_drop, List.length_take]; rfl)) ?_; (with_reducible refine (impl_ValidPatterns.calls _ _ l0 true _ ?side1 ?side2 A5.out).mono ?_); (case side1 => repeat (first | exact HR0.out | (with_reducible refine Kd.C_alloc ?_ _) | (with_reducible refine Kd.C_drewN ?_ _) | (with_reducible refine Kd.C_drew ?_))); (case side2 => exact HC0.out); rintro e w8 ⟨rfl, hb⟩; refine ⟨_, rfl, ?_⟩; have n0_ := Aside0.mk (below_step (by repeat (first | (with_reducible first | exact HB.out | apply below_alloc | apply pw_below_drewN | apply below_drew1) | exact HB.out)) hb); clear HB; have HB := n0_; clear n0_; (try clear hb); (try clear hb2); (try clear hk); (try clear hi)))
    (try simp only [Act.put, List.setIfInBounds_toArray, List.set_cons_zero, List.set_cons_succ])
    go_cut [13] (fun v13 wc => ∃ (kq : Nat) (x13_6 : Bool), v13 = .bool x13_6 ∧ Aside0 (impl_parseCode.j0 kq l1 x13_6 = some r) ∧ Aside0 (kq ≤ k) ∧ Aside0 (Below w.heap.size w wc))
    case first =>
      have H := HC7.out
      clear HC7
      replace H := Option.bind_eq_some_iff.mp H
      obtain ⟨t102, A90, H⟩ := H
      replace H : (if t102 = true then ((impl_within.f a3 0 1000).bind fun t103 => (impl_parseCode.j0 k l1 (!t103))) else (impl_parseCode.j0 k l1 true)) = some r := H
      have A9 := Aside0.mk A90
      clear A90
      by_cases c10 : t102 = true
      · subst c10
        have H1 : ((impl_within.f a3 0 1000).bind fun t103 => (impl_parseCode.j0 k l1 (!t103))) = some r := by rw [if_pos rfl] at H; exact H
        clear H
        have H := H1
        clear H1
        replace H := Option.bind_eq_some_iff.mp H
        obtain ⟨t103, A110, H⟩ := H
        replace H : (impl_parseCode.j0 k l1 (!t103)) = some r := H
        have A11 := Aside0.mk A110
        clear A110
        have H' := Aside0.mk H
        clear H
        go_wp2_with (first | ((with_reducible refine gate_callee (f := 58) rfl ?_); refine goesL_ (some 17) rfl rfl Try.func58 (by kernel_rfl) rfl #[.int .i64 a2, .int .i64 0, .int .i64 (l1.length : Int)] rfl (by (try simp only [List.map_toArray, List.map_cons, List.map_nil]); first | done | rfl | (simp only [List.length_drop, List.length_take]; rfl)) ?_; (with_reducible refine (impl_within.calls a2 0 (l1.length : Int) true _ A9.out).mono ?_); rintro e w' ⟨rfl, ⟨nd, rfl⟩⟩; refine ⟨_, rfl, ?_⟩) | (go_at_call 58; (with_reducible refine (impl_within.calls a3 0 1000 t103 _ A11.out).mono ?_); rintro e w' ⟨rfl, ⟨nd, rfl⟩⟩))
        go_meet
        case rel => exact ⟨_, (!t103), (by first | rfl | (simp; done) | (simp [*]; done)), H', ⟨by first | omega | exact Nat.le_refl _⟩, ⟨by repeat (first | (with_reducible first | exact HB.out | apply below_alloc | apply pw_below_drewN | apply below_drew1) | exact HB.out)⟩⟩
      · replace c10 := Bool.eq_false_iff.mpr c10
        subst c10
        have H1 : (impl_parseCode.j0 k l1 true) = some r := by rw [if_neg (show ¬ (false = true) by decide)] at H; exact H
        clear H
        have H := H1
        clear H1
        have H' := Aside0.mk H
        clear H
        go_wp2_with (first | ((with_reducible refine gate_callee (f := 58) rfl ?_); refine goesL_ (some 17) rfl rfl Try.func58 (by kernel_rfl) rfl #[.int .i64 a2, .int .i64 0, .int .i64 (l1.length : Int)] rfl (by (try simp only [List.map_toArray, List.map_cons, List.map_nil]); first | done | rfl | (simp only [List.length_drop, List.length_take]; rfl)) ?_; (with_reducible refine (impl_within.calls a2 0 (l1.length : Int) false _ A9.out).mono ?_); rintro e w' ⟨rfl, ⟨nd, rfl⟩⟩; refine ⟨_, rfl, ?_⟩))
        go_meet
        case rel => exact ⟨_, (true), (by first | rfl | (simp; done) | (simp [*]; done)), H', ⟨by first | omega | exact Nat.le_refl _⟩, ⟨by repeat (first | (with_reducible first | exact HB.out | apply below_alloc | apply pw_below_drewN | apply below_drew1) | exact HB.out)⟩⟩
    case rest =>
      clear HC7
      try clear c1
      try clear p2
      try clear c4
      try clear c5
      try clear c6
      try clear c10
      obtain ⟨kq, x13_6, rfl, HA, HJ6, HB⟩ := hcut
      cases kq with
      | zero => exact absurd HA.out (by simp [impl_parseCode.j0])
      | succ kj6 =>
        have H := HA.out
        clear HA
        simp only [impl_parseCode.j0] at H
        by_cases c12 : x13_6 = true
        · subst c12
          have H1 : (some 2) = some r := by rw [if_pos rfl] at H; exact H
          clear H
          have H := H1
          clear H1
          obtain rfl := Option.some.inj H
          go_wp2
          go_ret
          exact ⟨by first | rfl | (simp [errW_none, errW_some] <;> rfl) | (simp [*, errW_none, errW_some] <;> rfl), by repeat (first | (with_reducible first | exact HB.out | apply below_alloc | apply pw_below_drewN | apply below_drew1) | exact HB.out)⟩
        · replace c12 := Bool.eq_false_iff.mpr c12
          subst c12
          have H1 : ((impl_pitchesOk.f l1).bind fun t104 => (if t104 = true then (some 0) else (some 7))) = some r := by rw [if_neg (show ¬ (false = true) by decide)] at H; exact H
          clear H
          have H := H1
          clear H1
          replace H := Option.bind_eq_some_iff.mp H
          obtain ⟨t104, A130, H⟩ := H
          replace H : (if t104 = true then (some 0) else (some 7)) = some r := H
          have A13 := Aside0.mk A130
          clear A130
          by_cases c14 : t104 = true
          · subst c14
            have H1 : (some 0) = some r := by rw [if_pos rfl] at H; exact H
            clear H
            have H := H1
            clear H1
            obtain rfl := Option.some.inj H
            go_wp2_with (first | ((with_reducible refine gate_callee (f := 62) rfl ?_); refine goesL_ (some 26) rfl rfl Try.func62 (by kernel_rfl) rfl #[.slice A1 l1.length c1] rfl (by (try simp only [List.map_toArray, List.map_cons, List.map_nil]); first | done | rfl | (simp only [List.length_drop, List.length_take]; rfl)) ?_; (with_reducible refine (impl_pitchesOk.calls _ _ l1 true _ ?side1 ?side2 A13.out).mono ?_); (case side1 => repeat (first | exact (Kd.C_below HR1.out HB.out) | (with_reducible refine Kd.C_alloc ?_ _) | (with_reducible refine Kd.C_drewN ?_ _) | (with_reducible refine Kd.C_drew ?_))); (case side2 => exact HC1.out); rintro e w15 ⟨rfl, hb⟩; refine ⟨_, rfl, ?_⟩; have n0_ := Aside0.mk (below_step (by repeat (first | (with_reducible first | exact HB.out | apply below_alloc | apply pw_below_drewN | apply below_drew1) | exact HB.out)) hb); clear HB; have HB := n0_; clear n0_; (try clear hb); (try clear hb2); (try clear hk); (try clear hi)))
            go_ret
            exact ⟨by first | rfl | (simp [errW_none, errW_some] <;> rfl) | (simp [*, errW_none, errW_some] <;> rfl), by repeat (first | (with_reducible first | exact HB.out | apply below_alloc | apply pw_below_drewN | apply below_drew1) | exact HB.out)⟩
          · replace c14 := Bool.eq_false_iff.mpr c14
            subst c14
            have H1 : (some 7) = some r := by rw [if_neg (show ¬ (false = true) by decide)] at H; exact H
            clear H
            have H := H1
            clear H1
            obtain rfl := Option.some.inj H
            go_wp2_with (first | ((with_reducible refine gate_callee (f := 62) rfl ?_); refine goesL_ (some 26) rfl rfl Try.func62 (by kernel_rfl) rfl #[.slice A1 l1.length c1] rfl (by (try simp only [List.map_toArray, List.map_cons, List.map_nil]); first | done | rfl | (simp only [List.length_drop, List.length_take]; rfl)) ?_; (with_reducible refine (impl_pitchesOk.calls _ _ l1 false _ ?side1 ?side2 A13.out).mono ?_); (case side1 => repeat (first | exact (Kd.C_below HR1.out HB.out) | (with_reducible refine Kd.C_alloc ?_ _) | (with_reducible refine Kd.C_drewN ?_ _) | (with_reducible refine Kd.C_drew ?_))); (case side2 => exact HC1.out); rintro e w16 ⟨rfl, hb⟩; refine ⟨_, rfl, ?_⟩; have n0_ := Aside0.mk (below_step (by repeat (first | (with_reducible first | exact HB.out | apply below_alloc | apply pw_below_drewN | apply below_drew1) | exact HB.out)) hb); clear HB; have HB := n0_; clear n0_; (try clear hb); (try clear hb2); (try clear hk); (try clear hi)))
            go_ret
            exact ⟨by first | rfl | (simp [errW_none, errW_some] <;> rfl) | (simp [*, errW_none, errW_some] <;> rfl), by repeat (first | (with_reducible first | exact HB.out | apply below_alloc | apply pw_below_drewN | apply below_drew1) | exact HB.out)⟩
  · replace c6 := Bool.eq_false_iff.mpr c6
    subst c6
    have H1 : (some 1) = some r := by rw [if_neg (show ¬ (false = true) by decide)] at H; exact H
    clear H
    have H := H1
    clear H1
    obtain rfl := Option.some.inj H
    go_enter Try.func44, Try.ntmps44
    go_wp2_with (first | ((with_reducible refine gate_callee (f := 14) rfl ?_); refine goesL_ (some 11) rfl rfl Try.func14 (by kernel_rfl) rfl #[.slice A0 l0.length c0] rfl (by (try simp only [List.map_toArray, List.map_cons, List.map_nil]); first | done | rfl | (simp only [List.length_drop, List.length_take]; rfl)) ?_; (with_reducible refine (impl_ValidPatterns.calls _ _ l0 false _ ?side1 ?side2 A5.out).mono ?_); (case side1 => repeat (first | exact HR0.out | (with_reducible refine Kd.C_alloc ?_ _) | (with_reducible refine Kd.C_drewN ?_ _) | (with_reducible refine Kd.C_drew ?_))); (case side2 => exact HC0.out); rintro e w17 ⟨rfl, hb⟩; refine ⟨_, rfl, ?_⟩; have n0_ := Aside0.mk (below_step (by repeat (first | (with_reducible first | exact HB.out | apply below_alloc | apply pw_below_drewN | apply below_drew1) | exact HB.out)) hb); clear HB; have HB := n0_; clear n0_; (try clear hb); (try clear hb2); (try clear hk); (try clear hi)))
    go_ret
    exact ⟨by first | rfl | (simp [errW_none, errW_some] <;> rfl) | (simp [*, errW_none, errW_some] <;> rfl), by repeat (first | (with_reducible first | exact HB.out | apply below_alloc | apply pw_below_drewN | apply below_drew1) | exact HB.out)⟩

end Go.Proofs.Ytihphgiopjiohaa.P

/- slices_Equal_S_int64: what it answers, and that the machine's call comes to it. -/
namespace Go.Proofs.Ytihphgiopjiohaa.P
open Go.RowKit Go.Proofs.YtihphgiopjiohaaW.PrintWords Go.Proofs.YtihphgiopjiohaaW.PrintLast Go.Proofs.YtihphgiopjiohaaW.PrintMore
attribute [local go_sem] max2_int min2_int max_two min_two max_three min_three max_four min_four str_leq str_gtr str_geq
set_option linter.unusedVariables false
set_option linter.unusedSimpArgs false

/-! ### slices_Equal_S_int64: function 64 -/
def slices_Equal_S_int64.l0 : Nat → List Int → List Int → Int → Int → Option (Bool)
  | 0, _, _, _, _ => none
  | k + 1, x0, x1, x12, x13 => if x13 < x12 then (if 0 ≤ x13 then (if x13 < (x0.length : Int) then (if x13 < (x1.length : Int) then (if (rd x0 x13) = (rd x1 x13) then (slices_Equal_S_int64.l0 k x0 x1 x12 (wrap64 (x13 + 1))) else (some false)) else (none)) else (none)) else (none)) else (some true)
def slices_Equal_S_int64.f (k : Nat) (l0 : List Int) (l1 : List Int) : Option (Bool) := if (l0.length : Int) = (l1.length : Int) then (slices_Equal_S_int64.l0 k l0 l1 (l0.length : Int) 0) else (some false)
theorem slices_Equal_S_int64.mono_l : ∀ k, (∀ y0 y1 y2 y3, LeO (slices_Equal_S_int64.l0 k y0 y1 y2 y3) (slices_Equal_S_int64.l0 (k + 1) y0 y1 y2 y3))
  | 0 => fun _ _ _ _ r h => by simp [slices_Equal_S_int64.l0] at h
  | k + 1 => by
    have ih0 := slices_Equal_S_int64.mono_l k
    · intro y0 y1 y2 y3
      unfold slices_Equal_S_int64.l0
      repeat' first
      | (with_reducible exact ih0 _ _ _ _)
      | (with_reducible exact LeO.refl _)
      | (with_reducible exact LeO.none _)
      | (with_reducible refine LeO.ite ?_ ?_)
      | (with_reducible refine LeO.bind ?_ (fun _ => ?_))
      | exact ih0 _ _ _ _
      | exact LeO.none _
      | refine LeO.ite ?_ ?_
      | refine LeO.bind ?_ (fun _ => ?_)
theorem slices_Equal_S_int64.mono : ∀ a0 a1 k, LeO (slices_Equal_S_int64.f k a0 a1) (slices_Equal_S_int64.f (k + 1) a0 a1) := by
  intro a0 a1 k
  have ih0 := slices_Equal_S_int64.mono_l k
  unfold slices_Equal_S_int64.f
  repeat' first
      | (with_reducible exact ih0 _ _ _ _)
      | (with_reducible exact LeO.refl _)
      | (with_reducible exact LeO.none _)
      | (with_reducible refine LeO.ite ?_ ?_)
      | (with_reducible refine LeO.bind ?_ (fun _ => ?_))
      | exact ih0 _ _ _ _
      | exact LeO.none _
      | refine LeO.ite ?_ ?_
      | refine LeO.bind ?_ (fun _ => ?_)
set_option maxHeartbeats 8000000 in
set_option maxRecDepth 100000 in
theorem slices_Equal_S_int64.calls (k : Nat) (A0 : Option Addr) (c0 : Nat) (l0 : List Int) (A1 : Option Addr) (c1 : Nat) (l1 : List Int) (r : Bool) (w : World) (hr0 : Kd.C (Kd.int .i64) w A0 l0.length l0) (hc0 : l0.length ≤ c0) (hr1 : Kd.C (Kd.int .i64) w A1 l1.length l1) (hc1 : l1.length ≤ c1) (h : slices_Equal_S_int64.f k l0 l1 = some r) :
    Calls Try.prog 64 #[.slice A0 l0.length c0, .slice A1 l1.length c1] w fun e w' => e = .returned (.bool r) ∧ Drawn0 w w' := by
  have HR0 := Aside0.mk hr0
  have HC0 := Aside0.mk hc0
  clear hr0 hc0
  have HR1 := Aside0.mk hr1
  have HC1 := Aside0.mk hc1
  clear hr1 hc1
  have H : (if (l0.length : Int) = (l1.length : Int) then (slices_Equal_S_int64.l0 k l0 l1 (l0.length : Int) 0) else (some false)) = some r := h
  clear h
  by_cases c3 : (l0.length : Int) = (l1.length : Int)
  · rw [if_pos c3] at H
    have c3b0 : ((l0.length : Int) == (l1.length : Int)) = true := beq_iff_eq.mpr c3
    have c3b1 : ((l0.length : Int) != (l1.length : Int)) = false := bne_eq_false_iff_eq.mpr c3
    have c3b2 : (l0.length == l1.length) = true := by first | simpa using c3 | (simp at c3 ⊢; omega)
    clear c3
    have H' := Aside0.mk H
    clear H
    go_enter Try.func64, Try.ntmps64
    go_wp2
    repeat (go_quiet (fail); try go_wp2)
    go_loopg [13] k (fun kq v13 w' => ∃ (x13_1 : Int), v13 = .int .i64 x13_1 ∧ Aside0 (slices_Equal_S_int64.l0 kq l0 l1 (l0.length : Int) x13_1 = some r) ∧ Aside0 (kq ≤ k) ∧ Drawn0 w w')
    case atStart => exact ⟨(0), (by first | rfl | (simp; done) | (simp [*]; done)), H', ⟨Nat.le_refl _⟩, by repeat (first | exact Drawn0.refl _ | apply Drawn0.step)⟩
    case round =>
      clear H'
      try clear c1
      try clear p2
      try clear c3
      try clear c3b0
      try clear c3b1
      try clear c3b2
      obtain ⟨x13_1, rfl, HA, HK1, ⟨m1, rfl⟩⟩ := hrel
      cases gk with
      | zero => exact absurd HA.out (by simp [slices_Equal_S_int64.l0])
      | succ k1 =>
        have H := HA.out
        clear HA
        simp only [slices_Equal_S_int64.l0] at H
        by_cases c4 : x13_1 < (l0.length : Int)
        · rw [if_pos c4] at H
          have c4b0 : decide (x13_1 < (l0.length : Int)) = true := decide_eq_true c4
          clear c4
          by_cases c5 : 0 ≤ x13_1
          · rw [if_pos c5] at H
            have c5b0 : decide (0 ≤ x13_1) = true := decide_eq_true c5
            clear c5
            by_cases c6 : x13_1 < (l0.length : Int)
            · rw [if_pos c6] at H
              have c6b0 : decide (x13_1 < (l0.length : Int)) = true := decide_eq_true c6
              clear c6
              by_cases c7 : x13_1 < (l1.length : Int)
              · rw [if_pos c7] at H
                have c7b0 : decide (x13_1 < (l1.length : Int)) = true := decide_eq_true c7
                clear c7
                by_cases c8 : (rd l0 x13_1) = (rd l1 x13_1)
                · rw [if_pos c8] at H
                  have c8b0 : ((rd l0 x13_1) == (rd l1 x13_1)) = true := beq_iff_eq.mpr c8
                  have c8b1 : ((rd l0 x13_1) != (rd l1 x13_1)) = false := bne_eq_false_iff_eq.mpr c8
                  clear c8
                  have H' := Aside0.mk H
                  clear H
                  have p101 : 0 ≤ (x13_1 : Int) := of_decide_eq_true (by first | (with_reducible assumption) | assumption)
                  have q101 : x13_1 < (l0.length : Int) := of_decide_eq_true (by first | (with_reducible assumption) | assumption)
                  obtain ⟨ad101, e101, hx101_0⟩ := Kd.at_int HR0.out x13_1 p101 q101
                  cases e101
                  replace p101 := eq_true p101
                  replace q101 := eq_true q101
                  have p102 : 0 ≤ (x13_1 : Int) := of_decide_eq_true (by first | (with_reducible assumption) | assumption)
                  have q102 : x13_1 < (l1.length : Int) := of_decide_eq_true (by first | (with_reducible assumption) | assumption)
                  obtain ⟨ad102, e102, hx102_0⟩ := Kd.at_int HR1.out x13_1 p102 q102
                  cases e102
                  replace p102 := eq_true p102
                  replace q102 := eq_true q102
                  go_wp2
                  repeat (go_quiet (fail); try go_wp2)
                  go_roundg k1
                  case measure => have := HK1.out; omega
                  case rel => exact ⟨(wrap64 (x13_1 + 1)), (by first | rfl | (simp; done) | (simp [*]; done)), H', ⟨by have := HK1.out; omega⟩, by repeat (first | exact Drawn0.refl _ | apply Drawn0.step)⟩
                · rw [if_neg c8] at H
                  have c8b0 : ((rd l0 x13_1) == (rd l1 x13_1)) = false := beq_eq_false_iff_ne.mpr c8
                  have c8b1 : ((rd l0 x13_1) != (rd l1 x13_1)) = true := bne_iff_ne.mpr c8
                  obtain rfl := Option.some.inj H
                  have p101 : 0 ≤ (x13_1 : Int) := of_decide_eq_true (by first | (with_reducible assumption) | assumption)
                  have q101 : x13_1 < (l0.length : Int) := of_decide_eq_true (by first | (with_reducible assumption) | assumption)
                  obtain ⟨ad101, e101, hx101_0⟩ := Kd.at_int HR0.out x13_1 p101 q101
                  cases e101
                  replace p101 := eq_true p101
                  replace q101 := eq_true q101
                  have p102 : 0 ≤ (x13_1 : Int) := of_decide_eq_true (by first | (with_reducible assumption) | assumption)
                  have q102 : x13_1 < (l1.length : Int) := of_decide_eq_true (by first | (with_reducible assumption) | assumption)
                  obtain ⟨ad102, e102, hx102_0⟩ := Kd.at_int HR1.out x13_1 p102 q102
                  cases e102
                  replace p102 := eq_true p102
                  replace q102 := eq_true q102
                  go_wp2
                  repeat (go_quiet (fail); try go_wp2)
                  go_ret
                  exact ⟨by first | rfl | (simp; done) | (simp [*]; done), by repeat (first | exact Drawn0.refl _ | apply Drawn0.step)⟩
              · rw [if_neg c7] at H
                exact absurd H (by simp)
            · rw [if_neg c6] at H
              exact absurd H (by simp)
          · rw [if_neg c5] at H
            exact absurd H (by simp)
        · rw [if_neg c4] at H
          have c4b0 : decide (x13_1 < (l0.length : Int)) = false := decide_eq_false c4
          clear c4
          obtain rfl := Option.some.inj H
          go_wp2
          repeat (go_quiet (fail); try go_wp2)
          go_ret
          exact ⟨by first | rfl | (simp; done) | (simp [*]; done), by repeat (first | exact Drawn0.refl _ | apply Drawn0.step)⟩
  · rw [if_neg c3] at H
    have c3b0 : ((l0.length : Int) == (l1.length : Int)) = false := beq_eq_false_iff_ne.mpr c3
    have c3b1 : ((l0.length : Int) != (l1.length : Int)) = true := bne_iff_ne.mpr c3
    have c3b2 : (l0.length == l1.length) = false := by first | simpa using c3 | (simp at c3 ⊢; omega)
    obtain rfl := Option.some.inj H
    go_enter Try.func64, Try.ntmps64
    go_wp2
    repeat (go_quiet (fail); try go_wp2)
    go_ret
    exact ⟨by first | rfl | (simp; done) | (simp [*]; done), by repeat (first | exact Drawn0.refl _ | apply Drawn0.step)⟩

end Go.Proofs.Ytihphgiopjiohaa.P

/- impl_patternsAt: what it answers, and that the machine's call comes to it. -/
namespace Go.Proofs.Ytihphgiopjiohaa.P
open Go.RowKit Go.Proofs.YtihphgiopjiohaaW.PrintWords Go.Proofs.YtihphgiopjiohaaW.PrintLast Go.Proofs.YtihphgiopjiohaaW.PrintMore
attribute [local go_sem] max2_int min2_int max_two min_two max_three min_three max_four min_four str_leq str_gtr str_geq
set_option linter.unusedVariables false
set_option linter.unusedSimpArgs false

/-! ### impl_patternsAt: function 47 -/
def impl_patternsAt.l0 : Nat → List Int → Int → List Int → List (S47) → Int → Int → Option (List Int)
  | 0, _, _, _, _, _, _ => none
  | k + 1, x1, x2, x7, x11, x12, x13 => if x13 < x12 then (if 0 ≤ x13 then (if x13 < (x11.length : Int) then (if (wrap64 (x2 + (((rd_T47 x11 x13).f0).length : Int))) ≤ (x1.length : Int) then (if 0 ≤ x2 then (if x2 ≤ (wrap64 (x2 + (((rd_T47 x11 x13).f0).length : Int))) then ((slices_Equal_S_int64.f k ((x1.take ((wrap64 (x2 + (((rd_T47 x11 x13).f0).length : Int))) : Int).toNat).drop (x2 : Int).toNat) ((rd_T47 x11 x13).f0)).bind fun t104 => (if t104 = true then (if x7.length < 17592186044416 then (impl_patternsAt.l0 k x1 x2 (x7 ++ [x13]) x11 x12 (wrap64 (x13 + 1))) else (none)) else (impl_patternsAt.l0 k x1 x2 x7 x11 x12 (wrap64 (x13 + 1))))) else (none)) else (none)) else (impl_patternsAt.l0 k x1 x2 x7 x11 x12 (wrap64 (x13 + 1)))) else (none)) else (none)) else (some x7)
def impl_patternsAt.f (k : Nat) (l0 : List (S47)) (l1 : List Int) (a2 : Int) : Option (List Int) := impl_patternsAt.l0 k l1 a2 ([] : List Int) l0 (l0.length : Int) 0
theorem impl_patternsAt.mono_l : ∀ k, (∀ y0 y1 y2 y3 y4 y5, LeO (impl_patternsAt.l0 k y0 y1 y2 y3 y4 y5) (impl_patternsAt.l0 (k + 1) y0 y1 y2 y3 y4 y5))
  | 0 => fun _ _ _ _ _ _ r h => by simp [impl_patternsAt.l0] at h
  | k + 1 => by
    have ih0 := impl_patternsAt.mono_l k
    · intro y0 y1 y2 y3 y4 y5
      unfold impl_patternsAt.l0
      repeat' first
      | (with_reducible exact ih0 _ _ _ _ _ _)
      | (with_reducible exact slices_Equal_S_int64.mono _ _ _)
      | (with_reducible exact LeO.refl _)
      | (with_reducible exact LeO.none _)
      | (with_reducible refine LeO.ite ?_ ?_)
      | (with_reducible refine LeO.bind ?_ (fun _ => ?_))
      | exact ih0 _ _ _ _ _ _
      | exact slices_Equal_S_int64.mono _ _ _
      | exact LeO.none _
      | refine LeO.ite ?_ ?_
      | refine LeO.bind ?_ (fun _ => ?_)
theorem impl_patternsAt.mono : ∀ a0 a1 a2 k, LeO (impl_patternsAt.f k a0 a1 a2) (impl_patternsAt.f (k + 1) a0 a1 a2) := by
  intro a0 a1 a2 k
  have ih0 := impl_patternsAt.mono_l k
  unfold impl_patternsAt.f
  repeat' first
      | (with_reducible exact ih0 _ _ _ _ _ _)
      | (with_reducible exact slices_Equal_S_int64.mono _ _ _)
      | (with_reducible exact LeO.refl _)
      | (with_reducible exact LeO.none _)
      | (with_reducible refine LeO.ite ?_ ?_)
      | (with_reducible refine LeO.bind ?_ (fun _ => ?_))
      | exact ih0 _ _ _ _ _ _
      | exact slices_Equal_S_int64.mono _ _ _
      | exact LeO.none _
      | refine LeO.ite ?_ ?_
      | refine LeO.bind ?_ (fun _ => ?_)
set_option maxHeartbeats 8000000 in
set_option maxRecDepth 100000 in
theorem impl_patternsAt.calls (k : Nat) (A0 : Option Addr) (c0 : Nat) (l0 : List (S47)) (A1 : Option Addr) (c1 : Nat) (l1 : List Int) (a2 : Int) (r : List Int) (w : World) (hr0 : Kd.C k47 w A0 l0.length l0) (hc0 : l0.length ≤ c0) (hr1 : Kd.C (Kd.int .i64) w A1 l1.length l1) (hc1 : l1.length ≤ c1) (h : impl_patternsAt.f k l0 l1 a2 = some r) :
    Calls Try.prog 47 #[.slice A0 l0.length c0, .slice A1 l1.length c1, .int .i64 a2] w fun e w' => ∃ v0_ : Value, e = .returned (v0_) ∧ Kd.R (Kd.int .i64) 2 w' w.heap.size (fun _ => True) v0_ r ∧ Below w.heap.size w w' := by
  have hu47 := Try.underlying47
  have HR0 := Aside0.mk hr0
  have HC0 := Aside0.mk hc0
  clear hr0 hc0
  have HR1 := Aside0.mk hr1
  have HC1 := Aside0.mk hc1
  clear hr1 hc1
  have HB := Aside0.mk (Below.refl w.heap.size w)
  have H : (impl_patternsAt.l0 k l1 a2 ([] : List Int) l0 (l0.length : Int) 0) = some r := h
  clear h
  have H' := Aside0.mk H
  clear H
  go_enter Try.func47, Try.ntmps47
  go_wp2
  repeat (go_quiet (fail); try go_wp2)
  go_loopg [7, 13] k (fun kq v7 v13 w' => ∃ (x7_1 : List Int) (x13_1 : Int), v13 = .int .i64 x13_1 ∧ Aside0 (impl_patternsAt.l0 kq l1 a2 x7_1 l0 (l0.length : Int) x13_1 = some r) ∧ Aside0 (kq ≤ k) ∧ Aside0 (Kd.R (Kd.int .i64) 2 w' w.heap.size (fun _ => True) v7 x7_1) ∧ Aside0 (Below w.heap.size w w'))
  case atStart => exact ⟨(([] : List Int)), (0), (by first | rfl | (simp; done) | (simp [*]; done)), H', ⟨Nat.le_refl _⟩, ⟨by first | exact Kd.R_nil _ _ _ _ _ | exact Kd.N_nil _ _ _ _ _ | exact Kd.V_nil _ _ _ _ _ | exact Kd.Q_nil _ _ _ _ _ | exact Kd.S_nil _ _ _ _ _⟩, ⟨by repeat (first | (with_reducible first | exact HB.out | apply below_alloc | apply pw_below_drewN | apply below_drew1) | exact HB.out)⟩⟩
  case round =>
    clear H'
    try clear c1
    try clear p2
    obtain ⟨x7_1, x13_1, rfl, HA, HK1, HO_7, HB⟩ := hrel
    cases gk with
    | zero => exact absurd HA.out (by simp [impl_patternsAt.l0])
    | succ k1 =>
      have H := HA.out
      clear HA
      simp only [impl_patternsAt.l0] at H
      by_cases c4 : x13_1 < (l0.length : Int)
      · rw [if_pos c4] at H
        have c4b0 : decide (x13_1 < (l0.length : Int)) = true := decide_eq_true c4
        clear c4
        by_cases c5 : 0 ≤ x13_1
        · rw [if_pos c5] at H
          have c5b0 : decide (0 ≤ x13_1) = true := decide_eq_true c5
          clear c5
          by_cases c6 : x13_1 < (l0.length : Int)
          · rw [if_pos c6] at H
            have c6b0 : decide (x13_1 < (l0.length : Int)) = true := decide_eq_true c6
            clear c6
            by_cases c7 : (wrap64 (a2 + (((rd_T47 l0 x13_1).f0).length : Int))) ≤ (l1.length : Int)
            · rw [if_pos c7] at H
              have c7b0 : decide ((wrap64 (a2 + (((rd_T47 l0 x13_1).f0).length : Int))) ≤ (l1.length : Int)) = true := decide_eq_true c7
              clear c7
              by_cases c8 : 0 ≤ a2
              · rw [if_pos c8] at H
                have c8b0 := eq_true c8
                have c8b1 : decide (0 ≤ a2) = true := decide_eq_true c8
                clear c8
                by_cases c9 : a2 ≤ (wrap64 (a2 + (((rd_T47 l0 x13_1).f0).length : Int)))
                · rw [if_pos c9] at H
                  have c9b0 := eq_true c9
                  have c9b1 : decide (a2 ≤ (wrap64 (a2 + (((rd_T47 l0 x13_1).f0).length : Int)))) = true := decide_eq_true c9
                  have c10b0 := eq_true (of_decide_eq_true (by first | (with_reducible assumption) | assumption) : (wrap64 (a2 + (((rd_T47 l0 x13_1).f0).length : Int))) ≤ (l1.length : Int))
                  replace H := Option.bind_eq_some_iff.mp H
                  obtain ⟨t104, A110, H⟩ := H
                  replace H : (if t104 = true then (if x7_1.length < 17592186044416 then (impl_patternsAt.l0 k1 l1 a2 (x7_1 ++ [x13_1]) l0 (l0.length : Int) (wrap64 (x13_1 + 1))) else (none)) else (impl_patternsAt.l0 k1 l1 a2 x7_1 l0 (l0.length : Int) (wrap64 (x13_1 + 1)))) = some r := H
                  have A11 := Aside0.mk A110
                  clear A110
                  by_cases c12 : t104 = true
                  · subst c12
                    have H1 : (if x7_1.length < 17592186044416 then (impl_patternsAt.l0 k1 l1 a2 (x7_1 ++ [x13_1]) l0 (l0.length : Int) (wrap64 (x13_1 + 1))) else (none)) = some r := by rw [if_pos rfl] at H; exact H
                    clear H
                    have H := H1
                    clear H1
                    by_cases c13 : x7_1.length < 17592186044416
                    · rw [if_pos c13] at H
                      have LMc13 := Aside0.mk c13
                      clear c13
                      obtain ⟨y105, hy105⟩ : ∃ y_ : List Int, y_ = (x7_1 ++ [x13_1]) := ⟨_, rfl⟩
                      replace H : (impl_patternsAt.l0 k1 l1 a2 y105 l0 (l0.length : Int) (wrap64 (x13_1 + 1))) = some r := by first | (rw [hy105]; with_reducible exact H) | (have H2_ := (Option.bind_some _ _).symm.trans H; rw [hy105]; with_reducible exact H2_) | (have H2_ := (Option.bind_some _ _).symm.trans H; with_reducible exact H2_) | with_reducible exact H | (rw [hy105]; exact H) | exact H
                      have Ny105 := Aside0.mk hy105
                      clear hy105
                      have H' := Aside0.mk H
                      clear H
                      have p101 : 0 ≤ (x13_1 : Int) := of_decide_eq_true (by first | (with_reducible assumption) | assumption)
                      have q101 : x13_1 < (l0.length : Int) := of_decide_eq_true (by first | (with_reducible assumption) | assumption)
                      obtain ⟨ad101, A101_0, c101_0, e101, hx101_0, hx101_1, hl101_0, hi101_0⟩ := at_T47 HR0.out x13_1 p101 q101
                      cases e101
                      replace hx101_0 := (HB.out.cell (World.block_lt_of_cell? w _ hx101_0)).trans hx101_0
                      replace hx101_1 := (HB.out.cell (World.block_lt_of_cell? w _ hx101_1)).trans hx101_1
                      have HR101_0 := Aside0.mk hi101_0
                      have HC101_0 := Aside0.mk hl101_0
                      clear hi101_0 hl101_0
                      replace p101 := eq_true p101
                      replace q101 := eq_true q101
                      go_wp2_with (first | ((with_reducible refine gate_dst (N := 9) rfl ?_); refine box_event ?hg (N := 9) ?hd (cs := #[.slice none 0 0, .int .i64 0]) (t := 47) ?hr ?_; (case hd => rfl); (case hg => rfl); (case hr => first | (go_simp; done) | (go_simp; rfl)); intro gb102 hg w14 hbox hb; have n0_ := Aside0.mk (Kd.R_below (by (with_reducible repeat (first | apply Kd.R_alloc | apply Kd.R_drewN | apply Kd.R_drew)); exact HO_7.out) hb); have n1_ := Aside0.mk (below_step (by repeat (first | (with_reducible first | exact HB.out | apply below_alloc | apply pw_below_drewN | apply below_drew1) | exact HB.out)) hb); have n2_ := Aside0.mk (hbox); have n3_ := Aside0.mk ((by rw [hg]; exact (below_size (by repeat (first | (with_reducible first | exact HB.out | apply below_alloc | apply pw_below_drewN | apply below_drew1) | exact HB.out))) : w.heap.size ≤ gb102)); have n4_ := Aside0.mk ((by rw [hg]; exact (below_size (by repeat (first | (with_reducible first | exact HB.out | apply below_alloc | apply pw_below_drewN | apply below_drew1) | exact HB.out))) : w.heap.size ≤ gb102)); clear HO_7; clear HB; have HO_7 := n0_; have HB := n1_; have BK102 := n2_; have GW102 := n3_; have GE102 := n4_; clear n0_ n1_ n2_ n3_ n4_; clear hb hbox hg; have hcz15_0 : w14.cell? ⟨gb102, 0, none⟩ = some (.slice none 0 0) := (blk_cell BK102.out 0).trans rfl; have hcz15_1 : w14.cell? ⟨gb102, 1, none⟩ = some (.int .i64 0) := (blk_cell BK102.out 1).trans rfl; have hfz15_0 := blk_frozen BK102.out 0; have hfz15_1 := blk_frozen BK102.out 1; obtain ⟨i016, hi016, _, hsz16, _⟩ := info_parts info2; obtain ⟨A16, hcut16, hA16, hC16⟩ := print_mid_of (P := Try.prog) (Value.int .i64) 0 29 2 .i64 .i64 Try.underlying29 hi016 hsz16 A1 c1 l1 a2 (wrap64 (a2 + (((rd_T47 l0 x13_1).f0).length : Int))) (of_decide_eq_true (by first | (with_reducible assumption) | assumption)) (by first | omega | exact of_decide_eq_true (by first | (with_reducible assumption) | assumption)) (of_decide_eq_true (by first | (with_reducible assumption) | assumption)) HC1.out; have HR103 := Aside0.mk (Kd.C_of_reads (h1 := fun _ => rfl) (hA16 _ (Kd.reads_of_C HR1.out))); have HC103 := Aside0.mk hC16; clear hA16 hC16 hi016 hsz16) | (go_at_call 64; refine calls_of_args (args' := #[.slice A16 ((l1.take ((wrap64 (a2 + (((rd_T47 l0 x13_1).f0).length : Int))) : Int).toNat).drop (a2 : Int).toNat).length (c1 - a2.toNat), .slice A101_0 ((rd_T47 l0 x13_1).f0).length c101_0]) (by first | (rw [show ((l1.take ((wrap64 (a2 + (((rd_T47 l0 x13_1).f0).length : Int))) : Int).toNat).drop (a2 : Int).toNat).length = ((wrap64 (a2 + (((rd_T47 l0 x13_1).f0).length : Int))).toNat - a2.toNat) from (by rw [List.length_drop, List.length_take]; have h_ : ((wrap64 (a2 + (((rd_T47 l0 x13_1).f0).length : Int))) : Int) ≤ (l1.length : Int) := of_decide_eq_true (by first | (with_reducible assumption) | assumption); omega)] <;> rfl) | rfl) ?_; (with_reducible refine (slices_Equal_S_int64.calls k1 _ _ ((l1.take ((wrap64 (a2 + (((rd_T47 l0 x13_1).f0).length : Int))) : Int).toNat).drop (a2 : Int).toNat) _ _ ((rd_T47 l0 x13_1).f0) true _ ?side1 ?side2 ?side3 ?side4 A11.out).mono ?_); (case side1 => exact Kd.C_below HR103.out (by repeat (first | (with_reducible first | exact HB.out | apply below_alloc | apply pw_below_drewN | apply below_drew1 | refine below_set ?_ GE102.out) | exact HB.out))); (case side2 => exact HC103.out); (case side3 => exact Kd.C_below HR101_0.out (by repeat (first | (with_reducible first | exact HB.out | apply below_alloc | apply pw_below_drewN | apply below_drew1 | refine below_set ?_ GE102.out) | exact HB.out))); (case side4 => exact HC101_0.out); rintro e w' ⟨rfl, ⟨nd, rfl⟩⟩; (try first | exact ⟨rfl, _, World.drewN_drewN _ _ _⟩ | exact ⟨rfl, _, Eq.trans (World.drewN_drewN _ _ _) (congrArg (World.drewN _) (Nat.add_assoc _ _ _))⟩)) | ((with_reducible refine gate_builtin (b := .append) (xs := #[.tmp 36, .tmp 38]) rfl ?_); at_builtin; refine Kd.R_append (Kd.int .i64) (w0 := w) w.heap.size rfl (.tmp 36) (.tmp 38) 29 2 (.int .i64 0) 8 rfl Try.underlying29 info2 rfl (by decide) (by omega) u7 x7_1 x13_1 [.int .i64 x13_1] (fun _ => True) (fun _ => False) rfl (by first | (go_simp; done) | (go_simp; rfl)) ?aP (fun _ hk => hk.elim) ?aF ?aO ?aB ?aS ?aL ?_; (case aP => exact rfl); (case aB => exact (by repeat (first | (with_reducible first | exact HB.out | apply below_alloc | apply pw_below_drewN | apply below_drew1 | refine below_set ?_ GE102.out) | exact HB.out))); (case aF => exact (fun _ _ => trivial)); (case aO => exact (by (with_reducible repeat (first | apply Kd.R_alloc | apply Kd.R_drewN | apply Kd.R_drew)); exact Kd.R_mono (Kd.R_far (p := ⟨gb102, 1, none⟩) (Kd.R_far (p := ⟨gb102, 0, none⟩) (Kd.R_types HO_7.out BK102.out (by decide)) (fun _ hk => hk.2) (.slice A101_0 ((rd_T47 l0 x13_1).f0).length c101_0)) (fun _ hk => hk.2) (.int .i64 ((rd_T47 l0 x13_1).f1))) (fun _ hk => trivial))); (case aS => exact (below_size (by repeat (first | (with_reducible first | exact HB.out | apply below_alloc | apply pw_below_drewN | apply below_drew1 | refine below_set ?_ GE102.out) | exact HB.out)))); (case aL => have := LMc13.out; omega); intro v106 w17 ho hb hg hat; rw [← Ny105.out] at ho; have n0_ := Aside0.mk (blk_grown (g := gb102) (o := .cells #[.slice A101_0 ((rd_T47 l0 x13_1).f0).length c101_0, .int .i64 ((rd_T47 l0 x13_1).f1)] 47 (0, 0)) (by (with_reducible repeat (first | refine blk_drewN ?_ _ | refine blk_drew ?_ | refine blk_alloc ?_ _)); refine blk_put (cs := #[.slice A101_0 ((rd_T47 l0 x13_1).f0).length c101_0, .int .i64 0]) ?_ 1 _ rfl; (with_reducible repeat (first | refine blk_drewN ?_ _ | refine blk_drew ?_ | refine blk_alloc ?_ _)); refine blk_put (cs := #[.slice none 0 0, .int .i64 0]) ?_ 0 _ rfl; (with_reducible repeat (first | refine blk_drewN ?_ _ | refine blk_drew ?_ | refine blk_alloc ?_ _)); exact BK102.out) hg (Kd.R_ne HO_7.out BK102.out (by decide))); have n1_ := Aside0.mk (hb); have n2_ := Aside0.mk (ho); clear BK102; clear HB; clear HO_7; have BK102 := n0_; have HB := n1_; have HO107 := n2_; clear n0_ n1_ n2_; clear ho hb hg hat))
                      repeat (go_quiet (first | ((with_reducible refine gate_dst (N := 9) rfl ?_); refine box_event ?hg (N := 9) ?hd (cs := #[.slice none 0 0, .int .i64 0]) (t := 47) ?hr ?_; (case hd => rfl); (case hg => rfl); (case hr => first | (go_simp; done) | (go_simp; rfl)); intro gb102 hg w14 hbox hb; have n0_ := Aside0.mk (Kd.R_below (by (with_reducible repeat (first | apply Kd.R_alloc | apply Kd.R_drewN | apply Kd.R_drew)); exact HO_7.out) hb); have n1_ := Aside0.mk (below_step (by repeat (first | (with_reducible first | exact HB.out | apply below_alloc | apply pw_below_drewN | apply below_drew1) | exact HB.out)) hb); have n2_ := Aside0.mk (hbox); have n3_ := Aside0.mk ((by rw [hg]; exact (below_size (by repeat (first | (with_reducible first | exact HB.out | apply below_alloc | apply pw_below_drewN | apply below_drew1) | exact HB.out))) : w.heap.size ≤ gb102)); have n4_ := Aside0.mk ((by rw [hg]; exact (below_size (by repeat (first | (with_reducible first | exact HB.out | apply below_alloc | apply pw_below_drewN | apply below_drew1) | exact HB.out))) : w.heap.size ≤ gb102)); clear HO_7; clear HB; have HO_7 := n0_; have HB := n1_; have BK102 := n2_; have GW102 := n3_; have GE102 := n4_; clear n0_ n1_ n2_ n3_ n4_; clear hb hbox hg; have hcz15_0 : w14.cell? ⟨gb102, 0, none⟩ = some (.slice none 0 0) := (blk_cell BK102.out 0).trans rfl; have hcz15_1 : w14.cell? ⟨gb102, 1, none⟩ = some (.int .i64 0) := (blk_cell BK102.out 1).trans rfl; have hfz15_0 := blk_frozen BK102.out 0; have hfz15_1 := blk_frozen BK102.out 1; obtain ⟨i016, hi016, _, hsz16, _⟩ := info_parts info2; obtain ⟨A16, hcut16, hA16, hC16⟩ := print_mid_of (P := Try.prog) (Value.int .i64) 0 29 2 .i64 .i64 Try.underlying29 hi016 hsz16 A1 c1 l1 a2 (wrap64 (a2 + (((rd_T47 l0 x13_1).f0).length : Int))) (of_decide_eq_true (by first | (with_reducible assumption) | assumption)) (by first | omega | exact of_decide_eq_true (by first | (with_reducible assumption) | assumption)) (of_decide_eq_true (by first | (with_reducible assumption) | assumption)) HC1.out; have HR103 := Aside0.mk (Kd.C_of_reads (h1 := fun _ => rfl) (hA16 _ (Kd.reads_of_C HR1.out))); have HC103 := Aside0.mk hC16; clear hA16 hC16 hi016 hsz16) | (go_at_call 64; refine calls_of_args (args' := #[.slice A16 ((l1.take ((wrap64 (a2 + (((rd_T47 l0 x13_1).f0).length : Int))) : Int).toNat).drop (a2 : Int).toNat).length (c1 - a2.toNat), .slice A101_0 ((rd_T47 l0 x13_1).f0).length c101_0]) (by first | (rw [show ((l1.take ((wrap64 (a2 + (((rd_T47 l0 x13_1).f0).length : Int))) : Int).toNat).drop (a2 : Int).toNat).length = ((wrap64 (a2 + (((rd_T47 l0 x13_1).f0).length : Int))).toNat - a2.toNat) from (by rw [List.length_drop, List.length_take]; have h_ : ((wrap64 (a2 + (((rd_T47 l0 x13_1).f0).length : Int))) : Int) ≤ (l1.length : Int) := of_decide_eq_true (by first | (with_reducible assumption) | assumption); omega)] <;> rfl) | rfl) ?_; (with_reducible refine (slices_Equal_S_int64.calls k1 _ _ ((l1.take ((wrap64 (a2 + (((rd_T47 l0 x13_1).f0).length : Int))) : Int).toNat).drop (a2 : Int).toNat) _ _ ((rd_T47 l0 x13_1).f0) true _ ?side1 ?side2 ?side3 ?side4 A11.out).mono ?_); (case side1 => exact Kd.C_below HR103.out (by repeat (first | (with_reducible first | exact HB.out | apply below_alloc | apply pw_below_drewN | apply below_drew1 | refine below_set ?_ GE102.out) | exact HB.out))); (case side2 => exact HC103.out); (case side3 => exact Kd.C_below HR101_0.out (by repeat (first | (with_reducible first | exact HB.out | apply below_alloc | apply pw_below_drewN | apply below_drew1 | refine below_set ?_ GE102.out) | exact HB.out))); (case side4 => exact HC101_0.out); rintro e w' ⟨rfl, ⟨nd, rfl⟩⟩; (try first | exact ⟨rfl, _, World.drewN_drewN _ _ _⟩ | exact ⟨rfl, _, Eq.trans (World.drewN_drewN _ _ _) (congrArg (World.drewN _) (Nat.add_assoc _ _ _))⟩)) | ((with_reducible refine gate_builtin (b := .append) (xs := #[.tmp 36, .tmp 38]) rfl ?_); at_builtin; refine Kd.R_append (Kd.int .i64) (w0 := w) w.heap.size rfl (.tmp 36) (.tmp 38) 29 2 (.int .i64 0) 8 rfl Try.underlying29 info2 rfl (by decide) (by omega) u7 x7_1 x13_1 [.int .i64 x13_1] (fun _ => True) (fun _ => False) rfl (by first | (go_simp; done) | (go_simp; rfl)) ?aP (fun _ hk => hk.elim) ?aF ?aO ?aB ?aS ?aL ?_; (case aP => exact rfl); (case aB => exact (by repeat (first | (with_reducible first | exact HB.out | apply below_alloc | apply pw_below_drewN | apply below_drew1 | refine below_set ?_ GE102.out) | exact HB.out))); (case aF => exact (fun _ _ => trivial)); (case aO => exact (by (with_reducible repeat (first | apply Kd.R_alloc | apply Kd.R_drewN | apply Kd.R_drew)); exact Kd.R_mono (Kd.R_far (p := ⟨gb102, 1, none⟩) (Kd.R_far (p := ⟨gb102, 0, none⟩) (Kd.R_types HO_7.out BK102.out (by decide)) (fun _ hk => hk.2) (.slice A101_0 ((rd_T47 l0 x13_1).f0).length c101_0)) (fun _ hk => hk.2) (.int .i64 ((rd_T47 l0 x13_1).f1))) (fun _ hk => trivial))); (case aS => exact (below_size (by repeat (first | (with_reducible first | exact HB.out | apply below_alloc | apply pw_below_drewN | apply below_drew1 | refine below_set ?_ GE102.out) | exact HB.out)))); (case aL => have := LMc13.out; omega); intro v106 w17 ho hb hg hat; rw [← Ny105.out] at ho; have n0_ := Aside0.mk (blk_grown (g := gb102) (o := .cells #[.slice A101_0 ((rd_T47 l0 x13_1).f0).length c101_0, .int .i64 ((rd_T47 l0 x13_1).f1)] 47 (0, 0)) (by (with_reducible repeat (first | refine blk_drewN ?_ _ | refine blk_drew ?_ | refine blk_alloc ?_ _)); refine blk_put (cs := #[.slice A101_0 ((rd_T47 l0 x13_1).f0).length c101_0, .int .i64 0]) ?_ 1 _ rfl; (with_reducible repeat (first | refine blk_drewN ?_ _ | refine blk_drew ?_ | refine blk_alloc ?_ _)); refine blk_put (cs := #[.slice none 0 0, .int .i64 0]) ?_ 0 _ rfl; (with_reducible repeat (first | refine blk_drewN ?_ _ | refine blk_drew ?_ | refine blk_alloc ?_ _)); exact BK102.out) hg (Kd.R_ne HO_7.out BK102.out (by decide))); have n1_ := Aside0.mk (hb); have n2_ := Aside0.mk (ho); clear BK102; clear HB; clear HO_7; have BK102 := n0_; have HB := n1_; have HO107 := n2_; clear n0_ n1_ n2_; clear ho hb hg hat)); try go_wp2_with (first | ((with_reducible refine gate_dst (N := 9) rfl ?_); refine box_event ?hg (N := 9) ?hd (cs := #[.slice none 0 0, .int .i64 0]) (t := 47) ?hr ?_; (case hd => rfl); (case hg => rfl); (case hr => first | (go_simp; done) | (go_simp; rfl)); intro gb102 hg w14 hbox hb; have n0_ := Aside0.mk (Kd.R_below (by (with_reducible repeat (first | apply Kd.R_alloc | apply Kd.R_drewN | apply Kd.R_drew)); exact HO_7.out) hb); have n1_ := Aside0.mk (below_step (by repeat (first | (with_reducible first | exact HB.out | apply below_alloc | apply pw_below_drewN | apply below_drew1) | exact HB.out)) hb); have n2_ := Aside0.mk (hbox); have n3_ := Aside0.mk ((by rw [hg]; exact (below_size (by repeat (first | (with_reducible first | exact HB.out | apply below_alloc | apply pw_below_drewN | apply below_drew1) | exact HB.out))) : w.heap.size ≤ gb102)); have n4_ := Aside0.mk ((by rw [hg]; exact (below_size (by repeat (first | (with_reducible first | exact HB.out | apply below_alloc | apply pw_below_drewN | apply below_drew1) | exact HB.out))) : w.heap.size ≤ gb102)); clear HO_7; clear HB; have HO_7 := n0_; have HB := n1_; have BK102 := n2_; have GW102 := n3_; have GE102 := n4_; clear n0_ n1_ n2_ n3_ n4_; clear hb hbox hg; have hcz15_0 : w14.cell? ⟨gb102, 0, none⟩ = some (.slice none 0 0) := (blk_cell BK102.out 0).trans rfl; have hcz15_1 : w14.cell? ⟨gb102, 1, none⟩ = some (.int .i64 0) := (blk_cell BK102.out 1).trans rfl; have hfz15_0 := blk_frozen BK102.out 0; have hfz15_1 := blk_frozen BK102.out 1; obtain ⟨i016, hi016, _, hsz16, _⟩ := info_parts info2; obtain ⟨A16, hcut16, hA16, hC16⟩ := print_mid_of (P := Try.prog) (Value.int .i64) 0 29 2 .i64 .i64 Try.underlying29 hi016 hsz16 A1 c1 l1 a2 (wrap64 (a2 + (((rd_T47 l0 x13_1).f0).length : Int))) (of_decide_eq_true (by first | (with_reducible assumption) | assumption)) (by first | omega | exact of_decide_eq_true (by first | (with_reducible assumption) | assumption)) (of_decide_eq_true (by first | (with_reducible assumption) | assumption)) HC1.out; have HR103 := Aside0.mk (Kd.C_of_reads (h1 := fun _ => rfl) (hA16 _ (Kd.reads_of_C HR1.out))); have HC103 := Aside0.mk hC16; clear hA16 hC16 hi016 hsz16) | (go_at_call 64; refine calls_of_args (args' := #[.slice A16 ((l1.take ((wrap64 (a2 + (((rd_T47 l0 x13_1).f0).length : Int))) : Int).toNat).drop (a2 : Int).toNat).length (c1 - a2.toNat), .slice A101_0 ((rd_T47 l0 x13_1).f0).length c101_0]) (by first | (rw [show ((l1.take ((wrap64 (a2 + (((rd_T47 l0 x13_1).f0).length : Int))) : Int).toNat).drop (a2 : Int).toNat).length = ((wrap64 (a2 + (((rd_T47 l0 x13_1).f0).length : Int))).toNat - a2.toNat) from (by rw [List.length_drop, List.length_take]; have h_ : ((wrap64 (a2 + (((rd_T47 l0 x13_1).f0).length : Int))) : Int) ≤ (l1.length : Int) := of_decide_eq_true (by first | (with_reducible assumption) | assumption); omega)] <;> rfl) | rfl) ?_; (with_reducible refine (slices_Equal_S_int64.calls k1 _ _ ((l1.take ((wrap64 (a2 + (((rd_T47 l0 x13_1).f0).length : Int))) : Int).toNat).drop (a2 : Int).toNat) _ _ ((rd_T47 l0 x13_1).f0) true _ ?side1 ?side2 ?side3 ?side4 A11.out).mono ?_); (case side1 => exact Kd.C_below HR103.out (by repeat (first | (with_reducible first | exact HB.out | apply below_alloc | apply pw_below_drewN | apply below_drew1 | refine below_set ?_ GE102.out) | exact HB.out))); (case side2 => exact HC103.out); (case side3 => exact Kd.C_below HR101_0.out (by repeat (first | (with_reducible first | exact HB.out | apply below_alloc | apply pw_below_drewN | apply below_drew1 | refine below_set ?_ GE102.out) | exact HB.out))); (case side4 => exact HC101_0.out); rintro e w' ⟨rfl, ⟨nd, rfl⟩⟩; (try first | exact ⟨rfl, _, World.drewN_drewN _ _ _⟩ | exact ⟨rfl, _, Eq.trans (World.drewN_drewN _ _ _) (congrArg (World.drewN _) (Nat.add_assoc _ _ _))⟩)) | ((with_reducible refine gate_builtin (b := .append) (xs := #[.tmp 36, .tmp 38]) rfl ?_); at_builtin; refine Kd.R_append (Kd.int .i64) (w0 := w) w.heap.size rfl (.tmp 36) (.tmp 38) 29 2 (.int .i64 0) 8 rfl Try.underlying29 info2 rfl (by decide) (by omega) u7 x7_1 x13_1 [.int .i64 x13_1] (fun _ => True) (fun _ => False) rfl (by first | (go_simp; done) | (go_simp; rfl)) ?aP (fun _ hk => hk.elim) ?aF ?aO ?aB ?aS ?aL ?_; (case aP => exact rfl); (case aB => exact (by repeat (first | (with_reducible first | exact HB.out | apply below_alloc | apply pw_below_drewN | apply below_drew1 | refine below_set ?_ GE102.out) | exact HB.out))); (case aF => exact (fun _ _ => trivial)); (case aO => exact (by (with_reducible repeat (first | apply Kd.R_alloc | apply Kd.R_drewN | apply Kd.R_drew)); exact Kd.R_mono (Kd.R_far (p := ⟨gb102, 1, none⟩) (Kd.R_far (p := ⟨gb102, 0, none⟩) (Kd.R_types HO_7.out BK102.out (by decide)) (fun _ hk => hk.2) (.slice A101_0 ((rd_T47 l0 x13_1).f0).length c101_0)) (fun _ hk => hk.2) (.int .i64 ((rd_T47 l0 x13_1).f1))) (fun _ hk => trivial))); (case aS => exact (below_size (by repeat (first | (with_reducible first | exact HB.out | apply below_alloc | apply pw_below_drewN | apply below_drew1 | refine below_set ?_ GE102.out) | exact HB.out)))); (case aL => have := LMc13.out; omega); intro v106 w17 ho hb hg hat; rw [← Ny105.out] at ho; have n0_ := Aside0.mk (blk_grown (g := gb102) (o := .cells #[.slice A101_0 ((rd_T47 l0 x13_1).f0).length c101_0, .int .i64 ((rd_T47 l0 x13_1).f1)] 47 (0, 0)) (by (with_reducible repeat (first | refine blk_drewN ?_ _ | refine blk_drew ?_ | refine blk_alloc ?_ _)); refine blk_put (cs := #[.slice A101_0 ((rd_T47 l0 x13_1).f0).length c101_0, .int .i64 0]) ?_ 1 _ rfl; (with_reducible repeat (first | refine blk_drewN ?_ _ | refine blk_drew ?_ | refine blk_alloc ?_ _)); refine blk_put (cs := #[.slice none 0 0, .int .i64 0]) ?_ 0 _ rfl; (with_reducible repeat (first | refine blk_drewN ?_ _ | refine blk_drew ?_ | refine blk_alloc ?_ _)); exact BK102.out) hg (Kd.R_ne HO_7.out BK102.out (by decide))); have n1_ := Aside0.mk (hb); have n2_ := Aside0.mk (ho); clear BK102; clear HB; clear HO_7; have BK102 := n0_; have HB := n1_; have HO107 := n2_; clear n0_ n1_ n2_; clear ho hb hg hat)))
                      go_roundg k1
                      case measure => have := HK1.out; omega
                      case rel => exact ⟨(y105), (wrap64 (x13_1 + 1)), (by first | rfl | (simp; done) | (simp [*]; done)), H', ⟨by have := HK1.out; omega⟩, ⟨by (with_reducible repeat (first | apply Kd.R_alloc | apply Kd.R_drewN | apply Kd.R_drew)); exact HO107.out⟩, ⟨by repeat (first | (with_reducible first | exact HB.out | apply below_alloc | apply pw_below_drewN | apply below_drew1 | refine below_set ?_ GE102.out) | exact HB.out)⟩⟩
                    · rw [if_neg c13] at H
                      exact absurd H (by simp)
                  · replace c12 := Bool.eq_false_iff.mpr c12
                    subst c12
                    have H1 : (impl_patternsAt.l0 k1 l1 a2 x7_1 l0 (l0.length : Int) (wrap64 (x13_1 + 1))) = some r := by rw [if_neg (show ¬ (false = true) by decide)] at H; exact H
                    clear H
                    have H := H1
                    clear H1
                    have H' := Aside0.mk H
                    clear H
                    have p101 : 0 ≤ (x13_1 : Int) := of_decide_eq_true (by first | (with_reducible assumption) | assumption)
                    have q101 : x13_1 < (l0.length : Int) := of_decide_eq_true (by first | (with_reducible assumption) | assumption)
                    obtain ⟨ad101, A101_0, c101_0, e101, hx101_0, hx101_1, hl101_0, hi101_0⟩ := at_T47 HR0.out x13_1 p101 q101
                    cases e101
                    replace hx101_0 := (HB.out.cell (World.block_lt_of_cell? w _ hx101_0)).trans hx101_0
                    replace hx101_1 := (HB.out.cell (World.block_lt_of_cell? w _ hx101_1)).trans hx101_1
                    have HR101_0 := Aside0.mk hi101_0
                    have HC101_0 := Aside0.mk hl101_0
                    clear hi101_0 hl101_0
                    replace p101 := eq_true p101
                    replace q101 := eq_true q101
                    go_wp2_with (first | ((with_reducible refine gate_dst (N := 9) rfl ?_); refine box_event ?hg (N := 9) ?hd (cs := #[.slice none 0 0, .int .i64 0]) (t := 47) ?hr ?_; (case hd => rfl); (case hg => rfl); (case hr => first | (go_simp; done) | (go_simp; rfl)); intro gb102 hg w18 hbox hb; have n0_ := Aside0.mk (Kd.R_below (by (with_reducible repeat (first | apply Kd.R_alloc | apply Kd.R_drewN | apply Kd.R_drew)); exact HO_7.out) hb); have n1_ := Aside0.mk (below_step (by repeat (first | (with_reducible first | exact HB.out | apply below_alloc | apply pw_below_drewN | apply below_drew1) | exact HB.out)) hb); have n2_ := Aside0.mk (hbox); have n3_ := Aside0.mk ((by rw [hg]; exact (below_size (by repeat (first | (with_reducible first | exact HB.out | apply below_alloc | apply pw_below_drewN | apply below_drew1) | exact HB.out))) : w.heap.size ≤ gb102)); have n4_ := Aside0.mk ((by rw [hg]; exact (below_size (by repeat (first | (with_reducible first | exact HB.out | apply below_alloc | apply pw_below_drewN | apply below_drew1) | exact HB.out))) : w.heap.size ≤ gb102)); clear HO_7; clear HB; have HO_7 := n0_; have HB := n1_; have BK102 := n2_; have GW102 := n3_; have GE102 := n4_; clear n0_ n1_ n2_ n3_ n4_; clear hb hbox hg; have hcz19_0 : w18.cell? ⟨gb102, 0, none⟩ = some (.slice none 0 0) := (blk_cell BK102.out 0).trans rfl; have hcz19_1 : w18.cell? ⟨gb102, 1, none⟩ = some (.int .i64 0) := (blk_cell BK102.out 1).trans rfl; have hfz19_0 := blk_frozen BK102.out 0; have hfz19_1 := blk_frozen BK102.out 1; obtain ⟨i020, hi020, _, hsz20, _⟩ := info_parts info2; obtain ⟨A20, hcut20, hA20, hC20⟩ := print_mid_of (P := Try.prog) (Value.int .i64) 0 29 2 .i64 .i64 Try.underlying29 hi020 hsz20 A1 c1 l1 a2 (wrap64 (a2 + (((rd_T47 l0 x13_1).f0).length : Int))) (of_decide_eq_true (by first | (with_reducible assumption) | assumption)) (by first | omega | exact of_decide_eq_true (by first | (with_reducible assumption) | assumption)) (of_decide_eq_true (by first | (with_reducible assumption) | assumption)) HC1.out; have HR103 := Aside0.mk (Kd.C_of_reads (h1 := fun _ => rfl) (hA20 _ (Kd.reads_of_C HR1.out))); have HC103 := Aside0.mk hC20; clear hA20 hC20 hi020 hsz20) | (go_at_call 64; refine calls_of_args (args' := #[.slice A20 ((l1.take ((wrap64 (a2 + (((rd_T47 l0 x13_1).f0).length : Int))) : Int).toNat).drop (a2 : Int).toNat).length (c1 - a2.toNat), .slice A101_0 ((rd_T47 l0 x13_1).f0).length c101_0]) (by first | (rw [show ((l1.take ((wrap64 (a2 + (((rd_T47 l0 x13_1).f0).length : Int))) : Int).toNat).drop (a2 : Int).toNat).length = ((wrap64 (a2 + (((rd_T47 l0 x13_1).f0).length : Int))).toNat - a2.toNat) from (by rw [List.length_drop, List.length_take]; have h_ : ((wrap64 (a2 + (((rd_T47 l0 x13_1).f0).length : Int))) : Int) ≤ (l1.length : Int) := of_decide_eq_true (by first | (with_reducible assumption) | assumption); omega)] <;> rfl) | rfl) ?_; (with_reducible refine (slices_Equal_S_int64.calls k1 _ _ ((l1.take ((wrap64 (a2 + (((rd_T47 l0 x13_1).f0).length : Int))) : Int).toNat).drop (a2 : Int).toNat) _ _ ((rd_T47 l0 x13_1).f0) false _ ?side1 ?side2 ?side3 ?side4 A11.out).mono ?_); (case side1 => exact Kd.C_below HR103.out (by repeat (first | (with_reducible first | exact HB.out | apply below_alloc | apply pw_below_drewN | apply below_drew1 | refine below_set ?_ GE102.out) | exact HB.out))); (case side2 => exact HC103.out); (case side3 => exact Kd.C_below HR101_0.out (by repeat (first | (with_reducible first | exact HB.out | apply below_alloc | apply pw_below_drewN | apply below_drew1 | refine below_set ?_ GE102.out) | exact HB.out))); (case side4 => exact HC101_0.out); rintro e w' ⟨rfl, ⟨nd, rfl⟩⟩; (try first | exact ⟨rfl, _, World.drewN_drewN _ _ _⟩ | exact ⟨rfl, _, Eq.trans (World.drewN_drewN _ _ _) (congrArg (World.drewN _) (Nat.add_assoc _ _ _))⟩)))
                    repeat (go_quiet (first | ((with_reducible refine gate_dst (N := 9) rfl ?_); refine box_event ?hg (N := 9) ?hd (cs := #[.slice none 0 0, .int .i64 0]) (t := 47) ?hr ?_; (case hd => rfl); (case hg => rfl); (case hr => first | (go_simp; done) | (go_simp; rfl)); intro gb102 hg w18 hbox hb; have n0_ := Aside0.mk (Kd.R_below (by (with_reducible repeat (first | apply Kd.R_alloc | apply Kd.R_drewN | apply Kd.R_drew)); exact HO_7.out) hb); have n1_ := Aside0.mk (below_step (by repeat (first | (with_reducible first | exact HB.out | apply below_alloc | apply pw_below_drewN | apply below_drew1) | exact HB.out)) hb); have n2_ := Aside0.mk (hbox); have n3_ := Aside0.mk ((by rw [hg]; exact (below_size (by repeat (first | (with_reducible first | exact HB.out | apply below_alloc | apply pw_below_drewN | apply below_drew1) | exact HB.out))) : w.heap.size ≤ gb102)); have n4_ := Aside0.mk ((by rw [hg]; exact (below_size (by repeat (first | (with_reducible first | exact HB.out | apply below_alloc | apply pw_below_drewN | apply below_drew1) | exact HB.out))) : w.heap.size ≤ gb102)); clear HO_7; clear HB; have HO_7 := n0_; have HB := n1_; have BK102 := n2_; have GW102 := n3_; have GE102 := n4_; clear n0_ n1_ n2_ n3_ n4_; clear hb hbox hg; have hcz19_0 : w18.cell? ⟨gb102, 0, none⟩ = some (.slice none 0 0) := (blk_cell BK102.out 0).trans rfl; have hcz19_1 : w18.cell? ⟨gb102, 1, none⟩ = some (.int .i64 0) := (blk_cell BK102.out 1).trans rfl; have hfz19_0 := blk_frozen BK102.out 0; have hfz19_1 := blk_frozen BK102.out 1; obtain ⟨i020, hi020, _, hsz20, _⟩ := info_parts info2; obtain ⟨A20, hcut20, hA20, hC20⟩ := print_mid_of (P := Try.prog) (Value.int .i64) 0 29 2 .i64 .i64 Try.underlying29 hi020 hsz20 A1 c1 l1 a2 (wrap64 (a2 + (((rd_T47 l0 x13_1).f0).length : Int))) (of_decide_eq_true (by first | (with_reducible assumption) | assumption)) (by first | omega | exact of_decide_eq_true (by first | (with_reducible assumption) | assumption)) (of_decide_eq_true (by first | (with_reducible assumption) | assumption)) HC1.out; have HR103 := Aside0.mk (Kd.C_of_reads (h1 := fun _ => rfl) (hA20 _ (Kd.reads_of_C HR1.out))); have HC103 := Aside0.mk hC20; clear hA20 hC20 hi020 hsz20) | (go_at_call 64; refine calls_of_args (args' := #[.slice A20 ((l1.take ((wrap64 (a2 + (((rd_T47 l0 x13_1).f0).length : Int))) : Int).toNat).drop (a2 : Int).toNat).length (c1 - a2.toNat), .slice A101_0 ((rd_T47 l0 x13_1).f0).length c101_0]) (by first | (rw [show ((l1.take ((wrap64 (a2 + (((rd_T47 l0 x13_1).f0).length : Int))) : Int).toNat).drop (a2 : Int).toNat).length = ((wrap64 (a2 + (((rd_T47 l0 x13_1).f0).length : Int))).toNat - a2.toNat) from (by rw [List.length_drop, List.length_take]; have h_ : ((wrap64 (a2 + (((rd_T47 l0 x13_1).f0).length : Int))) : Int) ≤ (l1.length : Int) := of_decide_eq_true (by first | (with_reducible assumption) | assumption); omega)] <;> rfl) | rfl) ?_; (with_reducible refine (slices_Equal_S_int64.calls k1 _ _ ((l1.take ((wrap64 (a2 + (((rd_T47 l0 x13_1).f0).length : Int))) : Int).toNat).drop (a2 : Int).toNat) _ _ ((rd_T47 l0 x13_1).f0) false _ ?side1 ?side2 ?side3 ?side4 A11.out).mono ?_); (case side1 => exact Kd.C_below HR103.out (by repeat (first | (with_reducible first | exact HB.out | apply below_alloc | apply pw_below_drewN | apply below_drew1 | refine below_set ?_ GE102.out) | exact HB.out))); (case side2 => exact HC103.out); (case side3 => exact Kd.C_below HR101_0.out (by repeat (first | (with_reducible first | exact HB.out | apply below_alloc | apply pw_below_drewN | apply below_drew1 | refine below_set ?_ GE102.out) | exact HB.out))); (case side4 => exact HC101_0.out); rintro e w' ⟨rfl, ⟨nd, rfl⟩⟩; (try first | exact ⟨rfl, _, World.drewN_drewN _ _ _⟩ | exact ⟨rfl, _, Eq.trans (World.drewN_drewN _ _ _) (congrArg (World.drewN _) (Nat.add_assoc _ _ _))⟩))); try go_wp2_with (first | ((with_reducible refine gate_dst (N := 9) rfl ?_); refine box_event ?hg (N := 9) ?hd (cs := #[.slice none 0 0, .int .i64 0]) (t := 47) ?hr ?_; (case hd => rfl); (case hg => rfl); (case hr => first | (go_simp; done) | (go_simp; rfl)); intro gb102 hg w18 hbox hb; have n0_ := Aside0.mk (Kd.R_below (by (with_reducible repeat (first | apply Kd.R_alloc | apply Kd.R_drewN | apply Kd.R_drew)); exact HO_7.out) hb); have n1_ := Aside0.mk (below_step (by repeat (first | (with_reducible first | exact HB.out | apply below_alloc | apply pw_below_drewN | apply below_drew1) | exact HB.out)) hb); have n2_ := Aside0.mk (hbox); have n3_ := Aside0.mk ((by rw [hg]; exact (below_size (by repeat (first | (with_reducible first | exact HB.out | apply below_alloc | apply pw_below_drewN | apply below_drew1) | exact HB.out))) : w.heap.size ≤ gb102)); have n4_ := Aside0.mk ((by rw [hg]; exact (below_size (by repeat (first | (with_reducible first | exact HB.out | apply below_alloc | apply pw_below_drewN | apply below_drew1) | exact HB.out))) : w.heap.size ≤ gb102)); clear HO_7; clear HB; have HO_7 := n0_; have HB := n1_; have BK102 := n2_; have GW102 := n3_; have GE102 := n4_; clear n0_ n1_ n2_ n3_ n4_; clear hb hbox hg; have hcz19_0 : w18.cell? ⟨gb102, 0, none⟩ = some (.slice none 0 0) := (blk_cell BK102.out 0).trans rfl; have hcz19_1 : w18.cell? ⟨gb102, 1, none⟩ = some (.int .i64 0) := (blk_cell BK102.out 1).trans rfl; have hfz19_0 := blk_frozen BK102.out 0; have hfz19_1 := blk_frozen BK102.out 1; obtain ⟨i020, hi020, _, hsz20, _⟩ := info_parts info2; obtain ⟨A20, hcut20, hA20, hC20⟩ := print_mid_of (P := Try.prog) (Value.int .i64) 0 29 2 .i64 .i64 Try.underlying29 hi020 hsz20 A1 c1 l1 a2 (wrap64 (a2 + (((rd_T47 l0 x13_1).f0).length : Int))) (of_decide_eq_true (by first | (with_reducible assumption) | assumption)) (by first | omega | exact of_decide_eq_true (by first | (with_reducible assumption) | assumption)) (of_decide_eq_true (by first | (with_reducible assumption) | assumption)) HC1.out; have HR103 := Aside0.mk (Kd.C_of_reads (h1 := fun _ => rfl) (hA20 _ (Kd.reads_of_C HR1.out))); have HC103 := Aside0.mk hC20; clear hA20 hC20 hi020 hsz20) | (go_at_call 64; refine calls_of_args (args' := #[.slice A20 ((l1.take ((wrap64 (a2 + (((rd_T47 l0 x13_1).f0).length : Int))) : Int).toNat).drop (a2 : Int).toNat).length (c1 - a2.toNat), .slice A101_0 ((rd_T47 l0 x13_1).f0).length c101_0]) (by first | (rw [show ((l1.take ((wrap64 (a2 + (((rd_T47 l0 x13_1).f0).length : Int))) : Int).toNat).drop (a2 : Int).toNat).length = ((wrap64 (a2 + (((rd_T47 l0 x13_1).f0).length : Int))).toNat - a2.toNat) from (by rw [List.length_drop, List.length_take]; have h_ : ((wrap64 (a2 + (((rd_T47 l0 x13_1).f0).length : Int))) : Int) ≤ (l1.length : Int) := of_decide_eq_true (by first | (with_reducible assumption) | assumption); omega)] <;> rfl) | rfl) ?_; (with_reducible refine (slices_Equal_S_int64.calls k1 _ _ ((l1.take ((wrap64 (a2 + (((rd_T47 l0 x13_1).f0).length : Int))) : Int).toNat).drop (a2 : Int).toNat) _ _ ((rd_T47 l0 x13_1).f0) false _ ?side1 ?side2 ?side3 ?side4 A11.out).mono ?_); (case side1 => exact Kd.C_below HR103.out (by repeat (first | (with_reducible first | exact HB.out | apply below_alloc | apply pw_below_drewN | apply below_drew1 | refine below_set ?_ GE102.out) | exact HB.out))); (case side2 => exact HC103.out); (case side3 => exact Kd.C_below HR101_0.out (by repeat (first | (with_reducible first | exact HB.out | apply below_alloc | apply pw_below_drewN | apply below_drew1 | refine below_set ?_ GE102.out) | exact HB.out))); (case side4 => exact HC101_0.out); rintro e w' ⟨rfl, ⟨nd, rfl⟩⟩; (try first | exact ⟨rfl, _, World.drewN_drewN _ _ _⟩ | exact ⟨rfl, _, Eq.trans (World.drewN_drewN _ _ _) (congrArg (World.drewN _) (Nat.add_assoc _ _ _))⟩))))
                    go_roundg k1
                    case measure => have := HK1.out; omega
                    case rel => exact ⟨(x7_1), (wrap64 (x13_1 + 1)), (by first | rfl | (simp; done) | (simp [*]; done)), H', ⟨by have := HK1.out; omega⟩, ⟨by (with_reducible repeat (first | apply Kd.R_alloc | apply Kd.R_drewN | apply Kd.R_drew)); exact Kd.R_mono (Kd.R_far (p := ⟨gb102, 1, none⟩) (Kd.R_far (p := ⟨gb102, 0, none⟩) (Kd.R_types HO_7.out BK102.out (by decide)) (fun _ hk => hk.2) (.slice A101_0 ((rd_T47 l0 x13_1).f0).length c101_0)) (fun _ hk => hk.2) (.int .i64 ((rd_T47 l0 x13_1).f1))) (fun _ hk => trivial)⟩, ⟨by repeat (first | (with_reducible first | exact HB.out | apply below_alloc | apply pw_below_drewN | apply below_drew1 | refine below_set ?_ GE102.out) | exact HB.out)⟩⟩
                · rw [if_neg c9] at H
                  exact absurd H (by simp)
              · rw [if_neg c8] at H
                exact absurd H (by simp)
            · rw [if_neg c7] at H
              have c7b0 : decide ((wrap64 (a2 + (((rd_T47 l0 x13_1).f0).length : Int))) ≤ (l1.length : Int)) = false := decide_eq_false c7
              clear c7
              have H' := Aside0.mk H
              clear H
              have p101 : 0 ≤ (x13_1 : Int) := of_decide_eq_true (by first | (with_reducible assumption) | assumption)
              have q101 : x13_1 < (l0.length : Int) := of_decide_eq_true (by first | (with_reducible assumption) | assumption)
              obtain ⟨ad101, A101_0, c101_0, e101, hx101_0, hx101_1, hl101_0, hi101_0⟩ := at_T47 HR0.out x13_1 p101 q101
              cases e101
              replace hx101_0 := (HB.out.cell (World.block_lt_of_cell? w _ hx101_0)).trans hx101_0
              replace hx101_1 := (HB.out.cell (World.block_lt_of_cell? w _ hx101_1)).trans hx101_1
              have HR101_0 := Aside0.mk hi101_0
              have HC101_0 := Aside0.mk hl101_0
              clear hi101_0 hl101_0
              replace p101 := eq_true p101
              replace q101 := eq_true q101
              go_wp2_with (first | ((with_reducible refine gate_dst (N := 9) rfl ?_); refine box_event ?hg (N := 9) ?hd (cs := #[.slice none 0 0, .int .i64 0]) (t := 47) ?hr ?_; (case hd => rfl); (case hg => rfl); (case hr => first | (go_simp; done) | (go_simp; rfl)); intro gb102 hg w21 hbox hb; have n0_ := Aside0.mk (Kd.R_below (by (with_reducible repeat (first | apply Kd.R_alloc | apply Kd.R_drewN | apply Kd.R_drew)); exact HO_7.out) hb); have n1_ := Aside0.mk (below_step (by repeat (first | (with_reducible first | exact HB.out | apply below_alloc | apply pw_below_drewN | apply below_drew1) | exact HB.out)) hb); have n2_ := Aside0.mk (hbox); have n3_ := Aside0.mk ((by rw [hg]; exact (below_size (by repeat (first | (with_reducible first | exact HB.out | apply below_alloc | apply pw_below_drewN | apply below_drew1) | exact HB.out))) : w.heap.size ≤ gb102)); have n4_ := Aside0.mk ((by rw [hg]; exact (below_size (by repeat (first | (with_reducible first | exact HB.out | apply below_alloc | apply pw_below_drewN | apply below_drew1) | exact HB.out))) : w.heap.size ≤ gb102)); clear HO_7; clear HB; have HO_7 := n0_; have HB := n1_; have BK102 := n2_; have GW102 := n3_; have GE102 := n4_; clear n0_ n1_ n2_ n3_ n4_; clear hb hbox hg; have hcz22_0 : w21.cell? ⟨gb102, 0, none⟩ = some (.slice none 0 0) := (blk_cell BK102.out 0).trans rfl; have hcz22_1 : w21.cell? ⟨gb102, 1, none⟩ = some (.int .i64 0) := (blk_cell BK102.out 1).trans rfl; have hfz22_0 := blk_frozen BK102.out 0; have hfz22_1 := blk_frozen BK102.out 1))
              repeat (go_quiet (first | ((with_reducible refine gate_dst (N := 9) rfl ?_); refine box_event ?hg (N := 9) ?hd (cs := #[.slice none 0 0, .int .i64 0]) (t := 47) ?hr ?_; (case hd => rfl); (case hg => rfl); (case hr => first | (go_simp; done) | (go_simp; rfl)); intro gb102 hg w21 hbox hb; have n0_ := Aside0.mk (Kd.R_below (by (with_reducible repeat (first | apply Kd.R_alloc | apply Kd.R_drewN | apply Kd.R_drew)); exact HO_7.out) hb); have n1_ := Aside0.mk (below_step (by repeat (first | (with_reducible first | exact HB.out | apply below_alloc | apply pw_below_drewN | apply below_drew1) | exact HB.out)) hb); have n2_ := Aside0.mk (hbox); have n3_ := Aside0.mk ((by rw [hg]; exact (below_size (by repeat (first | (with_reducible first | exact HB.out | apply below_alloc | apply pw_below_drewN | apply below_drew1) | exact HB.out))) : w.heap.size ≤ gb102)); have n4_ := Aside0.mk ((by rw [hg]; exact (below_size (by repeat (first | (with_reducible first | exact HB.out | apply below_alloc | apply pw_below_drewN | apply below_drew1) | exact HB.out))) : w.heap.size ≤ gb102)); clear HO_7; clear HB; have HO_7 := n0_; have HB := n1_; have BK102 := n2_; have GW102 := n3_; have GE102 := n4_; clear n0_ n1_ n2_ n3_ n4_; clear hb hbox hg; have hcz22_0 : w21.cell? ⟨gb102, 0, none⟩ = some (.slice none 0 0) := (blk_cell BK102.out 0).trans rfl; have hcz22_1 : w21.cell? ⟨gb102, 1, none⟩ = some (.int .i64 0) := (blk_cell BK102.out 1).trans rfl; have hfz22_0 := blk_frozen BK102.out 0; have hfz22_1 := blk_frozen BK102.out 1)); try go_wp2_with (first | ((with_reducible refine gate_dst (N := 9) rfl ?_); refine box_event ?hg (N := 9) ?hd (cs := #[.slice none 0 0, .int .i64 0]) (t := 47) ?hr ?_; (case hd => rfl); (case hg => rfl); (case hr => first | (go_simp; done) | (go_simp; rfl)); intro gb102 hg w21 hbox hb; have n0_ := Aside0.mk (Kd.R_below (by (with_reducible repeat (first | apply Kd.R_alloc | apply Kd.R_drewN | apply Kd.R_drew)); exact HO_7.out) hb); have n1_ := Aside0.mk (below_step (by repeat (first | (with_reducible first | exact HB.out | apply below_alloc | apply pw_below_drewN | apply below_drew1) | exact HB.out)) hb); have n2_ := Aside0.mk (hbox); have n3_ := Aside0.mk ((by rw [hg]; exact (below_size (by repeat (first | (with_reducible first | exact HB.out | apply below_alloc | apply pw_below_drewN | apply below_drew1) | exact HB.out))) : w.heap.size ≤ gb102)); have n4_ := Aside0.mk ((by rw [hg]; exact (below_size (by repeat (first | (with_reducible first | exact HB.out | apply below_alloc | apply pw_below_drewN | apply below_drew1) | exact HB.out))) : w.heap.size ≤ gb102)); clear HO_7; clear HB; have HO_7 := n0_; have HB := n1_; have BK102 := n2_; have GW102 := n3_; have GE102 := n4_; clear n0_ n1_ n2_ n3_ n4_; clear hb hbox hg; have hcz22_0 : w21.cell? ⟨gb102, 0, none⟩ = some (.slice none 0 0) := (blk_cell BK102.out 0).trans rfl; have hcz22_1 : w21.cell? ⟨gb102, 1, none⟩ = some (.int .i64 0) := (blk_cell BK102.out 1).trans rfl; have hfz22_0 := blk_frozen BK102.out 0; have hfz22_1 := blk_frozen BK102.out 1)))
              go_roundg k1
              case measure => have := HK1.out; omega
              case rel => exact ⟨(x7_1), (wrap64 (x13_1 + 1)), (by first | rfl | (simp; done) | (simp [*]; done)), H', ⟨by have := HK1.out; omega⟩, ⟨by (with_reducible repeat (first | apply Kd.R_alloc | apply Kd.R_drewN | apply Kd.R_drew)); exact Kd.R_mono (Kd.R_far (p := ⟨gb102, 1, none⟩) (Kd.R_far (p := ⟨gb102, 0, none⟩) (Kd.R_types HO_7.out BK102.out (by decide)) (fun _ hk => hk.2) (.slice A101_0 ((rd_T47 l0 x13_1).f0).length c101_0)) (fun _ hk => hk.2) (.int .i64 ((rd_T47 l0 x13_1).f1))) (fun _ hk => trivial)⟩, ⟨by repeat (first | (with_reducible first | exact HB.out | apply below_alloc | apply pw_below_drewN | apply below_drew1 | refine below_set ?_ GE102.out) | exact HB.out)⟩⟩
          · rw [if_neg c6] at H
            exact absurd H (by simp)
        · rw [if_neg c5] at H
          exact absurd H (by simp)
      · rw [if_neg c4] at H
        have c4b0 : decide (x13_1 < (l0.length : Int)) = false := decide_eq_false c4
        clear c4
        obtain rfl := Option.some.inj H
        go_wp2
        repeat (go_quiet (fail); try go_wp2)
        go_ret
        exact ⟨_, by first | rfl | (simp [errW_none, errW_some] <;> rfl) | (simp [*, errW_none, errW_some] <;> rfl), by (with_reducible repeat (first | apply Kd.R_alloc | apply Kd.R_drewN | apply Kd.R_drew)); exact HO_7.out, by repeat (first | (with_reducible first | exact HB.out | apply below_alloc | apply pw_below_drewN | apply below_drew1) | exact HB.out)⟩

end Go.Proofs.Ytihphgiopjiohaa.P

/- impl_LongestKnown: what it answers, and that the machine's call comes to it. -/
namespace Go.Proofs.Ytihphgiopjiohaa.P
open Go.RowKit Go.Proofs.YtihphgiopjiohaaW.PrintWords Go.Proofs.YtihphgiopjiohaaW.PrintLast Go.Proofs.YtihphgiopjiohaaW.PrintMore
attribute [local go_sem] max2_int min2_int max_two min_two max_three min_three max_four min_four str_leq str_gtr str_geq
set_option linter.unusedVariables false
set_option linter.unusedSimpArgs false

/-! ### impl_LongestKnown: function 30 -/
mutual
def impl_LongestKnown.l0 : Nat → List (S47) → List Int → Int → List Bool → Int → Int → Option (Int × Int)
  | 0, _, _, _, _, _, _ => none
  | k + 1, x0, x1, x2, x9, x10, x11 => if x11 ≤ (x1.length : Int) then (if 0 ≤ x11 then (if x11 < (x9.length : Int) then (if rdOf false x9 x11 = true then ((impl_patternsAt.f k x0 x1 x11).bind fun t107 => (impl_LongestKnown.l1 k x0 x1 x2 x9 x11 x11 t107 (t107.length : Int) 0)) else (impl_LongestKnown.l0 k x0 x1 x2 x9 x10 (wrap64 (x11 + 1)))) else (none)) else (none)) else (some (wrap64 (x10 - x2), 0))
def impl_LongestKnown.l1 : Nat → List (S47) → List Int → Int → List Bool → Int → Int → List Int → Int → Int → Option (Int × Int)
  | 0, _, _, _, _, _, _, _, _, _ => none
  | k + 1, x0, x1, x2, x9, x10, x11, x45, x46, x47 => if x47 < x46 then (if 0 ≤ x47 then (if x47 < (x45.length : Int) then (if 0 ≤ (rd x45 x47) then (if (rd x45 x47) < (x0.length : Int) then (if 0 ≤ (wrap64 (x11 + (((rd_T47 x0 (rd x45 x47)).f0).length : Int))) then (if (wrap64 (x11 + (((rd_T47 x0 (rd x45 x47)).f0).length : Int))) < (x9.length : Int) then (impl_LongestKnown.l1 k x0 x1 x2 (x9.set ((wrap64 (x11 + (((rd_T47 x0 (rd x45 x47)).f0).length : Int))) : Int).toNat true) x10 x11 x45 x46 (wrap64 (x47 + 1))) else (none)) else (none)) else (none)) else (none)) else (none)) else (none)) else (impl_LongestKnown.l0 k x0 x1 x2 x9 x10 (wrap64 (x11 + 1)))
end
def impl_LongestKnown.f (k : Nat) (l0 : List (S47)) (l1 : List Int) (a2 : Int) : Option (Int × Int) := (impl_parseCode.f k l0 l1 a2 0).bind fun t101 => (if t101 = 0 then (if 0 ≤ (wrap64 ((l1.length : Int) + 1)) then (if (wrap64 ((l1.length : Int) + 1) : Int).toNat ≤ 281474976710656 then ((some (List.replicate (wrap64 ((l1.length : Int) + 1) : Int).toNat false : List Bool)).bind fun y102 => (if 0 ≤ a2 then (if a2 < (y102.length : Int) then (impl_LongestKnown.l0 k l0 l1 a2 (y102.set (a2 : Int).toNat true) a2 a2) else (none)) else (none))) else (none)) else (none)) else (some (0, t101)))
theorem impl_LongestKnown.mono_l : ∀ k, (∀ y0 y1 y2 y3 y4 y5, LeO (impl_LongestKnown.l0 k y0 y1 y2 y3 y4 y5) (impl_LongestKnown.l0 (k + 1) y0 y1 y2 y3 y4 y5)) ∧ (∀ y0 y1 y2 y3 y4 y5 y6 y7 y8, LeO (impl_LongestKnown.l1 k y0 y1 y2 y3 y4 y5 y6 y7 y8) (impl_LongestKnown.l1 (k + 1) y0 y1 y2 y3 y4 y5 y6 y7 y8))
  | 0 => ⟨fun _ _ _ _ _ _ r h => by simp [impl_LongestKnown.l0] at h, fun _ _ _ _ _ _ _ _ _ r h => by simp [impl_LongestKnown.l1] at h⟩
  | k + 1 => by
    obtain ⟨ih0, ih1⟩ := impl_LongestKnown.mono_l k
    refine ⟨?_, ?_⟩
    · intro y0 y1 y2 y3 y4 y5
      unfold impl_LongestKnown.l0
      repeat' first
      | (with_reducible exact ih0 _ _ _ _ _ _)
      | (with_reducible exact ih1 _ _ _ _ _ _ _ _ _)
      | (with_reducible exact impl_parseCode.mono _ _ _ _ _)
      | (with_reducible exact impl_patternsAt.mono _ _ _ _)
      | (with_reducible exact LeO.refl _)
      | (with_reducible exact LeO.none _)
      | (with_reducible refine LeO.ite ?_ ?_)
      | (with_reducible refine LeO.bind ?_ (fun _ => ?_))
      | exact ih0 _ _ _ _ _ _
      | exact ih1 _ _ _ _ _ _ _ _ _
      | exact impl_parseCode.mono _ _ _ _ _
      | exact impl_patternsAt.mono _ _ _ _
      | exact LeO.none _
      | refine LeO.ite ?_ ?_
      | refine LeO.bind ?_ (fun _ => ?_)
    · intro y0 y1 y2 y3 y4 y5 y6 y7 y8
      unfold impl_LongestKnown.l1
      repeat' first
      | (with_reducible exact ih0 _ _ _ _ _ _)
      | (with_reducible exact ih1 _ _ _ _ _ _ _ _ _)
      | (with_reducible exact impl_parseCode.mono _ _ _ _ _)
      | (with_reducible exact impl_patternsAt.mono _ _ _ _)
      | (with_reducible exact LeO.refl _)
      | (with_reducible exact LeO.none _)
      | (with_reducible refine LeO.ite ?_ ?_)
      | (with_reducible refine LeO.bind ?_ (fun _ => ?_))
      | exact ih0 _ _ _ _ _ _
      | exact ih1 _ _ _ _ _ _ _ _ _
      | exact impl_parseCode.mono _ _ _ _ _
      | exact impl_patternsAt.mono _ _ _ _
      | exact LeO.none _
      | refine LeO.ite ?_ ?_
      | refine LeO.bind ?_ (fun _ => ?_)
theorem impl_LongestKnown.mono : ∀ a0 a1 a2 k, LeO (impl_LongestKnown.f k a0 a1 a2) (impl_LongestKnown.f (k + 1) a0 a1 a2) := by
  intro a0 a1 a2 k
  obtain ⟨ih0, ih1⟩ := impl_LongestKnown.mono_l k
  unfold impl_LongestKnown.f
  repeat' first
      | (with_reducible exact ih0 _ _ _ _ _ _)
      | (with_reducible exact ih1 _ _ _ _ _ _ _ _ _)
      | (with_reducible exact impl_parseCode.mono _ _ _ _ _)
      | (with_reducible exact impl_patternsAt.mono _ _ _ _)
      | (with_reducible exact LeO.refl _)
      | (with_reducible exact LeO.none _)
      | (with_reducible refine LeO.ite ?_ ?_)
      | (with_reducible refine LeO.bind ?_ (fun _ => ?_))
      | exact ih0 _ _ _ _ _ _
      | exact ih1 _ _ _ _ _ _ _ _ _
      | exact impl_parseCode.mono _ _ _ _ _
      | exact impl_patternsAt.mono _ _ _ _
      | exact LeO.none _
      | refine LeO.ite ?_ ?_
      | refine LeO.bind ?_ (fun _ => ?_)
set_option maxHeartbeats 8000000 in
set_option maxRecDepth 100000 in
theorem impl_LongestKnown.calls (k : Nat) (A0 : Option Addr) (c0 : Nat) (l0 : List (S47)) (A1 : Option Addr) (c1 : Nat) (l1 : List Int) (a2 : Int) (r1 : Int) (r2 : Int) (w : World) (hr0 : Kd.C k47 w A0 l0.length l0) (hc0 : l0.length ≤ c0) (hr1 : Kd.C (Kd.int .i64) w A1 l1.length l1) (hc1 : l1.length ≤ c1) (h : impl_LongestKnown.f k l0 l1 a2 = some (r1, r2)) :
    Calls Try.prog 30 #[.slice A0 l0.length c0, .slice A1 l1.length c1, .int .i64 a2] w fun e w' => e = .returned (.tuple #[.int .i64 r1, .int .i64 r2]) ∧ Below w.heap.size w w' := by
  have HR0 := Aside0.mk hr0
  have HC0 := Aside0.mk hc0
  clear hr0 hc0
  have HR1 := Aside0.mk hr1
  have HC1 := Aside0.mk hc1
  clear hr1 hc1
  have HB := Aside0.mk (Below.refl w.heap.size w)
  have H : ((impl_parseCode.f k l0 l1 a2 0).bind fun t101 => (if t101 = 0 then (if 0 ≤ (wrap64 ((l1.length : Int) + 1)) then (if (wrap64 ((l1.length : Int) + 1) : Int).toNat ≤ 281474976710656 then ((some (List.replicate (wrap64 ((l1.length : Int) + 1) : Int).toNat false : List Bool)).bind fun y102 => (if 0 ≤ a2 then (if a2 < (y102.length : Int) then (impl_LongestKnown.l0 k l0 l1 a2 (y102.set (a2 : Int).toNat true) a2 a2) else (none)) else (none))) else (none)) else (none)) else (some (0, t101)))) = some (r1, r2) := h
  clear h
  replace H := Option.bind_eq_some_iff.mp H
  obtain ⟨t101, A40, H⟩ := H
  replace H : (if t101 = 0 then (if 0 ≤ (wrap64 ((l1.length : Int) + 1)) then (if (wrap64 ((l1.length : Int) + 1) : Int).toNat ≤ 281474976710656 then ((some (List.replicate (wrap64 ((l1.length : Int) + 1) : Int).toNat false : List Bool)).bind fun y102 => (if 0 ≤ a2 then (if a2 < (y102.length : Int) then (impl_LongestKnown.l0 k l0 l1 a2 (y102.set (a2 : Int).toNat true) a2 a2) else (none)) else (none))) else (none)) else (none)) else (some (0, t101))) = some (r1, r2) := H
  have A4 := Aside0.mk A40
  clear A40
  by_cases c5 : t101 = 0
  · rw [if_pos c5] at H
    have c5b0 : (t101 == 0) = true := beq_iff_eq.mpr c5
    have c5b1 : (t101 != 0) = false := bne_eq_false_iff_eq.mpr c5
    clear c5
    obtain ⟨ji6, hji6⟩ : ∃ j_ : Int, (wrap64 ((l1.length : Int) + 1)) = j_ := ⟨_, rfl⟩
    replace H : (if 0 ≤ (ji6) then (if (ji6 : Int).toNat ≤ 281474976710656 then ((some (List.replicate (ji6 : Int).toNat false : List Bool)).bind fun y102 => (if 0 ≤ a2 then (if a2 < (y102.length : Int) then (impl_LongestKnown.l0 k l0 l1 a2 (y102.set (a2 : Int).toNat true) a2 a2) else (none)) else (none))) else (none)) else (none)) = some (r1, r2) := by first | (rw [hji6] at H; exact H) | (simp only [hji6] at H ⊢; exact H)
    (try rw [hji6] at A4)
    have hji6w : (IntKind.i64.wrap ((l1.length : Int) + 1)) = ji6 := (i64_w _).trans hji6
    by_cases c7 : 0 ≤ (ji6)
    · rw [if_pos c7] at H
      have c7b0 := eq_true c7
      have c7b1 : decide (0 ≤ (ji6)) = true := decide_eq_true c7
      clear c7
      by_cases c8 : (ji6 : Int).toNat ≤ 281474976710656
      · rw [if_pos c8] at H
        have c8b0 := eq_true c8
        have c8b1 : decide ((ji6 : Int).toNat ≤ 281474976710656) = true := decide_eq_true c8
        clear c8
        obtain ⟨y102, hy102⟩ : ∃ y_ : List Bool, y_ = (List.replicate (ji6 : Int).toNat false) := ⟨_, rfl⟩
        replace H : (if 0 ≤ a2 then (if a2 < (y102.length : Int) then (impl_LongestKnown.l0 k l0 l1 a2 (y102.set (a2 : Int).toNat true) a2 a2) else (none)) else (none)) = some (r1, r2) := by first | (rw [hy102]; with_reducible exact H) | (have H2_ := (Option.bind_some _ _).symm.trans H; rw [hy102]; with_reducible exact H2_) | (have H2_ := (Option.bind_some _ _).symm.trans H; with_reducible exact H2_) | with_reducible exact H | (rw [hy102]; exact H) | exact H
        have Ny102 := Aside0.mk hy102
        clear hy102
        by_cases c9 : 0 ≤ a2
        · rw [if_pos c9] at H
          have c9b0 : decide (0 ≤ a2) = true := decide_eq_true c9
          clear c9
          by_cases c10 : a2 < (y102.length : Int)
          · rw [if_pos c10] at H
            have c10b0 : decide (a2 < (y102.length : Int)) = true := decide_eq_true c10
            clear c10
            obtain ⟨y105, hy105⟩ : ∃ y_ : List Bool, y_ = (y102.set (a2 : Int).toNat true) := ⟨_, rfl⟩
            replace H : (impl_LongestKnown.l0 k l0 l1 a2 y105 a2 a2) = some (r1, r2) := by first | (rw [hy105]; with_reducible exact H) | (have H2_ := (Option.bind_some _ _).symm.trans H; rw [hy105]; with_reducible exact H2_) | (have H2_ := (Option.bind_some _ _).symm.trans H; with_reducible exact H2_) | with_reducible exact H | (rw [hy105]; exact H) | exact H
            have Ny105 := Aside0.mk hy105
            clear hy105
            have H' := Aside0.mk H
            clear H
            go_enter Try.func30, Try.ntmps30
            go_wp2_with (first | ((with_reducible refine gate_callee (f := 44) rfl ?_); refine goesL_ (some 17) rfl rfl Try.func44 (by kernel_rfl) rfl #[.slice A0 l0.length c0, .slice A1 l1.length c1, .int .i64 a2, .int .i64 0] rfl (by (try simp only [List.map_toArray, List.map_cons, List.map_nil]); first | done | rfl | (simp only [List.length_drop, List.length_take]; rfl)) ?_; (with_reducible refine (impl_parseCode.calls k _ _ l0 _ _ l1 a2 0 t101 _ ?side1 ?side2 ?side3 ?side4 A4.out).mono ?_); (case side1 => repeat (first | exact HR0.out | (with_reducible refine Kd.C_alloc ?_ _) | (with_reducible refine Kd.C_drewN ?_ _) | (with_reducible refine Kd.C_drew ?_))); (case side2 => exact HC0.out); (case side3 => repeat (first | exact HR1.out | (with_reducible refine Kd.C_alloc ?_ _) | (with_reducible refine Kd.C_drewN ?_ _) | (with_reducible refine Kd.C_drew ?_))); (case side4 => exact HC1.out); rintro e w12 ⟨rfl, hb⟩; refine ⟨_, rfl, ?_⟩; have n0_ := Aside0.mk (below_step (by repeat (first | (with_reducible first | exact HB.out | apply below_alloc | apply pw_below_drewN | apply below_drew1) | exact HB.out)) hb); clear HB; have HB := n0_; clear n0_; (try clear hb); (try clear hb2); (try clear hk); (try clear hi)) | ((with_reducible refine gate_dst (N := 24) rfl ?_); refine Kd.R_make Kd.bool _ 4 rfl (N := 24) rfl 58 _ _ rfl ji6 rfl rfl Try.underlying58 (.bool false) 1 info4 rfl (by decide) (by omega) false (ok := fun _ => True) (okp := fun _ => True) rfl (fun _ hk => hk) trivial (of_decide_eq_true (by first | (with_reducible assumption) | assumption)) (Nat.le_trans (Nat.mul_le_mul_right _ (of_decide_eq_true (by first | (with_reducible assumption) | assumption) : ji6.toNat ≤ 281474976710656)) (by omega)) (Below.refl _ _) (Nat.le_refl _) ?_; intro v103 w13 ho14 hb hg_ hnew_; clear hg_ hnew_; (first | rw [← Ny102.out] at ho14 | (simp only [Int.reduceToNat] at ho14; rw [← Ny102.out] at ho14)); have n0_ := Aside0.mk (Kd.R_lower ho14 (below_size (by repeat (first | (with_reducible first | exact HB.out | apply below_alloc | apply pw_below_drewN | apply below_drew1) | exact HB.out)))); have n1_ := Aside0.mk (below_step (by repeat (first | (with_reducible first | exact HB.out | apply below_alloc | apply pw_below_drewN | apply below_drew1) | exact HB.out)) hb); clear HB; have HO104 := n0_; have HB := n1_; clear n0_ n1_; clear hb ho14; have p11 : 0 ≤ (a2 : Int) := of_decide_eq_true (by first | (with_reducible assumption) | assumption); have q11 : (a2 : Int) < ((y102.length : Int) : Int) := of_decide_eq_true (by first | (with_reducible assumption) | assumption); obtain ⟨go11, co11, eo11, gb11, gl11, cl11, HG11⟩ := Kd.R_form HO104.out (by omega); (first | cases eo11 | (injection eo11 with ea_ en_ ec_; (first | subst ea_ | (injection ea_ with ea_; subst ea_)); subst ec_; clear en_)); have GB11 := Aside0.mk gb11; have GG11 := Aside0.mk HG11; clear gb11 gl11 HG11; obtain ⟨hx11_0, hf11_0⟩ := Kd.R_celln false HO104.out (a2 : Int) p11 q11; replace p11 := eq_true p11; replace q11 := eq_true q11; obtain ⟨hy15_, hz15_⟩ := Kd.R_celln false HO104.out (a2 : Int) (of_decide_eq_true (by first | (with_reducible assumption) | assumption)) (of_decide_eq_true (by first | (with_reducible assumption) | assumption)); have HP15 := Kd.R_putg HO104.out (a2 : Int) true) | ((with_reducible refine gate_store (t := 4) (p := 27) rfl ?_); refine store_event (t := 4) (p := 27) (v := ?vo_w16) (w1 := (w13.setCell ⟨go11, (a2 : Int).toNat, none⟩ (.bool true))) ?hg ?ho ?hn ?hr ?_; (case ho => rfl); (case hg => rfl); (case hn => rfl); (case hr => first | (go_simp; done) | (go_simp; rfl)); intro w16 hw; have hg : w13.grownBy w16 (some go11) := (by rw [hw]; exact HP15.2); have hp_ : Kd.R Kd.bool 4 w16 w.heap.size (fun _ => True) (.slice (some ⟨go11, 0, none⟩) y102.length co11) y105 := (by rw [hw, Ny105.out]; exact HP15.1); clear HP15; have n0_ := Aside0.mk (hp_); have n1_ := Aside0.mk ((by rw [hw]; exact below_set (HB.out) GB11.out : Below w.heap.size w w16)); clear HO104; clear HB; have HO104 := n0_; have HB := n1_; clear n0_ n1_; clear hg hw hp_))
            go_loopg [10, 11] k (fun kq v10 v11 w' => ∃ (x9_1 : List Bool) (x10_1 : Int) (x11_1 : Int), v10 = .int .i64 x10_1 ∧ v11 = .int .i64 x11_1 ∧ Aside0 (impl_LongestKnown.l0 kq l0 l1 a2 x9_1 x10_1 x11_1 = some (r1, r2)) ∧ Aside0 (kq ≤ k) ∧ Aside0 (Kd.R Kd.bool 4 w' w.heap.size (fun _ => True) (.slice (some ⟨go11, 0, none⟩) y102.length co11) x9_1) ∧ Aside0 (Below w.heap.size w w'))
            case atStart => exact ⟨(y105), (a2), (a2), (by first | rfl | (simp; done) | (simp [*]; done)), (by first | rfl | (simp; done) | (simp [*]; done)), H', ⟨Nat.le_refl _⟩, ⟨by (with_reducible repeat (first | apply Kd.R_alloc | apply Kd.R_drewN | apply Kd.R_drew)); exact HO104.out⟩, ⟨by repeat (first | (with_reducible first | exact HB.out | apply below_alloc | apply pw_below_drewN | apply below_drew1) | exact HB.out)⟩⟩
            case round =>
              clear H'
              try clear c1
              try clear p1
              try clear q1
              try clear hx1
              try clear p2
              try clear c3
              try clear c4
              try clear c5
              try clear c5b0
              try clear c5b1
              try clear p6
              try clear c7
              try clear c7b0
              try clear c7b1
              try clear c8
              try clear c8b0
              try clear c8b1
              try clear c9
              try clear c9b0
              try clear c10
              try clear c10b0
              try clear p11
              try clear q11
              try clear hx11
              try clear hf11
              try clear hx11_0
              try clear p11
              try clear q11
              obtain ⟨x9_1, x10_1, x11_1, rfl, rfl, HA, HK1, HO_9, HB⟩ := hrel
              have hl9_1 := (Kd.R_reads' HO_9.out).1
              rw [hl9_1] at HO_9
              (try simp only [hl9_1])
              cases gk with
              | zero => exact absurd HA.out (by simp [impl_LongestKnown.l0])
              | succ k1 =>
                have H := HA.out
                clear HA
                simp only [impl_LongestKnown.l0] at H
                by_cases c17 : x11_1 ≤ (l1.length : Int)
                · rw [if_pos c17] at H
                  have c17b0 : decide (x11_1 ≤ (l1.length : Int)) = true := decide_eq_true c17
                  clear c17
                  by_cases c18 : 0 ≤ x11_1
                  · rw [if_pos c18] at H
                    have c18b0 : decide (0 ≤ x11_1) = true := decide_eq_true c18
                    clear c18
                    by_cases c19 : x11_1 < (x9_1.length : Int)
                    · rw [if_pos c19] at H
                      have c19b0 : decide (x11_1 < (x9_1.length : Int)) = true := decide_eq_true c19
                      clear c19
                      obtain ⟨bq20, hbq20⟩ : ∃ b_ : Bool, b_ = (rdOf false x9_1 x11_1) := ⟨_, rfl⟩
                      replace H : (if bq20 = true then ((impl_patternsAt.f k1 l0 l1 x11_1).bind fun t107 => (impl_LongestKnown.l1 k1 l0 l1 a2 x9_1 x11_1 x11_1 t107 (t107.length : Int) 0)) else (impl_LongestKnown.l0 k1 l0 l1 a2 x9_1 x10_1 (wrap64 (x11_1 + 1)))) = some (r1, r2) := by rw [← hbq20] at H; exact H
                      have Nbq20 := Aside0.mk hbq20
                      clear hbq20
                      by_cases c21 : bq20 = true
                      · subst c21
                        have H1 : ((impl_patternsAt.f k1 l0 l1 x11_1).bind fun t107 => (impl_LongestKnown.l1 k1 l0 l1 a2 x9_1 x11_1 x11_1 t107 (t107.length : Int) 0)) = some (r1, r2) := by rw [if_pos rfl] at H; exact H
                        clear H
                        have H := H1
                        clear H1
                        replace H := Option.bind_eq_some_iff.mp H
                        obtain ⟨t107, A220, H⟩ := H
                        replace H : (impl_LongestKnown.l1 k1 l0 l1 a2 x9_1 x11_1 x11_1 t107 (t107.length : Int) 0) = some (r1, r2) := H
                        have A22 := Aside0.mk A220
                        clear A220
                        have H' := Aside0.mk H
                        clear H
                        have p106 : 0 ≤ (x11_1 : Int) := of_decide_eq_true (by first | (with_reducible assumption) | assumption)
                        have q106 : x11_1 < (x9_1.length : Int) := of_decide_eq_true (by first | (with_reducible assumption) | assumption)
                        obtain ⟨ad106, e106, hx106_0⟩ := Kd.at_bool (Kd.R_reads' HO_9.out).2.2 x11_1 p106 q106
                        (try rw [← Nbq20.out] at hx106_0)
                        obtain rfl : (⟨go11, 0, none⟩ : Addr) = ad106 := (by injection e106)
                        (first | simp only [add_plain] at hx106_0 | simp only [add_at] at hx106_0 | simp only [Addr.add, Nat.zero_add] at hx106_0 | skip)
                        replace p106 := eq_true p106
                        replace q106 := eq_true q106
                        go_wp2_with (first | ((with_reducible refine gate_callee (f := 47) rfl ?_); refine goesL_ (some 45) rfl rfl Try.func47 (by kernel_rfl) rfl #[.slice A0 l0.length c0, .slice A1 l1.length c1, .int .i64 x11_1] rfl (by (try simp only [List.map_toArray, List.map_cons, List.map_nil]); first | done | rfl | (simp only [List.length_drop, List.length_take]; rfl)) ?_; (with_reducible refine (impl_patternsAt.calls k1 _ _ l0 _ _ l1 x11_1 t107 _ ?side1 ?side2 ?side3 ?side4 A22.out).mono ?_); (case side1 => repeat (first | exact (Kd.C_below HR0.out HB.out) | (with_reducible refine Kd.C_alloc ?_ _) | (with_reducible refine Kd.C_drewN ?_ _) | (with_reducible refine Kd.C_drew ?_))); (case side2 => exact HC0.out); (case side3 => repeat (first | exact (Kd.C_below HR1.out HB.out) | (with_reducible refine Kd.C_alloc ?_ _) | (with_reducible refine Kd.C_drewN ?_ _) | (with_reducible refine Kd.C_drew ?_))); (case side4 => exact HC1.out); rintro e w23 ⟨v108, rfl, ho0, hb⟩; refine ⟨_, rfl, ?_⟩; have n0_ := Aside0.mk (Kd.R_below (by (with_reducible repeat (first | apply Kd.R_alloc | apply Kd.R_drewN | apply Kd.R_drew)); exact HO_9.out) hb); have n1_ := Aside0.mk (Kd.R_lower ho0 (below_size (by repeat (first | (with_reducible first | exact HB.out | apply below_alloc | apply pw_below_drewN | apply below_drew1) | exact HB.out)))); have n2_ := Aside0.mk (below_step (by repeat (first | (with_reducible first | exact HB.out | apply below_alloc | apply pw_below_drewN | apply below_drew1) | exact HB.out)) hb); clear HO_9; clear HB; have HO_9 := n0_; have HO109 := n1_; have HB := n2_; clear n0_ n1_ n2_; (try clear hb); (try clear hb2); (try clear hk); (try clear hi); (try clear ho0); obtain ⟨Ao24, co24, eo24⟩ := Kd.R_slice HO109.out; subst eo24))
                        go_loopg [47] k1 (fun kq v47 w' => ∃ (x9_2 : List Bool) (x47_2 : Int), v47 = .int .i64 x47_2 ∧ Aside0 (impl_LongestKnown.l1 kq l0 l1 a2 x9_2 x11_1 x11_1 t107 (t107.length : Int) x47_2 = some (r1, r2)) ∧ Aside0 (kq ≤ k1) ∧ Aside0 (Kd.R Kd.bool 4 w' w.heap.size (fun _ => True) (.slice (some ⟨go11, 0, none⟩) x9_1.length co11) x9_2) ∧ Aside0 (Kd.R (Kd.int .i64) 2 w' w.heap.size (fun _ => True) (.slice Ao24 t107.length co24) t107) ∧ Aside0 (Below w.heap.size w w'))
                        case atStart => exact ⟨(x9_1), (0), (by first | rfl | (simp; done) | (simp [*]; done)), H', ⟨Nat.le_refl _⟩, ⟨by (try simp only [hl9_1]); (with_reducible repeat (first | apply Kd.R_alloc | apply Kd.R_drewN | apply Kd.R_drew)); exact HO_9.out⟩, ⟨by (try simp only [hl9_1]); (with_reducible repeat (first | apply Kd.R_alloc | apply Kd.R_drewN | apply Kd.R_drew)); exact HO109.out⟩, ⟨by repeat (first | (with_reducible first | exact HB.out | apply below_alloc | apply pw_below_drewN | apply below_drew1) | exact HB.out)⟩⟩
                        case round =>
                          clear H'
                          try clear c1
                          try clear p1
                          try clear q1
                          try clear hx1
                          try clear c2
                          try clear p2
                          try clear q2
                          try clear c3
                          try clear c4
                          try clear c5
                          try clear c5b0
                          try clear c5b1
                          try clear p6
                          try clear c7
                          try clear c7b0
                          try clear c7b1
                          try clear c8
                          try clear c8b0
                          try clear c8b1
                          try clear c9
                          try clear c9b0
                          try clear c10
                          try clear c10b0
                          try clear p10
                          try clear q10
                          try clear hx10
                          try clear p11
                          try clear q11
                          try clear hx11
                          try clear hf11
                          try clear c17
                          try clear c17b0
                          try clear c18
                          try clear c18b0
                          try clear c19
                          try clear c19b0
                          try clear q20
                          try clear c21
                          try clear hx106_0
                          try clear hx11_0
                          try clear p1
                          try clear p106
                          try clear p11
                          try clear p2
                          try clear p6
                          try clear q1
                          try clear q106
                          try clear q11
                          obtain ⟨x9_2, x47_2, rfl, HA, HK2, HO_9, HO_45, HB⟩ := hrel
                          have hl9_2 := (Kd.R_reads' HO_9.out).1
                          rw [hl9_2] at HO_9
                          (try simp only [hl9_2])
                          (try simp only [hl9_2] at HO_45)
                          cases gk with
                          | zero => exact absurd HA.out (by simp [impl_LongestKnown.l1])
                          | succ k2 =>
                            have H := HA.out
                            clear HA
                            simp only [impl_LongestKnown.l1] at H
                            by_cases c25 : x47_2 < (t107.length : Int)
                            · rw [if_pos c25] at H
                              have c25b0 : decide (x47_2 < (t107.length : Int)) = true := decide_eq_true c25
                              clear c25
                              by_cases c26 : 0 ≤ x47_2
                              · rw [if_pos c26] at H
                                have c26b0 : decide (0 ≤ x47_2) = true := decide_eq_true c26
                                clear c26
                                by_cases c27 : x47_2 < (t107.length : Int)
                                · rw [if_pos c27] at H
                                  have c27b0 : decide (x47_2 < (t107.length : Int)) = true := decide_eq_true c27
                                  clear c27
                                  by_cases c28 : 0 ≤ (rd t107 x47_2)
                                  · rw [if_pos c28] at H
                                    have c28b0 : decide (0 ≤ (rd t107 x47_2)) = true := decide_eq_true c28
                                    clear c28
                                    by_cases c29 : (rd t107 x47_2) < (l0.length : Int)
                                    · rw [if_pos c29] at H
                                      have c29b0 : decide ((rd t107 x47_2) < (l0.length : Int)) = true := decide_eq_true c29
                                      clear c29
                                      obtain ⟨ji30, hji30⟩ : ∃ j_ : Int, (wrap64 (x11_1 + (((rd_T47 l0 (rd t107 x47_2)).f0).length : Int))) = j_ := ⟨_, rfl⟩
                                      replace H : (if 0 ≤ (ji30) then (if (ji30) < (x9_2.length : Int) then (impl_LongestKnown.l1 k2 l0 l1 a2 (x9_2.set ((ji30) : Int).toNat true) x11_1 x11_1 t107 (t107.length : Int) (wrap64 (x47_2 + 1))) else (none)) else (none)) = some (r1, r2) := by first | (rw [hji30] at H; exact H) | (simp only [hji30] at H ⊢; exact H)
                                      have hji30w : (IntKind.i64.wrap (x11_1 + (((rd_T47 l0 (rd t107 x47_2)).f0).length : Int))) = ji30 := (i64_w _).trans hji30
                                      by_cases c31 : 0 ≤ (ji30)
                                      · rw [if_pos c31] at H
                                        have c31b0 : decide (0 ≤ (ji30)) = true := decide_eq_true c31
                                        clear c31
                                        by_cases c32 : (ji30) < (x9_2.length : Int)
                                        · rw [if_pos c32] at H
                                          have c32b0 : decide ((ji30) < (x9_2.length : Int)) = true := decide_eq_true c32
                                          clear c32
                                          obtain ⟨y112, hy112⟩ : ∃ y_ : List Bool, y_ = (x9_2.set ((ji30) : Int).toNat true) := ⟨_, rfl⟩
                                          replace H : (impl_LongestKnown.l1 k2 l0 l1 a2 y112 x11_1 x11_1 t107 (t107.length : Int) (wrap64 (x47_2 + 1))) = some (r1, r2) := by first | (rw [hy112]; with_reducible exact H) | (have H2_ := (Option.bind_some _ _).symm.trans H; rw [hy112]; with_reducible exact H2_) | (have H2_ := (Option.bind_some _ _).symm.trans H; with_reducible exact H2_) | with_reducible exact H | (rw [hy112]; exact H) | exact H
                                          have Ny112 := Aside0.mk hy112
                                          clear hy112
                                          have H' := Aside0.mk H
                                          clear H
                                          have p110 : 0 ≤ (x47_2 : Int) := of_decide_eq_true (by first | (with_reducible assumption) | assumption)
                                          have q110 : x47_2 < (t107.length : Int) := of_decide_eq_true (by first | (with_reducible assumption) | assumption)
                                          obtain ⟨ad110, e110, hx110_0⟩ := Kd.at_int (Kd.R_reads' HO_45.out).2.2 x47_2 p110 q110
                                          cases e110
                                          replace p110 := eq_true p110
                                          replace q110 := eq_true q110
                                          have p111 : 0 ≤ ((rd t107 x47_2) : Int) := of_decide_eq_true (by first | (with_reducible assumption) | assumption)
                                          have q111 : (rd t107 x47_2) < (l0.length : Int) := of_decide_eq_true (by first | (with_reducible assumption) | assumption)
                                          obtain ⟨ad111, A111_0, c111_0, e111, hx111_0, hx111_1, hl111_0, hi111_0⟩ := at_T47 HR0.out (rd t107 x47_2) p111 q111
                                          cases e111
                                          replace hx111_0 := (HB.out.cell (World.block_lt_of_cell? w _ hx111_0)).trans hx111_0
                                          replace hx111_1 := (HB.out.cell (World.block_lt_of_cell? w _ hx111_1)).trans hx111_1
                                          have HR111_0 := Aside0.mk hi111_0
                                          have HC111_0 := Aside0.mk hl111_0
                                          clear hi111_0 hl111_0
                                          replace p111 := eq_true p111
                                          replace q111 := eq_true q111
                                          have p33 : 0 ≤ ((ji30) : Int) := of_decide_eq_true (by first | (with_reducible assumption) | assumption)
                                          have q33 : ((ji30) : Int) < ((x9_2.length : Int) : Int) := of_decide_eq_true (by first | (with_reducible assumption) | assumption)
                                          obtain ⟨hx33_0, hf33_0⟩ := Kd.R_celln false HO_9.out ((ji30) : Int) p33 q33
                                          replace p33 := eq_true p33
                                          replace q33 := eq_true q33
                                          have HP34 := Kd.R_putg HO_9.out ((ji30) : Int) true
                                          go_wp2_with (first | ((with_reducible refine gate_store (t := 4) (p := 60) rfl ?_); refine store_event (t := 4) (p := 60) (v := ?vo_w35) (w1 := (wr.setCell ⟨go11, ((ji30) : Int).toNat, none⟩ (.bool true))) ?hg ?ho ?hn ?hr ?_; (case ho => rfl); (case hg => rfl); (case hn => rfl); (case hr => first | (go_simp; done) | (go_simp; rfl)); intro w35 hw; have hg : wr.grownBy w35 (some go11) := (by rw [hw]; exact HP34.2); have hp_ : Kd.R Kd.bool 4 w35 w.heap.size (fun _ => True) (.slice (some ⟨go11, 0, none⟩) x9_2.length co11) y112 := (by rw [hw, Ny112.out]; exact HP34.1); clear HP34; have n0_ := Aside0.mk (hp_); have n1_ := Aside0.mk (Kd.R_over' (v := (.slice (some ⟨go11, 0, none⟩) x9_2.length co11)) (by (with_reducible repeat (first | apply Kd.R_alloc | apply Kd.R_drewN | apply Kd.R_drew)); exact HO_45.out) (Kd.R_typed HO_9.out) (by decide) hg); have n2_ := Aside0.mk ((by rw [hw]; exact below_set (HB.out) GB11.out : Below w.heap.size w w35)); clear HO_9; clear HO_45; clear HB; have HO_9 := n0_; have HO_45 := n1_; have HB := n2_; clear n0_ n1_ n2_; clear hg hw hp_))
                                          (try simp only [← hl9_2])
                                          go_roundg k2
                                          case measure => have := HK1.out; have := HK2.out; omega
                                          case rel => exact ⟨(y112), (wrap64 (x47_2 + 1)), (by first | rfl | (simp; done) | (simp [*]; done)), H', ⟨by have := HK1.out; have := HK2.out; omega⟩, ⟨by (try simp only [hl9_1]); (try simp only [hl9_2]); (with_reducible repeat (first | apply Kd.R_alloc | apply Kd.R_drewN | apply Kd.R_drew)); exact HO_9.out⟩, ⟨by (try simp only [hl9_1]); (try simp only [hl9_2]); (with_reducible repeat (first | apply Kd.R_alloc | apply Kd.R_drewN | apply Kd.R_drew)); exact HO_45.out⟩, ⟨by repeat (first | (with_reducible first | exact HB.out | apply below_alloc | apply pw_below_drewN | apply below_drew1) | exact HB.out)⟩⟩
                                        · rw [if_neg c32] at H
                                          exact absurd H (by simp)
                                      · rw [if_neg c31] at H
                                        exact absurd H (by simp)
                                    · rw [if_neg c29] at H
                                      exact absurd H (by simp)
                                  · rw [if_neg c28] at H
                                    exact absurd H (by simp)
                                · rw [if_neg c27] at H
                                  exact absurd H (by simp)
                              · rw [if_neg c26] at H
                                exact absurd H (by simp)
                            · rw [if_neg c25] at H
                              have c25b0 : decide (x47_2 < (t107.length : Int)) = false := decide_eq_false c25
                              clear c25
                              have H' := Aside0.mk H
                              clear H
                              go_wp2
                              (try simp only [← hl9_1, ← hl9_2])
                              go_roundg k2
                              case measure => have := HK1.out; have := HK2.out; omega
                              case rel => exact ⟨(x9_2), (x11_1), (wrap64 (x11_1 + 1)), (by first | rfl | (simp; done) | (simp [*]; done)), (by first | rfl | (simp; done) | (simp [*]; done)), H', ⟨by have := HK1.out; have := HK2.out; omega⟩, ⟨by (try simp only [hl9_1]); (try simp only [hl9_2]); (with_reducible repeat (first | apply Kd.R_alloc | apply Kd.R_drewN | apply Kd.R_drew)); exact HO_9.out⟩, ⟨by repeat (first | (with_reducible first | exact HB.out | apply below_alloc | apply pw_below_drewN | apply below_drew1) | exact HB.out)⟩⟩
                      · replace c21 := Bool.eq_false_iff.mpr c21
                        subst c21
                        have H1 : (impl_LongestKnown.l0 k1 l0 l1 a2 x9_1 x10_1 (wrap64 (x11_1 + 1))) = some (r1, r2) := by rw [if_neg (show ¬ (false = true) by decide)] at H; exact H
                        clear H
                        have H := H1
                        clear H1
                        have H' := Aside0.mk H
                        clear H
                        have p106 : 0 ≤ (x11_1 : Int) := of_decide_eq_true (by first | (with_reducible assumption) | assumption)
                        have q106 : x11_1 < (x9_1.length : Int) := of_decide_eq_true (by first | (with_reducible assumption) | assumption)
                        obtain ⟨ad106, e106, hx106_0⟩ := Kd.at_bool (Kd.R_reads' HO_9.out).2.2 x11_1 p106 q106
                        (try rw [← Nbq20.out] at hx106_0)
                        obtain rfl : (⟨go11, 0, none⟩ : Addr) = ad106 := (by injection e106)
                        (first | simp only [add_plain] at hx106_0 | simp only [add_at] at hx106_0 | simp only [Addr.add, Nat.zero_add] at hx106_0 | skip)
                        replace p106 := eq_true p106
                        replace q106 := eq_true q106
                        go_wp2
                        (try simp only [← hl9_1])
                        go_roundg k1
                        case measure => have := HK1.out; omega
                        case rel => exact ⟨(x9_1), (x10_1), (wrap64 (x11_1 + 1)), (by first | rfl | (simp; done) | (simp [*]; done)), (by first | rfl | (simp; done) | (simp [*]; done)), H', ⟨by have := HK1.out; omega⟩, ⟨by (try simp only [hl9_1]); (with_reducible repeat (first | apply Kd.R_alloc | apply Kd.R_drewN | apply Kd.R_drew)); exact HO_9.out⟩, ⟨by repeat (first | (with_reducible first | exact HB.out | apply below_alloc | apply pw_below_drewN | apply below_drew1) | exact HB.out)⟩⟩
                    · rw [if_neg c19] at H
                      exact absurd H (by simp)
                  · rw [if_neg c18] at H
                    exact absurd H (by simp)
                · rw [if_neg c17] at H
                  have c17b0 : decide (x11_1 ≤ (l1.length : Int)) = false := decide_eq_false c17
                  clear c17
                  simp only [Option.some.injEq, Prod.mk.injEq] at H
                  obtain ⟨rfl, rfl⟩ := H
                  go_wp2
                  go_ret2
                  exact ⟨by first | rfl | (simp [errW_none, errW_some] <;> rfl) | (simp only [← hji6]; first | rfl | (simp [errW_none, errW_some] <;> rfl)) | (simp [*, errW_none, errW_some] <;> rfl), by repeat (first | (with_reducible first | exact HB.out | apply below_alloc | apply pw_below_drewN | apply below_drew1) | exact HB.out)⟩
          · rw [if_neg c10] at H
            exact absurd H (by simp)
        · rw [if_neg c9] at H
          exact absurd H (by simp)
      · rw [if_neg c8] at H
        exact absurd H (by simp)
    · rw [if_neg c7] at H
      exact absurd H (by simp)
  · rw [if_neg c5] at H
    have c5b0 : (t101 == 0) = false := beq_eq_false_iff_ne.mpr c5
    have c5b1 : (t101 != 0) = true := bne_iff_ne.mpr c5
    simp only [Option.some.injEq, Prod.mk.injEq] at H
    obtain ⟨rfl, rfl⟩ := H
    go_enter Try.func30, Try.ntmps30
    go_wp2_with (first | ((with_reducible refine gate_callee (f := 44) rfl ?_); refine goesL_ (some 17) rfl rfl Try.func44 (by kernel_rfl) rfl #[.slice A0 l0.length c0, .slice A1 l1.length c1, .int .i64 a2, .int .i64 0] rfl (by (try simp only [List.map_toArray, List.map_cons, List.map_nil]); first | done | rfl | (simp only [List.length_drop, List.length_take]; rfl)) ?_; (with_reducible refine (impl_parseCode.calls k _ _ l0 _ _ l1 a2 0 t101 _ ?side1 ?side2 ?side3 ?side4 A4.out).mono ?_); (case side1 => repeat (first | exact HR0.out | (with_reducible refine Kd.C_alloc ?_ _) | (with_reducible refine Kd.C_drewN ?_ _) | (with_reducible refine Kd.C_drew ?_))); (case side2 => exact HC0.out); (case side3 => repeat (first | exact HR1.out | (with_reducible refine Kd.C_alloc ?_ _) | (with_reducible refine Kd.C_drewN ?_ _) | (with_reducible refine Kd.C_drew ?_))); (case side4 => exact HC1.out); rintro e w36 ⟨rfl, hb⟩; refine ⟨_, rfl, ?_⟩; have n0_ := Aside0.mk (below_step (by repeat (first | (with_reducible first | exact HB.out | apply below_alloc | apply pw_below_drewN | apply below_drew1) | exact HB.out)) hb); clear HB; have HB := n0_; clear n0_; (try clear hb); (try clear hb2); (try clear hk); (try clear hi)))
    go_ret2
    exact ⟨by first | rfl | (simp [errW_none, errW_some] <;> rfl) | (simp [*, errW_none, errW_some] <;> rfl), by repeat (first | (with_reducible first | exact HB.out | apply below_alloc | apply pw_below_drewN | apply below_drew1) | exact HB.out)⟩

end Go.Proofs.Ytihphgiopjiohaa.P

/- laws_FnExactLongestKnown: what it answers, and that the machine's call comes to it. -/
namespace Go.Proofs.Ytihphgiopjiohaa.P
open Go.RowKit Go.Proofs.YtihphgiopjiohaaW.PrintWords Go.Proofs.YtihphgiopjiohaaW.PrintLast Go.Proofs.YtihphgiopjiohaaW.PrintMore
attribute [local go_sem] max2_int min2_int max_two min_two max_three min_three max_four min_four str_leq str_gtr str_geq
set_option linter.unusedVariables false
set_option linter.unusedSimpArgs false

/-! ### laws_FnExactLongestKnown: function 8 -/
def laws_FnExactLongestKnown.j0 : Nat → List (S46) → List Int → List (S47) → List Int → Bool → Option (Bool)
  | 0, _, _, _, _, _ => none
  | k + 1, x0, x1, x10, x11, x49 => if x49 = true then (some false) else ((laws_toPatternS.f k x0).bind fun t118 => ((laws_eqPatternS.f k x10 t118).bind fun t121 => (if t121 = true then ((laws_toInt64S.f k x1).bind fun t122 => ((laws_eqInt64S.f k x11 t122).bind fun t125 => (if t125 = true then (some true) else (some false)))) else (some false))))
def laws_FnExactLongestKnown.f (k : Nat) (l0 : List (S46)) (l1 : List Int) (a2 : Int) : Option (Bool) := if (l1.length : Int) > 1048576 then (some true) else ((laws_szPatternS.f k l0 1048576).bind fun t101 => (if t101 < 0 then (some true) else ((laws_toPatternS.f k l0).bind fun t102 => ((laws_toInt64S.f k l1).bind fun t105 => ((spec_LongestKnown.f k t102 t105 a2).bind fun bt108 => ((laws_toPatternS.f k l0).bind fun t110 => ((laws_toInt64S.f k l1).bind fun t113 => ((impl_LongestKnown.f k t110 t113 a2).bind fun bt116 => (if bt116.1 = bt108.1 then (laws_FnExactLongestKnown.j0 k l0 l1 t110 t113 (bt116.2 != bt108.2)) else (laws_FnExactLongestKnown.j0 k l0 l1 t110 t113 true))))))))))
theorem laws_FnExactLongestKnown.mono_l : ∀ k, (∀ y0 y1 y2 y3 y4, LeO (laws_FnExactLongestKnown.j0 k y0 y1 y2 y3 y4) (laws_FnExactLongestKnown.j0 (k + 1) y0 y1 y2 y3 y4))
  | 0 => fun _ _ _ _ _ r h => by simp [laws_FnExactLongestKnown.j0] at h
  | k + 1 => by
    have ih0 := laws_FnExactLongestKnown.mono_l k
    · intro y0 y1 y2 y3 y4
      unfold laws_FnExactLongestKnown.j0
      repeat' first
      | (with_reducible exact ih0 _ _ _ _ _)
      | (with_reducible exact impl_LongestKnown.mono _ _ _ _)
      | (with_reducible exact laws_eqInt64S.mono _ _ _)
      | (with_reducible exact laws_eqPatternS.mono _ _ _)
      | (with_reducible exact laws_szPatternS.mono _ _ _)
      | (with_reducible exact laws_toInt64S.mono _ _)
      | (with_reducible exact laws_toPatternS.mono _ _)
      | (with_reducible exact spec_LongestKnown.mono _ _ _ _)
      | (with_reducible exact LeO.refl _)
      | (with_reducible exact LeO.none _)
      | (with_reducible refine LeO.ite ?_ ?_)
      | (with_reducible refine LeO.bind ?_ (fun _ => ?_))
      | exact ih0 _ _ _ _ _
      | exact impl_LongestKnown.mono _ _ _ _
      | exact laws_eqInt64S.mono _ _ _
      | exact laws_eqPatternS.mono _ _ _
      | exact laws_szPatternS.mono _ _ _
      | exact laws_toInt64S.mono _ _
      | exact laws_toPatternS.mono _ _
      | exact spec_LongestKnown.mono _ _ _ _
      | exact LeO.none _
      | refine LeO.ite ?_ ?_
      | refine LeO.bind ?_ (fun _ => ?_)
theorem laws_FnExactLongestKnown.mono : ∀ a0 a1 a2 k, LeO (laws_FnExactLongestKnown.f k a0 a1 a2) (laws_FnExactLongestKnown.f (k + 1) a0 a1 a2) := by
  intro a0 a1 a2 k
  have ih0 := laws_FnExactLongestKnown.mono_l k
  unfold laws_FnExactLongestKnown.f
  repeat' first
      | (with_reducible exact ih0 _ _ _ _ _)
      | (with_reducible exact impl_LongestKnown.mono _ _ _ _)
      | (with_reducible exact laws_eqInt64S.mono _ _ _)
      | (with_reducible exact laws_eqPatternS.mono _ _ _)
      | (with_reducible exact laws_szPatternS.mono _ _ _)
      | (with_reducible exact laws_toInt64S.mono _ _)
      | (with_reducible exact laws_toPatternS.mono _ _)
      | (with_reducible exact spec_LongestKnown.mono _ _ _ _)
      | (with_reducible exact LeO.refl _)
      | (with_reducible exact LeO.none _)
      | (with_reducible refine LeO.ite ?_ ?_)
      | (with_reducible refine LeO.bind ?_ (fun _ => ?_))
      | exact ih0 _ _ _ _ _
      | exact impl_LongestKnown.mono _ _ _ _
      | exact laws_eqInt64S.mono _ _ _
      | exact laws_eqPatternS.mono _ _ _
      | exact laws_szPatternS.mono _ _ _
      | exact laws_toInt64S.mono _ _
      | exact laws_toPatternS.mono _ _
      | exact spec_LongestKnown.mono _ _ _ _
      | exact LeO.none _
      | refine LeO.ite ?_ ?_
      | refine LeO.bind ?_ (fun _ => ?_)
set_option maxHeartbeats 8000000 in
set_option maxRecDepth 100000 in
theorem laws_FnExactLongestKnown.calls (k : Nat) (A0 : Option Addr) (c0 : Nat) (l0 : List (S46)) (A1 : Option Addr) (c1 : Nat) (l1 : List Int) (a2 : Int) (r : Bool) (w : World) (hr0 : Kd.C k46 w A0 l0.length l0) (hc0 : l0.length ≤ c0) (hr1 : Kd.C (Kd.int .i64) w A1 l1.length l1) (hc1 : l1.length ≤ c1) (h : laws_FnExactLongestKnown.f k l0 l1 a2 = some r) :
    Calls Try.prog 8 #[.slice A0 l0.length c0, .slice A1 l1.length c1, .int .i64 a2] w fun e w' => e = .returned (.bool r) ∧ Below w.heap.size w w' := by
  have HR0 := Aside0.mk hr0
  have HC0 := Aside0.mk hc0
  clear hr0 hc0
  have HR1 := Aside0.mk hr1
  have HC1 := Aside0.mk hc1
  clear hr1 hc1
  have HB := Aside0.mk (Below.refl w.heap.size w)
  have H : (if (l1.length : Int) > 1048576 then (some true) else ((laws_szPatternS.f k l0 1048576).bind fun t101 => (if t101 < 0 then (some true) else ((laws_toPatternS.f k l0).bind fun t102 => ((laws_toInt64S.f k l1).bind fun t105 => ((spec_LongestKnown.f k t102 t105 a2).bind fun bt108 => ((laws_toPatternS.f k l0).bind fun t110 => ((laws_toInt64S.f k l1).bind fun t113 => ((impl_LongestKnown.f k t110 t113 a2).bind fun bt116 => (if bt116.1 = bt108.1 then (laws_FnExactLongestKnown.j0 k l0 l1 t110 t113 (bt116.2 != bt108.2)) else (laws_FnExactLongestKnown.j0 k l0 l1 t110 t113 true))))))))))) = some r := h
  clear h
  by_cases c4 : (l1.length : Int) > 1048576
  · rw [if_pos c4] at H
    have c4b0 : decide (1048576 < (l1.length : Int)) = true := decide_eq_true c4
    have c4b1 : decide (1048576 < l1.length) = true := decide_eq_true (by omega)
    clear c4
    obtain rfl := Option.some.inj H
    go_enter Try.func8, Try.ntmps8
    go_wp2
    go_ret
    exact ⟨by first | rfl | (simp [errW_none, errW_some] <;> rfl) | (simp [*, errW_none, errW_some] <;> rfl), by repeat (first | (with_reducible first | exact HB.out | apply below_alloc | apply pw_below_drewN | apply below_drew1) | exact HB.out)⟩
  · rw [if_neg c4] at H
    have c4b0 : decide (1048576 < (l1.length : Int)) = false := decide_eq_false c4
    have c4b1 : decide (1048576 < l1.length) = false := decide_eq_false (by omega)
    clear c4
    replace H := Option.bind_eq_some_iff.mp H
    obtain ⟨t101, A50, H⟩ := H
    replace H : (if t101 < 0 then (some true) else ((laws_toPatternS.f k l0).bind fun t102 => ((laws_toInt64S.f k l1).bind fun t105 => ((spec_LongestKnown.f k t102 t105 a2).bind fun bt108 => ((laws_toPatternS.f k l0).bind fun t110 => ((laws_toInt64S.f k l1).bind fun t113 => ((impl_LongestKnown.f k t110 t113 a2).bind fun bt116 => (if bt116.1 = bt108.1 then (laws_FnExactLongestKnown.j0 k l0 l1 t110 t113 (bt116.2 != bt108.2)) else (laws_FnExactLongestKnown.j0 k l0 l1 t110 t113 true))))))))) = some r := H
    have A5 := Aside0.mk A50
    clear A50
    by_cases c6 : t101 < 0
    · rw [if_pos c6] at H
      have c6b0 : decide (t101 < 0) = true := decide_eq_true c6
      clear c6
      obtain rfl := Option.some.inj H
      go_enter Try.func8, Try.ntmps8
      go_wp2_with (first | ((with_reducible refine gate_callee (f := 11) rfl ?_); refine goesL_ (some 19) rfl rfl Try.func11 (by kernel_rfl) rfl #[.slice A0 l0.length c0, .int .i64 1048576] rfl (by (try simp only [List.map_toArray, List.map_cons, List.map_nil]); first | done | rfl | (simp only [List.length_drop, List.length_take]; rfl)) ?_; (with_reducible refine (laws_szPatternS.calls k _ _ l0 1048576 t101 _ ?side1 ?side2 A5.out).mono ?_); (case side1 => repeat (first | exact HR0.out | (with_reducible refine Kd.C_alloc ?_ _) | (with_reducible refine Kd.C_drewN ?_ _) | (with_reducible refine Kd.C_drew ?_))); (case side2 => exact HC0.out); rintro e w7 ⟨rfl, hb⟩; refine ⟨_, rfl, ?_⟩; have n0_ := Aside0.mk (below_step (by repeat (first | (with_reducible first | exact HB.out | apply below_alloc | apply pw_below_drewN | apply below_drew1) | exact HB.out)) hb); clear HB; have HB := n0_; clear n0_; (try clear hb); (try clear hb2); (try clear hk); (try clear hi)))
      go_ret
      exact ⟨by first | rfl | (simp [errW_none, errW_some] <;> rfl) | (simp [*, errW_none, errW_some] <;> rfl), by repeat (first | (with_reducible first | exact HB.out | apply below_alloc | apply pw_below_drewN | apply below_drew1) | exact HB.out)⟩
    · rw [if_neg c6] at H
      have c6b0 : decide (t101 < 0) = false := decide_eq_false c6
      clear c6
      replace H := Option.bind_eq_some_iff.mp H
      obtain ⟨t102, A80, H⟩ := H
      replace H : ((laws_toInt64S.f k l1).bind fun t105 => ((spec_LongestKnown.f k t102 t105 a2).bind fun bt108 => ((laws_toPatternS.f k l0).bind fun t110 => ((laws_toInt64S.f k l1).bind fun t113 => ((impl_LongestKnown.f k t110 t113 a2).bind fun bt116 => (if bt116.1 = bt108.1 then (laws_FnExactLongestKnown.j0 k l0 l1 t110 t113 (bt116.2 != bt108.2)) else (laws_FnExactLongestKnown.j0 k l0 l1 t110 t113 true))))))) = some r := H
      have A8 := Aside0.mk A80
      clear A80
      replace H := Option.bind_eq_some_iff.mp H
      obtain ⟨t105, A90, H⟩ := H
      replace H : ((spec_LongestKnown.f k t102 t105 a2).bind fun bt108 => ((laws_toPatternS.f k l0).bind fun t110 => ((laws_toInt64S.f k l1).bind fun t113 => ((impl_LongestKnown.f k t110 t113 a2).bind fun bt116 => (if bt116.1 = bt108.1 then (laws_FnExactLongestKnown.j0 k l0 l1 t110 t113 (bt116.2 != bt108.2)) else (laws_FnExactLongestKnown.j0 k l0 l1 t110 t113 true)))))) = some r := H
      have A9 := Aside0.mk A90
      clear A90
      replace H := Option.bind_eq_some_iff.mp H
      obtain ⟨⟨t108, t109⟩, A100, H⟩ := H
      replace H : ((laws_toPatternS.f k l0).bind fun t110 => ((laws_toInt64S.f k l1).bind fun t113 => ((impl_LongestKnown.f k t110 t113 a2).bind fun bt116 => (if bt116.1 = t108 then (laws_FnExactLongestKnown.j0 k l0 l1 t110 t113 (bt116.2 != t109)) else (laws_FnExactLongestKnown.j0 k l0 l1 t110 t113 true))))) = some r := H
      have A10 := Aside0.mk A100
      clear A100
      replace H := Option.bind_eq_some_iff.mp H
      obtain ⟨t110, A110, H⟩ := H
      replace H : ((laws_toInt64S.f k l1).bind fun t113 => ((impl_LongestKnown.f k t110 t113 a2).bind fun bt116 => (if bt116.1 = t108 then (laws_FnExactLongestKnown.j0 k l0 l1 t110 t113 (bt116.2 != t109)) else (laws_FnExactLongestKnown.j0 k l0 l1 t110 t113 true)))) = some r := H
      have A11 := Aside0.mk A110
      clear A110
      replace H := Option.bind_eq_some_iff.mp H
      obtain ⟨t113, A120, H⟩ := H
      replace H : ((impl_LongestKnown.f k t110 t113 a2).bind fun bt116 => (if bt116.1 = t108 then (laws_FnExactLongestKnown.j0 k l0 l1 t110 t113 (bt116.2 != t109)) else (laws_FnExactLongestKnown.j0 k l0 l1 t110 t113 true))) = some r := H
      have A12 := Aside0.mk A120
      clear A120
      replace H := Option.bind_eq_some_iff.mp H
      obtain ⟨⟨t116, t117⟩, A130, H⟩ := H
      replace H : (if t116 = t108 then (laws_FnExactLongestKnown.j0 k l0 l1 t110 t113 (t117 != t109)) else (laws_FnExactLongestKnown.j0 k l0 l1 t110 t113 true)) = some r := H
      have A13 := Aside0.mk A130
      clear A130
      have HC14 := Aside0.mk H
      clear H
      go_enter Try.func8, Try.ntmps8
      go_upto_region 11 with (first | ((with_reducible refine gate_callee (f := 11) rfl ?_); refine goesL_ (some 19) rfl rfl Try.func11 (by kernel_rfl) rfl #[.slice A0 l0.length c0, .int .i64 1048576] rfl (by (try simp only [List.map_toArray, List.map_cons, List.map_nil]); first | done | rfl | (simp only [List.length_drop, List.length_take]; rfl)) ?_; (with_reducible refine (laws_szPatternS.calls k _ _ l0 1048576 t101 _ ?side1 ?side2 A5.out).mono ?_); (case side1 => repeat (first | exact HR0.out | (with_reducible refine Kd.C_alloc ?_ _) | (with_reducible refine Kd.C_drewN ?_ _) | (with_reducible refine Kd.C_drew ?_))); (case side2 => exact HC0.out); rintro e w15 ⟨rfl, hb⟩; refine ⟨_, rfl, ?_⟩; have n0_ := Aside0.mk (below_step (by repeat (first | (with_reducible first | exact HB.out | apply below_alloc | apply pw_below_drewN | apply below_drew1) | exact HB.out)) hb); clear HB; have HB := n0_; clear n0_; (try clear hb); (try clear hb2); (try clear hk); (try clear hi)) | ((with_reducible refine gate_callee (f := 13) rfl ?_); refine goesL_ (some 24) rfl rfl Try.func13 (by kernel_rfl) rfl #[.slice A0 l0.length c0] rfl (by (try simp only [List.map_toArray, List.map_cons, List.map_nil]); first | done | rfl | (simp only [List.length_drop, List.length_take]; rfl)) ?_; (with_reducible refine (laws_toPatternS.calls k _ _ l0 t102 _ ?side1 ?side2 A8.out).mono ?_); (case side1 => repeat (first | exact (Kd.C_below HR0.out HB.out) | (with_reducible refine Kd.C_alloc ?_ _) | (with_reducible refine Kd.C_drewN ?_ _) | (with_reducible refine Kd.C_drew ?_))); (case side2 => exact HC0.out); rintro e w16 ⟨v103, rfl, ho0, hb⟩; refine ⟨_, rfl, ?_⟩; have n0_ := Aside0.mk (Kd.S_lower ho0 (below_size (by repeat (first | (with_reducible first | exact HB.out | apply below_alloc | apply pw_below_drewN | apply below_drew1) | exact HB.out)))); have n1_ := Aside0.mk (below_step (by repeat (first | (with_reducible first | exact HB.out | apply below_alloc | apply pw_below_drewN | apply below_drew1) | exact HB.out)) hb); clear HB; have HO104 := n0_; have HB := n1_; clear n0_ n1_; (try clear hb); (try clear hb2); (try clear hk); (try clear hi); (try clear ho0)) | ((with_reducible refine gate_callee (f := 17) rfl ?_); refine goesL_ (some 26) rfl rfl Try.func17 (by kernel_rfl) rfl #[.slice A1 l1.length c1] rfl (by (try simp only [List.map_toArray, List.map_cons, List.map_nil]); first | done | rfl | (simp only [List.length_drop, List.length_take]; rfl)) ?_; (with_reducible refine (laws_toInt64S.calls k _ _ l1 t105 _ ?side1 ?side2 A9.out).mono ?_); (case side1 => repeat (first | exact (Kd.C_below HR1.out HB.out) | (with_reducible refine Kd.C_alloc ?_ _) | (with_reducible refine Kd.C_drewN ?_ _) | (with_reducible refine Kd.C_drew ?_))); (case side2 => exact HC1.out); rintro e w17 ⟨v106, rfl, ho0, hb⟩; refine ⟨_, rfl, ?_⟩; have n0_ := Aside0.mk (Kd.S_elder' (by (with_reducible repeat (first | apply Kd.S_alloc | apply Kd.S_drewN | apply Kd.S_drew)); exact HO104.out) (Kd.R_base ho0) hb); have n1_ := Aside0.mk (Kd.R_lower ho0 (below_size (by repeat (first | (with_reducible first | exact HB.out | apply below_alloc | apply pw_below_drewN | apply below_drew1) | exact HB.out)))); have n2_ := Aside0.mk (below_step (by repeat (first | (with_reducible first | exact HB.out | apply below_alloc | apply pw_below_drewN | apply below_drew1) | exact HB.out)) hb); clear HO104; clear HB; have HO104 := n0_; have HO107 := n1_; have HB := n2_; clear n0_ n1_ n2_; (try clear hb); (try clear hb2); (try clear hk); (try clear hi); (try clear ho0); obtain ⟨Ao18, co18, eo18⟩ := Kd.S_slice HO104.out; subst eo18; obtain ⟨Ao19, co19, eo19⟩ := Kd.R_slice HO107.out; subst eo19) | ((with_reducible refine gate_callee (f := 29) rfl ?_); refine goesL_ (some 28) rfl rfl Try.func29 (by kernel_rfl) rfl #[.slice Ao18 t102.length co18, .slice Ao19 t105.length co19, .int .i64 a2] rfl (by (try simp only [List.map_toArray, List.map_cons, List.map_nil]); first | done | rfl | (simp only [List.length_drop, List.length_take]; rfl)) ?_; (with_reducible refine (spec_LongestKnown.calls k _ _ t102 _ _ t105 a2 t108 t109 _ ?side1 ?side2 ?side3 ?side4 A10.out).mono ?_); (case side1 => repeat (first | exact (Kd.S_reads' HO104.out).2.2 | (with_reducible refine Kd.C_alloc ?_ _) | (with_reducible refine Kd.C_drewN ?_ _) | (with_reducible refine Kd.C_drew ?_))); (case side2 => exact (Kd.S_reads' HO104.out).2.1); (case side3 => repeat (first | exact (Kd.R_reads' HO107.out).2.2 | (with_reducible refine Kd.C_alloc ?_ _) | (with_reducible refine Kd.C_drewN ?_ _) | (with_reducible refine Kd.C_drew ?_))); (case side4 => exact (Kd.R_reads' HO107.out).2.1); rintro e w20 ⟨rfl, hb⟩; refine ⟨_, rfl, ?_⟩; have n0_ := Aside0.mk (Kd.S_below (by (with_reducible repeat (first | apply Kd.S_alloc | apply Kd.S_drewN | apply Kd.S_drew)); exact HO104.out) hb); have n1_ := Aside0.mk (Kd.R_below (by (with_reducible repeat (first | apply Kd.R_alloc | apply Kd.R_drewN | apply Kd.R_drew)); exact HO107.out) hb); have n2_ := Aside0.mk (below_step (by repeat (first | (with_reducible first | exact HB.out | apply below_alloc | apply pw_below_drewN | apply below_drew1) | exact HB.out)) hb); clear HO104; clear HO107; clear HB; have HO104 := n0_; have HO107 := n1_; have HB := n2_; clear n0_ n1_ n2_; (try clear hb); (try clear hb2); (try clear hk); (try clear hi)) | ((with_reducible refine gate_callee (f := 13) rfl ?_); refine goesL_ (some 32) rfl rfl Try.func13 (by kernel_rfl) rfl #[.slice A0 l0.length c0] rfl (by (try simp only [List.map_toArray, List.map_cons, List.map_nil]); first | done | rfl | (simp only [List.length_drop, List.length_take]; rfl)) ?_; (with_reducible refine (laws_toPatternS.calls k _ _ l0 t110 _ ?side1 ?side2 A11.out).mono ?_); (case side1 => repeat (first | exact (Kd.C_below HR0.out HB.out) | (with_reducible refine Kd.C_alloc ?_ _) | (with_reducible refine Kd.C_drewN ?_ _) | (with_reducible refine Kd.C_drew ?_))); (case side2 => exact HC0.out); rintro e w21 ⟨v111, rfl, ho0, hb⟩; refine ⟨_, rfl, ?_⟩; have n0_ := Aside0.mk (Kd.S_elder' (by (with_reducible repeat (first | apply Kd.S_alloc | apply Kd.S_drewN | apply Kd.S_drew)); exact HO104.out) (Kd.S_base ho0) hb); have n1_ := Aside0.mk (Kd.R_below (by (with_reducible repeat (first | apply Kd.R_alloc | apply Kd.R_drewN | apply Kd.R_drew)); exact HO107.out) hb); have n2_ := Aside0.mk (Kd.S_lower (Kd.S_new' (Kd.S_new' ho0 (Kd.S_lt (by (with_reducible repeat (first | apply Kd.S_alloc | apply Kd.S_drewN | apply Kd.S_drew)); exact HO104.out))) (Kd.R_lt (by (with_reducible repeat (first | apply Kd.R_alloc | apply Kd.R_drewN | apply Kd.R_drew)); exact HO107.out))) (below_size (by repeat (first | (with_reducible first | exact HB.out | apply below_alloc | apply pw_below_drewN | apply below_drew1) | exact HB.out)))); have n3_ := Aside0.mk (below_step (by repeat (first | (with_reducible first | exact HB.out | apply below_alloc | apply pw_below_drewN | apply below_drew1) | exact HB.out)) hb); clear HO104; clear HO107; clear HB; have HO104 := n0_; have HO107 := n1_; have HO112 := n2_; have HB := n3_; clear n0_ n1_ n2_ n3_; (try clear hb); (try clear hb2); (try clear hk); (try clear hi); (try clear ho0)) | ((with_reducible refine gate_callee (f := 17) rfl ?_); refine goesL_ (some 34) rfl rfl Try.func17 (by kernel_rfl) rfl #[.slice A1 l1.length c1] rfl (by (try simp only [List.map_toArray, List.map_cons, List.map_nil]); first | done | rfl | (simp only [List.length_drop, List.length_take]; rfl)) ?_; (with_reducible refine (laws_toInt64S.calls k _ _ l1 t113 _ ?side1 ?side2 A12.out).mono ?_); (case side1 => repeat (first | exact (Kd.C_below HR1.out HB.out) | (with_reducible refine Kd.C_alloc ?_ _) | (with_reducible refine Kd.C_drewN ?_ _) | (with_reducible refine Kd.C_drew ?_))); (case side2 => exact HC1.out); rintro e w22 ⟨v114, rfl, ho0, hb⟩; refine ⟨_, rfl, ?_⟩; have n0_ := Aside0.mk (Kd.S_elder' (by (with_reducible repeat (first | apply Kd.S_alloc | apply Kd.S_drewN | apply Kd.S_drew)); exact HO104.out) (Kd.R_base ho0) hb); have n1_ := Aside0.mk (Kd.R_elder' (by (with_reducible repeat (first | apply Kd.R_alloc | apply Kd.R_drewN | apply Kd.R_drew)); exact HO107.out) (Kd.R_base ho0) hb); have n2_ := Aside0.mk (Kd.S_elder' (by (with_reducible repeat (first | apply Kd.S_alloc | apply Kd.S_drewN | apply Kd.S_drew)); exact HO112.out) (Kd.R_base ho0) hb); have n3_ := Aside0.mk (Kd.R_lower (Kd.R_new' ho0 (Kd.R_lt (by (with_reducible repeat (first | apply Kd.R_alloc | apply Kd.R_drewN | apply Kd.R_drew)); exact HO107.out))) (below_size (by repeat (first | (with_reducible first | exact HB.out | apply below_alloc | apply pw_below_drewN | apply below_drew1) | exact HB.out)))); have n4_ := Aside0.mk (below_step (by repeat (first | (with_reducible first | exact HB.out | apply below_alloc | apply pw_below_drewN | apply below_drew1) | exact HB.out)) hb); clear HO104; clear HO107; clear HO112; clear HB; have HO104 := n0_; have HO107 := n1_; have HO112 := n2_; have HO115 := n3_; have HB := n4_; clear n0_ n1_ n2_ n3_ n4_; (try clear hb); (try clear hb2); (try clear hk); (try clear hi); (try clear ho0); obtain ⟨Ao23, co23, eo23⟩ := Kd.S_slice HO112.out; subst eo23; obtain ⟨Ao24, co24, eo24⟩ := Kd.R_slice HO115.out; subst eo24) | ((with_reducible refine gate_callee (f := 30) rfl ?_); refine goesL_ (some 39) rfl rfl Try.func30 (by kernel_rfl) rfl #[.slice Ao23 t110.length co23, .slice Ao24 t113.length co24, .int .i64 a2] rfl (by (try simp only [List.map_toArray, List.map_cons, List.map_nil]); first | done | rfl | (simp only [List.length_drop, List.length_take]; rfl)) ?_; (with_reducible refine (impl_LongestKnown.calls k _ _ t110 _ _ t113 a2 t116 t117 _ ?side1 ?side2 ?side3 ?side4 A13.out).mono ?_); (case side1 => repeat (first | exact (Kd.S_reads' HO112.out).2.2 | (with_reducible refine Kd.C_alloc ?_ _) | (with_reducible refine Kd.C_drewN ?_ _) | (with_reducible refine Kd.C_drew ?_))); (case side2 => exact (Kd.S_reads' HO112.out).2.1); (case side3 => repeat (first | exact (Kd.R_reads' HO115.out).2.2 | (with_reducible refine Kd.C_alloc ?_ _) | (with_reducible refine Kd.C_drewN ?_ _) | (with_reducible refine Kd.C_drew ?_))); (case side4 => exact (Kd.R_reads' HO115.out).2.1); rintro e w25 ⟨rfl, hb⟩; refine ⟨_, rfl, ?_⟩; have n0_ := Aside0.mk (Kd.S_below (by (with_reducible repeat (first | apply Kd.S_alloc | apply Kd.S_drewN | apply Kd.S_drew)); exact HO104.out) hb); have n1_ := Aside0.mk (Kd.R_below (by (with_reducible repeat (first | apply Kd.R_alloc | apply Kd.R_drewN | apply Kd.R_drew)); exact HO107.out) hb); have n2_ := Aside0.mk (Kd.S_below (by (with_reducible repeat (first | apply Kd.S_alloc | apply Kd.S_drewN | apply Kd.S_drew)); exact HO112.out) hb); have n3_ := Aside0.mk (Kd.R_below (by (with_reducible repeat (first | apply Kd.R_alloc | apply Kd.R_drewN | apply Kd.R_drew)); exact HO115.out) hb); have n4_ := Aside0.mk (below_step (by repeat (first | (with_reducible first | exact HB.out | apply below_alloc | apply pw_below_drewN | apply below_drew1) | exact HB.out)) hb); clear HO104; clear HO107; clear HO112; clear HO115; clear HB; have HO104 := n0_; have HO107 := n1_; have HO112 := n2_; have HO115 := n3_; have HB := n4_; clear n0_ n1_ n2_ n3_ n4_; (try clear hb); (try clear hb2); (try clear hk); (try clear hi)))
      (try simp only [Act.put, List.setIfInBounds_toArray, List.set_cons_zero, List.set_cons_succ])
      go_cut [49] (fun v49 wc => ∃ (kq : Nat) (x49_13 : Bool), v49 = .bool x49_13 ∧ Aside0 (laws_FnExactLongestKnown.j0 kq l0 l1 t110 t113 x49_13 = some r) ∧ Aside0 (kq ≤ k) ∧ Aside0 (Kd.S k47 47 wc w.heap.size (fun k_ => some k_ ≠ ((.slice Ao24 t113.length co24) : Value).ownBlock) (.slice Ao23 t110.length co23) t110) ∧ Aside0 (Kd.R (Kd.int .i64) 2 wc w.heap.size (fun _ => True) (.slice Ao24 t113.length co24) t113) ∧ Aside0 (Below w.heap.size w wc))
      case first =>
        have H := HC14.out
        clear HC14
        by_cases c26 : t116 = t108
        · rw [if_pos c26] at H
          have c26b0 : (t116 == t108) = true := beq_iff_eq.mpr c26
          have c26b1 : (t116 != t108) = false := bne_eq_false_iff_eq.mpr c26
          clear c26
          (first | rw [c26b0] | (simp only [i64_w, i32_w]; rw [c26b0]) | skip)
          have H' := Aside0.mk H
          clear H
          go_wp2
          go_meet
          case rel => exact ⟨_, ((t117 != t109)), (by first | rfl | (simp; done) | (simp [*]; done)), H', ⟨by first | omega | exact Nat.le_refl _⟩, ⟨by (with_reducible repeat (first | apply Kd.S_alloc | apply Kd.S_drewN | apply Kd.S_drew)); exact Kd.S_mono HO112.out (fun _ hk => hk.2)⟩, ⟨by (with_reducible repeat (first | apply Kd.R_alloc | apply Kd.R_drewN | apply Kd.R_drew)); exact Kd.R_mono HO115.out (fun _ hk => trivial)⟩, ⟨by repeat (first | (with_reducible first | exact HB.out | apply below_alloc | apply pw_below_drewN | apply below_drew1) | exact HB.out)⟩⟩
        · rw [if_neg c26] at H
          have c26b0 : (t116 == t108) = false := beq_eq_false_iff_ne.mpr c26
          have c26b1 : (t116 != t108) = true := bne_iff_ne.mpr c26
          (first | rw [c26b0] | (simp only [i64_w, i32_w]; rw [c26b0]) | skip)
          have H' := Aside0.mk H
          clear H
          go_wp2
          go_meet
          case rel => exact ⟨_, (true), (by first | rfl | (simp; done) | (simp [*]; done)), H', ⟨by first | omega | exact Nat.le_refl _⟩, ⟨by (with_reducible repeat (first | apply Kd.S_alloc | apply Kd.S_drewN | apply Kd.S_drew)); exact Kd.S_mono HO112.out (fun _ hk => hk.2)⟩, ⟨by (with_reducible repeat (first | apply Kd.R_alloc | apply Kd.R_drewN | apply Kd.R_drew)); exact Kd.R_mono HO115.out (fun _ hk => trivial)⟩, ⟨by repeat (first | (with_reducible first | exact HB.out | apply below_alloc | apply pw_below_drewN | apply below_drew1) | exact HB.out)⟩⟩
      case rest =>
        clear HC14
        try clear c1
        try clear c2
        try clear p2
        try clear c3
        try clear c4
        try clear c4b0
        try clear c4b1
        try clear c6
        try clear c6b0
        try clear c8
        try clear c11
        try clear c13
        try clear c17
        try clear c26
        try clear c26b0
        try clear c26b1
        obtain ⟨kq, x49_13, rfl, HA, HJ13, HO_10, HO_11, HB⟩ := hcut
        cases kq with
        | zero => exact absurd HA.out (by simp [laws_FnExactLongestKnown.j0])
        | succ kj13 =>
          have H := HA.out
          clear HA
          simp only [laws_FnExactLongestKnown.j0] at H
          by_cases c27 : x49_13 = true
          · subst c27
            have H1 : (some false) = some r := by rw [if_pos rfl] at H; exact H
            clear H
            have H := H1
            clear H1
            obtain rfl := Option.some.inj H
            go_wp2
            go_ret
            exact ⟨by first | rfl | (simp [errW_none, errW_some] <;> rfl) | (simp [*, errW_none, errW_some] <;> rfl), by repeat (first | (with_reducible first | exact HB.out | apply below_alloc | apply pw_below_drewN | apply below_drew1) | exact HB.out)⟩
          · replace c27 := Bool.eq_false_iff.mpr c27
            subst c27
            have H1 : ((laws_toPatternS.f kj13 l0).bind fun t118 => ((laws_eqPatternS.f kj13 t110 t118).bind fun t121 => (if t121 = true then ((laws_toInt64S.f kj13 l1).bind fun t122 => ((laws_eqInt64S.f kj13 t113 t122).bind fun t125 => (if t125 = true then (some true) else (some false)))) else (some false)))) = some r := by rw [if_neg (show ¬ (false = true) by decide)] at H; exact H
            clear H
            have H := H1
            clear H1
            replace H := Option.bind_eq_some_iff.mp H
            obtain ⟨t118, A280, H⟩ := H
            replace H : ((laws_eqPatternS.f kj13 t110 t118).bind fun t121 => (if t121 = true then ((laws_toInt64S.f kj13 l1).bind fun t122 => ((laws_eqInt64S.f kj13 t113 t122).bind fun t125 => (if t125 = true then (some true) else (some false)))) else (some false))) = some r := H
            have A28 := Aside0.mk A280
            clear A280
            replace H := Option.bind_eq_some_iff.mp H
            obtain ⟨t121, A290, H⟩ := H
            replace H : (if t121 = true then ((laws_toInt64S.f kj13 l1).bind fun t122 => ((laws_eqInt64S.f kj13 t113 t122).bind fun t125 => (if t125 = true then (some true) else (some false)))) else (some false)) = some r := H
            have A29 := Aside0.mk A290
            clear A290
            by_cases c30 : t121 = true
            · subst c30
              have H1 : ((laws_toInt64S.f kj13 l1).bind fun t122 => ((laws_eqInt64S.f kj13 t113 t122).bind fun t125 => (if t125 = true then (some true) else (some false)))) = some r := by rw [if_pos rfl] at H; exact H
              clear H
              have H := H1
              clear H1
              replace H := Option.bind_eq_some_iff.mp H
              obtain ⟨t122, A310, H⟩ := H
              replace H : ((laws_eqInt64S.f kj13 t113 t122).bind fun t125 => (if t125 = true then (some true) else (some false))) = some r := H
              have A31 := Aside0.mk A310
              clear A310
              replace H := Option.bind_eq_some_iff.mp H
              obtain ⟨t125, A320, H⟩ := H
              replace H : (if t125 = true then (some true) else (some false)) = some r := H
              have A32 := Aside0.mk A320
              clear A320
              by_cases c33 : t125 = true
              · subst c33
                have H1 : (some true) = some r := by rw [if_pos rfl] at H; exact H
                clear H
                have H := H1
                clear H1
                obtain rfl := Option.some.inj H
                go_wp2_with (first | ((with_reducible refine gate_callee (f := 13) rfl ?_); refine goesL_ (some 52) rfl rfl Try.func13 (by kernel_rfl) rfl #[.slice A0 l0.length c0] rfl (by (try simp only [List.map_toArray, List.map_cons, List.map_nil]); first | done | rfl | (simp only [List.length_drop, List.length_take]; rfl)) ?_; (with_reducible refine (laws_toPatternS.calls kj13 _ _ l0 t118 _ ?side1 ?side2 A28.out).mono ?_); (case side1 => repeat (first | exact (Kd.C_below HR0.out HB.out) | (with_reducible refine Kd.C_alloc ?_ _) | (with_reducible refine Kd.C_drewN ?_ _) | (with_reducible refine Kd.C_drew ?_))); (case side2 => exact HC0.out); rintro e w34 ⟨v119, rfl, ho0, hb⟩; refine ⟨_, rfl, ?_⟩; have n0_ := Aside0.mk (Kd.S_elder' (by (with_reducible repeat (first | apply Kd.S_alloc | apply Kd.S_drewN | apply Kd.S_drew)); exact HO_10.out) (Kd.S_base ho0) hb); have n1_ := Aside0.mk (Kd.R_below (by (with_reducible repeat (first | apply Kd.R_alloc | apply Kd.R_drewN | apply Kd.R_drew)); exact HO_11.out) hb); have n2_ := Aside0.mk (Kd.S_lower (Kd.S_new' (Kd.S_new' ho0 (Kd.S_lt (by (with_reducible repeat (first | apply Kd.S_alloc | apply Kd.S_drewN | apply Kd.S_drew)); exact HO_10.out))) (Kd.R_lt (by (with_reducible repeat (first | apply Kd.R_alloc | apply Kd.R_drewN | apply Kd.R_drew)); exact HO_11.out))) (below_size (by repeat (first | (with_reducible first | exact HB.out | apply below_alloc | apply pw_below_drewN | apply below_drew1) | exact HB.out)))); have n3_ := Aside0.mk (below_step (by repeat (first | (with_reducible first | exact HB.out | apply below_alloc | apply pw_below_drewN | apply below_drew1) | exact HB.out)) hb); clear HO_10; clear HO_11; clear HB; have HO_10 := n0_; have HO_11 := n1_; have HO120 := n2_; have HB := n3_; clear n0_ n1_ n2_ n3_; (try clear hb); (try clear hb2); (try clear hk); (try clear hi); (try clear ho0); obtain ⟨Ao35, co35, eo35⟩ := Kd.S_slice HO120.out; subst eo35) | ((with_reducible refine gate_callee (f := 15) rfl ?_); refine goesL_ (some 53) rfl rfl Try.func15 (by kernel_rfl) rfl #[.slice Ao23 t110.length co23, .slice Ao35 t118.length co35] rfl (by (try simp only [List.map_toArray, List.map_cons, List.map_nil]); first | done | rfl | (simp only [List.length_drop, List.length_take]; rfl)) ?_; (with_reducible refine (laws_eqPatternS.calls kj13 _ _ t110 _ _ t118 true _ ?side1 ?side2 ?side3 ?side4 A29.out).mono ?_); (case side1 => repeat (first | exact (Kd.S_reads' HO_10.out).2.2 | (with_reducible refine Kd.C_alloc ?_ _) | (with_reducible refine Kd.C_drewN ?_ _) | (with_reducible refine Kd.C_drew ?_))); (case side2 => exact (Kd.S_reads' HO_10.out).2.1); (case side3 => repeat (first | exact (Kd.S_reads' HO120.out).2.2 | (with_reducible refine Kd.C_alloc ?_ _) | (with_reducible refine Kd.C_drewN ?_ _) | (with_reducible refine Kd.C_drew ?_))); (case side4 => exact (Kd.S_reads' HO120.out).2.1); rintro e w36 ⟨rfl, hb⟩; refine ⟨_, rfl, ?_⟩; have n0_ := Aside0.mk (Kd.S_below (by (with_reducible repeat (first | apply Kd.S_alloc | apply Kd.S_drewN | apply Kd.S_drew)); exact HO_10.out) hb); have n1_ := Aside0.mk (Kd.R_below (by (with_reducible repeat (first | apply Kd.R_alloc | apply Kd.R_drewN | apply Kd.R_drew)); exact HO_11.out) hb); have n2_ := Aside0.mk (Kd.S_below (by (with_reducible repeat (first | apply Kd.S_alloc | apply Kd.S_drewN | apply Kd.S_drew)); exact HO120.out) hb); have n3_ := Aside0.mk (below_step (by repeat (first | (with_reducible first | exact HB.out | apply below_alloc | apply pw_below_drewN | apply below_drew1) | exact HB.out)) hb); clear HO_10; clear HO_11; clear HO120; clear HB; have HO_10 := n0_; have HO_11 := n1_; have HO120 := n2_; have HB := n3_; clear n0_ n1_ n2_ n3_; (try clear hb); (try clear hb2); (try clear hk); (try clear hi)) | ((with_reducible refine gate_callee (f := 17) rfl ?_); refine goesL_ (some 57) rfl rfl Try.func17 (by kernel_rfl) rfl #[.slice A1 l1.length c1] rfl (by (try simp only [List.map_toArray, List.map_cons, List.map_nil]); first | done | rfl | (simp only [List.length_drop, List.length_take]; rfl)) ?_; (with_reducible refine (laws_toInt64S.calls kj13 _ _ l1 t122 _ ?side1 ?side2 A31.out).mono ?_); (case side1 => repeat (first | exact (Kd.C_below HR1.out HB.out) | (with_reducible refine Kd.C_alloc ?_ _) | (with_reducible refine Kd.C_drewN ?_ _) | (with_reducible refine Kd.C_drew ?_))); (case side2 => exact HC1.out); rintro e w37 ⟨v123, rfl, ho0, hb⟩; refine ⟨_, rfl, ?_⟩; have n0_ := Aside0.mk (Kd.S_elder' (by (with_reducible repeat (first | apply Kd.S_alloc | apply Kd.S_drewN | apply Kd.S_drew)); exact HO_10.out) (Kd.R_base ho0) hb); have n1_ := Aside0.mk (Kd.R_elder' (by (with_reducible repeat (first | apply Kd.R_alloc | apply Kd.R_drewN | apply Kd.R_drew)); exact HO_11.out) (Kd.R_base ho0) hb); have n2_ := Aside0.mk (Kd.S_elder' (by (with_reducible repeat (first | apply Kd.S_alloc | apply Kd.S_drewN | apply Kd.S_drew)); exact HO120.out) (Kd.R_base ho0) hb); have n3_ := Aside0.mk (Kd.R_lower (Kd.R_new' ho0 (Kd.R_lt (by (with_reducible repeat (first | apply Kd.R_alloc | apply Kd.R_drewN | apply Kd.R_drew)); exact HO_11.out))) (below_size (by repeat (first | (with_reducible first | exact HB.out | apply below_alloc | apply pw_below_drewN | apply below_drew1) | exact HB.out)))); have n4_ := Aside0.mk (below_step (by repeat (first | (with_reducible first | exact HB.out | apply below_alloc | apply pw_below_drewN | apply below_drew1) | exact HB.out)) hb); clear HO_10; clear HO_11; clear HO120; clear HB; have HO_10 := n0_; have HO_11 := n1_; have HO120 := n2_; have HO124 := n3_; have HB := n4_; clear n0_ n1_ n2_ n3_ n4_; (try clear hb); (try clear hb2); (try clear hk); (try clear hi); (try clear ho0); obtain ⟨Ao38, co38, eo38⟩ := Kd.R_slice HO124.out; subst eo38) | ((with_reducible refine gate_callee (f := 19) rfl ?_); refine goesL_ (some 58) rfl rfl Try.func19 (by kernel_rfl) rfl #[.slice Ao24 t113.length co24, .slice Ao38 t122.length co38] rfl (by (try simp only [List.map_toArray, List.map_cons, List.map_nil]); first | done | rfl | (simp only [List.length_drop, List.length_take]; rfl)) ?_; (with_reducible refine (laws_eqInt64S.calls kj13 _ _ t113 _ _ t122 true _ ?side1 ?side2 ?side3 ?side4 A32.out).mono ?_); (case side1 => repeat (first | exact (Kd.R_reads' HO_11.out).2.2 | (with_reducible refine Kd.C_alloc ?_ _) | (with_reducible refine Kd.C_drewN ?_ _) | (with_reducible refine Kd.C_drew ?_))); (case side2 => exact (Kd.R_reads' HO_11.out).2.1); (case side3 => repeat (first | exact (Kd.R_reads' HO124.out).2.2 | (with_reducible refine Kd.C_alloc ?_ _) | (with_reducible refine Kd.C_drewN ?_ _) | (with_reducible refine Kd.C_drew ?_))); (case side4 => exact (Kd.R_reads' HO124.out).2.1); rintro e w' ⟨rfl, ⟨nd, rfl⟩⟩; refine ⟨_, rfl, ?_⟩))
                go_ret
                exact ⟨by first | rfl | (simp [errW_none, errW_some] <;> rfl) | (simp [*, errW_none, errW_some] <;> rfl), by repeat (first | (with_reducible first | exact HB.out | apply below_alloc | apply pw_below_drewN | apply below_drew1) | exact HB.out)⟩
              · replace c33 := Bool.eq_false_iff.mpr c33
                subst c33
                have H1 : (some false) = some r := by rw [if_neg (show ¬ (false = true) by decide)] at H; exact H
                clear H
                have H := H1
                clear H1
                obtain rfl := Option.some.inj H
                go_wp2_with (first | ((with_reducible refine gate_callee (f := 13) rfl ?_); refine goesL_ (some 52) rfl rfl Try.func13 (by kernel_rfl) rfl #[.slice A0 l0.length c0] rfl (by (try simp only [List.map_toArray, List.map_cons, List.map_nil]); first | done | rfl | (simp only [List.length_drop, List.length_take]; rfl)) ?_; (with_reducible refine (laws_toPatternS.calls kj13 _ _ l0 t118 _ ?side1 ?side2 A28.out).mono ?_); (case side1 => repeat (first | exact (Kd.C_below HR0.out HB.out) | (with_reducible refine Kd.C_alloc ?_ _) | (with_reducible refine Kd.C_drewN ?_ _) | (with_reducible refine Kd.C_drew ?_))); (case side2 => exact HC0.out); rintro e w39 ⟨v119, rfl, ho0, hb⟩; refine ⟨_, rfl, ?_⟩; have n0_ := Aside0.mk (Kd.S_elder' (by (with_reducible repeat (first | apply Kd.S_alloc | apply Kd.S_drewN | apply Kd.S_drew)); exact HO_10.out) (Kd.S_base ho0) hb); have n1_ := Aside0.mk (Kd.R_below (by (with_reducible repeat (first | apply Kd.R_alloc | apply Kd.R_drewN | apply Kd.R_drew)); exact HO_11.out) hb); have n2_ := Aside0.mk (Kd.S_lower (Kd.S_new' (Kd.S_new' ho0 (Kd.S_lt (by (with_reducible repeat (first | apply Kd.S_alloc | apply Kd.S_drewN | apply Kd.S_drew)); exact HO_10.out))) (Kd.R_lt (by (with_reducible repeat (first | apply Kd.R_alloc | apply Kd.R_drewN | apply Kd.R_drew)); exact HO_11.out))) (below_size (by repeat (first | (with_reducible first | exact HB.out | apply below_alloc | apply pw_below_drewN | apply below_drew1) | exact HB.out)))); have n3_ := Aside0.mk (below_step (by repeat (first | (with_reducible first | exact HB.out | apply below_alloc | apply pw_below_drewN | apply below_drew1) | exact HB.out)) hb); clear HO_10; clear HO_11; clear HB; have HO_10 := n0_; have HO_11 := n1_; have HO120 := n2_; have HB := n3_; clear n0_ n1_ n2_ n3_; (try clear hb); (try clear hb2); (try clear hk); (try clear hi); (try clear ho0); obtain ⟨Ao40, co40, eo40⟩ := Kd.S_slice HO120.out; subst eo40) | ((with_reducible refine gate_callee (f := 15) rfl ?_); refine goesL_ (some 53) rfl rfl Try.func15 (by kernel_rfl) rfl #[.slice Ao23 t110.length co23, .slice Ao40 t118.length co40] rfl (by (try simp only [List.map_toArray, List.map_cons, List.map_nil]); first | done | rfl | (simp only [List.length_drop, List.length_take]; rfl)) ?_; (with_reducible refine (laws_eqPatternS.calls kj13 _ _ t110 _ _ t118 true _ ?side1 ?side2 ?side3 ?side4 A29.out).mono ?_); (case side1 => repeat (first | exact (Kd.S_reads' HO_10.out).2.2 | (with_reducible refine Kd.C_alloc ?_ _) | (with_reducible refine Kd.C_drewN ?_ _) | (with_reducible refine Kd.C_drew ?_))); (case side2 => exact (Kd.S_reads' HO_10.out).2.1); (case side3 => repeat (first | exact (Kd.S_reads' HO120.out).2.2 | (with_reducible refine Kd.C_alloc ?_ _) | (with_reducible refine Kd.C_drewN ?_ _) | (with_reducible refine Kd.C_drew ?_))); (case side4 => exact (Kd.S_reads' HO120.out).2.1); rintro e w41 ⟨rfl, hb⟩; refine ⟨_, rfl, ?_⟩; have n0_ := Aside0.mk (Kd.S_below (by (with_reducible repeat (first | apply Kd.S_alloc | apply Kd.S_drewN | apply Kd.S_drew)); exact HO_10.out) hb); have n1_ := Aside0.mk (Kd.R_below (by (with_reducible repeat (first | apply Kd.R_alloc | apply Kd.R_drewN | apply Kd.R_drew)); exact HO_11.out) hb); have n2_ := Aside0.mk (Kd.S_below (by (with_reducible repeat (first | apply Kd.S_alloc | apply Kd.S_drewN | apply Kd.S_drew)); exact HO120.out) hb); have n3_ := Aside0.mk (below_step (by repeat (first | (with_reducible first | exact HB.out | apply below_alloc | apply pw_below_drewN | apply below_drew1) | exact HB.out)) hb); clear HO_10; clear HO_11; clear HO120; clear HB; have HO_10 := n0_; have HO_11 := n1_; have HO120 := n2_; have HB := n3_; clear n0_ n1_ n2_ n3_; (try clear hb); (try clear hb2); (try clear hk); (try clear hi)) | ((with_reducible refine gate_callee (f := 17) rfl ?_); refine goesL_ (some 57) rfl rfl Try.func17 (by kernel_rfl) rfl #[.slice A1 l1.length c1] rfl (by (try simp only [List.map_toArray, List.map_cons, List.map_nil]); first | done | rfl | (simp only [List.length_drop, List.length_take]; rfl)) ?_; (with_reducible refine (laws_toInt64S.calls kj13 _ _ l1 t122 _ ?side1 ?side2 A31.out).mono ?_); (case side1 => repeat (first | exact (Kd.C_below HR1.out HB.out) | (with_reducible refine Kd.C_alloc ?_ _) | (with_reducible refine Kd.C_drewN ?_ _) | (with_reducible refine Kd.C_drew ?_))); (case side2 => exact HC1.out); rintro e w42 ⟨v123, rfl, ho0, hb⟩; refine ⟨_, rfl, ?_⟩; have n0_ := Aside0.mk (Kd.S_elder' (by (with_reducible repeat (first | apply Kd.S_alloc | apply Kd.S_drewN | apply Kd.S_drew)); exact HO_10.out) (Kd.R_base ho0) hb); have n1_ := Aside0.mk (Kd.R_elder' (by (with_reducible repeat (first | apply Kd.R_alloc | apply Kd.R_drewN | apply Kd.R_drew)); exact HO_11.out) (Kd.R_base ho0) hb); have n2_ := Aside0.mk (Kd.S_elder' (by (with_reducible repeat (first | apply Kd.S_alloc | apply Kd.S_drewN | apply Kd.S_drew)); exact HO120.out) (Kd.R_base ho0) hb); have n3_ := Aside0.mk (Kd.R_lower (Kd.R_new' ho0 (Kd.R_lt (by (with_reducible repeat (first | apply Kd.R_alloc | apply Kd.R_drewN | apply Kd.R_drew)); exact HO_11.out))) (below_size (by repeat (first | (with_reducible first | exact HB.out | apply below_alloc | apply pw_below_drewN | apply below_drew1) | exact HB.out)))); have n4_ := Aside0.mk (below_step (by repeat (first | (with_reducible first | exact HB.out | apply below_alloc | apply pw_below_drewN | apply below_drew1) | exact HB.out)) hb); clear HO_10; clear HO_11; clear HO120; clear HB; have HO_10 := n0_; have HO_11 := n1_; have HO120 := n2_; have HO124 := n3_; have HB := n4_; clear n0_ n1_ n2_ n3_ n4_; (try clear hb); (try clear hb2); (try clear hk); (try clear hi); (try clear ho0); obtain ⟨Ao43, co43, eo43⟩ := Kd.R_slice HO124.out; subst eo43) | ((with_reducible refine gate_callee (f := 19) rfl ?_); refine goesL_ (some 58) rfl rfl Try.func19 (by kernel_rfl) rfl #[.slice Ao24 t113.length co24, .slice Ao43 t122.length co43] rfl (by (try simp only [List.map_toArray, List.map_cons, List.map_nil]); first | done | rfl | (simp only [List.length_drop, List.length_take]; rfl)) ?_; (with_reducible refine (laws_eqInt64S.calls kj13 _ _ t113 _ _ t122 false _ ?side1 ?side2 ?side3 ?side4 A32.out).mono ?_); (case side1 => repeat (first | exact (Kd.R_reads' HO_11.out).2.2 | (with_reducible refine Kd.C_alloc ?_ _) | (with_reducible refine Kd.C_drewN ?_ _) | (with_reducible refine Kd.C_drew ?_))); (case side2 => exact (Kd.R_reads' HO_11.out).2.1); (case side3 => repeat (first | exact (Kd.R_reads' HO124.out).2.2 | (with_reducible refine Kd.C_alloc ?_ _) | (with_reducible refine Kd.C_drewN ?_ _) | (with_reducible refine Kd.C_drew ?_))); (case side4 => exact (Kd.R_reads' HO124.out).2.1); rintro e w' ⟨rfl, ⟨nd, rfl⟩⟩; refine ⟨_, rfl, ?_⟩))
                go_ret
                exact ⟨by first | rfl | (simp [errW_none, errW_some] <;> rfl) | (simp [*, errW_none, errW_some] <;> rfl), by repeat (first | (with_reducible first | exact HB.out | apply below_alloc | apply pw_below_drewN | apply below_drew1) | exact HB.out)⟩
            · replace c30 := Bool.eq_false_iff.mpr c30
              subst c30
              have H1 : (some false) = some r := by rw [if_neg (show ¬ (false = true) by decide)] at H; exact H
              clear H
              have H := H1
              clear H1
              obtain rfl := Option.some.inj H
              go_wp2_with (first | ((with_reducible refine gate_callee (f := 13) rfl ?_); refine goesL_ (some 52) rfl rfl Try.func13 (by kernel_rfl) rfl #[.slice A0 l0.length c0] rfl (by (try simp only [List.map_toArray, List.map_cons, List.map_nil]); first | done | rfl | (simp only [List.length_drop, List.length_take]; rfl)) ?_; (with_reducible refine (laws_toPatternS.calls kj13 _ _ l0 t118 _ ?side1 ?side2 A28.out).mono ?_); (case side1 => repeat (first | exact (Kd.C_below HR0.out HB.out) | (with_reducible refine Kd.C_alloc ?_ _) | (with_reducible refine Kd.C_drewN ?_ _) | (with_reducible refine Kd.C_drew ?_))); (case side2 => exact HC0.out); rintro e w44 ⟨v119, rfl, ho0, hb⟩; refine ⟨_, rfl, ?_⟩; have n0_ := Aside0.mk (Kd.S_elder' (by (with_reducible repeat (first | apply Kd.S_alloc | apply Kd.S_drewN | apply Kd.S_drew)); exact HO_10.out) (Kd.S_base ho0) hb); have n1_ := Aside0.mk (Kd.R_below (by (with_reducible repeat (first | apply Kd.R_alloc | apply Kd.R_drewN | apply Kd.R_drew)); exact HO_11.out) hb); have n2_ := Aside0.mk (Kd.S_lower (Kd.S_new' (Kd.S_new' ho0 (Kd.S_lt (by (with_reducible repeat (first | apply Kd.S_alloc | apply Kd.S_drewN | apply Kd.S_drew)); exact HO_10.out))) (Kd.R_lt (by (with_reducible repeat (first | apply Kd.R_alloc | apply Kd.R_drewN | apply Kd.R_drew)); exact HO_11.out))) (below_size (by repeat (first | (with_reducible first | exact HB.out | apply below_alloc | apply pw_below_drewN | apply below_drew1) | exact HB.out)))); have n3_ := Aside0.mk (below_step (by repeat (first | (with_reducible first | exact HB.out | apply below_alloc | apply pw_below_drewN | apply below_drew1) | exact HB.out)) hb); clear HO_10; clear HO_11; clear HB; have HO_10 := n0_; have HO_11 := n1_; have HO120 := n2_; have HB := n3_; clear n0_ n1_ n2_ n3_; (try clear hb); (try clear hb2); (try clear hk); (try clear hi); (try clear ho0); obtain ⟨Ao45, co45, eo45⟩ := Kd.S_slice HO120.out; subst eo45) | ((with_reducible refine gate_callee (f := 15) rfl ?_); refine goesL_ (some 53) rfl rfl Try.func15 (by kernel_rfl) rfl #[.slice Ao23 t110.length co23, .slice Ao45 t118.length co45] rfl (by (try simp only [List.map_toArray, List.map_cons, List.map_nil]); first | done | rfl | (simp only [List.length_drop, List.length_take]; rfl)) ?_; (with_reducible refine (laws_eqPatternS.calls kj13 _ _ t110 _ _ t118 false _ ?side1 ?side2 ?side3 ?side4 A29.out).mono ?_); (case side1 => repeat (first | exact (Kd.S_reads' HO_10.out).2.2 | (with_reducible refine Kd.C_alloc ?_ _) | (with_reducible refine Kd.C_drewN ?_ _) | (with_reducible refine Kd.C_drew ?_))); (case side2 => exact (Kd.S_reads' HO_10.out).2.1); (case side3 => repeat (first | exact (Kd.S_reads' HO120.out).2.2 | (with_reducible refine Kd.C_alloc ?_ _) | (with_reducible refine Kd.C_drewN ?_ _) | (with_reducible refine Kd.C_drew ?_))); (case side4 => exact (Kd.S_reads' HO120.out).2.1); rintro e w46 ⟨rfl, hb⟩; refine ⟨_, rfl, ?_⟩; have n0_ := Aside0.mk (Kd.S_below (by (with_reducible repeat (first | apply Kd.S_alloc | apply Kd.S_drewN | apply Kd.S_drew)); exact HO_10.out) hb); have n1_ := Aside0.mk (Kd.R_below (by (with_reducible repeat (first | apply Kd.R_alloc | apply Kd.R_drewN | apply Kd.R_drew)); exact HO_11.out) hb); have n2_ := Aside0.mk (Kd.S_below (by (with_reducible repeat (first | apply Kd.S_alloc | apply Kd.S_drewN | apply Kd.S_drew)); exact HO120.out) hb); have n3_ := Aside0.mk (below_step (by repeat (first | (with_reducible first | exact HB.out | apply below_alloc | apply pw_below_drewN | apply below_drew1) | exact HB.out)) hb); clear HO_10; clear HO_11; clear HO120; clear HB; have HO_10 := n0_; have HO_11 := n1_; have HO120 := n2_; have HB := n3_; clear n0_ n1_ n2_ n3_; (try clear hb); (try clear hb2); (try clear hk); (try clear hi)))
              go_ret
              exact ⟨by first | rfl | (simp [errW_none, errW_some] <;> rfl) | (simp [*, errW_none, errW_some] <;> rfl), by repeat (first | (with_reducible first | exact HB.out | apply below_alloc | apply pw_below_drewN | apply below_drew1) | exact HB.out)⟩

end Go.Proofs.Ytihphgiopjiohaa.P

/- What an argument reads as: from the claim's own reading of data to the kinds of the walks. Types of whole numbers, bools, strings, slices and structs of these. -/
namespace Go.Proofs.YtihphgiopjiohaaO
open Go.RowKit Go.WideShapes Go.Proofs.YtihphgiopjiohaaW.PrintWords

theorem addr_add_add (a : Addr) (m i : Nat) : (a.add m).add i = a.add (m + i) := by
  unfold Addr.add
  by_cases h1 : m = 0
  · subst h1; simp
  · by_cases h2 : i = 0
    · subst h2; simp [h1]
    · have h3 : ¬ (m + i = 0) := by omega
      simp [h1, h2, Nat.add_assoc]

/-- Whatever the claim reads at this type is a value of this kind, of which G holds. -/
def Opens {α : Type} (P : Program) (t : TypeId) (d : Kd α) (G : α → Prop) : Prop :=
  ∀ (H : Type) (enc : TypeId × Value → H) (w : World) (base : Nat) (spare : Nat → Bool) (held : Bool) (fuel : Nat) (cs : List Value) (x : DataW H × List MemPlace),
    DataW.trod enc P w base spare held fuel t cs = some x → ∃ a : α, d.K w a cs ∧ G a

section
variable {α β : Type} {P : Program} {t e : TypeId} {d : Kd α} {G : α → Prop}

theorem opens_int {k : IntKind} (ht : P.underlying t = some (.int k)) : Opens P t (Kd.int k) (fun n => (Lit.int k n).wf = true) := by
  intro H enc w base spare held fuel cs x h
  obtain ⟨n, rfl, _, hw⟩ := DataW.trod_int ht h
  exact ⟨n, rfl, hw⟩
theorem opens_bool (ht : P.underlying t = some .bool) : Opens P t Kd.bool (fun _ => True) := by
  intro H enc w base spare held fuel cs x h
  obtain ⟨n, rfl, _⟩ := DataW.trod_bool ht h
  exact ⟨n, rfl, trivial⟩
theorem opens_string (ht : P.underlying t = some .string) : Opens P t Kd.string (fun s => s.size ≤ maxLen) := by
  intro H enc w base spare held fuel cs x h
  obtain ⟨n, rfl, _, hs⟩ := DataW.trod_string ht h
  exact ⟨n, rfl, hs⟩

theorem list_of_each {p : Nat → α → Prop} : ∀ n : Nat, (∀ i, i < n → ∃ a, p i a) → ∃ l : List α, l.length = n ∧ ∀ i a, l[i]? = some a → p i a
  | 0, _ => ⟨[], rfl, fun i a h => by simp at h⟩
  | n + 1, h => by
    obtain ⟨l, hl, hp⟩ := list_of_each n (fun i hi => h i (by omega))
    obtain ⟨a, ha⟩ := h n (by omega)
    refine ⟨l ++ [a], by simp [hl], fun i b hb => ?_⟩
    by_cases hi : i < l.length
    · rw [List.getElem?_append_left hi] at hb
      exact hp i b hb
    · rw [List.getElem?_append_right (by omega)] at hb
      have h0 : i - l.length = 0 := by
        have := (List.getElem?_eq_some_iff.1 hb).1
        simp at this
        omega
      rw [h0] at hb
      have hi2 : i = n := by omega
      subst hi2
      simp at hb
      subst hb
      exact ha

theorem opens_slice (ht : P.underlying t = some (.slice e)) (hc : P.cellsOf e = d.sz) (hd : Opens P e d G) : Opens P t (Kd.slice e d) (fun l => l.length ≤ maxLen ∧ ∀ x ∈ l, G x) := by
  intro H enc w base spare held fuel cs x h
  rcases DataW.trod_slice ht h with ⟨rfl, _⟩ | ⟨a, len, cap, elems, rest, n, _, rfl, _, hb, hl, hm, hlen, hel, _, _⟩
  · exact ⟨[], ⟨none, 0, rfl, Nat.le_refl _, rfl, by simp, fun hp => by simp at hp⟩, by simp, by simp⟩
  · have each : ∀ i, i < len → ∃ x : α, G x ∧ ∃ c, c.length = d.sz ∧ d.K w x c ∧ ∀ j u, c[j]? = some u → w.cell? (a.add (i * d.sz + j)) = some u := by
      intro i hi
      have h1 := hel i hi
      have h2 : ∃ y, elems[i]? = some y := ⟨elems[i]'(by omega), List.getElem?_eq_getElem (by omega)⟩
      obtain ⟨y, hy⟩ := h2
      rw [hy, Option.bind_eq_some_iff] at h1
      obtain ⟨c, hcs, hy'⟩ := h1
      obtain ⟨x, hK, hG⟩ := hd H enc w base spare held n c y hy'
      refine ⟨x, hG, c, d.K_len hK, hK, fun j u hu => ?_⟩
      have hx := World.cells?_some hcs
      have hj : j < P.cellsOf e := by
        have := (List.getElem?_eq_some_iff.1 hu).1
        have := hx.2.1
        omega
      have hz := hx.2.2 j hj
      rw [addr_add_add, hc, hu] at hz
      exact hz
    obtain ⟨l, hll, hp⟩ := list_of_each len each
    refine ⟨l, ⟨some a, cap, by rw [hll], by omega, rfl, by simp only [maxLen] at hm; omega, fun _ => ⟨a, rfl, fun j p hj => ?_⟩⟩, by simp only [maxLen] at hm ⊢; omega, fun x hx => ?_⟩
    · exact (hp j p hj).2
    · obtain ⟨i, hi, hi2⟩ := List.getElem_of_mem hx
      exact (hp i x (by rw [List.getElem?_eq_getElem hi, hi2])).1

def OpensFs {α : Type} (P : Program) (fs : List Field) (o : Nat) (d : Kd α) (G : α → Prop) : Prop :=
  ∀ (H : Type) (enc : TypeId × Value → H) (w : World) (base : Nat) (spare : Nat → Bool) (held : Bool) (fuel : Nat) (cs : List Value),
    cs.length = o + d.sz → (∀ (i : Nat) (f : Field), fs[i]? = some f → ∃ x, DataW.trod enc P w base spare held fuel f.type ((cs.drop f.offset).take (P.cellsOf f.type)) = some x) → ∃ a : α, d.K w a (cs.drop o) ∧ G a
theorem opensFs_last {f : Field} {o : Nat} (ho : f.offset = o) (hc : P.cellsOf f.type = d.sz) (h : Opens P f.type d G) : OpensFs P [f] o d G := by
  intro H enc w base spare held fuel cs hl hx
  obtain ⟨x, hx⟩ := hx 0 f rfl
  rw [ho, hc, List.take_of_length_le (by rw [List.length_drop]; omega)] at hx
  exact h H enc w base spare held fuel _ x hx
theorem opensFs_cons {f : Field} {fs : List Field} {o : Nat} {d2 : Kd β} {G2 : β → Prop} (ho : f.offset = o) (hc : P.cellsOf f.type = d.sz) (h : Opens P f.type d G) (h2 : OpensFs P fs (o + d.sz) d2 G2) :
    OpensFs P (f :: fs) o (Kd.pair d d2) (fun x => G x.1 ∧ G2 x.2) := by
  intro H enc w base spare held fuel cs hl hx
  have hl' : cs.length = o + (d.sz + d2.sz) := hl
  obtain ⟨x, hx0⟩ := hx 0 f rfl
  rw [ho, hc] at hx0
  obtain ⟨a, hK, hG⟩ := h H enc w base spare held fuel _ x hx0
  obtain ⟨b, hK2, hG2⟩ := h2 H enc w base spare held fuel cs (by omega) (fun i f2 hf => hx (i + 1) f2 (by simpa using hf))
  refine ⟨(a, b), ⟨_, _, ?_, hK, hK2⟩, hG, hG2⟩
  rw [← List.drop_drop]
  exact (List.take_append_drop d.sz (cs.drop o)).symm
theorem opens_struct {fs : Array Field} (ht : P.underlying t = some (.struct fs)) (hc : P.cellsOf t = d.sz) (h : OpensFs P fs.toList 0 d G) : Opens P t d G := by
  intro H enc w base spare held fuel cs x hx
  obtain ⟨xs, n, _, _, hl, hxl, hf⟩ := DataW.trod_struct ht hx
  have := h H enc w base spare held n cs (by omega) (fun i f hif => by
    have hif' : fs[i]? = some f := by simpa using hif
    have hi : i < xs.length := by
      rw [hxl]
      exact (Array.getElem?_eq_some_iff.1 hif').1
    exact ⟨xs[i], by rw [hf i f hif', List.getElem?_eq_getElem hi]⟩)
  simpa using this
theorem opens_iso (f : β → α) (g : α → β) (hfg : ∀ a, f (g a) = a) (h : Opens P t d G) : Opens P t (Kd.iso d f) (fun b => G (f b)) := by
  intro H enc w base spare held fuel cs x hx
  obtain ⟨a, hK, hG⟩ := h H enc w base spare held fuel cs x hx
  exact ⟨g a, by show d.K w (f (g a)) cs; rw [hfg]; exact hK, by show G (f (g a)); rw [hfg]; exact hG⟩
theorem opens_imp {G' : α → Prop} (h : Opens P t d G) (hG : ∀ a, G a → G' a) : Opens P t d G' := by
  intro H enc w base spare held fuel cs x hx
  obtain ⟨a, hK, hg⟩ := h H enc w base spare held fuel cs x hx
  exact ⟨a, hK, hG a hg⟩
end
end Go.Proofs.YtihphgiopjiohaaO

/- What the arguments of the laws read as: struct by struct. -/
namespace Go.Proofs.Ytihphgiopjiohaa
open Go.RowKit Go.Proofs.YtihphgiopjiohaaO Go.Proofs.YtihphgiopjiohaaW.PrintWords
def g46 (x : P.S46) : Prop := (x.f0.length ≤ maxLen ∧ ∀ y ∈ x.f0, (Lit.int .i64 y).wf = true) ∧ (Lit.int .i64 x.f1).wf = true
theorem open46 : Opens Try.prog 46 P.k46 g46 :=
  opens_iso (fun x : P.S46 => (x.f0, x.f1)) (fun a => ⟨a.1, a.2⟩) (fun _ => rfl) (opens_struct Try.underlying46 (by kernel_rfl) (opensFs_cons (by rfl) (by kernel_rfl) (opens_slice Try.underlying29 (by kernel_rfl) (opens_int Try.underlying2)) (opensFs_last (by rfl) (by kernel_rfl) (opens_int Try.underlying2))))
end Go.Proofs.Ytihphgiopjiohaa

/- Plain lemmas: loops over lists as the print writes them. No program in sight. -/
namespace Go.Proofs.YtihphgiopjiohaaL
open Go.RowKit Go.Proofs.YtihphgiopjiohaaW.PrintWords

theorem wrap_id {x : Int} (h0 : -9223372036854775808 ≤ x) (h1 : x ≤ 9223372036854775807) : wrap64 x = x := by unfold wrap64; omega
theorem wrap_succ {i n : Nat} (h : i < n) (hn : n ≤ 4611686018427387904) : wrap64 ((i : Int) + 1) = ((i + 1 : Nat) : Int) := by
  rw [wrap_id (by omega) (by omega)]; omega
theorem lt_cast {i n : Nat} (h : i < n) : (i : Int) < (n : Int) := by omega
theorem nn_cast (i : Nat) : 0 ≤ (i : Int) := by omega
theorem nlt_cast (n : Nat) : ¬ ((n : Int) < (n : Int)) := by omega
theorem drop_cons {α : Type} {l : List α} {i : Nat} (h : i < l.length) : l.drop i = l[i] :: l.drop (i + 1) := List.drop_eq_getElem_cons h

/-- A loop over a list: at each element it answers, or it goes on behind it. G: what it answers from a rest on. -/
theorem list_loop {α σ ρ : Type} (L : Nat → σ → Int → Option ρ) (l : List α) (G : List α → σ → ρ) (Inv : Nat → σ → Prop) (B : Nat)
    (step : ∀ (k i : Nat) (hi : i < l.length) (s : σ), Inv i s → B ≤ k →
      L (k + 1) s (i : Int) = some (G (l[i] :: l.drop (i + 1)) s) ∨ ∃ s', Inv (i + 1) s' ∧ G (l[i] :: l.drop (i + 1)) s = G (l.drop (i + 1)) s' ∧ L (k + 1) s (i : Int) = L k s' ((i + 1 : Nat) : Int))
    (stop : ∀ (k : Nat) (s : σ), Inv l.length s → L (k + 1) s (l.length : Int) = some (G [] s)) :
    ∀ (k : Nat) (s : σ), B + l.length < k → Inv 0 s → L k s 0 = some (G l s) := by
  have main : ∀ (d k i : Nat) (s : σ), i + d = l.length → B + d < k → Inv i s → L k s (i : Int) = some (G (l.drop i) s) := by
    intro d
    induction d with
    | zero =>
      intro k i s hi hk hI
      obtain ⟨k, rfl⟩ : ∃ m, k = m + 1 := ⟨k - 1, by omega⟩
      have : i = l.length := by omega
      subst this
      rw [stop k s hI, List.drop_length]
    | succ d ih =>
      intro k i s hi hk hI
      obtain ⟨k, rfl⟩ : ∃ m, k = m + 1 := ⟨k - 1, by omega⟩
      have hlt : i < l.length := by omega
      rw [drop_cons hlt]
      rcases step k i hlt s hI (by omega) with h | ⟨s', hI', hG, hL⟩
      · exact h
      · rw [hL, hG]
        exact ih k (i + 1) s' (by omega) (by omega) hI'
  intro k s hk hI
  have := main l.length k 0 s (by omega) hk hI
  simpa using this

/-- The same without a state. -/
theorem list_loop0 {α ρ : Type} (L : Nat → Int → Option ρ) (l : List α) (G : List α → ρ) (B : Nat)
    (step : ∀ (k i : Nat) (hi : i < l.length), B ≤ k →
      L (k + 1) (i : Int) = some (G (l[i] :: l.drop (i + 1))) ∨ (G (l[i] :: l.drop (i + 1)) = G (l.drop (i + 1)) ∧ L (k + 1) (i : Int) = L k ((i + 1 : Nat) : Int)))
    (stop : ∀ (k : Nat), L (k + 1) (l.length : Int) = some (G [])) :
    ∀ (k : Nat), B + l.length < k → L k 0 = some (G l) := by
  intro k hk
  exact list_loop (σ := Unit) (fun k _ i => L k i) l (fun l _ => G l) (fun _ _ => True) B (fun k i hi s _ hB => by
    rcases step k i hi hB with h | ⟨h1, h2⟩
    · exact .inl h
    · exact .inr ⟨(), trivial, h1, h2⟩) (fun k _ _ => stop k) k () hk trivial

/-- A loop that fills a list that was made, place by place. -/
theorem set_loop {α β : Type} (L : Nat → List β → Int → Option (List β)) (l : List α) (g : α → β) (B : Nat)
    (step : ∀ (k i : Nat) (hi : i < l.length) (acc : List β), acc.length = l.length → B ≤ k → L (k + 1) acc (i : Int) = L k (acc.set i (g l[i])) ((i + 1 : Nat) : Int))
    (stop : ∀ (k : Nat) (acc : List β), L (k + 1) acc (l.length : Int) = some acc) :
    ∀ (k : Nat) (acc : List β), B + l.length < k → acc.length = l.length → L k acc 0 = some (l.map g) := by
  have main : ∀ (d k i : Nat) (acc : List β), i + d = l.length → B + d < k → acc.length = l.length → L k acc (i : Int) = some (acc.take i ++ (l.drop i).map g) := by
    intro d
    induction d with
    | zero =>
      intro k i acc hi hk ha
      obtain ⟨k, rfl⟩ : ∃ m, k = m + 1 := ⟨k - 1, by omega⟩
      have : i = l.length := by omega
      subst this
      rw [stop k acc, List.drop_length, List.take_of_length_le (by omega)]
      simp
    | succ d ih =>
      intro k i acc hi hk ha
      obtain ⟨k, rfl⟩ : ∃ m, k = m + 1 := ⟨k - 1, by omega⟩
      have hlt : i < l.length := by omega
      rw [step k i hlt acc ha (by omega), ih k (i + 1) _ (by omega) (by omega) (by simpa using ha), drop_cons hlt]
      have h2 : (acc.set i (g l[i])).take (i + 1) = acc.take i ++ [g l[i]] := by
        rw [List.take_succ_eq_append_getElem (by simp; omega)]
        have h3 : (acc.set i (g l[i])).take i = acc.take i := by
          apply List.ext_getElem
          · simp
          · intro j h1 h2
            simp at h1
            simp [List.getElem_set_ne (show i ≠ j by omega)]
        rw [h3]
        simp
      rw [h2]
      simp only [List.append_assoc, List.singleton_append, List.map_cons]
  intro k acc hk ha
  have := main l.length k 0 acc (by omega) hk ha
  simpa using this

/-- A loop that compares two lists of one length, place by place. -/
theorem eq_loop {α : Type} [DecidableEq α] (L : Nat → Int → Option Bool) (a b : List α) (hab : a.length = b.length) (B : Nat)
    (step : ∀ (k i : Nat) (h : i < a.length) (h2 : i < b.length), B ≤ k → L (k + 1) (i : Int) = if a[i] = b[i] then L k ((i + 1 : Nat) : Int) else some false)
    (stop : ∀ (k : Nat), L (k + 1) (a.length : Int) = some true) :
    ∀ (k : Nat), B + a.length < k → L k 0 = some (decide (a = b)) := by
  have main : ∀ (d k i : Nat), i + d = a.length → B + d < k → L k (i : Int) = some (decide (a.drop i = b.drop i)) := by
    intro d
    induction d with
    | zero =>
      intro k i hi hk
      obtain ⟨k, rfl⟩ : ∃ m, k = m + 1 := ⟨k - 1, by omega⟩
      obtain rfl : i = a.length := by omega
      rw [stop k, List.drop_length, hab, List.drop_length]
      rfl
    | succ d ih =>
      intro k i hi hk
      obtain ⟨k, rfl⟩ : ∃ m, k = m + 1 := ⟨k - 1, by omega⟩
      have h1 : i < a.length := by omega
      have h2 : i < b.length := by omega
      rw [step k i h1 h2 (by omega), ih k (i + 1) (by omega) (by omega)]
      rw [show (decide (a.drop i = b.drop i)) = decide (a[i] = b[i] ∧ a.drop (i + 1) = b.drop (i + 1)) from by
        congr 1; rw [drop_cons h1, drop_cons h2, List.cons.injEq]]
      by_cases e : a[i] = b[i]
      · rw [if_pos e]; simp [e]
      · rw [if_neg e]; simp [e]
  intro k hk
  have := main a.length k 0 (by omega) hk
  simpa using this

/-- A loop that asks each index below n and stops at the first that says no. -/
theorem all_loop (L : Nat → Int → Option Bool) (n : Nat) (p : Nat → Bool) (fin : Bool) (B : Nat)
    (step : ∀ (k i : Nat), i < n → B ≤ k → L (k + 1) (i : Int) = if p i = true then L k ((i + 1 : Nat) : Int) else some false)
    (stop : ∀ (k : Nat), B ≤ k → L (k + 1) (n : Int) = some fin) :
    ∀ (k : Nat), B + n < k → L k 0 = some ((List.range n).all p && fin) := by
  have main : ∀ (d k i : Nat), i + d = n → B + d < k → L k (i : Int) = some ((List.range' i d).all p && fin) := by
    intro d
    induction d with
    | zero =>
      intro k i hi hk
      obtain ⟨k, rfl⟩ : ∃ m, k = m + 1 := ⟨k - 1, by omega⟩
      obtain rfl : i = n := by omega
      rw [stop k (by omega)]; simp
    | succ d ih =>
      intro k i hi hk
      obtain ⟨k, rfl⟩ : ∃ m, k = m + 1 := ⟨k - 1, by omega⟩
      rw [step k i (by omega) (by omega), List.range'_succ, List.all_cons]
      by_cases h : p i = true
      · rw [if_pos h, ih k (i + 1) (by omega) (by omega), h]; simp
      · rw [if_neg h]; simp [h]
  intro k hk
  have := main n k 0 (by omega) hk
  rw [List.range_eq_range']
  exact this

theorem pred_cast {i n : Nat} (h0 : 0 < i) (h : i < n) (hn : n ≤ 4611686018427387904) : wrap64 ((i : Int) - 1) = ((i - 1 : Nat) : Int) := by
  rw [wrap_id (by omega) (by omega)]; omega

theorem rd_get {l : List Int} {i : Nat} (h : i < l.length) : rd l (i : Int) = l[i] := by
  simp [rd, List.getD_eq_getElem?_getD, List.getElem?_eq_getElem h]
theorem rdOf_get {α : Type} {z : α} {l : List α} {i : Nat} (h : i < l.length) : rdOf z l (i : Int) = l[i] := by
  simp [rdOf, List.getD_eq_getElem?_getD, List.getElem?_eq_getElem h]

/-- A list marked with rising numbers from m on (each element takes c x of them), and the number behind. -/
def mkl {α : Type} (g : α → Int → α) (c : α → Int) : List α → Int → List α
  | [], _ => []
  | x :: r, m => g x m :: mkl g c r (m + c x)
def mtot {α : Type} (c : α → Int) : List α → Int → Int
  | [], m => m
  | x :: r, m => mtot c r (m + c x)
theorem mtot_ge {α : Type} {c : α → Int} (hc : ∀ x, 0 ≤ c x) : ∀ (l : List α) (m : Int), m ≤ mtot c l m
  | [], m => by simp [mtot]
  | x :: r, m => by
    have := mtot_ge hc r (m + c x)
    have := hc x
    simp only [mtot]; omega
theorem mtot_const {α : Type} (n : Int) : ∀ (l : List α) (m : Int), mtot (fun _ => n) l m = m + n * l.length
  | [], m => by simp [mtot]
  | x :: r, m => by
    simp only [mtot, mtot_const n r, List.length_cons]
    rw [show ((r.length + 1 : Nat) : Int) = (r.length : Int) + 1 from by omega, Int.mul_add]
    omega
theorem mkl_length {α : Type} (g : α → Int → α) (c : α → Int) : ∀ (l : List α) (m : Int), (mkl g c l m).length = l.length
  | [], _ => rfl
  | x :: r, m => by simp [mkl, mkl_length g c r]
theorem mark_loop {α : Type} (L : Nat → List α → Int → Int → Option (Int × List α)) (g : α → Int → α) (c : α → Int) (M : Int) (B : Nat) (hc : ∀ x, 0 ≤ c x)
    (step : ∀ (k : Nat) (pre : List α) (x : α) (rest : List α) (m : Int), B ≤ k → pre.length < 4611686018427387904 → 0 ≤ m → m + c x ≤ M →
      L (k + 1) (pre ++ x :: rest) m (pre.length : Int) = L k (pre ++ g x m :: rest) (m + c x) ((pre.length + 1 : Nat) : Int))
    (stop : ∀ (k : Nat) (l : List α) (m : Int), L (k + 1) l m (l.length : Int) = some (m, l)) :
    ∀ (k : Nat) (l : List α) (m : Int), B + l.length < k → l.length ≤ 4611686018427387904 → 0 ≤ m → mtot c l m ≤ M → L k l m 0 = some (mtot c l m, mkl g c l m) := by
  have main : ∀ (rest : List α) (k : Nat) (pre : List α) (m : Int), B + rest.length < k → pre.length + rest.length ≤ 4611686018427387904 → 0 ≤ m → mtot c rest m ≤ M →
      L k (pre ++ rest) m (pre.length : Int) = some (mtot c rest m, pre ++ mkl g c rest m) := by
    intro rest
    induction rest with
    | nil =>
      intro k pre m hk _ _ _
      obtain ⟨k, rfl⟩ : ∃ m, k = m + 1 := ⟨k - 1, by omega⟩
      have := stop k pre m
      simpa [mtot, mkl] using this
    | cons x r ih =>
      intro k pre m hk hl hm hM
      obtain ⟨k, rfl⟩ : ∃ m, k = m + 1 := ⟨k - 1, by omega⟩
      simp only [List.length_cons] at hk hl
      have h1 := mtot_ge hc r (m + c x)
      have h2 := hc x
      simp only [mtot] at hM
      rw [step k pre x r m (by omega) (by omega) hm (by omega)]
      have h3 := ih k (pre ++ [g x m]) (m + c x) (by omega) (by simp; omega) (by omega) hM
      simpa [mtot, mkl, List.append_assoc] using h3
  intro k l m hk hl hm hM
  have := main l k [] m hk (by simpa using hl) hm hM
  simpa using this
theorem held_loop {α : Type} (L : Nat → Int → Int → Option Int) (g : α → Int → α) (c : α → Int) (M : Int) (B : Nat) (hc : ∀ x, 0 ≤ c x) (l' : List α)
    (step : ∀ (k : Nat) (pre : List α) (x : α) (rest : List α) (m : Int), l' = pre ++ g x m :: rest → B ≤ k → pre.length < 4611686018427387904 → 0 ≤ m → m + c x ≤ M →
      L (k + 1) m (pre.length : Int) = L k (m + c x) ((pre.length + 1 : Nat) : Int))
    (stop : ∀ (k : Nat) (m : Int), L (k + 1) m (l'.length : Int) = some m) :
    ∀ (k : Nat) (l : List α) (m : Int), l' = mkl g c l m → B + l.length < k → l.length ≤ 4611686018427387904 → 0 ≤ m → mtot c l m ≤ M → L k m 0 = some (mtot c l m) := by
  have main : ∀ (rest : List α) (k : Nat) (pre : List α) (m : Int), l' = pre ++ mkl g c rest m → B + rest.length < k → pre.length + rest.length ≤ 4611686018427387904 → 0 ≤ m → mtot c rest m ≤ M →
      L k m (pre.length : Int) = some (mtot c rest m) := by
    intro rest
    induction rest with
    | nil =>
      intro k pre m he hk _ _ _
      obtain ⟨k, rfl⟩ : ∃ m, k = m + 1 := ⟨k - 1, by omega⟩
      have := stop k m
      have e : l'.length = pre.length := by rw [he]; simp [mkl]
      rw [e] at this
      simpa [mtot] using this
    | cons x r ih =>
      intro k pre m he hk hl hm hM
      obtain ⟨k, rfl⟩ : ∃ m, k = m + 1 := ⟨k - 1, by omega⟩
      simp only [List.length_cons] at hk hl
      have h1 := mtot_ge hc r (m + c x)
      have h2 := hc x
      simp only [mtot] at hM
      rw [step k pre x (mkl g c r (m + c x)) m (by simpa [mkl] using he) (by omega) (by omega) hm (by omega)]
      have h3 := ih k (pre ++ [g x m]) (m + c x) (by simpa [mkl, List.append_assoc] using he) (by omega) (by simp; omega) (by omega) hM
      simpa [mtot] using h3
  intro k l m he hk hl hm hM
  have := main l k [] m (by simpa using he) hk (by simpa using hl) hm hM
  simpa using this
theorem rd_mid {pre rest : List Int} {x : Int} : rd (pre ++ x :: rest) (pre.length : Int) = x := by simp [rd]
theorem rdOf_mid {α : Type} {z : α} {pre rest : List α} {x : α} : rdOf z (pre ++ x :: rest) (pre.length : Int) = x := by simp [rdOf]
theorem set_mid {α : Type} {pre rest : List α} {x v : α} : (pre ++ x :: rest).set ((pre.length : Int)).toNat v = pre ++ v :: rest := by simp

theorem bytes_eq {a b : ByteArray} : a.toList = b.toList ↔ a = b := by
  constructor
  · intro h
    have h2 : a.data.toList = b.data.toList := by
      have e : ∀ x : ByteArray, x.toList = x.data.toList := ByteArray.toList_eq
      rw [← e, ← e]; exact h
    cases a; cases b
    simp at h2
    rw [h2]
  · intro h; rw [h]
end Go.Proofs.YtihphgiopjiohaaL

/- A loop over a list whose rounds take up to c steps each. -/
namespace Go.Proofs.YtihphgiopjiohaaL
open Go.RowKit Go.Proofs.YtihphgiopjiohaaW.PrintWords
theorem list_loopW {α σ τ : Type} (L : Nat → σ → Int → τ) (l : List α) (G : List α → σ → τ) (Inv : Nat → σ → Prop) (B c : Nat)
    (step : ∀ (k i : Nat) (hi : i < l.length) (s : σ), Inv i s → B ≤ k →
      L (k + c) s (i : Int) = G (l[i] :: l.drop (i + 1)) s ∨ ∃ s' k', k ≤ k' ∧ Inv (i + 1) s' ∧ G (l[i] :: l.drop (i + 1)) s = G (l.drop (i + 1)) s' ∧ L (k + c) s (i : Int) = L k' s' ((i + 1 : Nat) : Int))
    (stop : ∀ (k : Nat) (s : σ), Inv l.length s → B ≤ k → L (k + c) s (l.length : Int) = G [] s) :
    ∀ (k : Nat) (s : σ), B + c * (l.length + 1) ≤ k → Inv 0 s → L k s 0 = G l s := by
  have main : ∀ (d k i : Nat) (s : σ), i + d = l.length → B + c * (d + 1) ≤ k → Inv i s → L k s (i : Int) = G (l.drop i) s := by
    intro d
    induction d with
    | zero =>
      intro k i s hi hk hI
      have h1 : c * (0 + 1) = c := by simp
      obtain ⟨k, rfl⟩ : ∃ m, k = m + c := ⟨k - c, by omega⟩
      have : i = l.length := by omega
      subst this
      rw [stop k s hI (by omega), List.drop_length]
    | succ d ih =>
      intro k i s hi hk hI
      have h1 : c * (d + 1 + 1) = c * (d + 1) + c := Nat.mul_succ _ _
      obtain ⟨k, rfl⟩ : ∃ m, k = m + c := ⟨k - c, by omega⟩
      have hlt : i < l.length := by omega
      rw [List.drop_eq_getElem_cons hlt]
      rcases step k i hlt s hI (by omega) with h | ⟨s', k', hk', hI', hG, h⟩
      · exact h
      · rw [h, hG]; exact ih k' (i + 1) s' (by omega) (by omega) hI'
  intro k s hk hI
  have := main l.length k 0 s (by omega) hk hI
  simpa using this
theorem list_loopV {α σ ρ : Type} (L : Nat → σ → Int → Option ρ) (l : List α) (G : List α → σ → ρ) (Inv : Nat → σ → Prop) (B c : Nat)
    (step : ∀ (k i : Nat) (hi : i < l.length) (s : σ), Inv i s → B ≤ k →
      L (k + c) s (i : Int) = some (G (l[i] :: l.drop (i + 1)) s) ∨ ∃ s' k', k ≤ k' ∧ Inv (i + 1) s' ∧ G (l[i] :: l.drop (i + 1)) s = G (l.drop (i + 1)) s' ∧ L (k + c) s (i : Int) = L k' s' ((i + 1 : Nat) : Int))
    (stop : ∀ (k : Nat) (s : σ), Inv l.length s → B ≤ k → L (k + c) s (l.length : Int) = some (G [] s)) :
    ∀ (k : Nat) (s : σ), B + c * (l.length + 1) ≤ k → Inv 0 s → L k s 0 = some (G l s) :=
  list_loopW L l (fun r s => some (G r s)) Inv B c (fun k i hi s hI hB => by
    rcases step k i hi s hI hB with h | ⟨s', k', h1, h2, h3, h4⟩
    · exact .inl h
    · exact .inr ⟨s', k', h1, h2, by rw [h3], h4⟩) stop
end Go.Proofs.YtihphgiopjiohaaL

/- The laws' own functions on plain data: sizes, copies, equality: what each answers. Printed by program out of the types. -/
namespace Go.Proofs.Ytihphgiopjiohaa.P
open Go.RowKit Go.Proofs.YtihphgiopjiohaaW.PrintWords Go.Proofs.YtihphgiopjiohaaL
set_option linter.unusedVariables false
set_option linter.unusedSimpArgs false

theorem szInt64S_some {l : List Int} (hl : l.length ≤ maxLen) {a : Int} (ha0 : 0 ≤ a) (ha : a ≤ 1048576) : ∃ r, laws_szInt64S.f l a = some r ∧ (r < 0 ∨ (0 ≤ r ∧ r ≤ a ∧ l.length ≤ 1048576)) := by
  have hl' : l.length ≤ 9223372036854775807 := by simpa only [maxLen] using hl
  unfold laws_szInt64S.f
  rw [wrap_id (by omega) (by omega)]
  by_cases h0 : a - (l.length : Int) < 0
  · rw [if_pos h0]; exact ⟨-1, rfl, .inl (by omega)⟩
  · rw [if_neg h0]; exact ⟨_, rfl, .inr ⟨by omega, by omega, by omega⟩⟩
theorem toInt64S_eq {l : List Int} (hl : l.length ≤ 1048576) {k : Nat} (hk : 1048600 ≤ k) : laws_toInt64S.f k l = some l := by
  unfold laws_toInt64S.f
  rw [if_pos (nn_cast _), if_pos (by simp; omega)]
  rw [set_loop (fun k acc i => laws_toInt64S.l0 k l acc i) l (fun x => x) 0 (fun k i hi acc ha _ => ?_) (fun k acc => ?_) k _ (by omega) (by simp)]
  · simp
  · simp only [laws_toInt64S.l0]
    rw [if_pos (lt_cast hi), if_pos (nn_cast i), if_pos (by omega), rd_get hi, wrap_succ hi (by omega)]
    rfl
  · simp only [laws_toInt64S.l0]
    rw [if_neg (nlt_cast _)]
theorem eqInt64S_eq {a b : List Int} (hl : a.length ≤ 1048576) {k : Nat} (hk : 1048600 ≤ k) : laws_eqInt64S.f k a b = some (decide (a = b)) := by
  unfold laws_eqInt64S.f
  by_cases h : a.length = b.length
  · rw [if_pos (by omega)]
    refine eq_loop (fun k i => laws_eqInt64S.l0 k a b i) a b h 0 (fun k i h1 h2 _ => ?_) (fun k => ?_) k (by omega)
    · simp only [laws_eqInt64S.l0]
      rw [if_pos (lt_cast h1), if_pos (nn_cast i), if_pos (lt_cast h2), rd_get h1, rd_get h2, wrap_succ h1 (by omega)]

    · simp only [laws_eqInt64S.l0]
      rw [if_neg (nlt_cast _)]
  · rw [if_neg (by omega)]
    have : a ≠ b := fun e => h (by rw [e])
    simp [this]
/-! ### Pattern -/
def cPattern (x : S46) : S47 := ⟨x.f0, x.f1⟩
def smPattern (x : S46) : Prop := x.f0.length ≤ 1048576
theorem rd_lPattern {l : List S46} {i : Nat} (h : i < l.length) : rd_T46 l (i : Int) = l[i] := by
  simp [rd_T46, List.getD_eq_getElem?_getD, List.getElem?_eq_getElem h]
theorem rd_iPattern {l : List S47} {i : Nat} (h : i < l.length) : rd_T47 l (i : Int) = l[i] := by
  simp [rd_T47, List.getD_eq_getElem?_getD, List.getElem?_eq_getElem h]
theorem ext_iPattern {a b : S47} : a = b ↔ a.f0 = b.f0 ∧ a.f1 = b.f1 := by
  cases a; cases b; simp
instance : DecidableEq S47 := fun _ _ => decidable_of_iff _ ext_iPattern.symm
theorem szPattern_some {x : S46} (hg : Go.Proofs.Ytihphgiopjiohaa.g46 x) {a : Int} (ha0 : 0 ≤ a) (ha : a ≤ 1048576) : ∃ r, laws_szPattern.f x.f0 x.f1 a = some r ∧ (r < 0 ∨ (0 ≤ r ∧ r ≤ a ∧ smPattern x)) := by
  unfold laws_szPattern.f smPattern
  obtain ⟨r0, hr0, e0⟩ := szInt64S_some (l := x.f0) hg.1.1 (a := a) (by omega) (by omega)
  rw [hr0]; simp only [Option.bind_some]
  by_cases h0 : r0 < 0
  · rw [if_pos h0]; exact ⟨-1, rfl, .inl (by omega)⟩
  rw [if_neg h0]
  exact ⟨_, rfl, .inr ⟨by omega, by omega, by omega⟩⟩
theorem szPatternS_some {l : List S46} (hl : l.length ≤ maxLen) (hg : ∀ y ∈ l, Go.Proofs.Ytihphgiopjiohaa.g46 y) {a : Int} (ha0 : 0 ≤ a) (ha : a ≤ 1048576) {k : Nat} (hk : 2097200 ≤ k) : ∃ r, laws_szPatternS.f k l a = some r ∧ (r < 0 ∨ (0 ≤ r ∧ r ≤ a ∧ l.length ≤ 1048576 ∧ ∀ y ∈ l, smPattern y)) := by
  have hl' : l.length ≤ 9223372036854775807 := by simpa only [maxLen] using hl
  unfold laws_szPatternS.f
  rw [wrap_id (by omega) (by omega)]
  by_cases h0 : a - (l.length : Int) < 0
  · rw [if_pos h0]; exact ⟨-1, rfl, .inl (by omega)⟩
  · rw [if_neg h0]
    have main : ∀ (d k i : Nat) (s : Int), i + d = l.length → 1048600 + d < k → 0 ≤ s → s ≤ a - l.length → ∃ r, laws_szPatternS.l0 k l s (i : Int) = some r ∧ (r < 0 ∨ (0 ≤ r ∧ r ≤ s ∧ ∀ y ∈ l.drop i, smPattern y)) := by
      intro d
      induction d with
      | zero =>
        intro k i s hi hk h0 h1
        obtain ⟨k, rfl⟩ : ∃ m, k = m + 1 := ⟨k - 1, by omega⟩
        obtain rfl : i = l.length := by omega
        simp only [laws_szPatternS.l0]
        rw [if_neg (nlt_cast _)]
        exact ⟨s, rfl, .inr ⟨h0, by omega, by simp⟩⟩
      | succ d ih =>
        intro k i s hi hk h0 h1
        obtain ⟨k, rfl⟩ : ∃ m, k = m + 1 := ⟨k - 1, by omega⟩
        have hlt : i < l.length := by omega
        simp only [laws_szPatternS.l0]
        rw [if_pos (lt_cast hlt), if_pos (nn_cast i), rd_lPattern hlt, wrap_succ hlt (by omega)]
        obtain ⟨r1, hr1, e1⟩ := szPattern_some (hg l[i] (List.getElem_mem hlt)) (a := s) (by omega) (by omega)
        rw [hr1]; simp only [Option.bind_some]
        by_cases h2 : r1 < 0
        · rw [if_pos h2]
          exact ⟨-1, rfl, .inl (by omega)⟩
        · rw [if_neg h2]
          have e1' := e1.resolve_left h2
          obtain ⟨r, hr, h3⟩ := ih k (i + 1) r1 (by omega) (by omega) (by omega) (by omega)
          refine ⟨r, hr, h3.imp id fun h3 => ⟨h3.1, by omega, ?_⟩⟩
          rw [drop_cons hlt]
          intro y hy
          rcases List.mem_cons.1 hy with rfl | hy
          · exact e1'.2.2
          · exact h3.2.2 y hy
    obtain ⟨r, hr, h⟩ := main l.length k 0 (a - l.length) (by omega) (by omega) (by omega) (by omega)
    refine ⟨r, hr, h.imp id fun h => ⟨h.1, by omega, by omega, ?_⟩⟩
    simpa using h.2.2
theorem toPattern_eq {x : S46} (hs : smPattern x) {k : Nat} (hk : 1048600 ≤ k) : laws_toPattern.f k x.f0 x.f1 = some ((cPattern x).f0, (cPattern x).f1) := by
  unfold smPattern at hs
  unfold laws_toPattern.f
  rw [toInt64S_eq (by have := hs; omega) (by omega)]; simp only [Option.bind_some]
  rfl
theorem toPatternS_eq {l : List S46} (hl : l.length ≤ 1048576) (hs : ∀ y ∈ l, smPattern y) {k : Nat} (hk : 2097200 ≤ k) : laws_toPatternS.f k l = some (l.map cPattern) := by
  unfold laws_toPatternS.f
  rw [if_pos (nn_cast _), if_pos (by simp; omega)]
  refine set_loop (fun k acc i => laws_toPatternS.l0 k l acc i) l cPattern 1048600 (fun k i hi acc ha hB => ?_) (fun k acc => ?_) k _ (by omega) (by simp)
  · simp only [laws_toPatternS.l0]
    rw [if_pos (lt_cast hi), if_pos (nn_cast i), rd_lPattern hi, wrap_succ hi (by omega), toPattern_eq (hs _ (List.getElem_mem hi)) hB]
    simp only [Option.bind_some]
    rw [if_pos (by omega)]
    rfl
  · simp only [laws_toPatternS.l0]
    rw [if_neg (nlt_cast _)]
def smiPattern (x : S47) : Prop := x.f0.length ≤ 1048576
theorem smi_cPattern {x : S46} (hs : smPattern x) : smiPattern (cPattern x) := by
  unfold smPattern at hs
  unfold smiPattern cPattern
  exact hs
theorem eqPattern_eq {a b : S47} (hs : smiPattern a) {k : Nat} (hk : 1048600 ≤ k) : laws_eqPattern.f k a.f0 a.f1 b.f0 b.f1 = some (decide (a = b)) := by
  unfold smiPattern at hs
  unfold laws_eqPattern.f
  rw [eqInt64S_eq hs (by omega)]; simp only [Option.bind_some]
  by_cases e0 : a.f0 = b.f0
  rotate_left
  · rw [if_neg (by simp [e0])]; have hne : ¬ a = b := fun e => e0 (ext_iPattern.1 e).1; simp [hne]
  rw [if_pos (by simp [e0])]
  by_cases e1 : a.f1 = b.f1
  rotate_left
  · rw [if_neg e1]; have hne : ¬ a = b := fun e => e1 (ext_iPattern.1 e).2; simp [hne]
  rw [if_pos e1]
  rw [decide_eq_true (ext_iPattern.2 ⟨e0, e1⟩)]
theorem eqPatternS_eq {a b : List S47} (hl : a.length ≤ 1048576) (hs : ∀ y ∈ a, smiPattern y) {k : Nat} (hk : 2097200 ≤ k) : laws_eqPatternS.f k a b = some (decide (a = b)) := by
  unfold laws_eqPatternS.f
  by_cases h : a.length = b.length
  · rw [if_pos (by omega)]
    refine eq_loop (fun k i => laws_eqPatternS.l0 k a b i) a b h 1048600 (fun k i h1 h2 hB => ?_) (fun k => ?_) k (by omega)
    · simp only [laws_eqPatternS.l0]
      rw [if_pos (lt_cast h1), if_pos (nn_cast i), if_pos (lt_cast h2), rd_iPattern h1, rd_iPattern h2, wrap_succ h1 (by omega), eqPattern_eq (hs _ (List.getElem_mem h1)) hB]
      simp only [Option.bind_some, decide_eq_true_eq]
    · simp only [laws_eqPatternS.l0]
      rw [if_neg (nlt_cast _)]
  · rw [if_neg (by omega)]
    have : a ≠ b := fun e => h (by rw [e])
    simp [this]
end Go.Proofs.Ytihphgiopjiohaa.P

/- Valid patterns: the reference's and the program's test answer the same. -/
namespace Go.Proofs.Ytihphgiopjiohaa.P
open Go.RowKit Go.Proofs.YtihphgiopjiohaaW.PrintWords Go.Proofs.YtihphgiopjiohaaL
def pitchB (n : Int) : Bool := decide (-12 ≤ n) && decide (n ≤ 23)
def patB (x : S47) : Bool := (decide (1 ≤ x.f0.length) && decide (x.f0.length ≤ 8)) && x.f0.all pitchB && (decide (0 ≤ x.f1) && decide (x.f1 ≤ 1000))
def patsB (l : List S47) : Bool := l.all patB && decide (l.length ≤ 12)
theorem l00In_eq (x lo hi : Int) : spec_l00In.f x lo hi = some (decide (lo ≤ x) && decide (x ≤ hi)) := by
  unfold spec_l00In.f
  by_cases h : x ≥ lo
  · rw [if_pos h]; simp [ge_iff_le.1 h]
  · rw [if_neg h]
    have h' : ¬ lo ≤ x := h
    simp [h']
theorem l05Pitches_eq {l : List Int} (hl : l.length ≤ 1048576) {k : Nat} (hk : l.length + 2 ≤ k) : spec_l05Pitches.f k l = some (l.all pitchB && decide (l.length ≤ 64)) := by
  unfold spec_l05Pitches.f
  refine list_loop0 (fun k i => spec_l05Pitches.l0 k l i) l (fun r => r.all pitchB && decide (l.length ≤ 64)) 0 (fun k i hi _ => ?_) (fun k => ?_) k (by omega)
  · simp only [spec_l05Pitches.l0]
    rw [if_pos (lt_cast hi), if_pos (nn_cast i), rd_get hi, wrap_succ hi (by omega)]
    unfold spec_l03Pitch.f
    rw [l00In_eq]; simp only [Option.bind_some]
    rw [List.all_cons]
    change _ = some ((pitchB l[i] && _) && _) ∨ _
    by_cases h : pitchB l[i] = true
    · right
      refine ⟨by rw [h, Bool.true_and], ?_⟩
      exact if_pos h
    · left
      rw [Bool.not_eq_true] at h
      rw [h]
      exact if_neg (by unfold pitchB at h; rw [h]; decide)
  · simp only [spec_l05Pitches.l0]
    rw [if_neg (nlt_cast _)]
    simp
    omega
theorem l11One_e_eq (l : List S47) (i : Int) {k : Nat} (hk : 20 ≤ k) : spec_l11One_e.f k l i = some (patB (rd_T47 l i)) := by
  unfold spec_l11One_e.f patB
  generalize rd_T47 l i = x
  rw [l00In_eq]; simp only [Option.bind_some]
  by_cases h : (decide ((1 : Int) ≤ (x.f0.length : Int)) && decide ((x.f0.length : Int) ≤ 8)) = true
  · rw [if_pos h]
    have h1 : 1 ≤ x.f0.length ∧ x.f0.length ≤ 8 := by simp at h; omega
    rw [l05Pitches_eq (by omega) (by omega), l00In_eq]
    simp only [Option.bind_some]
    have h64 : x.f0.length ≤ 64 := by omega
    rw [decide_eq_true h1.1, decide_eq_true h1.2, decide_eq_true h64, Bool.and_true]
    cases x.f0.all pitchB <;> simp
  · rw [if_neg h]
    by_cases h1 : 1 ≤ x.f0.length
    · have : ¬ x.f0.length ≤ 8 := by intro h2; apply h; simp; omega
      rw [decide_eq_false this]; simp
    · rw [decide_eq_false h1]; simp
theorem Pattern_valid_eq (x : S47) : impl_Pattern_valid.f x.f0 x.f1 = some (patB x) := by
  unfold impl_Pattern_valid.f patB impl_allWithin.f
  rw [impl_allWithin.within]
  have e : (!(x.f0.any (impl_allWithin.p (-12) 23))) = x.f0.all pitchB := by
    rw [List.not_any_eq_all_not]
    congr 1; funext n; unfold impl_allWithin.p pitchB
    cases decide (-12 ≤ n) <;> cases decide (n ≤ 23) <;> rfl
  rw [e]
  by_cases h1 : 1 ≤ x.f0.length
  · rw [if_pos (by omega)]
    by_cases h2 : x.f0.length ≤ 8
    · rw [if_pos (by omega)]
      simp only [Option.bind_some]
      rw [decide_eq_true h1, decide_eq_true h2]
      cases x.f0.all pitchB <;> simp
    · rw [if_neg (by omega), decide_eq_false h2]; simp
  · rw [if_neg (by omega), decide_eq_false h1]; simp
theorem l11Ok_eq {l : List S47} (hl : l.length ≤ 1048576) {k : Nat} (hk : l.length + 30 ≤ k) : spec_l11Ok.f k l = some (patsB l) := by
  unfold spec_l11Ok.f patsB
  refine list_loop0 (fun k i => spec_l11Ok.l0 k l i) l (fun r => r.all patB && decide (l.length ≤ 12)) 20 (fun k i hi hB => ?_) (fun k => ?_) k (by omega)
  · simp only [spec_l11Ok.l0]
    rw [if_pos (lt_cast hi), if_pos (nn_cast i), l11One_e_eq _ _ hB, rd_iPattern hi, wrap_succ hi (by omega), List.all_cons]
    simp only [Option.bind_some]
    by_cases h : patB l[i] = true
    · right; rw [if_pos h, h, Bool.true_and]; exact ⟨rfl, rfl⟩
    · left; rw [if_neg h]; rw [Bool.not_eq_true] at h; rw [h]; rfl
  · simp only [spec_l11Ok.l0]
    rw [if_neg (nlt_cast _)]
    simp
    omega
theorem ValidPatterns_eq (l : List S47) : impl_ValidPatterns.f l = some (patsB l) := by
  unfold impl_ValidPatterns.f patsB
  by_cases h : l.length ≤ 12
  · rw [if_pos (by omega), anyO_some (q := fun x => !patB x) (fun x _ => by unfold impl_ValidPatterns_1.f; rw [Pattern_valid_eq]; rfl)]
    simp only [Option.bind_some, decide_eq_true h, Bool.and_true, List.not_any_eq_all_not, Bool.not_not]
  · rw [if_neg (by omega), decide_eq_false h]; simp
theorem map_cPattern (l : List S46) : (l.map cPattern).length = l.length := by simp
theorem smi_pats {l : List S46} (h : ∀ y ∈ l, smPattern y) : ∀ y ∈ l.map cPattern, smiPattern y := by
  intro y hy; obtain ⟨x, hx, rfl⟩ := List.mem_map.1 hy; exact smi_cPattern (h x hx)
end Go.Proofs.Ytihphgiopjiohaa.P

/- Patterns at a place: the reference and the program find the same ones. -/
namespace Go.Proofs.Ytihphgiopjiohaa.P
open Go.RowKit Go.Proofs.YtihphgiopjiohaaW.PrintWords Go.Proofs.YtihphgiopjiohaaL
def fits (x : S47) (p : List Int) (a : Nat) : Bool := decide (a + x.f0.length ≤ p.length) && decide ((p.drop a).take x.f0.length = x.f0)
def atF (p : List Int) (a : Nat) : Nat → List S47 → List Int
  | _, [] => []
  | n, x :: r => if fits x p a = true then (n : Int) :: atF p a (n + 1) r else atF p a (n + 1) r
def atB (l : List S47) (p : List Int) (a : Nat) : List Int := atF p a 0 l
theorem Fits_e_eq (l : List S47) (i : Int) {p : List Int} (hp : p.length ≤ 1048576) {a : Nat} (ha : a ≤ 1048576) (hx : (rd_T47 l i).f0.length ≤ 1048576) {k : Nat} (hk : (rd_T47 l i).f0.length + 10 ≤ k) : spec_l11Fits_e.f k l i p (a : Int) = some (fits (rd_T47 l i) p a) := by
  unfold spec_l11Fits_e.f fits
  have w1 : wrap64 ((a : Int) + ((rd_T47 l i).f0.length : Int)) = ((a + (rd_T47 l i).f0.length : Nat) : Int) := by rw [wrap_id (by omega) (by omega)]; omega
  rw [w1]
  by_cases h : a + (rd_T47 l i).f0.length ≤ p.length
  · rw [if_neg (by omega), decide_eq_true h, Bool.true_and]
    have hlen : ((p.drop a).take (rd_T47 l i).f0.length).length = (rd_T47 l i).f0.length := by rw [List.length_take, List.length_drop]; omega
    refine eq_loop (fun k j => spec_l11Fits_e.l0 k p (a : Int) j l i) _ (rd_T47 l i).f0 hlen 0 (fun k j hj hj2 hB => ?_) (fun k => ?_) k (by omega)
    · simp only [spec_l11Fits_e.l0]
      have w2 : wrap64 ((a : Int) + (j : Int)) = ((a + j : Nat) : Int) := by rw [wrap_id (by omega) (by omega)]; omega
      have hpj : a + j < p.length := by omega
      rw [if_pos (lt_cast hj2), w2, if_pos (nn_cast _), if_pos (lt_cast hpj), if_pos (nn_cast _), rd_get hpj, rd_get hj2, wrap_succ hj2 (by omega)]
      have e : ((p.drop a).take (rd_T47 l i).f0.length)[j] = p[a + j] := by rw [List.getElem_take, List.getElem_drop]
      rw [e]
    · simp only [spec_l11Fits_e.l0]
      rw [if_neg (by omega)]
  · rw [if_pos (by omega), decide_eq_false h]; rfl
theorem Equal_eq {a b : List Int} (ha : a.length ≤ 1048576) {k : Nat} (hk : a.length + 10 ≤ k) : slices_Equal_S_int64.f k a b = some (decide (a = b)) := by
  unfold slices_Equal_S_int64.f
  by_cases h : a.length = b.length
  · rw [if_pos (by omega)]
    refine eq_loop (fun k j => slices_Equal_S_int64.l0 k a b (a.length : Int) j) a b h 0 (fun k j hj hj2 hB => ?_) (fun k => ?_) k (by omega)
    · simp only [slices_Equal_S_int64.l0]
      rw [if_pos (lt_cast hj), if_pos (nn_cast _), if_pos (lt_cast hj), if_pos (lt_cast hj2), rd_get hj, rd_get hj2, wrap_succ hj (by omega)]
    · simp only [slices_Equal_S_int64.l0]
      rw [if_neg (nlt_cast _)]
  · rw [if_neg (by omega), decide_eq_false (fun e => h (by rw [e]))]
theorem atF_step {p : List Int} {a : Nat} {l : List S47} {i : Nat} (hi : i < l.length) : atF p a (l.length - (l[i] :: l.drop (i + 1)).length) (l[i] :: l.drop (i + 1)) = (if fits l[i] p a = true then (i : Int) :: atF p a (l.length - (l.drop (i + 1)).length) (l.drop (i + 1)) else atF p a (l.length - (l.drop (i + 1)).length) (l.drop (i + 1))) := by
  have e1 : l.length - (l[i] :: l.drop (i + 1)).length = i := by rw [List.length_cons, List.length_drop]; omega
  have e2 : l.length - (l.drop (i + 1)).length = i + 1 := by rw [List.length_drop]; omega
  rw [e1, e2, atF]
theorem l11At_eq {l : List S47} (hl : l.length ≤ 1048576) (hx : ∀ x ∈ l, x.f0.length ≤ 1000) {p : List Int} (hp : p.length ≤ 1048576) {a : Nat} (ha : a ≤ 1048576) {k : Nat} (hk : l.length + 1020 ≤ k) : spec_l11At.f k l p (a : Int) = some (atB l p a) := by
  unfold spec_l11At.f atB
  refine (list_loop (fun k s i => spec_l11At.l0 k l p (a : Int) s i) l (fun r s => s ++ atF p a (l.length - r.length) r) (fun i s => s.length ≤ i) 1010 (fun k i hi s hI hB => ?_) (fun k s hI => ?_) k [] (by omega) (by simp)).trans (by simp)
  · right
    have hxi := hx l[i] (List.getElem_mem hi)
    simp only [spec_l11At.l0]
    rw [if_pos (lt_cast hi), if_pos (nn_cast i), Fits_e_eq l (i : Int) hp ha (by rw [rd_iPattern hi]; omega) (by rw [rd_iPattern hi]; omega), rd_iPattern hi, wrap_succ hi (by omega), atF_step hi]
    simp only [Option.bind_some]
    by_cases h : fits l[i] p a = true
    · rw [if_pos h, if_pos h, if_pos (show s.length < 17592186044416 by omega)]
      exact ⟨s ++ [(i : Int)], by simp; omega, by rw [List.append_assoc]; rfl, rfl⟩
    · rw [if_neg h, if_neg h]
      exact ⟨s, by omega, rfl, rfl⟩
  · simp only [spec_l11At.l0]
    rw [if_neg (nlt_cast _)]; simp [atF]
theorem patternsAt_eq {l : List S47} (hl : l.length ≤ 1048576) (hx : ∀ x ∈ l, x.f0.length ≤ 1000) {p : List Int} (_ : p.length ≤ 1048576) {a : Nat} (ha : a ≤ 1048576) {k : Nat} (hk : l.length + 1020 ≤ k) : impl_patternsAt.f k l p (a : Int) = some (atB l p a) := by
  unfold impl_patternsAt.f atB
  refine (list_loop (fun k s i => impl_patternsAt.l0 k p (a : Int) s l (l.length : Int) i) l (fun r s => s ++ atF p a (l.length - r.length) r) (fun i s => s.length ≤ i) 1010 (fun k i hi s hI hB => ?_) (fun k s hI => ?_) k [] (by omega) (by simp)).trans (by simp)
  · right
    have hxi := hx l[i] (List.getElem_mem hi)
    have w1 : wrap64 ((a : Int) + (l[i].f0.length : Int)) = ((a + l[i].f0.length : Nat) : Int) := by rw [wrap_id (by omega) (by omega)]; omega
    simp only [impl_patternsAt.l0]
    rw [if_pos (lt_cast hi), if_pos (nn_cast i), if_pos (lt_cast hi), rd_iPattern hi, w1, wrap_succ hi (by omega), atF_step hi]
    unfold fits
    by_cases h : a + l[i].f0.length ≤ p.length
    · have e : (p.take ((a + l[i].f0.length : Nat) : Int).toNat).drop ((a : Nat) : Int).toNat = (p.drop a).take l[i].f0.length := by
        rw [Int.toNat_natCast, Int.toNat_natCast, List.drop_take, show a + l[i].f0.length - a = l[i].f0.length by omega]
      have hlen : ((p.drop a).take l[i].f0.length).length ≤ 1000 := by rw [List.length_take]; omega
      rw [if_pos (show (((a + l[i].f0.length : Nat) : Int) ≤ (p.length : Int)) by omega), if_pos (nn_cast a), if_pos (show (a : Int) ≤ ((a + l[i].f0.length : Nat) : Int) by omega), e, Equal_eq (by omega) (by omega), decide_eq_true h, Bool.true_and]
      simp only [Option.bind_some]
      by_cases h2 : (p.drop a).take l[i].f0.length = l[i].f0
      · rw [decide_eq_true h2, if_pos rfl, if_pos rfl, if_pos (show s.length < 17592186044416 by omega)]
        exact ⟨s ++ [(i : Int)], by simp; omega, by rw [List.append_assoc]; rfl, rfl⟩
      · rw [decide_eq_false h2, if_neg (by decide), if_neg (by decide)]
        exact ⟨s, by omega, rfl, rfl⟩
    · rw [if_neg (show ¬ (((a + l[i].f0.length : Nat) : Int) ≤ (p.length : Int)) by omega), decide_eq_false h, Bool.false_and, if_neg (by decide)]
      exact ⟨s, by omega, rfl, rfl⟩
  · simp only [impl_patternsAt.l0]
    rw [if_neg (nlt_cast _)]; simp [atF]
theorem mem_atF {p : List Int} {a : Nat} : ∀ (l : List S47) (n : Nat) (z : Int), z ∈ atF p a n l ↔ ∃ j, ∃ h : j < l.length, z = ((n + j : Nat) : Int) ∧ fits l[j] p a = true
  | [], n, z => by simp [atF]
  | x :: r, n, z => by
    have ih := mem_atF (p := p) (a := a) r (n + 1) z
    rw [atF]
    have key : (∃ j, ∃ h : j < (x :: r).length, z = ((n + j : Nat) : Int) ∧ fits (x :: r)[j] p a = true) ↔ (z = (n : Int) ∧ fits x p a = true) ∨ ∃ j, ∃ h : j < r.length, z = ((n + 1 + j : Nat) : Int) ∧ fits r[j] p a = true := by
      constructor
      · rintro ⟨j, h, e, f⟩
        cases j with
        | zero => exact .inl ⟨by simpa using e, by simpa using f⟩
        | succ j => exact .inr ⟨j, by simpa using h, by rw [e]; congr 1; omega, by simpa using f⟩
      · rintro (⟨e, f⟩ | ⟨j, h, e, f⟩)
        · exact ⟨0, by simp, by simpa using e, by simpa using f⟩
        · exact ⟨j + 1, by simpa using h, by rw [e]; congr 1; omega, by simpa using f⟩
    rw [key]
    by_cases h : fits x p a = true
    · rw [if_pos h, List.mem_cons, ih]
      simp [h]
    · rw [if_neg h, ih]
      simp [h]
theorem mem_atB {l : List S47} {p : List Int} {a : Nat} {z : Int} : z ∈ atB l p a ↔ ∃ j, ∃ h : j < l.length, z = (j : Int) ∧ fits l[j] p a = true := by
  unfold atB; rw [mem_atF]; simp
theorem fits_le {x : S47} {p : List Int} {a : Nat} (h : fits x p a = true) : a + x.f0.length ≤ p.length := by
  unfold fits at h; simp only [Bool.and_eq_true, decide_eq_true_iff] at h; exact h.1
theorem atF_length {p : List Int} {a : Nat} : ∀ (l : List S47) (n : Nat), (atF p a n l).length ≤ l.length
  | [], n => by simp [atF]
  | x :: r, n => by
    have := atF_length (p := p) (a := a) r (n + 1)
    rw [atF]; split <;> simp <;> omega
/-! ### the codes -/
def pitsB (p : List Int) : Bool := p.all pitchB && decide (p.length ≤ 64)
def askP (l : List S47) (p : List Int) : Int := if patsB l = true then (if pitsB p = true then 0 else 7) else 1
def placeP (l : List S47) (p : List Int) (a : Int) : Int := if patsB l = true then (if 0 ≤ a ∧ a ≤ (p.length : Int) then (if pitsB p = true then 0 else 7) else 2) else 1
theorem l11Ask_eq {l : List S47} (hl : l.length ≤ 1048576) {p : List Int} (hp : p.length ≤ 1048576) {k : Nat} (hk : 1048700 ≤ k) : spec_l11Ask.f k l p = some (askP l p) := by
  unfold spec_l11Ask.f askP
  rw [l11Ok_eq hl (by omega)]; simp only [Option.bind_some]
  by_cases h : patsB l = true
  · rw [if_pos h, if_pos h, l05Pitches_eq hp (by omega)]; simp only [Option.bind_some]
    unfold pitsB
    split <;> rfl
  · rw [if_neg h, if_neg h]
theorem l11Place_eq {l : List S47} (hl : l.length ≤ 1048576) {p : List Int} (hp : p.length ≤ 1048576) (a : Int) {k : Nat} (hk : 1048700 ≤ k) : spec_l11Place.f k l p a = some (placeP l p a) := by
  unfold spec_l11Place.f placeP
  rw [l11Ask_eq hl hp hk]; simp only [Option.bind_some]
  unfold askP
  by_cases h : patsB l = true
  · rw [if_pos h, if_pos h, l00In_eq]; simp only [Option.bind_some]
    have h1 : ¬ (if pitsB p = true then (0 : Int) else 7) = 1 := by split <;> decide
    rw [if_neg h1]
    by_cases hr : 0 ≤ a ∧ a ≤ (p.length : Int)
    · rw [if_pos (by simp [hr.1, hr.2]), if_pos hr]
    · rw [if_neg (by simp; omega), if_neg hr]
  · rw [if_neg h, if_neg h, if_pos rfl]
theorem pitchesOk_eq (p : List Int) : impl_pitchesOk.f p = some (pitsB p) := by
  unfold impl_pitchesOk.f pitsB impl_allWithin.f
  have e : (!(p.any (impl_allWithin.p (-12) 23))) = p.all pitchB := by
    rw [List.not_any_eq_all_not]
    congr 1; funext n; unfold impl_allWithin.p pitchB
    cases decide (-12 ≤ n) <;> cases decide (n ≤ 23) <;> rfl
  rw [e]
  by_cases h : p.length ≤ 64
  · rw [if_pos (by omega), decide_eq_true h, Bool.and_true]; rfl
  · rw [if_neg (by omega), decide_eq_false h, Bool.and_false]
theorem parseCode_eq (l : List S47) (p : List Int) (a : Int) {k : Nat} (hk : 10 ≤ k) : impl_parseCode.f k l p a 0 = some (placeP l p a) := by
  obtain ⟨k, rfl⟩ : ∃ m, k = m + 1 := ⟨k - 1, by omega⟩
  unfold impl_parseCode.f placeP
  rw [ValidPatterns_eq]; simp only [Option.bind_some]
  by_cases h : patsB l = true
  · rw [if_pos h, if_pos h, impl_allWithin.within, impl_allWithin.within]; simp only [Option.bind_some]
    by_cases hr : 0 ≤ a ∧ a ≤ (p.length : Int)
    · rw [if_pos (by simp [hr.1, hr.2]), if_pos hr]
      simp only [impl_parseCode.j0]
      rw [if_neg (by decide), pitchesOk_eq]; simp only [Option.bind_some]
      split <;> rfl
    · rw [if_neg (by simp; omega), if_neg hr]
      simp only [impl_parseCode.j0, if_true]
  · rw [if_neg h, if_neg h]
theorem place_zero (l : List S47) (p : List Int) : placeP l p 0 = askP l p := by
  unfold placeP askP
  rw [if_pos (show (0 : Int) ≤ 0 ∧ (0 : Int) ≤ (p.length : Int) by omega)]
theorem pats_len {l : List S47} (h : patsB l = true) : l.length ≤ 12 := by
  unfold patsB at h; simp only [Bool.and_eq_true, decide_eq_true_iff] at h; exact h.2
theorem pats_each {l : List S47} (h : patsB l = true) : ∀ x ∈ l, 1 ≤ x.f0.length ∧ x.f0.length ≤ 8 ∧ 0 ≤ x.f1 ∧ x.f1 ≤ 1000 := by
  unfold patsB at h; simp only [Bool.and_eq_true, List.all_eq_true] at h
  intro x hx
  have := h.1 x hx
  unfold patB at this
  simp only [Bool.and_eq_true, decide_eq_true_iff] at this
  exact ⟨this.1.1.1, this.1.1.2, this.2.1, this.2.2⟩
theorem pits_len {p : List Int} (h : pitsB p = true) : p.length ≤ 64 := by
  unfold pitsB at h; simp only [Bool.and_eq_true, decide_eq_true_iff] at h; exact h.2
theorem place_ok {l : List S47} {p : List Int} {a : Int} (h : placeP l p a = 0) : patsB l = true ∧ pitsB p = true ∧ 0 ≤ a ∧ a ≤ (p.length : Int) := by
  unfold placeP at h
  by_cases h1 : patsB l = true
  · rw [if_pos h1] at h
    by_cases h2 : 0 ≤ a ∧ a ≤ (p.length : Int)
    · rw [if_pos h2] at h
      by_cases h3 : pitsB p = true
      · exact ⟨h1, h3, h2.1, h2.2⟩
      · rw [if_neg h3] at h; exact absurd h (by decide)
    · rw [if_neg h2] at h; exact absurd h (by decide)
  · rw [if_neg h1] at h; exact absurd h (by decide)
structure ParseOk (l : List S47) (p : List Int) : Prop where
  l12 : l.length ≤ 12
  p64 : p.length ≤ 64
  each : ∀ x ∈ l, 1 ≤ x.f0.length ∧ x.f0.length ≤ 8 ∧ 0 ≤ x.f1 ∧ x.f1 ≤ 1000
theorem parse_ok {l : List S47} {p : List Int} {a : Int} (h : placeP l p a = 0) : ParseOk l p :=
  have h' := place_ok h
  ⟨pats_len h'.1, pits_len h'.2.1, pats_each h'.1⟩
theorem ParseOk.short {l : List S47} {p : List Int} (h : ParseOk l p) : ∀ x ∈ l, x.f0.length ≤ 1000 := fun x hx => by have := h.each x hx; omega
/-- The length of the pattern with a number. -/
def lenOf (l : List S47) (z : Int) : Int := ((rd_T47 l z).f0.length : Int)
theorem at_mem {l : List S47} {p : List Int} (hok : ParseOk l p) {a : Nat} {z : Int} (h : z ∈ atB l p a) : 0 ≤ z ∧ z < (l.length : Int) ∧ 1 ≤ lenOf l z ∧ (a : Int) + lenOf l z ≤ (p.length : Int) := by
  obtain ⟨j, hj, rfl, hf⟩ := mem_atB.1 h
  have h1 := fits_le hf
  have h2 := hok.each l[j] (List.getElem_mem hj)
  unfold lenOf
  rw [rd_iPattern hj]
  omega
end Go.Proofs.Ytihphgiopjiohaa.P

/- The longest known stretch: the reference keeps the greatest place reached, the program the last known place. -/
namespace Go.Proofs.Ytihphgiopjiohaa.P
open Go.RowKit Go.Proofs.YtihphgiopjiohaaW.PrintWords Go.Proofs.YtihphgiopjiohaaL
def rb (R : List Bool) (j : Nat) : Bool := rdOf false R (j : Int)
def lenN (l : List S47) (z : Int) : Nat := (rd_T47 l z).f0.length
def markR (l : List S47) (i : Nat) (R : List Bool) (z : Int) : List Bool := R.set (i + lenN l z) true
def maxR (l : List S47) (i : Nat) (m : Int) (z : Int) : Int := if m > (i : Int) + (lenN l z : Int) then m else (i : Int) + (lenN l z : Int)
def sK (l : List S47) (p : List Int) : Nat → Nat → List Bool → Int → Int
  | 0, _, _, m => m
  | d + 1, i, R, m => if rb R i = true then sK l p d (i + 1) ((atB l p i).foldl (markR l i) R) ((atB l p i).foldl (maxR l i) m) else sK l p d (i + 1) R m
def iK (l : List S47) (p : List Int) : Nat → Nat → List Bool → Int → Int
  | 0, _, _, m => m
  | d + 1, i, R, m => if rb R i = true then iK l p d (i + 1) ((atB l p i).foldl (markR l i) R) (i : Int) else iK l p d (i + 1) R m
theorem rb_set {R : List Bool} {n j : Nat} (hn : n < R.length) : rb (R.set n true) j = true ↔ j = n ∨ rb R j = true := by
  unfold rb rdOf
  rw [Int.toNat_natCast, List.getD_eq_getElem?_getD, List.getD_eq_getElem?_getD, List.getElem?_set]
  by_cases h : n = j
  · subst h; simp [hn]
  · rw [if_neg h]
    constructor
    · exact .inr
    · rintro (e | h2)
      · exact absurd e.symm h
      · exact h2
theorem marks_len (l : List S47) (i : Nat) : ∀ (S : List Int) (R : List Bool), (S.foldl (markR l i) R).length = R.length
  | [], _ => rfl
  | z :: r, R => by rw [List.foldl_cons, marks_len l i r]; unfold markR; simp
theorem marks_rb (l : List S47) (i : Nat) : ∀ (S : List Int) (R : List Bool) (_ : ∀ z ∈ S, i + lenN l z < R.length) (j : Nat), rb (S.foldl (markR l i) R) j = true ↔ rb R j = true ∨ ∃ z ∈ S, j = i + lenN l z
  | [], R, _, j => by simp
  | z :: r, R, h, j => by
    have hz := h z List.mem_cons_self
    rw [List.foldl_cons, marks_rb l i r (markR l i R z) (fun y hy => by unfold markR; rw [List.length_set]; exact h y (List.mem_cons_of_mem _ hy)) j]
    unfold markR
    rw [rb_set hz]
    constructor
    · rintro ((e | h1) | ⟨y, hy, e⟩)
      · exact .inr ⟨z, List.mem_cons_self, e⟩
      · exact .inl h1
      · exact .inr ⟨y, List.mem_cons_of_mem _ hy, e⟩
    · rintro (h1 | ⟨y, hy, e⟩)
      · exact .inl (.inr h1)
      · rcases List.mem_cons.1 hy with e2 | hy
        · subst e2; exact .inl (.inl e)
        · exact .inr ⟨y, hy, e⟩
theorem max_spec (l : List S47) (i : Nat) : ∀ (S : List Int) (m : Int), m ≤ S.foldl (maxR l i) m ∧ (∀ z ∈ S, (i : Int) + (lenN l z : Int) ≤ S.foldl (maxR l i) m) ∧ (S.foldl (maxR l i) m = m ∨ ∃ z ∈ S, S.foldl (maxR l i) m = (i : Int) + (lenN l z : Int))
  | [], m => ⟨Int.le_refl _, by simp, .inl rfl⟩
  | z :: r, m => by
    obtain ⟨h1, h2, h3⟩ := max_spec l i r (maxR l i m z)
    rw [List.foldl_cons]
    have ha : m ≤ maxR l i m z ∧ (i : Int) + (lenN l z : Int) ≤ maxR l i m z ∧ (maxR l i m z = m ∨ maxR l i m z = (i : Int) + (lenN l z : Int)) := by
      unfold maxR; split <;> omega
    refine ⟨by omega, fun y hy => ?_, ?_⟩
    · rcases List.mem_cons.1 hy with e | hy
      · subst e; omega
      · exact h2 y hy
    · rcases h3 with e | ⟨y, hy, e⟩
      · rcases ha.2.2 with e2 | e2
        · exact .inl (by rw [e, e2])
        · exact .inr ⟨z, List.mem_cons_self, by rw [e, e2]⟩
      · exact .inr ⟨y, List.mem_cons_of_mem _ hy, e⟩
theorem known_same {l : List S47} {p : List Int} (hok : ParseOk l p) : ∀ (d i : Nat) (R : List Bool) (m g : Int), i + d = p.length → R.length = p.length + 1 → 0 ≤ m → m ≤ (p.length : Int) → (∀ j, rb R j = true → (j : Int) ≤ m) → rb R m.toNat = true → (m < (i : Int) → g = m) → sK l p d i R m = iK l p (d + 1) i R g := by
  intro d
  induction d with
  | zero =>
    intro i R m g hi hR h0 hn hle hm hg
    rw [sK, iK, iK, iK]
    by_cases h : rb R i = true
    · rw [if_pos h]; have := hle i h; omega
    · rw [if_neg h]
      by_cases e : m = (i : Int)
      · subst e; rw [Int.toNat_natCast] at hm; exact absurd hm h
      · exact (hg (by omega)).symm
  | succ d ih =>
    intro i R m g hi hR h0 hn hle hm hg
    rw [sK, iK]
    by_cases h : rb R i = true
    · rw [if_pos h, if_pos h]
      obtain ⟨m1, m2, m3⟩ := max_spec l i (atB l p i) m
      have him := hle i h
      have hz : ∀ z ∈ atB l p i, 1 ≤ lenN l z ∧ i + lenN l z ≤ p.length := fun z hz => by
        have := at_mem hok hz; unfold lenOf at this; unfold lenN; omega
      have hz' : ∀ z ∈ atB l p i, i + lenN l z < R.length := fun z h1 => by have := hz z h1; omega
      refine ih (i + 1) _ _ _ (by omega) (by rw [marks_len]; exact hR) (by omega) ?_ (fun j hj => ?_) ?_ (fun hlt => by omega)
      · rcases m3 with e | ⟨z, h1, e⟩
        · rw [e]; exact hn
        · have := hz z h1; omega
      · rcases (marks_rb l i _ R hz' j).1 hj with h1 | ⟨z, h1, e⟩
        · have := hle j h1; omega
        · have := m2 z h1; omega
      · rw [marks_rb l i _ R hz']
        rcases m3 with e | ⟨z, h1, e⟩
        · rw [e]; exact .inl hm
        · exact .inr ⟨z, h1, by rw [e]; omega⟩
    · rw [if_neg h, if_neg h]
      refine ih (i + 1) R m g (by omega) hR h0 hn hle hm (fun hlt => hg ?_)
      by_cases e : m = (i : Int)
      · subst e; rw [Int.toNat_natCast] at hm; exact absurd hm h
      · omega
/-! ### the loops -/
theorem spec_k_step {l : List S47} {p S : List Int} {R : List Bool} {a n m : Int} {i q k d : Nat} {z : Int} (hq : q < S.length) (hz : S[q] = z) (m1 : 0 ≤ z) (m2 : z < (l.length : Int)) (hd : (rd_T47 l z).f0.length = d) (h1 : i + d < R.length) (hR : R.length ≤ 1000) (hS : S.length ≤ 12) : spec_LongestKnown.l1 (k + 1) l p a n R m (i : Int) S (q : Int) = spec_LongestKnown.l1 k l p a n (R.set (i + d) true) (if m > (i : Int) + (d : Int) then m else (i : Int) + (d : Int)) (i : Int) S ((q + 1 : Nat) : Int) := by
  have w2 : wrap64 ((i : Int) + (d : Int)) = ((i + d : Nat) : Int) := by rw [wrap_id (by omega) (by omega)]; omega
  have ws : wrap64 ((q : Int) + 1) = ((q + 1 : Nat) : Int) := wrap_succ hq (by omega)
  have e : ((i + d : Nat) : Int) = (i : Int) + (d : Int) := by omega
  simp only [spec_LongestKnown.l1]
  rw [if_pos (lt_cast hq), if_pos (nn_cast q), rd_get hq, hz, if_pos m1, if_pos m2, hd, w2, if_pos (nn_cast _), if_pos (lt_cast h1), ws, Int.toNat_natCast, e]
  unfold spec_l00Max.f
  by_cases h : m > (i : Int) + (d : Int)
  · rw [if_pos h, if_pos h]; rfl
  · rw [if_neg h, if_neg h]; rfl
theorem impl_k_step {l : List S47} {p S : List Int} {R : List Bool} {a g : Int} {i q k d : Nat} {z : Int} (hq : q < S.length) (hz : S[q] = z) (m1 : 0 ≤ z) (m2 : z < (l.length : Int)) (hd : (rd_T47 l z).f0.length = d) (h1 : i + d < R.length) (hR : R.length ≤ 1000) (hS : S.length ≤ 12) : impl_LongestKnown.l1 (k + 1) l p a R g (i : Int) S (S.length : Int) (q : Int) = impl_LongestKnown.l1 k l p a (R.set (i + d) true) g (i : Int) S (S.length : Int) ((q + 1 : Nat) : Int) := by
  have w2 : wrap64 ((i : Int) + (d : Int)) = ((i + d : Nat) : Int) := by rw [wrap_id (by omega) (by omega)]; omega
  have ws : wrap64 ((q : Int) + 1) = ((q + 1 : Nat) : Int) := wrap_succ hq (by omega)
  simp only [impl_LongestKnown.l1]
  rw [if_pos (lt_cast hq), if_pos (nn_cast q), if_pos (lt_cast hq), rd_get hq, hz, if_pos m1, if_pos m2, hd, w2, if_pos (nn_cast _), if_pos (lt_cast h1), ws, Int.toNat_natCast]
theorem spec_k {l : List S47} {p : List Int} (hok : ParseOk l p) (a : Int) : ∀ (d i k : Nat) (R : List Bool) (m : Int), i + d = p.length → R.length = p.length + 1 → 2000 + 100 * d ≤ k → spec_LongestKnown.l0 k l p a (p.length : Int) R m (i : Int) = some (wrap64 (sK l p d i R m - a), 0) := by
  intro d
  induction d with
  | zero =>
    intro i k R m hi hR hk
    obtain ⟨k, rfl⟩ : ∃ m, k = m + 1 := ⟨k - 1, by omega⟩
    simp only [spec_LongestKnown.l0]
    rw [if_neg (by omega), sK]
  | succ d ih =>
    intro i k R m hi hR hk
    have hl := hok.l12
    have hp := hok.p64
    obtain ⟨k, rfl⟩ : ∃ m, k = m + 1 := ⟨k - 1, by omega⟩
    have hiR : i < R.length := by omega
    have ws : wrap64 ((i : Int) + 1) = ((i + 1 : Nat) : Int) := wrap_succ hiR (by omega)
    have hlen' : (atB l p i).length ≤ 12 := Nat.le_trans (atF_length (p := p) (a := i) l 0) hl
    simp only [spec_LongestKnown.l0]
    rw [if_pos (show (i : Int) < (p.length : Int) by omega), if_pos (nn_cast i), if_pos (lt_cast hiR), sK]
    by_cases h : rb R i = true
    · have h' : rdOf false R (i : Int) = true := h
      rw [if_pos h', if_pos h, l11At_eq (by omega) hok.short (by omega) (by omega) (by omega), Option.bind_some]
      refine list_loopV (fun k (s : List Bool × Int) q => spec_LongestKnown.l1 k l p a (p.length : Int) s.1 s.2 (i : Int) (atB l p i) q) (atB l p i) (fun r s => (wrap64 (sK l p d (i + 1) (r.foldl (markR l i) s.1) (r.foldl (maxR l i) s.2) - a), (0 : Int))) (fun _ s => s.1.length = p.length + 1) (2000 + 100 * d) 1 (fun k q hq s hI hB => ?_) (fun k s hI hB => ?_) k (R, m) (by omega) hR
      · right
        have hm := at_mem hok (List.getElem_mem hq)
        have hI' : s.1.length = p.length + 1 := hI
        have hL := spec_k_step (l := l) (p := p) (S := atB l p i) (R := s.1) (a := a) (n := (p.length : Int)) (m := s.2) (i := i) (q := q) (k := k) hq rfl hm.1 hm.2.1 rfl (by have := hm.2.2.2; unfold lenOf at this; rw [hI']; generalize (rd_T47 l (atB l p i)[q]).f0.length = d at this ⊢; clear hm; omega) (by rw [hI']; omega) hlen'
        exact ⟨(markR l i s.1 (atB l p i)[q], maxR l i s.2 (atB l p i)[q]), k, Nat.le_refl _, by unfold markR; simpa using hI', by rw [List.foldl_cons, List.foldl_cons], hL⟩
      · have hI' : s.1.length = p.length + 1 := hI
        show spec_LongestKnown.l1 (k + 1) l p a (p.length : Int) s.1 s.2 (i : Int) (atB l p i) ((atB l p i).length : Int) = _
        simp only [spec_LongestKnown.l1]
        rw [if_neg (nlt_cast _), ws, ih (i + 1) k s.1 s.2 (by omega) hI' (by omega)]; rfl
    · have h' : ¬ rdOf false R (i : Int) = true := h
      rw [if_neg h', if_neg h, ws]
      exact ih (i + 1) k R m (by omega) hR (by omega)
theorem impl_k {l : List S47} {p : List Int} (hok : ParseOk l p) (a : Int) : ∀ (d i k : Nat) (R : List Bool) (g : Int), i + d = p.length + 1 → R.length = p.length + 1 → 2000 + 100 * d ≤ k → impl_LongestKnown.l0 k l p a R g (i : Int) = some (wrap64 (iK l p d i R g - a), 0) := by
  intro d
  induction d with
  | zero =>
    intro i k R g hi hR hk
    obtain ⟨k, rfl⟩ : ∃ m, k = m + 1 := ⟨k - 1, by omega⟩
    simp only [impl_LongestKnown.l0]
    rw [if_neg (by omega), iK]
  | succ d ih =>
    intro i k R g hi hR hk
    have hl := hok.l12
    have hp := hok.p64
    obtain ⟨k, rfl⟩ : ∃ m, k = m + 1 := ⟨k - 1, by omega⟩
    have hiR : i < R.length := by omega
    have ws : wrap64 ((i : Int) + 1) = ((i + 1 : Nat) : Int) := wrap_succ hiR (by omega)
    have hlen' : (atB l p i).length ≤ 12 := Nat.le_trans (atF_length (p := p) (a := i) l 0) hl
    simp only [impl_LongestKnown.l0]
    rw [if_pos (show (i : Int) ≤ (p.length : Int) by omega), if_pos (nn_cast i), if_pos (lt_cast hiR), iK]
    by_cases h : rb R i = true
    · have h' : rdOf false R (i : Int) = true := h
      rw [if_pos h', if_pos h, patternsAt_eq (by omega) hok.short (by omega) (by omega) (by omega), Option.bind_some]
      refine list_loopV (fun k (s : List Bool) q => impl_LongestKnown.l1 k l p a s (i : Int) (i : Int) (atB l p i) ((atB l p i).length : Int) q) (atB l p i) (fun r s => (wrap64 (iK l p d (i + 1) (r.foldl (markR l i) s) (i : Int) - a), (0 : Int))) (fun _ s => s.length = p.length + 1) (2000 + 100 * d) 1 (fun k q hq s hI hB => ?_) (fun k s hI hB => ?_) k R (by omega) hR
      · right
        have hm := at_mem hok (List.getElem_mem hq)
        have hI' : s.length = p.length + 1 := hI
        have hL := impl_k_step (l := l) (p := p) (S := atB l p i) (R := s) (a := a) (g := (i : Int)) (i := i) (q := q) (k := k) hq rfl hm.1 hm.2.1 rfl (by have := hm.2.2.2; unfold lenOf at this; rw [hI']; generalize (rd_T47 l (atB l p i)[q]).f0.length = d at this ⊢; clear hm; omega) (by rw [hI']; omega) hlen'
        exact ⟨markR l i s (atB l p i)[q], k, Nat.le_refl _, by unfold markR; simpa using hI', by rw [List.foldl_cons], hL⟩
      · have hI' : s.length = p.length + 1 := hI
        show impl_LongestKnown.l1 (k + 1) l p a s (i : Int) (i : Int) (atB l p i) ((atB l p i).length : Int) ((atB l p i).length : Int) = _
        simp only [impl_LongestKnown.l1]
        rw [if_neg (nlt_cast _), ws, ih (i + 1) k s (i : Int) (by omega) hI' (by omega)]; rfl
    · have h' : ¬ rdOf false R (i : Int) = true := h
      rw [if_neg h', if_neg h, ws]
      exact ih (i + 1) k R g (by omega) hR (by omega)
def knownR (p : List Int) (a : Int) : List Bool := (List.replicate (p.length + 1) false).set a.toNat true
theorem LongestKnown_spec {l : List S47} (hl : l.length ≤ 1048576) {p : List Int} (hp : p.length ≤ 1048576) (a : Int) {k : Nat} (hk : 1048700 ≤ k) : spec_LongestKnown.f k l p a = some (if placeP l p a = 0 then (wrap64 (sK l p (p.length - a.toNat) a.toNat (knownR p a) a - a), 0) else (0, placeP l p a)) := by
  unfold spec_LongestKnown.f
  rw [l11Place_eq hl hp a hk, Option.bind_some]
  by_cases h : placeP l p a = 0
  · have hok := parse_ok h
    have hp64 := hok.p64
    obtain ⟨_, _, h0, h1⟩ := place_ok h
    have w1 : wrap64 ((p.length : Int) + 1) = ((p.length + 1 : Nat) : Int) := by rw [wrap_id (by omega) (by omega)]; omega
    have hb : p.length + 1 ≤ 281474976710656 := by omega
    have hlt : a < ((List.replicate (p.length + 1) false).length : Int) := by rw [List.length_replicate]; omega
    rw [if_pos h, if_pos h, w1, if_pos (nn_cast _), Int.toNat_natCast, if_pos hb, Option.bind_some, if_pos h0, if_pos hlt]
    have := spec_k hok a (p.length - a.toNat) a.toNat k (knownR p a) a (by omega) (by unfold knownR; simp) (by omega)
    rw [show ((a.toNat : Nat) : Int) = a by omega] at this
    exact this
  · rw [if_neg h, if_neg h]
theorem LongestKnown_impl {l : List S47} {p : List Int} (a : Int) {k : Nat} (hk : 1048700 ≤ k) : impl_LongestKnown.f k l p a = some (if placeP l p a = 0 then (wrap64 (sK l p (p.length - a.toNat) a.toNat (knownR p a) a - a), 0) else (0, placeP l p a)) := by
  unfold impl_LongestKnown.f
  rw [parseCode_eq l p a (by omega), Option.bind_some]
  by_cases h : placeP l p a = 0
  · have hok := parse_ok h
    have hp64 := hok.p64
    obtain ⟨_, _, h0, h1⟩ := place_ok h
    have w1 : wrap64 ((p.length : Int) + 1) = ((p.length + 1 : Nat) : Int) := by rw [wrap_id (by omega) (by omega)]; omega
    have hb : p.length + 1 ≤ 281474976710656 := by omega
    have hlt : a < ((List.replicate (p.length + 1) false).length : Int) := by rw [List.length_replicate]; omega
    rw [if_pos h, if_pos h, w1, if_pos (nn_cast _), Int.toNat_natCast, if_pos hb, Option.bind_some, if_pos h0, if_pos hlt]
    have := impl_k hok a (p.length - a.toNat + 1) a.toNat k (knownR p a) a (by omega) (by unfold knownR; simp) (by omega)
    rw [show ((a.toNat : Nat) : Int) = a by omega] at this
    refine this.trans ?_
    have hlen : a.toNat < (List.replicate (p.length + 1) false).length := by rw [List.length_replicate]; omega
    have hrb : ∀ j, rb (knownR p a) j = true ↔ j = a.toNat := fun j => by
      unfold knownR
      rw [rb_set hlen]
      have : rb (List.replicate (p.length + 1) false) j = false := by
        unfold rb rdOf
        rw [Int.toNat_natCast, List.getD_eq_getElem?_getD, List.getElem?_replicate]
        split <;> rfl
      rw [this]; simp
    rw [known_same hok (p.length - a.toNat) a.toNat (knownR p a) a a (by omega) (by unfold knownR; simp) h0 h1 (fun j hj => by rw [(hrb j).1 hj]; omega) ((hrb _).2 rfl) (fun _ => rfl)]
  · rw [if_neg h, if_neg h]
end Go.Proofs.Ytihphgiopjiohaa.P

/- The plain law behind FnExactLongestKnown: the reference and the program answer the same, and the copies stay. Conditions: none beyond the kinds' own bounds. -/
namespace Go.Proofs.Ytihphgiopjiohaa.Pure
open Go.RowKit Go.Proofs.YtihphgiopjiohaaW.PrintWords Go.Proofs.YtihphgiopjiohaaL Go.Proofs.Ytihphgiopjiohaa.P
theorem FnExactLongestKnown : ∀ (x0 : List (P.S46)) (x1 : List Int) (x2 : Int), (x0.length ≤ maxLen ∧ ∀ y ∈ x0, g46 y) → (x1.length ≤ maxLen ∧ ∀ y ∈ x1, (Lit.int .i64 y).wf = true) → (Lit.int .i64 x2).wf = true → ∃ k : Nat, P.laws_FnExactLongestKnown.f k x0 x1 x2 = some true := by
  intro x0 x1 x2 ⟨hl0, hg0⟩ _ _
  refine ⟨3000000, ?_⟩
  unfold laws_FnExactLongestKnown.f
  by_cases hsx1 : (x1.length : Int) > 1048576
  · rw [if_pos hsx1]
  rw [if_neg hsx1]
  have hx1 : x1.length ≤ 1048576 := by omega
  obtain ⟨r, hr, h⟩ := szPatternS_some hl0 hg0 (a := 1048576) (by omega) (by omega) (k := 3000000) (by omega)
  rw [hr]; simp only [Option.bind_some]
  by_cases h0 : r < 0
  · rw [if_pos h0]
  rw [if_neg h0]
  obtain ⟨_, _, z0, s0⟩ := h.resolve_left h0
  have hz : (x0.map cPattern).length ≤ 1048576 := by simpa using z0
  have hT : ∀ k, 2097200 ≤ k → laws_toPatternS.f k x0 = some (x0.map cPattern) := fun k hk => toPatternS_eq z0 s0 (by omega)
  have hE : ∀ k, 2097200 ≤ k → laws_eqPatternS.f k (x0.map cPattern) (x0.map cPattern) = some true := fun k hk => by rw [eqPatternS_eq hz (smi_pats s0) (by omega)]; simp
  rw [hT _ (by omega)]
  simp only [Option.bind_some]
  generalize x0.map cPattern = l at hz hT hE ⊢
  rw [toInt64S_eq hx1 (by omega)]; simp only [Option.bind_some]
  obtain ⟨v, hS, hI⟩ : ∃ v, (∀ k, 2990000 ≤ k → spec_LongestKnown.f k l x1 x2 = some v) ∧ (∀ k, 2990000 ≤ k → impl_LongestKnown.f k l x1 x2 = some v) :=
    ⟨_, fun k hk => LongestKnown_spec hz hx1 x2 (by omega), fun k hk => LongestKnown_impl x2 (by omega)⟩
  rw [hS _ (by omega)]
  simp only [Option.bind_some]
  rw [hI _ (by omega)]
  simp only [Option.bind_some, if_true, laws_FnExactLongestKnown.j0, bne_self_eq_false, Bool.false_eq_true, if_false]
  rw [hT _ (by omega)]; simp only [Option.bind_some]
  rw [hE _ (by omega)]; simp only [Option.bind_some, if_true]
  rw [toInt64S_eq hx1 (by omega)]; simp only [Option.bind_some]
  rw [eqInt64S_eq hx1 (by omega)]; simp
end Go.Proofs.Ytihphgiopjiohaa.Pure
