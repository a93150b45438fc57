/- Part c of what FnExactIsParse stands on: functions of the program as Lean functions with their walks, and plain lemmas. -/
import Derived.Test.YtihphgiopjiohaaK
import Derived.Test.YtihphgiopjiohaaBFnExactIsParsea
import Derived.Test.YtihphgiopjiohaaBFnExactIsParseb
/- spec_l11At: what it answers, and that the machine's call comes to it. -/
namespace Go.Proofs.Ytihphgiopjiohaa.P
open Go.RowKit Go.Proofs.YtihphgiopjiohaaW.PrintWords Go.Proofs.YtihphgiopjiohaaW.PrintLast Go.Proofs.YtihphgiopjiohaaW.PrintMore
attribute [local go_sem] max2_int min2_int max_two min_two max_three min_three max_four min_four str_leq str_gtr str_geq
set_option linter.unusedVariables false
set_option linter.unusedSimpArgs false

/-! ### spec_l11At: function 46 -/
def spec_l11At.l0 : Nat → List (S47) → List Int → Int → List Int → Int → Option (List Int)
  | 0, _, _, _, _, _ => none
  | k + 1, x0, x1, x2, x7, x8 => if x8 < (x0.length : Int) then (if 0 ≤ x8 then ((spec_l11Fits_e.f k x0 x8 x1 x2).bind fun t105 => (if t105 = true then (if x7.length < 17592186044416 then (spec_l11At.l0 k x0 x1 x2 (x7 ++ [x8]) (wrap64 (x8 + 1))) else (none)) else (spec_l11At.l0 k x0 x1 x2 x7 (wrap64 (x8 + 1))))) else (none)) else (some x7)
def spec_l11At.f (k : Nat) (l0 : List (S47)) (l1 : List Int) (a2 : Int) : Option (List Int) := spec_l11At.l0 k l0 l1 a2 (([] : List Int)) 0
theorem spec_l11At.mono_l : ∀ k, (∀ y0 y1 y2 y3 y4, LeO (spec_l11At.l0 k y0 y1 y2 y3 y4) (spec_l11At.l0 (k + 1) y0 y1 y2 y3 y4))
  | 0 => fun _ _ _ _ _ r h => by simp [spec_l11At.l0] at h
  | k + 1 => by
    have ih0 := spec_l11At.mono_l k
    · intro y0 y1 y2 y3 y4
      unfold spec_l11At.l0
      repeat' first
      | (with_reducible exact ih0 _ _ _ _ _)
      | (with_reducible exact spec_l11Fits_e.mono _ _ _ _ _)
      | (with_reducible exact LeO.refl _)
      | (with_reducible exact LeO.none _)
      | (with_reducible refine LeO.ite ?_ ?_)
      | (with_reducible refine LeO.bind ?_ (fun _ => ?_))
      | exact ih0 _ _ _ _ _
      | exact spec_l11Fits_e.mono _ _ _ _ _
      | exact LeO.none _
      | refine LeO.ite ?_ ?_
      | refine LeO.bind ?_ (fun _ => ?_)
theorem spec_l11At.mono : ∀ a0 a1 a2 k, LeO (spec_l11At.f k a0 a1 a2) (spec_l11At.f (k + 1) a0 a1 a2) := by
  intro a0 a1 a2 k
  have ih0 := spec_l11At.mono_l k
  unfold spec_l11At.f
  repeat' first
      | (with_reducible exact ih0 _ _ _ _ _)
      | (with_reducible exact spec_l11Fits_e.mono _ _ _ _ _)
      | (with_reducible exact LeO.refl _)
      | (with_reducible exact LeO.none _)
      | (with_reducible refine LeO.ite ?_ ?_)
      | (with_reducible refine LeO.bind ?_ (fun _ => ?_))
      | exact ih0 _ _ _ _ _
      | exact spec_l11Fits_e.mono _ _ _ _ _
      | exact LeO.none _
      | refine LeO.ite ?_ ?_
      | refine LeO.bind ?_ (fun _ => ?_)
set_option maxHeartbeats 8000000 in
set_option maxRecDepth 100000 in
theorem spec_l11At.calls (k : Nat) (A0 : Option Addr) (c0 : Nat) (l0 : List (S47)) (A1 : Option Addr) (c1 : Nat) (l1 : List Int) (a2 : Int) (r : List Int) (w : World) (hr0 : Kd.C k47 w A0 l0.length l0) (hc0 : l0.length ≤ c0) (hr1 : Kd.C (Kd.int .i64) w A1 l1.length l1) (hc1 : l1.length ≤ c1) (h : spec_l11At.f k l0 l1 a2 = some r) :
    Calls Try.prog 46 #[.slice A0 l0.length c0, .slice A1 l1.length c1, .int .i64 a2] w fun e w' => ∃ v0_ : Value, e = .returned (v0_) ∧ Kd.R (Kd.int .i64) 2 w' w.heap.size (fun _ => True) v0_ r ∧ Below w.heap.size w w' := by
  have HR0 := Aside0.mk hr0
  have HC0 := Aside0.mk hc0
  clear hr0 hc0
  have HR1 := Aside0.mk hr1
  have HC1 := Aside0.mk hc1
  clear hr1 hc1
  have HB := Aside0.mk (Below.refl w.heap.size w)
  have H : (spec_l11At.l0 k l0 l1 a2 (([] : List Int)) 0) = some r := h
  clear h
  obtain ⟨y101, hy101⟩ : ∃ y_ : List Int, y_ = (([] : List Int)) := ⟨_, rfl⟩
  replace H : (spec_l11At.l0 k l0 l1 a2 y101 0) = some r := by first | (rw [hy101]; with_reducible exact H) | (have H2_ := (Option.bind_some _ _).symm.trans H; rw [hy101]; with_reducible exact H2_) | (have H2_ := (Option.bind_some _ _).symm.trans H; with_reducible exact H2_) | with_reducible exact H | (rw [hy101]; exact H) | exact H
  have Ny101 := Aside0.mk hy101
  clear hy101
  have H' := Aside0.mk H
  clear H
  go_enter Try.func46, Try.ntmps46
  go_wp2_with (first | ((with_reducible refine gate_dst (N := 9) rfl ?_); refine Kd.R_lit (Kd.int .i64) _ 2 ?hg (N := 9) ?hd (xs := ([] : List Int)) (inner := []) (ok := fun _ => True) (okp := fun _ => True) ?hr ?hp (fun _ hk => hk) trivial (Below.refl _ _) (Nat.le_refl _) (by simp) ?_; (case hd => rfl); (case hg => rfl); (case hr => first | (go_simp; done) | (go_simp; rfl)); (case hp => exact (Reps.none _ _)); intro v102 w4 ho5 hb hg_ hnew_; clear hg_ hnew_; (first | rw [← Ny101.out] at ho5 | (simp only [Int.reduceToNat] at ho5; rw [← Ny101.out] at ho5)); have n0_ := Aside0.mk (Kd.R_lower ho5 (below_size (by repeat (first | (with_reducible first | exact HB.out | apply below_alloc | apply pw_below_drewN | apply below_drew1) | exact HB.out)))); have n1_ := Aside0.mk (below_step (by repeat (first | (with_reducible first | exact HB.out | apply below_alloc | apply pw_below_drewN | apply below_drew1) | exact HB.out)) hb); clear HB; have HO103 := n0_; have HB := n1_; clear n0_ n1_; clear hb ho5))
  go_loopg [7, 8] k (fun kq v7 v8 w' => ∃ (x7_1 : List Int) (x8_1 : Int), v8 = .int .i64 x8_1 ∧ Aside0 (spec_l11At.l0 kq l0 l1 a2 x7_1 x8_1 = some r) ∧ Aside0 (kq ≤ k) ∧ Aside0 (Kd.R (Kd.int .i64) 2 w' w.heap.size (fun _ => True) v7 x7_1) ∧ Aside0 (Below w.heap.size w w'))
  case atStart => exact ⟨(y101), (0), (by first | rfl | (simp; done) | (simp [*]; done)), H', ⟨Nat.le_refl _⟩, ⟨by (with_reducible repeat (first | apply Kd.R_alloc | apply Kd.R_drewN | apply Kd.R_drew)); exact HO103.out⟩, ⟨by repeat (first | (with_reducible first | exact HB.out | apply below_alloc | apply pw_below_drewN | apply below_drew1) | exact HB.out)⟩⟩
  case round =>
    clear H'
    try clear c1
    try clear p2
    try clear c4
    obtain ⟨x7_1, x8_1, rfl, HA, HK1, HO_7, HB⟩ := hrel
    cases gk with
    | zero => exact absurd HA.out (by simp [spec_l11At.l0])
    | succ k1 =>
      have H := HA.out
      clear HA
      simp only [spec_l11At.l0] at H
      by_cases c6 : x8_1 < (l0.length : Int)
      · rw [if_pos c6] at H
        have c6b0 : decide (x8_1 < (l0.length : Int)) = true := decide_eq_true c6
        clear c6
        by_cases c7 : 0 ≤ x8_1
        · rw [if_pos c7] at H
          have c7b0 : decide (0 ≤ x8_1) = true := decide_eq_true c7
          clear c7
          replace H := Option.bind_eq_some_iff.mp H
          obtain ⟨t105, A80, H⟩ := H
          replace H : (if t105 = true then (if x7_1.length < 17592186044416 then (spec_l11At.l0 k1 l0 l1 a2 (x7_1 ++ [x8_1]) (wrap64 (x8_1 + 1))) else (none)) else (spec_l11At.l0 k1 l0 l1 a2 x7_1 (wrap64 (x8_1 + 1)))) = some r := H
          have A8 := Aside0.mk A80
          clear A80
          by_cases c9 : t105 = true
          · subst c9
            have H1 : (if x7_1.length < 17592186044416 then (spec_l11At.l0 k1 l0 l1 a2 (x7_1 ++ [x8_1]) (wrap64 (x8_1 + 1))) else (none)) = some r := by rw [if_pos rfl] at H; exact H
            clear H
            have H := H1
            clear H1
            by_cases c10 : x7_1.length < 17592186044416
            · rw [if_pos c10] at H
              have LMc10 := Aside0.mk c10
              clear c10
              obtain ⟨y106, hy106⟩ : ∃ y_ : List Int, y_ = (x7_1 ++ [x8_1]) := ⟨_, rfl⟩
              replace H : (spec_l11At.l0 k1 l0 l1 a2 y106 (wrap64 (x8_1 + 1))) = some r := by first | (rw [hy106]; with_reducible exact H) | (have H2_ := (Option.bind_some _ _).symm.trans H; rw [hy106]; with_reducible exact H2_) | (have H2_ := (Option.bind_some _ _).symm.trans H; with_reducible exact H2_) | with_reducible exact H | (rw [hy106]; exact H) | exact H
              have Ny106 := Aside0.mk hy106
              clear hy106
              have H' := Aside0.mk H
              clear H
              have p104 : 0 ≤ (x8_1 : Int) := of_decide_eq_true (by first | (with_reducible assumption) | assumption)
              have q104 : x8_1 < (l0.length : Int) := of_decide_eq_true (by first | (with_reducible assumption) | assumption)
              obtain ⟨ad104, A104_0, c104_0, e104, hx104_0, hx104_1, hl104_0, hi104_0⟩ := at_T47 HR0.out x8_1 p104 q104
              cases e104
              replace hx104_0 := (HB.out.cell (World.block_lt_of_cell? w _ hx104_0)).trans hx104_0
              replace hx104_1 := (HB.out.cell (World.block_lt_of_cell? w _ hx104_1)).trans hx104_1
              have HR104_0 := Aside0.mk hi104_0
              have HC104_0 := Aside0.mk hl104_0
              clear hi104_0 hl104_0
              replace p104 := eq_true p104
              replace q104 := eq_true q104
              go_wp2_with (first | ((with_reducible refine gate_callee (f := 61) rfl ?_); refine goesL_ (some 21) rfl rfl Try.func61 (by kernel_rfl) rfl #[.pointer (some (ad104.add ((x8_1 : Int).toNat * 2))), .slice A1 l1.length c1, .int .i64 a2] rfl (by (try simp only [List.map_toArray, List.map_cons, List.map_nil]); first | done | rfl | (simp only [List.length_drop, List.length_take]; rfl)) ?_; (with_reducible refine (spec_l11Fits_e.calls k1 _ l0 x8_1 _ _ l1 a2 true _ ?side1 ?side2 ?side3 ?side4 ?side5 A8.out).mono ?_); (case side1 => repeat (first | exact (Kd.C_below HR0.out HB.out) | (with_reducible refine Kd.C_alloc ?_ _) | (with_reducible refine Kd.C_drewN ?_ _) | (with_reducible refine Kd.C_drew ?_))); (case side2 => first | (with_reducible assumption) | assumption | decide | exact decide_eq_true (by omega)); (case side3 => first | (with_reducible assumption) | assumption | decide | exact decide_eq_true (by omega)); (case side4 => repeat (first | exact (Kd.C_below HR1.out HB.out) | (with_reducible refine Kd.C_alloc ?_ _) | (with_reducible refine Kd.C_drewN ?_ _) | (with_reducible refine Kd.C_drew ?_))); (case side5 => exact HC1.out); rintro e w' ⟨rfl, ⟨nd, rfl⟩⟩; refine ⟨_, rfl, ?_⟩) | ((with_reducible refine gate_builtin (b := .append) (xs := #[.tmp 22, .tmp 24]) rfl ?_); at_builtin; refine Kd.R_append (Kd.int .i64) (w0 := w) w.heap.size rfl (.tmp 22) (.tmp 24) 29 2 (.int .i64 0) 8 rfl Try.underlying29 info2 rfl (by decide) (by omega) u7 x7_1 x8_1 [.int .i64 x8_1] (fun _ => True) (fun _ => False) rfl rfl ?aP (fun _ hk => hk.elim) ?aF ?aO ?aB ?aS ?aL ?_; (case aP => exact rfl); (case aB => exact (by repeat (first | (with_reducible first | exact HB.out | apply below_alloc | apply pw_below_drewN | apply below_drew1) | exact HB.out))); (case aF => exact (fun _ _ => trivial)); (case aO => exact (by (with_reducible repeat (first | apply Kd.R_alloc | apply Kd.R_drewN | apply Kd.R_drew)); exact HO_7.out)); (case aS => exact (below_size (by repeat (first | (with_reducible first | exact HB.out | apply below_alloc | apply pw_below_drewN | apply below_drew1) | exact HB.out)))); (case aL => have := LMc10.out; omega); intro v107 w11 ho hb hg hat; rw [← Ny106.out] at ho; have n0_ := Aside0.mk (hb); have n1_ := Aside0.mk (ho); clear HB; clear HO_7; have HB := n0_; have HO108 := n1_; clear n0_ n1_; clear ho hb hg hat))
              go_roundg k1
              case measure => have := HK1.out; omega
              case rel => exact ⟨(y106), (wrap64 (x8_1 + 1)), (by first | rfl | (simp; done) | (simp [*]; done)), H', ⟨by have := HK1.out; omega⟩, ⟨by (with_reducible repeat (first | apply Kd.R_alloc | apply Kd.R_drewN | apply Kd.R_drew)); exact HO108.out⟩, ⟨by repeat (first | (with_reducible first | exact HB.out | apply below_alloc | apply pw_below_drewN | apply below_drew1) | exact HB.out)⟩⟩
            · rw [if_neg c10] at H
              exact absurd H (by simp)
          · replace c9 := Bool.eq_false_iff.mpr c9
            subst c9
            have H1 : (spec_l11At.l0 k1 l0 l1 a2 x7_1 (wrap64 (x8_1 + 1))) = some r := by rw [if_neg (show ¬ (false = true) by decide)] at H; exact H
            clear H
            have H := H1
            clear H1
            have H' := Aside0.mk H
            clear H
            have p104 : 0 ≤ (x8_1 : Int) := of_decide_eq_true (by first | (with_reducible assumption) | assumption)
            have q104 : x8_1 < (l0.length : Int) := of_decide_eq_true (by first | (with_reducible assumption) | assumption)
            obtain ⟨ad104, A104_0, c104_0, e104, hx104_0, hx104_1, hl104_0, hi104_0⟩ := at_T47 HR0.out x8_1 p104 q104
            cases e104
            replace hx104_0 := (HB.out.cell (World.block_lt_of_cell? w _ hx104_0)).trans hx104_0
            replace hx104_1 := (HB.out.cell (World.block_lt_of_cell? w _ hx104_1)).trans hx104_1
            have HR104_0 := Aside0.mk hi104_0
            have HC104_0 := Aside0.mk hl104_0
            clear hi104_0 hl104_0
            replace p104 := eq_true p104
            replace q104 := eq_true q104
            go_wp2_with (first | ((with_reducible refine gate_callee (f := 61) rfl ?_); refine goesL_ (some 21) rfl rfl Try.func61 (by kernel_rfl) rfl #[.pointer (some (ad104.add ((x8_1 : Int).toNat * 2))), .slice A1 l1.length c1, .int .i64 a2] rfl (by (try simp only [List.map_toArray, List.map_cons, List.map_nil]); first | done | rfl | (simp only [List.length_drop, List.length_take]; rfl)) ?_; (with_reducible refine (spec_l11Fits_e.calls k1 _ l0 x8_1 _ _ l1 a2 false _ ?side1 ?side2 ?side3 ?side4 ?side5 A8.out).mono ?_); (case side1 => repeat (first | exact (Kd.C_below HR0.out HB.out) | (with_reducible refine Kd.C_alloc ?_ _) | (with_reducible refine Kd.C_drewN ?_ _) | (with_reducible refine Kd.C_drew ?_))); (case side2 => first | (with_reducible assumption) | assumption | decide | exact decide_eq_true (by omega)); (case side3 => first | (with_reducible assumption) | assumption | decide | exact decide_eq_true (by omega)); (case side4 => repeat (first | exact (Kd.C_below HR1.out HB.out) | (with_reducible refine Kd.C_alloc ?_ _) | (with_reducible refine Kd.C_drewN ?_ _) | (with_reducible refine Kd.C_drew ?_))); (case side5 => exact HC1.out); rintro e w' ⟨rfl, ⟨nd, rfl⟩⟩; refine ⟨_, rfl, ?_⟩))
            go_roundg k1
            case measure => have := HK1.out; omega
            case rel => exact ⟨(x7_1), (wrap64 (x8_1 + 1)), (by first | rfl | (simp; done) | (simp [*]; done)), H', ⟨by have := HK1.out; omega⟩, ⟨by (with_reducible repeat (first | apply Kd.R_alloc | apply Kd.R_drewN | apply Kd.R_drew)); exact HO_7.out⟩, ⟨by repeat (first | (with_reducible first | exact HB.out | apply below_alloc | apply pw_below_drewN | apply below_drew1) | exact HB.out)⟩⟩
        · rw [if_neg c7] at H
          exact absurd H (by simp)
      · rw [if_neg c6] at H
        have c6b0 : decide (x8_1 < (l0.length : Int)) = false := decide_eq_false c6
        clear c6
        obtain rfl := Option.some.inj H
        go_wp2
        go_ret
        exact ⟨_, by first | rfl | (simp [errW_none, errW_some] <;> rfl) | (simp [*, errW_none, errW_some] <;> rfl), by (with_reducible repeat (first | apply Kd.R_alloc | apply Kd.R_drewN | apply Kd.R_drew)); exact HO_7.out, by repeat (first | (with_reducible first | exact HB.out | apply below_alloc | apply pw_below_drewN | apply below_drew1) | exact HB.out)⟩

end Go.Proofs.Ytihphgiopjiohaa.P

/- spec_l11Place: what it answers, and that the machine's call comes to it. -/
namespace Go.Proofs.Ytihphgiopjiohaa.P
open Go.RowKit Go.Proofs.YtihphgiopjiohaaW.PrintWords Go.Proofs.YtihphgiopjiohaaW.PrintLast Go.Proofs.YtihphgiopjiohaaW.PrintMore
attribute [local go_sem] max2_int min2_int max_two min_two max_three min_three max_four min_four str_leq str_gtr str_geq
set_option linter.unusedVariables false
set_option linter.unusedSimpArgs false

/-! ### spec_l11Place: function 48 -/
def spec_l11Place.f (k : Nat) (l0 : List (S47)) (l1 : List Int) (a2 : Int) : Option (Int) := (spec_l11Ask.f k l0 l1).bind fun t101 => (if t101 = 1 then (some t101) else ((spec_l00In.f a2 0 (l1.length : Int)).bind fun t102 => (if t102 = true then (some t101) else (some 2))))
theorem spec_l11Place.mono : ∀ a0 a1 a2 k, LeO (spec_l11Place.f k a0 a1 a2) (spec_l11Place.f (k + 1) a0 a1 a2) := by
  intro a0 a1 a2 k
  unfold spec_l11Place.f
  repeat' first
      | (with_reducible exact spec_l11Ask.mono _ _ _)
      | (with_reducible exact LeO.refl _)
      | (with_reducible exact LeO.none _)
      | (with_reducible refine LeO.ite ?_ ?_)
      | (with_reducible refine LeO.bind ?_ (fun _ => ?_))
      | exact spec_l11Ask.mono _ _ _
      | exact LeO.none _
      | refine LeO.ite ?_ ?_
      | refine LeO.bind ?_ (fun _ => ?_)
set_option maxHeartbeats 8000000 in
set_option maxRecDepth 100000 in
theorem spec_l11Place.calls (k : Nat) (A0 : Option Addr) (c0 : Nat) (l0 : List (S47)) (A1 : Option Addr) (c1 : Nat) (l1 : List Int) (a2 : Int) (r : Int) (w : World) (hr0 : Kd.C k47 w A0 l0.length l0) (hc0 : l0.length ≤ c0) (hr1 : Kd.C (Kd.int .i64) w A1 l1.length l1) (hc1 : l1.length ≤ c1) (h : spec_l11Place.f k l0 l1 a2 = some r) :
    Calls Try.prog 48 #[.slice A0 l0.length c0, .slice A1 l1.length c1, .int .i64 a2] w fun e w' => e = .returned (.int .i64 r) ∧ Drawn0 w w' := by
  have HR0 := Aside0.mk hr0
  have HC0 := Aside0.mk hc0
  clear hr0 hc0
  have HR1 := Aside0.mk hr1
  have HC1 := Aside0.mk hc1
  clear hr1 hc1
  have H : ((spec_l11Ask.f k l0 l1).bind fun t101 => (if t101 = 1 then (some t101) else ((spec_l00In.f a2 0 (l1.length : Int)).bind fun t102 => (if t102 = true then (some t101) else (some 2))))) = some r := h
  clear h
  replace H := Option.bind_eq_some_iff.mp H
  obtain ⟨t101, A40, H⟩ := H
  replace H : (if t101 = 1 then (some t101) else ((spec_l00In.f a2 0 (l1.length : Int)).bind fun t102 => (if t102 = true then (some t101) else (some 2)))) = some r := H
  have A4 := Aside0.mk A40
  clear A40
  by_cases c5 : t101 = 1
  · rw [if_pos c5] at H
    have c5b0 : (t101 == 1) = true := beq_iff_eq.mpr c5
    have c5b1 : (t101 != 1) = false := bne_eq_false_iff_eq.mpr c5
    clear c5
    obtain rfl := Option.some.inj H
    go_enter Try.func48, Try.ntmps48
    go_wp2_with (first | ((with_reducible refine gate_callee (f := 42) rfl ?_); refine goesL_ (some 10) rfl rfl Try.func42 (by kernel_rfl) rfl #[.slice A0 l0.length c0, .slice A1 l1.length c1] rfl (by (try simp only [List.map_toArray, List.map_cons, List.map_nil]); first | done | rfl | (simp only [List.length_drop, List.length_take]; rfl)) ?_; (with_reducible refine (spec_l11Ask.calls k _ _ l0 _ _ l1 t101 _ ?side1 ?side2 ?side3 ?side4 A4.out).mono ?_); (case side1 => repeat (first | exact HR0.out | (with_reducible refine Kd.C_alloc ?_ _) | (with_reducible refine Kd.C_drewN ?_ _) | (with_reducible refine Kd.C_drew ?_))); (case side2 => exact HC0.out); (case side3 => repeat (first | exact HR1.out | (with_reducible refine Kd.C_alloc ?_ _) | (with_reducible refine Kd.C_drewN ?_ _) | (with_reducible refine Kd.C_drew ?_))); (case side4 => exact HC1.out); rintro e w' ⟨rfl, ⟨nd, rfl⟩⟩; refine ⟨_, rfl, ?_⟩))
    go_ret
    exact ⟨by first | rfl | (simp; done) | (simp [*]; done), by repeat (first | exact Drawn0.refl _ | apply Drawn0.step)⟩
  · rw [if_neg c5] at H
    have c5b0 : (t101 == 1) = false := beq_eq_false_iff_ne.mpr c5
    have c5b1 : (t101 != 1) = true := bne_iff_ne.mpr c5
    replace H := Option.bind_eq_some_iff.mp H
    obtain ⟨t102, A60, H⟩ := H
    replace H : (if t102 = true then (some t101) else (some 2)) = some r := H
    have A6 := Aside0.mk A60
    clear A60
    by_cases c7 : t102 = true
    · subst c7
      have H1 : (some t101) = some r := by rw [if_pos rfl] at H; exact H
      clear H
      have H := H1
      clear H1
      obtain rfl := Option.some.inj H
      go_enter Try.func48, Try.ntmps48
      go_wp2_with (first | ((with_reducible refine gate_callee (f := 42) rfl ?_); refine goesL_ (some 10) rfl rfl Try.func42 (by kernel_rfl) rfl #[.slice A0 l0.length c0, .slice A1 l1.length c1] rfl (by (try simp only [List.map_toArray, List.map_cons, List.map_nil]); first | done | rfl | (simp only [List.length_drop, List.length_take]; rfl)) ?_; (with_reducible refine (spec_l11Ask.calls k _ _ l0 _ _ l1 t101 _ ?side1 ?side2 ?side3 ?side4 A4.out).mono ?_); (case side1 => repeat (first | exact HR0.out | (with_reducible refine Kd.C_alloc ?_ _) | (with_reducible refine Kd.C_drewN ?_ _) | (with_reducible refine Kd.C_drew ?_))); (case side2 => exact HC0.out); (case side3 => repeat (first | exact HR1.out | (with_reducible refine Kd.C_alloc ?_ _) | (with_reducible refine Kd.C_drewN ?_ _) | (with_reducible refine Kd.C_drew ?_))); (case side4 => exact HC1.out); rintro e w' ⟨rfl, ⟨nd, rfl⟩⟩; refine ⟨_, rfl, ?_⟩) | ((with_reducible refine gate_callee (f := 60) rfl ?_); refine goesL_ (some 17) rfl rfl Try.func60 (by kernel_rfl) rfl #[.int .i64 a2, .int .i64 0, .int .i64 (l1.length : Int)] rfl (by (try simp only [List.map_toArray, List.map_cons, List.map_nil]); first | done | rfl | (simp only [List.length_drop, List.length_take]; rfl)) ?_; (with_reducible refine (spec_l00In.calls a2 0 (l1.length : Int) true _ A6.out).mono ?_); rintro e w' ⟨rfl, ⟨nd, rfl⟩⟩; refine ⟨_, rfl, ?_⟩))
      go_ret
      exact ⟨by first | rfl | (simp; done) | (simp [*]; done), by repeat (first | exact Drawn0.refl _ | apply Drawn0.step)⟩
    · replace c7 := Bool.eq_false_iff.mpr c7
      subst c7
      have H1 : (some 2) = some r := by rw [if_neg (show ¬ (false = true) by decide)] at H; exact H
      clear H
      have H := H1
      clear H1
      obtain rfl := Option.some.inj H
      go_enter Try.func48, Try.ntmps48
      go_wp2_with (first | ((with_reducible refine gate_callee (f := 42) rfl ?_); refine goesL_ (some 10) rfl rfl Try.func42 (by kernel_rfl) rfl #[.slice A0 l0.length c0, .slice A1 l1.length c1] rfl (by (try simp only [List.map_toArray, List.map_cons, List.map_nil]); first | done | rfl | (simp only [List.length_drop, List.length_take]; rfl)) ?_; (with_reducible refine (spec_l11Ask.calls k _ _ l0 _ _ l1 t101 _ ?side1 ?side2 ?side3 ?side4 A4.out).mono ?_); (case side1 => repeat (first | exact HR0.out | (with_reducible refine Kd.C_alloc ?_ _) | (with_reducible refine Kd.C_drewN ?_ _) | (with_reducible refine Kd.C_drew ?_))); (case side2 => exact HC0.out); (case side3 => repeat (first | exact HR1.out | (with_reducible refine Kd.C_alloc ?_ _) | (with_reducible refine Kd.C_drewN ?_ _) | (with_reducible refine Kd.C_drew ?_))); (case side4 => exact HC1.out); rintro e w' ⟨rfl, ⟨nd, rfl⟩⟩; refine ⟨_, rfl, ?_⟩) | ((with_reducible refine gate_callee (f := 60) rfl ?_); refine goesL_ (some 17) rfl rfl Try.func60 (by kernel_rfl) rfl #[.int .i64 a2, .int .i64 0, .int .i64 (l1.length : Int)] rfl (by (try simp only [List.map_toArray, List.map_cons, List.map_nil]); first | done | rfl | (simp only [List.length_drop, List.length_take]; rfl)) ?_; (with_reducible refine (spec_l00In.calls a2 0 (l1.length : Int) false _ A6.out).mono ?_); rintro e w' ⟨rfl, ⟨nd, rfl⟩⟩; refine ⟨_, rfl, ?_⟩))
      go_ret
      exact ⟨by first | rfl | (simp; done) | (simp [*]; done), by repeat (first | exact Drawn0.refl _ | apply Drawn0.step)⟩

end Go.Proofs.Ytihphgiopjiohaa.P

/- A loop over a list whose rounds take up to c steps each. -/
namespace Go.Proofs.YtihphgiopjiohaaL
open Go.RowKit Go.Proofs.YtihphgiopjiohaaW.PrintWords
theorem list_loopW {α σ τ : Type} (L : Nat → σ → Int → τ) (l : List α) (G : List α → σ → τ) (Inv : Nat → σ → Prop) (B c : Nat)
    (step : ∀ (k i : Nat) (hi : i < l.length) (s : σ), Inv i s → B ≤ k →
      L (k + c) s (i : Int) = G (l[i] :: l.drop (i + 1)) s ∨ ∃ s' k', k ≤ k' ∧ Inv (i + 1) s' ∧ G (l[i] :: l.drop (i + 1)) s = G (l.drop (i + 1)) s' ∧ L (k + c) s (i : Int) = L k' s' ((i + 1 : Nat) : Int))
    (stop : ∀ (k : Nat) (s : σ), Inv l.length s → B ≤ k → L (k + c) s (l.length : Int) = G [] s) :
    ∀ (k : Nat) (s : σ), B + c * (l.length + 1) ≤ k → Inv 0 s → L k s 0 = G l s := by
  have main : ∀ (d k i : Nat) (s : σ), i + d = l.length → B + c * (d + 1) ≤ k → Inv i s → L k s (i : Int) = G (l.drop i) s := by
    intro d
    induction d with
    | zero =>
      intro k i s hi hk hI
      have h1 : c * (0 + 1) = c := by simp
      obtain ⟨k, rfl⟩ : ∃ m, k = m + c := ⟨k - c, by omega⟩
      have : i = l.length := by omega
      subst this
      rw [stop k s hI (by omega), List.drop_length]
    | succ d ih =>
      intro k i s hi hk hI
      have h1 : c * (d + 1 + 1) = c * (d + 1) + c := Nat.mul_succ _ _
      obtain ⟨k, rfl⟩ : ∃ m, k = m + c := ⟨k - c, by omega⟩
      have hlt : i < l.length := by omega
      rw [List.drop_eq_getElem_cons hlt]
      rcases step k i hlt s hI (by omega) with h | ⟨s', k', hk', hI', hG, h⟩
      · exact h
      · rw [h, hG]; exact ih k' (i + 1) s' (by omega) (by omega) hI'
  intro k s hk hI
  have := main l.length k 0 s (by omega) hk hI
  simpa using this
theorem list_loopV {α σ ρ : Type} (L : Nat → σ → Int → Option ρ) (l : List α) (G : List α → σ → ρ) (Inv : Nat → σ → Prop) (B c : Nat)
    (step : ∀ (k i : Nat) (hi : i < l.length) (s : σ), Inv i s → B ≤ k →
      L (k + c) s (i : Int) = some (G (l[i] :: l.drop (i + 1)) s) ∨ ∃ s' k', k ≤ k' ∧ Inv (i + 1) s' ∧ G (l[i] :: l.drop (i + 1)) s = G (l.drop (i + 1)) s' ∧ L (k + c) s (i : Int) = L k' s' ((i + 1 : Nat) : Int))
    (stop : ∀ (k : Nat) (s : σ), Inv l.length s → B ≤ k → L (k + c) s (l.length : Int) = some (G [] s)) :
    ∀ (k : Nat) (s : σ), B + c * (l.length + 1) ≤ k → Inv 0 s → L k s 0 = some (G l s) :=
  list_loopW L l (fun r s => some (G r s)) Inv B c (fun k i hi s hI hB => by
    rcases step k i hi s hI hB with h | ⟨s', k', h1, h2, h3, h4⟩
    · exact .inl h
    · exact .inr ⟨s', k', h1, h2, by rw [h3], h4⟩) stop
end Go.Proofs.YtihphgiopjiohaaL

/- The laws' own functions on plain data: sizes, copies, equality: what each answers. Printed by program out of the types. -/
namespace Go.Proofs.Ytihphgiopjiohaa.P
open Go.RowKit Go.Proofs.YtihphgiopjiohaaW.PrintWords Go.Proofs.YtihphgiopjiohaaL
set_option linter.unusedVariables false
set_option linter.unusedSimpArgs false

theorem szInt64S_some {l : List Int} (hl : l.length ≤ maxLen) {a : Int} (ha0 : 0 ≤ a) (ha : a ≤ 1048576) : ∃ r, laws_szInt64S.f l a = some r ∧ (r < 0 ∨ (0 ≤ r ∧ r ≤ a ∧ l.length ≤ 1048576)) := by
  have hl' : l.length ≤ 9223372036854775807 := by simpa only [maxLen] using hl
  unfold laws_szInt64S.f
  rw [wrap_id (by omega) (by omega)]
  by_cases h0 : a - (l.length : Int) < 0
  · rw [if_pos h0]; exact ⟨-1, rfl, .inl (by omega)⟩
  · rw [if_neg h0]; exact ⟨_, rfl, .inr ⟨by omega, by omega, by omega⟩⟩
theorem toInt64S_eq {l : List Int} (hl : l.length ≤ 1048576) {k : Nat} (hk : 1048600 ≤ k) : laws_toInt64S.f k l = some l := by
  unfold laws_toInt64S.f
  rw [if_pos (nn_cast _), if_pos (by simp; omega)]
  rw [set_loop (fun k acc i => laws_toInt64S.l0 k l acc i) l (fun x => x) 0 (fun k i hi acc ha _ => ?_) (fun k acc => ?_) k _ (by omega) (by simp)]
  · simp
  · simp only [laws_toInt64S.l0]
    rw [if_pos (lt_cast hi), if_pos (nn_cast i), if_pos (by omega), rd_get hi, wrap_succ hi (by omega)]
    rfl
  · simp only [laws_toInt64S.l0]
    rw [if_neg (nlt_cast _)]
theorem eqInt64S_eq {a b : List Int} (hl : a.length ≤ 1048576) {k : Nat} (hk : 1048600 ≤ k) : laws_eqInt64S.f k a b = some (decide (a = b)) := by
  unfold laws_eqInt64S.f
  by_cases h : a.length = b.length
  · rw [if_pos (by omega)]
    refine eq_loop (fun k i => laws_eqInt64S.l0 k a b i) a b h 0 (fun k i h1 h2 _ => ?_) (fun k => ?_) k (by omega)
    · simp only [laws_eqInt64S.l0]
      rw [if_pos (lt_cast h1), if_pos (nn_cast i), if_pos (lt_cast h2), rd_get h1, rd_get h2, wrap_succ h1 (by omega)]

    · simp only [laws_eqInt64S.l0]
      rw [if_neg (nlt_cast _)]
  · rw [if_neg (by omega)]
    have : a ≠ b := fun e => h (by rw [e])
    simp [this]
/-! ### Pattern -/
def cPattern (x : S46) : S47 := ⟨x.f0, x.f1⟩
def smPattern (x : S46) : Prop := x.f0.length ≤ 1048576
theorem rd_lPattern {l : List S46} {i : Nat} (h : i < l.length) : rd_T46 l (i : Int) = l[i] := by
  simp [rd_T46, List.getD_eq_getElem?_getD, List.getElem?_eq_getElem h]
theorem rd_iPattern {l : List S47} {i : Nat} (h : i < l.length) : rd_T47 l (i : Int) = l[i] := by
  simp [rd_T47, List.getD_eq_getElem?_getD, List.getElem?_eq_getElem h]
theorem ext_iPattern {a b : S47} : a = b ↔ a.f0 = b.f0 ∧ a.f1 = b.f1 := by
  cases a; cases b; simp
instance : DecidableEq S47 := fun _ _ => decidable_of_iff _ ext_iPattern.symm
theorem szPattern_some {x : S46} (hg : Go.Proofs.Ytihphgiopjiohaa.g46 x) {a : Int} (ha0 : 0 ≤ a) (ha : a ≤ 1048576) : ∃ r, laws_szPattern.f x.f0 x.f1 a = some r ∧ (r < 0 ∨ (0 ≤ r ∧ r ≤ a ∧ smPattern x)) := by
  unfold laws_szPattern.f smPattern
  obtain ⟨r0, hr0, e0⟩ := szInt64S_some (l := x.f0) hg.1.1 (a := a) (by omega) (by omega)
  rw [hr0]; simp only [Option.bind_some]
  by_cases h0 : r0 < 0
  · rw [if_pos h0]; exact ⟨-1, rfl, .inl (by omega)⟩
  rw [if_neg h0]
  exact ⟨_, rfl, .inr ⟨by omega, by omega, by omega⟩⟩
theorem szPatternS_some {l : List S46} (hl : l.length ≤ maxLen) (hg : ∀ y ∈ l, Go.Proofs.Ytihphgiopjiohaa.g46 y) {a : Int} (ha0 : 0 ≤ a) (ha : a ≤ 1048576) {k : Nat} (hk : 2097200 ≤ k) : ∃ r, laws_szPatternS.f k l a = some r ∧ (r < 0 ∨ (0 ≤ r ∧ r ≤ a ∧ l.length ≤ 1048576 ∧ ∀ y ∈ l, smPattern y)) := by
  have hl' : l.length ≤ 9223372036854775807 := by simpa only [maxLen] using hl
  unfold laws_szPatternS.f
  rw [wrap_id (by omega) (by omega)]
  by_cases h0 : a - (l.length : Int) < 0
  · rw [if_pos h0]; exact ⟨-1, rfl, .inl (by omega)⟩
  · rw [if_neg h0]
    have main : ∀ (d k i : Nat) (s : Int), i + d = l.length → 1048600 + d < k → 0 ≤ s → s ≤ a - l.length → ∃ r, laws_szPatternS.l0 k l s (i : Int) = some r ∧ (r < 0 ∨ (0 ≤ r ∧ r ≤ s ∧ ∀ y ∈ l.drop i, smPattern y)) := by
      intro d
      induction d with
      | zero =>
        intro k i s hi hk h0 h1
        obtain ⟨k, rfl⟩ : ∃ m, k = m + 1 := ⟨k - 1, by omega⟩
        obtain rfl : i = l.length := by omega
        simp only [laws_szPatternS.l0]
        rw [if_neg (nlt_cast _)]
        exact ⟨s, rfl, .inr ⟨h0, by omega, by simp⟩⟩
      | succ d ih =>
        intro k i s hi hk h0 h1
        obtain ⟨k, rfl⟩ : ∃ m, k = m + 1 := ⟨k - 1, by omega⟩
        have hlt : i < l.length := by omega
        simp only [laws_szPatternS.l0]
        rw [if_pos (lt_cast hlt), if_pos (nn_cast i), rd_lPattern hlt, wrap_succ hlt (by omega)]
        obtain ⟨r1, hr1, e1⟩ := szPattern_some (hg l[i] (List.getElem_mem hlt)) (a := s) (by omega) (by omega)
        rw [hr1]; simp only [Option.bind_some]
        by_cases h2 : r1 < 0
        · rw [if_pos h2]
          exact ⟨-1, rfl, .inl (by omega)⟩
        · rw [if_neg h2]
          have e1' := e1.resolve_left h2
          obtain ⟨r, hr, h3⟩ := ih k (i + 1) r1 (by omega) (by omega) (by omega) (by omega)
          refine ⟨r, hr, h3.imp id fun h3 => ⟨h3.1, by omega, ?_⟩⟩
          rw [drop_cons hlt]
          intro y hy
          rcases List.mem_cons.1 hy with rfl | hy
          · exact e1'.2.2
          · exact h3.2.2 y hy
    obtain ⟨r, hr, h⟩ := main l.length k 0 (a - l.length) (by omega) (by omega) (by omega) (by omega)
    refine ⟨r, hr, h.imp id fun h => ⟨h.1, by omega, by omega, ?_⟩⟩
    simpa using h.2.2
theorem toPattern_eq {x : S46} (hs : smPattern x) {k : Nat} (hk : 1048600 ≤ k) : laws_toPattern.f k x.f0 x.f1 = some ((cPattern x).f0, (cPattern x).f1) := by
  unfold smPattern at hs
  unfold laws_toPattern.f
  rw [toInt64S_eq (by have := hs; omega) (by omega)]; simp only [Option.bind_some]
  rfl
theorem toPatternS_eq {l : List S46} (hl : l.length ≤ 1048576) (hs : ∀ y ∈ l, smPattern y) {k : Nat} (hk : 2097200 ≤ k) : laws_toPatternS.f k l = some (l.map cPattern) := by
  unfold laws_toPatternS.f
  rw [if_pos (nn_cast _), if_pos (by simp; omega)]
  refine set_loop (fun k acc i => laws_toPatternS.l0 k l acc i) l cPattern 1048600 (fun k i hi acc ha hB => ?_) (fun k acc => ?_) k _ (by omega) (by simp)
  · simp only [laws_toPatternS.l0]
    rw [if_pos (lt_cast hi), if_pos (nn_cast i), rd_lPattern hi, wrap_succ hi (by omega), toPattern_eq (hs _ (List.getElem_mem hi)) hB]
    simp only [Option.bind_some]
    rw [if_pos (by omega)]
    rfl
  · simp only [laws_toPatternS.l0]
    rw [if_neg (nlt_cast _)]
def smiPattern (x : S47) : Prop := x.f0.length ≤ 1048576
theorem smi_cPattern {x : S46} (hs : smPattern x) : smiPattern (cPattern x) := by
  unfold smPattern at hs
  unfold smiPattern cPattern
  exact hs
theorem eqPattern_eq {a b : S47} (hs : smiPattern a) {k : Nat} (hk : 1048600 ≤ k) : laws_eqPattern.f k a.f0 a.f1 b.f0 b.f1 = some (decide (a = b)) := by
  unfold smiPattern at hs
  unfold laws_eqPattern.f
  rw [eqInt64S_eq hs (by omega)]; simp only [Option.bind_some]
  by_cases e0 : a.f0 = b.f0
  rotate_left
  · rw [if_neg (by simp [e0])]; have hne : ¬ a = b := fun e => e0 (ext_iPattern.1 e).1; simp [hne]
  rw [if_pos (by simp [e0])]
  by_cases e1 : a.f1 = b.f1
  rotate_left
  · rw [if_neg e1]; have hne : ¬ a = b := fun e => e1 (ext_iPattern.1 e).2; simp [hne]
  rw [if_pos e1]
  rw [decide_eq_true (ext_iPattern.2 ⟨e0, e1⟩)]
theorem eqPatternS_eq {a b : List S47} (hl : a.length ≤ 1048576) (hs : ∀ y ∈ a, smiPattern y) {k : Nat} (hk : 2097200 ≤ k) : laws_eqPatternS.f k a b = some (decide (a = b)) := by
  unfold laws_eqPatternS.f
  by_cases h : a.length = b.length
  · rw [if_pos (by omega)]
    refine eq_loop (fun k i => laws_eqPatternS.l0 k a b i) a b h 1048600 (fun k i h1 h2 hB => ?_) (fun k => ?_) k (by omega)
    · simp only [laws_eqPatternS.l0]
      rw [if_pos (lt_cast h1), if_pos (nn_cast i), if_pos (lt_cast h2), rd_iPattern h1, rd_iPattern h2, wrap_succ h1 (by omega), eqPattern_eq (hs _ (List.getElem_mem h1)) hB]
      simp only [Option.bind_some, decide_eq_true_eq]
    · simp only [laws_eqPatternS.l0]
      rw [if_neg (nlt_cast _)]
  · rw [if_neg (by omega)]
    have : a ≠ b := fun e => h (by rw [e])
    simp [this]
end Go.Proofs.Ytihphgiopjiohaa.P

/- Valid patterns: the reference's and the program's test answer the same. -/
namespace Go.Proofs.Ytihphgiopjiohaa.P
open Go.RowKit Go.Proofs.YtihphgiopjiohaaW.PrintWords Go.Proofs.YtihphgiopjiohaaL
def pitchB (n : Int) : Bool := decide (-12 ≤ n) && decide (n ≤ 23)
def patB (x : S47) : Bool := (decide (1 ≤ x.f0.length) && decide (x.f0.length ≤ 8)) && x.f0.all pitchB && (decide (0 ≤ x.f1) && decide (x.f1 ≤ 1000))
def patsB (l : List S47) : Bool := l.all patB && decide (l.length ≤ 12)
theorem l00In_eq (x lo hi : Int) : spec_l00In.f x lo hi = some (decide (lo ≤ x) && decide (x ≤ hi)) := by
  unfold spec_l00In.f
  by_cases h : x ≥ lo
  · rw [if_pos h]; simp [ge_iff_le.1 h]
  · rw [if_neg h]
    have h' : ¬ lo ≤ x := h
    simp [h']
theorem l05Pitches_eq {l : List Int} (hl : l.length ≤ 1048576) {k : Nat} (hk : l.length + 2 ≤ k) : spec_l05Pitches.f k l = some (l.all pitchB && decide (l.length ≤ 64)) := by
  unfold spec_l05Pitches.f
  refine list_loop0 (fun k i => spec_l05Pitches.l0 k l i) l (fun r => r.all pitchB && decide (l.length ≤ 64)) 0 (fun k i hi _ => ?_) (fun k => ?_) k (by omega)
  · simp only [spec_l05Pitches.l0]
    rw [if_pos (lt_cast hi), if_pos (nn_cast i), rd_get hi, wrap_succ hi (by omega)]
    unfold spec_l03Pitch.f
    rw [l00In_eq]; simp only [Option.bind_some]
    rw [List.all_cons]
    change _ = some ((pitchB l[i] && _) && _) ∨ _
    by_cases h : pitchB l[i] = true
    · right
      refine ⟨by rw [h, Bool.true_and], ?_⟩
      exact if_pos h
    · left
      rw [Bool.not_eq_true] at h
      rw [h]
      exact if_neg (by unfold pitchB at h; rw [h]; decide)
  · simp only [spec_l05Pitches.l0]
    rw [if_neg (nlt_cast _)]
    simp
    omega
theorem l11One_e_eq (l : List S47) (i : Int) {k : Nat} (hk : 20 ≤ k) : spec_l11One_e.f k l i = some (patB (rd_T47 l i)) := by
  unfold spec_l11One_e.f patB
  generalize rd_T47 l i = x
  rw [l00In_eq]; simp only [Option.bind_some]
  by_cases h : (decide ((1 : Int) ≤ (x.f0.length : Int)) && decide ((x.f0.length : Int) ≤ 8)) = true
  · rw [if_pos h]
    have h1 : 1 ≤ x.f0.length ∧ x.f0.length ≤ 8 := by simp at h; omega
    rw [l05Pitches_eq (by omega) (by omega), l00In_eq]
    simp only [Option.bind_some]
    have h64 : x.f0.length ≤ 64 := by omega
    rw [decide_eq_true h1.1, decide_eq_true h1.2, decide_eq_true h64, Bool.and_true]
    cases x.f0.all pitchB <;> simp
  · rw [if_neg h]
    by_cases h1 : 1 ≤ x.f0.length
    · have : ¬ x.f0.length ≤ 8 := by intro h2; apply h; simp; omega
      rw [decide_eq_false this]; simp
    · rw [decide_eq_false h1]; simp
theorem Pattern_valid_eq (x : S47) : impl_Pattern_valid.f x.f0 x.f1 = some (patB x) := by
  unfold impl_Pattern_valid.f patB impl_allWithin.f
  rw [impl_allWithin.within]
  have e : (!(x.f0.any (impl_allWithin.p (-12) 23))) = x.f0.all pitchB := by
    rw [List.not_any_eq_all_not]
    congr 1; funext n; unfold impl_allWithin.p pitchB
    cases decide (-12 ≤ n) <;> cases decide (n ≤ 23) <;> rfl
  rw [e]
  by_cases h1 : 1 ≤ x.f0.length
  · rw [if_pos (by omega)]
    by_cases h2 : x.f0.length ≤ 8
    · rw [if_pos (by omega)]
      simp only [Option.bind_some]
      rw [decide_eq_true h1, decide_eq_true h2]
      cases x.f0.all pitchB <;> simp
    · rw [if_neg (by omega), decide_eq_false h2]; simp
  · rw [if_neg (by omega), decide_eq_false h1]; simp
theorem l11Ok_eq {l : List S47} (hl : l.length ≤ 1048576) {k : Nat} (hk : l.length + 30 ≤ k) : spec_l11Ok.f k l = some (patsB l) := by
  unfold spec_l11Ok.f patsB
  refine list_loop0 (fun k i => spec_l11Ok.l0 k l i) l (fun r => r.all patB && decide (l.length ≤ 12)) 20 (fun k i hi hB => ?_) (fun k => ?_) k (by omega)
  · simp only [spec_l11Ok.l0]
    rw [if_pos (lt_cast hi), if_pos (nn_cast i), l11One_e_eq _ _ hB, rd_iPattern hi, wrap_succ hi (by omega), List.all_cons]
    simp only [Option.bind_some]
    by_cases h : patB l[i] = true
    · right; rw [if_pos h, h, Bool.true_and]; exact ⟨rfl, rfl⟩
    · left; rw [if_neg h]; rw [Bool.not_eq_true] at h; rw [h]; rfl
  · simp only [spec_l11Ok.l0]
    rw [if_neg (nlt_cast _)]
    simp
    omega
theorem ValidPatterns_eq (l : List S47) : impl_ValidPatterns.f l = some (patsB l) := by
  unfold impl_ValidPatterns.f patsB
  by_cases h : l.length ≤ 12
  · rw [if_pos (by omega), anyO_some (q := fun x => !patB x) (fun x _ => by unfold impl_ValidPatterns_1.f; rw [Pattern_valid_eq]; rfl)]
    simp only [Option.bind_some, decide_eq_true h, Bool.and_true, List.not_any_eq_all_not, Bool.not_not]
  · rw [if_neg (by omega), decide_eq_false h]; simp
theorem map_cPattern (l : List S46) : (l.map cPattern).length = l.length := by simp
theorem smi_pats {l : List S46} (h : ∀ y ∈ l, smPattern y) : ∀ y ∈ l.map cPattern, smiPattern y := by
  intro y hy; obtain ⟨x, hx, rfl⟩ := List.mem_map.1 hy; exact smi_cPattern (h x hx)
end Go.Proofs.Ytihphgiopjiohaa.P

/- Patterns at a place: the reference and the program find the same ones. -/
namespace Go.Proofs.Ytihphgiopjiohaa.P
open Go.RowKit Go.Proofs.YtihphgiopjiohaaW.PrintWords Go.Proofs.YtihphgiopjiohaaL
def fits (x : S47) (p : List Int) (a : Nat) : Bool := decide (a + x.f0.length ≤ p.length) && decide ((p.drop a).take x.f0.length = x.f0)
def atF (p : List Int) (a : Nat) : Nat → List S47 → List Int
  | _, [] => []
  | n, x :: r => if fits x p a = true then (n : Int) :: atF p a (n + 1) r else atF p a (n + 1) r
def atB (l : List S47) (p : List Int) (a : Nat) : List Int := atF p a 0 l
theorem Fits_e_eq (l : List S47) (i : Int) {p : List Int} (hp : p.length ≤ 1048576) {a : Nat} (ha : a ≤ 1048576) (hx : (rd_T47 l i).f0.length ≤ 1048576) {k : Nat} (hk : (rd_T47 l i).f0.length + 10 ≤ k) : spec_l11Fits_e.f k l i p (a : Int) = some (fits (rd_T47 l i) p a) := by
  unfold spec_l11Fits_e.f fits
  have w1 : wrap64 ((a : Int) + ((rd_T47 l i).f0.length : Int)) = ((a + (rd_T47 l i).f0.length : Nat) : Int) := by rw [wrap_id (by omega) (by omega)]; omega
  rw [w1]
  by_cases h : a + (rd_T47 l i).f0.length ≤ p.length
  · rw [if_neg (by omega), decide_eq_true h, Bool.true_and]
    have hlen : ((p.drop a).take (rd_T47 l i).f0.length).length = (rd_T47 l i).f0.length := by rw [List.length_take, List.length_drop]; omega
    refine eq_loop (fun k j => spec_l11Fits_e.l0 k p (a : Int) j l i) _ (rd_T47 l i).f0 hlen 0 (fun k j hj hj2 hB => ?_) (fun k => ?_) k (by omega)
    · simp only [spec_l11Fits_e.l0]
      have w2 : wrap64 ((a : Int) + (j : Int)) = ((a + j : Nat) : Int) := by rw [wrap_id (by omega) (by omega)]; omega
      have hpj : a + j < p.length := by omega
      rw [if_pos (lt_cast hj2), w2, if_pos (nn_cast _), if_pos (lt_cast hpj), if_pos (nn_cast _), rd_get hpj, rd_get hj2, wrap_succ hj2 (by omega)]
      have e : ((p.drop a).take (rd_T47 l i).f0.length)[j] = p[a + j] := by rw [List.getElem_take, List.getElem_drop]
      rw [e]
    · simp only [spec_l11Fits_e.l0]
      rw [if_neg (by omega)]
  · rw [if_pos (by omega), decide_eq_false h]; rfl
theorem Equal_eq {a b : List Int} (ha : a.length ≤ 1048576) {k : Nat} (hk : a.length + 10 ≤ k) : slices_Equal_S_int64.f k a b = some (decide (a = b)) := by
  unfold slices_Equal_S_int64.f
  by_cases h : a.length = b.length
  · rw [if_pos (by omega)]
    refine eq_loop (fun k j => slices_Equal_S_int64.l0 k a b (a.length : Int) j) a b h 0 (fun k j hj hj2 hB => ?_) (fun k => ?_) k (by omega)
    · simp only [slices_Equal_S_int64.l0]
      rw [if_pos (lt_cast hj), if_pos (nn_cast _), if_pos (lt_cast hj), if_pos (lt_cast hj2), rd_get hj, rd_get hj2, wrap_succ hj (by omega)]
    · simp only [slices_Equal_S_int64.l0]
      rw [if_neg (nlt_cast _)]
  · rw [if_neg (by omega), decide_eq_false (fun e => h (by rw [e]))]
theorem atF_step {p : List Int} {a : Nat} {l : List S47} {i : Nat} (hi : i < l.length) : atF p a (l.length - (l[i] :: l.drop (i + 1)).length) (l[i] :: l.drop (i + 1)) = (if fits l[i] p a = true then (i : Int) :: atF p a (l.length - (l.drop (i + 1)).length) (l.drop (i + 1)) else atF p a (l.length - (l.drop (i + 1)).length) (l.drop (i + 1))) := by
  have e1 : l.length - (l[i] :: l.drop (i + 1)).length = i := by rw [List.length_cons, List.length_drop]; omega
  have e2 : l.length - (l.drop (i + 1)).length = i + 1 := by rw [List.length_drop]; omega
  rw [e1, e2, atF]
theorem l11At_eq {l : List S47} (hl : l.length ≤ 1048576) (hx : ∀ x ∈ l, x.f0.length ≤ 1000) {p : List Int} (hp : p.length ≤ 1048576) {a : Nat} (ha : a ≤ 1048576) {k : Nat} (hk : l.length + 1020 ≤ k) : spec_l11At.f k l p (a : Int) = some (atB l p a) := by
  unfold spec_l11At.f atB
  refine (list_loop (fun k s i => spec_l11At.l0 k l p (a : Int) s i) l (fun r s => s ++ atF p a (l.length - r.length) r) (fun i s => s.length ≤ i) 1010 (fun k i hi s hI hB => ?_) (fun k s hI => ?_) k [] (by omega) (by simp)).trans (by simp)
  · right
    have hxi := hx l[i] (List.getElem_mem hi)
    simp only [spec_l11At.l0]
    rw [if_pos (lt_cast hi), if_pos (nn_cast i), Fits_e_eq l (i : Int) hp ha (by rw [rd_iPattern hi]; omega) (by rw [rd_iPattern hi]; omega), rd_iPattern hi, wrap_succ hi (by omega), atF_step hi]
    simp only [Option.bind_some]
    by_cases h : fits l[i] p a = true
    · rw [if_pos h, if_pos h, if_pos (show s.length < 17592186044416 by omega)]
      exact ⟨s ++ [(i : Int)], by simp; omega, by rw [List.append_assoc]; rfl, rfl⟩
    · rw [if_neg h, if_neg h]
      exact ⟨s, by omega, rfl, rfl⟩
  · simp only [spec_l11At.l0]
    rw [if_neg (nlt_cast _)]; simp [atF]
theorem patternsAt_eq {l : List S47} (hl : l.length ≤ 1048576) (hx : ∀ x ∈ l, x.f0.length ≤ 1000) {p : List Int} (_ : p.length ≤ 1048576) {a : Nat} (ha : a ≤ 1048576) {k : Nat} (hk : l.length + 1020 ≤ k) : impl_patternsAt.f k l p (a : Int) = some (atB l p a) := by
  unfold impl_patternsAt.f atB
  refine (list_loop (fun k s i => impl_patternsAt.l0 k p (a : Int) s l (l.length : Int) i) l (fun r s => s ++ atF p a (l.length - r.length) r) (fun i s => s.length ≤ i) 1010 (fun k i hi s hI hB => ?_) (fun k s hI => ?_) k [] (by omega) (by simp)).trans (by simp)
  · right
    have hxi := hx l[i] (List.getElem_mem hi)
    have w1 : wrap64 ((a : Int) + (l[i].f0.length : Int)) = ((a + l[i].f0.length : Nat) : Int) := by rw [wrap_id (by omega) (by omega)]; omega
    simp only [impl_patternsAt.l0]
    rw [if_pos (lt_cast hi), if_pos (nn_cast i), if_pos (lt_cast hi), rd_iPattern hi, w1, wrap_succ hi (by omega), atF_step hi]
    unfold fits
    by_cases h : a + l[i].f0.length ≤ p.length
    · have e : (p.take ((a + l[i].f0.length : Nat) : Int).toNat).drop ((a : Nat) : Int).toNat = (p.drop a).take l[i].f0.length := by
        rw [Int.toNat_natCast, Int.toNat_natCast, List.drop_take, show a + l[i].f0.length - a = l[i].f0.length by omega]
      have hlen : ((p.drop a).take l[i].f0.length).length ≤ 1000 := by rw [List.length_take]; omega
      rw [if_pos (show (((a + l[i].f0.length : Nat) : Int) ≤ (p.length : Int)) by omega), if_pos (nn_cast a), if_pos (show (a : Int) ≤ ((a + l[i].f0.length : Nat) : Int) by omega), e, Equal_eq (by omega) (by omega), decide_eq_true h, Bool.true_and]
      simp only [Option.bind_some]
      by_cases h2 : (p.drop a).take l[i].f0.length = l[i].f0
      · rw [decide_eq_true h2, if_pos rfl, if_pos rfl, if_pos (show s.length < 17592186044416 by omega)]
        exact ⟨s ++ [(i : Int)], by simp; omega, by rw [List.append_assoc]; rfl, rfl⟩
      · rw [decide_eq_false h2, if_neg (by decide), if_neg (by decide)]
        exact ⟨s, by omega, rfl, rfl⟩
    · rw [if_neg (show ¬ (((a + l[i].f0.length : Nat) : Int) ≤ (p.length : Int)) by omega), decide_eq_false h, Bool.false_and, if_neg (by decide)]
      exact ⟨s, by omega, rfl, rfl⟩
  · simp only [impl_patternsAt.l0]
    rw [if_neg (nlt_cast _)]; simp [atF]
theorem mem_atF {p : List Int} {a : Nat} : ∀ (l : List S47) (n : Nat) (z : Int), z ∈ atF p a n l ↔ ∃ j, ∃ h : j < l.length, z = ((n + j : Nat) : Int) ∧ fits l[j] p a = true
  | [], n, z => by simp [atF]
  | x :: r, n, z => by
    have ih := mem_atF (p := p) (a := a) r (n + 1) z
    rw [atF]
    have key : (∃ j, ∃ h : j < (x :: r).length, z = ((n + j : Nat) : Int) ∧ fits (x :: r)[j] p a = true) ↔ (z = (n : Int) ∧ fits x p a = true) ∨ ∃ j, ∃ h : j < r.length, z = ((n + 1 + j : Nat) : Int) ∧ fits r[j] p a = true := by
      constructor
      · rintro ⟨j, h, e, f⟩
        cases j with
        | zero => exact .inl ⟨by simpa using e, by simpa using f⟩
        | succ j => exact .inr ⟨j, by simpa using h, by rw [e]; congr 1; omega, by simpa using f⟩
      · rintro (⟨e, f⟩ | ⟨j, h, e, f⟩)
        · exact ⟨0, by simp, by simpa using e, by simpa using f⟩
        · exact ⟨j + 1, by simpa using h, by rw [e]; congr 1; omega, by simpa using f⟩
    rw [key]
    by_cases h : fits x p a = true
    · rw [if_pos h, List.mem_cons, ih]
      simp [h]
    · rw [if_neg h, ih]
      simp [h]
theorem mem_atB {l : List S47} {p : List Int} {a : Nat} {z : Int} : z ∈ atB l p a ↔ ∃ j, ∃ h : j < l.length, z = (j : Int) ∧ fits l[j] p a = true := by
  unfold atB; rw [mem_atF]; simp
theorem fits_le {x : S47} {p : List Int} {a : Nat} (h : fits x p a = true) : a + x.f0.length ≤ p.length := by
  unfold fits at h; simp only [Bool.and_eq_true, decide_eq_true_iff] at h; exact h.1
theorem atF_length {p : List Int} {a : Nat} : ∀ (l : List S47) (n : Nat), (atF p a n l).length ≤ l.length
  | [], n => by simp [atF]
  | x :: r, n => by
    have := atF_length (p := p) (a := a) r (n + 1)
    rw [atF]; split <;> simp <;> omega
/-! ### the codes -/
def pitsB (p : List Int) : Bool := p.all pitchB && decide (p.length ≤ 64)
def askP (l : List S47) (p : List Int) : Int := if patsB l = true then (if pitsB p = true then 0 else 7) else 1
def placeP (l : List S47) (p : List Int) (a : Int) : Int := if patsB l = true then (if 0 ≤ a ∧ a ≤ (p.length : Int) then (if pitsB p = true then 0 else 7) else 2) else 1
theorem l11Ask_eq {l : List S47} (hl : l.length ≤ 1048576) {p : List Int} (hp : p.length ≤ 1048576) {k : Nat} (hk : 1048700 ≤ k) : spec_l11Ask.f k l p = some (askP l p) := by
  unfold spec_l11Ask.f askP
  rw [l11Ok_eq hl (by omega)]; simp only [Option.bind_some]
  by_cases h : patsB l = true
  · rw [if_pos h, if_pos h, l05Pitches_eq hp (by omega)]; simp only [Option.bind_some]
    unfold pitsB
    split <;> rfl
  · rw [if_neg h, if_neg h]
theorem l11Place_eq {l : List S47} (hl : l.length ≤ 1048576) {p : List Int} (hp : p.length ≤ 1048576) (a : Int) {k : Nat} (hk : 1048700 ≤ k) : spec_l11Place.f k l p a = some (placeP l p a) := by
  unfold spec_l11Place.f placeP
  rw [l11Ask_eq hl hp hk]; simp only [Option.bind_some]
  unfold askP
  by_cases h : patsB l = true
  · rw [if_pos h, if_pos h, l00In_eq]; simp only [Option.bind_some]
    have h1 : ¬ (if pitsB p = true then (0 : Int) else 7) = 1 := by split <;> decide
    rw [if_neg h1]
    by_cases hr : 0 ≤ a ∧ a ≤ (p.length : Int)
    · rw [if_pos (by simp [hr.1, hr.2]), if_pos hr]
    · rw [if_neg (by simp; omega), if_neg hr]
  · rw [if_neg h, if_neg h, if_pos rfl]
theorem pitchesOk_eq (p : List Int) : impl_pitchesOk.f p = some (pitsB p) := by
  unfold impl_pitchesOk.f pitsB impl_allWithin.f
  have e : (!(p.any (impl_allWithin.p (-12) 23))) = p.all pitchB := by
    rw [List.not_any_eq_all_not]
    congr 1; funext n; unfold impl_allWithin.p pitchB
    cases decide (-12 ≤ n) <;> cases decide (n ≤ 23) <;> rfl
  rw [e]
  by_cases h : p.length ≤ 64
  · rw [if_pos (by omega), decide_eq_true h, Bool.and_true]; rfl
  · rw [if_neg (by omega), decide_eq_false h, Bool.and_false]
theorem parseCode_eq (l : List S47) (p : List Int) (a : Int) {k : Nat} (hk : 10 ≤ k) : impl_parseCode.f k l p a 0 = some (placeP l p a) := by
  obtain ⟨k, rfl⟩ : ∃ m, k = m + 1 := ⟨k - 1, by omega⟩
  unfold impl_parseCode.f placeP
  rw [ValidPatterns_eq]; simp only [Option.bind_some]
  by_cases h : patsB l = true
  · rw [if_pos h, if_pos h, impl_allWithin.within, impl_allWithin.within]; simp only [Option.bind_some]
    by_cases hr : 0 ≤ a ∧ a ≤ (p.length : Int)
    · rw [if_pos (by simp [hr.1, hr.2]), if_pos hr]
      simp only [impl_parseCode.j0]
      rw [if_neg (by decide), pitchesOk_eq]; simp only [Option.bind_some]
      split <;> rfl
    · rw [if_neg (by simp; omega), if_neg hr]
      simp only [impl_parseCode.j0, if_true]
  · rw [if_neg h, if_neg h]
theorem place_zero (l : List S47) (p : List Int) : placeP l p 0 = askP l p := by
  unfold placeP askP
  rw [if_pos (show (0 : Int) ≤ 0 ∧ (0 : Int) ≤ (p.length : Int) by omega)]
theorem pats_len {l : List S47} (h : patsB l = true) : l.length ≤ 12 := by
  unfold patsB at h; simp only [Bool.and_eq_true, decide_eq_true_iff] at h; exact h.2
theorem pats_each {l : List S47} (h : patsB l = true) : ∀ x ∈ l, 1 ≤ x.f0.length ∧ x.f0.length ≤ 8 ∧ 0 ≤ x.f1 ∧ x.f1 ≤ 1000 := by
  unfold patsB at h; simp only [Bool.and_eq_true, List.all_eq_true] at h
  intro x hx
  have := h.1 x hx
  unfold patB at this
  simp only [Bool.and_eq_true, decide_eq_true_iff] at this
  exact ⟨this.1.1.1, this.1.1.2, this.2.1, this.2.2⟩
theorem pits_len {p : List Int} (h : pitsB p = true) : p.length ≤ 64 := by
  unfold pitsB at h; simp only [Bool.and_eq_true, decide_eq_true_iff] at h; exact h.2
theorem place_ok {l : List S47} {p : List Int} {a : Int} (h : placeP l p a = 0) : patsB l = true ∧ pitsB p = true ∧ 0 ≤ a ∧ a ≤ (p.length : Int) := by
  unfold placeP at h
  by_cases h1 : patsB l = true
  · rw [if_pos h1] at h
    by_cases h2 : 0 ≤ a ∧ a ≤ (p.length : Int)
    · rw [if_pos h2] at h
      by_cases h3 : pitsB p = true
      · exact ⟨h1, h3, h2.1, h2.2⟩
      · rw [if_neg h3] at h; exact absurd h (by decide)
    · rw [if_neg h2] at h; exact absurd h (by decide)
  · rw [if_neg h1] at h; exact absurd h (by decide)
structure ParseOk (l : List S47) (p : List Int) : Prop where
  l12 : l.length ≤ 12
  p64 : p.length ≤ 64
  each : ∀ x ∈ l, 1 ≤ x.f0.length ∧ x.f0.length ≤ 8 ∧ 0 ≤ x.f1 ∧ x.f1 ≤ 1000
theorem parse_ok {l : List S47} {p : List Int} {a : Int} (h : placeP l p a = 0) : ParseOk l p :=
  have h' := place_ok h
  ⟨pats_len h'.1, pits_len h'.2.1, pats_each h'.1⟩
theorem ParseOk.short {l : List S47} {p : List Int} (h : ParseOk l p) : ∀ x ∈ l, x.f0.length ≤ 1000 := fun x hx => by have := h.each x hx; omega
/-- The length of the pattern with a number. -/
def lenOf (l : List S47) (z : Int) : Int := ((rd_T47 l z).f0.length : Int)
theorem at_mem {l : List S47} {p : List Int} (hok : ParseOk l p) {a : Nat} {z : Int} (h : z ∈ atB l p a) : 0 ≤ z ∧ z < (l.length : Int) ∧ 1 ≤ lenOf l z ∧ (a : Int) + lenOf l z ≤ (p.length : Int) := by
  obtain ⟨j, hj, rfl, hf⟩ := mem_atB.1 h
  have h1 := fits_le hf
  have h2 := hok.each l[j] (List.getElem_mem hj)
  unfold lenOf
  rw [rd_iPattern hj]
  omega
end Go.Proofs.Ytihphgiopjiohaa.P

/- Is a list of patterns a parse. -/
namespace Go.Proofs.Ytihphgiopjiohaa.P
open Go.RowKit Go.Proofs.YtihphgiopjiohaaW.PrintWords Go.Proofs.YtihphgiopjiohaaL
/-! ### is it a parse -/
def isP (l : List S47) (p : List Int) : List Int → Nat → Bool
  | [], a => decide (a = p.length)
  | z :: r, a => if z = -1 ∧ a < p.length then isP l p r (a + 1) else if (0 ≤ z ∧ z < (l.length : Int)) ∧ fits (rd_T47 l z) p a = true then isP l p r (a + (rd_T47 l z).f0.length) else false
theorem isP_spec {l : List S47} {p : List Int} (hok : ParseOk l p) {q : List Int} (hq : q.length ≤ 1048576) {k : Nat} (hk : 2 * q.length + 100 ≤ k) : spec_l11Is.f k l p q = some (isP l p q 0) := by
  have hl := hok.l12
  have hp := hok.p64
  unfold spec_l11Is.f
  refine list_loopV (fun k (a : Nat) i => spec_l11Is.l0 k l p q (a : Int) i) q (fun r a => isP l p r a) (fun _ a => a ≤ p.length) 50 2 (fun k i hi a hI hB => ?_) (fun k a hI hB => ?_) k 0 (by omega) (Nat.zero_le _)
  · have w1 : wrap64 ((a : Int) + 1) = ((a + 1 : Nat) : Int) := by rw [wrap_id (by omega) (by omega)]; omega
    have w2 : wrap64 ((l.length : Int) - 1) = (l.length : Int) - 1 := wrap_id (by omega) (by omega)
    have e0 : ∀ b : Bool, spec_l11Is.j1 (k + 1) l p q (a : Int) (i : Int) b = if b = true then spec_l11Is.l0 k l p q ((a + 1 : Nat) : Int) ((i + 1 : Nat) : Int) else if (0 ≤ q[i] ∧ q[i] < (l.length : Int)) ∧ fits (rd_T47 l q[i]) p a = true then spec_l11Is.l0 k l p q ((a + (rd_T47 l q[i]).f0.length : Nat) : Int) ((i + 1 : Nat) : Int) else some false := by
      intro b
      cases b with
      | true =>
        simp only [spec_l11Is.j1, if_true]
        rw [w1, wrap_succ hi (by omega)]
      | false =>
        simp only [spec_l11Is.j1, Bool.false_eq_true, if_false]
        rw [wrap_succ hi (by omega), rd_get hi, w2, if_pos (nn_cast i), if_pos (lt_cast hi), l00In_eq]
        simp only [Option.bind_some]
        by_cases hr : 0 ≤ q[i] ∧ q[i] < (l.length : Int)
        · obtain ⟨j, hj, hqj⟩ : ∃ j : Nat, j < l.length ∧ q[i] = (j : Int) := ⟨q[i].toNat, by omega, by omega⟩
          have hx := hok.each l[j] (List.getElem_mem hj)
          rw [if_pos (show (decide (0 ≤ q[i]) && decide (q[i] ≤ (l.length : Int) - 1)) = true by simp only [Bool.and_eq_true, decide_eq_true_iff]; omega), if_pos hr.1, if_pos hr.2, hqj, Fits_e_eq l (j : Int) (by omega) (by omega) (by rw [rd_iPattern hj]; omega) (by rw [rd_iPattern hj]; omega)]
          simp only [Option.bind_some]
          have w3 : wrap64 ((a : Int) + ((rd_T47 l (j : Int)).f0.length : Int)) = ((a + (rd_T47 l (j : Int)).f0.length : Nat) : Int) := by rw [rd_iPattern hj, wrap_id (by omega) (by omega)]; omega
          by_cases hf : fits (rd_T47 l (j : Int)) p a = true
          · rw [if_pos hf, if_pos ⟨by omega, hf⟩, w3]
          · rw [if_neg hf, if_neg (fun h => hf h.2)]
        · rw [if_neg (show ¬ (decide (0 ≤ q[i]) && decide (q[i] ≤ (l.length : Int) - 1)) = true by simp only [Bool.and_eq_true, decide_eq_true_iff]; omega), if_neg (fun h => hr h.1)]
    have e1 : spec_l11Is.l0 (k + 2) l p q (a : Int) (i : Int) = spec_l11Is.j1 (k + 1) l p q (a : Int) (i : Int) (decide (q[i] = -1 ∧ a < p.length)) := by
      show spec_l11Is.l0 (k + 1 + 1) l p q (a : Int) (i : Int) = _
      simp only [spec_l11Is.l0]
      rw [if_pos (lt_cast hi), if_pos (nn_cast i), rd_get hi]
      by_cases h : q[i] = -1
      · rw [if_pos h]; congr 1
        exact decide_eq_decide.2 ⟨fun h2 => ⟨h, by omega⟩, fun h2 => by omega⟩
      · rw [if_neg h, decide_eq_false (fun h2 => h h2.1)]
    show spec_l11Is.l0 (k + 2) l p q (a : Int) (i : Int) = _ ∨ ∃ s' k', _ ∧ _ ∧ _ ∧ spec_l11Is.l0 (k + 2) l p q (a : Int) (i : Int) = _
    rw [e1, e0]
    simp only [isP]
    by_cases h1 : q[i] = -1 ∧ a < p.length
    · right
      rw [if_pos (decide_eq_true h1), if_pos h1]
      exact ⟨a + 1, k, Nat.le_refl _, h1.2, rfl, rfl⟩
    · rw [if_neg (by simpa using h1), if_neg h1]
      by_cases h2 : (0 ≤ q[i] ∧ q[i] < (l.length : Int)) ∧ fits (rd_T47 l q[i]) p a = true
      · right
        rw [if_pos h2, if_pos h2]
        exact ⟨a + (rd_T47 l q[i]).f0.length, k, Nat.le_refl _, fits_le h2.2, rfl, rfl⟩
      · left
        rw [if_neg h2, if_neg h2]
  · show spec_l11Is.l0 (k + 1 + 1) l p q (a : Int) (q.length : Int) = _
    simp only [spec_l11Is.l0]
    rw [if_neg (nlt_cast _)]
    simp only [isP]
    by_cases h : a = p.length
    · simp [h]
    · rw [decide_eq_false h, beq_eq_false_iff_ne.2 (by omega)]
theorem isP_impl {l : List S47} {p : List Int} (hok : ParseOk l p) {q : List Int} (hq : q.length ≤ 1048576) {k : Nat} (hk : q.length + q.length + 5000 ≤ k) : impl_isParse.f k l p q = some (isP l p q 0) := by
  have hl := hok.l12
  have hp := hok.p64
  unfold impl_isParse.f
  refine list_loopV (fun k (a : Nat) i => impl_isParse.l0 k l p (a : Int) q (q.length : Int) i) q (fun r a => isP l p r a) (fun _ a => a ≤ p.length) 4000 2 (fun k i hi a hI hB => ?_) (fun k a hI hB => ?_) k 0 (by omega) (Nat.zero_le _)
  · have w1 : wrap64 ((a : Int) + 1) = ((a + 1 : Nat) : Int) := by rw [wrap_id (by omega) (by omega)]; omega
    have e0 : ∀ b : Bool, impl_isParse.j1 (k + 1) l p (a : Int) q[i] q (q.length : Int) (i : Int) b = if b = true then impl_isParse.l0 k l p ((a + 1 : Nat) : Int) q (q.length : Int) ((i + 1 : Nat) : Int) else if (0 ≤ q[i] ∧ q[i] < (l.length : Int)) ∧ fits (rd_T47 l q[i]) p a = true then impl_isParse.l0 k l p ((a + (rd_T47 l q[i]).f0.length : Nat) : Int) q (q.length : Int) ((i + 1 : Nat) : Int) else some false := by
      intro b
      have hal := atF_length (p := p) (a := a) l 0
      have hal' : (atB l p a).length ≤ 12 := by unfold atB; omega
      cases b with
      | true =>
        simp only [impl_isParse.j1, if_true]
        rw [w1, wrap_succ hi (by omega)]
      | false =>
        simp only [impl_isParse.j1, Bool.false_eq_true, if_false]
        rw [wrap_succ hi (by omega), patternsAt_eq (by omega) hok.short (by omega) (by omega) (by omega)]
        simp only [Option.bind_some]
        rw [Contains_int64_eq (by omega) _ (by omega)]
        simp only [Option.bind_some]
        by_cases h0 : q[i] ≥ 0
        · rw [if_pos h0, if_pos (show (a : Int) ≤ (p.length : Int) by omega)]
          by_cases hm : q[i] ∈ atB l p a
          · obtain ⟨j, hj, hqj, hf⟩ := mem_atB.1 hm
            have hx := hok.each l[j] (List.getElem_mem hj)
            have w3 : wrap64 ((a : Int) + ((rd_T47 l (j : Int)).f0.length : Int)) = ((a + (rd_T47 l (j : Int)).f0.length : Nat) : Int) := by rw [rd_iPattern hj, wrap_id (by omega) (by omega)]; omega
            rw [if_pos (decide_eq_true hm), if_pos h0, if_pos (by omega), if_pos ⟨by omega, by rw [hqj, rd_iPattern hj]; exact hf⟩, hqj, w3]
          · rw [if_neg (by simpa using hm), if_neg]
            rintro ⟨⟨_, h2⟩, h3⟩
            refine hm (mem_atB.2 ⟨q[i].toNat, by omega, by omega, ?_⟩)
            have e : q[i] = ((q[i].toNat : Nat) : Int) := by omega
            rw [e, rd_iPattern (by omega)] at h3
            exact h3
        · rw [if_neg h0, if_neg (fun h => h0 h.1.1)]
    have e1 : impl_isParse.l0 (k + 2) l p (a : Int) q (q.length : Int) (i : Int) = impl_isParse.j1 (k + 1) l p (a : Int) q[i] q (q.length : Int) (i : Int) (decide (q[i] = -1 ∧ a < p.length)) := by
      show impl_isParse.l0 (k + 1 + 1) l p (a : Int) q (q.length : Int) (i : Int) = _
      simp only [impl_isParse.l0]
      rw [if_pos (lt_cast hi), if_pos (nn_cast i), if_pos (lt_cast hi), rd_get hi]
      by_cases h : q[i] = -1
      · rw [if_pos h]; congr 1
        exact decide_eq_decide.2 ⟨fun h2 => ⟨h, by omega⟩, fun h2 => by omega⟩
      · rw [if_neg h, decide_eq_false (fun h2 => h h2.1)]
    show impl_isParse.l0 (k + 2) l p (a : Int) q (q.length : Int) (i : Int) = _ ∨ ∃ s' k', _ ∧ _ ∧ _ ∧ impl_isParse.l0 (k + 2) l p (a : Int) q (q.length : Int) (i : Int) = _
    rw [e1, e0]
    simp only [isP]
    by_cases h1 : q[i] = -1 ∧ a < p.length
    · right
      rw [if_pos (decide_eq_true h1), if_pos h1]
      exact ⟨a + 1, k, Nat.le_refl _, h1.2, rfl, rfl⟩
    · rw [if_neg (by simpa using h1), if_neg h1]
      by_cases h2 : (0 ≤ q[i] ∧ q[i] < (l.length : Int)) ∧ fits (rd_T47 l q[i]) p a = true
      · right
        rw [if_pos h2, if_pos h2]
        exact ⟨a + (rd_T47 l q[i]).f0.length, k, Nat.le_refl _, fits_le h2.2, rfl, rfl⟩
      · left
        rw [if_neg h2, if_neg h2]
  · show impl_isParse.l0 (k + 1 + 1) l p (a : Int) q (q.length : Int) (q.length : Int) = _
    simp only [impl_isParse.l0]
    rw [if_neg (nlt_cast _)]
    simp only [isP]
    by_cases h : a = p.length
    · simp [h]
    · rw [decide_eq_false h, beq_eq_false_iff_ne.2 (by omega)]
end Go.Proofs.Ytihphgiopjiohaa.P

/- The plain law behind FnExactIsParse: the reference and the program answer the same, and the copies stay. Conditions: none beyond the kinds' own bounds. -/
namespace Go.Proofs.Ytihphgiopjiohaa.Pure
open Go.RowKit Go.Proofs.YtihphgiopjiohaaW.PrintWords Go.Proofs.YtihphgiopjiohaaL Go.Proofs.Ytihphgiopjiohaa.P
theorem FnExactIsParse : ∀ (x0 : List (P.S46)) (x1 : List Int) (x2 : List Int), (x0.length ≤ maxLen ∧ ∀ y ∈ x0, g46 y) → (x1.length ≤ maxLen ∧ ∀ y ∈ x1, (Lit.int .i64 y).wf = true) → (x2.length ≤ maxLen ∧ ∀ y ∈ x2, (Lit.int .i64 y).wf = true) → ∃ k : Nat, P.laws_FnExactIsParse.f k x0 x1 x2 = some true := by
  intro x0 x1 x2 ⟨hl0, hg0⟩ _ _
  refine ⟨3000000, ?_⟩
  unfold laws_FnExactIsParse.f
  by_cases hsx1 : (x1.length : Int) > 1048576
  · rw [if_pos hsx1]
  rw [if_neg hsx1]
  have hx1 : x1.length ≤ 1048576 := by omega
  by_cases hsx2 : (x2.length : Int) > 1048576
  · rw [if_pos hsx2]
  rw [if_neg hsx2]
  have hx2 : x2.length ≤ 1048576 := by omega
  obtain ⟨r, hr, h⟩ := szPatternS_some hl0 hg0 (a := 1048576) (by omega) (by omega) (k := 3000000) (by omega)
  rw [hr]; simp only [Option.bind_some]
  by_cases h0 : r < 0
  · rw [if_pos h0]
  rw [if_neg h0]
  obtain ⟨_, _, z0, s0⟩ := h.resolve_left h0
  have hz : (x0.map cPattern).length ≤ 1048576 := by simpa using z0
  have hT : ∀ k, 2097200 ≤ k → laws_toPatternS.f k x0 = some (x0.map cPattern) := fun k hk => toPatternS_eq z0 s0 (by omega)
  have hE : ∀ k, 2097200 ≤ k → laws_eqPatternS.f k (x0.map cPattern) (x0.map cPattern) = some true := fun k hk => by rw [eqPatternS_eq hz (smi_pats s0) (by omega)]; simp
  rw [hT _ (by omega)]
  simp only [Option.bind_some]
  generalize x0.map cPattern = l at hz hT hE ⊢
  rw [toInt64S_eq hx1 (by omega)]; simp only [Option.bind_some]
  rw [toInt64S_eq hx2 (by omega)]; simp only [Option.bind_some]
  obtain ⟨v, hS, hI⟩ : ∃ v, (∀ k, 2990000 ≤ k → spec_IsParse.f k l x1 x2 = some v) ∧ (∀ k, 2990000 ≤ k → impl_IsParse.f k l x1 x2 = some v) := by
    by_cases h : askP l x1 = 0
    · have hok := parse_ok (a := 0) (by rw [place_zero]; exact h)
      refine ⟨isP l x1 x2 0, fun k hk => ?_, fun k hk => ?_⟩
      · unfold spec_IsParse.f; rw [l11Ask_eq hz hx1 (by omega)]; simp only [Option.bind_some]
        rw [if_pos h, isP_spec hok hx2 (by omega)]; rfl
      · unfold impl_IsParse.f; rw [parseCode_eq l x1 0 (by omega), place_zero]; simp only [Option.bind_some]
        rw [if_pos h, isP_impl hok hx2 (by omega)]; rfl
    · refine ⟨false, fun k hk => ?_, fun k hk => ?_⟩
      · unfold spec_IsParse.f; rw [l11Ask_eq hz hx1 (by omega)]; simp only [Option.bind_some]
        rw [if_neg h]
      · unfold impl_IsParse.f; rw [parseCode_eq l x1 0 (by omega), place_zero]; simp only [Option.bind_some]
        rw [if_neg h]
  rw [hS _ (by omega)]
  simp only [Option.bind_some]
  rw [hI _ (by omega)]
  simp only [Option.bind_some, bne_self_eq_false, Bool.false_eq_true, if_false]
  rw [hE _ (by omega)]; simp only [Option.bind_some, if_true]
  rw [eqInt64S_eq hx1 (by omega)]; simp only [Option.bind_some, decide_true, if_true]
  rw [eqInt64S_eq hx2 (by omega)]; simp
end Go.Proofs.Ytihphgiopjiohaa.Pure
