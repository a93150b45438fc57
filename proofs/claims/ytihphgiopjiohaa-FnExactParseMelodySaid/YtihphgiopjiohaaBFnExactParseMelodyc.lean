/- Part c of what FnExactParseMelody stands on: functions of the program as Lean functions with their walks, and plain lemmas. -/
import Derived.Test.YtihphgiopjiohaaK
import Derived.Test.YtihphgiopjiohaaBFnExactParseMelodyb
import Derived.Test.YtihphgiopjiohaaBFnExactParseMelodya
import Derived.ChangeOld
import Derived.ChangeArms
import Derived.WideShapes
import Derived.Test.YtihphgiopjiohaaWWords
import Derived.KernelRfl
/- impl_parseCosts: what it answers, and that the machine's call comes to it. -/
namespace Go.Proofs.Ytihphgiopjiohaa.P
open Go.RowKit Go.Proofs.YtihphgiopjiohaaW.PrintWords Go.Proofs.YtihphgiopjiohaaW.PrintLast Go.Proofs.YtihphgiopjiohaaW.PrintMore
attribute [local go_sem] max2_int min2_int max_two min_two max_three min_three max_four min_four str_leq str_gtr str_geq
set_option linter.unusedVariables false
set_option linter.unusedSimpArgs false

/-! ### impl_parseCosts: function 51 -/
mutual
def impl_parseCosts.l0 : Nat → List (S47) → List Int → Int → List Int → Int → Option (List Int)
  | 0, _, _, _, _, _ => none
  | k + 1, x0, x1, x2, x7, x8 => if x8 ≥ 0 then (if 0 ≤ (wrap64 (x8 + 1)) then (if (wrap64 (x8 + 1)) < (x7.length : Int) then (if 0 ≤ x8 then (if x8 < (x7.length : Int) then ((impl_patternsAt.f k x0 x1 x8).bind fun t106 => (impl_parseCosts.l1 k x0 x1 x2 (x7.set (x8 : Int).toNat (wrap64 (x2 + (rd x7 (wrap64 (x8 + 1)))))) x8 t106 (t106.length : Int) 0)) else (none)) else (none)) else (none)) else (none)) else (some x7)
def impl_parseCosts.l1 : Nat → List (S47) → List Int → Int → List Int → Int → List Int → Int → Int → Option (List Int)
  | 0, _, _, _, _, _, _, _, _ => none
  | k + 1, x0, x1, x2, x7, x8, x35, x36, x37 => if x37 < x36 then (if 0 ≤ x37 then (if x37 < (x35.length : Int) then (if 0 ≤ x8 then (if x8 < (x7.length : Int) then (if 0 ≤ (rd x35 x37) then (if (rd x35 x37) < (x0.length : Int) then (if 0 ≤ (wrap64 (x8 + (((rd_T47 x0 (rd x35 x37)).f0).length : Int))) then (if (wrap64 (x8 + (((rd_T47 x0 (rd x35 x37)).f0).length : Int))) < (x7.length : Int) then (impl_parseCosts.l1 k x0 x1 x2 (x7.set (x8 : Int).toNat (mn (rd x7 x8) (wrap64 (((rd_T47 x0 (rd x35 x37)).f1) + (rd x7 (wrap64 (x8 + (((rd_T47 x0 (rd x35 x37)).f0).length : Int)))))))) x8 x35 x36 (wrap64 (x37 + 1))) else (none)) else (none)) else (none)) else (none)) else (none)) else (none)) else (none)) else (none)) else (impl_parseCosts.l0 k x0 x1 x2 x7 (wrap64 (x8 - 1)))
end
def impl_parseCosts.f (k : Nat) (l0 : List (S47)) (l1 : List Int) (a2 : Int) : Option (List Int) := if 0 ≤ (wrap64 ((l1.length : Int) + 1)) then (if (wrap64 ((l1.length : Int) + 1) : Int).toNat ≤ 35184372088832 then (impl_parseCosts.l0 k l0 l1 a2 (List.replicate (wrap64 ((l1.length : Int) + 1) : Int).toNat 0) (wrap64 ((l1.length : Int) - 1))) else (none)) else (none)
theorem impl_parseCosts.mono_l : ∀ k, (∀ y0 y1 y2 y3 y4, LeO (impl_parseCosts.l0 k y0 y1 y2 y3 y4) (impl_parseCosts.l0 (k + 1) y0 y1 y2 y3 y4)) ∧ (∀ y0 y1 y2 y3 y4 y5 y6 y7, LeO (impl_parseCosts.l1 k y0 y1 y2 y3 y4 y5 y6 y7) (impl_parseCosts.l1 (k + 1) y0 y1 y2 y3 y4 y5 y6 y7))
  | 0 => ⟨fun _ _ _ _ _ r h => by simp [impl_parseCosts.l0] at h, fun _ _ _ _ _ _ _ _ r h => by simp [impl_parseCosts.l1] at h⟩
  | k + 1 => by
    obtain ⟨ih0, ih1⟩ := impl_parseCosts.mono_l k
    refine ⟨?_, ?_⟩
    · intro y0 y1 y2 y3 y4
      unfold impl_parseCosts.l0
      repeat' first
      | (with_reducible exact ih0 _ _ _ _ _)
      | (with_reducible exact ih1 _ _ _ _ _ _ _ _)
      | (with_reducible exact impl_patternsAt.mono _ _ _ _)
      | (with_reducible exact LeO.refl _)
      | (with_reducible exact LeO.none _)
      | (with_reducible refine LeO.ite ?_ ?_)
      | (with_reducible refine LeO.bind ?_ (fun _ => ?_))
      | exact ih0 _ _ _ _ _
      | exact ih1 _ _ _ _ _ _ _ _
      | exact impl_patternsAt.mono _ _ _ _
      | exact LeO.none _
      | refine LeO.ite ?_ ?_
      | refine LeO.bind ?_ (fun _ => ?_)
    · intro y0 y1 y2 y3 y4 y5 y6 y7
      unfold impl_parseCosts.l1
      repeat' first
      | (with_reducible exact ih0 _ _ _ _ _)
      | (with_reducible exact ih1 _ _ _ _ _ _ _ _)
      | (with_reducible exact impl_patternsAt.mono _ _ _ _)
      | (with_reducible exact LeO.refl _)
      | (with_reducible exact LeO.none _)
      | (with_reducible refine LeO.ite ?_ ?_)
      | (with_reducible refine LeO.bind ?_ (fun _ => ?_))
      | exact ih0 _ _ _ _ _
      | exact ih1 _ _ _ _ _ _ _ _
      | exact impl_patternsAt.mono _ _ _ _
      | exact LeO.none _
      | refine LeO.ite ?_ ?_
      | refine LeO.bind ?_ (fun _ => ?_)
theorem impl_parseCosts.mono : ∀ a0 a1 a2 k, LeO (impl_parseCosts.f k a0 a1 a2) (impl_parseCosts.f (k + 1) a0 a1 a2) := by
  intro a0 a1 a2 k
  obtain ⟨ih0, ih1⟩ := impl_parseCosts.mono_l k
  unfold impl_parseCosts.f
  repeat' first
      | (with_reducible exact ih0 _ _ _ _ _)
      | (with_reducible exact ih1 _ _ _ _ _ _ _ _)
      | (with_reducible exact impl_patternsAt.mono _ _ _ _)
      | (with_reducible exact LeO.refl _)
      | (with_reducible exact LeO.none _)
      | (with_reducible refine LeO.ite ?_ ?_)
      | (with_reducible refine LeO.bind ?_ (fun _ => ?_))
      | exact ih0 _ _ _ _ _
      | exact ih1 _ _ _ _ _ _ _ _
      | exact impl_patternsAt.mono _ _ _ _
      | exact LeO.none _
      | refine LeO.ite ?_ ?_
      | refine LeO.bind ?_ (fun _ => ?_)
def impl_parseCosts.T9 : Bool × List (List Nat × List Nat) := (true, [([], []), ([], []), ([], []), ([], []), ([2, 3], [2, 3]), ([4], [4]), ([], []), ([], []), ([6, 7], [6, 7]), ([8], [8]), ([9], [9]), ([], []), ([], []), ([], []), ([], []), ([13, 14], [13, 14]), ([15], [15]), ([16], [16]), ([17], [17]), ([12, 18], [12, 18]), ([11, 19], [11, 19]), ([20], [20]), ([10, 21], [10, 21]), ([5, 22], [5, 22]), ([0, 1, 0, 1, 2, 3, 4, 5, 6, 7, 8, 9, 10, 11, 12, 13, 14, 15, 16, 17, 18, 19, 20, 21, 22, 23], [0, 1]), ([24, 23, 0, 1, 2, 3, 4, 5, 6, 7, 8, 9, 10, 11, 12, 13, 14, 15, 16, 17, 18, 19, 20, 21, 22, 23], [23, 24])])
def impl_parseCosts.B9 : List Nat := [0, 0, 0, 0, 12, 28, 0, 0, 192, 448, 960, 0, 0, 0, 0, 24576, 57344, 122880, 253952, 520192, 1046528, 2095104, 4194240, 8388604, 16777215, 33554431]
theorem impl_parseCosts.tab9 : rtab .any (opsOf Try.f51 9) = impl_parseCosts.T9 := by kernel_rfl
theorem impl_parseCosts.bits9 : waitsOk impl_parseCosts.T9.2 impl_parseCosts.B9 = true := by kernel_rfl
set_option maxHeartbeats 8000000 in
set_option maxRecDepth 100000 in
theorem impl_parseCosts.calls (k : Nat) (A0 : Option Addr) (c0 : Nat) (l0 : List (S47)) (A1 : Option Addr) (c1 : Nat) (l1 : List Int) (a2 : Int) (r : List Int) (w : World) (hr0 : Kd.C k47 w A0 l0.length l0) (hc0 : l0.length ≤ c0) (hr1 : Kd.C (Kd.int .i64) w A1 l1.length l1) (hc1 : l1.length ≤ c1) (h : impl_parseCosts.f k l0 l1 a2 = some r) :
    Calls Try.prog 51 #[.slice A0 l0.length c0, .slice A1 l1.length c1, .int .i64 a2] w fun e w' => ∃ v0_ : Value, e = .returned (v0_) ∧ Kd.R (Kd.int .i64) 2 w' w.heap.size (fun _ => True) v0_ r ∧ Below w.heap.size w w' := by
  have HR0 := Aside0.mk hr0
  have HC0 := Aside0.mk hc0
  clear hr0 hc0
  have HR1 := Aside0.mk hr1
  have HC1 := Aside0.mk hc1
  clear hr1 hc1
  have HB := Aside0.mk (Below.refl w.heap.size w)
  have H : (if 0 ≤ (wrap64 ((l1.length : Int) + 1)) then (if (wrap64 ((l1.length : Int) + 1) : Int).toNat ≤ 35184372088832 then (impl_parseCosts.l0 k l0 l1 a2 (List.replicate (wrap64 ((l1.length : Int) + 1) : Int).toNat 0) (wrap64 ((l1.length : Int) - 1))) else (none)) else (none)) = some r := h
  clear h
  obtain ⟨ji4, hji4⟩ : ∃ j_ : Int, (wrap64 ((l1.length : Int) + 1)) = j_ := ⟨_, rfl⟩
  replace H : (if 0 ≤ (ji4) then (if (ji4 : Int).toNat ≤ 35184372088832 then (impl_parseCosts.l0 k l0 l1 a2 (List.replicate (ji4 : Int).toNat 0) (wrap64 ((l1.length : Int) - 1))) else (none)) else (none)) = some r := by first | (rw [hji4] at H; exact H) | (simp only [hji4] at H ⊢; exact H)
  have hji4w : (IntKind.i64.wrap ((l1.length : Int) + 1)) = ji4 := (i64_w _).trans hji4
  by_cases c5 : 0 ≤ (ji4)
  · rw [if_pos c5] at H
    have c5b0 := eq_true c5
    have c5b1 : decide (0 ≤ (ji4)) = true := decide_eq_true c5
    clear c5
    by_cases c6 : (ji4 : Int).toNat ≤ 35184372088832
    · rw [if_pos c6] at H
      have c6b0 := eq_true c6
      have c6b1 : decide ((ji4 : Int).toNat ≤ 35184372088832) = true := decide_eq_true c6
      clear c6
      obtain ⟨y101, hy101⟩ : ∃ y_ : List Int, y_ = (List.replicate (ji4 : Int).toNat 0) := ⟨_, rfl⟩
      replace H : (impl_parseCosts.l0 k l0 l1 a2 y101 (wrap64 ((l1.length : Int) - 1))) = some r := by first | (rw [hy101]; with_reducible exact H) | (have H2_ := (Option.bind_some _ _).symm.trans H; rw [hy101]; with_reducible exact H2_) | (have H2_ := (Option.bind_some _ _).symm.trans H; with_reducible exact H2_) | with_reducible exact H | (rw [hy101]; exact H) | exact H
      have Ny101 := Aside0.mk hy101
      clear hy101
      have H' := Aside0.mk H
      clear H
      go_enter Try.func51, Try.ntmps51
      go_wp2_with (first | ((with_reducible refine gate_dst (N := 14) rfl ?_); refine Kd.R_make (Kd.int .i64) _ 2 rfl (N := 14) rfl 29 _ _ rfl ji4 rfl rfl Try.underlying29 (.int .i64 0) 8 info2 rfl (by decide) (by omega) 0 (ok := fun _ => True) (okp := fun _ => True) rfl (fun _ hk => hk) trivial (of_decide_eq_true (by first | (with_reducible assumption) | assumption)) (Nat.le_trans (Nat.mul_le_mul_right _ (of_decide_eq_true (by first | (with_reducible assumption) | assumption) : ji4.toNat ≤ 35184372088832)) (by omega)) (Below.refl _ _) (Nat.le_refl _) ?_; intro v102 w7 ho8 hb hg_ hnew_; clear hg_ hnew_; (first | rw [← Ny101.out] at ho8 | (simp only [Int.reduceToNat] at ho8; rw [← Ny101.out] at ho8)); have n0_ := Aside0.mk (Kd.R_lower ho8 (below_size (by repeat (first | (with_reducible first | exact HB.out | apply below_alloc | apply pw_below_drewN | apply below_drew1) | exact HB.out)))); have n1_ := Aside0.mk (below_step (by repeat (first | (with_reducible first | exact HB.out | apply below_alloc | apply pw_below_drewN | apply below_drew1) | exact HB.out)) hb); clear HB; have HO103 := n0_; have HB := n1_; clear n0_ n1_; clear hb ho8))
      go_loopg [8] k (fun kq v8 w' => ∃ (x7_1 : List Int) (x8_1 : Int), v8 = .int .i64 x8_1 ∧ Aside0 (impl_parseCosts.l0 kq l0 l1 a2 x7_1 x8_1 = some r) ∧ Aside0 (kq ≤ k) ∧ Aside0 (Kd.R (Kd.int .i64) 2 w' w.heap.size (fun _ => True) v102 x7_1) ∧ Aside0 (Below w.heap.size w w'))
      case atStart => exact ⟨(y101), (wrap64 ((l1.length : Int) - 1)), (by first | rfl | (simp; done) | (simp [*]; done)), H', ⟨Nat.le_refl _⟩, ⟨by (with_reducible repeat (first | apply Kd.R_alloc | apply Kd.R_drewN | apply Kd.R_drew)); exact HO103.out⟩, ⟨by repeat (first | (with_reducible first | exact HB.out | apply below_alloc | apply pw_below_drewN | apply below_drew1) | exact HB.out)⟩⟩
      case round =>
        clear H'
        try clear c1
        try clear p2
        try clear c5
        try clear c5b0
        try clear c5b1
        try clear c6
        try clear c6b0
        try clear c6b1
        try clear p6
        obtain ⟨x7_1, x8_1, rfl, HA, HK1, HO_7, HB⟩ := hrel
        cases gk with
        | zero => exact absurd HA.out (by simp [impl_parseCosts.l0])
        | succ k1 =>
          have H := HA.out
          clear HA
          simp only [impl_parseCosts.l0] at H
          by_cases c9 : x8_1 ≥ 0
          · rw [if_pos c9] at H
            have c9b0 : decide (0 ≤ x8_1) = true := decide_eq_true c9
            clear c9
            obtain ⟨ji10, hji10⟩ : ∃ j_ : Int, (wrap64 (x8_1 + 1)) = j_ := ⟨_, rfl⟩
            replace H : (if 0 ≤ (ji10) then (if (ji10) < (x7_1.length : Int) then (if 0 ≤ x8_1 then (if x8_1 < (x7_1.length : Int) then ((impl_patternsAt.f k1 l0 l1 x8_1).bind fun t106 => (impl_parseCosts.l1 k1 l0 l1 a2 (x7_1.set (x8_1 : Int).toNat (wrap64 (a2 + (rd x7_1 (ji10))))) x8_1 t106 (t106.length : Int) 0)) else (none)) else (none)) else (none)) else (none)) = some r := by first | (rw [hji10] at H; exact H) | (simp only [hji10] at H ⊢; exact H)
            have hji10w : (IntKind.i64.wrap (x8_1 + 1)) = ji10 := (i64_w _).trans hji10
            by_cases c11 : 0 ≤ (ji10)
            · rw [if_pos c11] at H
              have c11b0 : decide (0 ≤ (ji10)) = true := decide_eq_true c11
              clear c11
              by_cases c12 : (ji10) < (x7_1.length : Int)
              · rw [if_pos c12] at H
                have c12b0 : decide ((ji10) < (x7_1.length : Int)) = true := decide_eq_true c12
                clear c12
                by_cases c13 : 0 ≤ x8_1
                · rw [if_pos c13] at H
                  have c13b0 : decide (0 ≤ x8_1) = true := decide_eq_true c13
                  clear c13
                  by_cases c14 : x8_1 < (x7_1.length : Int)
                  · rw [if_pos c14] at H
                    have c14b0 : decide (x8_1 < (x7_1.length : Int)) = true := decide_eq_true c14
                    clear c14
                    obtain ⟨y105, hy105⟩ : ∃ y_ : List Int, y_ = (x7_1.set (x8_1 : Int).toNat (wrap64 (a2 + (rd x7_1 (ji10))))) := ⟨_, rfl⟩
                    replace H : ((impl_patternsAt.f k1 l0 l1 x8_1).bind fun t106 => (impl_parseCosts.l1 k1 l0 l1 a2 y105 x8_1 t106 (t106.length : Int) 0)) = some r := by first | (rw [hy105]; with_reducible exact H) | (have H2_ := (Option.bind_some _ _).symm.trans H; rw [hy105]; with_reducible exact H2_) | (have H2_ := (Option.bind_some _ _).symm.trans H; with_reducible exact H2_) | with_reducible exact H | (rw [hy105]; exact H) | exact H
                    have Ny105 := Aside0.mk hy105
                    clear hy105
                    replace H := Option.bind_eq_some_iff.mp H
                    obtain ⟨t106, A160, H⟩ := H
                    replace H : (impl_parseCosts.l1 k1 l0 l1 a2 y105 x8_1 t106 (t106.length : Int) 0) = some r := H
                    have A16 := Aside0.mk A160
                    clear A160
                    have H' := Aside0.mk H
                    clear H
                    obtain ⟨Ao17, co17, eo17⟩ := Kd.R_slice HO_7.out
                    subst eo17
                    have p104 : 0 ≤ ((ji10) : Int) := of_decide_eq_true (by first | (with_reducible assumption) | assumption)
                    have q104 : (ji10) < (x7_1.length : Int) := of_decide_eq_true (by first | (with_reducible assumption) | assumption)
                    obtain ⟨ad104, e104, hx104_0⟩ := Kd.at_int (Kd.R_reads' HO_7.out).2.2 (ji10) p104 q104
                    cases e104
                    replace p104 := eq_true p104
                    replace q104 := eq_true q104
                    have p15 : 0 ≤ (x8_1 : Int) := of_decide_eq_true (by first | (with_reducible assumption) | assumption)
                    have q15 : (x8_1 : Int) < ((x7_1.length : Int) : Int) := of_decide_eq_true (by first | (with_reducible assumption) | assumption)
                    obtain ⟨go15, co15, eo15, gb15, gl15, cl15, HG15⟩ := Kd.R_form HO_7.out (by omega)
                    (first | cases eo15 | (injection eo15 with ea_ en_ ec_; (first | subst ea_ | (injection ea_ with ea_; subst ea_)); subst ec_; clear en_))
                    have GB15 := Aside0.mk gb15
                    have GG15 := Aside0.mk HG15
                    clear gb15 gl15 HG15
                    (first | simp only [add_plain] at hx104_0 | skip)
                    obtain ⟨hx15_0, hf15_0⟩ := Kd.R_celln 0 HO_7.out (x8_1 : Int) p15 q15
                    replace p15 := eq_true p15
                    replace q15 := eq_true q15
                    have HP18 := Kd.R_putg HO_7.out (x8_1 : Int) (wrap64 (a2 + (rd x7_1 (ji10))))
                    go_wp2_with (first | ((with_reducible refine gate_store (t := 2) (p := 31) rfl ?_); refine store_event (t := 2) (p := 31) (v := ?vo_w19) (w1 := (wr.setCell ⟨go15, (x8_1 : Int).toNat, none⟩ (.int .i64 (wrap64 (a2 + (rd x7_1 (ji10))))))) ?hg ?ho ?hn ?hr ?_; (case ho => rfl); (case hg => rfl); (case hn => rfl); (case hr => first | (go_simp; done) | (go_simp; rfl)); intro w19 hw; have hg : wr.grownBy w19 (some go15) := (by rw [hw]; exact HP18.2); have hp_ : Kd.R (Kd.int .i64) 2 w19 w.heap.size (fun _ => True) (.slice (some ⟨go15, 0, none⟩) x7_1.length co17) y105 := (by rw [hw, Ny105.out]; exact HP18.1); clear HP18; have n0_ := Aside0.mk (hp_); have n1_ := Aside0.mk ((by rw [hw]; exact below_set (HB.out) GB15.out : Below w.heap.size w w19)); clear HO_7; clear HB; have HO_7 := n0_; have HB := n1_; clear n0_ n1_; clear hg hw hp_) | ((with_reducible refine gate_callee (f := 47) rfl ?_); refine goesL_ (some 35) rfl rfl Try.func47 (by kernel_rfl) rfl #[.slice A0 l0.length c0, .slice A1 l1.length c1, .int .i64 x8_1] rfl (by (try simp only [List.map_toArray, List.map_cons, List.map_nil]); first | done | rfl | (simp only [List.length_drop, List.length_take]; rfl)) ?_; (with_reducible refine (impl_patternsAt.calls k1 _ _ l0 _ _ l1 x8_1 t106 _ ?side1 ?side2 ?side3 ?side4 A16.out).mono ?_); (case side1 => repeat (first | exact (Kd.C_below HR0.out HB.out) | (with_reducible refine Kd.C_alloc ?_ _) | (with_reducible refine Kd.C_drewN ?_ _) | (with_reducible refine Kd.C_drew ?_))); (case side2 => exact HC0.out); (case side3 => repeat (first | exact (Kd.C_below HR1.out HB.out) | (with_reducible refine Kd.C_alloc ?_ _) | (with_reducible refine Kd.C_drewN ?_ _) | (with_reducible refine Kd.C_drew ?_))); (case side4 => exact HC1.out); rintro e w20 ⟨v107, rfl, ho0, hb⟩; refine ⟨_, rfl, ?_⟩; have n0_ := Aside0.mk (Kd.R_elder' (by (with_reducible repeat (first | apply Kd.R_alloc | apply Kd.R_drewN | apply Kd.R_drew)); exact HO_7.out) (Kd.R_base ho0) hb); have n1_ := Aside0.mk (Kd.R_lower (Kd.R_new' ho0 (Kd.R_lt (by (with_reducible repeat (first | apply Kd.R_alloc | apply Kd.R_drewN | apply Kd.R_drew)); exact HO_7.out))) (below_size (by repeat (first | (with_reducible first | exact HB.out | apply below_alloc | apply pw_below_drewN | apply below_drew1) | exact HB.out)))); have n2_ := Aside0.mk (below_step (by repeat (first | (with_reducible first | exact HB.out | apply below_alloc | apply pw_below_drewN | apply below_drew1) | exact HB.out)) hb); clear HO_7; clear HB; have HO_7 := n0_; have HO108 := n1_; have HB := n2_; clear n0_ n1_ n2_; (try clear hb); (try clear hb2); (try clear hk); (try clear hi); (try clear ho0); obtain ⟨Ao21, co21, eo21⟩ := Kd.R_slice HO108.out; subst eo21))
                    go_loopg [37] k1 (fun kq v37 w' => ∃ (x7_2 : List Int) (x37_2 : Int), v37 = .int .i64 x37_2 ∧ Aside0 (impl_parseCosts.l1 kq l0 l1 a2 x7_2 x8_1 t106 (t106.length : Int) x37_2 = some r) ∧ Aside0 (kq ≤ k1) ∧ Aside0 (Kd.R (Kd.int .i64) 2 w' w.heap.size (fun k_ => some k_ ≠ ((.slice Ao21 t106.length co21) : Value).ownBlock) (.slice (some ⟨go15, 0, none⟩) x7_1.length co17) x7_2) ∧ Aside0 (Kd.R (Kd.int .i64) 2 w' w.heap.size (fun k_ => some k_ ≠ ((.slice (some ⟨go15, 0, none⟩) x7_1.length co17) : Value).ownBlock) (.slice Ao21 t106.length co21) t106) ∧ Aside0 (Below w.heap.size w w'))
                    case atStart => exact ⟨(y105), (0), (by first | rfl | (simp; done) | (simp [*]; done)), H', ⟨Nat.le_refl _⟩, ⟨by (with_reducible repeat (first | apply Kd.R_alloc | apply Kd.R_drewN | apply Kd.R_drew)); exact Kd.R_mono HO_7.out (fun _ hk => hk.2)⟩, ⟨by (with_reducible repeat (first | apply Kd.R_alloc | apply Kd.R_drewN | apply Kd.R_drew)); exact Kd.R_mono HO108.out (fun _ hk => hk.2)⟩, ⟨by repeat (first | (with_reducible first | exact HB.out | apply below_alloc | apply pw_below_drewN | apply below_drew1) | exact HB.out)⟩⟩
                    case round =>
                      clear H'
                      try clear c1
                      try clear p1
                      try clear q1
                      try clear hx1
                      try clear p2
                      try clear c4
                      try clear c5
                      try clear c5b0
                      try clear c5b1
                      try clear c6
                      try clear c6b0
                      try clear c6b1
                      try clear p6
                      try clear c9
                      try clear c9b0
                      try clear p10
                      try clear q10
                      try clear hx10
                      try clear c11
                      try clear c11b0
                      try clear c12
                      try clear c12b0
                      try clear c13
                      try clear c13b0
                      try clear c14
                      try clear c14b0
                      try clear p15
                      try clear q15
                      try clear hx15
                      try clear hf15
                      try clear hx104_0
                      try clear hx15_0
                      try clear p104
                      try clear p15
                      try clear p2
                      try clear p6
                      try clear q104
                      try clear q15
                      obtain ⟨x7_2, x37_2, rfl, HA, HK2, HO_7, HO_35, HB⟩ := hrel
                      have hl7_2 := (Kd.R_reads' HO_7.out).1
                      rw [hl7_2] at HO_7
                      (try simp only [hl7_2])
                      (try simp only [hl7_2] at HO_35)
                      cases gk with
                      | zero => exact absurd HA.out (by simp [impl_parseCosts.l1])
                      | succ k2 =>
                        have H := HA.out
                        clear HA
                        simp only [impl_parseCosts.l1] at H
                        by_cases c22 : x37_2 < (t106.length : Int)
                        · rw [if_pos c22] at H
                          have c22b0 : decide (x37_2 < (t106.length : Int)) = true := decide_eq_true c22
                          clear c22
                          by_cases c23 : 0 ≤ x37_2
                          · rw [if_pos c23] at H
                            have c23b0 : decide (0 ≤ x37_2) = true := decide_eq_true c23
                            clear c23
                            by_cases c24 : x37_2 < (t106.length : Int)
                            · rw [if_pos c24] at H
                              have c24b0 : decide (x37_2 < (t106.length : Int)) = true := decide_eq_true c24
                              clear c24
                              by_cases c25 : 0 ≤ x8_1
                              · rw [if_pos c25] at H
                                have c25b0 : decide (0 ≤ x8_1) = true := decide_eq_true c25
                                clear c25
                                by_cases c26 : x8_1 < (x7_2.length : Int)
                                · rw [if_pos c26] at H
                                  have c26b0 : decide (x8_1 < (x7_2.length : Int)) = true := decide_eq_true c26
                                  clear c26
                                  by_cases c27 : 0 ≤ (rd t106 x37_2)
                                  · rw [if_pos c27] at H
                                    have c27b0 : decide (0 ≤ (rd t106 x37_2)) = true := decide_eq_true c27
                                    clear c27
                                    by_cases c28 : (rd t106 x37_2) < (l0.length : Int)
                                    · rw [if_pos c28] at H
                                      have c28b0 : decide ((rd t106 x37_2) < (l0.length : Int)) = true := decide_eq_true c28
                                      clear c28
                                      obtain ⟨ji29, hji29⟩ : ∃ j_ : Int, (wrap64 (x8_1 + (((rd_T47 l0 (rd t106 x37_2)).f0).length : Int))) = j_ := ⟨_, rfl⟩
                                      replace H : (if 0 ≤ (ji29) then (if (ji29) < (x7_2.length : Int) then (impl_parseCosts.l1 k2 l0 l1 a2 (x7_2.set (x8_1 : Int).toNat (mn (rd x7_2 x8_1) (wrap64 (((rd_T47 l0 (rd t106 x37_2)).f1) + (rd x7_2 (ji29)))))) x8_1 t106 (t106.length : Int) (wrap64 (x37_2 + 1))) else (none)) else (none)) = some r := by first | (rw [hji29] at H; exact H) | (simp only [hji29] at H ⊢; exact H)
                                      have hji29w : (IntKind.i64.wrap (x8_1 + (((rd_T47 l0 (rd t106 x37_2)).f0).length : Int))) = ji29 := (i64_w _).trans hji29
                                      by_cases c30 : 0 ≤ (ji29)
                                      · rw [if_pos c30] at H
                                        have c30b0 : decide (0 ≤ (ji29)) = true := decide_eq_true c30
                                        clear c30
                                        by_cases c31 : (ji29) < (x7_2.length : Int)
                                        · rw [if_pos c31] at H
                                          have c31b0 : decide ((ji29) < (x7_2.length : Int)) = true := decide_eq_true c31
                                          clear c31
                                          obtain ⟨ji32, hji32⟩ : ∃ j_ : Int, (mn (rd x7_2 x8_1) (wrap64 (((rd_T47 l0 (rd t106 x37_2)).f1) + (rd x7_2 (ji29))))) = j_ := ⟨_, rfl⟩
                                          replace H : (impl_parseCosts.l1 k2 l0 l1 a2 (x7_2.set (x8_1 : Int).toNat (ji32)) x8_1 t106 (t106.length : Int) (wrap64 (x37_2 + 1))) = some r := by first | (rw [hji32] at H; exact H) | (simp only [hji32] at H ⊢; exact H)
                                          have hji32_ : (if (wrap64 (((rd_T47 l0 (rd t106 x37_2)).f1) + (rd x7_2 (ji29)))) < (rd x7_2 x8_1) then (wrap64 (((rd_T47 l0 (rd t106 x37_2)).f1) + (rd x7_2 (ji29)))) else (rd x7_2 x8_1)) = ji32 := hji32
                                          obtain ⟨y114, hy114⟩ : ∃ y_ : List Int, y_ = (x7_2.set (x8_1 : Int).toNat (ji32)) := ⟨_, rfl⟩
                                          replace H : (impl_parseCosts.l1 k2 l0 l1 a2 y114 x8_1 t106 (t106.length : Int) (wrap64 (x37_2 + 1))) = some r := by first | (rw [hy114]; with_reducible exact H) | (have H2_ := (Option.bind_some _ _).symm.trans H; rw [hy114]; with_reducible exact H2_) | (have H2_ := (Option.bind_some _ _).symm.trans H; with_reducible exact H2_) | with_reducible exact H | (rw [hy114]; exact H) | exact H
                                          have Ny114 := Aside0.mk hy114
                                          clear hy114
                                          have H' := Aside0.mk H
                                          clear H
                                          have p109 : 0 ≤ (x37_2 : Int) := of_decide_eq_true (by first | (with_reducible assumption) | assumption)
                                          have q109 : x37_2 < (t106.length : Int) := of_decide_eq_true (by first | (with_reducible assumption) | assumption)
                                          obtain ⟨ad109, e109, hx109_0⟩ := Kd.at_int (Kd.R_reads' HO_35.out).2.2 x37_2 p109 q109
                                          cases e109
                                          replace p109 := eq_true p109
                                          replace q109 := eq_true q109
                                          try go_wp2
                                          have n0_ := Aside0.mk (Kd.R_drew HO_7.out)
                                          have n1_ := Aside0.mk (Kd.R_drew HO_35.out)
                                          have n2_ := Aside0.mk (below_drew1 HB.out)
                                          clear HO_7
                                          clear HO_35
                                          clear HB
                                          have HO_7 := n0_
                                          have HO_35 := n1_
                                          have HB := n2_
                                          clear n0_ n1_ n2_
                                          have p110 : 0 ≤ (x8_1 : Int) := of_decide_eq_true (by first | (with_reducible assumption) | assumption)
                                          have q110 : x8_1 < (x7_2.length : Int) := of_decide_eq_true (by first | (with_reducible assumption) | assumption)
                                          obtain ⟨ad110, e110, hx110_0⟩ := Kd.at_int (Kd.R_reads' HO_7.out).2.2 x8_1 p110 q110
                                          obtain rfl : (⟨go15, 0, none⟩ : Addr) = ad110 := (by injection e110)
                                          (first | simp only [add_plain] at hx110_0 | simp only [add_at] at hx110_0 | simp only [Addr.add, Nat.zero_add] at hx110_0 | skip)
                                          replace p110 := eq_true p110
                                          replace q110 := eq_true q110
                                          have p111 : 0 ≤ ((rd t106 x37_2) : Int) := of_decide_eq_true (by first | (with_reducible assumption) | assumption)
                                          have q111 : (rd t106 x37_2) < (l0.length : Int) := of_decide_eq_true (by first | (with_reducible assumption) | assumption)
                                          obtain ⟨ad111, A111_0, c111_0, e111, hx111_0, hx111_1, hl111_0, hi111_0⟩ := at_T47 HR0.out (rd t106 x37_2) p111 q111
                                          have hw111_1 := hx111_1
                                          have hw111_0 := hx111_0
                                          cases e111
                                          replace hx111_0 := (HB.out.cell (World.block_lt_of_cell? w _ hx111_0)).trans hx111_0
                                          replace hx111_1 := (HB.out.cell (World.block_lt_of_cell? w _ hx111_1)).trans hx111_1
                                          have HR111_0 := Aside0.mk hi111_0
                                          have HC111_0 := Aside0.mk hl111_0
                                          clear hi111_0 hl111_0
                                          replace p111 := eq_true p111
                                          replace q111 := eq_true q111
                                          have p112 : 0 ≤ ((rd t106 x37_2) : Int) := of_decide_eq_true (by first | (with_reducible assumption) | assumption)
                                          have q112 : (rd t106 x37_2) < (l0.length : Int) := of_decide_eq_true (by first | (with_reducible assumption) | assumption)
                                          obtain ⟨ad112, A112_0, c112_0, e112, hx112_0, hx112_1, hl112_0, hi112_0⟩ := at_T47 HR0.out (rd t106 x37_2) p112 q112
                                          have hw112_1 := hx112_1
                                          have hw112_0 := hx112_0
                                          obtain rfl : ad111 = ad112 := (by injection e112)
                                          replace hx112_0 := (HB.out.cell (World.block_lt_of_cell? w _ hx112_0)).trans hx112_0
                                          replace hx112_1 := (HB.out.cell (World.block_lt_of_cell? w _ hx112_1)).trans hx112_1
                                          have HR112_0 := Aside0.mk hi112_0
                                          have HC112_0 := Aside0.mk hl112_0
                                          clear hi112_0 hl112_0
                                          replace p112 := eq_true p112
                                          replace q112 := eq_true q112
                                          have ea_ := Option.some.inj (hx111_0.symm.trans hx112_0)
                                          injection ea_ with ea_ en_ ec_
                                          subst ea_
                                          subst ec_
                                          clear en_
                                          have p113 : 0 ≤ ((ji29) : Int) := of_decide_eq_true (by first | (with_reducible assumption) | assumption)
                                          have q113 : (ji29) < (x7_2.length : Int) := of_decide_eq_true (by first | (with_reducible assumption) | assumption)
                                          obtain ⟨ad113, e113, hx113_0⟩ := Kd.at_int (Kd.R_reads' HO_7.out).2.2 (ji29) p113 q113
                                          obtain rfl : (⟨go15, 0, none⟩ : Addr) = ad113 := (by injection e113)
                                          (first | simp only [add_plain] at hx113_0 | simp only [add_at] at hx113_0 | simp only [Addr.add, Nat.zero_add] at hx113_0 | skip)
                                          replace p113 := eq_true p113
                                          replace q113 := eq_true q113
                                          have p33 : 0 ≤ (x8_1 : Int) := of_decide_eq_true (by first | (with_reducible assumption) | assumption)
                                          have q33 : (x8_1 : Int) < ((x7_2.length : Int) : Int) := of_decide_eq_true (by first | (with_reducible assumption) | assumption)
                                          obtain ⟨hx33_0, hf33_0⟩ := Kd.R_celln 0 HO_7.out (x8_1 : Int) p33 q33
                                          replace p33 := eq_true p33
                                          replace q33 := eq_true q33
                                          have HP35 := Kd.R_putn HO_7.out (x8_1 : Int) ji32
                                          rw [← Ny114.out] at HP35
                                          have HQ35 := Aside0.mk HP35
                                          clear HP35
                                          refine start_ (n := 26) (S := fun w' => w'.cell? ⟨go15, (x8_1).toNat, none⟩ = some (.int .i64 (rd x7_2 x8_1)) ∧ w'.cell? (ad111.add (((rd t106 x37_2)).toNat * 2)) = some (.slice A111_0 ((rd_T47 l0 (rd t106 x37_2)).f0).length c111_0) ∧ w'.cell? ⟨(ad111.add (((rd t106 x37_2)).toNat * 2)).block, (ad111.add (((rd t106 x37_2)).toNat * 2)).off + 1, none⟩ = some (.int .i64 ((rd_T47 l0 (rd t106 x37_2)).f1)) ∧ w'.cell? (ad111.add (((rd t106 x37_2)).toNat * 2)) = some (.slice A111_0 ((rd_T47 l0 (rd t106 x37_2)).f0).length c111_0) ∧ w'.cell? ⟨(ad111.add (((rd t106 x37_2)).toNat * 2)).block, (ad111.add (((rd t106 x37_2)).toNat * 2)).off + 1, none⟩ = some (.int .i64 ((rd_T47 l0 (rd t106 x37_2)).f1)) ∧ w'.cell? ⟨go15, ((ji29)).toNat, none⟩ = some (.int .i64 (rd x7_2 (ji29)))) (ds := [25]) #[false, false, false, false, false, false, false, false, false, false, false, false, false, false, false, false, false, false, false, false, false, false, false, false, false, false] (by kernel_rfl) rfl rfl ⟨hx110_0, ((HB.out.cell (World.block_lt_of_cell? w _ hw111_0)).trans hw111_0), ((HB.out.cell (World.block_lt_of_cell? w _ hw111_1)).trans hw111_1), ((HB.out.cell (World.block_lt_of_cell? w _ hw112_0)).trans hw112_0), ((HB.out.cell (World.block_lt_of_cell? w _ hw112_1)).trans hw112_1), hx113_0⟩ (fun hHeld => ?_); refine with_tabW impl_parseCosts.tab9 impl_parseCosts.bits9 (fun HT_ HW_ => ?_)
                                          generalize wr.drew = w34 at HO_7 HO_35 HB HQ35 HR111_0 HR112_0 hf33_0 hx110_0 hx111_0 hx111_1 hx112_0 hx112_1 hx113_0 hx33_0 hHeld ⊢
                                          refine pure_ (i := 0) (N := some 41) (v := ?_) (a' := ?_) #[true, false, false, false, false, false, false, false, false, false, false, false, false, false, false, false, false, false, false, false, false, false, false, false, false, false] rfl rfl (any_of HT_.out (by kernel_rfl)) (fun _ _ _ h => h) (Or.inl ⟨by rfl, ?_⟩) ?_ ?_
                                          rotate_left
                                          · intro w'
                                            go_simp
                                            with_reducible rfl
                                          rotate_left
                                          · simp only [Act.put, List.setIfInBounds_toArray, List.set_cons_zero, List.set_cons_succ, i64_w, i32_w]
                                            rfl
                                          refine pure_ (i := 1) (N := some 42) (v := ?_) (a' := ?_) #[true, true, false, false, false, false, false, false, false, false, false, false, false, false, false, false, false, false, false, false, false, false, false, false, false, false] rfl rfl (any_of HT_.out (by kernel_rfl)) (fun _ _ _ h => h) (Or.inl ⟨by rfl, ?_⟩) ?_ ?_
                                          rotate_left
                                          · intro w'
                                            go_simp
                                            with_reducible rfl
                                          rotate_left
                                          · simp only [Act.put, List.setIfInBounds_toArray, List.set_cons_zero, List.set_cons_succ, i64_w, i32_w]
                                            rfl
                                          refine pure_ (i := 2) (N := some 43) (v := ?_) (a' := ?_) #[true, true, true, false, false, false, false, false, false, false, false, false, false, false, false, false, false, false, false, false, false, false, false, false, false, false] rfl rfl (any_of HT_.out (by kernel_rfl)) (fun _ _ _ h => h) (Or.inl ⟨by rfl, ?_⟩) ?_ ?_
                                          rotate_left
                                          · intro w'
                                            go_simp
                                            with_reducible rfl
                                          rotate_left
                                          · simp only [Act.put, List.setIfInBounds_toArray, List.set_cons_zero, List.set_cons_succ, i64_w, i32_w]
                                            rfl
                                          refine pure_ (i := 3) (N := some 44) (v := ?_) (a' := ?_) #[true, true, true, true, false, false, false, false, false, false, false, false, false, false, false, false, false, false, false, false, false, false, false, false, false, false] rfl rfl (any_of HT_.out (by kernel_rfl)) (fun _ _ _ h => h) (Or.inl ⟨by rfl, ?_⟩) ?_ ?_
                                          rotate_left
                                          · intro w'
                                            go_simp
                                            with_reducible rfl
                                          rotate_left
                                          · simp only [Act.put, List.setIfInBounds_toArray, List.set_cons_zero, List.set_cons_succ, i64_w, i32_w]
                                            rfl
                                          refine pure_ (i := 4) (N := some 45) (v := ?_) (a' := ?_) #[true, true, true, true, true, false, false, false, false, false, false, false, false, false, false, false, false, false, false, false, false, false, false, false, false, false] rfl rfl (any_of HT_.out (by kernel_rfl)) (fun _ _ _ h => h) (Or.inl ⟨by rfl, ?_⟩) ?_ ?_
                                          rotate_left
                                          · intro w'
                                            go_simp
                                            with_reducible rfl
                                          rotate_left
                                          · simp only [Act.put, List.setIfInBounds_toArray, List.set_cons_zero, List.set_cons_succ, i64_w, i32_w]
                                            rfl
                                          refine pure_ (i := 6) (N := some 47) (v := ?_) (a' := ?_) #[true, true, true, true, true, false, true, false, false, false, false, false, false, false, false, false, false, false, false, false, false, false, false, false, false, false] rfl rfl (any_of HT_.out (by kernel_rfl)) (fun _ _ _ h => h) (Or.inl ⟨by rfl, ?_⟩) ?_ ?_
                                          rotate_left
                                          · intro w'
                                            go_simp
                                            with_reducible rfl
                                          rotate_left
                                          · simp only [Act.put, List.setIfInBounds_toArray, List.set_cons_zero, List.set_cons_succ, i64_w, i32_w]
                                            rfl
                                          refine pure_ (i := 7) (N := some 48) (v := ?_) (a' := ?_) #[true, true, true, true, true, false, true, true, false, false, false, false, false, false, false, false, false, false, false, false, false, false, false, false, false, false] rfl rfl (any_of HT_.out (by kernel_rfl)) (fun _ _ _ h => h) (Or.inl ⟨by rfl, ?_⟩) ?_ ?_
                                          rotate_left
                                          · intro w'
                                            go_simp
                                            with_reducible rfl
                                          rotate_left
                                          · simp only [Act.put, List.setIfInBounds_toArray, List.set_cons_zero, List.set_cons_succ, i64_w, i32_w]
                                            rfl
                                          refine pure_ (i := 8) (N := some 49) (v := ?_) (a' := ?_) #[true, true, true, true, true, false, true, true, true, false, false, false, false, false, false, false, false, false, false, false, false, false, false, false, false, false] rfl rfl (any_of HT_.out (by kernel_rfl)) (fun _ _ _ h => h) (Or.inl ⟨by rfl, ?_⟩) ?_ ?_
                                          rotate_left
                                          · intro w'
                                            go_simp
                                            with_reducible rfl
                                          rotate_left
                                          · simp only [Act.put, List.setIfInBounds_toArray, List.set_cons_zero, List.set_cons_succ, i64_w, i32_w]
                                            rfl
                                          refine pure_ (i := 9) (N := some 50) (v := ?_) (a' := ?_) #[true, true, true, true, true, false, true, true, true, true, false, false, false, false, false, false, false, false, false, false, false, false, false, false, false, false] rfl rfl (any_of HT_.out (by kernel_rfl)) (fun _ _ _ h => h) (Or.inl ⟨by rfl, ?_⟩) ?_ ?_
                                          rotate_left
                                          · intro w'
                                            go_simp
                                            with_reducible rfl
                                          rotate_left
                                          · simp only [Act.put, List.setIfInBounds_toArray, List.set_cons_zero, List.set_cons_succ, i64_w, i32_w]
                                            rfl
                                          refine pure_ (i := 11) (N := some 52) (v := ?_) (a' := ?_) #[true, true, true, true, true, false, true, true, true, true, false, true, false, false, false, false, false, false, false, false, false, false, false, false, false, false] rfl rfl (any_of HT_.out (by kernel_rfl)) (fun _ _ _ h => h) (Or.inl ⟨by rfl, ?_⟩) ?_ ?_
                                          rotate_left
                                          · intro w'
                                            go_simp
                                            with_reducible rfl
                                          rotate_left
                                          · simp only [Act.put, List.setIfInBounds_toArray, List.set_cons_zero, List.set_cons_succ, i64_w, i32_w]
                                            rfl
                                          refine pure_ (i := 12) (N := some 53) (v := ?_) (a' := ?_) #[true, true, true, true, true, false, true, true, true, true, false, true, true, false, false, false, false, false, false, false, false, false, false, false, false, false] rfl rfl (any_of HT_.out (by kernel_rfl)) (fun _ _ _ h => h) (Or.inl ⟨by rfl, ?_⟩) ?_ ?_
                                          rotate_left
                                          · intro w'
                                            go_simp
                                            with_reducible rfl
                                          rotate_left
                                          · simp only [Act.put, List.setIfInBounds_toArray, List.set_cons_zero, List.set_cons_succ, i64_w, i32_w]
                                            rfl
                                          refine pure_ (i := 13) (N := some 54) (v := ?_) (a' := ?_) #[true, true, true, true, true, false, true, true, true, true, false, true, true, true, false, false, false, false, false, false, false, false, false, false, false, false] rfl rfl (any_of HT_.out (by kernel_rfl)) (fun _ _ _ h => h) (Or.inl ⟨by rfl, ?_⟩) ?_ ?_
                                          rotate_left
                                          · intro w'
                                            go_simp
                                            with_reducible rfl
                                          rotate_left
                                          · simp only [Act.put, List.setIfInBounds_toArray, List.set_cons_zero, List.set_cons_succ, i64_w, i32_w]
                                            rfl
                                          refine pure_ (i := 14) (N := some 55) (v := ?_) (a' := ?_) #[true, true, true, true, true, false, true, true, true, true, false, true, true, true, true, false, false, false, false, false, false, false, false, false, false, false] rfl rfl (any_of HT_.out (by kernel_rfl)) (fun _ _ _ h => h) (Or.inl ⟨by rfl, ?_⟩) ?_ ?_
                                          rotate_left
                                          · intro w'
                                            go_simp
                                            with_reducible rfl
                                          rotate_left
                                          · simp only [Act.put, List.setIfInBounds_toArray, List.set_cons_zero, List.set_cons_succ, i64_w, i32_w]
                                            rfl
                                          refine pure_ (i := 15) (N := some 56) (v := ?_) (a' := ?_) #[true, true, true, true, true, false, true, true, true, true, false, true, true, true, true, true, false, false, false, false, false, false, false, false, false, false] rfl rfl (any_of HT_.out (by kernel_rfl)) (fun _ _ _ h => h) (Or.inl ⟨by rfl, ?_⟩) ?_ ?_
                                          rotate_left
                                          · intro w'
                                            go_simp
                                            with_reducible rfl
                                          rotate_left
                                          · simp only [Act.put, List.setIfInBounds_toArray, List.set_cons_zero, List.set_cons_succ, i64_w, i32_w]
                                            rfl
                                          refine pure_ (i := 16) (N := some 57) (v := ?_) (a' := ?_) #[true, true, true, true, true, false, true, true, true, true, false, true, true, true, true, true, true, false, false, false, false, false, false, false, false, false] rfl rfl (any_of HT_.out (by kernel_rfl)) (fun _ _ _ h => h) (Or.inl ⟨by rfl, ?_⟩) ?_ ?_
                                          rotate_left
                                          · intro w'
                                            go_simp
                                            with_reducible rfl
                                          rotate_left
                                          · simp only [Act.put, List.setIfInBounds_toArray, List.set_cons_zero, List.set_cons_succ, i64_w, i32_w]
                                            rfl
                                          refine take_ (i := 5) (N := some 46) (v := ?_) (a' := ?_) #[true, true, true, true, true, true, true, true, true, true, false, true, true, true, true, true, true, false, false, false, false, false, false, false, false, false] rfl rfl (take_ofW HT_.out HW_.out (by kernel_rfl)) (fun _ _ _ h => h) (Or.inl ⟨by rfl, ?_⟩) hHeld ?_ ?_
                                          rotate_left
                                          · rintro w' ⟨s0, s1, s2, s3, s4, s5⟩
                                            go_simp
                                            with_reducible rfl
                                          rotate_left
                                          · simp only [Act.put, List.setIfInBounds_toArray, List.set_cons_zero, List.set_cons_succ, i64_w, i32_w]
                                            rfl
                                          refine take_ (i := 10) (N := some 51) (v := ?_) (a' := ?_) #[true, true, true, true, true, true, true, true, true, true, true, true, true, true, true, true, true, false, false, false, false, false, false, false, false, false] rfl rfl (take_ofW HT_.out HW_.out (by kernel_rfl)) (fun _ _ _ h => h) (Or.inl ⟨by rfl, ?_⟩) hHeld ?_ ?_
                                          rotate_left
                                          · rintro w' ⟨s0, s1, s2, s3, s4, s5⟩
                                            go_simp
                                            with_reducible rfl
                                          rotate_left
                                          · simp only [Act.put, List.setIfInBounds_toArray, List.set_cons_zero, List.set_cons_succ, i64_w, i32_w]
                                            rfl
                                          refine take_ (i := 17) (N := some 58) (v := ?_) (a' := ?_) #[true, true, true, true, true, true, true, true, true, true, true, true, true, true, true, true, true, true, false, false, false, false, false, false, false, false] rfl rfl (take_ofW HT_.out HW_.out (by kernel_rfl)) (fun _ _ _ h => h) (Or.inl ⟨by rfl, ?_⟩) hHeld ?_ ?_
                                          rotate_left
                                          · rintro w' ⟨s0, s1, s2, s3, s4, s5⟩
                                            go_simp
                                            with_reducible rfl
                                          rotate_left
                                          · simp only [Act.put, List.setIfInBounds_toArray, List.set_cons_zero, List.set_cons_succ, i64_w, i32_w]
                                            rfl
                                          refine pure_ (i := 18) (N := some 59) (v := ?_) (a' := ?_) #[true, true, true, true, true, true, true, true, true, true, true, true, true, true, true, true, true, true, true, false, false, false, false, false, false, false] rfl rfl (any_of HT_.out (by kernel_rfl)) (fun _ _ _ h => h) (Or.inl ⟨by rfl, ?_⟩) ?_ ?_
                                          rotate_left
                                          · intro w'
                                            go_simp
                                            with_reducible rfl
                                          rotate_left
                                          · simp only [Act.put, List.setIfInBounds_toArray, List.set_cons_zero, List.set_cons_succ, i64_w, i32_w]
                                            rfl
                                          refine pure_ (i := 19) (N := some 60) (v := ?_) (a' := ?_) #[true, true, true, true, true, true, true, true, true, true, true, true, true, true, true, true, true, true, true, true, false, false, false, false, false, false] rfl rfl (any_of HT_.out (by kernel_rfl)) (fun _ _ _ h => h) (Or.inl ⟨by rfl, ?_⟩) ?_ ?_
                                          rotate_left
                                          · intro w'
                                            go_simp
                                            with_reducible rfl
                                          rotate_left
                                          · simp only [Act.put, List.setIfInBounds_toArray, List.set_cons_zero, List.set_cons_succ, i64_w, i32_w]
                                            rfl
                                          refine pure_ (i := 20) (N := some 61) (v := ?_) (a' := ?_) #[true, true, true, true, true, true, true, true, true, true, true, true, true, true, true, true, true, true, true, true, true, false, false, false, false, false] rfl rfl (any_of HT_.out (by kernel_rfl)) (fun _ _ _ h => h) (Or.inl ⟨by rfl, ?_⟩) ?_ ?_
                                          rotate_left
                                          · intro w'
                                            go_simp
                                            with_reducible rfl
                                          rotate_left
                                          · simp only [Act.put, List.setIfInBounds_toArray, List.set_cons_zero, List.set_cons_succ, i64_w, i32_w]
                                            rfl
                                          refine take_ (i := 21) (N := some 62) (v := ?_) (a' := ?_) #[true, true, true, true, true, true, true, true, true, true, true, true, true, true, true, true, true, true, true, true, true, true, false, false, false, false] rfl rfl (take_ofW HT_.out HW_.out (by kernel_rfl)) (fun _ _ _ h => h) (Or.inl ⟨by rfl, ?_⟩) hHeld ?_ ?_
                                          rotate_left
                                          · rintro w' ⟨s0, s1, s2, s3, s4, s5⟩
                                            go_simp
                                            with_reducible rfl
                                          rotate_left
                                          · simp only [Act.put, List.setIfInBounds_toArray, List.set_cons_zero, List.set_cons_succ, i64_w, i32_w]
                                            rfl
                                          refine pure_ (i := 22) (N := some 63) (v := ?_) (a' := ?_) #[true, true, true, true, true, true, true, true, true, true, true, true, true, true, true, true, true, true, true, true, true, true, true, false, false, false] rfl rfl (any_of HT_.out (by kernel_rfl)) (fun _ _ _ h => h) (Or.inl ⟨by rfl, ?_⟩) ?_ ?_
                                          rotate_left
                                          · intro w'
                                            go_simp
                                            with_reducible rfl
                                          rotate_left
                                          · simp only [Act.put, List.setIfInBounds_toArray, List.set_cons_zero, List.set_cons_succ, i64_w, i32_w]
                                            rfl
                                          refine pure_ (i := 23) (N := some 64) (v := ?_) (a' := ?_) #[true, true, true, true, true, true, true, true, true, true, true, true, true, true, true, true, true, true, true, true, true, true, true, true, false, false] rfl rfl (any_of HT_.out (by kernel_rfl)) (fun _ _ _ h => h) (Or.inl ⟨by rfl, ?_⟩) ?_ ?_
                                          rotate_left
                                          · intro w'
                                            go_simp
                                            with_reducible rfl
                                          rotate_left
                                          · simp only [Act.put, List.setIfInBounds_toArray, List.set_cons_zero, List.set_cons_succ, i64_w, i32_w]
                                            rfl
                                          refine pure_ (i := 24) (N := some 65) (v := ?_) (a' := ?_) #[true, true, true, true, true, true, true, true, true, true, true, true, true, true, true, true, true, true, true, true, true, true, true, true, true, false] rfl rfl (any_of HT_.out (by kernel_rfl)) (fun _ _ _ h => h) (Or.inl ⟨by rfl, ?_⟩) ?_ ?_
                                          rotate_left
                                          · intro w'
                                            go_simp
                                            with_reducible rfl
                                          rotate_left
                                          · simp only [Act.put, List.setIfInBounds_toArray, List.set_cons_zero, List.set_cons_succ, i64_w, i32_w]
                                            rfl
                                          refine last_ (i := 25) (N := none) #[true, true, true, true, true, true, true, true, true, true, true, true, true, true, true, true, true, true, true, true, true, true, true, true, true, true] rfl rfl (one_of HT_.out (by kernel_rfl)) (by decide) (fun K hK => ?_)
                                          refine skip_ (w1 := ?_) (by rfl) rfl ?_ ?_
                                          rotate_left
                                          · go_simp
                                            rfl
                                          refine hK.out _ _ ?_
                                          clear hK K
                                          refine done_ (done_of HT_.out (by kernel_rfl)) ?_
                                          try go_wp2
                                          (try simp only [← hl7_2])
                                          go_roundg k2
                                          case measure => have := HK1.out; have := HK2.out; omega
                                          case rel => exact ⟨(y114), (wrap64 (x37_2 + 1)), (by first | rfl | (simp; done) | (simp [*]; done)), H', ⟨by have := HK1.out; have := HK2.out; omega⟩, ⟨by (try simp only [hl7_2]); (with_reducible repeat (first | apply Kd.R_alloc | apply Kd.R_drewN | apply Kd.R_drew)); exact HQ35.out⟩, ⟨by (try simp only [hl7_2]); (with_reducible repeat (first | apply Kd.R_alloc | apply Kd.R_drewN | apply Kd.R_drew)); exact Kd.R_mono (Kd.R_far (p := ⟨go15, (x8_1 : Int).toNat, none⟩) (Kd.R_mono HO_35.out (fun k_ hk => (⟨hk, fun e_ => hk (by rw [e_]; rfl)⟩ : _ ∧ k_ ≠ go15))) (fun _ hk => hk.2) (.int .i64 ji32)) (fun _ hk => hk.1)⟩, ⟨by repeat (first | (with_reducible first | exact HB.out | apply below_alloc | apply pw_below_drewN | apply below_drew1 | refine below_set ?_ GB15.out) | exact HB.out)⟩⟩
                                        · rw [if_neg c31] at H
                                          exact absurd H (by simp)
                                      · rw [if_neg c30] at H
                                        exact absurd H (by simp)
                                    · rw [if_neg c28] at H
                                      exact absurd H (by simp)
                                  · rw [if_neg c27] at H
                                    exact absurd H (by simp)
                                · rw [if_neg c26] at H
                                  exact absurd H (by simp)
                              · rw [if_neg c25] at H
                                exact absurd H (by simp)
                            · rw [if_neg c24] at H
                              exact absurd H (by simp)
                          · rw [if_neg c23] at H
                            exact absurd H (by simp)
                        · rw [if_neg c22] at H
                          have c22b0 : decide (x37_2 < (t106.length : Int)) = false := decide_eq_false c22
                          clear c22
                          have H' := Aside0.mk H
                          clear H
                          go_wp2
                          (try simp only [← hl7_2])
                          go_roundg k2
                          case measure => have := HK1.out; have := HK2.out; omega
                          case rel => exact ⟨(x7_2), (wrap64 (x8_1 - 1)), (by first | rfl | (simp; done) | (simp [*]; done)), H', ⟨by have := HK1.out; have := HK2.out; omega⟩, ⟨by (try simp only [hl7_2]); (with_reducible repeat (first | apply Kd.R_alloc | apply Kd.R_drewN | apply Kd.R_drew)); exact Kd.R_mono HO_7.out (fun _ hk => trivial)⟩, ⟨by repeat (first | (with_reducible first | exact HB.out | apply below_alloc | apply pw_below_drewN | apply below_drew1) | exact HB.out)⟩⟩
                  · rw [if_neg c14] at H
                    exact absurd H (by simp)
                · rw [if_neg c13] at H
                  exact absurd H (by simp)
              · rw [if_neg c12] at H
                exact absurd H (by simp)
            · rw [if_neg c11] at H
              exact absurd H (by simp)
          · rw [if_neg c9] at H
            have c9b0 : decide (0 ≤ x8_1) = false := decide_eq_false c9
            clear c9
            obtain rfl := Option.some.inj H
            go_wp2
            go_ret
            exact ⟨_, by first | rfl | (simp [errW_none, errW_some] <;> rfl) | (simp only [← hji4]; first | rfl | (simp [errW_none, errW_some] <;> rfl)) | (simp [*, errW_none, errW_some] <;> rfl), by (with_reducible repeat (first | apply Kd.R_alloc | apply Kd.R_drewN | apply Kd.R_drew)); exact HO_7.out, by repeat (first | (with_reducible first | exact HB.out | apply below_alloc | apply pw_below_drewN | apply below_drew1) | exact HB.out)⟩
    · rw [if_neg c6] at H
      exact absurd H (by simp)
  · rw [if_neg c5] at H
    exact absurd H (by simp)

end Go.Proofs.Ytihphgiopjiohaa.P

/- impl_ParseMelody: what it answers, and that the machine's call comes to it. -/
namespace Go.Proofs.Ytihphgiopjiohaa.P
open Go.RowKit Go.Proofs.YtihphgiopjiohaaW.PrintWords Go.Proofs.YtihphgiopjiohaaW.PrintLast Go.Proofs.YtihphgiopjiohaaW.PrintMore
attribute [local go_sem] max2_int min2_int max_two min_two max_three min_three max_four min_four str_leq str_gtr str_geq
set_option linter.unusedVariables false
set_option linter.unusedSimpArgs false

/-! ### impl_ParseMelody: function 32 -/
mutual
def impl_ParseMelody.l0 : Nat → List (S47) → List Int → Int → List Int → List Int → Int → Option (List Int × Int)
  | 0, _, _, _, _, _, _ => none
  | k + 1, x0, x1, x2, x9, x10, x11 => if x11 < (x1.length : Int) then (if 0 ≤ (wrap64 (x11 + 1)) then (if (wrap64 (x11 + 1)) < (x9.length : Int) then (if 0 ≤ x11 then (if x11 < (x9.length : Int) then (if (wrap64 (x2 + (rd x9 (wrap64 (x11 + 1))))) = (rd x9 x11) then (if x10.length < 17592186044416 then (impl_ParseMelody.l0 k x0 x1 x2 x9 (x10 ++ [(-1)]) (wrap64 (x11 + 1))) else (none)) else ((impl_patternsAt.f k x0 x1 x11).bind fun t110 => (impl_ParseMelody.l1 k x0 x1 x2 x9 x10 x11 t110 (t110.length : Int) 0))) else (none)) else (none)) else (none)) else (none)) else (some (x10, 0))
def impl_ParseMelody.l1 : Nat → List (S47) → List Int → Int → List Int → List Int → Int → List Int → Int → Int → Option (List Int × Int)
  | 0, _, _, _, _, _, _, _, _, _ => none
  | k + 1, x0, x1, x2, x9, x10, x11, x50, x51, x52 => if x52 < x51 then (if 0 ≤ x52 then (if x52 < (x50.length : Int) then (if 0 ≤ (rd x50 x52) then (if (rd x50 x52) < (x0.length : Int) then (if 0 ≤ (wrap64 (x11 + (((rd_T47 x0 (rd x50 x52)).f0).length : Int))) then (if (wrap64 (x11 + (((rd_T47 x0 (rd x50 x52)).f0).length : Int))) < (x9.length : Int) then (if 0 ≤ x11 then (if x11 < (x9.length : Int) then (if (wrap64 (((rd_T47 x0 (rd x50 x52)).f1) + (rd x9 (wrap64 (x11 + (((rd_T47 x0 (rd x50 x52)).f0).length : Int)))))) = (rd x9 x11) then (if x10.length < 17592186044416 then (impl_ParseMelody.l0 k x0 x1 x2 x9 (x10 ++ [rd x50 x52]) (wrap64 (x11 + (((rd_T47 x0 (rd x50 x52)).f0).length : Int)))) else (none)) else (impl_ParseMelody.l1 k x0 x1 x2 x9 x10 x11 x50 x51 (wrap64 (x52 + 1)))) else (none)) else (none)) else (none)) else (none)) else (none)) else (none)) else (none)) else (none)) else (impl_ParseMelody.l0 k x0 x1 x2 x9 x10 x11)
end
def impl_ParseMelody.f (k : Nat) (l0 : List (S47)) (l1 : List Int) (a2 : Int) : Option (List Int × Int) := (impl_parseCode.f k l0 l1 0 a2).bind fun t101 => (if t101 = 0 then ((impl_parseCosts.f k l0 l1 a2).bind fun t102 => (impl_ParseMelody.l0 k l0 l1 a2 t102 ([] : List Int) 0)) else (some (([] : List Int), t101)))
theorem impl_ParseMelody.mono_l : ∀ k, (∀ y0 y1 y2 y3 y4 y5, LeO (impl_ParseMelody.l0 k y0 y1 y2 y3 y4 y5) (impl_ParseMelody.l0 (k + 1) y0 y1 y2 y3 y4 y5)) ∧ (∀ y0 y1 y2 y3 y4 y5 y6 y7 y8, LeO (impl_ParseMelody.l1 k y0 y1 y2 y3 y4 y5 y6 y7 y8) (impl_ParseMelody.l1 (k + 1) y0 y1 y2 y3 y4 y5 y6 y7 y8))
  | 0 => ⟨fun _ _ _ _ _ _ r h => by simp [impl_ParseMelody.l0] at h, fun _ _ _ _ _ _ _ _ _ r h => by simp [impl_ParseMelody.l1] at h⟩
  | k + 1 => by
    obtain ⟨ih0, ih1⟩ := impl_ParseMelody.mono_l k
    refine ⟨?_, ?_⟩
    · intro y0 y1 y2 y3 y4 y5
      unfold impl_ParseMelody.l0
      repeat' first
      | (with_reducible exact ih0 _ _ _ _ _ _)
      | (with_reducible exact ih1 _ _ _ _ _ _ _ _ _)
      | (with_reducible exact impl_parseCode.mono _ _ _ _ _)
      | (with_reducible exact impl_parseCosts.mono _ _ _ _)
      | (with_reducible exact impl_patternsAt.mono _ _ _ _)
      | (with_reducible exact LeO.refl _)
      | (with_reducible exact LeO.none _)
      | (with_reducible refine LeO.ite ?_ ?_)
      | (with_reducible refine LeO.bind ?_ (fun _ => ?_))
      | exact ih0 _ _ _ _ _ _
      | exact ih1 _ _ _ _ _ _ _ _ _
      | exact impl_parseCode.mono _ _ _ _ _
      | exact impl_parseCosts.mono _ _ _ _
      | exact impl_patternsAt.mono _ _ _ _
      | exact LeO.none _
      | refine LeO.ite ?_ ?_
      | refine LeO.bind ?_ (fun _ => ?_)
    · intro y0 y1 y2 y3 y4 y5 y6 y7 y8
      unfold impl_ParseMelody.l1
      repeat' first
      | (with_reducible exact ih0 _ _ _ _ _ _)
      | (with_reducible exact ih1 _ _ _ _ _ _ _ _ _)
      | (with_reducible exact impl_parseCode.mono _ _ _ _ _)
      | (with_reducible exact impl_parseCosts.mono _ _ _ _)
      | (with_reducible exact impl_patternsAt.mono _ _ _ _)
      | (with_reducible exact LeO.refl _)
      | (with_reducible exact LeO.none _)
      | (with_reducible refine LeO.ite ?_ ?_)
      | (with_reducible refine LeO.bind ?_ (fun _ => ?_))
      | exact ih0 _ _ _ _ _ _
      | exact ih1 _ _ _ _ _ _ _ _ _
      | exact impl_parseCode.mono _ _ _ _ _
      | exact impl_parseCosts.mono _ _ _ _
      | exact impl_patternsAt.mono _ _ _ _
      | exact LeO.none _
      | refine LeO.ite ?_ ?_
      | refine LeO.bind ?_ (fun _ => ?_)
theorem impl_ParseMelody.mono : ∀ a0 a1 a2 k, LeO (impl_ParseMelody.f k a0 a1 a2) (impl_ParseMelody.f (k + 1) a0 a1 a2) := by
  intro a0 a1 a2 k
  obtain ⟨ih0, ih1⟩ := impl_ParseMelody.mono_l k
  unfold impl_ParseMelody.f
  repeat' first
      | (with_reducible exact ih0 _ _ _ _ _ _)
      | (with_reducible exact ih1 _ _ _ _ _ _ _ _ _)
      | (with_reducible exact impl_parseCode.mono _ _ _ _ _)
      | (with_reducible exact impl_parseCosts.mono _ _ _ _)
      | (with_reducible exact impl_patternsAt.mono _ _ _ _)
      | (with_reducible exact LeO.refl _)
      | (with_reducible exact LeO.none _)
      | (with_reducible refine LeO.ite ?_ ?_)
      | (with_reducible refine LeO.bind ?_ (fun _ => ?_))
      | exact ih0 _ _ _ _ _ _
      | exact ih1 _ _ _ _ _ _ _ _ _
      | exact impl_parseCode.mono _ _ _ _ _
      | exact impl_parseCosts.mono _ _ _ _
      | exact impl_patternsAt.mono _ _ _ _
      | exact LeO.none _
      | refine LeO.ite ?_ ?_
      | refine LeO.bind ?_ (fun _ => ?_)
set_option maxHeartbeats 8000000 in
set_option maxRecDepth 100000 in
theorem impl_ParseMelody.calls (k : Nat) (A0 : Option Addr) (c0 : Nat) (l0 : List (S47)) (A1 : Option Addr) (c1 : Nat) (l1 : List Int) (a2 : Int) (r1 : List Int) (r2 : Int) (w : World) (hr0 : Kd.C k47 w A0 l0.length l0) (hc0 : l0.length ≤ c0) (hr1 : Kd.C (Kd.int .i64) w A1 l1.length l1) (hc1 : l1.length ≤ c1) (h : impl_ParseMelody.f k l0 l1 a2 = some (r1, r2)) :
    Calls Try.prog 32 #[.slice A0 l0.length c0, .slice A1 l1.length c1, .int .i64 a2] w fun e w' => ∃ v0_ : Value, e = .returned (.tuple #[v0_, .int .i64 r2]) ∧ Kd.R (Kd.int .i64) 2 w' w.heap.size (fun _ => True) v0_ r1 ∧ Below w.heap.size w w' := by
  have hu47 := Try.underlying47
  have HR0 := Aside0.mk hr0
  have HC0 := Aside0.mk hc0
  clear hr0 hc0
  have HR1 := Aside0.mk hr1
  have HC1 := Aside0.mk hc1
  clear hr1 hc1
  have HB := Aside0.mk (Below.refl w.heap.size w)
  have H : ((impl_parseCode.f k l0 l1 0 a2).bind fun t101 => (if t101 = 0 then ((impl_parseCosts.f k l0 l1 a2).bind fun t102 => (impl_ParseMelody.l0 k l0 l1 a2 t102 ([] : List Int) 0)) else (some (([] : List Int), t101)))) = some (r1, r2) := h
  clear h
  replace H := Option.bind_eq_some_iff.mp H
  obtain ⟨t101, A40, H⟩ := H
  replace H : (if t101 = 0 then ((impl_parseCosts.f k l0 l1 a2).bind fun t102 => (impl_ParseMelody.l0 k l0 l1 a2 t102 ([] : List Int) 0)) else (some (([] : List Int), t101))) = some (r1, r2) := H
  have A4 := Aside0.mk A40
  clear A40
  by_cases c5 : t101 = 0
  · rw [if_pos c5] at H
    have c5b0 : (t101 == 0) = true := beq_iff_eq.mpr c5
    have c5b1 : (t101 != 0) = false := bne_eq_false_iff_eq.mpr c5
    clear c5
    replace H := Option.bind_eq_some_iff.mp H
    obtain ⟨t102, A60, H⟩ := H
    replace H : (impl_ParseMelody.l0 k l0 l1 a2 t102 ([] : List Int) 0) = some (r1, r2) := H
    have A6 := Aside0.mk A60
    clear A60
    have H' := Aside0.mk H
    clear H
    go_enter Try.func32, Try.ntmps32
    go_wp2_with (first | (go_at_call 44; (with_reducible refine (impl_parseCode.calls k _ _ l0 _ _ l1 0 a2 t101 _ ?side1 ?side2 ?side3 ?side4 A4.out).mono ?_); (case side1 => repeat (first | exact HR0.out | (with_reducible refine Kd.C_alloc ?_ _) | (with_reducible refine Kd.C_drewN ?_ _) | (with_reducible refine Kd.C_drew ?_))); (case side2 => exact HC0.out); (case side3 => repeat (first | exact HR1.out | (with_reducible refine Kd.C_alloc ?_ _) | (with_reducible refine Kd.C_drewN ?_ _) | (with_reducible refine Kd.C_drew ?_))); (case side4 => exact HC1.out); rintro e w7 ⟨rfl, hb⟩; have n0_ := Aside0.mk (below_step (by repeat (first | (with_reducible first | exact HB.out | apply below_alloc | apply pw_below_drewN | apply below_drew1) | exact HB.out)) hb); clear HB; have HB := n0_; clear n0_; (try clear hb); (try clear hb2); (try clear hk); (try clear hi)) | (go_at_call 51; (with_reducible refine (impl_parseCosts.calls k _ _ l0 _ _ l1 a2 t102 _ ?side1 ?side2 ?side3 ?side4 A6.out).mono ?_); (case side1 => repeat (first | exact (Kd.C_below HR0.out HB.out) | (with_reducible refine Kd.C_alloc ?_ _) | (with_reducible refine Kd.C_drewN ?_ _) | (with_reducible refine Kd.C_drew ?_))); (case side2 => exact HC0.out); (case side3 => repeat (first | exact (Kd.C_below HR1.out HB.out) | (with_reducible refine Kd.C_alloc ?_ _) | (with_reducible refine Kd.C_drewN ?_ _) | (with_reducible refine Kd.C_drew ?_))); (case side4 => exact HC1.out); rintro e w8 ⟨v103, rfl, ho0, hb⟩; have n0_ := Aside0.mk (Kd.R_lower ho0 (below_size (by repeat (first | (with_reducible first | exact HB.out | apply below_alloc | apply pw_below_drewN | apply below_drew1) | exact HB.out)))); have n1_ := Aside0.mk (below_step (by repeat (first | (with_reducible first | exact HB.out | apply below_alloc | apply pw_below_drewN | apply below_drew1) | exact HB.out)) hb); clear HB; have HO104 := n0_; have HB := n1_; clear n0_ n1_; (try clear hb); (try clear hb2); (try clear hk); (try clear hi); (try clear ho0)))
    repeat (go_quiet (first | (go_at_call 44; (with_reducible refine (impl_parseCode.calls k _ _ l0 _ _ l1 0 a2 t101 _ ?side1 ?side2 ?side3 ?side4 A4.out).mono ?_); (case side1 => repeat (first | exact HR0.out | (with_reducible refine Kd.C_alloc ?_ _) | (with_reducible refine Kd.C_drewN ?_ _) | (with_reducible refine Kd.C_drew ?_))); (case side2 => exact HC0.out); (case side3 => repeat (first | exact HR1.out | (with_reducible refine Kd.C_alloc ?_ _) | (with_reducible refine Kd.C_drewN ?_ _) | (with_reducible refine Kd.C_drew ?_))); (case side4 => exact HC1.out); rintro e w7 ⟨rfl, hb⟩; have n0_ := Aside0.mk (below_step (by repeat (first | (with_reducible first | exact HB.out | apply below_alloc | apply pw_below_drewN | apply below_drew1) | exact HB.out)) hb); clear HB; have HB := n0_; clear n0_; (try clear hb); (try clear hb2); (try clear hk); (try clear hi)) | (go_at_call 51; (with_reducible refine (impl_parseCosts.calls k _ _ l0 _ _ l1 a2 t102 _ ?side1 ?side2 ?side3 ?side4 A6.out).mono ?_); (case side1 => repeat (first | exact (Kd.C_below HR0.out HB.out) | (with_reducible refine Kd.C_alloc ?_ _) | (with_reducible refine Kd.C_drewN ?_ _) | (with_reducible refine Kd.C_drew ?_))); (case side2 => exact HC0.out); (case side3 => repeat (first | exact (Kd.C_below HR1.out HB.out) | (with_reducible refine Kd.C_alloc ?_ _) | (with_reducible refine Kd.C_drewN ?_ _) | (with_reducible refine Kd.C_drew ?_))); (case side4 => exact HC1.out); rintro e w8 ⟨v103, rfl, ho0, hb⟩; have n0_ := Aside0.mk (Kd.R_lower ho0 (below_size (by repeat (first | (with_reducible first | exact HB.out | apply below_alloc | apply pw_below_drewN | apply below_drew1) | exact HB.out)))); have n1_ := Aside0.mk (below_step (by repeat (first | (with_reducible first | exact HB.out | apply below_alloc | apply pw_below_drewN | apply below_drew1) | exact HB.out)) hb); clear HB; have HO104 := n0_; have HB := n1_; clear n0_ n1_; (try clear hb); (try clear hb2); (try clear hk); (try clear hi); (try clear ho0))); try go_wp2_with (first | (go_at_call 44; (with_reducible refine (impl_parseCode.calls k _ _ l0 _ _ l1 0 a2 t101 _ ?side1 ?side2 ?side3 ?side4 A4.out).mono ?_); (case side1 => repeat (first | exact HR0.out | (with_reducible refine Kd.C_alloc ?_ _) | (with_reducible refine Kd.C_drewN ?_ _) | (with_reducible refine Kd.C_drew ?_))); (case side2 => exact HC0.out); (case side3 => repeat (first | exact HR1.out | (with_reducible refine Kd.C_alloc ?_ _) | (with_reducible refine Kd.C_drewN ?_ _) | (with_reducible refine Kd.C_drew ?_))); (case side4 => exact HC1.out); rintro e w7 ⟨rfl, hb⟩; have n0_ := Aside0.mk (below_step (by repeat (first | (with_reducible first | exact HB.out | apply below_alloc | apply pw_below_drewN | apply below_drew1) | exact HB.out)) hb); clear HB; have HB := n0_; clear n0_; (try clear hb); (try clear hb2); (try clear hk); (try clear hi)) | (go_at_call 51; (with_reducible refine (impl_parseCosts.calls k _ _ l0 _ _ l1 a2 t102 _ ?side1 ?side2 ?side3 ?side4 A6.out).mono ?_); (case side1 => repeat (first | exact (Kd.C_below HR0.out HB.out) | (with_reducible refine Kd.C_alloc ?_ _) | (with_reducible refine Kd.C_drewN ?_ _) | (with_reducible refine Kd.C_drew ?_))); (case side2 => exact HC0.out); (case side3 => repeat (first | exact (Kd.C_below HR1.out HB.out) | (with_reducible refine Kd.C_alloc ?_ _) | (with_reducible refine Kd.C_drewN ?_ _) | (with_reducible refine Kd.C_drew ?_))); (case side4 => exact HC1.out); rintro e w8 ⟨v103, rfl, ho0, hb⟩; have n0_ := Aside0.mk (Kd.R_lower ho0 (below_size (by repeat (first | (with_reducible first | exact HB.out | apply below_alloc | apply pw_below_drewN | apply below_drew1) | exact HB.out)))); have n1_ := Aside0.mk (below_step (by repeat (first | (with_reducible first | exact HB.out | apply below_alloc | apply pw_below_drewN | apply below_drew1) | exact HB.out)) hb); clear HB; have HO104 := n0_; have HB := n1_; clear n0_ n1_; (try clear hb); (try clear hb2); (try clear hk); (try clear hi); (try clear ho0))))
    go_loopg [10, 11] k (fun kq v10 v11 w' => ∃ (x10_1 : List Int) (x11_1 : Int), v11 = .int .i64 x11_1 ∧ Aside0 (impl_ParseMelody.l0 kq l0 l1 a2 t102 x10_1 x11_1 = some (r1, r2)) ∧ Aside0 (kq ≤ k) ∧ Aside0 (Kd.R (Kd.int .i64) 2 w' w.heap.size (fun k_ => some k_ ≠ (v10 : Value).ownBlock) v103 t102) ∧ Aside0 (Kd.R (Kd.int .i64) 2 w' w.heap.size (fun k_ => some k_ ≠ (v103 : Value).ownBlock) v10 x10_1) ∧ Aside0 (Below w.heap.size w w'))
    case atStart => exact ⟨(([] : List Int)), (0), (by first | rfl | (simp; done) | (simp [*]; done)), H', ⟨Nat.le_refl _⟩, ⟨by (with_reducible repeat (first | apply Kd.R_alloc | apply Kd.R_drewN | apply Kd.R_drew)); exact Kd.R_mono HO104.out (fun _ hk => (by simp [Value.ownBlock]))⟩, ⟨by first | exact Kd.R_nil _ _ _ _ _ | exact Kd.N_nil _ _ _ _ _ | exact Kd.V_nil _ _ _ _ _ | exact Kd.Q_nil _ _ _ _ _ | exact Kd.S_nil _ _ _ _ _⟩, ⟨by repeat (first | (with_reducible first | exact HB.out | apply below_alloc | apply pw_below_drewN | apply below_drew1) | exact HB.out)⟩⟩
    case round =>
      clear H'
      try clear c1
      try clear p2
      try clear c3
      try clear c5
      try clear c5b0
      try clear c5b1
      obtain ⟨x10_1, x11_1, rfl, HA, HK1, HO_9, HO_10, HB⟩ := hrel
      cases gk with
      | zero => exact absurd HA.out (by simp [impl_ParseMelody.l0])
      | succ k1 =>
        have H := HA.out
        clear HA
        simp only [impl_ParseMelody.l0] at H
        by_cases c9 : x11_1 < (l1.length : Int)
        · rw [if_pos c9] at H
          have c9b0 : decide (x11_1 < (l1.length : Int)) = true := decide_eq_true c9
          clear c9
          obtain ⟨ji10, hji10⟩ : ∃ j_ : Int, (wrap64 (x11_1 + 1)) = j_ := ⟨_, rfl⟩
          replace H : (if 0 ≤ (ji10) then (if (ji10) < (t102.length : Int) then (if 0 ≤ x11_1 then (if x11_1 < (t102.length : Int) then (if (wrap64 (a2 + (rd t102 (ji10)))) = (rd t102 x11_1) then (if x10_1.length < 17592186044416 then (impl_ParseMelody.l0 k1 l0 l1 a2 t102 (x10_1 ++ [(-1)]) ji10) else (none)) else ((impl_patternsAt.f k1 l0 l1 x11_1).bind fun t110 => (impl_ParseMelody.l1 k1 l0 l1 a2 t102 x10_1 x11_1 t110 (t110.length : Int) 0))) else (none)) else (none)) else (none)) else (none)) = some (r1, r2) := by first | (rw [hji10] at H; exact H) | (simp only [hji10] at H ⊢; exact H)
          have hji10w : (IntKind.i64.wrap (x11_1 + 1)) = ji10 := (i64_w _).trans hji10
          by_cases c11 : 0 ≤ (ji10)
          · rw [if_pos c11] at H
            have c11b0 : decide (0 ≤ (ji10)) = true := decide_eq_true c11
            clear c11
            by_cases c12 : (ji10) < (t102.length : Int)
            · rw [if_pos c12] at H
              have c12b0 : decide ((ji10) < (t102.length : Int)) = true := decide_eq_true c12
              clear c12
              by_cases c13 : 0 ≤ x11_1
              · rw [if_pos c13] at H
                have c13b0 : decide (0 ≤ x11_1) = true := decide_eq_true c13
                clear c13
                by_cases c14 : x11_1 < (t102.length : Int)
                · rw [if_pos c14] at H
                  have c14b0 : decide (x11_1 < (t102.length : Int)) = true := decide_eq_true c14
                  clear c14
                  by_cases c15 : (wrap64 (a2 + (rd t102 (ji10)))) = (rd t102 x11_1)
                  · rw [if_pos c15] at H
                    have c15b0 : ((wrap64 (a2 + (rd t102 (ji10)))) == (rd t102 x11_1)) = true := beq_iff_eq.mpr c15
                    have c15b1 : ((wrap64 (a2 + (rd t102 (ji10)))) != (rd t102 x11_1)) = false := bne_eq_false_iff_eq.mpr c15
                    clear c15
                    by_cases c16 : x10_1.length < 17592186044416
                    · rw [if_pos c16] at H
                      have LMc16 := Aside0.mk c16
                      clear c16
                      obtain ⟨y107, hy107⟩ : ∃ y_ : List Int, y_ = (x10_1 ++ [(-1)]) := ⟨_, rfl⟩
                      replace H : (impl_ParseMelody.l0 k1 l0 l1 a2 t102 y107 ji10) = some (r1, r2) := by first | (rw [hy107]; with_reducible exact H) | (have H2_ := (Option.bind_some _ _).symm.trans H; rw [hy107]; with_reducible exact H2_) | (have H2_ := (Option.bind_some _ _).symm.trans H; with_reducible exact H2_) | with_reducible exact H | (rw [hy107]; exact H) | exact H
                      have Ny107 := Aside0.mk hy107
                      clear hy107
                      have H' := Aside0.mk H
                      clear H
                      obtain ⟨Ao17, co17, eo17⟩ := Kd.R_slice HO_9.out
                      subst eo17
                      have p105 : 0 ≤ ((ji10) : Int) := of_decide_eq_true (by first | (with_reducible assumption) | assumption)
                      have q105 : (ji10) < (t102.length : Int) := of_decide_eq_true (by first | (with_reducible assumption) | assumption)
                      obtain ⟨ad105, e105, hx105_0⟩ := Kd.at_int (Kd.R_reads' HO_9.out).2.2 (ji10) p105 q105
                      cases e105
                      replace p105 := eq_true p105
                      replace q105 := eq_true q105
                      have p106 : 0 ≤ (x11_1 : Int) := of_decide_eq_true (by first | (with_reducible assumption) | assumption)
                      have q106 : x11_1 < (t102.length : Int) := of_decide_eq_true (by first | (with_reducible assumption) | assumption)
                      obtain ⟨ad106, e106, hx106_0⟩ := Kd.at_int (Kd.R_reads' HO_9.out).2.2 x11_1 p106 q106
                      obtain rfl : ad105 = ad106 := (by injection e106)
                      replace p106 := eq_true p106
                      replace q106 := eq_true q106
                      go_wp2_with (first | ((with_reducible refine gate_builtin (b := .append) (xs := #[.tmp 42, .tmp 43]) rfl ?_); at_builtin; refine Kd.R_append (Kd.int .i64) (w0 := w) w.heap.size rfl (.tmp 42) (.tmp 43) 29 2 (.int .i64 0) 8 rfl Try.underlying29 info2 rfl (by decide) (by omega) u10 x10_1 (-1) [.int .i64 (-1)] (fun k_ => some k_ ≠ (.slice (some ad105) t102.length co17 : Value).ownBlock) (fun _ => False) rfl rfl ?aP (fun _ hk => hk.elim) ?aF ?aO ?aB ?aS ?aL ?_; (case aP => exact rfl); (case aB => exact (by repeat (first | (with_reducible first | exact HB.out | apply below_alloc | apply pw_below_drewN | apply below_drew1) | exact HB.out))); (case aF => exact (fun k_ hk => Kd.fresh' (Kd.R_lt (by (with_reducible repeat (first | apply Kd.R_alloc | apply Kd.R_drewN | apply Kd.R_drew)); exact HO_9.out)) k_ hk)); (case aO => exact (by (with_reducible repeat (first | apply Kd.R_alloc | apply Kd.R_drewN | apply Kd.R_drew)); exact HO_10.out)); (case aS => exact (below_size (by repeat (first | (with_reducible first | exact HB.out | apply below_alloc | apply pw_below_drewN | apply below_drew1) | exact HB.out)))); (case aL => have := LMc16.out; omega); intro v108 w18 ho hb hg hat; rw [← Ny107.out] at ho; have n0_ := Aside0.mk (Kd.R_after (ok := (fun _ => True)) (by (with_reducible repeat (first | apply Kd.R_alloc | apply Kd.R_drewN | apply Kd.R_drew)); exact Kd.R_mono HO_9.out (fun _ hk => ⟨trivial, hk⟩)) hg hat); have n1_ := Aside0.mk (hb); have n2_ := Aside0.mk (ho); clear HO_9; clear HB; clear HO_10; have HO_9 := n0_; have HB := n1_; have HO109 := n2_; clear n0_ n1_ n2_; clear ho hb hg hat))
                      repeat (go_quiet (first | ((with_reducible refine gate_builtin (b := .append) (xs := #[.tmp 42, .tmp 43]) rfl ?_); at_builtin; refine Kd.R_append (Kd.int .i64) (w0 := w) w.heap.size rfl (.tmp 42) (.tmp 43) 29 2 (.int .i64 0) 8 rfl Try.underlying29 info2 rfl (by decide) (by omega) u10 x10_1 (-1) [.int .i64 (-1)] (fun k_ => some k_ ≠ (.slice (some ad105) t102.length co17 : Value).ownBlock) (fun _ => False) rfl rfl ?aP (fun _ hk => hk.elim) ?aF ?aO ?aB ?aS ?aL ?_; (case aP => exact rfl); (case aB => exact (by repeat (first | (with_reducible first | exact HB.out | apply below_alloc | apply pw_below_drewN | apply below_drew1) | exact HB.out))); (case aF => exact (fun k_ hk => Kd.fresh' (Kd.R_lt (by (with_reducible repeat (first | apply Kd.R_alloc | apply Kd.R_drewN | apply Kd.R_drew)); exact HO_9.out)) k_ hk)); (case aO => exact (by (with_reducible repeat (first | apply Kd.R_alloc | apply Kd.R_drewN | apply Kd.R_drew)); exact HO_10.out)); (case aS => exact (below_size (by repeat (first | (with_reducible first | exact HB.out | apply below_alloc | apply pw_below_drewN | apply below_drew1) | exact HB.out)))); (case aL => have := LMc16.out; omega); intro v108 w18 ho hb hg hat; rw [← Ny107.out] at ho; have n0_ := Aside0.mk (Kd.R_after (ok := (fun _ => True)) (by (with_reducible repeat (first | apply Kd.R_alloc | apply Kd.R_drewN | apply Kd.R_drew)); exact Kd.R_mono HO_9.out (fun _ hk => ⟨trivial, hk⟩)) hg hat); have n1_ := Aside0.mk (hb); have n2_ := Aside0.mk (ho); clear HO_9; clear HB; clear HO_10; have HO_9 := n0_; have HB := n1_; have HO109 := n2_; clear n0_ n1_ n2_; clear ho hb hg hat)); try go_wp2_with (first | ((with_reducible refine gate_builtin (b := .append) (xs := #[.tmp 42, .tmp 43]) rfl ?_); at_builtin; refine Kd.R_append (Kd.int .i64) (w0 := w) w.heap.size rfl (.tmp 42) (.tmp 43) 29 2 (.int .i64 0) 8 rfl Try.underlying29 info2 rfl (by decide) (by omega) u10 x10_1 (-1) [.int .i64 (-1)] (fun k_ => some k_ ≠ (.slice (some ad105) t102.length co17 : Value).ownBlock) (fun _ => False) rfl rfl ?aP (fun _ hk => hk.elim) ?aF ?aO ?aB ?aS ?aL ?_; (case aP => exact rfl); (case aB => exact (by repeat (first | (with_reducible first | exact HB.out | apply below_alloc | apply pw_below_drewN | apply below_drew1) | exact HB.out))); (case aF => exact (fun k_ hk => Kd.fresh' (Kd.R_lt (by (with_reducible repeat (first | apply Kd.R_alloc | apply Kd.R_drewN | apply Kd.R_drew)); exact HO_9.out)) k_ hk)); (case aO => exact (by (with_reducible repeat (first | apply Kd.R_alloc | apply Kd.R_drewN | apply Kd.R_drew)); exact HO_10.out)); (case aS => exact (below_size (by repeat (first | (with_reducible first | exact HB.out | apply below_alloc | apply pw_below_drewN | apply below_drew1) | exact HB.out)))); (case aL => have := LMc16.out; omega); intro v108 w18 ho hb hg hat; rw [← Ny107.out] at ho; have n0_ := Aside0.mk (Kd.R_after (ok := (fun _ => True)) (by (with_reducible repeat (first | apply Kd.R_alloc | apply Kd.R_drewN | apply Kd.R_drew)); exact Kd.R_mono HO_9.out (fun _ hk => ⟨trivial, hk⟩)) hg hat); have n1_ := Aside0.mk (hb); have n2_ := Aside0.mk (ho); clear HO_9; clear HB; clear HO_10; have HO_9 := n0_; have HB := n1_; have HO109 := n2_; clear n0_ n1_ n2_; clear ho hb hg hat)))
                      go_roundg k1
                      case measure => have := HK1.out; omega
                      case rel => exact ⟨(y107), (ji10), (by first | rfl | (simp; done) | (simp only [← hji10] <;> (first | rfl | simp)) | (simp [*]; done)), H', ⟨by have := HK1.out; omega⟩, ⟨by (with_reducible repeat (first | apply Kd.R_alloc | apply Kd.R_drewN | apply Kd.R_drew)); exact Kd.R_mono HO_9.out (fun _ hk => hk.2)⟩, ⟨by (with_reducible repeat (first | apply Kd.R_alloc | apply Kd.R_drewN | apply Kd.R_drew)); exact HO109.out⟩, ⟨by repeat (first | (with_reducible first | exact HB.out | apply below_alloc | apply pw_below_drewN | apply below_drew1) | exact HB.out)⟩⟩
                    · rw [if_neg c16] at H
                      exact absurd H (by simp)
                  · rw [if_neg c15] at H
                    have c15b0 : ((wrap64 (a2 + (rd t102 (ji10)))) == (rd t102 x11_1)) = false := beq_eq_false_iff_ne.mpr c15
                    have c15b1 : ((wrap64 (a2 + (rd t102 (ji10)))) != (rd t102 x11_1)) = true := bne_iff_ne.mpr c15
                    replace H := Option.bind_eq_some_iff.mp H
                    obtain ⟨t110, A190, H⟩ := H
                    replace H : (impl_ParseMelody.l1 k1 l0 l1 a2 t102 x10_1 x11_1 t110 (t110.length : Int) 0) = some (r1, r2) := H
                    have A19 := Aside0.mk A190
                    clear A190
                    have H' := Aside0.mk H
                    clear H
                    obtain ⟨Ao20, co20, eo20⟩ := Kd.R_slice HO_9.out
                    subst eo20
                    have p105 : 0 ≤ ((ji10) : Int) := of_decide_eq_true (by first | (with_reducible assumption) | assumption)
                    have q105 : (ji10) < (t102.length : Int) := of_decide_eq_true (by first | (with_reducible assumption) | assumption)
                    obtain ⟨ad105, e105, hx105_0⟩ := Kd.at_int (Kd.R_reads' HO_9.out).2.2 (ji10) p105 q105
                    cases e105
                    replace p105 := eq_true p105
                    replace q105 := eq_true q105
                    have p106 : 0 ≤ (x11_1 : Int) := of_decide_eq_true (by first | (with_reducible assumption) | assumption)
                    have q106 : x11_1 < (t102.length : Int) := of_decide_eq_true (by first | (with_reducible assumption) | assumption)
                    obtain ⟨ad106, e106, hx106_0⟩ := Kd.at_int (Kd.R_reads' HO_9.out).2.2 x11_1 p106 q106
                    obtain rfl : ad105 = ad106 := (by injection e106)
                    replace p106 := eq_true p106
                    replace q106 := eq_true q106
                    go_wp2_with (first | (go_at_call 47; (with_reducible refine (impl_patternsAt.calls k1 _ _ l0 _ _ l1 x11_1 t110 _ ?side1 ?side2 ?side3 ?side4 A19.out).mono ?_); (case side1 => repeat (first | exact (Kd.C_below HR0.out HB.out) | (with_reducible refine Kd.C_alloc ?_ _) | (with_reducible refine Kd.C_drewN ?_ _) | (with_reducible refine Kd.C_drew ?_))); (case side2 => exact HC0.out); (case side3 => repeat (first | exact (Kd.C_below HR1.out HB.out) | (with_reducible refine Kd.C_alloc ?_ _) | (with_reducible refine Kd.C_drewN ?_ _) | (with_reducible refine Kd.C_drew ?_))); (case side4 => exact HC1.out); rintro e w21 ⟨v111, rfl, ho0, hb⟩; have n0_ := Aside0.mk (Kd.R_elder' (by (with_reducible repeat (first | apply Kd.R_alloc | apply Kd.R_drewN | apply Kd.R_drew)); exact HO_9.out) (Kd.R_base ho0) hb); have n1_ := Aside0.mk (Kd.R_elder' (by (with_reducible repeat (first | apply Kd.R_alloc | apply Kd.R_drewN | apply Kd.R_drew)); exact HO_10.out) (Kd.R_base ho0) hb); have n2_ := Aside0.mk (Kd.R_lower (Kd.R_new' (Kd.R_new' ho0 (Kd.R_lt (by (with_reducible repeat (first | apply Kd.R_alloc | apply Kd.R_drewN | apply Kd.R_drew)); exact HO_9.out))) (Kd.R_lt (by (with_reducible repeat (first | apply Kd.R_alloc | apply Kd.R_drewN | apply Kd.R_drew)); exact HO_10.out))) (below_size (by repeat (first | (with_reducible first | exact HB.out | apply below_alloc | apply pw_below_drewN | apply below_drew1) | exact HB.out)))); have n3_ := Aside0.mk (below_step (by repeat (first | (with_reducible first | exact HB.out | apply below_alloc | apply pw_below_drewN | apply below_drew1) | exact HB.out)) hb); clear HO_9; clear HO_10; clear HB; have HO_9 := n0_; have HO_10 := n1_; have HO112 := n2_; have HB := n3_; clear n0_ n1_ n2_ n3_; (try clear hb); (try clear hb2); (try clear hk); (try clear hi); (try clear ho0); obtain ⟨Ao22, co22, eo22⟩ := Kd.R_slice HO112.out; subst eo22))
                    repeat (go_quiet (first | (go_at_call 47; (with_reducible refine (impl_patternsAt.calls k1 _ _ l0 _ _ l1 x11_1 t110 _ ?side1 ?side2 ?side3 ?side4 A19.out).mono ?_); (case side1 => repeat (first | exact (Kd.C_below HR0.out HB.out) | (with_reducible refine Kd.C_alloc ?_ _) | (with_reducible refine Kd.C_drewN ?_ _) | (with_reducible refine Kd.C_drew ?_))); (case side2 => exact HC0.out); (case side3 => repeat (first | exact (Kd.C_below HR1.out HB.out) | (with_reducible refine Kd.C_alloc ?_ _) | (with_reducible refine Kd.C_drewN ?_ _) | (with_reducible refine Kd.C_drew ?_))); (case side4 => exact HC1.out); rintro e w21 ⟨v111, rfl, ho0, hb⟩; have n0_ := Aside0.mk (Kd.R_elder' (by (with_reducible repeat (first | apply Kd.R_alloc | apply Kd.R_drewN | apply Kd.R_drew)); exact HO_9.out) (Kd.R_base ho0) hb); have n1_ := Aside0.mk (Kd.R_elder' (by (with_reducible repeat (first | apply Kd.R_alloc | apply Kd.R_drewN | apply Kd.R_drew)); exact HO_10.out) (Kd.R_base ho0) hb); have n2_ := Aside0.mk (Kd.R_lower (Kd.R_new' (Kd.R_new' ho0 (Kd.R_lt (by (with_reducible repeat (first | apply Kd.R_alloc | apply Kd.R_drewN | apply Kd.R_drew)); exact HO_9.out))) (Kd.R_lt (by (with_reducible repeat (first | apply Kd.R_alloc | apply Kd.R_drewN | apply Kd.R_drew)); exact HO_10.out))) (below_size (by repeat (first | (with_reducible first | exact HB.out | apply below_alloc | apply pw_below_drewN | apply below_drew1) | exact HB.out)))); have n3_ := Aside0.mk (below_step (by repeat (first | (with_reducible first | exact HB.out | apply below_alloc | apply pw_below_drewN | apply below_drew1) | exact HB.out)) hb); clear HO_9; clear HO_10; clear HB; have HO_9 := n0_; have HO_10 := n1_; have HO112 := n2_; have HB := n3_; clear n0_ n1_ n2_ n3_; (try clear hb); (try clear hb2); (try clear hk); (try clear hi); (try clear ho0); obtain ⟨Ao22, co22, eo22⟩ := Kd.R_slice HO112.out; subst eo22)); try go_wp2_with (first | (go_at_call 47; (with_reducible refine (impl_patternsAt.calls k1 _ _ l0 _ _ l1 x11_1 t110 _ ?side1 ?side2 ?side3 ?side4 A19.out).mono ?_); (case side1 => repeat (first | exact (Kd.C_below HR0.out HB.out) | (with_reducible refine Kd.C_alloc ?_ _) | (with_reducible refine Kd.C_drewN ?_ _) | (with_reducible refine Kd.C_drew ?_))); (case side2 => exact HC0.out); (case side3 => repeat (first | exact (Kd.C_below HR1.out HB.out) | (with_reducible refine Kd.C_alloc ?_ _) | (with_reducible refine Kd.C_drewN ?_ _) | (with_reducible refine Kd.C_drew ?_))); (case side4 => exact HC1.out); rintro e w21 ⟨v111, rfl, ho0, hb⟩; have n0_ := Aside0.mk (Kd.R_elder' (by (with_reducible repeat (first | apply Kd.R_alloc | apply Kd.R_drewN | apply Kd.R_drew)); exact HO_9.out) (Kd.R_base ho0) hb); have n1_ := Aside0.mk (Kd.R_elder' (by (with_reducible repeat (first | apply Kd.R_alloc | apply Kd.R_drewN | apply Kd.R_drew)); exact HO_10.out) (Kd.R_base ho0) hb); have n2_ := Aside0.mk (Kd.R_lower (Kd.R_new' (Kd.R_new' ho0 (Kd.R_lt (by (with_reducible repeat (first | apply Kd.R_alloc | apply Kd.R_drewN | apply Kd.R_drew)); exact HO_9.out))) (Kd.R_lt (by (with_reducible repeat (first | apply Kd.R_alloc | apply Kd.R_drewN | apply Kd.R_drew)); exact HO_10.out))) (below_size (by repeat (first | (with_reducible first | exact HB.out | apply below_alloc | apply pw_below_drewN | apply below_drew1) | exact HB.out)))); have n3_ := Aside0.mk (below_step (by repeat (first | (with_reducible first | exact HB.out | apply below_alloc | apply pw_below_drewN | apply below_drew1) | exact HB.out)) hb); clear HO_9; clear HO_10; clear HB; have HO_9 := n0_; have HO_10 := n1_; have HO112 := n2_; have HB := n3_; clear n0_ n1_ n2_ n3_; (try clear hb); (try clear hb2); (try clear hk); (try clear hi); (try clear ho0); obtain ⟨Ao22, co22, eo22⟩ := Kd.R_slice HO112.out; subst eo22)))
                    go_loopg [10, 11, 52] k1 (fun kq v10 v11 v52 w' => ∃ (x10_2 : List Int) (x11_2 : Int) (x52_2 : Int), v11 = .int .i64 x11_2 ∧ v52 = .int .i64 x52_2 ∧ Aside0 (impl_ParseMelody.l1 kq l0 l1 a2 t102 x10_2 x11_2 t110 (t110.length : Int) x52_2 = some (r1, r2)) ∧ Aside0 (kq ≤ k1) ∧ Aside0 (Kd.R (Kd.int .i64) 2 w' w.heap.size (fun k_ => some k_ ≠ (v10 : Value).ownBlock ∧ some k_ ≠ ((.slice Ao22 t110.length co22) : Value).ownBlock) (.slice (some ad105) t102.length co20) t102) ∧ Aside0 (Kd.R (Kd.int .i64) 2 w' w.heap.size (fun k_ => some k_ ≠ ((.slice (some ad105) t102.length co20) : Value).ownBlock ∧ some k_ ≠ ((.slice Ao22 t110.length co22) : Value).ownBlock) v10 x10_2) ∧ Aside0 (Kd.R (Kd.int .i64) 2 w' w.heap.size (fun k_ => some k_ ≠ ((.slice (some ad105) t102.length co20) : Value).ownBlock ∧ some k_ ≠ (v10 : Value).ownBlock) (.slice Ao22 t110.length co22) t110) ∧ Aside0 (Below w.heap.size w w'))
                    case atStart => exact ⟨(x10_1), (x11_1), (0), (by first | rfl | (simp; done) | (simp [*]; done)), (by first | rfl | (simp; done) | (simp [*]; done)), H', ⟨Nat.le_refl _⟩, ⟨by (with_reducible repeat (first | apply Kd.R_alloc | apply Kd.R_drewN | apply Kd.R_drew)); exact HO_9.out⟩, ⟨by (with_reducible repeat (first | apply Kd.R_alloc | apply Kd.R_drewN | apply Kd.R_drew)); exact HO_10.out⟩, ⟨by (with_reducible repeat (first | apply Kd.R_alloc | apply Kd.R_drewN | apply Kd.R_drew)); exact Kd.R_mono HO112.out (fun _ hk => ⟨hk.1.2, hk.2⟩)⟩, ⟨by repeat (first | (with_reducible first | exact HB.out | apply below_alloc | apply pw_below_drewN | apply below_drew1) | exact HB.out)⟩⟩
                    case round =>
                      clear H'
                      try clear c1
                      try clear p1
                      try clear q1
                      try clear hx1
                      try clear p2
                      try clear c3
                      try clear c5
                      try clear c5b0
                      try clear c5b1
                      try clear p6
                      try clear c9
                      try clear c9b0
                      try clear p10
                      try clear q10
                      try clear hx10
                      try clear c11
                      try clear c11b0
                      try clear c12
                      try clear c12b0
                      try clear c13
                      try clear c13b0
                      try clear c14
                      try clear c14b0
                      try clear c15
                      try clear c15b0
                      try clear c15b1
                      try clear c16
                      try clear hx105_0
                      try clear hx106_0
                      try clear p105
                      try clear p106
                      try clear p2
                      try clear q105
                      try clear q106
                      obtain ⟨x10_2, x11_2, x52_2, rfl, rfl, HA, HK2, HO_9, HO_10, HO_50, HB⟩ := hrel
                      cases gk with
                      | zero => exact absurd HA.out (by simp [impl_ParseMelody.l1])
                      | succ k2 =>
                        have H := HA.out
                        clear HA
                        simp only [impl_ParseMelody.l1] at H
                        by_cases c23 : x52_2 < (t110.length : Int)
                        · rw [if_pos c23] at H
                          have c23b0 : decide (x52_2 < (t110.length : Int)) = true := decide_eq_true c23
                          clear c23
                          by_cases c24 : 0 ≤ x52_2
                          · rw [if_pos c24] at H
                            have c24b0 : decide (0 ≤ x52_2) = true := decide_eq_true c24
                            clear c24
                            by_cases c25 : x52_2 < (t110.length : Int)
                            · rw [if_pos c25] at H
                              have c25b0 : decide (x52_2 < (t110.length : Int)) = true := decide_eq_true c25
                              clear c25
                              by_cases c26 : 0 ≤ (rd t110 x52_2)
                              · rw [if_pos c26] at H
                                have c26b0 : decide (0 ≤ (rd t110 x52_2)) = true := decide_eq_true c26
                                clear c26
                                by_cases c27 : (rd t110 x52_2) < (l0.length : Int)
                                · rw [if_pos c27] at H
                                  have c27b0 : decide ((rd t110 x52_2) < (l0.length : Int)) = true := decide_eq_true c27
                                  clear c27
                                  obtain ⟨ji28, hji28⟩ : ∃ j_ : Int, (wrap64 (x11_2 + (((rd_T47 l0 (rd t110 x52_2)).f0).length : Int))) = j_ := ⟨_, rfl⟩
                                  replace H : (if 0 ≤ (ji28) then (if (ji28) < (t102.length : Int) then (if 0 ≤ x11_2 then (if x11_2 < (t102.length : Int) then (if (wrap64 (((rd_T47 l0 (rd t110 x52_2)).f1) + (rd t102 (ji28)))) = (rd t102 x11_2) then (if x10_2.length < 17592186044416 then (impl_ParseMelody.l0 k2 l0 l1 a2 t102 (x10_2 ++ [rd t110 x52_2]) ji28) else (none)) else (impl_ParseMelody.l1 k2 l0 l1 a2 t102 x10_2 x11_2 t110 (t110.length : Int) (wrap64 (x52_2 + 1)))) else (none)) else (none)) else (none)) else (none)) = some (r1, r2) := by first | (rw [hji28] at H; exact H) | (simp only [hji28] at H ⊢; exact H)
                                  have hji28w : (IntKind.i64.wrap (x11_2 + (((rd_T47 l0 (rd t110 x52_2)).f0).length : Int))) = ji28 := (i64_w _).trans hji28
                                  by_cases c29 : 0 ≤ (ji28)
                                  · rw [if_pos c29] at H
                                    have c29b0 : decide (0 ≤ (ji28)) = true := decide_eq_true c29
                                    clear c29
                                    by_cases c30 : (ji28) < (t102.length : Int)
                                    · rw [if_pos c30] at H
                                      have c30b0 : decide ((ji28) < (t102.length : Int)) = true := decide_eq_true c30
                                      clear c30
                                      by_cases c31 : 0 ≤ x11_2
                                      · rw [if_pos c31] at H
                                        have c31b0 : decide (0 ≤ x11_2) = true := decide_eq_true c31
                                        clear c31
                                        by_cases c32 : x11_2 < (t102.length : Int)
                                        · rw [if_pos c32] at H
                                          have c32b0 : decide (x11_2 < (t102.length : Int)) = true := decide_eq_true c32
                                          clear c32
                                          by_cases c33 : (wrap64 (((rd_T47 l0 (rd t110 x52_2)).f1) + (rd t102 (ji28)))) = (rd t102 x11_2)
                                          · rw [if_pos c33] at H
                                            have c33b0 : ((wrap64 (((rd_T47 l0 (rd t110 x52_2)).f1) + (rd t102 (ji28)))) == (rd t102 x11_2)) = true := beq_iff_eq.mpr c33
                                            have c33b1 : ((wrap64 (((rd_T47 l0 (rd t110 x52_2)).f1) + (rd t102 (ji28)))) != (rd t102 x11_2)) = false := bne_eq_false_iff_eq.mpr c33
                                            clear c33
                                            by_cases c34 : x10_2.length < 17592186044416
                                            · rw [if_pos c34] at H
                                              have LMc34 := Aside0.mk c34
                                              clear c34
                                              obtain ⟨y118, hy118⟩ : ∃ y_ : List Int, y_ = (x10_2 ++ [rd t110 x52_2]) := ⟨_, rfl⟩
                                              replace H : (impl_ParseMelody.l0 k2 l0 l1 a2 t102 y118 ji28) = some (r1, r2) := by first | (rw [hy118]; with_reducible exact H) | (have H2_ := (Option.bind_some _ _).symm.trans H; rw [hy118]; with_reducible exact H2_) | (have H2_ := (Option.bind_some _ _).symm.trans H; with_reducible exact H2_) | with_reducible exact H | (rw [hy118]; exact H) | exact H
                                              have Ny118 := Aside0.mk hy118
                                              clear hy118
                                              have H' := Aside0.mk H
                                              clear H
                                              have p113 : 0 ≤ (x52_2 : Int) := of_decide_eq_true (by first | (with_reducible assumption) | assumption)
                                              have q113 : x52_2 < (t110.length : Int) := of_decide_eq_true (by first | (with_reducible assumption) | assumption)
                                              obtain ⟨ad113, e113, hx113_0⟩ := Kd.at_int (Kd.R_reads' HO_50.out).2.2 x52_2 p113 q113
                                              cases e113
                                              replace p113 := eq_true p113
                                              replace q113 := eq_true q113
                                              have p114 : 0 ≤ ((rd t110 x52_2) : Int) := of_decide_eq_true (by first | (with_reducible assumption) | assumption)
                                              have q114 : (rd t110 x52_2) < (l0.length : Int) := of_decide_eq_true (by first | (with_reducible assumption) | assumption)
                                              obtain ⟨ad114, A114_0, c114_0, e114, hx114_0, hx114_1, hl114_0, hi114_0⟩ := at_T47 HR0.out (rd t110 x52_2) p114 q114
                                              cases e114
                                              replace hx114_0 := (HB.out.cell (World.block_lt_of_cell? w _ hx114_0)).trans hx114_0
                                              replace hx114_1 := (HB.out.cell (World.block_lt_of_cell? w _ hx114_1)).trans hx114_1
                                              have HR114_0 := Aside0.mk hi114_0
                                              have HC114_0 := Aside0.mk hl114_0
                                              clear hi114_0 hl114_0
                                              replace p114 := eq_true p114
                                              replace q114 := eq_true q114
                                              go_wp2_with (first | ((with_reducible refine gate_dst (N := 14) rfl ?_); refine box_event ?hg (N := 14) ?hd (cs := #[.slice none 0 0, .int .i64 0]) (t := 47) ?hr ?_; (case hd => rfl); (case hg => rfl); (case hr => first | (go_simp; done) | (go_simp; rfl)); intro gb115 hg w35 hbox hb; have n0_ := Aside0.mk (Kd.R_below (by (with_reducible repeat (first | apply Kd.R_alloc | apply Kd.R_drewN | apply Kd.R_drew)); exact HO_9.out) hb); have n1_ := Aside0.mk (Kd.R_below (by (with_reducible repeat (first | apply Kd.R_alloc | apply Kd.R_drewN | apply Kd.R_drew)); exact HO_10.out) hb); have n2_ := Aside0.mk (Kd.R_below (by (with_reducible repeat (first | apply Kd.R_alloc | apply Kd.R_drewN | apply Kd.R_drew)); exact HO_50.out) hb); have n3_ := Aside0.mk (below_step (by repeat (first | (with_reducible first | exact HB.out | apply below_alloc | apply pw_below_drewN | apply below_drew1) | exact HB.out)) hb); have n4_ := Aside0.mk (hbox); have n5_ := Aside0.mk ((by rw [hg]; exact (below_size (by repeat (first | (with_reducible first | exact HB.out | apply below_alloc | apply pw_below_drewN | apply below_drew1) | exact HB.out))) : w.heap.size ≤ gb115)); have n6_ := Aside0.mk ((by rw [hg]; exact (below_size (by repeat (first | (with_reducible first | exact HB.out | apply below_alloc | apply pw_below_drewN | apply below_drew1) | exact HB.out))) : w.heap.size ≤ gb115)); clear HO_9; clear HO_10; clear HO_50; clear HB; have HO_9 := n0_; have HO_10 := n1_; have HO_50 := n2_; have HB := n3_; have BK115 := n4_; have GW115 := n5_; have GE115 := n6_; clear n0_ n1_ n2_ n3_ n4_ n5_ n6_; clear hb hbox hg; have hcz36_0 : w35.cell? ⟨gb115, 0, none⟩ = some (.slice none 0 0) := (blk_cell BK115.out 0).trans rfl; have hcz36_1 : w35.cell? ⟨gb115, 1, none⟩ = some (.int .i64 0) := (blk_cell BK115.out 1).trans rfl; have hfz36_0 := blk_frozen BK115.out 0; have hfz36_1 := blk_frozen BK115.out 1; have p116 : 0 ≤ ((ji28) : Int) := of_decide_eq_true (by first | (with_reducible assumption) | assumption); have q116 : (ji28) < (t102.length : Int) := of_decide_eq_true (by first | (with_reducible assumption) | assumption); obtain ⟨ad116, e116, hx116_0⟩ := Kd.at_int (Kd.R_reads' HO_9.out).2.2 (ji28) p116 q116; obtain rfl : ad105 = ad116 := (by injection e116); have hn116_0 : ad105.block ≠ gb115 := Kd.own_blk (Kd.R_ne HO_9.out BK115.out (by decide)); have hn116_1 : ad105.block ≠ gb115 := Kd.own_blk (Kd.R_ne HO_9.out BK115.out (by decide)); replace hx116_0 := (cell_far (p := ⟨gb115, 0, none⟩) (by first | (rw [add_block]; exact hn116_0) | (show (Addr.add _ _).block ≠ _; rw [add_block]; exact hn116_0) | exact hn116_0) (.slice A114_0 ((rd_T47 l0 (rd t110 x52_2)).f0).length c114_0)).trans hx116_0; replace hx116_0 := (cell_far (p := ⟨gb115, 1, none⟩) (by first | (rw [add_block]; exact hn116_1) | (show (Addr.add _ _).block ≠ _; rw [add_block]; exact hn116_1) | exact hn116_1) (.int .i64 ((rd_T47 l0 (rd t110 x52_2)).f1))).trans hx116_0; (try have hy116_0 := fun (n_ : Nat) => (show ((((w35.drewN n_).setCell ⟨gb115, 0, none⟩ (.slice A114_0 ((rd_T47 l0 (rd t110 x52_2)).f0).length c114_0)).setCell ⟨gb115, 1, none⟩ (.int .i64 ((rd_T47 l0 (rd t110 x52_2)).f1)))).cell? _ = some _ from hx116_0)); clear hn116_0; clear hn116_1; replace p116 := eq_true p116; replace q116 := eq_true q116; have p117 : 0 ≤ (x11_2 : Int) := of_decide_eq_true (by first | (with_reducible assumption) | assumption); have q117 : x11_2 < (t102.length : Int) := of_decide_eq_true (by first | (with_reducible assumption) | assumption); obtain ⟨ad117, e117, hx117_0⟩ := Kd.at_int (Kd.R_reads' HO_9.out).2.2 x11_2 p117 q117; obtain rfl : ad105 = ad117 := (by injection e117); have hn117_0 : ad105.block ≠ gb115 := Kd.own_blk (Kd.R_ne HO_9.out BK115.out (by decide)); have hn117_1 : ad105.block ≠ gb115 := Kd.own_blk (Kd.R_ne HO_9.out BK115.out (by decide)); replace hx117_0 := (cell_far (p := ⟨gb115, 0, none⟩) (by first | (rw [add_block]; exact hn117_0) | (show (Addr.add _ _).block ≠ _; rw [add_block]; exact hn117_0) | exact hn117_0) (.slice A114_0 ((rd_T47 l0 (rd t110 x52_2)).f0).length c114_0)).trans hx117_0; replace hx117_0 := (cell_far (p := ⟨gb115, 1, none⟩) (by first | (rw [add_block]; exact hn117_1) | (show (Addr.add _ _).block ≠ _; rw [add_block]; exact hn117_1) | exact hn117_1) (.int .i64 ((rd_T47 l0 (rd t110 x52_2)).f1))).trans hx117_0; (try have hy117_0 := fun (n_ : Nat) => (show ((((w35.drewN n_).setCell ⟨gb115, 0, none⟩ (.slice A114_0 ((rd_T47 l0 (rd t110 x52_2)).f0).length c114_0)).setCell ⟨gb115, 1, none⟩ (.int .i64 ((rd_T47 l0 (rd t110 x52_2)).f1)))).cell? _ = some _ from hx117_0)); clear hn117_0; clear hn117_1; replace p117 := eq_true p117; replace q117 := eq_true q117) | ((with_reducible refine gate_builtin (b := .append) (xs := #[.tmp 76, .tmp 78]) rfl ?_); at_builtin; refine Kd.R_append (Kd.int .i64) (w0 := w) w.heap.size rfl (.tmp 76) (.tmp 78) 29 2 (.int .i64 0) 8 rfl Try.underlying29 info2 rfl (by decide) (by omega) u10 x10_2 (rd t110 x52_2) [.int .i64 (rd t110 x52_2)] (fun k_ => some k_ ≠ (.slice (some ad105) t102.length co20 : Value).ownBlock ∧ some k_ ≠ (.slice (some ad113) t110.length co22 : Value).ownBlock) (fun _ => False) rfl (by first | (go_simp; done) | (go_simp; rfl)) ?aP (fun _ hk => hk.elim) ?aF ?aO ?aB ?aS ?aL ?_; (case aP => exact rfl); (case aB => exact (by repeat (first | (with_reducible first | exact HB.out | apply below_alloc | apply pw_below_drewN | apply below_drew1 | refine below_set ?_ GE115.out) | exact HB.out))); (case aF => exact (fun k_ hk => ⟨Kd.fresh' (Kd.R_lt (by (with_reducible repeat (first | apply Kd.R_alloc | apply Kd.R_drewN | apply Kd.R_drew)); exact (Kd.R_mono (Kd.R_far (p := ⟨gb115, 1, none⟩) (Kd.R_far (p := ⟨gb115, 0, none⟩) (Kd.R_types HO_9.out BK115.out (by decide)) (fun _ hk => hk.2) (.slice A114_0 ((rd_T47 l0 (rd t110 x52_2)).f0).length c114_0)) (fun _ hk => hk.2) (.int .i64 ((rd_T47 l0 (rd t110 x52_2)).f1))) (fun _ h_ => h_.1)))) k_ hk, Kd.fresh' (Kd.R_lt (by (with_reducible repeat (first | apply Kd.R_alloc | apply Kd.R_drewN | apply Kd.R_drew)); exact (Kd.R_mono (Kd.R_far (p := ⟨gb115, 1, none⟩) (Kd.R_far (p := ⟨gb115, 0, none⟩) (Kd.R_types HO_50.out BK115.out (by decide)) (fun _ hk => hk.2) (.slice A114_0 ((rd_T47 l0 (rd t110 x52_2)).f0).length c114_0)) (fun _ hk => hk.2) (.int .i64 ((rd_T47 l0 (rd t110 x52_2)).f1))) (fun _ h_ => h_.1)))) k_ hk⟩)); (case aO => exact (by (with_reducible repeat (first | apply Kd.R_alloc | apply Kd.R_drewN | apply Kd.R_drew)); exact Kd.R_mono (Kd.R_far (p := ⟨gb115, 1, none⟩) (Kd.R_far (p := ⟨gb115, 0, none⟩) (Kd.R_types HO_10.out BK115.out (by decide)) (fun _ hk => hk.2) (.slice A114_0 ((rd_T47 l0 (rd t110 x52_2)).f0).length c114_0)) (fun _ hk => hk.2) (.int .i64 ((rd_T47 l0 (rd t110 x52_2)).f1))) (fun _ hk => ⟨hk.1.1, hk.1.2⟩))); (case aS => exact (below_size (by repeat (first | (with_reducible first | exact HB.out | apply below_alloc | apply pw_below_drewN | apply below_drew1 | refine below_set ?_ GE115.out) | exact HB.out)))); (case aL => have := LMc34.out; omega); intro v119 w37 ho hb hg hat; rw [← Ny118.out] at ho; have n0_ := Aside0.mk (Kd.R_after (ok := (fun k_ => some k_ ≠ (.slice (some ad113) t110.length co22 : Value).ownBlock)) (by (with_reducible repeat (first | apply Kd.R_alloc | apply Kd.R_drewN | apply Kd.R_drew)); exact Kd.R_mono (Kd.R_far (p := ⟨gb115, 1, none⟩) (Kd.R_far (p := ⟨gb115, 0, none⟩) (Kd.R_types HO_9.out BK115.out (by decide)) (fun _ hk => hk.2) (.slice A114_0 ((rd_T47 l0 (rd t110 x52_2)).f0).length c114_0)) (fun _ hk => hk.2) (.int .i64 ((rd_T47 l0 (rd t110 x52_2)).f1))) (fun _ hk => ⟨hk.1.2, hk.1.1⟩)) hg hat); have n1_ := Aside0.mk (Kd.R_after (ok := (fun k_ => some k_ ≠ (.slice (some ad105) t102.length co20 : Value).ownBlock)) (by (with_reducible repeat (first | apply Kd.R_alloc | apply Kd.R_drewN | apply Kd.R_drew)); exact Kd.R_mono (Kd.R_far (p := ⟨gb115, 1, none⟩) (Kd.R_far (p := ⟨gb115, 0, none⟩) (Kd.R_types HO_50.out BK115.out (by decide)) (fun _ hk => hk.2) (.slice A114_0 ((rd_T47 l0 (rd t110 x52_2)).f0).length c114_0)) (fun _ hk => hk.2) (.int .i64 ((rd_T47 l0 (rd t110 x52_2)).f1))) (fun _ hk => ⟨hk.1.1, hk.1.2⟩)) hg hat); have n2_ := Aside0.mk (blk_grown (g := gb115) (o := .cells #[.slice A114_0 ((rd_T47 l0 (rd t110 x52_2)).f0).length c114_0, .int .i64 ((rd_T47 l0 (rd t110 x52_2)).f1)] 47 (0, 0)) (by (with_reducible repeat (first | refine blk_drewN ?_ _ | refine blk_drew ?_ | refine blk_alloc ?_ _)); refine blk_put (cs := #[.slice A114_0 ((rd_T47 l0 (rd t110 x52_2)).f0).length c114_0, .int .i64 0]) ?_ 1 _ rfl; (with_reducible repeat (first | refine blk_drewN ?_ _ | refine blk_drew ?_ | refine blk_alloc ?_ _)); refine blk_put (cs := #[.slice none 0 0, .int .i64 0]) ?_ 0 _ rfl; (with_reducible repeat (first | refine blk_drewN ?_ _ | refine blk_drew ?_ | refine blk_alloc ?_ _)); exact BK115.out) hg (Kd.R_ne HO_10.out BK115.out (by decide))); have n3_ := Aside0.mk (hb); have n4_ := Aside0.mk (ho); clear HO_9; clear HO_50; clear BK115; clear HB; clear HO_10; have HO_9 := n0_; have HO_50 := n1_; have BK115 := n2_; have HB := n3_; have HO120 := n4_; clear n0_ n1_ n2_ n3_ n4_; clear ho hb hg hat; have hcz38_0 : w37.cell? ⟨gb115, 0, none⟩ = some (.slice A114_0 ((rd_T47 l0 (rd t110 x52_2)).f0).length c114_0) := (blk_cell BK115.out 0).trans rfl; have hcz38_1 : w37.cell? ⟨gb115, 1, none⟩ = some (.int .i64 ((rd_T47 l0 (rd t110 x52_2)).f1)) := (blk_cell BK115.out 1).trans rfl; have hfz38_0 := blk_frozen BK115.out 0; have hfz38_1 := blk_frozen BK115.out 1))
                                              repeat (go_quiet (first | ((with_reducible refine gate_dst (N := 14) rfl ?_); refine box_event ?hg (N := 14) ?hd (cs := #[.slice none 0 0, .int .i64 0]) (t := 47) ?hr ?_; (case hd => rfl); (case hg => rfl); (case hr => first | (go_simp; done) | (go_simp; rfl)); intro gb115 hg w35 hbox hb; have n0_ := Aside0.mk (Kd.R_below (by (with_reducible repeat (first | apply Kd.R_alloc | apply Kd.R_drewN | apply Kd.R_drew)); exact HO_9.out) hb); have n1_ := Aside0.mk (Kd.R_below (by (with_reducible repeat (first | apply Kd.R_alloc | apply Kd.R_drewN | apply Kd.R_drew)); exact HO_10.out) hb); have n2_ := Aside0.mk (Kd.R_below (by (with_reducible repeat (first | apply Kd.R_alloc | apply Kd.R_drewN | apply Kd.R_drew)); exact HO_50.out) hb); have n3_ := Aside0.mk (below_step (by repeat (first | (with_reducible first | exact HB.out | apply below_alloc | apply pw_below_drewN | apply below_drew1) | exact HB.out)) hb); have n4_ := Aside0.mk (hbox); have n5_ := Aside0.mk ((by rw [hg]; exact (below_size (by repeat (first | (with_reducible first | exact HB.out | apply below_alloc | apply pw_below_drewN | apply below_drew1) | exact HB.out))) : w.heap.size ≤ gb115)); have n6_ := Aside0.mk ((by rw [hg]; exact (below_size (by repeat (first | (with_reducible first | exact HB.out | apply below_alloc | apply pw_below_drewN | apply below_drew1) | exact HB.out))) : w.heap.size ≤ gb115)); clear HO_9; clear HO_10; clear HO_50; clear HB; have HO_9 := n0_; have HO_10 := n1_; have HO_50 := n2_; have HB := n3_; have BK115 := n4_; have GW115 := n5_; have GE115 := n6_; clear n0_ n1_ n2_ n3_ n4_ n5_ n6_; clear hb hbox hg; have hcz36_0 : w35.cell? ⟨gb115, 0, none⟩ = some (.slice none 0 0) := (blk_cell BK115.out 0).trans rfl; have hcz36_1 : w35.cell? ⟨gb115, 1, none⟩ = some (.int .i64 0) := (blk_cell BK115.out 1).trans rfl; have hfz36_0 := blk_frozen BK115.out 0; have hfz36_1 := blk_frozen BK115.out 1; have p116 : 0 ≤ ((ji28) : Int) := of_decide_eq_true (by first | (with_reducible assumption) | assumption); have q116 : (ji28) < (t102.length : Int) := of_decide_eq_true (by first | (with_reducible assumption) | assumption); obtain ⟨ad116, e116, hx116_0⟩ := Kd.at_int (Kd.R_reads' HO_9.out).2.2 (ji28) p116 q116; obtain rfl : ad105 = ad116 := (by injection e116); have hn116_0 : ad105.block ≠ gb115 := Kd.own_blk (Kd.R_ne HO_9.out BK115.out (by decide)); have hn116_1 : ad105.block ≠ gb115 := Kd.own_blk (Kd.R_ne HO_9.out BK115.out (by decide)); replace hx116_0 := (cell_far (p := ⟨gb115, 0, none⟩) (by first | (rw [add_block]; exact hn116_0) | (show (Addr.add _ _).block ≠ _; rw [add_block]; exact hn116_0) | exact hn116_0) (.slice A114_0 ((rd_T47 l0 (rd t110 x52_2)).f0).length c114_0)).trans hx116_0; replace hx116_0 := (cell_far (p := ⟨gb115, 1, none⟩) (by first | (rw [add_block]; exact hn116_1) | (show (Addr.add _ _).block ≠ _; rw [add_block]; exact hn116_1) | exact hn116_1) (.int .i64 ((rd_T47 l0 (rd t110 x52_2)).f1))).trans hx116_0; (try have hy116_0 := fun (n_ : Nat) => (show ((((w35.drewN n_).setCell ⟨gb115, 0, none⟩ (.slice A114_0 ((rd_T47 l0 (rd t110 x52_2)).f0).length c114_0)).setCell ⟨gb115, 1, none⟩ (.int .i64 ((rd_T47 l0 (rd t110 x52_2)).f1)))).cell? _ = some _ from hx116_0)); clear hn116_0; clear hn116_1; replace p116 := eq_true p116; replace q116 := eq_true q116; have p117 : 0 ≤ (x11_2 : Int) := of_decide_eq_true (by first | (with_reducible assumption) | assumption); have q117 : x11_2 < (t102.length : Int) := of_decide_eq_true (by first | (with_reducible assumption) | assumption); obtain ⟨ad117, e117, hx117_0⟩ := Kd.at_int (Kd.R_reads' HO_9.out).2.2 x11_2 p117 q117; obtain rfl : ad105 = ad117 := (by injection e117); have hn117_0 : ad105.block ≠ gb115 := Kd.own_blk (Kd.R_ne HO_9.out BK115.out (by decide)); have hn117_1 : ad105.block ≠ gb115 := Kd.own_blk (Kd.R_ne HO_9.out BK115.out (by decide)); replace hx117_0 := (cell_far (p := ⟨gb115, 0, none⟩) (by first | (rw [add_block]; exact hn117_0) | (show (Addr.add _ _).block ≠ _; rw [add_block]; exact hn117_0) | exact hn117_0) (.slice A114_0 ((rd_T47 l0 (rd t110 x52_2)).f0).length c114_0)).trans hx117_0; replace hx117_0 := (cell_far (p := ⟨gb115, 1, none⟩) (by first | (rw [add_block]; exact hn117_1) | (show (Addr.add _ _).block ≠ _; rw [add_block]; exact hn117_1) | exact hn117_1) (.int .i64 ((rd_T47 l0 (rd t110 x52_2)).f1))).trans hx117_0; (try have hy117_0 := fun (n_ : Nat) => (show ((((w35.drewN n_).setCell ⟨gb115, 0, none⟩ (.slice A114_0 ((rd_T47 l0 (rd t110 x52_2)).f0).length c114_0)).setCell ⟨gb115, 1, none⟩ (.int .i64 ((rd_T47 l0 (rd t110 x52_2)).f1)))).cell? _ = some _ from hx117_0)); clear hn117_0; clear hn117_1; replace p117 := eq_true p117; replace q117 := eq_true q117) | ((with_reducible refine gate_builtin (b := .append) (xs := #[.tmp 76, .tmp 78]) rfl ?_); at_builtin; refine Kd.R_append (Kd.int .i64) (w0 := w) w.heap.size rfl (.tmp 76) (.tmp 78) 29 2 (.int .i64 0) 8 rfl Try.underlying29 info2 rfl (by decide) (by omega) u10 x10_2 (rd t110 x52_2) [.int .i64 (rd t110 x52_2)] (fun k_ => some k_ ≠ (.slice (some ad105) t102.length co20 : Value).ownBlock ∧ some k_ ≠ (.slice (some ad113) t110.length co22 : Value).ownBlock) (fun _ => False) rfl (by first | (go_simp; done) | (go_simp; rfl)) ?aP (fun _ hk => hk.elim) ?aF ?aO ?aB ?aS ?aL ?_; (case aP => exact rfl); (case aB => exact (by repeat (first | (with_reducible first | exact HB.out | apply below_alloc | apply pw_below_drewN | apply below_drew1 | refine below_set ?_ GE115.out) | exact HB.out))); (case aF => exact (fun k_ hk => ⟨Kd.fresh' (Kd.R_lt (by (with_reducible repeat (first | apply Kd.R_alloc | apply Kd.R_drewN | apply Kd.R_drew)); exact (Kd.R_mono (Kd.R_far (p := ⟨gb115, 1, none⟩) (Kd.R_far (p := ⟨gb115, 0, none⟩) (Kd.R_types HO_9.out BK115.out (by decide)) (fun _ hk => hk.2) (.slice A114_0 ((rd_T47 l0 (rd t110 x52_2)).f0).length c114_0)) (fun _ hk => hk.2) (.int .i64 ((rd_T47 l0 (rd t110 x52_2)).f1))) (fun _ h_ => h_.1)))) k_ hk, Kd.fresh' (Kd.R_lt (by (with_reducible repeat (first | apply Kd.R_alloc | apply Kd.R_drewN | apply Kd.R_drew)); exact (Kd.R_mono (Kd.R_far (p := ⟨gb115, 1, none⟩) (Kd.R_far (p := ⟨gb115, 0, none⟩) (Kd.R_types HO_50.out BK115.out (by decide)) (fun _ hk => hk.2) (.slice A114_0 ((rd_T47 l0 (rd t110 x52_2)).f0).length c114_0)) (fun _ hk => hk.2) (.int .i64 ((rd_T47 l0 (rd t110 x52_2)).f1))) (fun _ h_ => h_.1)))) k_ hk⟩)); (case aO => exact (by (with_reducible repeat (first | apply Kd.R_alloc | apply Kd.R_drewN | apply Kd.R_drew)); exact Kd.R_mono (Kd.R_far (p := ⟨gb115, 1, none⟩) (Kd.R_far (p := ⟨gb115, 0, none⟩) (Kd.R_types HO_10.out BK115.out (by decide)) (fun _ hk => hk.2) (.slice A114_0 ((rd_T47 l0 (rd t110 x52_2)).f0).length c114_0)) (fun _ hk => hk.2) (.int .i64 ((rd_T47 l0 (rd t110 x52_2)).f1))) (fun _ hk => ⟨hk.1.1, hk.1.2⟩))); (case aS => exact (below_size (by repeat (first | (with_reducible first | exact HB.out | apply below_alloc | apply pw_below_drewN | apply below_drew1 | refine below_set ?_ GE115.out) | exact HB.out)))); (case aL => have := LMc34.out; omega); intro v119 w37 ho hb hg hat; rw [← Ny118.out] at ho; have n0_ := Aside0.mk (Kd.R_after (ok := (fun k_ => some k_ ≠ (.slice (some ad113) t110.length co22 : Value).ownBlock)) (by (with_reducible repeat (first | apply Kd.R_alloc | apply Kd.R_drewN | apply Kd.R_drew)); exact Kd.R_mono (Kd.R_far (p := ⟨gb115, 1, none⟩) (Kd.R_far (p := ⟨gb115, 0, none⟩) (Kd.R_types HO_9.out BK115.out (by decide)) (fun _ hk => hk.2) (.slice A114_0 ((rd_T47 l0 (rd t110 x52_2)).f0).length c114_0)) (fun _ hk => hk.2) (.int .i64 ((rd_T47 l0 (rd t110 x52_2)).f1))) (fun _ hk => ⟨hk.1.2, hk.1.1⟩)) hg hat); have n1_ := Aside0.mk (Kd.R_after (ok := (fun k_ => some k_ ≠ (.slice (some ad105) t102.length co20 : Value).ownBlock)) (by (with_reducible repeat (first | apply Kd.R_alloc | apply Kd.R_drewN | apply Kd.R_drew)); exact Kd.R_mono (Kd.R_far (p := ⟨gb115, 1, none⟩) (Kd.R_far (p := ⟨gb115, 0, none⟩) (Kd.R_types HO_50.out BK115.out (by decide)) (fun _ hk => hk.2) (.slice A114_0 ((rd_T47 l0 (rd t110 x52_2)).f0).length c114_0)) (fun _ hk => hk.2) (.int .i64 ((rd_T47 l0 (rd t110 x52_2)).f1))) (fun _ hk => ⟨hk.1.1, hk.1.2⟩)) hg hat); have n2_ := Aside0.mk (blk_grown (g := gb115) (o := .cells #[.slice A114_0 ((rd_T47 l0 (rd t110 x52_2)).f0).length c114_0, .int .i64 ((rd_T47 l0 (rd t110 x52_2)).f1)] 47 (0, 0)) (by (with_reducible repeat (first | refine blk_drewN ?_ _ | refine blk_drew ?_ | refine blk_alloc ?_ _)); refine blk_put (cs := #[.slice A114_0 ((rd_T47 l0 (rd t110 x52_2)).f0).length c114_0, .int .i64 0]) ?_ 1 _ rfl; (with_reducible repeat (first | refine blk_drewN ?_ _ | refine blk_drew ?_ | refine blk_alloc ?_ _)); refine blk_put (cs := #[.slice none 0 0, .int .i64 0]) ?_ 0 _ rfl; (with_reducible repeat (first | refine blk_drewN ?_ _ | refine blk_drew ?_ | refine blk_alloc ?_ _)); exact BK115.out) hg (Kd.R_ne HO_10.out BK115.out (by decide))); have n3_ := Aside0.mk (hb); have n4_ := Aside0.mk (ho); clear HO_9; clear HO_50; clear BK115; clear HB; clear HO_10; have HO_9 := n0_; have HO_50 := n1_; have BK115 := n2_; have HB := n3_; have HO120 := n4_; clear n0_ n1_ n2_ n3_ n4_; clear ho hb hg hat; have hcz38_0 : w37.cell? ⟨gb115, 0, none⟩ = some (.slice A114_0 ((rd_T47 l0 (rd t110 x52_2)).f0).length c114_0) := (blk_cell BK115.out 0).trans rfl; have hcz38_1 : w37.cell? ⟨gb115, 1, none⟩ = some (.int .i64 ((rd_T47 l0 (rd t110 x52_2)).f1)) := (blk_cell BK115.out 1).trans rfl; have hfz38_0 := blk_frozen BK115.out 0; have hfz38_1 := blk_frozen BK115.out 1)); try go_wp2_with (first | ((with_reducible refine gate_dst (N := 14) rfl ?_); refine box_event ?hg (N := 14) ?hd (cs := #[.slice none 0 0, .int .i64 0]) (t := 47) ?hr ?_; (case hd => rfl); (case hg => rfl); (case hr => first | (go_simp; done) | (go_simp; rfl)); intro gb115 hg w35 hbox hb; have n0_ := Aside0.mk (Kd.R_below (by (with_reducible repeat (first | apply Kd.R_alloc | apply Kd.R_drewN | apply Kd.R_drew)); exact HO_9.out) hb); have n1_ := Aside0.mk (Kd.R_below (by (with_reducible repeat (first | apply Kd.R_alloc | apply Kd.R_drewN | apply Kd.R_drew)); exact HO_10.out) hb); have n2_ := Aside0.mk (Kd.R_below (by (with_reducible repeat (first | apply Kd.R_alloc | apply Kd.R_drewN | apply Kd.R_drew)); exact HO_50.out) hb); have n3_ := Aside0.mk (below_step (by repeat (first | (with_reducible first | exact HB.out | apply below_alloc | apply pw_below_drewN | apply below_drew1) | exact HB.out)) hb); have n4_ := Aside0.mk (hbox); have n5_ := Aside0.mk ((by rw [hg]; exact (below_size (by repeat (first | (with_reducible first | exact HB.out | apply below_alloc | apply pw_below_drewN | apply below_drew1) | exact HB.out))) : w.heap.size ≤ gb115)); have n6_ := Aside0.mk ((by rw [hg]; exact (below_size (by repeat (first | (with_reducible first | exact HB.out | apply below_alloc | apply pw_below_drewN | apply below_drew1) | exact HB.out))) : w.heap.size ≤ gb115)); clear HO_9; clear HO_10; clear HO_50; clear HB; have HO_9 := n0_; have HO_10 := n1_; have HO_50 := n2_; have HB := n3_; have BK115 := n4_; have GW115 := n5_; have GE115 := n6_; clear n0_ n1_ n2_ n3_ n4_ n5_ n6_; clear hb hbox hg; have hcz36_0 : w35.cell? ⟨gb115, 0, none⟩ = some (.slice none 0 0) := (blk_cell BK115.out 0).trans rfl; have hcz36_1 : w35.cell? ⟨gb115, 1, none⟩ = some (.int .i64 0) := (blk_cell BK115.out 1).trans rfl; have hfz36_0 := blk_frozen BK115.out 0; have hfz36_1 := blk_frozen BK115.out 1; have p116 : 0 ≤ ((ji28) : Int) := of_decide_eq_true (by first | (with_reducible assumption) | assumption); have q116 : (ji28) < (t102.length : Int) := of_decide_eq_true (by first | (with_reducible assumption) | assumption); obtain ⟨ad116, e116, hx116_0⟩ := Kd.at_int (Kd.R_reads' HO_9.out).2.2 (ji28) p116 q116; obtain rfl : ad105 = ad116 := (by injection e116); have hn116_0 : ad105.block ≠ gb115 := Kd.own_blk (Kd.R_ne HO_9.out BK115.out (by decide)); have hn116_1 : ad105.block ≠ gb115 := Kd.own_blk (Kd.R_ne HO_9.out BK115.out (by decide)); replace hx116_0 := (cell_far (p := ⟨gb115, 0, none⟩) (by first | (rw [add_block]; exact hn116_0) | (show (Addr.add _ _).block ≠ _; rw [add_block]; exact hn116_0) | exact hn116_0) (.slice A114_0 ((rd_T47 l0 (rd t110 x52_2)).f0).length c114_0)).trans hx116_0; replace hx116_0 := (cell_far (p := ⟨gb115, 1, none⟩) (by first | (rw [add_block]; exact hn116_1) | (show (Addr.add _ _).block ≠ _; rw [add_block]; exact hn116_1) | exact hn116_1) (.int .i64 ((rd_T47 l0 (rd t110 x52_2)).f1))).trans hx116_0; (try have hy116_0 := fun (n_ : Nat) => (show ((((w35.drewN n_).setCell ⟨gb115, 0, none⟩ (.slice A114_0 ((rd_T47 l0 (rd t110 x52_2)).f0).length c114_0)).setCell ⟨gb115, 1, none⟩ (.int .i64 ((rd_T47 l0 (rd t110 x52_2)).f1)))).cell? _ = some _ from hx116_0)); clear hn116_0; clear hn116_1; replace p116 := eq_true p116; replace q116 := eq_true q116; have p117 : 0 ≤ (x11_2 : Int) := of_decide_eq_true (by first | (with_reducible assumption) | assumption); have q117 : x11_2 < (t102.length : Int) := of_decide_eq_true (by first | (with_reducible assumption) | assumption); obtain ⟨ad117, e117, hx117_0⟩ := Kd.at_int (Kd.R_reads' HO_9.out).2.2 x11_2 p117 q117; obtain rfl : ad105 = ad117 := (by injection e117); have hn117_0 : ad105.block ≠ gb115 := Kd.own_blk (Kd.R_ne HO_9.out BK115.out (by decide)); have hn117_1 : ad105.block ≠ gb115 := Kd.own_blk (Kd.R_ne HO_9.out BK115.out (by decide)); replace hx117_0 := (cell_far (p := ⟨gb115, 0, none⟩) (by first | (rw [add_block]; exact hn117_0) | (show (Addr.add _ _).block ≠ _; rw [add_block]; exact hn117_0) | exact hn117_0) (.slice A114_0 ((rd_T47 l0 (rd t110 x52_2)).f0).length c114_0)).trans hx117_0; replace hx117_0 := (cell_far (p := ⟨gb115, 1, none⟩) (by first | (rw [add_block]; exact hn117_1) | (show (Addr.add _ _).block ≠ _; rw [add_block]; exact hn117_1) | exact hn117_1) (.int .i64 ((rd_T47 l0 (rd t110 x52_2)).f1))).trans hx117_0; (try have hy117_0 := fun (n_ : Nat) => (show ((((w35.drewN n_).setCell ⟨gb115, 0, none⟩ (.slice A114_0 ((rd_T47 l0 (rd t110 x52_2)).f0).length c114_0)).setCell ⟨gb115, 1, none⟩ (.int .i64 ((rd_T47 l0 (rd t110 x52_2)).f1)))).cell? _ = some _ from hx117_0)); clear hn117_0; clear hn117_1; replace p117 := eq_true p117; replace q117 := eq_true q117) | ((with_reducible refine gate_builtin (b := .append) (xs := #[.tmp 76, .tmp 78]) rfl ?_); at_builtin; refine Kd.R_append (Kd.int .i64) (w0 := w) w.heap.size rfl (.tmp 76) (.tmp 78) 29 2 (.int .i64 0) 8 rfl Try.underlying29 info2 rfl (by decide) (by omega) u10 x10_2 (rd t110 x52_2) [.int .i64 (rd t110 x52_2)] (fun k_ => some k_ ≠ (.slice (some ad105) t102.length co20 : Value).ownBlock ∧ some k_ ≠ (.slice (some ad113) t110.length co22 : Value).ownBlock) (fun _ => False) rfl (by first | (go_simp; done) | (go_simp; rfl)) ?aP (fun _ hk => hk.elim) ?aF ?aO ?aB ?aS ?aL ?_; (case aP => exact rfl); (case aB => exact (by repeat (first | (with_reducible first | exact HB.out | apply below_alloc | apply pw_below_drewN | apply below_drew1 | refine below_set ?_ GE115.out) | exact HB.out))); (case aF => exact (fun k_ hk => ⟨Kd.fresh' (Kd.R_lt (by (with_reducible repeat (first | apply Kd.R_alloc | apply Kd.R_drewN | apply Kd.R_drew)); exact (Kd.R_mono (Kd.R_far (p := ⟨gb115, 1, none⟩) (Kd.R_far (p := ⟨gb115, 0, none⟩) (Kd.R_types HO_9.out BK115.out (by decide)) (fun _ hk => hk.2) (.slice A114_0 ((rd_T47 l0 (rd t110 x52_2)).f0).length c114_0)) (fun _ hk => hk.2) (.int .i64 ((rd_T47 l0 (rd t110 x52_2)).f1))) (fun _ h_ => h_.1)))) k_ hk, Kd.fresh' (Kd.R_lt (by (with_reducible repeat (first | apply Kd.R_alloc | apply Kd.R_drewN | apply Kd.R_drew)); exact (Kd.R_mono (Kd.R_far (p := ⟨gb115, 1, none⟩) (Kd.R_far (p := ⟨gb115, 0, none⟩) (Kd.R_types HO_50.out BK115.out (by decide)) (fun _ hk => hk.2) (.slice A114_0 ((rd_T47 l0 (rd t110 x52_2)).f0).length c114_0)) (fun _ hk => hk.2) (.int .i64 ((rd_T47 l0 (rd t110 x52_2)).f1))) (fun _ h_ => h_.1)))) k_ hk⟩)); (case aO => exact (by (with_reducible repeat (first | apply Kd.R_alloc | apply Kd.R_drewN | apply Kd.R_drew)); exact Kd.R_mono (Kd.R_far (p := ⟨gb115, 1, none⟩) (Kd.R_far (p := ⟨gb115, 0, none⟩) (Kd.R_types HO_10.out BK115.out (by decide)) (fun _ hk => hk.2) (.slice A114_0 ((rd_T47 l0 (rd t110 x52_2)).f0).length c114_0)) (fun _ hk => hk.2) (.int .i64 ((rd_T47 l0 (rd t110 x52_2)).f1))) (fun _ hk => ⟨hk.1.1, hk.1.2⟩))); (case aS => exact (below_size (by repeat (first | (with_reducible first | exact HB.out | apply below_alloc | apply pw_below_drewN | apply below_drew1 | refine below_set ?_ GE115.out) | exact HB.out)))); (case aL => have := LMc34.out; omega); intro v119 w37 ho hb hg hat; rw [← Ny118.out] at ho; have n0_ := Aside0.mk (Kd.R_after (ok := (fun k_ => some k_ ≠ (.slice (some ad113) t110.length co22 : Value).ownBlock)) (by (with_reducible repeat (first | apply Kd.R_alloc | apply Kd.R_drewN | apply Kd.R_drew)); exact Kd.R_mono (Kd.R_far (p := ⟨gb115, 1, none⟩) (Kd.R_far (p := ⟨gb115, 0, none⟩) (Kd.R_types HO_9.out BK115.out (by decide)) (fun _ hk => hk.2) (.slice A114_0 ((rd_T47 l0 (rd t110 x52_2)).f0).length c114_0)) (fun _ hk => hk.2) (.int .i64 ((rd_T47 l0 (rd t110 x52_2)).f1))) (fun _ hk => ⟨hk.1.2, hk.1.1⟩)) hg hat); have n1_ := Aside0.mk (Kd.R_after (ok := (fun k_ => some k_ ≠ (.slice (some ad105) t102.length co20 : Value).ownBlock)) (by (with_reducible repeat (first | apply Kd.R_alloc | apply Kd.R_drewN | apply Kd.R_drew)); exact Kd.R_mono (Kd.R_far (p := ⟨gb115, 1, none⟩) (Kd.R_far (p := ⟨gb115, 0, none⟩) (Kd.R_types HO_50.out BK115.out (by decide)) (fun _ hk => hk.2) (.slice A114_0 ((rd_T47 l0 (rd t110 x52_2)).f0).length c114_0)) (fun _ hk => hk.2) (.int .i64 ((rd_T47 l0 (rd t110 x52_2)).f1))) (fun _ hk => ⟨hk.1.1, hk.1.2⟩)) hg hat); have n2_ := Aside0.mk (blk_grown (g := gb115) (o := .cells #[.slice A114_0 ((rd_T47 l0 (rd t110 x52_2)).f0).length c114_0, .int .i64 ((rd_T47 l0 (rd t110 x52_2)).f1)] 47 (0, 0)) (by (with_reducible repeat (first | refine blk_drewN ?_ _ | refine blk_drew ?_ | refine blk_alloc ?_ _)); refine blk_put (cs := #[.slice A114_0 ((rd_T47 l0 (rd t110 x52_2)).f0).length c114_0, .int .i64 0]) ?_ 1 _ rfl; (with_reducible repeat (first | refine blk_drewN ?_ _ | refine blk_drew ?_ | refine blk_alloc ?_ _)); refine blk_put (cs := #[.slice none 0 0, .int .i64 0]) ?_ 0 _ rfl; (with_reducible repeat (first | refine blk_drewN ?_ _ | refine blk_drew ?_ | refine blk_alloc ?_ _)); exact BK115.out) hg (Kd.R_ne HO_10.out BK115.out (by decide))); have n3_ := Aside0.mk (hb); have n4_ := Aside0.mk (ho); clear HO_9; clear HO_50; clear BK115; clear HB; clear HO_10; have HO_9 := n0_; have HO_50 := n1_; have BK115 := n2_; have HB := n3_; have HO120 := n4_; clear n0_ n1_ n2_ n3_ n4_; clear ho hb hg hat; have hcz38_0 : w37.cell? ⟨gb115, 0, none⟩ = some (.slice A114_0 ((rd_T47 l0 (rd t110 x52_2)).f0).length c114_0) := (blk_cell BK115.out 0).trans rfl; have hcz38_1 : w37.cell? ⟨gb115, 1, none⟩ = some (.int .i64 ((rd_T47 l0 (rd t110 x52_2)).f1)) := (blk_cell BK115.out 1).trans rfl; have hfz38_0 := blk_frozen BK115.out 0; have hfz38_1 := blk_frozen BK115.out 1)))
                                              go_roundg k2
                                              case measure => have := HK1.out; have := HK2.out; omega
                                              case rel => exact ⟨(y118), (ji28), (by first | rfl | (simp; done) | (simp only [← hji28] <;> (first | rfl | simp)) | (simp [*]; done)), H', ⟨by have := HK1.out; have := HK2.out; omega⟩, ⟨by (with_reducible repeat (first | apply Kd.R_alloc | apply Kd.R_drewN | apply Kd.R_drew)); exact Kd.R_mono HO_9.out (fun _ hk => hk.2)⟩, ⟨by (with_reducible repeat (first | apply Kd.R_alloc | apply Kd.R_drewN | apply Kd.R_drew)); exact Kd.R_mono HO120.out (fun _ hk => hk.1)⟩, ⟨by repeat (first | (with_reducible first | exact HB.out | apply below_alloc | apply pw_below_drewN | apply below_drew1 | refine below_set ?_ GE115.out) | exact HB.out)⟩⟩
                                            · rw [if_neg c34] at H
                                              exact absurd H (by simp)
                                          · rw [if_neg c33] at H
                                            have c33b0 : ((wrap64 (((rd_T47 l0 (rd t110 x52_2)).f1) + (rd t102 (ji28)))) == (rd t102 x11_2)) = false := beq_eq_false_iff_ne.mpr c33
                                            have c33b1 : ((wrap64 (((rd_T47 l0 (rd t110 x52_2)).f1) + (rd t102 (ji28)))) != (rd t102 x11_2)) = true := bne_iff_ne.mpr c33
                                            have H' := Aside0.mk H
                                            clear H
                                            have p113 : 0 ≤ (x52_2 : Int) := of_decide_eq_true (by first | (with_reducible assumption) | assumption)
                                            have q113 : x52_2 < (t110.length : Int) := of_decide_eq_true (by first | (with_reducible assumption) | assumption)
                                            obtain ⟨ad113, e113, hx113_0⟩ := Kd.at_int (Kd.R_reads' HO_50.out).2.2 x52_2 p113 q113
                                            cases e113
                                            replace p113 := eq_true p113
                                            replace q113 := eq_true q113
                                            have p114 : 0 ≤ ((rd t110 x52_2) : Int) := of_decide_eq_true (by first | (with_reducible assumption) | assumption)
                                            have q114 : (rd t110 x52_2) < (l0.length : Int) := of_decide_eq_true (by first | (with_reducible assumption) | assumption)
                                            obtain ⟨ad114, A114_0, c114_0, e114, hx114_0, hx114_1, hl114_0, hi114_0⟩ := at_T47 HR0.out (rd t110 x52_2) p114 q114
                                            cases e114
                                            replace hx114_0 := (HB.out.cell (World.block_lt_of_cell? w _ hx114_0)).trans hx114_0
                                            replace hx114_1 := (HB.out.cell (World.block_lt_of_cell? w _ hx114_1)).trans hx114_1
                                            have HR114_0 := Aside0.mk hi114_0
                                            have HC114_0 := Aside0.mk hl114_0
                                            clear hi114_0 hl114_0
                                            replace p114 := eq_true p114
                                            replace q114 := eq_true q114
                                            go_wp2_with (first | ((with_reducible refine gate_dst (N := 14) rfl ?_); refine box_event ?hg (N := 14) ?hd (cs := #[.slice none 0 0, .int .i64 0]) (t := 47) ?hr ?_; (case hd => rfl); (case hg => rfl); (case hr => first | (go_simp; done) | (go_simp; rfl)); intro gb115 hg w39 hbox hb; have n0_ := Aside0.mk (Kd.R_below (by (with_reducible repeat (first | apply Kd.R_alloc | apply Kd.R_drewN | apply Kd.R_drew)); exact HO_9.out) hb); have n1_ := Aside0.mk (Kd.R_below (by (with_reducible repeat (first | apply Kd.R_alloc | apply Kd.R_drewN | apply Kd.R_drew)); exact HO_10.out) hb); have n2_ := Aside0.mk (Kd.R_below (by (with_reducible repeat (first | apply Kd.R_alloc | apply Kd.R_drewN | apply Kd.R_drew)); exact HO_50.out) hb); have n3_ := Aside0.mk (below_step (by repeat (first | (with_reducible first | exact HB.out | apply below_alloc | apply pw_below_drewN | apply below_drew1) | exact HB.out)) hb); have n4_ := Aside0.mk (hbox); have n5_ := Aside0.mk ((by rw [hg]; exact (below_size (by repeat (first | (with_reducible first | exact HB.out | apply below_alloc | apply pw_below_drewN | apply below_drew1) | exact HB.out))) : w.heap.size ≤ gb115)); have n6_ := Aside0.mk ((by rw [hg]; exact (below_size (by repeat (first | (with_reducible first | exact HB.out | apply below_alloc | apply pw_below_drewN | apply below_drew1) | exact HB.out))) : w.heap.size ≤ gb115)); clear HO_9; clear HO_10; clear HO_50; clear HB; have HO_9 := n0_; have HO_10 := n1_; have HO_50 := n2_; have HB := n3_; have BK115 := n4_; have GW115 := n5_; have GE115 := n6_; clear n0_ n1_ n2_ n3_ n4_ n5_ n6_; clear hb hbox hg; have hcz40_0 : w39.cell? ⟨gb115, 0, none⟩ = some (.slice none 0 0) := (blk_cell BK115.out 0).trans rfl; have hcz40_1 : w39.cell? ⟨gb115, 1, none⟩ = some (.int .i64 0) := (blk_cell BK115.out 1).trans rfl; have hfz40_0 := blk_frozen BK115.out 0; have hfz40_1 := blk_frozen BK115.out 1; have p116 : 0 ≤ ((ji28) : Int) := of_decide_eq_true (by first | (with_reducible assumption) | assumption); have q116 : (ji28) < (t102.length : Int) := of_decide_eq_true (by first | (with_reducible assumption) | assumption); obtain ⟨ad116, e116, hx116_0⟩ := Kd.at_int (Kd.R_reads' HO_9.out).2.2 (ji28) p116 q116; obtain rfl : ad105 = ad116 := (by injection e116); have hn116_0 : ad105.block ≠ gb115 := Kd.own_blk (Kd.R_ne HO_9.out BK115.out (by decide)); have hn116_1 : ad105.block ≠ gb115 := Kd.own_blk (Kd.R_ne HO_9.out BK115.out (by decide)); replace hx116_0 := (cell_far (p := ⟨gb115, 0, none⟩) (by first | (rw [add_block]; exact hn116_0) | (show (Addr.add _ _).block ≠ _; rw [add_block]; exact hn116_0) | exact hn116_0) (.slice A114_0 ((rd_T47 l0 (rd t110 x52_2)).f0).length c114_0)).trans hx116_0; replace hx116_0 := (cell_far (p := ⟨gb115, 1, none⟩) (by first | (rw [add_block]; exact hn116_1) | (show (Addr.add _ _).block ≠ _; rw [add_block]; exact hn116_1) | exact hn116_1) (.int .i64 ((rd_T47 l0 (rd t110 x52_2)).f1))).trans hx116_0; (try have hy116_0 := fun (n_ : Nat) => (show ((((w39.drewN n_).setCell ⟨gb115, 0, none⟩ (.slice A114_0 ((rd_T47 l0 (rd t110 x52_2)).f0).length c114_0)).setCell ⟨gb115, 1, none⟩ (.int .i64 ((rd_T47 l0 (rd t110 x52_2)).f1)))).cell? _ = some _ from hx116_0)); clear hn116_0; clear hn116_1; replace p116 := eq_true p116; replace q116 := eq_true q116; have p117 : 0 ≤ (x11_2 : Int) := of_decide_eq_true (by first | (with_reducible assumption) | assumption); have q117 : x11_2 < (t102.length : Int) := of_decide_eq_true (by first | (with_reducible assumption) | assumption); obtain ⟨ad117, e117, hx117_0⟩ := Kd.at_int (Kd.R_reads' HO_9.out).2.2 x11_2 p117 q117; obtain rfl : ad105 = ad117 := (by injection e117); have hn117_0 : ad105.block ≠ gb115 := Kd.own_blk (Kd.R_ne HO_9.out BK115.out (by decide)); have hn117_1 : ad105.block ≠ gb115 := Kd.own_blk (Kd.R_ne HO_9.out BK115.out (by decide)); replace hx117_0 := (cell_far (p := ⟨gb115, 0, none⟩) (by first | (rw [add_block]; exact hn117_0) | (show (Addr.add _ _).block ≠ _; rw [add_block]; exact hn117_0) | exact hn117_0) (.slice A114_0 ((rd_T47 l0 (rd t110 x52_2)).f0).length c114_0)).trans hx117_0; replace hx117_0 := (cell_far (p := ⟨gb115, 1, none⟩) (by first | (rw [add_block]; exact hn117_1) | (show (Addr.add _ _).block ≠ _; rw [add_block]; exact hn117_1) | exact hn117_1) (.int .i64 ((rd_T47 l0 (rd t110 x52_2)).f1))).trans hx117_0; (try have hy117_0 := fun (n_ : Nat) => (show ((((w39.drewN n_).setCell ⟨gb115, 0, none⟩ (.slice A114_0 ((rd_T47 l0 (rd t110 x52_2)).f0).length c114_0)).setCell ⟨gb115, 1, none⟩ (.int .i64 ((rd_T47 l0 (rd t110 x52_2)).f1)))).cell? _ = some _ from hx117_0)); clear hn117_0; clear hn117_1; replace p117 := eq_true p117; replace q117 := eq_true q117))
                                            repeat (go_quiet (first | ((with_reducible refine gate_dst (N := 14) rfl ?_); refine box_event ?hg (N := 14) ?hd (cs := #[.slice none 0 0, .int .i64 0]) (t := 47) ?hr ?_; (case hd => rfl); (case hg => rfl); (case hr => first | (go_simp; done) | (go_simp; rfl)); intro gb115 hg w39 hbox hb; have n0_ := Aside0.mk (Kd.R_below (by (with_reducible repeat (first | apply Kd.R_alloc | apply Kd.R_drewN | apply Kd.R_drew)); exact HO_9.out) hb); have n1_ := Aside0.mk (Kd.R_below (by (with_reducible repeat (first | apply Kd.R_alloc | apply Kd.R_drewN | apply Kd.R_drew)); exact HO_10.out) hb); have n2_ := Aside0.mk (Kd.R_below (by (with_reducible repeat (first | apply Kd.R_alloc | apply Kd.R_drewN | apply Kd.R_drew)); exact HO_50.out) hb); have n3_ := Aside0.mk (below_step (by repeat (first | (with_reducible first | exact HB.out | apply below_alloc | apply pw_below_drewN | apply below_drew1) | exact HB.out)) hb); have n4_ := Aside0.mk (hbox); have n5_ := Aside0.mk ((by rw [hg]; exact (below_size (by repeat (first | (with_reducible first | exact HB.out | apply below_alloc | apply pw_below_drewN | apply below_drew1) | exact HB.out))) : w.heap.size ≤ gb115)); have n6_ := Aside0.mk ((by rw [hg]; exact (below_size (by repeat (first | (with_reducible first | exact HB.out | apply below_alloc | apply pw_below_drewN | apply below_drew1) | exact HB.out))) : w.heap.size ≤ gb115)); clear HO_9; clear HO_10; clear HO_50; clear HB; have HO_9 := n0_; have HO_10 := n1_; have HO_50 := n2_; have HB := n3_; have BK115 := n4_; have GW115 := n5_; have GE115 := n6_; clear n0_ n1_ n2_ n3_ n4_ n5_ n6_; clear hb hbox hg; have hcz40_0 : w39.cell? ⟨gb115, 0, none⟩ = some (.slice none 0 0) := (blk_cell BK115.out 0).trans rfl; have hcz40_1 : w39.cell? ⟨gb115, 1, none⟩ = some (.int .i64 0) := (blk_cell BK115.out 1).trans rfl; have hfz40_0 := blk_frozen BK115.out 0; have hfz40_1 := blk_frozen BK115.out 1; have p116 : 0 ≤ ((ji28) : Int) := of_decide_eq_true (by first | (with_reducible assumption) | assumption); have q116 : (ji28) < (t102.length : Int) := of_decide_eq_true (by first | (with_reducible assumption) | assumption); obtain ⟨ad116, e116, hx116_0⟩ := Kd.at_int (Kd.R_reads' HO_9.out).2.2 (ji28) p116 q116; obtain rfl : ad105 = ad116 := (by injection e116); have hn116_0 : ad105.block ≠ gb115 := Kd.own_blk (Kd.R_ne HO_9.out BK115.out (by decide)); have hn116_1 : ad105.block ≠ gb115 := Kd.own_blk (Kd.R_ne HO_9.out BK115.out (by decide)); replace hx116_0 := (cell_far (p := ⟨gb115, 0, none⟩) (by first | (rw [add_block]; exact hn116_0) | (show (Addr.add _ _).block ≠ _; rw [add_block]; exact hn116_0) | exact hn116_0) (.slice A114_0 ((rd_T47 l0 (rd t110 x52_2)).f0).length c114_0)).trans hx116_0; replace hx116_0 := (cell_far (p := ⟨gb115, 1, none⟩) (by first | (rw [add_block]; exact hn116_1) | (show (Addr.add _ _).block ≠ _; rw [add_block]; exact hn116_1) | exact hn116_1) (.int .i64 ((rd_T47 l0 (rd t110 x52_2)).f1))).trans hx116_0; (try have hy116_0 := fun (n_ : Nat) => (show ((((w39.drewN n_).setCell ⟨gb115, 0, none⟩ (.slice A114_0 ((rd_T47 l0 (rd t110 x52_2)).f0).length c114_0)).setCell ⟨gb115, 1, none⟩ (.int .i64 ((rd_T47 l0 (rd t110 x52_2)).f1)))).cell? _ = some _ from hx116_0)); clear hn116_0; clear hn116_1; replace p116 := eq_true p116; replace q116 := eq_true q116; have p117 : 0 ≤ (x11_2 : Int) := of_decide_eq_true (by first | (with_reducible assumption) | assumption); have q117 : x11_2 < (t102.length : Int) := of_decide_eq_true (by first | (with_reducible assumption) | assumption); obtain ⟨ad117, e117, hx117_0⟩ := Kd.at_int (Kd.R_reads' HO_9.out).2.2 x11_2 p117 q117; obtain rfl : ad105 = ad117 := (by injection e117); have hn117_0 : ad105.block ≠ gb115 := Kd.own_blk (Kd.R_ne HO_9.out BK115.out (by decide)); have hn117_1 : ad105.block ≠ gb115 := Kd.own_blk (Kd.R_ne HO_9.out BK115.out (by decide)); replace hx117_0 := (cell_far (p := ⟨gb115, 0, none⟩) (by first | (rw [add_block]; exact hn117_0) | (show (Addr.add _ _).block ≠ _; rw [add_block]; exact hn117_0) | exact hn117_0) (.slice A114_0 ((rd_T47 l0 (rd t110 x52_2)).f0).length c114_0)).trans hx117_0; replace hx117_0 := (cell_far (p := ⟨gb115, 1, none⟩) (by first | (rw [add_block]; exact hn117_1) | (show (Addr.add _ _).block ≠ _; rw [add_block]; exact hn117_1) | exact hn117_1) (.int .i64 ((rd_T47 l0 (rd t110 x52_2)).f1))).trans hx117_0; (try have hy117_0 := fun (n_ : Nat) => (show ((((w39.drewN n_).setCell ⟨gb115, 0, none⟩ (.slice A114_0 ((rd_T47 l0 (rd t110 x52_2)).f0).length c114_0)).setCell ⟨gb115, 1, none⟩ (.int .i64 ((rd_T47 l0 (rd t110 x52_2)).f1)))).cell? _ = some _ from hx117_0)); clear hn117_0; clear hn117_1; replace p117 := eq_true p117; replace q117 := eq_true q117)); try go_wp2_with (first | ((with_reducible refine gate_dst (N := 14) rfl ?_); refine box_event ?hg (N := 14) ?hd (cs := #[.slice none 0 0, .int .i64 0]) (t := 47) ?hr ?_; (case hd => rfl); (case hg => rfl); (case hr => first | (go_simp; done) | (go_simp; rfl)); intro gb115 hg w39 hbox hb; have n0_ := Aside0.mk (Kd.R_below (by (with_reducible repeat (first | apply Kd.R_alloc | apply Kd.R_drewN | apply Kd.R_drew)); exact HO_9.out) hb); have n1_ := Aside0.mk (Kd.R_below (by (with_reducible repeat (first | apply Kd.R_alloc | apply Kd.R_drewN | apply Kd.R_drew)); exact HO_10.out) hb); have n2_ := Aside0.mk (Kd.R_below (by (with_reducible repeat (first | apply Kd.R_alloc | apply Kd.R_drewN | apply Kd.R_drew)); exact HO_50.out) hb); have n3_ := Aside0.mk (below_step (by repeat (first | (with_reducible first | exact HB.out | apply below_alloc | apply pw_below_drewN | apply below_drew1) | exact HB.out)) hb); have n4_ := Aside0.mk (hbox); have n5_ := Aside0.mk ((by rw [hg]; exact (below_size (by repeat (first | (with_reducible first | exact HB.out | apply below_alloc | apply pw_below_drewN | apply below_drew1) | exact HB.out))) : w.heap.size ≤ gb115)); have n6_ := Aside0.mk ((by rw [hg]; exact (below_size (by repeat (first | (with_reducible first | exact HB.out | apply below_alloc | apply pw_below_drewN | apply below_drew1) | exact HB.out))) : w.heap.size ≤ gb115)); clear HO_9; clear HO_10; clear HO_50; clear HB; have HO_9 := n0_; have HO_10 := n1_; have HO_50 := n2_; have HB := n3_; have BK115 := n4_; have GW115 := n5_; have GE115 := n6_; clear n0_ n1_ n2_ n3_ n4_ n5_ n6_; clear hb hbox hg; have hcz40_0 : w39.cell? ⟨gb115, 0, none⟩ = some (.slice none 0 0) := (blk_cell BK115.out 0).trans rfl; have hcz40_1 : w39.cell? ⟨gb115, 1, none⟩ = some (.int .i64 0) := (blk_cell BK115.out 1).trans rfl; have hfz40_0 := blk_frozen BK115.out 0; have hfz40_1 := blk_frozen BK115.out 1; have p116 : 0 ≤ ((ji28) : Int) := of_decide_eq_true (by first | (with_reducible assumption) | assumption); have q116 : (ji28) < (t102.length : Int) := of_decide_eq_true (by first | (with_reducible assumption) | assumption); obtain ⟨ad116, e116, hx116_0⟩ := Kd.at_int (Kd.R_reads' HO_9.out).2.2 (ji28) p116 q116; obtain rfl : ad105 = ad116 := (by injection e116); have hn116_0 : ad105.block ≠ gb115 := Kd.own_blk (Kd.R_ne HO_9.out BK115.out (by decide)); have hn116_1 : ad105.block ≠ gb115 := Kd.own_blk (Kd.R_ne HO_9.out BK115.out (by decide)); replace hx116_0 := (cell_far (p := ⟨gb115, 0, none⟩) (by first | (rw [add_block]; exact hn116_0) | (show (Addr.add _ _).block ≠ _; rw [add_block]; exact hn116_0) | exact hn116_0) (.slice A114_0 ((rd_T47 l0 (rd t110 x52_2)).f0).length c114_0)).trans hx116_0; replace hx116_0 := (cell_far (p := ⟨gb115, 1, none⟩) (by first | (rw [add_block]; exact hn116_1) | (show (Addr.add _ _).block ≠ _; rw [add_block]; exact hn116_1) | exact hn116_1) (.int .i64 ((rd_T47 l0 (rd t110 x52_2)).f1))).trans hx116_0; (try have hy116_0 := fun (n_ : Nat) => (show ((((w39.drewN n_).setCell ⟨gb115, 0, none⟩ (.slice A114_0 ((rd_T47 l0 (rd t110 x52_2)).f0).length c114_0)).setCell ⟨gb115, 1, none⟩ (.int .i64 ((rd_T47 l0 (rd t110 x52_2)).f1)))).cell? _ = some _ from hx116_0)); clear hn116_0; clear hn116_1; replace p116 := eq_true p116; replace q116 := eq_true q116; have p117 : 0 ≤ (x11_2 : Int) := of_decide_eq_true (by first | (with_reducible assumption) | assumption); have q117 : x11_2 < (t102.length : Int) := of_decide_eq_true (by first | (with_reducible assumption) | assumption); obtain ⟨ad117, e117, hx117_0⟩ := Kd.at_int (Kd.R_reads' HO_9.out).2.2 x11_2 p117 q117; obtain rfl : ad105 = ad117 := (by injection e117); have hn117_0 : ad105.block ≠ gb115 := Kd.own_blk (Kd.R_ne HO_9.out BK115.out (by decide)); have hn117_1 : ad105.block ≠ gb115 := Kd.own_blk (Kd.R_ne HO_9.out BK115.out (by decide)); replace hx117_0 := (cell_far (p := ⟨gb115, 0, none⟩) (by first | (rw [add_block]; exact hn117_0) | (show (Addr.add _ _).block ≠ _; rw [add_block]; exact hn117_0) | exact hn117_0) (.slice A114_0 ((rd_T47 l0 (rd t110 x52_2)).f0).length c114_0)).trans hx117_0; replace hx117_0 := (cell_far (p := ⟨gb115, 1, none⟩) (by first | (rw [add_block]; exact hn117_1) | (show (Addr.add _ _).block ≠ _; rw [add_block]; exact hn117_1) | exact hn117_1) (.int .i64 ((rd_T47 l0 (rd t110 x52_2)).f1))).trans hx117_0; (try have hy117_0 := fun (n_ : Nat) => (show ((((w39.drewN n_).setCell ⟨gb115, 0, none⟩ (.slice A114_0 ((rd_T47 l0 (rd t110 x52_2)).f0).length c114_0)).setCell ⟨gb115, 1, none⟩ (.int .i64 ((rd_T47 l0 (rd t110 x52_2)).f1)))).cell? _ = some _ from hx117_0)); clear hn117_0; clear hn117_1; replace p117 := eq_true p117; replace q117 := eq_true q117)))
                                            go_roundg k2
                                            case measure => have := HK1.out; have := HK2.out; omega
                                            case rel => exact ⟨(x10_2), (x11_2), (wrap64 (x52_2 + 1)), (by first | rfl | (simp; done) | (simp [*]; done)), (by first | rfl | (simp; done) | (simp [*]; done)), H', ⟨by have := HK1.out; have := HK2.out; omega⟩, ⟨by (with_reducible repeat (first | apply Kd.R_alloc | apply Kd.R_drewN | apply Kd.R_drew)); exact Kd.R_mono (Kd.R_far (p := ⟨gb115, 1, none⟩) (Kd.R_far (p := ⟨gb115, 0, none⟩) (Kd.R_types HO_9.out BK115.out (by decide)) (fun _ hk => hk.2) (.slice A114_0 ((rd_T47 l0 (rd t110 x52_2)).f0).length c114_0)) (fun _ hk => hk.2) (.int .i64 ((rd_T47 l0 (rd t110 x52_2)).f1))) (fun _ hk => ⟨hk.1.1, hk.1.2⟩)⟩, ⟨by (with_reducible repeat (first | apply Kd.R_alloc | apply Kd.R_drewN | apply Kd.R_drew)); exact Kd.R_mono (Kd.R_far (p := ⟨gb115, 1, none⟩) (Kd.R_far (p := ⟨gb115, 0, none⟩) (Kd.R_types HO_10.out BK115.out (by decide)) (fun _ hk => hk.2) (.slice A114_0 ((rd_T47 l0 (rd t110 x52_2)).f0).length c114_0)) (fun _ hk => hk.2) (.int .i64 ((rd_T47 l0 (rd t110 x52_2)).f1))) (fun _ hk => ⟨hk.1.1, hk.1.2⟩)⟩, ⟨by (with_reducible repeat (first | apply Kd.R_alloc | apply Kd.R_drewN | apply Kd.R_drew)); exact Kd.R_mono (Kd.R_far (p := ⟨gb115, 1, none⟩) (Kd.R_far (p := ⟨gb115, 0, none⟩) (Kd.R_types HO_50.out BK115.out (by decide)) (fun _ hk => hk.2) (.slice A114_0 ((rd_T47 l0 (rd t110 x52_2)).f0).length c114_0)) (fun _ hk => hk.2) (.int .i64 ((rd_T47 l0 (rd t110 x52_2)).f1))) (fun _ hk => ⟨hk.1.1, hk.1.2⟩)⟩, ⟨by repeat (first | (with_reducible first | exact HB.out | apply below_alloc | apply pw_below_drewN | apply below_drew1 | refine below_set ?_ GE115.out) | exact HB.out)⟩⟩
                                        · rw [if_neg c32] at H
                                          exact absurd H (by simp)
                                      · rw [if_neg c31] at H
                                        exact absurd H (by simp)
                                    · rw [if_neg c30] at H
                                      exact absurd H (by simp)
                                  · rw [if_neg c29] at H
                                    exact absurd H (by simp)
                                · rw [if_neg c27] at H
                                  exact absurd H (by simp)
                              · rw [if_neg c26] at H
                                exact absurd H (by simp)
                            · rw [if_neg c25] at H
                              exact absurd H (by simp)
                          · rw [if_neg c24] at H
                            exact absurd H (by simp)
                        · rw [if_neg c23] at H
                          have c23b0 : decide (x52_2 < (t110.length : Int)) = false := decide_eq_false c23
                          clear c23
                          have H' := Aside0.mk H
                          clear H
                          go_wp2
                          repeat (go_quiet (fail); try go_wp2)
                          go_roundg k2
                          case measure => have := HK1.out; have := HK2.out; omega
                          case rel => exact ⟨(x10_2), (x11_2), (by first | rfl | (simp; done) | (simp [*]; done)), H', ⟨by have := HK1.out; have := HK2.out; omega⟩, ⟨by (with_reducible repeat (first | apply Kd.R_alloc | apply Kd.R_drewN | apply Kd.R_drew)); exact Kd.R_mono HO_9.out (fun _ hk => hk.1)⟩, ⟨by (with_reducible repeat (first | apply Kd.R_alloc | apply Kd.R_drewN | apply Kd.R_drew)); exact Kd.R_mono HO_10.out (fun _ hk => hk.1)⟩, ⟨by repeat (first | (with_reducible first | exact HB.out | apply below_alloc | apply pw_below_drewN | apply below_drew1) | exact HB.out)⟩⟩
                · rw [if_neg c14] at H
                  exact absurd H (by simp)
              · rw [if_neg c13] at H
                exact absurd H (by simp)
            · rw [if_neg c12] at H
              exact absurd H (by simp)
          · rw [if_neg c11] at H
            exact absurd H (by simp)
        · rw [if_neg c9] at H
          have c9b0 : decide (x11_1 < (l1.length : Int)) = false := decide_eq_false c9
          clear c9
          simp only [Option.some.injEq, Prod.mk.injEq] at H
          obtain ⟨rfl, rfl⟩ := H
          go_wp2
          repeat (go_quiet (fail); try go_wp2)
          go_ret2
          exact ⟨_, by first | rfl | (simp [errW_none, errW_some] <;> rfl) | (simp [*, errW_none, errW_some] <;> rfl), by (with_reducible repeat (first | apply Kd.R_alloc | apply Kd.R_drewN | apply Kd.R_drew)); exact Kd.R_mono HO_10.out (fun _ hk => trivial), by repeat (first | (with_reducible first | exact HB.out | apply below_alloc | apply pw_below_drewN | apply below_drew1) | exact HB.out)⟩
  · rw [if_neg c5] at H
    have c5b0 : (t101 == 0) = false := beq_eq_false_iff_ne.mpr c5
    have c5b1 : (t101 != 0) = true := bne_iff_ne.mpr c5
    simp only [Option.some.injEq, Prod.mk.injEq] at H
    obtain ⟨rfl, rfl⟩ := H
    go_enter Try.func32, Try.ntmps32
    go_wp2_with (first | (go_at_call 44; (with_reducible refine (impl_parseCode.calls k _ _ l0 _ _ l1 0 a2 t101 _ ?side1 ?side2 ?side3 ?side4 A4.out).mono ?_); (case side1 => repeat (first | exact HR0.out | (with_reducible refine Kd.C_alloc ?_ _) | (with_reducible refine Kd.C_drewN ?_ _) | (with_reducible refine Kd.C_drew ?_))); (case side2 => exact HC0.out); (case side3 => repeat (first | exact HR1.out | (with_reducible refine Kd.C_alloc ?_ _) | (with_reducible refine Kd.C_drewN ?_ _) | (with_reducible refine Kd.C_drew ?_))); (case side4 => exact HC1.out); rintro e w41 ⟨rfl, hb⟩; have n0_ := Aside0.mk (below_step (by repeat (first | (with_reducible first | exact HB.out | apply below_alloc | apply pw_below_drewN | apply below_drew1) | exact HB.out)) hb); clear HB; have HB := n0_; clear n0_; (try clear hb); (try clear hb2); (try clear hk); (try clear hi)))
    repeat (go_quiet (first | (go_at_call 44; (with_reducible refine (impl_parseCode.calls k _ _ l0 _ _ l1 0 a2 t101 _ ?side1 ?side2 ?side3 ?side4 A4.out).mono ?_); (case side1 => repeat (first | exact HR0.out | (with_reducible refine Kd.C_alloc ?_ _) | (with_reducible refine Kd.C_drewN ?_ _) | (with_reducible refine Kd.C_drew ?_))); (case side2 => exact HC0.out); (case side3 => repeat (first | exact HR1.out | (with_reducible refine Kd.C_alloc ?_ _) | (with_reducible refine Kd.C_drewN ?_ _) | (with_reducible refine Kd.C_drew ?_))); (case side4 => exact HC1.out); rintro e w41 ⟨rfl, hb⟩; have n0_ := Aside0.mk (below_step (by repeat (first | (with_reducible first | exact HB.out | apply below_alloc | apply pw_below_drewN | apply below_drew1) | exact HB.out)) hb); clear HB; have HB := n0_; clear n0_; (try clear hb); (try clear hb2); (try clear hk); (try clear hi))); try go_wp2_with (first | (go_at_call 44; (with_reducible refine (impl_parseCode.calls k _ _ l0 _ _ l1 0 a2 t101 _ ?side1 ?side2 ?side3 ?side4 A4.out).mono ?_); (case side1 => repeat (first | exact HR0.out | (with_reducible refine Kd.C_alloc ?_ _) | (with_reducible refine Kd.C_drewN ?_ _) | (with_reducible refine Kd.C_drew ?_))); (case side2 => exact HC0.out); (case side3 => repeat (first | exact HR1.out | (with_reducible refine Kd.C_alloc ?_ _) | (with_reducible refine Kd.C_drewN ?_ _) | (with_reducible refine Kd.C_drew ?_))); (case side4 => exact HC1.out); rintro e w41 ⟨rfl, hb⟩; have n0_ := Aside0.mk (below_step (by repeat (first | (with_reducible first | exact HB.out | apply below_alloc | apply pw_below_drewN | apply below_drew1) | exact HB.out)) hb); clear HB; have HB := n0_; clear n0_; (try clear hb); (try clear hb2); (try clear hk); (try clear hi))))
    go_ret2
    exact ⟨_, by first | rfl | (simp [errW_none, errW_some] <;> rfl) | (simp [*, errW_none, errW_some] <;> rfl), by first | exact Kd.R_nil _ _ _ _ _ | exact Kd.N_nil _ _ _ _ _ | exact Kd.V_nil _ _ _ _ _ | exact Kd.Q_nil _ _ _ _ _ | exact Kd.S_nil _ _ _ _ _, by repeat (first | (with_reducible first | exact HB.out | apply below_alloc | apply pw_below_drewN | apply below_drew1) | exact HB.out)⟩

end Go.Proofs.Ytihphgiopjiohaa.P

/- Words for the walks of the laws' own functions: rows told by the stretch of blocks in which they were made. -/
namespace Go.Proofs.Ytihphgiopjiohaa.P
open Go.RowKit Go.Proofs.YtihphgiopjiohaaW.PrintWords Go.Proofs.YtihphgiopjiohaaW.PrintLast Go.Proofs.YtihphgiopjiohaaW.PrintMore
def Iv (lo hi : Nat) : Nat → Prop := fun k => lo ≤ k ∧ k < hi
theorem sz_alloc {n : Nat} {W : World} (h : n ≤ W.heap.size) (o : Obj) : n ≤ (W.alloc o).heap.size := Nat.le_trans h (below_alloc (Below.refl _ _) o).size
theorem sz_drewN {n : Nat} {W : World} (h : n ≤ W.heap.size) (m : Nat) : n ≤ (W.drewN m).heap.size := h
theorem sz_drew {n : Nat} {W : World} (h : n ≤ W.heap.size) : n ≤ W.drew.heap.size := h
section
variable {α : Type} {d : Kd α} {e base lo : Nat} {ok : Nat → Prop} {W W1 : World} {v : Value} {xs : List α}
theorem Iv_R (h : d.R e W1 W.heap.size ok v xs) (hb : base ≤ W.heap.size) (hl : lo ≤ W.heap.size) : d.R e W1 base (Iv lo W1.heap.size) v xs :=
  Kd.R_mono (Kd.R_lower (Kd.R_bound h) hb) (fun _ hk => ⟨Nat.le_trans hl hk.2.1, hk.2.2.1⟩)
theorem Iv_S (h : Kd.S d e W1 W.heap.size ok v xs) (hb : base ≤ W.heap.size) (hl : lo ≤ W.heap.size) : Kd.S d e W1 base (Iv lo W1.heap.size) v xs :=
  Kd.S_mono (Kd.S_lower (Kd.S_bound h) hb) (fun _ hk => ⟨Nat.le_trans hl hk.2.1, hk.2.2.1⟩)
end
end Go.Proofs.Ytihphgiopjiohaa.P

/- laws_FnExactParseMelody: what it answers, and that the machine's call comes to it. -/
namespace Go.Proofs.Ytihphgiopjiohaa.P
open Go.RowKit Go.Proofs.YtihphgiopjiohaaW.PrintWords Go.Proofs.YtihphgiopjiohaaW.PrintLast Go.Proofs.YtihphgiopjiohaaW.PrintMore
attribute [local go_sem] max2_int min2_int max_two min_two max_three min_three max_four min_four str_leq str_gtr str_geq
set_option linter.unusedVariables false
set_option linter.unusedSimpArgs false

/-! ### laws_FnExactParseMelody: function 9 (by hand: law_FnExactParseMelody.lean) -/
def laws_FnExactParseMelody.g (k : Nat) (l0 : List S46) (l1 : List Int) (a2 : Int) : Option Bool := (laws_toPatternS.f k l0).bind fun t3 => ((laws_toInt64S.f k l1).bind fun t6 => ((spec_ParseMelody.f k t3 t6 a2).bind fun bt9 => ((laws_toPatternS.f k l0).bind fun t13 => ((laws_toInt64S.f k l1).bind fun t16 => ((impl_ParseMelody.f k t13 t16 a2).bind fun bt19 => (if laws_eqInt64S.f k bt19.1 bt9.1 = some true then (if bt19.2 = bt9.2 then ((laws_toPatternS.f k l0).bind fun t25 => (if laws_eqPatternS.f k t13 t25 = some true then ((laws_toInt64S.f k l1).bind fun t30 => (if laws_eqInt64S.f k t16 t30 = some true then ((laws_markPatternS.f k t13 1).bind fun bt35 => ((laws_markInt64S.f k t16 bt35.1).bind fun bt38 => (if bt38.1 < 0 then none else (if laws_eqInt64S.f k bt19.1 bt9.1 = some true then (if bt19.2 = bt9.2 then ((laws_markInt64S.f k bt19.1 1).bind fun bt43 => ((laws_heldInt64S.f k bt43.2 1).bind fun t46 => (if t46 < 0 then none else (if t46 = bt43.1 then ((laws_toPatternS.f k l0).bind fun t48 => ((laws_toInt64S.f k l1).bind fun t51 => ((impl_ParseMelody.f k t48 t51 a2).bind fun bt54 => (if laws_eqInt64S.f k bt54.1 bt9.1 = some true then (if bt54.2 = bt9.2 then ((laws_heldInt64S.f k bt43.2 1).bind fun t60 => (if t60 < 0 then none else (if t60 = bt43.1 then (some true) else none))) else none) else none)))) else none)))) else none) else none)))) else none)) else none)) else none) else none))))))
def laws_FnExactParseMelody.f (k : Nat) (l0 : List S46) (l1 : List Int) (a2 : Int) : Option Bool := if (l1.length : Int) > 1048576 then some true else ((laws_szPatternS.f k l0 1048576).bind fun t1 => (if t1 < 0 then some true else (laws_FnExactParseMelody.g k l0 l1 a2)))
set_option maxHeartbeats 8000000 in
set_option maxRecDepth 100000 in
theorem laws_FnExactParseMelody.early0 (k : Nat) (A0 : Option Addr) (c0 : Nat) (l0 : List S46) (A1 : Option Addr) (c1 : Nat) (l1 : List Int) (a2 : Int) (w : World) (hr0 : Kd.C k46 w A0 l0.length l0) (hc0 : l0.length ≤ c0) (hr1 : Kd.C (Kd.int .i64) w A1 l1.length l1) (hc1 : l1.length ≤ c1)  (ef : (l1.length : Int) > 1048576) :
    Calls Try.prog 9 #[.slice A0 l0.length c0, .slice A1 l1.length c1, .int .i64 a2] w fun e w' => e = .returned (.bool true) ∧ Below w.heap.size w w' := by
  have efb : decide (1048576 < (l1.length : Int)) = true := decide_eq_true ef
  have efc : decide (1048576 < l1.length) = true := decide_eq_true (by omega)
  clear ef
  have HR0 := Aside0.mk hr0
  have HR1 := Aside0.mk hr1
  have HC0 := Aside0.mk hc0
  have HC1 := Aside0.mk hc1
  clear hr0 hc0 hr1 hc1
  have HB := Aside0.mk (Below.refl w.heap.size w)
  go_enter Try.func9, Try.ntmps9
  go_wp2_with fail
  go_ret
  exact ⟨rfl, (by repeat (first | (with_reducible first | exact HB.out | apply below_alloc | apply pw_below_drewN | apply below_drew1) | exact HB.out))⟩
set_option maxHeartbeats 8000000 in
set_option maxRecDepth 100000 in
theorem laws_FnExactParseMelody.early1 (k : Nat) (A0 : Option Addr) (c0 : Nat) (l0 : List S46) (A1 : Option Addr) (c1 : Nat) (l1 : List Int) (a2 : Int) (w : World) (hr0 : Kd.C k46 w A0 l0.length l0) (hc0 : l0.length ≤ c0) (hr1 : Kd.C (Kd.int .i64) w A1 l1.length l1) (hc1 : l1.length ≤ c1) (t1 : Int) (e0 : ¬ (l1.length : Int) > 1048576) (Q2 : Aside0 (laws_szPatternS.f k l0 1048576 = some t1)) (ef : t1 < 0) :
    Calls Try.prog 9 #[.slice A0 l0.length c0, .slice A1 l1.length c1, .int .i64 a2] w fun e w' => e = .returned (.bool true) ∧ Below w.heap.size w w' := by
  have e0b : decide (1048576 < (l1.length : Int)) = false := decide_eq_false e0
  have e0c : decide (1048576 < l1.length) = false := decide_eq_false (by omega)
  clear e0
  have efb : decide (t1 < 0) = true := decide_eq_true ef
  clear ef
  have HR0 := Aside0.mk hr0
  have HR1 := Aside0.mk hr1
  have HC0 := Aside0.mk hc0
  have HC1 := Aside0.mk hc1
  clear hr0 hc0 hr1 hc1
  have HB := Aside0.mk (Below.refl w.heap.size w)
  go_enter Try.func9, Try.ntmps9
  go_wp2_with fail
  refine (laws_szPatternS.calls k _ _ l0 1048576 t1 _ (by exact Kd.C_below HR0.out (by repeat (first | (with_reducible first | exact HB.out | apply below_alloc | apply pw_below_drewN | apply below_drew1) | exact HB.out))) HC0.out Q2.out).mono ?_
  rintro e w1 ⟨rfl, hb⟩
  have n0_ := Aside0.mk (below_step (by repeat (first | (with_reducible first | exact HB.out | apply below_alloc | apply pw_below_drewN | apply below_drew1) | exact HB.out)) hb)
  clear HB hb
  have HB := n0_
  clear n0_
  go_wp2_with fail
  go_ret
  exact ⟨rfl, (by repeat (first | (with_reducible first | exact HB.out | apply below_alloc | apply pw_below_drewN | apply below_drew1) | exact HB.out))⟩
set_option maxHeartbeats 8000000 in
set_option maxRecDepth 100000 in
theorem laws_FnExactParseMelody.main (k : Nat) (A0 : Option Addr) (c0 : Nat) (l0 : List S46) (A1 : Option Addr) (c1 : Nat) (l1 : List Int) (a2 : Int) (w : World) (hr0 : Kd.C k46 w A0 l0.length l0) (hc0 : l0.length ≤ c0) (hr1 : Kd.C (Kd.int .i64) w A1 l1.length l1) (hc1 : l1.length ≤ c1) (t1 : Int) (t3 : List (S47)) (t6 : List Int) (t9 : List Int) (t10 : Int) (t13 : List (S47)) (t16 : List Int) (t19 : List Int) (t20 : Int) (t25 : List (S47)) (t30 : List Int) (t35 : Int) (t36 : List S47) (t38 : Int) (t39 : List Int) (t43 : Int) (t44 : List Int) (t46 : Int) (t48 : List (S47)) (t51 : List Int) (t54 : List Int) (t55 : Int) (t60 : Int) (e0 : ¬ (l1.length : Int) > 1048576) (Q2 : Aside0 (laws_szPatternS.f k l0 1048576 = some t1)) (e2 : ¬ t1 < 0) (Q4 : Aside0 (laws_toPatternS.f k l0 = some t3)) (Q7 : Aside0 (laws_toInt64S.f k l1 = some t6)) (Q11 : Aside0 (spec_ParseMelody.f k t3 t6 a2 = some (t9, t10))) (Q14 : Aside0 (laws_toPatternS.f k l0 = some t13)) (Q17 : Aside0 (laws_toInt64S.f k l1 = some t16)) (Q21 : Aside0 (impl_ParseMelody.f k t13 t16 a2 = some (t19, t20))) (Q24 : Aside0 (laws_eqInt64S.f k t19 t9 = some true)) (e10 : t20 = t10) (Q26 : Aside0 (laws_toPatternS.f k l0 = some t25)) (Q29 : Aside0 (laws_eqPatternS.f k t13 t25 = some true)) (Q31 : Aside0 (laws_toInt64S.f k l1 = some t30)) (Q34 : Aside0 (laws_eqInt64S.f k t16 t30 = some true)) (Q37 : Aside0 (laws_markPatternS.f k t13 1 = some (t35, t36))) (Q40 : Aside0 (laws_markInt64S.f k t16 t35 = some (t38, t39))) (e17 : ¬ t38 < 0) (Q42 : Aside0 (laws_eqInt64S.f k t19 t9 = some true)) (e19 : t20 = t10) (Q45 : Aside0 (laws_markInt64S.f k t19 1 = some (t43, t44))) (Q47 : Aside0 (laws_heldInt64S.f k t44 1 = some t46)) (e22 : ¬ t46 < 0) (e23 : t46 = t43) (Q49 : Aside0 (laws_toPatternS.f k l0 = some t48)) (Q52 : Aside0 (laws_toInt64S.f k l1 = some t51)) (Q56 : Aside0 (impl_ParseMelody.f k t48 t51 a2 = some (t54, t55))) (Q59 : Aside0 (laws_eqInt64S.f k t54 t9 = some true)) (e28 : t55 = t10) (Q61 : Aside0 (laws_heldInt64S.f k t44 1 = some t60)) (e30 : ¬ t60 < 0) (e31 : t60 = t43) :
    Calls Try.prog 9 #[.slice A0 l0.length c0, .slice A1 l1.length c1, .int .i64 a2] w fun e w' => e = .returned (.bool true) ∧ Below w.heap.size w w' := by
  have e0b : decide (1048576 < (l1.length : Int)) = false := decide_eq_false e0
  have e0c : decide (1048576 < l1.length) = false := decide_eq_false (by omega)
  clear e0
  have e2b : decide (t1 < 0) = false := decide_eq_false e2
  clear e2
  have e10b : (t20 == t10) = true := beq_iff_eq.mpr e10
  have e10c : (t20 != t10) = false := bne_eq_false_iff_eq.mpr e10
  clear e10
  have e17b : decide (t38 < 0) = false := decide_eq_false e17
  clear e17
  have e19b : (t20 == t10) = true := beq_iff_eq.mpr e19
  have e19c : (t20 != t10) = false := bne_eq_false_iff_eq.mpr e19
  clear e19
  have e22b : decide (t46 < 0) = false := decide_eq_false e22
  clear e22
  have e23b : (t46 == t43) = true := beq_iff_eq.mpr e23
  have e23c : (t46 != t43) = false := bne_eq_false_iff_eq.mpr e23
  clear e23
  have e28b : (t55 == t10) = true := beq_iff_eq.mpr e28
  have e28c : (t55 != t10) = false := bne_eq_false_iff_eq.mpr e28
  clear e28
  have e30b : decide (t60 < 0) = false := decide_eq_false e30
  clear e30
  have e31b : (t60 == t43) = true := beq_iff_eq.mpr e31
  have e31c : (t60 != t43) = false := bne_eq_false_iff_eq.mpr e31
  clear e31
  have HR0 := Aside0.mk hr0
  have HR1 := Aside0.mk hr1
  have HC0 := Aside0.mk hc0
  have HC1 := Aside0.mk hc1
  clear hr0 hc0 hr1 hc1
  have HB := Aside0.mk (Below.refl w.heap.size w)
  go_enter Try.func9, Try.ntmps9
  go_wp2_with fail
  refine (laws_szPatternS.calls k _ _ l0 1048576 t1 _ (by exact Kd.C_below HR0.out (by repeat (first | (with_reducible first | exact HB.out | apply below_alloc | apply pw_below_drewN | apply below_drew1) | exact HB.out))) HC0.out Q2.out).mono ?_
  rintro e w1 ⟨rfl, hb⟩
  have n0_ := Aside0.mk (below_step (by repeat (first | (with_reducible first | exact HB.out | apply below_alloc | apply pw_below_drewN | apply below_drew1) | exact HB.out)) hb)
  clear HB hb
  have HB := n0_
  clear n0_
  go_wp2_with fail
  refine (laws_toPatternS.calls k _ _ l0 t3 _ (by exact Kd.C_below HR0.out (by repeat (first | (with_reducible first | exact HB.out | apply below_alloc | apply pw_below_drewN | apply below_drew1) | exact HB.out))) HC0.out Q4.out).mono ?_
  rintro e w2 ⟨v0, rfl, ho0, hb⟩
  have n0_ := Aside0.mk (Iv_S (lo := w.heap.size) (W := _) ho0 (below_size (by repeat (first | (with_reducible first | exact HB.out | apply below_alloc | apply pw_below_drewN | apply below_drew1) | exact HB.out))) (below_size (by repeat (first | (with_reducible first | exact HB.out | apply below_alloc | apply pw_below_drewN | apply below_drew1) | exact HB.out))))
  have n1_ := Aside0.mk (Nat.le_refl w2.heap.size)
  have n2_ := Aside0.mk (Nat.le_trans (below_size (by repeat (first | (with_reducible first | exact HB.out | apply below_alloc | apply pw_below_drewN | apply below_drew1) | exact HB.out))) hb.size)
  have n3_ := Aside0.mk (below_step (by repeat (first | (with_reducible first | exact HB.out | apply below_alloc | apply pw_below_drewN | apply below_drew1) | exact HB.out)) hb)
  clear HB hb ho0
  have HO_row5 := n0_
  have HS := n1_
  have M2 := n2_
  have HB := n3_
  clear n0_ n1_ n2_ n3_
  obtain ⟨A_row5, c_row5, rfl⟩ := Kd.S_slice HO_row5.out
  go_wp2_with fail
  refine (laws_toInt64S.calls k _ _ l1 t6 _ (by exact Kd.C_below HR1.out (by repeat (first | (with_reducible first | exact HB.out | apply below_alloc | apply pw_below_drewN | apply below_drew1) | exact HB.out))) HC1.out Q7.out).mono ?_
  rintro e w3 ⟨v0, rfl, ho0, hb⟩
  have n0_ := Aside0.mk (Kd.S_below (by (with_reducible repeat (first | apply Kd.S_alloc | apply Kd.S_drewN | apply Kd.S_drew)); exact HO_row5.out) hb)
  have n1_ := Aside0.mk (Iv_R (lo := w2.heap.size) (W := _) ho0 (below_size (by repeat (first | (with_reducible first | exact HB.out | apply below_alloc | apply pw_below_drewN | apply below_drew1) | exact HB.out))) (by repeat (first | (with_reducible first | exact HS.out | apply sz_alloc | apply sz_drewN | apply sz_drew) | exact HS.out)))
  have n2_ := Aside0.mk (Nat.le_refl w3.heap.size)
  have n3_ := Aside0.mk (Nat.le_trans (by repeat (first | (with_reducible first | exact HS.out | apply sz_alloc | apply sz_drewN | apply sz_drew) | exact HS.out)) hb.size)
  have n4_ := Aside0.mk (below_step (by repeat (first | (with_reducible first | exact HB.out | apply below_alloc | apply pw_below_drewN | apply below_drew1) | exact HB.out)) hb)
  clear HB HS HO_row5 hb ho0
  have HO_row5 := n0_
  have HO_row8 := n1_
  have HS := n2_
  have M3 := n3_
  have HB := n4_
  clear n0_ n1_ n2_ n3_ n4_
  obtain ⟨A_row8, c_row8, rfl⟩ := Kd.R_slice HO_row8.out
  go_wp2_with fail
  refine (spec_ParseMelody.calls k _ _ t3 _ _ t6 a2 t9 t10 _ (by exact (Kd.S_reads' (by (with_reducible repeat (first | apply Kd.S_alloc | apply Kd.S_drewN | apply Kd.S_drew)); exact HO_row5.out)).2.2) (by exact (Kd.S_reads' HO_row5.out).2.1) (by exact (Kd.R_reads' (by (with_reducible repeat (first | apply Kd.R_alloc | apply Kd.R_drewN | apply Kd.R_drew)); exact HO_row8.out)).2.2) (by exact (Kd.R_reads' HO_row8.out).2.1) Q11.out).mono ?_
  rintro e w4 ⟨v0, rfl, ho0, hb⟩
  have n0_ := Aside0.mk (Kd.S_below (by (with_reducible repeat (first | apply Kd.S_alloc | apply Kd.S_drewN | apply Kd.S_drew)); exact HO_row5.out) hb)
  have n1_ := Aside0.mk (Kd.R_below (by (with_reducible repeat (first | apply Kd.R_alloc | apply Kd.R_drewN | apply Kd.R_drew)); exact HO_row8.out) hb)
  have n2_ := Aside0.mk (Iv_R (lo := w3.heap.size) (W := _) ho0 (below_size (by repeat (first | (with_reducible first | exact HB.out | apply below_alloc | apply pw_below_drewN | apply below_drew1) | exact HB.out))) (by repeat (first | (with_reducible first | exact HS.out | apply sz_alloc | apply sz_drewN | apply sz_drew) | exact HS.out)))
  have n3_ := Aside0.mk (Nat.le_refl w4.heap.size)
  have n4_ := Aside0.mk (Nat.le_trans (by repeat (first | (with_reducible first | exact HS.out | apply sz_alloc | apply sz_drewN | apply sz_drew) | exact HS.out)) hb.size)
  have n5_ := Aside0.mk (below_step (by repeat (first | (with_reducible first | exact HB.out | apply below_alloc | apply pw_below_drewN | apply below_drew1) | exact HB.out)) hb)
  clear HB HS HO_row5 HO_row8 hb ho0
  have HO_row5 := n0_
  have HO_row8 := n1_
  have HO_row12 := n2_
  have HS := n3_
  have M4 := n4_
  have HB := n5_
  clear n0_ n1_ n2_ n3_ n4_ n5_
  obtain ⟨A_row12, c_row12, rfl⟩ := Kd.R_slice HO_row12.out
  go_wp2_with fail
  refine (laws_toPatternS.calls k _ _ l0 t13 _ (by exact Kd.C_below HR0.out (by repeat (first | (with_reducible first | exact HB.out | apply below_alloc | apply pw_below_drewN | apply below_drew1) | exact HB.out))) HC0.out Q14.out).mono ?_
  rintro e w5 ⟨v0, rfl, ho0, hb⟩
  have n0_ := Aside0.mk (Kd.S_below (by (with_reducible repeat (first | apply Kd.S_alloc | apply Kd.S_drewN | apply Kd.S_drew)); exact HO_row5.out) hb)
  have n1_ := Aside0.mk (Kd.R_below (by (with_reducible repeat (first | apply Kd.R_alloc | apply Kd.R_drewN | apply Kd.R_drew)); exact HO_row8.out) hb)
  have n2_ := Aside0.mk (Kd.R_below (by (with_reducible repeat (first | apply Kd.R_alloc | apply Kd.R_drewN | apply Kd.R_drew)); exact HO_row12.out) hb)
  have n3_ := Aside0.mk (Iv_S (lo := w4.heap.size) (W := _) ho0 (below_size (by repeat (first | (with_reducible first | exact HB.out | apply below_alloc | apply pw_below_drewN | apply below_drew1) | exact HB.out))) (by repeat (first | (with_reducible first | exact HS.out | apply sz_alloc | apply sz_drewN | apply sz_drew) | exact HS.out)))
  have n4_ := Aside0.mk (Nat.le_refl w5.heap.size)
  have n5_ := Aside0.mk (Nat.le_trans (by repeat (first | (with_reducible first | exact HS.out | apply sz_alloc | apply sz_drewN | apply sz_drew) | exact HS.out)) hb.size)
  have n6_ := Aside0.mk (below_step (by repeat (first | (with_reducible first | exact HB.out | apply below_alloc | apply pw_below_drewN | apply below_drew1) | exact HB.out)) hb)
  clear HB HS HO_row5 HO_row8 HO_row12 hb ho0
  have HO_row5 := n0_
  have HO_row8 := n1_
  have HO_row12 := n2_
  have HO_row15 := n3_
  have HS := n4_
  have M5 := n5_
  have HB := n6_
  clear n0_ n1_ n2_ n3_ n4_ n5_ n6_
  obtain ⟨A_row15, c_row15, rfl⟩ := Kd.S_slice HO_row15.out
  go_wp2_with fail
  refine (laws_toInt64S.calls k _ _ l1 t16 _ (by exact Kd.C_below HR1.out (by repeat (first | (with_reducible first | exact HB.out | apply below_alloc | apply pw_below_drewN | apply below_drew1) | exact HB.out))) HC1.out Q17.out).mono ?_
  rintro e w6 ⟨v0, rfl, ho0, hb⟩
  have n0_ := Aside0.mk (Kd.S_below (by (with_reducible repeat (first | apply Kd.S_alloc | apply Kd.S_drewN | apply Kd.S_drew)); exact HO_row5.out) hb)
  have n1_ := Aside0.mk (Kd.R_below (by (with_reducible repeat (first | apply Kd.R_alloc | apply Kd.R_drewN | apply Kd.R_drew)); exact HO_row8.out) hb)
  have n2_ := Aside0.mk (Kd.R_below (by (with_reducible repeat (first | apply Kd.R_alloc | apply Kd.R_drewN | apply Kd.R_drew)); exact HO_row12.out) hb)
  have n3_ := Aside0.mk (Kd.S_below (by (with_reducible repeat (first | apply Kd.S_alloc | apply Kd.S_drewN | apply Kd.S_drew)); exact HO_row15.out) hb)
  have n4_ := Aside0.mk (Iv_R (lo := w5.heap.size) (W := _) ho0 (below_size (by repeat (first | (with_reducible first | exact HB.out | apply below_alloc | apply pw_below_drewN | apply below_drew1) | exact HB.out))) (by repeat (first | (with_reducible first | exact HS.out | apply sz_alloc | apply sz_drewN | apply sz_drew) | exact HS.out)))
  have n5_ := Aside0.mk (Nat.le_refl w6.heap.size)
  have n6_ := Aside0.mk (Nat.le_trans (by repeat (first | (with_reducible first | exact HS.out | apply sz_alloc | apply sz_drewN | apply sz_drew) | exact HS.out)) hb.size)
  have n7_ := Aside0.mk (below_step (by repeat (first | (with_reducible first | exact HB.out | apply below_alloc | apply pw_below_drewN | apply below_drew1) | exact HB.out)) hb)
  clear HB HS HO_row5 HO_row8 HO_row12 HO_row15 hb ho0
  have HO_row5 := n0_
  have HO_row8 := n1_
  have HO_row12 := n2_
  have HO_row15 := n3_
  have HO_row18 := n4_
  have HS := n5_
  have M6 := n6_
  have HB := n7_
  clear n0_ n1_ n2_ n3_ n4_ n5_ n6_ n7_
  obtain ⟨A_row18, c_row18, rfl⟩ := Kd.R_slice HO_row18.out
  go_wp2_with fail
  refine (impl_ParseMelody.calls k _ _ t13 _ _ t16 a2 t19 t20 _ (by exact (Kd.S_reads' (by (with_reducible repeat (first | apply Kd.S_alloc | apply Kd.S_drewN | apply Kd.S_drew)); exact HO_row15.out)).2.2) (by exact (Kd.S_reads' HO_row15.out).2.1) (by exact (Kd.R_reads' (by (with_reducible repeat (first | apply Kd.R_alloc | apply Kd.R_drewN | apply Kd.R_drew)); exact HO_row18.out)).2.2) (by exact (Kd.R_reads' HO_row18.out).2.1) Q21.out).mono ?_
  rintro e w7 ⟨v0, rfl, ho0, hb⟩
  have n0_ := Aside0.mk (Kd.S_below (by (with_reducible repeat (first | apply Kd.S_alloc | apply Kd.S_drewN | apply Kd.S_drew)); exact HO_row5.out) hb)
  have n1_ := Aside0.mk (Kd.R_below (by (with_reducible repeat (first | apply Kd.R_alloc | apply Kd.R_drewN | apply Kd.R_drew)); exact HO_row8.out) hb)
  have n2_ := Aside0.mk (Kd.R_below (by (with_reducible repeat (first | apply Kd.R_alloc | apply Kd.R_drewN | apply Kd.R_drew)); exact HO_row12.out) hb)
  have n3_ := Aside0.mk (Kd.S_below (by (with_reducible repeat (first | apply Kd.S_alloc | apply Kd.S_drewN | apply Kd.S_drew)); exact HO_row15.out) hb)
  have n4_ := Aside0.mk (Kd.R_below (by (with_reducible repeat (first | apply Kd.R_alloc | apply Kd.R_drewN | apply Kd.R_drew)); exact HO_row18.out) hb)
  have n5_ := Aside0.mk (Iv_R (lo := w6.heap.size) (W := _) ho0 (below_size (by repeat (first | (with_reducible first | exact HB.out | apply below_alloc | apply pw_below_drewN | apply below_drew1) | exact HB.out))) (by repeat (first | (with_reducible first | exact HS.out | apply sz_alloc | apply sz_drewN | apply sz_drew) | exact HS.out)))
  have n6_ := Aside0.mk (Nat.le_refl w7.heap.size)
  have n7_ := Aside0.mk (Nat.le_trans (by repeat (first | (with_reducible first | exact HS.out | apply sz_alloc | apply sz_drewN | apply sz_drew) | exact HS.out)) hb.size)
  have n8_ := Aside0.mk (below_step (by repeat (first | (with_reducible first | exact HB.out | apply below_alloc | apply pw_below_drewN | apply below_drew1) | exact HB.out)) hb)
  clear HB HS HO_row5 HO_row8 HO_row12 HO_row15 HO_row18 hb ho0
  have HO_row5 := n0_
  have HO_row8 := n1_
  have HO_row12 := n2_
  have HO_row15 := n3_
  have HO_row18 := n4_
  have HO_row22 := n5_
  have HS := n6_
  have M7 := n7_
  have HB := n8_
  clear n0_ n1_ n2_ n3_ n4_ n5_ n6_ n7_ n8_
  obtain ⟨A_row22, c_row22, rfl⟩ := Kd.R_slice HO_row22.out
  go_wp2_with fail
  refine (laws_eqInt64S.calls k _ _ t19 _ _ t9 true _ (by exact (Kd.R_reads' (by (with_reducible repeat (first | apply Kd.R_alloc | apply Kd.R_drewN | apply Kd.R_drew)); exact HO_row22.out)).2.2) (by exact (Kd.R_reads' HO_row22.out).2.1) (by exact (Kd.R_reads' (by (with_reducible repeat (first | apply Kd.R_alloc | apply Kd.R_drewN | apply Kd.R_drew)); exact HO_row12.out)).2.2) (by exact (Kd.R_reads' HO_row12.out).2.1) Q24.out).mono ?_
  rintro e w8 ⟨rfl, hb⟩
  replace hb := hb.below
  have n0_ := Aside0.mk (Kd.S_below (by (with_reducible repeat (first | apply Kd.S_alloc | apply Kd.S_drewN | apply Kd.S_drew)); exact HO_row5.out) hb)
  have n1_ := Aside0.mk (Kd.R_below (by (with_reducible repeat (first | apply Kd.R_alloc | apply Kd.R_drewN | apply Kd.R_drew)); exact HO_row8.out) hb)
  have n2_ := Aside0.mk (Kd.R_below (by (with_reducible repeat (first | apply Kd.R_alloc | apply Kd.R_drewN | apply Kd.R_drew)); exact HO_row12.out) hb)
  have n3_ := Aside0.mk (Kd.S_below (by (with_reducible repeat (first | apply Kd.S_alloc | apply Kd.S_drewN | apply Kd.S_drew)); exact HO_row15.out) hb)
  have n4_ := Aside0.mk (Kd.R_below (by (with_reducible repeat (first | apply Kd.R_alloc | apply Kd.R_drewN | apply Kd.R_drew)); exact HO_row18.out) hb)
  have n5_ := Aside0.mk (Kd.R_below (by (with_reducible repeat (first | apply Kd.R_alloc | apply Kd.R_drewN | apply Kd.R_drew)); exact HO_row22.out) hb)
  have n6_ := Aside0.mk (Nat.le_trans (by repeat (first | (with_reducible first | exact HS.out | apply sz_alloc | apply sz_drewN | apply sz_drew) | exact HS.out)) hb.size)
  have n7_ := Aside0.mk (below_step (by repeat (first | (with_reducible first | exact HB.out | apply below_alloc | apply pw_below_drewN | apply below_drew1) | exact HB.out)) hb)
  clear HB HS HO_row5 HO_row8 HO_row12 HO_row15 HO_row18 HO_row22 hb
  have HO_row5 := n0_
  have HO_row8 := n1_
  have HO_row12 := n2_
  have HO_row15 := n3_
  have HO_row18 := n4_
  have HO_row22 := n5_
  have HS := n6_
  have HB := n7_
  clear n0_ n1_ n2_ n3_ n4_ n5_ n6_ n7_
  go_wp2_with fail
  refine (laws_toPatternS.calls k _ _ l0 t25 _ (by exact Kd.C_below HR0.out (by repeat (first | (with_reducible first | exact HB.out | apply below_alloc | apply pw_below_drewN | apply below_drew1) | exact HB.out))) HC0.out Q26.out).mono ?_
  rintro e w9 ⟨v0, rfl, ho0, hb⟩
  have n0_ := Aside0.mk (Kd.S_below (by (with_reducible repeat (first | apply Kd.S_alloc | apply Kd.S_drewN | apply Kd.S_drew)); exact HO_row5.out) hb)
  have n1_ := Aside0.mk (Kd.R_below (by (with_reducible repeat (first | apply Kd.R_alloc | apply Kd.R_drewN | apply Kd.R_drew)); exact HO_row8.out) hb)
  have n2_ := Aside0.mk (Kd.R_below (by (with_reducible repeat (first | apply Kd.R_alloc | apply Kd.R_drewN | apply Kd.R_drew)); exact HO_row12.out) hb)
  have n3_ := Aside0.mk (Kd.S_below (by (with_reducible repeat (first | apply Kd.S_alloc | apply Kd.S_drewN | apply Kd.S_drew)); exact HO_row15.out) hb)
  have n4_ := Aside0.mk (Kd.R_below (by (with_reducible repeat (first | apply Kd.R_alloc | apply Kd.R_drewN | apply Kd.R_drew)); exact HO_row18.out) hb)
  have n5_ := Aside0.mk (Kd.R_below (by (with_reducible repeat (first | apply Kd.R_alloc | apply Kd.R_drewN | apply Kd.R_drew)); exact HO_row22.out) hb)
  have n6_ := Aside0.mk (Iv_S (lo := w7.heap.size) (W := _) ho0 (below_size (by repeat (first | (with_reducible first | exact HB.out | apply below_alloc | apply pw_below_drewN | apply below_drew1) | exact HB.out))) (by repeat (first | (with_reducible first | exact HS.out | apply sz_alloc | apply sz_drewN | apply sz_drew) | exact HS.out)))
  have n7_ := Aside0.mk (Nat.le_refl w9.heap.size)
  have n8_ := Aside0.mk (Nat.le_trans (by repeat (first | (with_reducible first | exact HS.out | apply sz_alloc | apply sz_drewN | apply sz_drew) | exact HS.out)) hb.size)
  have n9_ := Aside0.mk (below_step (by repeat (first | (with_reducible first | exact HB.out | apply below_alloc | apply pw_below_drewN | apply below_drew1) | exact HB.out)) hb)
  clear HB HS HO_row5 HO_row8 HO_row12 HO_row15 HO_row18 HO_row22 hb ho0
  have HO_row5 := n0_
  have HO_row8 := n1_
  have HO_row12 := n2_
  have HO_row15 := n3_
  have HO_row18 := n4_
  have HO_row22 := n5_
  have HO_row27 := n6_
  have HS := n7_
  have M9 := n8_
  have HB := n9_
  clear n0_ n1_ n2_ n3_ n4_ n5_ n6_ n7_ n8_ n9_
  obtain ⟨A_row27, c_row27, rfl⟩ := Kd.S_slice HO_row27.out
  go_wp2_with fail
  refine (laws_eqPatternS.calls k _ _ t13 _ _ t25 true _ (by exact (Kd.S_reads' (by (with_reducible repeat (first | apply Kd.S_alloc | apply Kd.S_drewN | apply Kd.S_drew)); exact HO_row15.out)).2.2) (by exact (Kd.S_reads' HO_row15.out).2.1) (by exact (Kd.S_reads' (by (with_reducible repeat (first | apply Kd.S_alloc | apply Kd.S_drewN | apply Kd.S_drew)); exact HO_row27.out)).2.2) (by exact (Kd.S_reads' HO_row27.out).2.1) Q29.out).mono ?_
  rintro e w10 ⟨rfl, hb⟩
  have n0_ := Aside0.mk (Kd.S_below (by (with_reducible repeat (first | apply Kd.S_alloc | apply Kd.S_drewN | apply Kd.S_drew)); exact HO_row5.out) hb)
  have n1_ := Aside0.mk (Kd.R_below (by (with_reducible repeat (first | apply Kd.R_alloc | apply Kd.R_drewN | apply Kd.R_drew)); exact HO_row8.out) hb)
  have n2_ := Aside0.mk (Kd.R_below (by (with_reducible repeat (first | apply Kd.R_alloc | apply Kd.R_drewN | apply Kd.R_drew)); exact HO_row12.out) hb)
  have n3_ := Aside0.mk (Kd.S_below (by (with_reducible repeat (first | apply Kd.S_alloc | apply Kd.S_drewN | apply Kd.S_drew)); exact HO_row15.out) hb)
  have n4_ := Aside0.mk (Kd.R_below (by (with_reducible repeat (first | apply Kd.R_alloc | apply Kd.R_drewN | apply Kd.R_drew)); exact HO_row18.out) hb)
  have n5_ := Aside0.mk (Kd.R_below (by (with_reducible repeat (first | apply Kd.R_alloc | apply Kd.R_drewN | apply Kd.R_drew)); exact HO_row22.out) hb)
  have n6_ := Aside0.mk (Kd.S_below (by (with_reducible repeat (first | apply Kd.S_alloc | apply Kd.S_drewN | apply Kd.S_drew)); exact HO_row27.out) hb)
  have n7_ := Aside0.mk (Nat.le_trans (by repeat (first | (with_reducible first | exact HS.out | apply sz_alloc | apply sz_drewN | apply sz_drew) | exact HS.out)) hb.size)
  have n8_ := Aside0.mk (below_step (by repeat (first | (with_reducible first | exact HB.out | apply below_alloc | apply pw_below_drewN | apply below_drew1) | exact HB.out)) hb)
  clear HB HS HO_row5 HO_row8 HO_row12 HO_row15 HO_row18 HO_row22 HO_row27 hb
  have HO_row5 := n0_
  have HO_row8 := n1_
  have HO_row12 := n2_
  have HO_row15 := n3_
  have HO_row18 := n4_
  have HO_row22 := n5_
  have HO_row27 := n6_
  have HS := n7_
  have HB := n8_
  clear n0_ n1_ n2_ n3_ n4_ n5_ n6_ n7_ n8_
  go_wp2_with fail
  refine (laws_toInt64S.calls k _ _ l1 t30 _ (by exact Kd.C_below HR1.out (by repeat (first | (with_reducible first | exact HB.out | apply below_alloc | apply pw_below_drewN | apply below_drew1) | exact HB.out))) HC1.out Q31.out).mono ?_
  rintro e w11 ⟨v0, rfl, ho0, hb⟩
  have n0_ := Aside0.mk (Kd.S_below (by (with_reducible repeat (first | apply Kd.S_alloc | apply Kd.S_drewN | apply Kd.S_drew)); exact HO_row5.out) hb)
  have n1_ := Aside0.mk (Kd.R_below (by (with_reducible repeat (first | apply Kd.R_alloc | apply Kd.R_drewN | apply Kd.R_drew)); exact HO_row8.out) hb)
  have n2_ := Aside0.mk (Kd.R_below (by (with_reducible repeat (first | apply Kd.R_alloc | apply Kd.R_drewN | apply Kd.R_drew)); exact HO_row12.out) hb)
  have n3_ := Aside0.mk (Kd.S_below (by (with_reducible repeat (first | apply Kd.S_alloc | apply Kd.S_drewN | apply Kd.S_drew)); exact HO_row15.out) hb)
  have n4_ := Aside0.mk (Kd.R_below (by (with_reducible repeat (first | apply Kd.R_alloc | apply Kd.R_drewN | apply Kd.R_drew)); exact HO_row18.out) hb)
  have n5_ := Aside0.mk (Kd.R_below (by (with_reducible repeat (first | apply Kd.R_alloc | apply Kd.R_drewN | apply Kd.R_drew)); exact HO_row22.out) hb)
  have n6_ := Aside0.mk (Kd.S_below (by (with_reducible repeat (first | apply Kd.S_alloc | apply Kd.S_drewN | apply Kd.S_drew)); exact HO_row27.out) hb)
  have n7_ := Aside0.mk (Iv_R (lo := w9.heap.size) (W := _) ho0 (below_size (by repeat (first | (with_reducible first | exact HB.out | apply below_alloc | apply pw_below_drewN | apply below_drew1) | exact HB.out))) (by repeat (first | (with_reducible first | exact HS.out | apply sz_alloc | apply sz_drewN | apply sz_drew) | exact HS.out)))
  have n8_ := Aside0.mk (Nat.le_refl w11.heap.size)
  have n9_ := Aside0.mk (Nat.le_trans (by repeat (first | (with_reducible first | exact HS.out | apply sz_alloc | apply sz_drewN | apply sz_drew) | exact HS.out)) hb.size)
  have n10_ := Aside0.mk (below_step (by repeat (first | (with_reducible first | exact HB.out | apply below_alloc | apply pw_below_drewN | apply below_drew1) | exact HB.out)) hb)
  clear HB HS HO_row5 HO_row8 HO_row12 HO_row15 HO_row18 HO_row22 HO_row27 hb ho0
  have HO_row5 := n0_
  have HO_row8 := n1_
  have HO_row12 := n2_
  have HO_row15 := n3_
  have HO_row18 := n4_
  have HO_row22 := n5_
  have HO_row27 := n6_
  have HO_row32 := n7_
  have HS := n8_
  have M11 := n9_
  have HB := n10_
  clear n0_ n1_ n2_ n3_ n4_ n5_ n6_ n7_ n8_ n9_ n10_
  obtain ⟨A_row32, c_row32, rfl⟩ := Kd.R_slice HO_row32.out
  go_wp2_with fail
  refine (laws_eqInt64S.calls k _ _ t16 _ _ t30 true _ (by exact (Kd.R_reads' (by (with_reducible repeat (first | apply Kd.R_alloc | apply Kd.R_drewN | apply Kd.R_drew)); exact HO_row18.out)).2.2) (by exact (Kd.R_reads' HO_row18.out).2.1) (by exact (Kd.R_reads' (by (with_reducible repeat (first | apply Kd.R_alloc | apply Kd.R_drewN | apply Kd.R_drew)); exact HO_row32.out)).2.2) (by exact (Kd.R_reads' HO_row32.out).2.1) Q34.out).mono ?_
  rintro e w12 ⟨rfl, hb⟩
  replace hb := hb.below
  have n0_ := Aside0.mk (Kd.S_below (by (with_reducible repeat (first | apply Kd.S_alloc | apply Kd.S_drewN | apply Kd.S_drew)); exact HO_row5.out) hb)
  have n1_ := Aside0.mk (Kd.R_below (by (with_reducible repeat (first | apply Kd.R_alloc | apply Kd.R_drewN | apply Kd.R_drew)); exact HO_row8.out) hb)
  have n2_ := Aside0.mk (Kd.R_below (by (with_reducible repeat (first | apply Kd.R_alloc | apply Kd.R_drewN | apply Kd.R_drew)); exact HO_row12.out) hb)
  have n3_ := Aside0.mk (Kd.S_below (by (with_reducible repeat (first | apply Kd.S_alloc | apply Kd.S_drewN | apply Kd.S_drew)); exact HO_row15.out) hb)
  have n4_ := Aside0.mk (Kd.R_below (by (with_reducible repeat (first | apply Kd.R_alloc | apply Kd.R_drewN | apply Kd.R_drew)); exact HO_row18.out) hb)
  have n5_ := Aside0.mk (Kd.R_below (by (with_reducible repeat (first | apply Kd.R_alloc | apply Kd.R_drewN | apply Kd.R_drew)); exact HO_row22.out) hb)
  have n6_ := Aside0.mk (Kd.S_below (by (with_reducible repeat (first | apply Kd.S_alloc | apply Kd.S_drewN | apply Kd.S_drew)); exact HO_row27.out) hb)
  have n7_ := Aside0.mk (Kd.R_below (by (with_reducible repeat (first | apply Kd.R_alloc | apply Kd.R_drewN | apply Kd.R_drew)); exact HO_row32.out) hb)
  have n8_ := Aside0.mk (Nat.le_trans (by repeat (first | (with_reducible first | exact HS.out | apply sz_alloc | apply sz_drewN | apply sz_drew) | exact HS.out)) hb.size)
  have n9_ := Aside0.mk (below_step (by repeat (first | (with_reducible first | exact HB.out | apply below_alloc | apply pw_below_drewN | apply below_drew1) | exact HB.out)) hb)
  clear HB HS HO_row5 HO_row8 HO_row12 HO_row15 HO_row18 HO_row22 HO_row27 HO_row32 hb
  have HO_row5 := n0_
  have HO_row8 := n1_
  have HO_row12 := n2_
  have HO_row15 := n3_
  have HO_row18 := n4_
  have HO_row22 := n5_
  have HO_row27 := n6_
  have HO_row32 := n7_
  have HS := n8_
  have HB := n9_
  clear n0_ n1_ n2_ n3_ n4_ n5_ n6_ n7_ n8_ n9_
  go_wp2_with fail
  refine (laws_markPatternS.calls k (Iv w4.heap.size w5.heap.size) _ t13 1 t35 t36 w _ (by repeat (first | (with_reducible first | exact HB.out | apply below_alloc | apply pw_below_drewN | apply below_drew1) | exact HB.out)) (by (with_reducible repeat (first | apply Kd.S_alloc | apply Kd.S_drewN | apply Kd.S_drew)); exact HO_row15.out) Q37.out).mono ?_
  rintro e w13 ⟨rfl, ho0, hb, hk⟩
  have n0_ := Aside0.mk (ho0)
  have n1_ := Aside0.mk (Kd.S_kept (by (with_reducible repeat (first | apply Kd.S_alloc | apply Kd.S_drewN | apply Kd.S_drew)); exact HO_row5.out) hk (fun k_ h1_ h2_ => by unfold Iv at h1_ h2_; have m2_ := M2.out; have m3_ := M3.out; have m4_ := M4.out; have m5_ := M5.out; have m6_ := M6.out; have m7_ := M7.out; have m9_ := M9.out; have m11_ := M11.out; omega))
  have n2_ := Aside0.mk (Kd.R_kept (by (with_reducible repeat (first | apply Kd.R_alloc | apply Kd.R_drewN | apply Kd.R_drew)); exact HO_row8.out) hk (fun k_ h1_ h2_ => by unfold Iv at h1_ h2_; have m2_ := M2.out; have m3_ := M3.out; have m4_ := M4.out; have m5_ := M5.out; have m6_ := M6.out; have m7_ := M7.out; have m9_ := M9.out; have m11_ := M11.out; omega))
  have n3_ := Aside0.mk (Kd.R_kept (by (with_reducible repeat (first | apply Kd.R_alloc | apply Kd.R_drewN | apply Kd.R_drew)); exact HO_row12.out) hk (fun k_ h1_ h2_ => by unfold Iv at h1_ h2_; have m2_ := M2.out; have m3_ := M3.out; have m4_ := M4.out; have m5_ := M5.out; have m6_ := M6.out; have m7_ := M7.out; have m9_ := M9.out; have m11_ := M11.out; omega))
  have n4_ := Aside0.mk (Kd.R_kept (by (with_reducible repeat (first | apply Kd.R_alloc | apply Kd.R_drewN | apply Kd.R_drew)); exact HO_row18.out) hk (fun k_ h1_ h2_ => by unfold Iv at h1_ h2_; have m2_ := M2.out; have m3_ := M3.out; have m4_ := M4.out; have m5_ := M5.out; have m6_ := M6.out; have m7_ := M7.out; have m9_ := M9.out; have m11_ := M11.out; omega))
  have n5_ := Aside0.mk (Kd.R_kept (by (with_reducible repeat (first | apply Kd.R_alloc | apply Kd.R_drewN | apply Kd.R_drew)); exact HO_row22.out) hk (fun k_ h1_ h2_ => by unfold Iv at h1_ h2_; have m2_ := M2.out; have m3_ := M3.out; have m4_ := M4.out; have m5_ := M5.out; have m6_ := M6.out; have m7_ := M7.out; have m9_ := M9.out; have m11_ := M11.out; omega))
  have n6_ := Aside0.mk (Kd.S_kept (by (with_reducible repeat (first | apply Kd.S_alloc | apply Kd.S_drewN | apply Kd.S_drew)); exact HO_row27.out) hk (fun k_ h1_ h2_ => by unfold Iv at h1_ h2_; have m2_ := M2.out; have m3_ := M3.out; have m4_ := M4.out; have m5_ := M5.out; have m6_ := M6.out; have m7_ := M7.out; have m9_ := M9.out; have m11_ := M11.out; omega))
  have n7_ := Aside0.mk (Kd.R_kept (by (with_reducible repeat (first | apply Kd.R_alloc | apply Kd.R_drewN | apply Kd.R_drew)); exact HO_row32.out) hk (fun k_ h1_ h2_ => by unfold Iv at h1_ h2_; have m2_ := M2.out; have m3_ := M3.out; have m4_ := M4.out; have m5_ := M5.out; have m6_ := M6.out; have m7_ := M7.out; have m9_ := M9.out; have m11_ := M11.out; omega))
  have n8_ := Aside0.mk (Nat.le_trans (by repeat (first | (with_reducible first | exact HS.out | apply sz_alloc | apply sz_drewN | apply sz_drew) | exact HS.out)) hk.1)
  have n9_ := Aside0.mk (hb)
  clear HB HS HO_row5 HO_row8 HO_row12 HO_row15 HO_row18 HO_row22 HO_row27 HO_row32 hb hk ho0
  have HO_row15 := n0_
  have HO_row5 := n1_
  have HO_row8 := n2_
  have HO_row12 := n3_
  have HO_row18 := n4_
  have HO_row22 := n5_
  have HO_row27 := n6_
  have HO_row32 := n7_
  have HS := n8_
  have HB := n9_
  clear n0_ n1_ n2_ n3_ n4_ n5_ n6_ n7_ n8_ n9_
  have LN_row15 := Aside0.mk (Kd.S_reads' HO_row15.out).1
  go_wp2_with fail
  refine (laws_markInt64S.calls k (Iv w5.heap.size w6.heap.size) _ t16 t35 t38 t39 w _ (by repeat (first | (with_reducible first | exact HB.out | apply below_alloc | apply pw_below_drewN | apply below_drew1) | exact HB.out)) (by (with_reducible repeat (first | apply Kd.R_alloc | apply Kd.R_drewN | apply Kd.R_drew)); exact HO_row18.out) Q40.out).mono ?_
  rintro e w14 ⟨rfl, ho0, hb, hk⟩
  have n0_ := Aside0.mk (Kd.R_mono (Kd.R_tight rfl ho0) (fun k_ hk_ => HO_row18.out.1 k_ hk_.symm))
  have n1_ := Aside0.mk (Kd.S_kept (by (with_reducible repeat (first | apply Kd.S_alloc | apply Kd.S_drewN | apply Kd.S_drew)); exact HO_row5.out) hk (fun k_ h1_ h2_ => by unfold Iv at h1_ h2_; have m2_ := M2.out; have m3_ := M3.out; have m4_ := M4.out; have m5_ := M5.out; have m6_ := M6.out; have m7_ := M7.out; have m9_ := M9.out; have m11_ := M11.out; omega))
  have n2_ := Aside0.mk (Kd.R_kept (by (with_reducible repeat (first | apply Kd.R_alloc | apply Kd.R_drewN | apply Kd.R_drew)); exact HO_row8.out) hk (fun k_ h1_ h2_ => by unfold Iv at h1_ h2_; have m2_ := M2.out; have m3_ := M3.out; have m4_ := M4.out; have m5_ := M5.out; have m6_ := M6.out; have m7_ := M7.out; have m9_ := M9.out; have m11_ := M11.out; omega))
  have n3_ := Aside0.mk (Kd.R_kept (by (with_reducible repeat (first | apply Kd.R_alloc | apply Kd.R_drewN | apply Kd.R_drew)); exact HO_row12.out) hk (fun k_ h1_ h2_ => by unfold Iv at h1_ h2_; have m2_ := M2.out; have m3_ := M3.out; have m4_ := M4.out; have m5_ := M5.out; have m6_ := M6.out; have m7_ := M7.out; have m9_ := M9.out; have m11_ := M11.out; omega))
  have n4_ := Aside0.mk (Kd.S_kept (by (with_reducible repeat (first | apply Kd.S_alloc | apply Kd.S_drewN | apply Kd.S_drew)); exact HO_row15.out) hk (fun k_ h1_ h2_ => by unfold Iv at h1_ h2_; have m2_ := M2.out; have m3_ := M3.out; have m4_ := M4.out; have m5_ := M5.out; have m6_ := M6.out; have m7_ := M7.out; have m9_ := M9.out; have m11_ := M11.out; omega))
  have n5_ := Aside0.mk (Kd.R_kept (by (with_reducible repeat (first | apply Kd.R_alloc | apply Kd.R_drewN | apply Kd.R_drew)); exact HO_row22.out) hk (fun k_ h1_ h2_ => by unfold Iv at h1_ h2_; have m2_ := M2.out; have m3_ := M3.out; have m4_ := M4.out; have m5_ := M5.out; have m6_ := M6.out; have m7_ := M7.out; have m9_ := M9.out; have m11_ := M11.out; omega))
  have n6_ := Aside0.mk (Kd.S_kept (by (with_reducible repeat (first | apply Kd.S_alloc | apply Kd.S_drewN | apply Kd.S_drew)); exact HO_row27.out) hk (fun k_ h1_ h2_ => by unfold Iv at h1_ h2_; have m2_ := M2.out; have m3_ := M3.out; have m4_ := M4.out; have m5_ := M5.out; have m6_ := M6.out; have m7_ := M7.out; have m9_ := M9.out; have m11_ := M11.out; omega))
  have n7_ := Aside0.mk (Kd.R_kept (by (with_reducible repeat (first | apply Kd.R_alloc | apply Kd.R_drewN | apply Kd.R_drew)); exact HO_row32.out) hk (fun k_ h1_ h2_ => by unfold Iv at h1_ h2_; have m2_ := M2.out; have m3_ := M3.out; have m4_ := M4.out; have m5_ := M5.out; have m6_ := M6.out; have m7_ := M7.out; have m9_ := M9.out; have m11_ := M11.out; omega))
  have n8_ := Aside0.mk (Nat.le_trans (by repeat (first | (with_reducible first | exact HS.out | apply sz_alloc | apply sz_drewN | apply sz_drew) | exact HS.out)) hk.1)
  have n9_ := Aside0.mk (hb)
  clear HB HS HO_row5 HO_row8 HO_row12 HO_row15 HO_row18 HO_row22 HO_row27 HO_row32 hb hk ho0
  have HO_row18 := n0_
  have HO_row5 := n1_
  have HO_row8 := n2_
  have HO_row12 := n3_
  have HO_row15 := n4_
  have HO_row22 := n5_
  have HO_row27 := n6_
  have HO_row32 := n7_
  have HS := n8_
  have HB := n9_
  clear n0_ n1_ n2_ n3_ n4_ n5_ n6_ n7_ n8_ n9_
  have LN_row18 := Aside0.mk (Kd.R_reads' HO_row18.out).1
  go_wp2_with fail
  refine (laws_eqInt64S.calls k _ _ t19 _ _ t9 true _ (by exact (Kd.R_reads' (by (with_reducible repeat (first | apply Kd.R_alloc | apply Kd.R_drewN | apply Kd.R_drew)); exact HO_row22.out)).2.2) (by exact (Kd.R_reads' HO_row22.out).2.1) (by exact (Kd.R_reads' (by (with_reducible repeat (first | apply Kd.R_alloc | apply Kd.R_drewN | apply Kd.R_drew)); exact HO_row12.out)).2.2) (by exact (Kd.R_reads' HO_row12.out).2.1) Q42.out).mono ?_
  rintro e w15 ⟨rfl, hb⟩
  replace hb := hb.below
  have n0_ := Aside0.mk (Kd.S_below (by (with_reducible repeat (first | apply Kd.S_alloc | apply Kd.S_drewN | apply Kd.S_drew)); exact HO_row5.out) hb)
  have n1_ := Aside0.mk (Kd.R_below (by (with_reducible repeat (first | apply Kd.R_alloc | apply Kd.R_drewN | apply Kd.R_drew)); exact HO_row8.out) hb)
  have n2_ := Aside0.mk (Kd.R_below (by (with_reducible repeat (first | apply Kd.R_alloc | apply Kd.R_drewN | apply Kd.R_drew)); exact HO_row12.out) hb)
  have n3_ := Aside0.mk (Kd.S_below (by (with_reducible repeat (first | apply Kd.S_alloc | apply Kd.S_drewN | apply Kd.S_drew)); exact HO_row15.out) hb)
  have n4_ := Aside0.mk (Kd.R_below (by (with_reducible repeat (first | apply Kd.R_alloc | apply Kd.R_drewN | apply Kd.R_drew)); exact HO_row18.out) hb)
  have n5_ := Aside0.mk (Kd.R_below (by (with_reducible repeat (first | apply Kd.R_alloc | apply Kd.R_drewN | apply Kd.R_drew)); exact HO_row22.out) hb)
  have n6_ := Aside0.mk (Kd.S_below (by (with_reducible repeat (first | apply Kd.S_alloc | apply Kd.S_drewN | apply Kd.S_drew)); exact HO_row27.out) hb)
  have n7_ := Aside0.mk (Kd.R_below (by (with_reducible repeat (first | apply Kd.R_alloc | apply Kd.R_drewN | apply Kd.R_drew)); exact HO_row32.out) hb)
  have n8_ := Aside0.mk (Nat.le_trans (by repeat (first | (with_reducible first | exact HS.out | apply sz_alloc | apply sz_drewN | apply sz_drew) | exact HS.out)) hb.size)
  have n9_ := Aside0.mk (below_step (by repeat (first | (with_reducible first | exact HB.out | apply below_alloc | apply pw_below_drewN | apply below_drew1) | exact HB.out)) hb)
  clear HB HS HO_row5 HO_row8 HO_row12 HO_row15 HO_row18 HO_row22 HO_row27 HO_row32 hb
  have HO_row5 := n0_
  have HO_row8 := n1_
  have HO_row12 := n2_
  have HO_row15 := n3_
  have HO_row18 := n4_
  have HO_row22 := n5_
  have HO_row27 := n6_
  have HO_row32 := n7_
  have HS := n8_
  have HB := n9_
  clear n0_ n1_ n2_ n3_ n4_ n5_ n6_ n7_ n8_ n9_
  go_wp2_with fail
  refine (laws_markInt64S.calls k (Iv w6.heap.size w7.heap.size) _ t19 1 t43 t44 w _ (by repeat (first | (with_reducible first | exact HB.out | apply below_alloc | apply pw_below_drewN | apply below_drew1) | exact HB.out)) (by (with_reducible repeat (first | apply Kd.R_alloc | apply Kd.R_drewN | apply Kd.R_drew)); exact HO_row22.out) Q45.out).mono ?_
  rintro e w16 ⟨rfl, ho0, hb, hk⟩
  have n0_ := Aside0.mk (Kd.R_mono (Kd.R_tight rfl ho0) (fun k_ hk_ => HO_row22.out.1 k_ hk_.symm))
  have n1_ := Aside0.mk (Kd.S_kept (by (with_reducible repeat (first | apply Kd.S_alloc | apply Kd.S_drewN | apply Kd.S_drew)); exact HO_row5.out) hk (fun k_ h1_ h2_ => by unfold Iv at h1_ h2_; have m2_ := M2.out; have m3_ := M3.out; have m4_ := M4.out; have m5_ := M5.out; have m6_ := M6.out; have m7_ := M7.out; have m9_ := M9.out; have m11_ := M11.out; omega))
  have n2_ := Aside0.mk (Kd.R_kept (by (with_reducible repeat (first | apply Kd.R_alloc | apply Kd.R_drewN | apply Kd.R_drew)); exact HO_row8.out) hk (fun k_ h1_ h2_ => by unfold Iv at h1_ h2_; have m2_ := M2.out; have m3_ := M3.out; have m4_ := M4.out; have m5_ := M5.out; have m6_ := M6.out; have m7_ := M7.out; have m9_ := M9.out; have m11_ := M11.out; omega))
  have n3_ := Aside0.mk (Kd.R_kept (by (with_reducible repeat (first | apply Kd.R_alloc | apply Kd.R_drewN | apply Kd.R_drew)); exact HO_row12.out) hk (fun k_ h1_ h2_ => by unfold Iv at h1_ h2_; have m2_ := M2.out; have m3_ := M3.out; have m4_ := M4.out; have m5_ := M5.out; have m6_ := M6.out; have m7_ := M7.out; have m9_ := M9.out; have m11_ := M11.out; omega))
  have n4_ := Aside0.mk (Kd.S_kept (by (with_reducible repeat (first | apply Kd.S_alloc | apply Kd.S_drewN | apply Kd.S_drew)); exact HO_row15.out) hk (fun k_ h1_ h2_ => by unfold Iv at h1_ h2_; have m2_ := M2.out; have m3_ := M3.out; have m4_ := M4.out; have m5_ := M5.out; have m6_ := M6.out; have m7_ := M7.out; have m9_ := M9.out; have m11_ := M11.out; omega))
  have n5_ := Aside0.mk (Kd.R_kept (by (with_reducible repeat (first | apply Kd.R_alloc | apply Kd.R_drewN | apply Kd.R_drew)); exact HO_row18.out) hk (fun k_ h1_ h2_ => by unfold Iv at h1_ h2_; have m2_ := M2.out; have m3_ := M3.out; have m4_ := M4.out; have m5_ := M5.out; have m6_ := M6.out; have m7_ := M7.out; have m9_ := M9.out; have m11_ := M11.out; omega))
  have n6_ := Aside0.mk (Kd.S_kept (by (with_reducible repeat (first | apply Kd.S_alloc | apply Kd.S_drewN | apply Kd.S_drew)); exact HO_row27.out) hk (fun k_ h1_ h2_ => by unfold Iv at h1_ h2_; have m2_ := M2.out; have m3_ := M3.out; have m4_ := M4.out; have m5_ := M5.out; have m6_ := M6.out; have m7_ := M7.out; have m9_ := M9.out; have m11_ := M11.out; omega))
  have n7_ := Aside0.mk (Kd.R_kept (by (with_reducible repeat (first | apply Kd.R_alloc | apply Kd.R_drewN | apply Kd.R_drew)); exact HO_row32.out) hk (fun k_ h1_ h2_ => by unfold Iv at h1_ h2_; have m2_ := M2.out; have m3_ := M3.out; have m4_ := M4.out; have m5_ := M5.out; have m6_ := M6.out; have m7_ := M7.out; have m9_ := M9.out; have m11_ := M11.out; omega))
  have n8_ := Aside0.mk (Nat.le_trans (by repeat (first | (with_reducible first | exact HS.out | apply sz_alloc | apply sz_drewN | apply sz_drew) | exact HS.out)) hk.1)
  have n9_ := Aside0.mk (hb)
  clear HB HS HO_row5 HO_row8 HO_row12 HO_row15 HO_row18 HO_row22 HO_row27 HO_row32 hb hk ho0
  have HO_row22 := n0_
  have HO_row5 := n1_
  have HO_row8 := n2_
  have HO_row12 := n3_
  have HO_row15 := n4_
  have HO_row18 := n5_
  have HO_row27 := n6_
  have HO_row32 := n7_
  have HS := n8_
  have HB := n9_
  clear n0_ n1_ n2_ n3_ n4_ n5_ n6_ n7_ n8_ n9_
  have LN_row22 := Aside0.mk (Kd.R_reads' HO_row22.out).1
  go_wp2_with fail
  refine calls_of_args (args' := #[.slice _ t44.length _, _]) (by rw [← LN_row22.out]) ?_
  refine (laws_heldInt64S.calls k _ _ t44 1 t46 _ (by exact (Kd.R_reads' (by (with_reducible repeat (first | apply Kd.R_alloc | apply Kd.R_drewN | apply Kd.R_drew)); exact HO_row22.out)).2.2) (by rw [← LN_row22.out]; exact (Kd.R_reads' HO_row22.out).2.1) Q47.out).mono ?_
  rintro e w17 ⟨rfl, hb⟩
  replace hb := hb.below
  have n0_ := Aside0.mk (Kd.S_below (by (with_reducible repeat (first | apply Kd.S_alloc | apply Kd.S_drewN | apply Kd.S_drew)); exact HO_row5.out) hb)
  have n1_ := Aside0.mk (Kd.R_below (by (with_reducible repeat (first | apply Kd.R_alloc | apply Kd.R_drewN | apply Kd.R_drew)); exact HO_row8.out) hb)
  have n2_ := Aside0.mk (Kd.R_below (by (with_reducible repeat (first | apply Kd.R_alloc | apply Kd.R_drewN | apply Kd.R_drew)); exact HO_row12.out) hb)
  have n3_ := Aside0.mk (Kd.S_below (by (with_reducible repeat (first | apply Kd.S_alloc | apply Kd.S_drewN | apply Kd.S_drew)); exact HO_row15.out) hb)
  have n4_ := Aside0.mk (Kd.R_below (by (with_reducible repeat (first | apply Kd.R_alloc | apply Kd.R_drewN | apply Kd.R_drew)); exact HO_row18.out) hb)
  have n5_ := Aside0.mk (Kd.R_below (by (with_reducible repeat (first | apply Kd.R_alloc | apply Kd.R_drewN | apply Kd.R_drew)); exact HO_row22.out) hb)
  have n6_ := Aside0.mk (Kd.S_below (by (with_reducible repeat (first | apply Kd.S_alloc | apply Kd.S_drewN | apply Kd.S_drew)); exact HO_row27.out) hb)
  have n7_ := Aside0.mk (Kd.R_below (by (with_reducible repeat (first | apply Kd.R_alloc | apply Kd.R_drewN | apply Kd.R_drew)); exact HO_row32.out) hb)
  have n8_ := Aside0.mk (Nat.le_trans (by repeat (first | (with_reducible first | exact HS.out | apply sz_alloc | apply sz_drewN | apply sz_drew) | exact HS.out)) hb.size)
  have n9_ := Aside0.mk (below_step (by repeat (first | (with_reducible first | exact HB.out | apply below_alloc | apply pw_below_drewN | apply below_drew1) | exact HB.out)) hb)
  clear HB HS HO_row5 HO_row8 HO_row12 HO_row15 HO_row18 HO_row22 HO_row27 HO_row32 hb
  have HO_row5 := n0_
  have HO_row8 := n1_
  have HO_row12 := n2_
  have HO_row15 := n3_
  have HO_row18 := n4_
  have HO_row22 := n5_
  have HO_row27 := n6_
  have HO_row32 := n7_
  have HS := n8_
  have HB := n9_
  clear n0_ n1_ n2_ n3_ n4_ n5_ n6_ n7_ n8_ n9_
  go_wp2_with fail
  refine (laws_toPatternS.calls k _ _ l0 t48 _ (by exact Kd.C_below HR0.out (by repeat (first | (with_reducible first | exact HB.out | apply below_alloc | apply pw_below_drewN | apply below_drew1) | exact HB.out))) HC0.out Q49.out).mono ?_
  rintro e w18 ⟨v0, rfl, ho0, hb⟩
  have n0_ := Aside0.mk (Kd.S_below (by (with_reducible repeat (first | apply Kd.S_alloc | apply Kd.S_drewN | apply Kd.S_drew)); exact HO_row5.out) hb)
  have n1_ := Aside0.mk (Kd.R_below (by (with_reducible repeat (first | apply Kd.R_alloc | apply Kd.R_drewN | apply Kd.R_drew)); exact HO_row8.out) hb)
  have n2_ := Aside0.mk (Kd.R_below (by (with_reducible repeat (first | apply Kd.R_alloc | apply Kd.R_drewN | apply Kd.R_drew)); exact HO_row12.out) hb)
  have n3_ := Aside0.mk (Kd.S_below (by (with_reducible repeat (first | apply Kd.S_alloc | apply Kd.S_drewN | apply Kd.S_drew)); exact HO_row15.out) hb)
  have n4_ := Aside0.mk (Kd.R_below (by (with_reducible repeat (first | apply Kd.R_alloc | apply Kd.R_drewN | apply Kd.R_drew)); exact HO_row18.out) hb)
  have n5_ := Aside0.mk (Kd.R_below (by (with_reducible repeat (first | apply Kd.R_alloc | apply Kd.R_drewN | apply Kd.R_drew)); exact HO_row22.out) hb)
  have n6_ := Aside0.mk (Kd.S_below (by (with_reducible repeat (first | apply Kd.S_alloc | apply Kd.S_drewN | apply Kd.S_drew)); exact HO_row27.out) hb)
  have n7_ := Aside0.mk (Kd.R_below (by (with_reducible repeat (first | apply Kd.R_alloc | apply Kd.R_drewN | apply Kd.R_drew)); exact HO_row32.out) hb)
  have n8_ := Aside0.mk (Iv_S (lo := w11.heap.size) (W := _) ho0 (below_size (by repeat (first | (with_reducible first | exact HB.out | apply below_alloc | apply pw_below_drewN | apply below_drew1) | exact HB.out))) (by repeat (first | (with_reducible first | exact HS.out | apply sz_alloc | apply sz_drewN | apply sz_drew) | exact HS.out)))
  have n9_ := Aside0.mk (Nat.le_refl w18.heap.size)
  have n10_ := Aside0.mk (Nat.le_trans (by repeat (first | (with_reducible first | exact HS.out | apply sz_alloc | apply sz_drewN | apply sz_drew) | exact HS.out)) hb.size)
  have n11_ := Aside0.mk (below_step (by repeat (first | (with_reducible first | exact HB.out | apply below_alloc | apply pw_below_drewN | apply below_drew1) | exact HB.out)) hb)
  clear HB HS HO_row5 HO_row8 HO_row12 HO_row15 HO_row18 HO_row22 HO_row27 HO_row32 hb ho0
  have HO_row5 := n0_
  have HO_row8 := n1_
  have HO_row12 := n2_
  have HO_row15 := n3_
  have HO_row18 := n4_
  have HO_row22 := n5_
  have HO_row27 := n6_
  have HO_row32 := n7_
  have HO_row50 := n8_
  have HS := n9_
  have M18 := n10_
  have HB := n11_
  clear n0_ n1_ n2_ n3_ n4_ n5_ n6_ n7_ n8_ n9_ n10_ n11_
  obtain ⟨A_row50, c_row50, rfl⟩ := Kd.S_slice HO_row50.out
  go_wp2_with fail
  refine (laws_toInt64S.calls k _ _ l1 t51 _ (by exact Kd.C_below HR1.out (by repeat (first | (with_reducible first | exact HB.out | apply below_alloc | apply pw_below_drewN | apply below_drew1) | exact HB.out))) HC1.out Q52.out).mono ?_
  rintro e w19 ⟨v0, rfl, ho0, hb⟩
  have n0_ := Aside0.mk (Kd.S_below (by (with_reducible repeat (first | apply Kd.S_alloc | apply Kd.S_drewN | apply Kd.S_drew)); exact HO_row5.out) hb)
  have n1_ := Aside0.mk (Kd.R_below (by (with_reducible repeat (first | apply Kd.R_alloc | apply Kd.R_drewN | apply Kd.R_drew)); exact HO_row8.out) hb)
  have n2_ := Aside0.mk (Kd.R_below (by (with_reducible repeat (first | apply Kd.R_alloc | apply Kd.R_drewN | apply Kd.R_drew)); exact HO_row12.out) hb)
  have n3_ := Aside0.mk (Kd.S_below (by (with_reducible repeat (first | apply Kd.S_alloc | apply Kd.S_drewN | apply Kd.S_drew)); exact HO_row15.out) hb)
  have n4_ := Aside0.mk (Kd.R_below (by (with_reducible repeat (first | apply Kd.R_alloc | apply Kd.R_drewN | apply Kd.R_drew)); exact HO_row18.out) hb)
  have n5_ := Aside0.mk (Kd.R_below (by (with_reducible repeat (first | apply Kd.R_alloc | apply Kd.R_drewN | apply Kd.R_drew)); exact HO_row22.out) hb)
  have n6_ := Aside0.mk (Kd.S_below (by (with_reducible repeat (first | apply Kd.S_alloc | apply Kd.S_drewN | apply Kd.S_drew)); exact HO_row27.out) hb)
  have n7_ := Aside0.mk (Kd.R_below (by (with_reducible repeat (first | apply Kd.R_alloc | apply Kd.R_drewN | apply Kd.R_drew)); exact HO_row32.out) hb)
  have n8_ := Aside0.mk (Kd.S_below (by (with_reducible repeat (first | apply Kd.S_alloc | apply Kd.S_drewN | apply Kd.S_drew)); exact HO_row50.out) hb)
  have n9_ := Aside0.mk (Iv_R (lo := w18.heap.size) (W := _) ho0 (below_size (by repeat (first | (with_reducible first | exact HB.out | apply below_alloc | apply pw_below_drewN | apply below_drew1) | exact HB.out))) (by repeat (first | (with_reducible first | exact HS.out | apply sz_alloc | apply sz_drewN | apply sz_drew) | exact HS.out)))
  have n10_ := Aside0.mk (Nat.le_refl w19.heap.size)
  have n11_ := Aside0.mk (Nat.le_trans (by repeat (first | (with_reducible first | exact HS.out | apply sz_alloc | apply sz_drewN | apply sz_drew) | exact HS.out)) hb.size)
  have n12_ := Aside0.mk (below_step (by repeat (first | (with_reducible first | exact HB.out | apply below_alloc | apply pw_below_drewN | apply below_drew1) | exact HB.out)) hb)
  clear HB HS HO_row5 HO_row8 HO_row12 HO_row15 HO_row18 HO_row22 HO_row27 HO_row32 HO_row50 hb ho0
  have HO_row5 := n0_
  have HO_row8 := n1_
  have HO_row12 := n2_
  have HO_row15 := n3_
  have HO_row18 := n4_
  have HO_row22 := n5_
  have HO_row27 := n6_
  have HO_row32 := n7_
  have HO_row50 := n8_
  have HO_row53 := n9_
  have HS := n10_
  have M19 := n11_
  have HB := n12_
  clear n0_ n1_ n2_ n3_ n4_ n5_ n6_ n7_ n8_ n9_ n10_ n11_ n12_
  obtain ⟨A_row53, c_row53, rfl⟩ := Kd.R_slice HO_row53.out
  go_wp2_with fail
  refine (impl_ParseMelody.calls k _ _ t48 _ _ t51 a2 t54 t55 _ (by exact (Kd.S_reads' (by (with_reducible repeat (first | apply Kd.S_alloc | apply Kd.S_drewN | apply Kd.S_drew)); exact HO_row50.out)).2.2) (by exact (Kd.S_reads' HO_row50.out).2.1) (by exact (Kd.R_reads' (by (with_reducible repeat (first | apply Kd.R_alloc | apply Kd.R_drewN | apply Kd.R_drew)); exact HO_row53.out)).2.2) (by exact (Kd.R_reads' HO_row53.out).2.1) Q56.out).mono ?_
  rintro e w20 ⟨v0, rfl, ho0, hb⟩
  have n0_ := Aside0.mk (Kd.S_below (by (with_reducible repeat (first | apply Kd.S_alloc | apply Kd.S_drewN | apply Kd.S_drew)); exact HO_row5.out) hb)
  have n1_ := Aside0.mk (Kd.R_below (by (with_reducible repeat (first | apply Kd.R_alloc | apply Kd.R_drewN | apply Kd.R_drew)); exact HO_row8.out) hb)
  have n2_ := Aside0.mk (Kd.R_below (by (with_reducible repeat (first | apply Kd.R_alloc | apply Kd.R_drewN | apply Kd.R_drew)); exact HO_row12.out) hb)
  have n3_ := Aside0.mk (Kd.S_below (by (with_reducible repeat (first | apply Kd.S_alloc | apply Kd.S_drewN | apply Kd.S_drew)); exact HO_row15.out) hb)
  have n4_ := Aside0.mk (Kd.R_below (by (with_reducible repeat (first | apply Kd.R_alloc | apply Kd.R_drewN | apply Kd.R_drew)); exact HO_row18.out) hb)
  have n5_ := Aside0.mk (Kd.R_below (by (with_reducible repeat (first | apply Kd.R_alloc | apply Kd.R_drewN | apply Kd.R_drew)); exact HO_row22.out) hb)
  have n6_ := Aside0.mk (Kd.S_below (by (with_reducible repeat (first | apply Kd.S_alloc | apply Kd.S_drewN | apply Kd.S_drew)); exact HO_row27.out) hb)
  have n7_ := Aside0.mk (Kd.R_below (by (with_reducible repeat (first | apply Kd.R_alloc | apply Kd.R_drewN | apply Kd.R_drew)); exact HO_row32.out) hb)
  have n8_ := Aside0.mk (Kd.S_below (by (with_reducible repeat (first | apply Kd.S_alloc | apply Kd.S_drewN | apply Kd.S_drew)); exact HO_row50.out) hb)
  have n9_ := Aside0.mk (Kd.R_below (by (with_reducible repeat (first | apply Kd.R_alloc | apply Kd.R_drewN | apply Kd.R_drew)); exact HO_row53.out) hb)
  have n10_ := Aside0.mk (Iv_R (lo := w19.heap.size) (W := _) ho0 (below_size (by repeat (first | (with_reducible first | exact HB.out | apply below_alloc | apply pw_below_drewN | apply below_drew1) | exact HB.out))) (by repeat (first | (with_reducible first | exact HS.out | apply sz_alloc | apply sz_drewN | apply sz_drew) | exact HS.out)))
  have n11_ := Aside0.mk (Nat.le_refl w20.heap.size)
  have n12_ := Aside0.mk (Nat.le_trans (by repeat (first | (with_reducible first | exact HS.out | apply sz_alloc | apply sz_drewN | apply sz_drew) | exact HS.out)) hb.size)
  have n13_ := Aside0.mk (below_step (by repeat (first | (with_reducible first | exact HB.out | apply below_alloc | apply pw_below_drewN | apply below_drew1) | exact HB.out)) hb)
  clear HB HS HO_row5 HO_row8 HO_row12 HO_row15 HO_row18 HO_row22 HO_row27 HO_row32 HO_row50 HO_row53 hb ho0
  have HO_row5 := n0_
  have HO_row8 := n1_
  have HO_row12 := n2_
  have HO_row15 := n3_
  have HO_row18 := n4_
  have HO_row22 := n5_
  have HO_row27 := n6_
  have HO_row32 := n7_
  have HO_row50 := n8_
  have HO_row53 := n9_
  have HO_row57 := n10_
  have HS := n11_
  have M20 := n12_
  have HB := n13_
  clear n0_ n1_ n2_ n3_ n4_ n5_ n6_ n7_ n8_ n9_ n10_ n11_ n12_ n13_
  obtain ⟨A_row57, c_row57, rfl⟩ := Kd.R_slice HO_row57.out
  go_wp2_with fail
  refine (laws_eqInt64S.calls k _ _ t54 _ _ t9 true _ (by exact (Kd.R_reads' (by (with_reducible repeat (first | apply Kd.R_alloc | apply Kd.R_drewN | apply Kd.R_drew)); exact HO_row57.out)).2.2) (by exact (Kd.R_reads' HO_row57.out).2.1) (by exact (Kd.R_reads' (by (with_reducible repeat (first | apply Kd.R_alloc | apply Kd.R_drewN | apply Kd.R_drew)); exact HO_row12.out)).2.2) (by exact (Kd.R_reads' HO_row12.out).2.1) Q59.out).mono ?_
  rintro e w21 ⟨rfl, hb⟩
  replace hb := hb.below
  have n0_ := Aside0.mk (Kd.S_below (by (with_reducible repeat (first | apply Kd.S_alloc | apply Kd.S_drewN | apply Kd.S_drew)); exact HO_row5.out) hb)
  have n1_ := Aside0.mk (Kd.R_below (by (with_reducible repeat (first | apply Kd.R_alloc | apply Kd.R_drewN | apply Kd.R_drew)); exact HO_row8.out) hb)
  have n2_ := Aside0.mk (Kd.R_below (by (with_reducible repeat (first | apply Kd.R_alloc | apply Kd.R_drewN | apply Kd.R_drew)); exact HO_row12.out) hb)
  have n3_ := Aside0.mk (Kd.S_below (by (with_reducible repeat (first | apply Kd.S_alloc | apply Kd.S_drewN | apply Kd.S_drew)); exact HO_row15.out) hb)
  have n4_ := Aside0.mk (Kd.R_below (by (with_reducible repeat (first | apply Kd.R_alloc | apply Kd.R_drewN | apply Kd.R_drew)); exact HO_row18.out) hb)
  have n5_ := Aside0.mk (Kd.R_below (by (with_reducible repeat (first | apply Kd.R_alloc | apply Kd.R_drewN | apply Kd.R_drew)); exact HO_row22.out) hb)
  have n6_ := Aside0.mk (Kd.S_below (by (with_reducible repeat (first | apply Kd.S_alloc | apply Kd.S_drewN | apply Kd.S_drew)); exact HO_row27.out) hb)
  have n7_ := Aside0.mk (Kd.R_below (by (with_reducible repeat (first | apply Kd.R_alloc | apply Kd.R_drewN | apply Kd.R_drew)); exact HO_row32.out) hb)
  have n8_ := Aside0.mk (Kd.S_below (by (with_reducible repeat (first | apply Kd.S_alloc | apply Kd.S_drewN | apply Kd.S_drew)); exact HO_row50.out) hb)
  have n9_ := Aside0.mk (Kd.R_below (by (with_reducible repeat (first | apply Kd.R_alloc | apply Kd.R_drewN | apply Kd.R_drew)); exact HO_row53.out) hb)
  have n10_ := Aside0.mk (Kd.R_below (by (with_reducible repeat (first | apply Kd.R_alloc | apply Kd.R_drewN | apply Kd.R_drew)); exact HO_row57.out) hb)
  have n11_ := Aside0.mk (Nat.le_trans (by repeat (first | (with_reducible first | exact HS.out | apply sz_alloc | apply sz_drewN | apply sz_drew) | exact HS.out)) hb.size)
  have n12_ := Aside0.mk (below_step (by repeat (first | (with_reducible first | exact HB.out | apply below_alloc | apply pw_below_drewN | apply below_drew1) | exact HB.out)) hb)
  clear HB HS HO_row5 HO_row8 HO_row12 HO_row15 HO_row18 HO_row22 HO_row27 HO_row32 HO_row50 HO_row53 HO_row57 hb
  have HO_row5 := n0_
  have HO_row8 := n1_
  have HO_row12 := n2_
  have HO_row15 := n3_
  have HO_row18 := n4_
  have HO_row22 := n5_
  have HO_row27 := n6_
  have HO_row32 := n7_
  have HO_row50 := n8_
  have HO_row53 := n9_
  have HO_row57 := n10_
  have HS := n11_
  have HB := n12_
  clear n0_ n1_ n2_ n3_ n4_ n5_ n6_ n7_ n8_ n9_ n10_ n11_ n12_
  go_wp2_with fail
  refine calls_of_args (args' := #[.slice _ t44.length _, _]) (by rw [← LN_row22.out]) ?_
  refine (laws_heldInt64S.calls k _ _ t44 1 t60 _ (by exact (Kd.R_reads' (by (with_reducible repeat (first | apply Kd.R_alloc | apply Kd.R_drewN | apply Kd.R_drew)); exact HO_row22.out)).2.2) (by rw [← LN_row22.out]; exact (Kd.R_reads' HO_row22.out).2.1) Q61.out).mono ?_
  rintro e w22 ⟨rfl, hb⟩
  replace hb := hb.below
  have n0_ := Aside0.mk (Kd.S_below (by (with_reducible repeat (first | apply Kd.S_alloc | apply Kd.S_drewN | apply Kd.S_drew)); exact HO_row5.out) hb)
  have n1_ := Aside0.mk (Kd.R_below (by (with_reducible repeat (first | apply Kd.R_alloc | apply Kd.R_drewN | apply Kd.R_drew)); exact HO_row8.out) hb)
  have n2_ := Aside0.mk (Kd.R_below (by (with_reducible repeat (first | apply Kd.R_alloc | apply Kd.R_drewN | apply Kd.R_drew)); exact HO_row12.out) hb)
  have n3_ := Aside0.mk (Kd.S_below (by (with_reducible repeat (first | apply Kd.S_alloc | apply Kd.S_drewN | apply Kd.S_drew)); exact HO_row15.out) hb)
  have n4_ := Aside0.mk (Kd.R_below (by (with_reducible repeat (first | apply Kd.R_alloc | apply Kd.R_drewN | apply Kd.R_drew)); exact HO_row18.out) hb)
  have n5_ := Aside0.mk (Kd.R_below (by (with_reducible repeat (first | apply Kd.R_alloc | apply Kd.R_drewN | apply Kd.R_drew)); exact HO_row22.out) hb)
  have n6_ := Aside0.mk (Kd.S_below (by (with_reducible repeat (first | apply Kd.S_alloc | apply Kd.S_drewN | apply Kd.S_drew)); exact HO_row27.out) hb)
  have n7_ := Aside0.mk (Kd.R_below (by (with_reducible repeat (first | apply Kd.R_alloc | apply Kd.R_drewN | apply Kd.R_drew)); exact HO_row32.out) hb)
  have n8_ := Aside0.mk (Kd.S_below (by (with_reducible repeat (first | apply Kd.S_alloc | apply Kd.S_drewN | apply Kd.S_drew)); exact HO_row50.out) hb)
  have n9_ := Aside0.mk (Kd.R_below (by (with_reducible repeat (first | apply Kd.R_alloc | apply Kd.R_drewN | apply Kd.R_drew)); exact HO_row53.out) hb)
  have n10_ := Aside0.mk (Kd.R_below (by (with_reducible repeat (first | apply Kd.R_alloc | apply Kd.R_drewN | apply Kd.R_drew)); exact HO_row57.out) hb)
  have n11_ := Aside0.mk (Nat.le_trans (by repeat (first | (with_reducible first | exact HS.out | apply sz_alloc | apply sz_drewN | apply sz_drew) | exact HS.out)) hb.size)
  have n12_ := Aside0.mk (below_step (by repeat (first | (with_reducible first | exact HB.out | apply below_alloc | apply pw_below_drewN | apply below_drew1) | exact HB.out)) hb)
  clear HB HS HO_row5 HO_row8 HO_row12 HO_row15 HO_row18 HO_row22 HO_row27 HO_row32 HO_row50 HO_row53 HO_row57 hb
  have HO_row5 := n0_
  have HO_row8 := n1_
  have HO_row12 := n2_
  have HO_row15 := n3_
  have HO_row18 := n4_
  have HO_row22 := n5_
  have HO_row27 := n6_
  have HO_row32 := n7_
  have HO_row50 := n8_
  have HO_row53 := n9_
  have HO_row57 := n10_
  have HS := n11_
  have HB := n12_
  clear n0_ n1_ n2_ n3_ n4_ n5_ n6_ n7_ n8_ n9_ n10_ n11_ n12_
  go_wp2_with fail
  go_ret
  exact ⟨rfl, (by repeat (first | (with_reducible first | exact HB.out | apply below_alloc | apply pw_below_drewN | apply below_drew1) | exact HB.out))⟩
theorem laws_FnExactParseMelody.calls (k : Nat) (A0 : Option Addr) (c0 : Nat) (l0 : List S46) (A1 : Option Addr) (c1 : Nat) (l1 : List Int) (a2 : Int) (r : Bool) (w : World) (hr0 : Kd.C k46 w A0 l0.length l0) (hc0 : l0.length ≤ c0) (hr1 : Kd.C (Kd.int .i64) w A1 l1.length l1) (hc1 : l1.length ≤ c1) (h : laws_FnExactParseMelody.f k l0 l1 a2 = some r) :
    Calls Try.prog 9 #[.slice A0 l0.length c0, .slice A1 l1.length c1, .int .i64 a2] w fun e w' => e = .returned (.bool r) ∧ Below w.heap.size w w' := by
  unfold laws_FnExactParseMelody.f at h
  by_cases e0 : (l1.length : Int) > 1048576
  · rw [if_pos e0] at h; obtain rfl := Option.some.inj h; exact laws_FnExactParseMelody.early0 k A0 c0 l0 A1 c1 l1 a2 w hr0 hc0 hr1 hc1   e0
  rw [if_neg e0] at h
  obtain ⟨t1, Q2, h⟩ := Option.bind_eq_some_iff.mp h
  by_cases e2 : t1 < 0
  · rw [if_pos e2] at h; obtain rfl := Option.some.inj h; exact laws_FnExactParseMelody.early1 k A0 c0 l0 A1 c1 l1 a2 w hr0 hc0 hr1 hc1 t1 e0 ⟨Q2⟩ e2
  rw [if_neg e2] at h
  unfold laws_FnExactParseMelody.g at h
  obtain ⟨t3, Q4, h⟩ := Option.bind_eq_some_iff.mp h
  obtain ⟨t6, Q7, h⟩ := Option.bind_eq_some_iff.mp h
  obtain ⟨⟨t9, t10⟩, Q11, h⟩ := Option.bind_eq_some_iff.mp h
  dsimp only at h
  obtain ⟨t13, Q14, h⟩ := Option.bind_eq_some_iff.mp h
  obtain ⟨t16, Q17, h⟩ := Option.bind_eq_some_iff.mp h
  obtain ⟨⟨t19, t20⟩, Q21, h⟩ := Option.bind_eq_some_iff.mp h
  dsimp only at h
  by_cases Q24 : laws_eqInt64S.f k t19 t9 = some true
  rotate_left
  · rw [if_neg Q24] at h; exact absurd h (by simp)
  rw [if_pos Q24] at h
  by_cases e10 : t20 = t10
  rotate_left
  · rw [if_neg e10] at h; exact absurd h (by simp)
  rw [if_pos e10] at h
  obtain ⟨t25, Q26, h⟩ := Option.bind_eq_some_iff.mp h
  by_cases Q29 : laws_eqPatternS.f k t13 t25 = some true
  rotate_left
  · rw [if_neg Q29] at h; exact absurd h (by simp)
  rw [if_pos Q29] at h
  obtain ⟨t30, Q31, h⟩ := Option.bind_eq_some_iff.mp h
  by_cases Q34 : laws_eqInt64S.f k t16 t30 = some true
  rotate_left
  · rw [if_neg Q34] at h; exact absurd h (by simp)
  rw [if_pos Q34] at h
  obtain ⟨⟨t35, t36⟩, Q37, h⟩ := Option.bind_eq_some_iff.mp h
  dsimp only at h
  obtain ⟨⟨t38, t39⟩, Q40, h⟩ := Option.bind_eq_some_iff.mp h
  dsimp only at h
  by_cases e17 : t38 < 0
  · rw [if_pos e17] at h; exact absurd h (by simp)
  rw [if_neg e17] at h
  by_cases Q42 : laws_eqInt64S.f k t19 t9 = some true
  rotate_left
  · rw [if_neg Q42] at h; exact absurd h (by simp)
  rw [if_pos Q42] at h
  by_cases e19 : t20 = t10
  rotate_left
  · rw [if_neg e19] at h; exact absurd h (by simp)
  rw [if_pos e19] at h
  obtain ⟨⟨t43, t44⟩, Q45, h⟩ := Option.bind_eq_some_iff.mp h
  dsimp only at h
  obtain ⟨t46, Q47, h⟩ := Option.bind_eq_some_iff.mp h
  by_cases e22 : t46 < 0
  · rw [if_pos e22] at h; exact absurd h (by simp)
  rw [if_neg e22] at h
  by_cases e23 : t46 = t43
  rotate_left
  · rw [if_neg e23] at h; exact absurd h (by simp)
  rw [if_pos e23] at h
  obtain ⟨t48, Q49, h⟩ := Option.bind_eq_some_iff.mp h
  obtain ⟨t51, Q52, h⟩ := Option.bind_eq_some_iff.mp h
  obtain ⟨⟨t54, t55⟩, Q56, h⟩ := Option.bind_eq_some_iff.mp h
  dsimp only at h
  by_cases Q59 : laws_eqInt64S.f k t54 t9 = some true
  rotate_left
  · rw [if_neg Q59] at h; exact absurd h (by simp)
  rw [if_pos Q59] at h
  by_cases e28 : t55 = t10
  rotate_left
  · rw [if_neg e28] at h; exact absurd h (by simp)
  rw [if_pos e28] at h
  obtain ⟨t60, Q61, h⟩ := Option.bind_eq_some_iff.mp h
  by_cases e30 : t60 < 0
  · rw [if_pos e30] at h; exact absurd h (by simp)
  rw [if_neg e30] at h
  by_cases e31 : t60 = t43
  rotate_left
  · rw [if_neg e31] at h; exact absurd h (by simp)
  rw [if_pos e31] at h
  obtain rfl := Option.some.inj h
  exact laws_FnExactParseMelody.main k A0 c0 l0 A1 c1 l1 a2 w hr0 hc0 hr1 hc1 t1 t3 t6 t9 t10 t13 t16 t19 t20 t25 t30 t35 t36 t38 t39 t43 t44 t46 t48 t51 t54 t55 t60 e0 ⟨Q2⟩ e2 ⟨Q4⟩ ⟨Q7⟩ ⟨Q11⟩ ⟨Q14⟩ ⟨Q17⟩ ⟨Q21⟩ ⟨Q24⟩ e10 ⟨Q26⟩ ⟨Q29⟩ ⟨Q31⟩ ⟨Q34⟩ ⟨Q37⟩ ⟨Q40⟩ e17 ⟨Q42⟩ e19 ⟨Q45⟩ ⟨Q47⟩ e22 e23 ⟨Q49⟩ ⟨Q52⟩ ⟨Q56⟩ ⟨Q59⟩ e28 ⟨Q61⟩ e30 e31

end Go.Proofs.Ytihphgiopjiohaa.P

/- What an argument reads as: from the claim's own reading of data to the kinds of the walks. Types of whole numbers, bools, strings, slices and structs of these. -/
namespace Go.Proofs.YtihphgiopjiohaaO
open Go.RowKit Go.WideShapes Go.Proofs.YtihphgiopjiohaaW.PrintWords

theorem addr_add_add (a : Addr) (m i : Nat) : (a.add m).add i = a.add (m + i) := by
  unfold Addr.add
  by_cases h1 : m = 0
  · subst h1; simp
  · by_cases h2 : i = 0
    · subst h2; simp [h1]
    · have h3 : ¬ (m + i = 0) := by omega
      simp [h1, h2, Nat.add_assoc]

/-- Whatever the claim reads at this type is a value of this kind, of which G holds. -/
def Opens {α : Type} (P : Program) (t : TypeId) (d : Kd α) (G : α → Prop) : Prop :=
  ∀ (H : Type) (enc : TypeId × Value → H) (w : World) (base : Nat) (spare : Nat → Bool) (held : Bool) (fuel : Nat) (cs : List Value) (x : DataW H × List MemPlace),
    DataW.trod enc P w base spare held fuel t cs = some x → ∃ a : α, d.K w a cs ∧ G a

section
variable {α β : Type} {P : Program} {t e : TypeId} {d : Kd α} {G : α → Prop}

theorem opens_int {k : IntKind} (ht : P.underlying t = some (.int k)) : Opens P t (Kd.int k) (fun n => (Lit.int k n).wf = true) := by
  intro H enc w base spare held fuel cs x h
  obtain ⟨n, rfl, _, hw⟩ := DataW.trod_int ht h
  exact ⟨n, rfl, hw⟩
theorem opens_bool (ht : P.underlying t = some .bool) : Opens P t Kd.bool (fun _ => True) := by
  intro H enc w base spare held fuel cs x h
  obtain ⟨n, rfl, _⟩ := DataW.trod_bool ht h
  exact ⟨n, rfl, trivial⟩
theorem opens_string (ht : P.underlying t = some .string) : Opens P t Kd.string (fun s => s.size ≤ maxLen) := by
  intro H enc w base spare held fuel cs x h
  obtain ⟨n, rfl, _, hs⟩ := DataW.trod_string ht h
  exact ⟨n, rfl, hs⟩

theorem list_of_each {p : Nat → α → Prop} : ∀ n : Nat, (∀ i, i < n → ∃ a, p i a) → ∃ l : List α, l.length = n ∧ ∀ i a, l[i]? = some a → p i a
  | 0, _ => ⟨[], rfl, fun i a h => by simp at h⟩
  | n + 1, h => by
    obtain ⟨l, hl, hp⟩ := list_of_each n (fun i hi => h i (by omega))
    obtain ⟨a, ha⟩ := h n (by omega)
    refine ⟨l ++ [a], by simp [hl], fun i b hb => ?_⟩
    by_cases hi : i < l.length
    · rw [List.getElem?_append_left hi] at hb
      exact hp i b hb
    · rw [List.getElem?_append_right (by omega)] at hb
      have h0 : i - l.length = 0 := by
        have := (List.getElem?_eq_some_iff.1 hb).1
        simp at this
        omega
      rw [h0] at hb
      have hi2 : i = n := by omega
      subst hi2
      simp at hb
      subst hb
      exact ha

theorem opens_slice (ht : P.underlying t = some (.slice e)) (hc : P.cellsOf e = d.sz) (hd : Opens P e d G) : Opens P t (Kd.slice e d) (fun l => l.length ≤ maxLen ∧ ∀ x ∈ l, G x) := by
  intro H enc w base spare held fuel cs x h
  rcases DataW.trod_slice ht h with ⟨rfl, _⟩ | ⟨a, len, cap, elems, rest, n, _, rfl, _, hb, hl, hm, hlen, hel, _, _⟩
  · exact ⟨[], ⟨none, 0, rfl, Nat.le_refl _, rfl, by simp, fun hp => by simp at hp⟩, by simp, by simp⟩
  · have each : ∀ i, i < len → ∃ x : α, G x ∧ ∃ c, c.length = d.sz ∧ d.K w x c ∧ ∀ j u, c[j]? = some u → w.cell? (a.add (i * d.sz + j)) = some u := by
      intro i hi
      have h1 := hel i hi
      have h2 : ∃ y, elems[i]? = some y := ⟨elems[i]'(by omega), List.getElem?_eq_getElem (by omega)⟩
      obtain ⟨y, hy⟩ := h2
      rw [hy, Option.bind_eq_some_iff] at h1
      obtain ⟨c, hcs, hy'⟩ := h1
      obtain ⟨x, hK, hG⟩ := hd H enc w base spare held n c y hy'
      refine ⟨x, hG, c, d.K_len hK, hK, fun j u hu => ?_⟩
      have hx := World.cells?_some hcs
      have hj : j < P.cellsOf e := by
        have := (List.getElem?_eq_some_iff.1 hu).1
        have := hx.2.1
        omega
      have hz := hx.2.2 j hj
      rw [addr_add_add, hc, hu] at hz
      exact hz
    obtain ⟨l, hll, hp⟩ := list_of_each len each
    refine ⟨l, ⟨some a, cap, by rw [hll], by omega, rfl, by simp only [maxLen] at hm; omega, fun _ => ⟨a, rfl, fun j p hj => ?_⟩⟩, by simp only [maxLen] at hm ⊢; omega, fun x hx => ?_⟩
    · exact (hp j p hj).2
    · obtain ⟨i, hi, hi2⟩ := List.getElem_of_mem hx
      exact (hp i x (by rw [List.getElem?_eq_getElem hi, hi2])).1

def OpensFs {α : Type} (P : Program) (fs : List Field) (o : Nat) (d : Kd α) (G : α → Prop) : Prop :=
  ∀ (H : Type) (enc : TypeId × Value → H) (w : World) (base : Nat) (spare : Nat → Bool) (held : Bool) (fuel : Nat) (cs : List Value),
    cs.length = o + d.sz → (∀ (i : Nat) (f : Field), fs[i]? = some f → ∃ x, DataW.trod enc P w base spare held fuel f.type ((cs.drop f.offset).take (P.cellsOf f.type)) = some x) → ∃ a : α, d.K w a (cs.drop o) ∧ G a
theorem opensFs_last {f : Field} {o : Nat} (ho : f.offset = o) (hc : P.cellsOf f.type = d.sz) (h : Opens P f.type d G) : OpensFs P [f] o d G := by
  intro H enc w base spare held fuel cs hl hx
  obtain ⟨x, hx⟩ := hx 0 f rfl
  rw [ho, hc, List.take_of_length_le (by rw [List.length_drop]; omega)] at hx
  exact h H enc w base spare held fuel _ x hx
theorem opensFs_cons {f : Field} {fs : List Field} {o : Nat} {d2 : Kd β} {G2 : β → Prop} (ho : f.offset = o) (hc : P.cellsOf f.type = d.sz) (h : Opens P f.type d G) (h2 : OpensFs P fs (o + d.sz) d2 G2) :
    OpensFs P (f :: fs) o (Kd.pair d d2) (fun x => G x.1 ∧ G2 x.2) := by
  intro H enc w base spare held fuel cs hl hx
  have hl' : cs.length = o + (d.sz + d2.sz) := hl
  obtain ⟨x, hx0⟩ := hx 0 f rfl
  rw [ho, hc] at hx0
  obtain ⟨a, hK, hG⟩ := h H enc w base spare held fuel _ x hx0
  obtain ⟨b, hK2, hG2⟩ := h2 H enc w base spare held fuel cs (by omega) (fun i f2 hf => hx (i + 1) f2 (by simpa using hf))
  refine ⟨(a, b), ⟨_, _, ?_, hK, hK2⟩, hG, hG2⟩
  rw [← List.drop_drop]
  exact (List.take_append_drop d.sz (cs.drop o)).symm
theorem opens_struct {fs : Array Field} (ht : P.underlying t = some (.struct fs)) (hc : P.cellsOf t = d.sz) (h : OpensFs P fs.toList 0 d G) : Opens P t d G := by
  intro H enc w base spare held fuel cs x hx
  obtain ⟨xs, n, _, _, hl, hxl, hf⟩ := DataW.trod_struct ht hx
  have := h H enc w base spare held n cs (by omega) (fun i f hif => by
    have hif' : fs[i]? = some f := by simpa using hif
    have hi : i < xs.length := by
      rw [hxl]
      exact (Array.getElem?_eq_some_iff.1 hif').1
    exact ⟨xs[i], by rw [hf i f hif', List.getElem?_eq_getElem hi]⟩)
  simpa using this
theorem opens_iso (f : β → α) (g : α → β) (hfg : ∀ a, f (g a) = a) (h : Opens P t d G) : Opens P t (Kd.iso d f) (fun b => G (f b)) := by
  intro H enc w base spare held fuel cs x hx
  obtain ⟨a, hK, hG⟩ := h H enc w base spare held fuel cs x hx
  exact ⟨g a, by show d.K w (f (g a)) cs; rw [hfg]; exact hK, by show G (f (g a)); rw [hfg]; exact hG⟩
theorem opens_imp {G' : α → Prop} (h : Opens P t d G) (hG : ∀ a, G a → G' a) : Opens P t d G' := by
  intro H enc w base spare held fuel cs x hx
  obtain ⟨a, hK, hg⟩ := h H enc w base spare held fuel cs x hx
  exact ⟨a, hK, hG a hg⟩
end
end Go.Proofs.YtihphgiopjiohaaO

/- What the arguments of the laws read as: struct by struct. -/
namespace Go.Proofs.Ytihphgiopjiohaa
open Go.RowKit Go.Proofs.YtihphgiopjiohaaO Go.Proofs.YtihphgiopjiohaaW.PrintWords
def g46 (x : P.S46) : Prop := (x.f0.length ≤ maxLen ∧ ∀ y ∈ x.f0, (Lit.int .i64 y).wf = true) ∧ (Lit.int .i64 x.f1).wf = true
theorem open46 : Opens Try.prog 46 P.k46 g46 :=
  opens_iso (fun x : P.S46 => (x.f0, x.f1)) (fun a => ⟨a.1, a.2⟩) (fun _ => rfl) (opens_struct Try.underlying46 (by kernel_rfl) (opensFs_cons (by rfl) (by kernel_rfl) (opens_slice Try.underlying29 (by kernel_rfl) (opens_int Try.underlying2)) (opensFs_last (by rfl) (by kernel_rfl) (opens_int Try.underlying2))))
end Go.Proofs.Ytihphgiopjiohaa

/- Plain lemmas: loops over lists as the print writes them. No program in sight. -/
namespace Go.Proofs.YtihphgiopjiohaaL
open Go.RowKit Go.Proofs.YtihphgiopjiohaaW.PrintWords

theorem wrap_id {x : Int} (h0 : -9223372036854775808 ≤ x) (h1 : x ≤ 9223372036854775807) : wrap64 x = x := by unfold wrap64; omega
theorem wrap_succ {i n : Nat} (h : i < n) (hn : n ≤ 4611686018427387904) : wrap64 ((i : Int) + 1) = ((i + 1 : Nat) : Int) := by
  rw [wrap_id (by omega) (by omega)]; omega
theorem lt_cast {i n : Nat} (h : i < n) : (i : Int) < (n : Int) := by omega
theorem nn_cast (i : Nat) : 0 ≤ (i : Int) := by omega
theorem nlt_cast (n : Nat) : ¬ ((n : Int) < (n : Int)) := by omega
theorem drop_cons {α : Type} {l : List α} {i : Nat} (h : i < l.length) : l.drop i = l[i] :: l.drop (i + 1) := List.drop_eq_getElem_cons h

/-- A loop over a list: at each element it answers, or it goes on behind it. G: what it answers from a rest on. -/
theorem list_loop {α σ ρ : Type} (L : Nat → σ → Int → Option ρ) (l : List α) (G : List α → σ → ρ) (Inv : Nat → σ → Prop) (B : Nat)
    (step : ∀ (k i : Nat) (hi : i < l.length) (s : σ), Inv i s → B ≤ k →
      L (k + 1) s (i : Int) = some (G (l[i] :: l.drop (i + 1)) s) ∨ ∃ s', Inv (i + 1) s' ∧ G (l[i] :: l.drop (i + 1)) s = G (l.drop (i + 1)) s' ∧ L (k + 1) s (i : Int) = L k s' ((i + 1 : Nat) : Int))
    (stop : ∀ (k : Nat) (s : σ), Inv l.length s → L (k + 1) s (l.length : Int) = some (G [] s)) :
    ∀ (k : Nat) (s : σ), B + l.length < k → Inv 0 s → L k s 0 = some (G l s) := by
  have main : ∀ (d k i : Nat) (s : σ), i + d = l.length → B + d < k → Inv i s → L k s (i : Int) = some (G (l.drop i) s) := by
    intro d
    induction d with
    | zero =>
      intro k i s hi hk hI
      obtain ⟨k, rfl⟩ : ∃ m, k = m + 1 := ⟨k - 1, by omega⟩
      have : i = l.length := by omega
      subst this
      rw [stop k s hI, List.drop_length]
    | succ d ih =>
      intro k i s hi hk hI
      obtain ⟨k, rfl⟩ : ∃ m, k = m + 1 := ⟨k - 1, by omega⟩
      have hlt : i < l.length := by omega
      rw [drop_cons hlt]
      rcases step k i hlt s hI (by omega) with h | ⟨s', hI', hG, hL⟩
      · exact h
      · rw [hL, hG]
        exact ih k (i + 1) s' (by omega) (by omega) hI'
  intro k s hk hI
  have := main l.length k 0 s (by omega) hk hI
  simpa using this

/-- The same without a state. -/
theorem list_loop0 {α ρ : Type} (L : Nat → Int → Option ρ) (l : List α) (G : List α → ρ) (B : Nat)
    (step : ∀ (k i : Nat) (hi : i < l.length), B ≤ k →
      L (k + 1) (i : Int) = some (G (l[i] :: l.drop (i + 1))) ∨ (G (l[i] :: l.drop (i + 1)) = G (l.drop (i + 1)) ∧ L (k + 1) (i : Int) = L k ((i + 1 : Nat) : Int)))
    (stop : ∀ (k : Nat), L (k + 1) (l.length : Int) = some (G [])) :
    ∀ (k : Nat), B + l.length < k → L k 0 = some (G l) := by
  intro k hk
  exact list_loop (σ := Unit) (fun k _ i => L k i) l (fun l _ => G l) (fun _ _ => True) B (fun k i hi s _ hB => by
    rcases step k i hi hB with h | ⟨h1, h2⟩
    · exact .inl h
    · exact .inr ⟨(), trivial, h1, h2⟩) (fun k _ _ => stop k) k () hk trivial

/-- A loop that fills a list that was made, place by place. -/
theorem set_loop {α β : Type} (L : Nat → List β → Int → Option (List β)) (l : List α) (g : α → β) (B : Nat)
    (step : ∀ (k i : Nat) (hi : i < l.length) (acc : List β), acc.length = l.length → B ≤ k → L (k + 1) acc (i : Int) = L k (acc.set i (g l[i])) ((i + 1 : Nat) : Int))
    (stop : ∀ (k : Nat) (acc : List β), L (k + 1) acc (l.length : Int) = some acc) :
    ∀ (k : Nat) (acc : List β), B + l.length < k → acc.length = l.length → L k acc 0 = some (l.map g) := by
  have main : ∀ (d k i : Nat) (acc : List β), i + d = l.length → B + d < k → acc.length = l.length → L k acc (i : Int) = some (acc.take i ++ (l.drop i).map g) := by
    intro d
    induction d with
    | zero =>
      intro k i acc hi hk ha
      obtain ⟨k, rfl⟩ : ∃ m, k = m + 1 := ⟨k - 1, by omega⟩
      have : i = l.length := by omega
      subst this
      rw [stop k acc, List.drop_length, List.take_of_length_le (by omega)]
      simp
    | succ d ih =>
      intro k i acc hi hk ha
      obtain ⟨k, rfl⟩ : ∃ m, k = m + 1 := ⟨k - 1, by omega⟩
      have hlt : i < l.length := by omega
      rw [step k i hlt acc ha (by omega), ih k (i + 1) _ (by omega) (by omega) (by simpa using ha), drop_cons hlt]
      have h2 : (acc.set i (g l[i])).take (i + 1) = acc.take i ++ [g l[i]] := by
        rw [List.take_succ_eq_append_getElem (by simp; omega)]
        have h3 : (acc.set i (g l[i])).take i = acc.take i := by
          apply List.ext_getElem
          · simp
          · intro j h1 h2
            simp at h1
            simp [List.getElem_set_ne (show i ≠ j by omega)]
        rw [h3]
        simp
      rw [h2]
      simp only [List.append_assoc, List.singleton_append, List.map_cons]
  intro k acc hk ha
  have := main l.length k 0 acc (by omega) hk ha
  simpa using this

/-- A loop that compares two lists of one length, place by place. -/
theorem eq_loop {α : Type} [DecidableEq α] (L : Nat → Int → Option Bool) (a b : List α) (hab : a.length = b.length) (B : Nat)
    (step : ∀ (k i : Nat) (h : i < a.length) (h2 : i < b.length), B ≤ k → L (k + 1) (i : Int) = if a[i] = b[i] then L k ((i + 1 : Nat) : Int) else some false)
    (stop : ∀ (k : Nat), L (k + 1) (a.length : Int) = some true) :
    ∀ (k : Nat), B + a.length < k → L k 0 = some (decide (a = b)) := by
  have main : ∀ (d k i : Nat), i + d = a.length → B + d < k → L k (i : Int) = some (decide (a.drop i = b.drop i)) := by
    intro d
    induction d with
    | zero =>
      intro k i hi hk
      obtain ⟨k, rfl⟩ : ∃ m, k = m + 1 := ⟨k - 1, by omega⟩
      obtain rfl : i = a.length := by omega
      rw [stop k, List.drop_length, hab, List.drop_length]
      rfl
    | succ d ih =>
      intro k i hi hk
      obtain ⟨k, rfl⟩ : ∃ m, k = m + 1 := ⟨k - 1, by omega⟩
      have h1 : i < a.length := by omega
      have h2 : i < b.length := by omega
      rw [step k i h1 h2 (by omega), ih k (i + 1) (by omega) (by omega)]
      rw [show (decide (a.drop i = b.drop i)) = decide (a[i] = b[i] ∧ a.drop (i + 1) = b.drop (i + 1)) from by
        congr 1; rw [drop_cons h1, drop_cons h2, List.cons.injEq]]
      by_cases e : a[i] = b[i]
      · rw [if_pos e]; simp [e]
      · rw [if_neg e]; simp [e]
  intro k hk
  have := main a.length k 0 (by omega) hk
  simpa using this

/-- A loop that asks each index below n and stops at the first that says no. -/
theorem all_loop (L : Nat → Int → Option Bool) (n : Nat) (p : Nat → Bool) (fin : Bool) (B : Nat)
    (step : ∀ (k i : Nat), i < n → B ≤ k → L (k + 1) (i : Int) = if p i = true then L k ((i + 1 : Nat) : Int) else some false)
    (stop : ∀ (k : Nat), B ≤ k → L (k + 1) (n : Int) = some fin) :
    ∀ (k : Nat), B + n < k → L k 0 = some ((List.range n).all p && fin) := by
  have main : ∀ (d k i : Nat), i + d = n → B + d < k → L k (i : Int) = some ((List.range' i d).all p && fin) := by
    intro d
    induction d with
    | zero =>
      intro k i hi hk
      obtain ⟨k, rfl⟩ : ∃ m, k = m + 1 := ⟨k - 1, by omega⟩
      obtain rfl : i = n := by omega
      rw [stop k (by omega)]; simp
    | succ d ih =>
      intro k i hi hk
      obtain ⟨k, rfl⟩ : ∃ m, k = m + 1 := ⟨k - 1, by omega⟩
      rw [step k i (by omega) (by omega), List.range'_succ, List.all_cons]
      by_cases h : p i = true
      · rw [if_pos h, ih k (i + 1) (by omega) (by omega), h]; simp
      · rw [if_neg h]; simp [h]
  intro k hk
  have := main n k 0 (by omega) hk
  rw [List.range_eq_range']
  exact this

theorem pred_cast {i n : Nat} (h0 : 0 < i) (h : i < n) (hn : n ≤ 4611686018427387904) : wrap64 ((i : Int) - 1) = ((i - 1 : Nat) : Int) := by
  rw [wrap_id (by omega) (by omega)]; omega

theorem rd_get {l : List Int} {i : Nat} (h : i < l.length) : rd l (i : Int) = l[i] := by
  simp [rd, List.getD_eq_getElem?_getD, List.getElem?_eq_getElem h]
theorem rdOf_get {α : Type} {z : α} {l : List α} {i : Nat} (h : i < l.length) : rdOf z l (i : Int) = l[i] := by
  simp [rdOf, List.getD_eq_getElem?_getD, List.getElem?_eq_getElem h]

/-- A list marked with rising numbers from m on (each element takes c x of them), and the number behind. -/
def mkl {α : Type} (g : α → Int → α) (c : α → Int) : List α → Int → List α
  | [], _ => []
  | x :: r, m => g x m :: mkl g c r (m + c x)
def mtot {α : Type} (c : α → Int) : List α → Int → Int
  | [], m => m
  | x :: r, m => mtot c r (m + c x)
theorem mtot_ge {α : Type} {c : α → Int} (hc : ∀ x, 0 ≤ c x) : ∀ (l : List α) (m : Int), m ≤ mtot c l m
  | [], m => by simp [mtot]
  | x :: r, m => by
    have := mtot_ge hc r (m + c x)
    have := hc x
    simp only [mtot]; omega
theorem mtot_const {α : Type} (n : Int) : ∀ (l : List α) (m : Int), mtot (fun _ => n) l m = m + n * l.length
  | [], m => by simp [mtot]
  | x :: r, m => by
    simp only [mtot, mtot_const n r, List.length_cons]
    rw [show ((r.length + 1 : Nat) : Int) = (r.length : Int) + 1 from by omega, Int.mul_add]
    omega
theorem mkl_length {α : Type} (g : α → Int → α) (c : α → Int) : ∀ (l : List α) (m : Int), (mkl g c l m).length = l.length
  | [], _ => rfl
  | x :: r, m => by simp [mkl, mkl_length g c r]
theorem mark_loop {α : Type} (L : Nat → List α → Int → Int → Option (Int × List α)) (g : α → Int → α) (c : α → Int) (M : Int) (B : Nat) (hc : ∀ x, 0 ≤ c x)
    (step : ∀ (k : Nat) (pre : List α) (x : α) (rest : List α) (m : Int), B ≤ k → pre.length < 4611686018427387904 → 0 ≤ m → m + c x ≤ M →
      L (k + 1) (pre ++ x :: rest) m (pre.length : Int) = L k (pre ++ g x m :: rest) (m + c x) ((pre.length + 1 : Nat) : Int))
    (stop : ∀ (k : Nat) (l : List α) (m : Int), L (k + 1) l m (l.length : Int) = some (m, l)) :
    ∀ (k : Nat) (l : List α) (m : Int), B + l.length < k → l.length ≤ 4611686018427387904 → 0 ≤ m → mtot c l m ≤ M → L k l m 0 = some (mtot c l m, mkl g c l m) := by
  have main : ∀ (rest : List α) (k : Nat) (pre : List α) (m : Int), B + rest.length < k → pre.length + rest.length ≤ 4611686018427387904 → 0 ≤ m → mtot c rest m ≤ M →
      L k (pre ++ rest) m (pre.length : Int) = some (mtot c rest m, pre ++ mkl g c rest m) := by
    intro rest
    induction rest with
    | nil =>
      intro k pre m hk _ _ _
      obtain ⟨k, rfl⟩ : ∃ m, k = m + 1 := ⟨k - 1, by omega⟩
      have := stop k pre m
      simpa [mtot, mkl] using this
    | cons x r ih =>
      intro k pre m hk hl hm hM
      obtain ⟨k, rfl⟩ : ∃ m, k = m + 1 := ⟨k - 1, by omega⟩
      simp only [List.length_cons] at hk hl
      have h1 := mtot_ge hc r (m + c x)
      have h2 := hc x
      simp only [mtot] at hM
      rw [step k pre x r m (by omega) (by omega) hm (by omega)]
      have h3 := ih k (pre ++ [g x m]) (m + c x) (by omega) (by simp; omega) (by omega) hM
      simpa [mtot, mkl, List.append_assoc] using h3
  intro k l m hk hl hm hM
  have := main l k [] m hk (by simpa using hl) hm hM
  simpa using this
theorem held_loop {α : Type} (L : Nat → Int → Int → Option Int) (g : α → Int → α) (c : α → Int) (M : Int) (B : Nat) (hc : ∀ x, 0 ≤ c x) (l' : List α)
    (step : ∀ (k : Nat) (pre : List α) (x : α) (rest : List α) (m : Int), l' = pre ++ g x m :: rest → B ≤ k → pre.length < 4611686018427387904 → 0 ≤ m → m + c x ≤ M →
      L (k + 1) m (pre.length : Int) = L k (m + c x) ((pre.length + 1 : Nat) : Int))
    (stop : ∀ (k : Nat) (m : Int), L (k + 1) m (l'.length : Int) = some m) :
    ∀ (k : Nat) (l : List α) (m : Int), l' = mkl g c l m → B + l.length < k → l.length ≤ 4611686018427387904 → 0 ≤ m → mtot c l m ≤ M → L k m 0 = some (mtot c l m) := by
  have main : ∀ (rest : List α) (k : Nat) (pre : List α) (m : Int), l' = pre ++ mkl g c rest m → B + rest.length < k → pre.length + rest.length ≤ 4611686018427387904 → 0 ≤ m → mtot c rest m ≤ M →
      L k m (pre.length : Int) = some (mtot c rest m) := by
    intro rest
    induction rest with
    | nil =>
      intro k pre m he hk _ _ _
      obtain ⟨k, rfl⟩ : ∃ m, k = m + 1 := ⟨k - 1, by omega⟩
      have := stop k m
      have e : l'.length = pre.length := by rw [he]; simp [mkl]
      rw [e] at this
      simpa [mtot] using this
    | cons x r ih =>
      intro k pre m he hk hl hm hM
      obtain ⟨k, rfl⟩ : ∃ m, k = m + 1 := ⟨k - 1, by omega⟩
      simp only [List.length_cons] at hk hl
      have h1 := mtot_ge hc r (m + c x)
      have h2 := hc x
      simp only [mtot] at hM
      rw [step k pre x (mkl g c r (m + c x)) m (by simpa [mkl] using he) (by omega) (by omega) hm (by omega)]
      have h3 := ih k (pre ++ [g x m]) (m + c x) (by simpa [mkl, List.append_assoc] using he) (by omega) (by simp; omega) (by omega) hM
      simpa [mtot] using h3
  intro k l m he hk hl hm hM
  have := main l k [] m (by simpa using he) hk (by simpa using hl) hm hM
  simpa using this
theorem rd_mid {pre rest : List Int} {x : Int} : rd (pre ++ x :: rest) (pre.length : Int) = x := by simp [rd]
theorem rdOf_mid {α : Type} {z : α} {pre rest : List α} {x : α} : rdOf z (pre ++ x :: rest) (pre.length : Int) = x := by simp [rdOf]
theorem set_mid {α : Type} {pre rest : List α} {x v : α} : (pre ++ x :: rest).set ((pre.length : Int)).toNat v = pre ++ v :: rest := by simp

theorem bytes_eq {a b : ByteArray} : a.toList = b.toList ↔ a = b := by
  constructor
  · intro h
    have h2 : a.data.toList = b.data.toList := by
      have e : ∀ x : ByteArray, x.toList = x.data.toList := ByteArray.toList_eq
      rw [← e, ← e]; exact h
    cases a; cases b
    simp at h2
    rw [h2]
  · intro h; rw [h]
end Go.Proofs.YtihphgiopjiohaaL

/- A loop over a list whose rounds take up to c steps each. -/
namespace Go.Proofs.YtihphgiopjiohaaL
open Go.RowKit Go.Proofs.YtihphgiopjiohaaW.PrintWords
theorem list_loopW {α σ τ : Type} (L : Nat → σ → Int → τ) (l : List α) (G : List α → σ → τ) (Inv : Nat → σ → Prop) (B c : Nat)
    (step : ∀ (k i : Nat) (hi : i < l.length) (s : σ), Inv i s → B ≤ k →
      L (k + c) s (i : Int) = G (l[i] :: l.drop (i + 1)) s ∨ ∃ s' k', k ≤ k' ∧ Inv (i + 1) s' ∧ G (l[i] :: l.drop (i + 1)) s = G (l.drop (i + 1)) s' ∧ L (k + c) s (i : Int) = L k' s' ((i + 1 : Nat) : Int))
    (stop : ∀ (k : Nat) (s : σ), Inv l.length s → B ≤ k → L (k + c) s (l.length : Int) = G [] s) :
    ∀ (k : Nat) (s : σ), B + c * (l.length + 1) ≤ k → Inv 0 s → L k s 0 = G l s := by
  have main : ∀ (d k i : Nat) (s : σ), i + d = l.length → B + c * (d + 1) ≤ k → Inv i s → L k s (i : Int) = G (l.drop i) s := by
    intro d
    induction d with
    | zero =>
      intro k i s hi hk hI
      have h1 : c * (0 + 1) = c := by simp
      obtain ⟨k, rfl⟩ : ∃ m, k = m + c := ⟨k - c, by omega⟩
      have : i = l.length := by omega
      subst this
      rw [stop k s hI (by omega), List.drop_length]
    | succ d ih =>
      intro k i s hi hk hI
      have h1 : c * (d + 1 + 1) = c * (d + 1) + c := Nat.mul_succ _ _
      obtain ⟨k, rfl⟩ : ∃ m, k = m + c := ⟨k - c, by omega⟩
      have hlt : i < l.length := by omega
      rw [List.drop_eq_getElem_cons hlt]
      rcases step k i hlt s hI (by omega) with h | ⟨s', k', hk', hI', hG, h⟩
      · exact h
      · rw [h, hG]; exact ih k' (i + 1) s' (by omega) (by omega) hI'
  intro k s hk hI
  have := main l.length k 0 s (by omega) hk hI
  simpa using this
theorem list_loopV {α σ ρ : Type} (L : Nat → σ → Int → Option ρ) (l : List α) (G : List α → σ → ρ) (Inv : Nat → σ → Prop) (B c : Nat)
    (step : ∀ (k i : Nat) (hi : i < l.length) (s : σ), Inv i s → B ≤ k →
      L (k + c) s (i : Int) = some (G (l[i] :: l.drop (i + 1)) s) ∨ ∃ s' k', k ≤ k' ∧ Inv (i + 1) s' ∧ G (l[i] :: l.drop (i + 1)) s = G (l.drop (i + 1)) s' ∧ L (k + c) s (i : Int) = L k' s' ((i + 1 : Nat) : Int))
    (stop : ∀ (k : Nat) (s : σ), Inv l.length s → B ≤ k → L (k + c) s (l.length : Int) = some (G [] s)) :
    ∀ (k : Nat) (s : σ), B + c * (l.length + 1) ≤ k → Inv 0 s → L k s 0 = some (G l s) :=
  list_loopW L l (fun r s => some (G r s)) Inv B c (fun k i hi s hI hB => by
    rcases step k i hi s hI hB with h | ⟨s', k', h1, h2, h3, h4⟩
    · exact .inl h
    · exact .inr ⟨s', k', h1, h2, by rw [h3], h4⟩) stop
end Go.Proofs.YtihphgiopjiohaaL

/- Words for 'enough rounds'. -/
namespace Go.Proofs.Ytihphgiopjiohaa.P
open Go.RowKit Go.Proofs.YtihphgiopjiohaaW.PrintWords Go.Proofs.YtihphgiopjiohaaL
theorem Ev.le {α : Type} {g : Nat → Option α} {r : α} (K : Nat) (h : ∀ k, K ≤ k → g k = some r) : Ev g r := ⟨K, h⟩
theorem Ev.const {α : Type} {x : Option α} {r : α} (h : x = some r) : Ev (fun _ => x) r := ⟨0, fun _ _ => h⟩
theorem Ev.yes {α : Type} {c : Nat → Option Bool} {f : Nat → Option α} {r : α} (h : Ev c true) (k : Ev f r) : Ev (fun n => if c n = some true then f n else none) r := by
  obtain ⟨K, hK⟩ := h
  obtain ⟨K', hK'⟩ := k
  exact ⟨max K K', fun n hn => by
    show (if c n = some true then f n else none) = some r
    rw [if_pos (hK n (by omega))]; exact hK' n (by omega)⟩
theorem Ev.pos {α : Type} {c : Prop} [Decidable c] {f g : Nat → Option α} {r : α} (h : c) (k : Ev f r) : Ev (fun n => if c then f n else g n) r := Ev.congr (fun _ => if_pos h) k
theorem Ev.neg {α : Type} {c : Prop} [Decidable c] {f g : Nat → Option α} {r : α} (h : ¬ c) (k : Ev g r) : Ev (fun n => if c then f n else g n) r := Ev.congr (fun _ => if_neg h) k
theorem Ev.shift {α : Type} {g f : Nat → Option α} {r : α} (c : Nat) (h : ∀ k, g (k + c) = f k) (k : Ev f r) : Ev g r := by
  obtain ⟨K, hK⟩ := k
  refine ⟨K + c, fun n hn => ?_⟩
  obtain ⟨m, rfl⟩ : ∃ m, n = m + c := ⟨n - c, by omega⟩
  show g (m + c) = some r
  rw [h]; exact hK m (by omega)
/-- A list filled with counted marks. -/
def mkI (m : Int) (n : Nat) : List Int := (List.range n).map fun i : Nat => m + (i : Int)
theorem mkI_len (m : Int) (n : Nat) : (mkI m n).length = n := by simp [mkI]
theorem mkI_rd {m : Int} {n i : Nat} (h : i < n) : rd (mkI m n) (i : Int) = m + (i : Int) := by
  rw [rd_get (by simpa [mkI_len] using h)]
  simp [mkI]
/-- A loop that stores a counted mark into each place. -/
theorem mark_ints (L : Nat → List Int → Int → Int → Option (Int × List Int))
    (step : ∀ (k : Nat) (l : List Int) (m : Int) (i : Nat), i < l.length → l.length ≤ 4611686018427387904 → 0 ≤ m → m ≤ 4611686018427387904 → L (k + 1) l m (i : Int) = L k (l.set i m) (m + 1) ((i + 1 : Nat) : Int))
    (stop : ∀ (k : Nat) (l : List Int) (m : Int), L (k + 1) l m (l.length : Int) = some (m, l))
    {l : List Int} {m : Int} (hm : 0 ≤ m) (hb : m + l.length ≤ 4611686018427387904) : Ev (fun k => L k l m 0) (m + l.length, mkI m l.length) := by
  have main : ∀ (d i : Nat) (x : List Int), i + d = l.length → x.length = l.length → (∀ j, (h : j < x.length) → j < i → x[j] = m + (j : Int)) → Ev (fun k => L k x (m + (i : Int)) (i : Int)) (m + l.length, mkI m l.length) := by
    intro d
    induction d with
    | zero =>
      intro i x hi hx hp
      obtain rfl : i = x.length := by omega
      refine ⟨1, fun k hk => ?_⟩
      obtain ⟨k, rfl⟩ : ∃ q, k = q + 1 := ⟨k - 1, by omega⟩
      show L (k + 1) x (m + (x.length : Int)) (x.length : Int) = _
      rw [stop k x, hx]
      congr 2
      apply List.ext_getElem
      · rw [mkI_len]; exact hx
      · intro j h1 h2
        rw [hp j h1 h1]; simp [mkI]
    | succ d ih =>
      intro i x hi hx hp
      have hlt : i < x.length := by omega
      refine Ev.step (fun k => step k x _ i hlt (by omega) (by omega) (by omega)) ?_
      have := ih (i + 1) (x.set i (m + (i : Int))) (by omega) (by simpa using hx) (fun j h1 h2 => by
        rw [List.getElem_set]
        split
        · next e => subst e; rfl
        · exact hp j (by simpa using h1) (by omega))
      rw [show m + ((i + 1 : Nat) : Int) = m + (i : Int) + 1 by omega] at this
      exact this
  have := main l.length 0 l (by omega) rfl (fun j _ h => by omega)
  simpa using this
/-- .. and what looks whether they stand. -/
theorem held_ints {m0 : Int} (L : Nat → Int → Int → Option Int) (n : Nat)
    (step : ∀ (k : Nat) (m : Int) (i : Nat), i < n → 0 ≤ m → m ≤ 4611686018427387904 → m = m0 + (i : Int) → L (k + 1) m (i : Int) = L k (m + 1) ((i + 1 : Nat) : Int))
    (stop : ∀ (k : Nat) (m : Int), L (k + 1) m (n : Int) = some m) (hm : 0 ≤ m0) (hb : m0 + n ≤ 4611686018427387904) : Ev (fun k => L k m0 0) (m0 + n) := by
  have main : ∀ (d i : Nat), i + d = n → Ev (fun k => L k (m0 + (i : Int)) (i : Int)) (m0 + n) := by
    intro d
    induction d with
    | zero =>
      intro i hi
      obtain rfl : i = n := by omega
      exact Ev.step (fun k => stop k _) (Ev.now _)
    | succ d ih =>
      intro i hi
      refine Ev.step (fun k => step k _ i (by omega) (by omega) (by omega) rfl) ?_
      have := ih (i + 1) (by omega)
      rw [show m0 + ((i + 1 : Nat) : Int) = m0 + (i : Int) + 1 by omega] at this
      exact this
  have := main n 0 (by omega)
  simpa using this
theorem mtot_le {α : Type} {c : α → Int} {C : Int} {P : α → Prop} (hC : ∀ x, P x → c x ≤ C) : ∀ (l : List α) (m : Int), (∀ x ∈ l, P x) → mtot c l m ≤ m + (l.length : Int) * C
  | [], m, _ => by simp [mtot]
  | x :: r, m, h => by
    have h1 := mtot_le hC r (m + c x) (fun y hy => h y (List.mem_cons_of_mem _ hy))
    have h2 := hC x (h x List.mem_cons_self)
    simp only [mtot, List.length_cons]
    have e : ((r.length + 1 : Nat) : Int) * C = (r.length : Int) * C + C := by rw [Int.natCast_add, Int.add_mul]; simp
    omega
/-- A loop that marks each place of a list, element by element. -/
theorem mark_ev {α : Type} (L : Nat → List α → Int → Int → Option (Int × List α)) (g : α → Int → α) (c : α → Int) (M : Int) (hc : ∀ x, 0 ≤ c x) (P : α → Prop)
    (step : ∀ (pre : List α) (x : α) (rest : List α) (m : Int) (r : Int × List α), P x → pre.length + rest.length < 4611686018427387904 → 0 ≤ m → m + c x ≤ M → Ev (fun k => L k (pre ++ g x m :: rest) (m + c x) ((pre.length + 1 : Nat) : Int)) r → Ev (fun k => L k (pre ++ x :: rest) m (pre.length : Int)) r)
    (stop : ∀ (k : Nat) (l : List α) (m : Int), L (k + 1) l m (l.length : Int) = some (m, l)) (l : List α) (m : Int) (hp : ∀ x ∈ l, P x) (hl : l.length ≤ 4611686018427387904) (hm : 0 ≤ m) (hM : mtot c l m ≤ M) : Ev (fun k => L k l m 0) (mtot c l m, mkl g c l m) := by
  have main : ∀ (rest : List α) (pre : List α) (m : Int), (∀ x ∈ rest, P x) → pre.length + rest.length ≤ 4611686018427387904 → 0 ≤ m → mtot c rest m ≤ M → Ev (fun k => L k (pre ++ rest) m (pre.length : Int)) (mtot c rest m, pre ++ mkl g c rest m) := by
    intro rest
    induction rest with
    | nil =>
      intro pre m _ _ _ _
      refine Ev.step (f := fun _ => some (m, pre)) (fun k => ?_) ?_
      · rw [List.append_nil]; exact stop k pre m
      · simp only [mtot, mkl, List.append_nil]; exact Ev.now _
    | cons x rest ih =>
      intro pre m hp hl hm hM
      have h2 := mtot_ge hc rest (m + c x)
      have h3 := hc x
      simp only [mtot] at hM
      refine step pre x rest m _ (hp x List.mem_cons_self) (by simp at hl; omega) hm (by omega) ?_
      have := ih (pre ++ [g x m]) (m + c x) (fun y hy => hp y (List.mem_cons_of_mem _ hy)) (by simp at hl ⊢; omega) (by omega) hM
      simp only [List.append_assoc, List.singleton_append, List.length_append, List.length_singleton] at this
      simp only [mtot, mkl]
      exact this
  have := main l [] m hp (by simpa using hl) hm hM
  simpa using this
theorem held_ev {α : Type} (L : Nat → Int → Int → Option Int) (g : α → Int → α) (c : α → Int) (M : Int) (hc : ∀ x, 0 ≤ c x) (P : α → Prop) (l' : List α)
    (step : ∀ (pre : List α) (x : α) (rest : List α) (m : Int) (r : Int), l' = pre ++ g x m :: rest → P x → pre.length < 4611686018427387904 → 0 ≤ m → m + c x ≤ M → Ev (fun k => L k (m + c x) ((pre.length + 1 : Nat) : Int)) r → Ev (fun k => L k m (pre.length : Int)) r)
    (stop : ∀ (k : Nat) (m : Int), L (k + 1) m (l'.length : Int) = some m) (l : List α) (m : Int) (he : l' = mkl g c l m) (hp : ∀ x ∈ l, P x) (hl : l.length ≤ 4611686018427387904) (hm : 0 ≤ m) (hM : mtot c l m ≤ M) : Ev (fun k => L k m 0) (mtot c l m) := by
  have main : ∀ (rest : List α) (pre : List α) (m : Int), l' = pre ++ mkl g c rest m → (∀ x ∈ rest, P x) → pre.length + rest.length ≤ 4611686018427387904 → 0 ≤ m → mtot c rest m ≤ M → Ev (fun k => L k m (pre.length : Int)) (mtot c rest m) := by
    intro rest
    induction rest with
    | nil =>
      intro pre m he _ _ _ _
      simp only [mkl, List.append_nil] at he
      subst he
      simp only [mtot]
      exact Ev.step (f := fun _ => some m) (fun k => stop k m) (Ev.now _)
    | cons x rest ih =>
      intro pre m he hp hl hm hM
      have h2 := mtot_ge hc rest (m + c x)
      have h3 := hc x
      simp only [mtot] at hM
      simp only [mkl] at he
      refine step pre x _ m _ he (hp x List.mem_cons_self) (by simp at hl; omega) hm (by omega) ?_
      have := ih (pre ++ [g x m]) (m + c x) (by rw [he]; simp) (fun y hy => hp y (List.mem_cons_of_mem _ hy)) (by simp at hl ⊢; omega) (by omega) hM
      simp only [List.length_append, List.length_singleton] at this
      simp only [mtot]
      exact this
  have := main l [] m (by simpa using he) hp (by simpa using hl) hm hM
  simpa using this
theorem mkl_len {α : Type} (g : α → Int → α) (c : α → Int) : ∀ (l : List α) (m : Int), (mkl g c l m).length = l.length
  | [], _ => rfl
  | x :: r, m => by simp [mkl, mkl_len g c r]
end Go.Proofs.Ytihphgiopjiohaa.P

/- spec_l11Place: what it answers, and that the machine's call comes to it. -/
namespace Go.Proofs.Ytihphgiopjiohaa.P
open Go.RowKit Go.Proofs.YtihphgiopjiohaaW.PrintWords Go.Proofs.YtihphgiopjiohaaW.PrintLast Go.Proofs.YtihphgiopjiohaaW.PrintMore
attribute [local go_sem] max2_int min2_int max_two min_two max_three min_three max_four min_four str_leq str_gtr str_geq
set_option linter.unusedVariables false
set_option linter.unusedSimpArgs false

/-! ### spec_l11Place: function 48 -/
def spec_l11Place.f (k : Nat) (l0 : List (S47)) (l1 : List Int) (a2 : Int) : Option (Int) := (spec_l11Ask.f k l0 l1).bind fun t101 => (if t101 = 1 then (some t101) else ((spec_l00In.f a2 0 (l1.length : Int)).bind fun t102 => (if t102 = true then (some t101) else (some 2))))
theorem spec_l11Place.mono : ∀ a0 a1 a2 k, LeO (spec_l11Place.f k a0 a1 a2) (spec_l11Place.f (k + 1) a0 a1 a2) := by
  intro a0 a1 a2 k
  unfold spec_l11Place.f
  repeat' first
      | (with_reducible exact spec_l11Ask.mono _ _ _)
      | (with_reducible exact LeO.refl _)
      | (with_reducible exact LeO.none _)
      | (with_reducible refine LeO.ite ?_ ?_)
      | (with_reducible refine LeO.bind ?_ (fun _ => ?_))
      | exact spec_l11Ask.mono _ _ _
      | exact LeO.none _
      | refine LeO.ite ?_ ?_
      | refine LeO.bind ?_ (fun _ => ?_)
set_option maxHeartbeats 8000000 in
set_option maxRecDepth 100000 in
theorem spec_l11Place.calls (k : Nat) (A0 : Option Addr) (c0 : Nat) (l0 : List (S47)) (A1 : Option Addr) (c1 : Nat) (l1 : List Int) (a2 : Int) (r : Int) (w : World) (hr0 : Kd.C k47 w A0 l0.length l0) (hc0 : l0.length ≤ c0) (hr1 : Kd.C (Kd.int .i64) w A1 l1.length l1) (hc1 : l1.length ≤ c1) (h : spec_l11Place.f k l0 l1 a2 = some r) :
    Calls Try.prog 48 #[.slice A0 l0.length c0, .slice A1 l1.length c1, .int .i64 a2] w fun e w' => e = .returned (.int .i64 r) ∧ Drawn0 w w' := by
  have HR0 := Aside0.mk hr0
  have HC0 := Aside0.mk hc0
  clear hr0 hc0
  have HR1 := Aside0.mk hr1
  have HC1 := Aside0.mk hc1
  clear hr1 hc1
  have H : ((spec_l11Ask.f k l0 l1).bind fun t101 => (if t101 = 1 then (some t101) else ((spec_l00In.f a2 0 (l1.length : Int)).bind fun t102 => (if t102 = true then (some t101) else (some 2))))) = some r := h
  clear h
  replace H := Option.bind_eq_some_iff.mp H
  obtain ⟨t101, A40, H⟩ := H
  replace H : (if t101 = 1 then (some t101) else ((spec_l00In.f a2 0 (l1.length : Int)).bind fun t102 => (if t102 = true then (some t101) else (some 2)))) = some r := H
  have A4 := Aside0.mk A40
  clear A40
  by_cases c5 : t101 = 1
  · rw [if_pos c5] at H
    have c5b0 : (t101 == 1) = true := beq_iff_eq.mpr c5
    have c5b1 : (t101 != 1) = false := bne_eq_false_iff_eq.mpr c5
    clear c5
    obtain rfl := Option.some.inj H
    go_enter Try.func48, Try.ntmps48
    go_wp2_with (first | ((with_reducible refine gate_callee (f := 42) rfl ?_); refine goesL_ (some 10) rfl rfl Try.func42 (by kernel_rfl) rfl #[.slice A0 l0.length c0, .slice A1 l1.length c1] rfl (by (try simp only [List.map_toArray, List.map_cons, List.map_nil]); first | done | rfl | (simp only [List.length_drop, List.length_take]; rfl)) ?_; (with_reducible refine (spec_l11Ask.calls k _ _ l0 _ _ l1 t101 _ ?side1 ?side2 ?side3 ?side4 A4.out).mono ?_); (case side1 => repeat (first | exact HR0.out | (with_reducible refine Kd.C_alloc ?_ _) | (with_reducible refine Kd.C_drewN ?_ _) | (with_reducible refine Kd.C_drew ?_))); (case side2 => exact HC0.out); (case side3 => repeat (first | exact HR1.out | (with_reducible refine Kd.C_alloc ?_ _) | (with_reducible refine Kd.C_drewN ?_ _) | (with_reducible refine Kd.C_drew ?_))); (case side4 => exact HC1.out); rintro e w' ⟨rfl, ⟨nd, rfl⟩⟩; refine ⟨_, rfl, ?_⟩))
    go_ret
    exact ⟨by first | rfl | (simp; done) | (simp [*]; done), by repeat (first | exact Drawn0.refl _ | apply Drawn0.step)⟩
  · rw [if_neg c5] at H
    have c5b0 : (t101 == 1) = false := beq_eq_false_iff_ne.mpr c5
    have c5b1 : (t101 != 1) = true := bne_iff_ne.mpr c5
    replace H := Option.bind_eq_some_iff.mp H
    obtain ⟨t102, A60, H⟩ := H
    replace H : (if t102 = true then (some t101) else (some 2)) = some r := H
    have A6 := Aside0.mk A60
    clear A60
    by_cases c7 : t102 = true
    · subst c7
      have H1 : (some t101) = some r := by rw [if_pos rfl] at H; exact H
      clear H
      have H := H1
      clear H1
      obtain rfl := Option.some.inj H
      go_enter Try.func48, Try.ntmps48
      go_wp2_with (first | ((with_reducible refine gate_callee (f := 42) rfl ?_); refine goesL_ (some 10) rfl rfl Try.func42 (by kernel_rfl) rfl #[.slice A0 l0.length c0, .slice A1 l1.length c1] rfl (by (try simp only [List.map_toArray, List.map_cons, List.map_nil]); first | done | rfl | (simp only [List.length_drop, List.length_take]; rfl)) ?_; (with_reducible refine (spec_l11Ask.calls k _ _ l0 _ _ l1 t101 _ ?side1 ?side2 ?side3 ?side4 A4.out).mono ?_); (case side1 => repeat (first | exact HR0.out | (with_reducible refine Kd.C_alloc ?_ _) | (with_reducible refine Kd.C_drewN ?_ _) | (with_reducible refine Kd.C_drew ?_))); (case side2 => exact HC0.out); (case side3 => repeat (first | exact HR1.out | (with_reducible refine Kd.C_alloc ?_ _) | (with_reducible refine Kd.C_drewN ?_ _) | (with_reducible refine Kd.C_drew ?_))); (case side4 => exact HC1.out); rintro e w' ⟨rfl, ⟨nd, rfl⟩⟩; refine ⟨_, rfl, ?_⟩) | ((with_reducible refine gate_callee (f := 60) rfl ?_); refine goesL_ (some 17) rfl rfl Try.func60 (by kernel_rfl) rfl #[.int .i64 a2, .int .i64 0, .int .i64 (l1.length : Int)] rfl (by (try simp only [List.map_toArray, List.map_cons, List.map_nil]); first | done | rfl | (simp only [List.length_drop, List.length_take]; rfl)) ?_; (with_reducible refine (spec_l00In.calls a2 0 (l1.length : Int) true _ A6.out).mono ?_); rintro e w' ⟨rfl, ⟨nd, rfl⟩⟩; refine ⟨_, rfl, ?_⟩))
      go_ret
      exact ⟨by first | rfl | (simp; done) | (simp [*]; done), by repeat (first | exact Drawn0.refl _ | apply Drawn0.step)⟩
    · replace c7 := Bool.eq_false_iff.mpr c7
      subst c7
      have H1 : (some 2) = some r := by rw [if_neg (show ¬ (false = true) by decide)] at H; exact H
      clear H
      have H := H1
      clear H1
      obtain rfl := Option.some.inj H
      go_enter Try.func48, Try.ntmps48
      go_wp2_with (first | ((with_reducible refine gate_callee (f := 42) rfl ?_); refine goesL_ (some 10) rfl rfl Try.func42 (by kernel_rfl) rfl #[.slice A0 l0.length c0, .slice A1 l1.length c1] rfl (by (try simp only [List.map_toArray, List.map_cons, List.map_nil]); first | done | rfl | (simp only [List.length_drop, List.length_take]; rfl)) ?_; (with_reducible refine (spec_l11Ask.calls k _ _ l0 _ _ l1 t101 _ ?side1 ?side2 ?side3 ?side4 A4.out).mono ?_); (case side1 => repeat (first | exact HR0.out | (with_reducible refine Kd.C_alloc ?_ _) | (with_reducible refine Kd.C_drewN ?_ _) | (with_reducible refine Kd.C_drew ?_))); (case side2 => exact HC0.out); (case side3 => repeat (first | exact HR1.out | (with_reducible refine Kd.C_alloc ?_ _) | (with_reducible refine Kd.C_drewN ?_ _) | (with_reducible refine Kd.C_drew ?_))); (case side4 => exact HC1.out); rintro e w' ⟨rfl, ⟨nd, rfl⟩⟩; refine ⟨_, rfl, ?_⟩) | ((with_reducible refine gate_callee (f := 60) rfl ?_); refine goesL_ (some 17) rfl rfl Try.func60 (by kernel_rfl) rfl #[.int .i64 a2, .int .i64 0, .int .i64 (l1.length : Int)] rfl (by (try simp only [List.map_toArray, List.map_cons, List.map_nil]); first | done | rfl | (simp only [List.length_drop, List.length_take]; rfl)) ?_; (with_reducible refine (spec_l00In.calls a2 0 (l1.length : Int) false _ A6.out).mono ?_); rintro e w' ⟨rfl, ⟨nd, rfl⟩⟩; refine ⟨_, rfl, ?_⟩))
      go_ret
      exact ⟨by first | rfl | (simp; done) | (simp [*]; done), by repeat (first | exact Drawn0.refl _ | apply Drawn0.step)⟩

end Go.Proofs.Ytihphgiopjiohaa.P
