/- Part c of what FnExactScriptsOf stands on: functions of the program as Lean functions with their walks, and plain lemmas. -/
import Derived.Test.YtpfalhbeeodjaaaDoorK
import Derived.Test.YtpfalhbeeodjaaaDoorBFnExactScriptsOfa
import Derived.Test.YtpfalhbeeodjaaaDoorBFnExactScriptsOfb
import Derived.Lib.ParseIntBCases
import Derived.Lib.IndexBytes
/- laws_toInt64S: what it answers, and that the machine's call comes to it. -/
namespace Go.Proofs.YtpfalhbeeodjaaaDoor.P
open Go.RowKit Go.Proofs.YtpfalhbeeodjaaaDoorW.PrintWords Go.Proofs.YtpfalhbeeodjaaaDoorW.PrintLast Go.Proofs.YtpfalhbeeodjaaaDoorW.PrintMore
attribute [local go_sem] max2_int min2_int max_two min_two max_three min_three max_four min_four str_leq str_gtr str_geq
set_option linter.unusedVariables false
set_option linter.unusedSimpArgs false

/-! ### laws_toInt64S: function 15 -/
def laws_toInt64S.l0 : Nat → List Int → List Int → Int → Option (List Int)
  | 0, _, _, _ => none
  | k + 1, x0, x3, x4 => if x4 < (x0.length : Int) then (if 0 ≤ x4 then (if x4 < (x3.length : Int) then (laws_toInt64S.l0 k x0 (x3.set (x4 : Int).toNat (rd x0 x4)) (wrap64 (x4 + 1))) else (none)) else (none)) else (some x3)
def laws_toInt64S.f (k : Nat) (l0 : List Int) : Option (List Int) := if 0 ≤ (l0.length : Int) then (if ((l0.length : Int) : Int).toNat ≤ 35184372088832 then (laws_toInt64S.l0 k l0 (List.replicate ((l0.length : Int) : Int).toNat 0) 0) else (none)) else (none)
theorem laws_toInt64S.mono_l : ∀ k, (∀ y0 y1 y2, LeO (laws_toInt64S.l0 k y0 y1 y2) (laws_toInt64S.l0 (k + 1) y0 y1 y2))
  | 0 => fun _ _ _ r h => by simp [laws_toInt64S.l0] at h
  | k + 1 => by
    have ih0 := laws_toInt64S.mono_l k
    · intro y0 y1 y2
      unfold laws_toInt64S.l0
      repeat' first
      | (with_reducible exact ih0 _ _ _)
      | (with_reducible exact LeO.refl _)
      | (with_reducible exact LeO.none _)
      | (with_reducible refine LeO.ite ?_ ?_)
      | (with_reducible refine LeO.bind ?_ (fun _ => ?_))
      | exact ih0 _ _ _
      | exact LeO.none _
      | refine LeO.ite ?_ ?_
      | refine LeO.bind ?_ (fun _ => ?_)
theorem laws_toInt64S.mono : ∀ a0 k, LeO (laws_toInt64S.f k a0) (laws_toInt64S.f (k + 1) a0) := by
  intro a0 k
  have ih0 := laws_toInt64S.mono_l k
  unfold laws_toInt64S.f
  repeat' first
      | (with_reducible exact ih0 _ _ _)
      | (with_reducible exact LeO.refl _)
      | (with_reducible exact LeO.none _)
      | (with_reducible refine LeO.ite ?_ ?_)
      | (with_reducible refine LeO.bind ?_ (fun _ => ?_))
      | exact ih0 _ _ _
      | exact LeO.none _
      | refine LeO.ite ?_ ?_
      | refine LeO.bind ?_ (fun _ => ?_)
set_option maxHeartbeats 8000000 in
set_option maxRecDepth 100000 in
theorem laws_toInt64S.calls (k : Nat) (A0 : Option Addr) (c0 : Nat) (l0 : List Int) (r : List Int) (w : World) (hr0 : Kd.C (Kd.int .i64) w A0 l0.length l0) (hc0 : l0.length ≤ c0) (h : laws_toInt64S.f k l0 = some r) :
    Calls Tryd.prog 15 #[.slice A0 l0.length c0] w fun e w' => ∃ v0_ : Value, e = .returned (v0_) ∧ Kd.R (Kd.int .i64) 2 w' w.heap.size (fun _ => True) v0_ r ∧ Below w.heap.size w w' := by
  have HR0 := Aside0.mk hr0
  have HC0 := Aside0.mk hc0
  clear hr0 hc0
  have HB := Aside0.mk (Below.refl w.heap.size w)
  have H : (if 0 ≤ (l0.length : Int) then (if ((l0.length : Int) : Int).toNat ≤ 35184372088832 then (laws_toInt64S.l0 k l0 (List.replicate ((l0.length : Int) : Int).toNat 0) 0) else (none)) else (none)) = some r := h
  clear h
  by_cases c2 : 0 ≤ (l0.length : Int)
  · rw [if_pos c2] at H
    have c2b0 := eq_true c2
    have c2b1 : decide (0 ≤ (l0.length : Int)) = true := decide_eq_true c2
    clear c2
    by_cases c3 : ((l0.length : Int) : Int).toNat ≤ 35184372088832
    · rw [if_pos c3] at H
      have c3b0 := eq_true c3
      have c3b1 : decide (((l0.length : Int) : Int).toNat ≤ 35184372088832) = true := decide_eq_true c3
      clear c3
      obtain ⟨y101, hy101⟩ : ∃ y_ : List Int, y_ = (List.replicate ((l0.length : Int) : Int).toNat 0) := ⟨_, rfl⟩
      replace H : (laws_toInt64S.l0 k l0 y101 0) = some r := by first | (rw [hy101]; with_reducible exact H) | (have H2_ := (Option.bind_some _ _).symm.trans H; rw [hy101]; with_reducible exact H2_) | (have H2_ := (Option.bind_some _ _).symm.trans H; with_reducible exact H2_) | with_reducible exact H | (rw [hy101]; exact H) | exact H
      have Ny101 := Aside0.mk hy101
      clear hy101
      have H' := Aside0.mk H
      clear H
      go_enter Tryd.func15, Tryd.ntmps15
      go_wp2_with (first | ((with_reducible refine gate_dst (N := 7) rfl ?_); refine Kd.R_make (Kd.int .i64) _ 2 rfl (N := 7) rfl 28 _ _ rfl (l0.length : Int) rfl rfl Tryd.underlying28 (.int .i64 0) 8 info2 rfl (by decide) (by omega) 0 (ok := fun _ => True) (okp := fun _ => True) rfl (fun _ hk => hk) trivial (of_decide_eq_true (by first | (with_reducible assumption) | assumption)) (Nat.le_trans (Nat.mul_le_mul_right _ (of_decide_eq_true (by first | (with_reducible assumption) | assumption) : (l0.length : Int).toNat ≤ 35184372088832)) (by omega)) (Below.refl _ _) (Nat.le_refl _) ?_; intro v102 w4 ho5 hb hg_ hnew_; clear hg_ hnew_; (first | rw [← Ny101.out] at ho5 | (simp only [Int.reduceToNat] at ho5; rw [← Ny101.out] at ho5)); have n0_ := Aside0.mk (Kd.R_lower ho5 (below_size (by repeat (first | (with_reducible first | exact HB.out | apply below_alloc | apply pw_below_drewN | apply below_drew1) | exact HB.out)))); have n1_ := Aside0.mk (below_step (by repeat (first | (with_reducible first | exact HB.out | apply below_alloc | apply pw_below_drewN | apply below_drew1) | exact HB.out)) hb); clear HB; have HO103 := n0_; have HB := n1_; clear n0_ n1_; clear hb ho5))
      go_loopg [4] k (fun kq v4 w' => ∃ (x3_1 : List Int) (x4_1 : Int), v4 = .int .i64 x4_1 ∧ Aside0 (laws_toInt64S.l0 kq l0 x3_1 x4_1 = some r) ∧ Aside0 (kq ≤ k) ∧ Aside0 (Kd.R (Kd.int .i64) 2 w' w.heap.size (fun _ => True) v102 x3_1) ∧ Aside0 (Below w.heap.size w w'))
      case atStart => exact ⟨(y101), (0), (by first | rfl | (simp; done) | (simp [*]; done)), H', ⟨Nat.le_refl _⟩, ⟨by (with_reducible repeat (first | apply Kd.R_alloc | apply Kd.R_drewN | apply Kd.R_drew)); exact HO103.out⟩, ⟨by repeat (first | (with_reducible first | exact HB.out | apply below_alloc | apply pw_below_drewN | apply below_drew1) | exact HB.out)⟩⟩
      case round =>
        clear H'
        try clear c1
        try clear c2
        try clear c2b0
        try clear c2b1
        try clear p2
        try clear c3
        try clear c3b0
        try clear c3b1
        obtain ⟨x3_1, x4_1, rfl, HA, HK1, HO_3, HB⟩ := hrel
        cases gk with
        | zero => exact absurd HA.out (by simp [laws_toInt64S.l0])
        | succ k1 =>
          have H := HA.out
          clear HA
          simp only [laws_toInt64S.l0] at H
          by_cases c6 : x4_1 < (l0.length : Int)
          · rw [if_pos c6] at H
            have c6b0 : decide (x4_1 < (l0.length : Int)) = true := decide_eq_true c6
            clear c6
            by_cases c7 : 0 ≤ x4_1
            · rw [if_pos c7] at H
              have c7b0 : decide (0 ≤ x4_1) = true := decide_eq_true c7
              clear c7
              by_cases c8 : x4_1 < (x3_1.length : Int)
              · rw [if_pos c8] at H
                have c8b0 : decide (x4_1 < (x3_1.length : Int)) = true := decide_eq_true c8
                clear c8
                obtain ⟨y105, hy105⟩ : ∃ y_ : List Int, y_ = (x3_1.set (x4_1 : Int).toNat (rd l0 x4_1)) := ⟨_, rfl⟩
                replace H : (laws_toInt64S.l0 k1 l0 y105 (wrap64 (x4_1 + 1))) = some r := by first | (rw [hy105]; with_reducible exact H) | (have H2_ := (Option.bind_some _ _).symm.trans H; rw [hy105]; with_reducible exact H2_) | (have H2_ := (Option.bind_some _ _).symm.trans H; with_reducible exact H2_) | with_reducible exact H | (rw [hy105]; exact H) | exact H
                have Ny105 := Aside0.mk hy105
                clear hy105
                have H' := Aside0.mk H
                clear H
                have p104 : 0 ≤ (x4_1 : Int) := of_decide_eq_true (by first | (with_reducible assumption) | assumption)
                have q104 : x4_1 < (l0.length : Int) := of_decide_eq_true (by first | (with_reducible assumption) | assumption)
                obtain ⟨ad104, e104, hx104_0⟩ := Kd.at_int HR0.out x4_1 p104 q104
                cases e104
                replace hx104_0 := (HB.out.cell (World.block_lt_of_cell? w _ hx104_0)).trans hx104_0
                replace p104 := eq_true p104
                replace q104 := eq_true q104
                have p9 : 0 ≤ (x4_1 : Int) := of_decide_eq_true (by first | (with_reducible assumption) | assumption)
                have q9 : (x4_1 : Int) < ((x3_1.length : Int) : Int) := of_decide_eq_true (by first | (with_reducible assumption) | assumption)
                obtain ⟨go9, co9, eo9, gb9, gl9, cl9, HG9⟩ := Kd.R_form HO_3.out (by omega)
                (first | cases eo9 | (injection eo9 with ea_ en_ ec_; (first | subst ea_ | (injection ea_ with ea_; subst ea_)); subst ec_; clear en_))
                have GB9 := Aside0.mk gb9
                have GG9 := Aside0.mk HG9
                clear gb9 gl9 HG9
                obtain ⟨hx9_0, hf9_0⟩ := Kd.R_celln 0 HO_3.out (x4_1 : Int) p9 q9
                replace p9 := eq_true p9
                replace q9 := eq_true q9
                have HP10 := Kd.R_putg HO_3.out (x4_1 : Int) (rd l0 x4_1)
                go_wp2_with (first | ((with_reducible refine gate_store (t := 2) (p := 20) rfl ?_); refine store_event (t := 2) (p := 20) (v := ?vo_w11) (w1 := (wr.setCell ⟨go9, (x4_1 : Int).toNat, none⟩ (.int .i64 (rd l0 x4_1)))) ?hg ?ho ?hn ?hr ?_; (case ho => rfl); (case hg => rfl); (case hn => rfl); (case hr => first | (go_simp; done) | (go_simp; rfl)); intro w11 hw; have hg : wr.grownBy w11 (some go9) := (by rw [hw]; exact HP10.2); have hp_ : Kd.R (Kd.int .i64) 2 w11 w.heap.size (fun _ => True) (.slice (some ⟨go9, 0, none⟩) x3_1.length co9) y105 := (by rw [hw, Ny105.out]; exact HP10.1); clear HP10; have n0_ := Aside0.mk (hp_); have n1_ := Aside0.mk ((by rw [hw]; exact below_set (HB.out) GB9.out : Below w.heap.size w w11)); clear HO_3; clear HB; have HO_3 := n0_; have HB := n1_; clear n0_ n1_; clear hg hw hp_))
                go_roundg k1
                case measure => have := HK1.out; omega
                case rel => exact ⟨(y105), (wrap64 (x4_1 + 1)), (by first | rfl | (simp; done) | (simp [*]; done)), H', ⟨by have := HK1.out; omega⟩, ⟨by (with_reducible repeat (first | apply Kd.R_alloc | apply Kd.R_drewN | apply Kd.R_drew)); exact HO_3.out⟩, ⟨by repeat (first | (with_reducible first | exact HB.out | apply below_alloc | apply pw_below_drewN | apply below_drew1) | exact HB.out)⟩⟩
              · rw [if_neg c8] at H
                exact absurd H (by simp)
            · rw [if_neg c7] at H
              exact absurd H (by simp)
          · rw [if_neg c6] at H
            have c6b0 : decide (x4_1 < (l0.length : Int)) = false := decide_eq_false c6
            clear c6
            obtain rfl := Option.some.inj H
            go_wp2
            go_ret
            exact ⟨_, by first | rfl | (simp [errW_none, errW_some] <;> rfl) | (simp [*, errW_none, errW_some] <;> rfl), by (with_reducible repeat (first | apply Kd.R_alloc | apply Kd.R_drewN | apply Kd.R_drew)); exact HO_3.out, by repeat (first | (with_reducible first | exact HB.out | apply below_alloc | apply pw_below_drewN | apply below_drew1) | exact HB.out)⟩
    · rw [if_neg c3] at H
      exact absurd H (by simp)
  · rw [if_neg c2] at H
    exact absurd H (by simp)

end Go.Proofs.YtpfalhbeeodjaaaDoor.P

/- laws_szNoteS: what it answers, and that the machine's call comes to it. -/
namespace Go.Proofs.YtpfalhbeeodjaaaDoor.P
open Go.RowKit Go.Proofs.YtpfalhbeeodjaaaDoorW.PrintWords Go.Proofs.YtpfalhbeeodjaaaDoorW.PrintLast Go.Proofs.YtpfalhbeeodjaaaDoorW.PrintMore
attribute [local go_sem] max2_int min2_int max_two min_two max_three min_three max_four min_four str_leq str_gtr str_geq
set_option linter.unusedVariables false
set_option linter.unusedSimpArgs false

/-! ### laws_szNoteS: function 18 -/
def laws_szNoteS.f (l0 : List (S62)) (a1 : Int) : Option (Int) := if (wrap64 (a1 - (l0.length : Int))) < 0 then (some (-1)) else (some (wrap64 (a1 - (l0.length : Int))))
set_option maxHeartbeats 8000000 in
set_option maxRecDepth 100000 in
theorem laws_szNoteS.calls (A0 : Option Addr) (c0 : Nat) (l0 : List (S62)) (a1 : Int) (r : Int) (w : World) (hr0 : Kd.C k62 w A0 l0.length l0) (hc0 : l0.length ≤ c0) (h : laws_szNoteS.f l0 a1 = some r) :
    Calls Tryd.prog 18 #[.slice A0 l0.length c0, .int .i64 a1] w fun e w' => e = .returned (.int .i64 r) ∧ Drawn0 w w' := by
  have HR0 := Aside0.mk hr0
  have HC0 := Aside0.mk hc0
  clear hr0 hc0
  have H : (if (wrap64 (a1 - (l0.length : Int))) < 0 then (some (-1)) else (some (wrap64 (a1 - (l0.length : Int))))) = some r := h
  clear h
  by_cases c3 : (wrap64 (a1 - (l0.length : Int))) < 0
  · rw [if_pos c3] at H
    have c3b0 : decide ((wrap64 (a1 - (l0.length : Int))) < 0) = true := decide_eq_true c3
    clear c3
    obtain rfl := Option.some.inj H
    go_enter Tryd.func18, Tryd.ntmps18
    go_wp2
    go_ret
    exact ⟨by first | rfl | (simp; done) | (simp [*]; done), by repeat (first | exact Drawn0.refl _ | apply Drawn0.step)⟩
  · rw [if_neg c3] at H
    have c3b0 : decide ((wrap64 (a1 - (l0.length : Int))) < 0) = false := decide_eq_false c3
    clear c3
    obtain rfl := Option.some.inj H
    go_enter Tryd.func18, Tryd.ntmps18
    go_wp2
    go_ret
    exact ⟨by first | rfl | (simp; done) | (simp [*]; done), by repeat (first | exact Drawn0.refl _ | apply Drawn0.step)⟩

end Go.Proofs.YtpfalhbeeodjaaaDoor.P

/- laws_toNote: what it answers, and that the machine's call comes to it. -/
namespace Go.Proofs.YtpfalhbeeodjaaaDoor.P
open Go.RowKit Go.Proofs.YtpfalhbeeodjaaaDoorW.PrintWords Go.Proofs.YtpfalhbeeodjaaaDoorW.PrintLast Go.Proofs.YtpfalhbeeodjaaaDoorW.PrintMore
attribute [local go_sem] max2_int min2_int max_two min_two max_three min_three max_four min_four str_leq str_gtr str_geq
set_option linter.unusedVariables false
set_option linter.unusedSimpArgs false

/-! ### laws_toNote: function 46 -/
def laws_toNote.f (a0_0 : Int) (a0_1 : Int) : Option (Int × Int) := some (a0_0, a0_1)
set_option maxHeartbeats 8000000 in
set_option maxRecDepth 100000 in
theorem laws_toNote.calls (a0_0 : Int) (a0_1 : Int) (r1 : Int) (r2 : Int) (w : World) (h : laws_toNote.f a0_0 a0_1 = some (r1, r2)) :
    Calls Tryd.prog 46 #[.agg #[.int .i64 a0_0, .int .i64 a0_1]] w fun e w' => e = .returned (.agg #[.int .i64 r1, .int .i64 r2]) ∧ Below w.heap.size w w' := by
  have hu62 := Tryd.underlying62
  have hu60 := Tryd.underlying60
  have HB := Aside0.mk (Below.refl w.heap.size w)
  have H : (some (a0_0, a0_1)) = some (r1, r2) := h
  clear h
  simp only [Option.some.injEq, Prod.mk.injEq] at H
  obtain ⟨rfl, rfl⟩ := H
  go_enter Tryd.func46, Tryd.ntmps46
  go_wp2_with (first | ((with_reducible refine gate_dst (N := 1) rfl ?_); refine box_event ?hg (N := 1) ?hd (cs := #[.int .i64 a0_0, .int .i64 a0_1]) (t := 62) ?hr ?_; (case hd => rfl); (case hg => rfl); (case hr => first | (go_simp; done) | (go_simp; rfl)); intro gb101 hg w2 hbox hb; have n0_ := Aside0.mk (below_step (by repeat (first | (with_reducible first | exact HB.out | apply below_alloc | apply pw_below_drewN | apply below_drew1) | exact HB.out)) hb); have n1_ := Aside0.mk (hbox); have n2_ := Aside0.mk ((by rw [hg]; exact (below_size (by repeat (first | (with_reducible first | exact HB.out | apply below_alloc | apply pw_below_drewN | apply below_drew1) | exact HB.out))) : w.heap.size ≤ gb101)); have n3_ := Aside0.mk ((by rw [hg]; exact (below_size (by repeat (first | (with_reducible first | exact HB.out | apply below_alloc | apply pw_below_drewN | apply below_drew1) | exact HB.out))) : w.heap.size ≤ gb101)); clear HB; have HB := n0_; have BK101 := n1_; have GW101 := n2_; have GE101 := n3_; clear n0_ n1_ n2_ n3_; clear hb hbox hg) | ((with_reducible refine gate_dst (N := 2) rfl ?_); refine box_event ?hg (N := 2) ?hd (cs := #[.int .i64 0, .int .i64 0]) (t := 60) ?hr ?_; (case hd => rfl); (case hg => rfl); (case hr => first | (go_simp; done) | (go_simp; rfl)); intro gb102 hg w3 hbox hb; have n0_ := Aside0.mk (blk_below (g := gb101) (o := .cells #[.int .i64 a0_0, .int .i64 a0_1] 62 (0, 0)) (by (with_reducible repeat (first | refine blk_drewN ?_ _ | refine blk_drew ?_ | refine blk_alloc ?_ _)); exact BK101.out) hb); have n1_ := Aside0.mk (below_step (by repeat (first | (with_reducible first | exact HB.out | apply below_alloc | apply pw_below_drewN | apply below_drew1 | refine below_set ?_ GE101.out) | exact HB.out)) hb); have n2_ := Aside0.mk (hbox); have n3_ := Aside0.mk ((by rw [hg]; exact (below_size (by repeat (first | (with_reducible first | exact HB.out | apply below_alloc | apply pw_below_drewN | apply below_drew1 | refine below_set ?_ GE101.out) | exact HB.out))) : w.heap.size ≤ gb102)); have n4_ := Aside0.mk ((by rw [hg]; exact (below_size (by repeat (first | (with_reducible first | exact HB.out | apply below_alloc | apply pw_below_drewN | apply below_drew1 | refine below_set ?_ GE101.out) | exact HB.out))) : w.heap.size ≤ gb102)); have n5_ := Aside0.mk ((by rw [hg]; exact Nat.ne_of_lt (blk_lt (g := gb101) (o := .cells #[.int .i64 a0_0, .int .i64 a0_1] 62 (0, 0)) (by (with_reducible repeat (first | refine blk_drewN ?_ _ | refine blk_drew ?_ | refine blk_alloc ?_ _)); exact BK101.out)) : gb101 ≠ gb102)); have n6_ := Aside0.mk ((by rw [hg]; exact Nat.ne_of_gt (blk_lt (g := gb101) (o := .cells #[.int .i64 a0_0, .int .i64 a0_1] 62 (0, 0)) (by (with_reducible repeat (first | refine blk_drewN ?_ _ | refine blk_drew ?_ | refine blk_alloc ?_ _)); exact BK101.out)) : gb102 ≠ gb101)); clear BK101; clear HB; have BK101 := n0_; have HB := n1_; have BK102 := n2_; have GW102 := n3_; have GE102 := n4_; have NB101_102 := n5_; have NB102_101 := n6_; clear n0_ n1_ n2_ n3_ n4_ n5_ n6_; clear hb hbox hg) | ((with_reducible refine gate_dst (N := 3) rfl ?_); refine box_event ?hg (N := 3) ?hd (cs := #[.int .i64 0, .int .i64 0]) (t := 60) ?hr ?_; (case hd => rfl); (case hg => rfl); (case hr => first | (go_simp; done) | (go_simp; rfl)); intro gb103 hg w4 hbox hb; have n0_ := Aside0.mk (blk_below (g := gb101) (o := .cells #[.int .i64 a0_0, .int .i64 a0_1] 62 (0, 0)) (by (with_reducible repeat (first | refine blk_drewN ?_ _ | refine blk_drew ?_ | refine blk_alloc ?_ _)); exact BK101.out) hb); have n1_ := Aside0.mk (blk_below (g := gb102) (o := .cells #[.int .i64 0, .int .i64 0] 60 (0, 0)) (by (with_reducible repeat (first | refine blk_drewN ?_ _ | refine blk_drew ?_ | refine blk_alloc ?_ _)); exact BK102.out) hb); have n2_ := Aside0.mk (below_step (by repeat (first | (with_reducible first | exact HB.out | apply below_alloc | apply pw_below_drewN | apply below_drew1 | refine below_set ?_ GE101.out | refine below_set ?_ GE102.out) | exact HB.out)) hb); have n3_ := Aside0.mk (hbox); have n4_ := Aside0.mk ((by rw [hg]; exact (below_size (by repeat (first | (with_reducible first | exact HB.out | apply below_alloc | apply pw_below_drewN | apply below_drew1 | refine below_set ?_ GE101.out | refine below_set ?_ GE102.out) | exact HB.out))) : w.heap.size ≤ gb103)); have n5_ := Aside0.mk ((by rw [hg]; exact (below_size (by repeat (first | (with_reducible first | exact HB.out | apply below_alloc | apply pw_below_drewN | apply below_drew1 | refine below_set ?_ GE101.out | refine below_set ?_ GE102.out) | exact HB.out))) : w.heap.size ≤ gb103)); have n6_ := Aside0.mk ((by rw [hg]; exact Nat.ne_of_lt (blk_lt (g := gb101) (o := .cells #[.int .i64 a0_0, .int .i64 a0_1] 62 (0, 0)) (by (with_reducible repeat (first | refine blk_drewN ?_ _ | refine blk_drew ?_ | refine blk_alloc ?_ _)); exact BK101.out)) : gb101 ≠ gb103)); have n7_ := Aside0.mk ((by rw [hg]; exact Nat.ne_of_gt (blk_lt (g := gb101) (o := .cells #[.int .i64 a0_0, .int .i64 a0_1] 62 (0, 0)) (by (with_reducible repeat (first | refine blk_drewN ?_ _ | refine blk_drew ?_ | refine blk_alloc ?_ _)); exact BK101.out)) : gb103 ≠ gb101)); have n8_ := Aside0.mk ((by rw [hg]; exact Nat.ne_of_lt (blk_lt (g := gb102) (o := .cells #[.int .i64 0, .int .i64 0] 60 (0, 0)) (by (with_reducible repeat (first | refine blk_drewN ?_ _ | refine blk_drew ?_ | refine blk_alloc ?_ _)); exact BK102.out)) : gb102 ≠ gb103)); have n9_ := Aside0.mk ((by rw [hg]; exact Nat.ne_of_gt (blk_lt (g := gb102) (o := .cells #[.int .i64 0, .int .i64 0] 60 (0, 0)) (by (with_reducible repeat (first | refine blk_drewN ?_ _ | refine blk_drew ?_ | refine blk_alloc ?_ _)); exact BK102.out)) : gb103 ≠ gb102)); clear BK101; clear BK102; clear HB; have BK101 := n0_; have BK102 := n1_; have HB := n2_; have BK103 := n3_; have GW103 := n4_; have GE103 := n5_; have NB101_103 := n6_; have NB103_101 := n7_; have NB102_103 := n8_; have NB103_102 := n9_; clear n0_ n1_ n2_ n3_ n4_ n5_ n6_ n7_ n8_ n9_; clear hb hbox hg; have hnb5 := NB101_102.out; have hnc5 := NB102_101.out; have hnb6 := NB101_103.out; have hnc6 := NB103_101.out; have hcz7_0 : w4.cell? ⟨gb101, 0, none⟩ = some (.int .i64 a0_0) := (blk_cell BK101.out 0).trans rfl; have hcz7_1 : w4.cell? ⟨gb101, 1, none⟩ = some (.int .i64 a0_1) := (blk_cell BK101.out 1).trans rfl; have hfz7_0 := blk_frozen BK101.out 0; have hfz7_1 := blk_frozen BK101.out 1; have hnb8 := NB103_102.out; have hnc8 := NB102_103.out; have hcz9_0 : w4.cell? ⟨gb103, 0, none⟩ = some (.int .i64 0) := (blk_cell BK103.out 0).trans rfl; have hcz9_1 : w4.cell? ⟨gb103, 1, none⟩ = some (.int .i64 0) := (blk_cell BK103.out 1).trans rfl; have hfz9_0 := blk_frozen BK103.out 0; have hfz9_1 := blk_frozen BK103.out 1; have hcz10_0 : w4.cell? ⟨gb102, 0, none⟩ = some (.int .i64 0) := (blk_cell BK102.out 0).trans rfl; have hcz10_1 : w4.cell? ⟨gb102, 1, none⟩ = some (.int .i64 0) := (blk_cell BK102.out 1).trans rfl; have hfz10_0 := blk_frozen BK102.out 0; have hfz10_1 := blk_frozen BK102.out 1))
  refine bodyPost_ret (results_cell_row rfl _ _ gb102 60 #[.int .i64 a0_0, .int .i64 a0_1] (0, 0) _ rfl (by (with_reducible repeat (first | refine blk_drewN ?_ _ | refine blk_drew ?_ | refine blk_alloc ?_ _)); refine blk_put (cs := #[.int .i64 a0_0, .int .i64 0]) ?_ 1 _ rfl; (with_reducible repeat (first | refine blk_drewN ?_ _ | refine blk_drew ?_ | refine blk_alloc ?_ _)); refine blk_put (cs := #[.int .i64 0, .int .i64 0]) ?_ 0 _ rfl; (with_reducible repeat (first | refine blk_drewN ?_ _ | refine blk_drew ?_ | refine blk_alloc ?_ _)); refine blk_far ?_ NB102_103.out _; (with_reducible repeat (first | refine blk_drewN ?_ _ | refine blk_drew ?_ | refine blk_alloc ?_ _)); refine blk_far ?_ NB102_103.out _; (with_reducible repeat (first | refine blk_drewN ?_ _ | refine blk_drew ?_ | refine blk_alloc ?_ _)); exact BK102.out) Tryd.underlying60 rfl (by kernel_rfl)) rfl ?_
  exact ⟨by first | rfl | (simp [errW_none, errW_some] <;> rfl) | (simp [*, errW_none, errW_some] <;> rfl), by repeat (first | (with_reducible first | exact HB.out | apply below_alloc | apply pw_below_drewN | apply below_drew1 | refine below_set ?_ GE101.out | refine below_set ?_ GE102.out | refine below_set ?_ GE103.out) | exact HB.out)⟩

end Go.Proofs.YtpfalhbeeodjaaaDoor.P

/- laws_toNoteS: what it answers, and that the machine's call comes to it. -/
namespace Go.Proofs.YtpfalhbeeodjaaaDoor.P
open Go.RowKit Go.Proofs.YtpfalhbeeodjaaaDoorW.PrintWords Go.Proofs.YtpfalhbeeodjaaaDoorW.PrintLast Go.Proofs.YtpfalhbeeodjaaaDoorW.PrintMore
attribute [local go_sem] max2_int min2_int max_two min_two max_three min_three max_four min_four str_leq str_gtr str_geq
set_option linter.unusedVariables false
set_option linter.unusedSimpArgs false

/-! ### laws_toNoteS: function 20 -/
def laws_toNoteS.l0 : Nat → List (S62) → List (S60) → Int → Option ((List (S60)))
  | 0, _, _, _ => none
  | k + 1, x0, x3, x4 => if x4 < (x0.length : Int) then (if 0 ≤ x4 then ((laws_toNote.f ((rd_T62 x0 x4).f0) ((rd_T62 x0 x4).f1)).bind fun bt105 => (if x4 < (x3.length : Int) then (laws_toNoteS.l0 k x0 (x3.set (x4 : Int).toNat (⟨bt105.1, bt105.2⟩ : S60)) (wrap64 (x4 + 1))) else (none))) else (none)) else (some x3)
def laws_toNoteS.f (k : Nat) (l0 : List (S62)) : Option ((List (S60))) := if 0 ≤ (l0.length : Int) then (if ((l0.length : Int) : Int).toNat ≤ 17592186044416 then (laws_toNoteS.l0 k l0 (List.replicate ((l0.length : Int) : Int).toNat z60) 0) else (none)) else (none)
theorem laws_toNoteS.mono_l : ∀ k, (∀ y0 y1 y2, LeO (laws_toNoteS.l0 k y0 y1 y2) (laws_toNoteS.l0 (k + 1) y0 y1 y2))
  | 0 => fun _ _ _ r h => by simp [laws_toNoteS.l0] at h
  | k + 1 => by
    have ih0 := laws_toNoteS.mono_l k
    · intro y0 y1 y2
      unfold laws_toNoteS.l0
      repeat' first
      | (with_reducible exact ih0 _ _ _)
      | (with_reducible exact LeO.refl _)
      | (with_reducible exact LeO.none _)
      | (with_reducible refine LeO.ite ?_ ?_)
      | (with_reducible refine LeO.bind ?_ (fun _ => ?_))
      | exact ih0 _ _ _
      | exact LeO.none _
      | refine LeO.ite ?_ ?_
      | refine LeO.bind ?_ (fun _ => ?_)
theorem laws_toNoteS.mono : ∀ a0 k, LeO (laws_toNoteS.f k a0) (laws_toNoteS.f (k + 1) a0) := by
  intro a0 k
  have ih0 := laws_toNoteS.mono_l k
  unfold laws_toNoteS.f
  repeat' first
      | (with_reducible exact ih0 _ _ _)
      | (with_reducible exact LeO.refl _)
      | (with_reducible exact LeO.none _)
      | (with_reducible refine LeO.ite ?_ ?_)
      | (with_reducible refine LeO.bind ?_ (fun _ => ?_))
      | exact ih0 _ _ _
      | exact LeO.none _
      | refine LeO.ite ?_ ?_
      | refine LeO.bind ?_ (fun _ => ?_)
set_option maxHeartbeats 8000000 in
set_option maxRecDepth 100000 in
theorem laws_toNoteS.calls (k : Nat) (A0 : Option Addr) (c0 : Nat) (l0 : List (S62)) (r : List (S60)) (w : World) (hr0 : Kd.C k62 w A0 l0.length l0) (hc0 : l0.length ≤ c0) (h : laws_toNoteS.f k l0 = some r) :
    Calls Tryd.prog 20 #[.slice A0 l0.length c0] w fun e w' => ∃ v0_ : Value, e = .returned (v0_) ∧ Kd.R k60 60 w' w.heap.size (fun _ => True) v0_ r ∧ Below w.heap.size w w' := by
  have hu62 := Tryd.underlying62
  have hu60 := Tryd.underlying60
  have HR0 := Aside0.mk hr0
  have HC0 := Aside0.mk hc0
  clear hr0 hc0
  have HB := Aside0.mk (Below.refl w.heap.size w)
  have H : (if 0 ≤ (l0.length : Int) then (if ((l0.length : Int) : Int).toNat ≤ 17592186044416 then (laws_toNoteS.l0 k l0 (List.replicate ((l0.length : Int) : Int).toNat z60) 0) else (none)) else (none)) = some r := h
  clear h
  by_cases c2 : 0 ≤ (l0.length : Int)
  · rw [if_pos c2] at H
    have c2b0 := eq_true c2
    have c2b1 : decide (0 ≤ (l0.length : Int)) = true := decide_eq_true c2
    clear c2
    by_cases c3 : ((l0.length : Int) : Int).toNat ≤ 17592186044416
    · rw [if_pos c3] at H
      have c3b0 := eq_true c3
      have c3b1 : decide (((l0.length : Int) : Int).toNat ≤ 17592186044416) = true := decide_eq_true c3
      clear c3
      obtain ⟨y101, hy101⟩ : ∃ y_ : List (S60), y_ = (List.replicate ((l0.length : Int) : Int).toNat z60) := ⟨_, rfl⟩
      replace H : (laws_toNoteS.l0 k l0 y101 0) = some r := by first | (rw [hy101]; with_reducible exact H) | (have H2_ := (Option.bind_some _ _).symm.trans H; rw [hy101]; with_reducible exact H2_) | (have H2_ := (Option.bind_some _ _).symm.trans H; with_reducible exact H2_) | with_reducible exact H | (rw [hy101]; exact H) | exact H
      have Ny101 := Aside0.mk hy101
      clear hy101
      have H' := Aside0.mk H
      clear H
      go_enter Tryd.func20, Tryd.ntmps20
      go_wp2_with (first | ((with_reducible refine gate_dst (N := 7) rfl ?_); refine Kd.R_make k60 _ 60 rfl (N := 7) rfl 36 _ _ rfl (l0.length : Int) rfl rfl Tryd.underlying36 (.agg #[(.int .i64 0), (.int .i64 0)]) 16 info60 rfl (by decide) (by omega) z60 (ok := fun _ => True) (okp := fun _ => True) (k60_mkM _ _ _ z60 ) (fun _ hk => hk) trivial (of_decide_eq_true (by first | (with_reducible assumption) | assumption)) (Nat.le_trans (Nat.mul_le_mul_right _ (of_decide_eq_true (by first | (with_reducible assumption) | assumption) : (l0.length : Int).toNat ≤ 17592186044416)) (by omega)) (Below.refl _ _) (Nat.le_refl _) ?_; intro v102 w4 ho5 hb hg_ hnew_; clear hg_ hnew_; (first | rw [← Ny101.out] at ho5 | (simp only [Int.reduceToNat] at ho5; rw [← Ny101.out] at ho5)); have n0_ := Aside0.mk (Kd.R_lower ho5 (below_size (by repeat (first | (with_reducible first | exact HB.out | apply below_alloc | apply pw_below_drewN | apply below_drew1) | exact HB.out)))); have n1_ := Aside0.mk (below_step (by repeat (first | (with_reducible first | exact HB.out | apply below_alloc | apply pw_below_drewN | apply below_drew1) | exact HB.out)) hb); clear HB; have HO103 := n0_; have HB := n1_; clear n0_ n1_; clear hb ho5))
      go_loopg [4] k (fun kq v4 w' => ∃ (x3_1 : List (S60)) (x4_1 : Int), v4 = .int .i64 x4_1 ∧ Aside0 (laws_toNoteS.l0 kq l0 x3_1 x4_1 = some r) ∧ Aside0 (kq ≤ k) ∧ Aside0 (Kd.R k60 60 w' w.heap.size (fun _ => True) v102 x3_1) ∧ Aside0 (Below w.heap.size w w'))
      case atStart => exact ⟨(y101), (0), (by first | rfl | (simp; done) | (simp [*]; done)), H', ⟨Nat.le_refl _⟩, ⟨by (with_reducible repeat (first | apply Kd.R_alloc | apply Kd.R_drewN | apply Kd.R_drew)); exact HO103.out⟩, ⟨by repeat (first | (with_reducible first | exact HB.out | apply below_alloc | apply pw_below_drewN | apply below_drew1) | exact HB.out)⟩⟩
      case round =>
        clear H'
        try clear c2
        try clear c2b0
        try clear c2b1
        try clear p2
        try clear c3
        try clear c3b0
        try clear c3b1
        obtain ⟨x3_1, x4_1, rfl, HA, HK1, HO_3, HB⟩ := hrel
        cases gk with
        | zero => exact absurd HA.out (by simp [laws_toNoteS.l0])
        | succ k1 =>
          have H := HA.out
          clear HA
          simp only [laws_toNoteS.l0] at H
          by_cases c6 : x4_1 < (l0.length : Int)
          · rw [if_pos c6] at H
            have c6b0 : decide (x4_1 < (l0.length : Int)) = true := decide_eq_true c6
            clear c6
            by_cases c7 : 0 ≤ x4_1
            · rw [if_pos c7] at H
              have c7b0 : decide (0 ≤ x4_1) = true := decide_eq_true c7
              clear c7
              replace H := Option.bind_eq_some_iff.mp H
              obtain ⟨⟨t105, t106⟩, A80, H⟩ := H
              replace H : (if x4_1 < (x3_1.length : Int) then (laws_toNoteS.l0 k1 l0 (x3_1.set (x4_1 : Int).toNat (⟨t105, t106⟩ : S60)) (wrap64 (x4_1 + 1))) else (none)) = some r := H
              have A8 := Aside0.mk A80
              clear A80
              by_cases c9 : x4_1 < (x3_1.length : Int)
              · rw [if_pos c9] at H
                have c9b0 : decide (x4_1 < (x3_1.length : Int)) = true := decide_eq_true c9
                clear c9
                obtain ⟨y107, hy107⟩ : ∃ y_ : List (S60), y_ = (x3_1.set (x4_1 : Int).toNat (⟨t105, t106⟩ : S60)) := ⟨_, rfl⟩
                replace H : (laws_toNoteS.l0 k1 l0 y107 (wrap64 (x4_1 + 1))) = some r := by first | (rw [hy107]; with_reducible exact H) | (have H2_ := (Option.bind_some _ _).symm.trans H; rw [hy107]; with_reducible exact H2_) | (have H2_ := (Option.bind_some _ _).symm.trans H; with_reducible exact H2_) | with_reducible exact H | (rw [hy107]; exact H) | exact H
                have Ny107 := Aside0.mk hy107
                clear hy107
                have H' := Aside0.mk H
                clear H
                have p104 : 0 ≤ (x4_1 : Int) := of_decide_eq_true (by first | (with_reducible assumption) | assumption)
                have q104 : x4_1 < (l0.length : Int) := of_decide_eq_true (by first | (with_reducible assumption) | assumption)
                obtain ⟨ad104, e104, hx104_0, hx104_1⟩ := at_T62 HR0.out x4_1 p104 q104
                cases e104
                replace hx104_0 := (HB.out.cell (World.block_lt_of_cell? w _ hx104_0)).trans hx104_0
                replace hx104_1 := (HB.out.cell (World.block_lt_of_cell? w _ hx104_1)).trans hx104_1
                replace p104 := eq_true p104
                replace q104 := eq_true q104
                go_wp2_with (first | ((with_reducible refine gate_callee (f := 46) rfl ?_); refine goesL_ (some 20) rfl rfl Tryd.func46 (by kernel_rfl) rfl #[.agg #[.int .i64 ((rd_T62 l0 x4_1).f0), .int .i64 ((rd_T62 l0 x4_1).f1)]] rfl (by (try simp only [List.map_toArray, List.map_cons, List.map_nil]); first | done | rfl | (simp only [List.length_drop, List.length_take]; rfl)) ?_; (with_reducible refine (laws_toNote.calls ((rd_T62 l0 x4_1).f0) ((rd_T62 l0 x4_1).f1) t105 t106 _ A8.out).mono ?_); rintro e w11 ⟨rfl, hb⟩; refine ⟨_, rfl, ?_⟩; have n0_ := Aside0.mk (Kd.R_below (by (with_reducible repeat (first | apply Kd.R_alloc | apply Kd.R_drewN | apply Kd.R_drew)); exact HO_3.out) hb); have n1_ := Aside0.mk (below_step (by repeat (first | (with_reducible first | exact HB.out | apply below_alloc | apply pw_below_drewN | apply below_drew1) | exact HB.out)) hb); clear HO_3; clear HB; have HO_3 := n0_; have HB := n1_; clear n0_ n1_; (try clear hb); (try clear hb2); (try clear hk); (try clear hi); have p10 : 0 ≤ (x4_1 : Int) := of_decide_eq_true (by first | (with_reducible assumption) | assumption); have q10 : (x4_1 : Int) < ((x3_1.length : Int) : Int) := of_decide_eq_true (by first | (with_reducible assumption) | assumption); obtain ⟨go10, co10, eo10, gb10, gl10, cl10, HG10⟩ := Kd.R_form HO_3.out (by omega); (first | cases eo10 | (injection eo10 with ea_ en_ ec_; (first | subst ea_ | (injection ea_ with ea_; subst ea_)); subst ec_; clear en_)); have GB10 := Aside0.mk gb10; have GG10 := Aside0.mk HG10; clear gb10 gl10 HG10; obtain ⟨ce10, hcl10, hM10, hcc10, hfr10⟩ := Kd.R_elem HO_3.out z60 (x4_1 : Int) p10 q10; obtain rfl := k60_openM hM10; have hx10_0 : w11.cell? ⟨go10, (x4_1 : Int).toNat * 2, none⟩ = some (.int .i64 ((rd_T60 x3_1 x4_1).f0)) := hcc10 0 _ rfl; have hx10_1 : w11.cell? ⟨go10, (x4_1 : Int).toNat * 2 + 1, none⟩ = some (.int .i64 ((rd_T60 x3_1 x4_1).f1)) := hcc10 1 _ rfl; have hf10_0 : w11.frozen? ⟨go10, (x4_1 : Int).toNat * 2, none⟩ = false := hfr10 0; have hf10_1 : w11.frozen? ⟨go10, (x4_1 : Int).toNat * 2 + 1, none⟩ = false := hfr10 1; clear hcl10 hcc10 hfr10 hM10; replace p10 := eq_true p10; replace q10 := eq_true q10; have HX12 := Aside0.mk (show Kd.R k60 60 w11 w.heap.size (fun _ => True) (.slice (some ⟨go10, 0, none⟩) x3_1.length co10) x3_1 from (by (with_reducible repeat (first | apply Kd.R_alloc | apply Kd.R_drewN | apply Kd.R_drew)); exact HO_3.out)); obtain ⟨ce12, hcl12, hM12, hcc12, hfr12⟩ := Kd.R_elem HX12.out z60 (x4_1 : Int) (of_decide_eq_true (by first | (with_reducible assumption) | assumption)) (by have h_ : (x4_1 : Int) < ((x3_1.length : Int) : Int) := of_decide_eq_true (by first | (with_reducible assumption) | assumption); first | exact h_ | (have e_ := (Kd.R_reads' HO_3.out).1; omega) | simpa using h_); obtain rfl := k60_openM hM12; have HP12 := Kd.R_seg HX12.out (x4_1 : Int) (of_decide_eq_true (by first | (with_reducible assumption) | assumption)) (by have h_ : (x4_1 : Int) < ((x3_1.length : Int) : Int) := of_decide_eq_true (by first | (with_reducible assumption) | assumption); first | exact h_ | (have e_ := (Kd.R_reads' HO_3.out).1; omega) | simpa using h_) (seg := [.int .i64 t105, .int .i64 t106]) (j := 0) hcl12 hcc12 (show 2 ≤ 2 from by decide) (x' := (⟨t105, t106⟩ : S60)) (k60_mkM _ _ _ (⟨t105, t106⟩ : S60) ) (fun _ hk => hk); have hx12_0 := hcc12 0 _ rfl; (try simp only [show (k60).sz = 2 from rfl, Nat.mul_one, Nat.add_zero] at hx12_0); have hf12_0 := hfr12 0; (try simp only [show (k60).sz = 2 from rfl, Nat.mul_one, Nat.add_zero] at hf12_0); have hx12_1 := hcc12 1 _ rfl; (try simp only [show (k60).sz = 2 from rfl, Nat.mul_one, Nat.add_zero] at hx12_1); have hf12_1 := hfr12 1; (try simp only [show (k60).sz = 2 from rfl, Nat.mul_one, Nat.add_zero] at hf12_1); clear hcl12 hcc12 hfr12 hM12) | ((with_reducible refine gate_store (t := 60) (p := 21) rfl ?_); refine store_event (t := 60) (p := 21) (v := ?vo_w13) (w1 := ((w11.setCell ⟨go10, (x4_1 : Int).toNat * 2, none⟩ (.int .i64 t105)).setCell ⟨go10, (x4_1 : Int).toNat * 2 + 1, none⟩ (.int .i64 t106))) ?hg ?ho ?hn ?hr ?_; (case ho => rfl); (case hg => rfl); (case hn => rfl); (case hr => first | (go_simp; done) | (go_simp; rfl)); intro w13 hw; have hg : w11.grownBy w13 (some go10) := (by rw [hw]; exact HP12.2); have hp_ : Kd.R k60 60 w13 w.heap.size (fun _ => True) (.slice (some ⟨go10, 0, none⟩) x3_1.length co10) y107 := (by rw [hw, Ny107.out]; exact HP12.1); clear HP12; have n0_ := Aside0.mk (hp_); have n1_ := Aside0.mk ((by rw [hw]; exact below_set (below_set (HB.out) GB10.out) GB10.out : Below w.heap.size w w13)); clear HO_3; clear HB; have HO_3 := n0_; have HB := n1_; clear n0_ n1_; clear hg hw hp_))
                go_roundg k1
                case measure => have := HK1.out; omega
                case rel => exact ⟨(y107), (wrap64 (x4_1 + 1)), (by first | rfl | (simp; done) | (simp [*]; done)), H', ⟨by have := HK1.out; omega⟩, ⟨by (with_reducible repeat (first | apply Kd.R_alloc | apply Kd.R_drewN | apply Kd.R_drew)); exact HO_3.out⟩, ⟨by repeat (first | (with_reducible first | exact HB.out | apply below_alloc | apply pw_below_drewN | apply below_drew1) | exact HB.out)⟩⟩
              · rw [if_neg c9] at H
                exact absurd H (by simp)
            · rw [if_neg c7] at H
              exact absurd H (by simp)
          · rw [if_neg c6] at H
            have c6b0 : decide (x4_1 < (l0.length : Int)) = false := decide_eq_false c6
            clear c6
            obtain rfl := Option.some.inj H
            go_wp2
            go_ret
            exact ⟨_, by first | rfl | (simp [errW_none, errW_some] <;> rfl) | (simp [*, errW_none, errW_some] <;> rfl), by (with_reducible repeat (first | apply Kd.R_alloc | apply Kd.R_drewN | apply Kd.R_drew)); exact HO_3.out, by repeat (first | (with_reducible first | exact HB.out | apply below_alloc | apply pw_below_drewN | apply below_drew1) | exact HB.out)⟩
    · rw [if_neg c3] at H
      exact absurd H (by simp)
  · rw [if_neg c2] at H
    exact absurd H (by simp)

end Go.Proofs.YtpfalhbeeodjaaaDoor.P

/- laws_eqNote: what it answers, and that the machine's call comes to it. -/
namespace Go.Proofs.YtpfalhbeeodjaaaDoor.P
open Go.RowKit Go.Proofs.YtpfalhbeeodjaaaDoorW.PrintWords Go.Proofs.YtpfalhbeeodjaaaDoorW.PrintLast Go.Proofs.YtpfalhbeeodjaaaDoorW.PrintMore
attribute [local go_sem] max2_int min2_int max_two min_two max_three min_three max_four min_four str_leq str_gtr str_geq
set_option linter.unusedVariables false
set_option linter.unusedSimpArgs false

/-! ### laws_eqNote: function 49 -/
def laws_eqNote.f (a0_0 : Int) (a0_1 : Int) (a1_0 : Int) (a1_1 : Int) : Option (Bool) := if a0_0 = a1_0 then (if a0_1 = a1_1 then (some true) else (some false)) else (some false)
set_option maxHeartbeats 8000000 in
set_option maxRecDepth 100000 in
theorem laws_eqNote.calls (a0_0 : Int) (a0_1 : Int) (a1_0 : Int) (a1_1 : Int) (r : Bool) (w : World) (h : laws_eqNote.f a0_0 a0_1 a1_0 a1_1 = some r) :
    Calls Tryd.prog 49 #[.agg #[.int .i64 a0_0, .int .i64 a0_1], .agg #[.int .i64 a1_0, .int .i64 a1_1]] w fun e w' => e = .returned (.bool r) ∧ Below w.heap.size w w' := by
  have hu60 := Tryd.underlying60
  have HB := Aside0.mk (Below.refl w.heap.size w)
  have H : (if a0_0 = a1_0 then (if a0_1 = a1_1 then (some true) else (some false)) else (some false)) = some r := h
  clear h
  by_cases c3 : a0_0 = a1_0
  · rw [if_pos c3] at H
    have c3b0 : (a0_0 == a1_0) = true := beq_iff_eq.mpr c3
    have c3b1 : (a0_0 != a1_0) = false := bne_eq_false_iff_eq.mpr c3
    clear c3
    by_cases c4 : a0_1 = a1_1
    · rw [if_pos c4] at H
      have c4b0 : (a0_1 == a1_1) = true := beq_iff_eq.mpr c4
      have c4b1 : (a0_1 != a1_1) = false := bne_eq_false_iff_eq.mpr c4
      clear c4
      obtain rfl := Option.some.inj H
      go_enter Tryd.func49, Tryd.ntmps49
      go_wp2_with (first | ((with_reducible refine gate_dst (N := 2) rfl ?_); refine box_event ?hg (N := 2) ?hd (cs := #[.int .i64 a0_0, .int .i64 a0_1]) (t := 60) ?hr ?_; (case hd => rfl); (case hg => rfl); (case hr => first | (go_simp; done) | (go_simp; rfl)); intro gb101 hg w5 hbox hb; have n0_ := Aside0.mk (below_step (by repeat (first | (with_reducible first | exact HB.out | apply below_alloc | apply pw_below_drewN | apply below_drew1) | exact HB.out)) hb); have n1_ := Aside0.mk (hbox); have n2_ := Aside0.mk ((by rw [hg]; exact (below_size (by repeat (first | (with_reducible first | exact HB.out | apply below_alloc | apply pw_below_drewN | apply below_drew1) | exact HB.out))) : w.heap.size ≤ gb101)); have n3_ := Aside0.mk ((by rw [hg]; exact (below_size (by repeat (first | (with_reducible first | exact HB.out | apply below_alloc | apply pw_below_drewN | apply below_drew1) | exact HB.out))) : w.heap.size ≤ gb101)); clear HB; have HB := n0_; have BK101 := n1_; have GW101 := n2_; have GE101 := n3_; clear n0_ n1_ n2_ n3_; clear hb hbox hg) | ((with_reducible refine gate_dst (N := 3) rfl ?_); refine box_event ?hg (N := 3) ?hd (cs := #[.int .i64 a1_0, .int .i64 a1_1]) (t := 60) ?hr ?_; (case hd => rfl); (case hg => rfl); (case hr => first | (go_simp; done) | (go_simp; rfl)); intro gb102 hg w6 hbox hb; have n0_ := Aside0.mk (blk_below (g := gb101) (o := .cells #[.int .i64 a0_0, .int .i64 a0_1] 60 (0, 0)) (by (with_reducible repeat (first | refine blk_drewN ?_ _ | refine blk_drew ?_ | refine blk_alloc ?_ _)); exact BK101.out) hb); have n1_ := Aside0.mk (below_step (by repeat (first | (with_reducible first | exact HB.out | apply below_alloc | apply pw_below_drewN | apply below_drew1 | refine below_set ?_ GE101.out) | exact HB.out)) hb); have n2_ := Aside0.mk (hbox); have n3_ := Aside0.mk ((by rw [hg]; exact (below_size (by repeat (first | (with_reducible first | exact HB.out | apply below_alloc | apply pw_below_drewN | apply below_drew1 | refine below_set ?_ GE101.out) | exact HB.out))) : w.heap.size ≤ gb102)); have n4_ := Aside0.mk ((by rw [hg]; exact (below_size (by repeat (first | (with_reducible first | exact HB.out | apply below_alloc | apply pw_below_drewN | apply below_drew1 | refine below_set ?_ GE101.out) | exact HB.out))) : w.heap.size ≤ gb102)); have n5_ := Aside0.mk ((by rw [hg]; exact Nat.ne_of_lt (blk_lt (g := gb101) (o := .cells #[.int .i64 a0_0, .int .i64 a0_1] 60 (0, 0)) (by (with_reducible repeat (first | refine blk_drewN ?_ _ | refine blk_drew ?_ | refine blk_alloc ?_ _)); exact BK101.out)) : gb101 ≠ gb102)); have n6_ := Aside0.mk ((by rw [hg]; exact Nat.ne_of_gt (blk_lt (g := gb101) (o := .cells #[.int .i64 a0_0, .int .i64 a0_1] 60 (0, 0)) (by (with_reducible repeat (first | refine blk_drewN ?_ _ | refine blk_drew ?_ | refine blk_alloc ?_ _)); exact BK101.out)) : gb102 ≠ gb101)); clear BK101; clear HB; have BK101 := n0_; have HB := n1_; have BK102 := n2_; have GW102 := n3_; have GE102 := n4_; have NB101_102 := n5_; have NB102_101 := n6_; clear n0_ n1_ n2_ n3_ n4_ n5_ n6_; clear hb hbox hg; have hnb7 := NB101_102.out; have hnc7 := NB102_101.out; have hcz8_0 : w6.cell? ⟨gb101, 0, none⟩ = some (.int .i64 a0_0) := (blk_cell BK101.out 0).trans rfl; have hcz8_1 : w6.cell? ⟨gb101, 1, none⟩ = some (.int .i64 a0_1) := (blk_cell BK101.out 1).trans rfl; have hfz8_0 := blk_frozen BK101.out 0; have hfz8_1 := blk_frozen BK101.out 1; have hcz9_0 : w6.cell? ⟨gb102, 0, none⟩ = some (.int .i64 a1_0) := (blk_cell BK102.out 0).trans rfl; have hcz9_1 : w6.cell? ⟨gb102, 1, none⟩ = some (.int .i64 a1_1) := (blk_cell BK102.out 1).trans rfl; have hfz9_0 := blk_frozen BK102.out 0; have hfz9_1 := blk_frozen BK102.out 1))
      go_ret
      exact ⟨by first | rfl | (simp [errW_none, errW_some] <;> rfl) | (simp [*, errW_none, errW_some] <;> rfl), by repeat (first | (with_reducible first | exact HB.out | apply below_alloc | apply pw_below_drewN | apply below_drew1 | refine below_set ?_ GE101.out | refine below_set ?_ GE102.out) | exact HB.out)⟩
    · rw [if_neg c4] at H
      have c4b0 : (a0_1 == a1_1) = false := beq_eq_false_iff_ne.mpr c4
      have c4b1 : (a0_1 != a1_1) = true := bne_iff_ne.mpr c4
      obtain rfl := Option.some.inj H
      go_enter Tryd.func49, Tryd.ntmps49
      go_wp2_with (first | ((with_reducible refine gate_dst (N := 2) rfl ?_); refine box_event ?hg (N := 2) ?hd (cs := #[.int .i64 a0_0, .int .i64 a0_1]) (t := 60) ?hr ?_; (case hd => rfl); (case hg => rfl); (case hr => first | (go_simp; done) | (go_simp; rfl)); intro gb101 hg w10 hbox hb; have n0_ := Aside0.mk (below_step (by repeat (first | (with_reducible first | exact HB.out | apply below_alloc | apply pw_below_drewN | apply below_drew1) | exact HB.out)) hb); have n1_ := Aside0.mk (hbox); have n2_ := Aside0.mk ((by rw [hg]; exact (below_size (by repeat (first | (with_reducible first | exact HB.out | apply below_alloc | apply pw_below_drewN | apply below_drew1) | exact HB.out))) : w.heap.size ≤ gb101)); have n3_ := Aside0.mk ((by rw [hg]; exact (below_size (by repeat (first | (with_reducible first | exact HB.out | apply below_alloc | apply pw_below_drewN | apply below_drew1) | exact HB.out))) : w.heap.size ≤ gb101)); clear HB; have HB := n0_; have BK101 := n1_; have GW101 := n2_; have GE101 := n3_; clear n0_ n1_ n2_ n3_; clear hb hbox hg) | ((with_reducible refine gate_dst (N := 3) rfl ?_); refine box_event ?hg (N := 3) ?hd (cs := #[.int .i64 a1_0, .int .i64 a1_1]) (t := 60) ?hr ?_; (case hd => rfl); (case hg => rfl); (case hr => first | (go_simp; done) | (go_simp; rfl)); intro gb102 hg w11 hbox hb; have n0_ := Aside0.mk (blk_below (g := gb101) (o := .cells #[.int .i64 a0_0, .int .i64 a0_1] 60 (0, 0)) (by (with_reducible repeat (first | refine blk_drewN ?_ _ | refine blk_drew ?_ | refine blk_alloc ?_ _)); exact BK101.out) hb); have n1_ := Aside0.mk (below_step (by repeat (first | (with_reducible first | exact HB.out | apply below_alloc | apply pw_below_drewN | apply below_drew1 | refine below_set ?_ GE101.out) | exact HB.out)) hb); have n2_ := Aside0.mk (hbox); have n3_ := Aside0.mk ((by rw [hg]; exact (below_size (by repeat (first | (with_reducible first | exact HB.out | apply below_alloc | apply pw_below_drewN | apply below_drew1 | refine below_set ?_ GE101.out) | exact HB.out))) : w.heap.size ≤ gb102)); have n4_ := Aside0.mk ((by rw [hg]; exact (below_size (by repeat (first | (with_reducible first | exact HB.out | apply below_alloc | apply pw_below_drewN | apply below_drew1 | refine below_set ?_ GE101.out) | exact HB.out))) : w.heap.size ≤ gb102)); have n5_ := Aside0.mk ((by rw [hg]; exact Nat.ne_of_lt (blk_lt (g := gb101) (o := .cells #[.int .i64 a0_0, .int .i64 a0_1] 60 (0, 0)) (by (with_reducible repeat (first | refine blk_drewN ?_ _ | refine blk_drew ?_ | refine blk_alloc ?_ _)); exact BK101.out)) : gb101 ≠ gb102)); have n6_ := Aside0.mk ((by rw [hg]; exact Nat.ne_of_gt (blk_lt (g := gb101) (o := .cells #[.int .i64 a0_0, .int .i64 a0_1] 60 (0, 0)) (by (with_reducible repeat (first | refine blk_drewN ?_ _ | refine blk_drew ?_ | refine blk_alloc ?_ _)); exact BK101.out)) : gb102 ≠ gb101)); clear BK101; clear HB; have BK101 := n0_; have HB := n1_; have BK102 := n2_; have GW102 := n3_; have GE102 := n4_; have NB101_102 := n5_; have NB102_101 := n6_; clear n0_ n1_ n2_ n3_ n4_ n5_ n6_; clear hb hbox hg; have hnb12 := NB101_102.out; have hnc12 := NB102_101.out; have hcz13_0 : w11.cell? ⟨gb101, 0, none⟩ = some (.int .i64 a0_0) := (blk_cell BK101.out 0).trans rfl; have hcz13_1 : w11.cell? ⟨gb101, 1, none⟩ = some (.int .i64 a0_1) := (blk_cell BK101.out 1).trans rfl; have hfz13_0 := blk_frozen BK101.out 0; have hfz13_1 := blk_frozen BK101.out 1; have hcz14_0 : w11.cell? ⟨gb102, 0, none⟩ = some (.int .i64 a1_0) := (blk_cell BK102.out 0).trans rfl; have hcz14_1 : w11.cell? ⟨gb102, 1, none⟩ = some (.int .i64 a1_1) := (blk_cell BK102.out 1).trans rfl; have hfz14_0 := blk_frozen BK102.out 0; have hfz14_1 := blk_frozen BK102.out 1))
      go_ret
      exact ⟨by first | rfl | (simp [errW_none, errW_some] <;> rfl) | (simp [*, errW_none, errW_some] <;> rfl), by repeat (first | (with_reducible first | exact HB.out | apply below_alloc | apply pw_below_drewN | apply below_drew1 | refine below_set ?_ GE101.out | refine below_set ?_ GE102.out) | exact HB.out)⟩
  · rw [if_neg c3] at H
    have c3b0 : (a0_0 == a1_0) = false := beq_eq_false_iff_ne.mpr c3
    have c3b1 : (a0_0 != a1_0) = true := bne_iff_ne.mpr c3
    obtain rfl := Option.some.inj H
    go_enter Tryd.func49, Tryd.ntmps49
    go_wp2_with (first | ((with_reducible refine gate_dst (N := 2) rfl ?_); refine box_event ?hg (N := 2) ?hd (cs := #[.int .i64 a0_0, .int .i64 a0_1]) (t := 60) ?hr ?_; (case hd => rfl); (case hg => rfl); (case hr => first | (go_simp; done) | (go_simp; rfl)); intro gb101 hg w15 hbox hb; have n0_ := Aside0.mk (below_step (by repeat (first | (with_reducible first | exact HB.out | apply below_alloc | apply pw_below_drewN | apply below_drew1) | exact HB.out)) hb); have n1_ := Aside0.mk (hbox); have n2_ := Aside0.mk ((by rw [hg]; exact (below_size (by repeat (first | (with_reducible first | exact HB.out | apply below_alloc | apply pw_below_drewN | apply below_drew1) | exact HB.out))) : w.heap.size ≤ gb101)); have n3_ := Aside0.mk ((by rw [hg]; exact (below_size (by repeat (first | (with_reducible first | exact HB.out | apply below_alloc | apply pw_below_drewN | apply below_drew1) | exact HB.out))) : w.heap.size ≤ gb101)); clear HB; have HB := n0_; have BK101 := n1_; have GW101 := n2_; have GE101 := n3_; clear n0_ n1_ n2_ n3_; clear hb hbox hg) | ((with_reducible refine gate_dst (N := 3) rfl ?_); refine box_event ?hg (N := 3) ?hd (cs := #[.int .i64 a1_0, .int .i64 a1_1]) (t := 60) ?hr ?_; (case hd => rfl); (case hg => rfl); (case hr => first | (go_simp; done) | (go_simp; rfl)); intro gb102 hg w16 hbox hb; have n0_ := Aside0.mk (blk_below (g := gb101) (o := .cells #[.int .i64 a0_0, .int .i64 a0_1] 60 (0, 0)) (by (with_reducible repeat (first | refine blk_drewN ?_ _ | refine blk_drew ?_ | refine blk_alloc ?_ _)); exact BK101.out) hb); have n1_ := Aside0.mk (below_step (by repeat (first | (with_reducible first | exact HB.out | apply below_alloc | apply pw_below_drewN | apply below_drew1 | refine below_set ?_ GE101.out) | exact HB.out)) hb); have n2_ := Aside0.mk (hbox); have n3_ := Aside0.mk ((by rw [hg]; exact (below_size (by repeat (first | (with_reducible first | exact HB.out | apply below_alloc | apply pw_below_drewN | apply below_drew1 | refine below_set ?_ GE101.out) | exact HB.out))) : w.heap.size ≤ gb102)); have n4_ := Aside0.mk ((by rw [hg]; exact (below_size (by repeat (first | (with_reducible first | exact HB.out | apply below_alloc | apply pw_below_drewN | apply below_drew1 | refine below_set ?_ GE101.out) | exact HB.out))) : w.heap.size ≤ gb102)); have n5_ := Aside0.mk ((by rw [hg]; exact Nat.ne_of_lt (blk_lt (g := gb101) (o := .cells #[.int .i64 a0_0, .int .i64 a0_1] 60 (0, 0)) (by (with_reducible repeat (first | refine blk_drewN ?_ _ | refine blk_drew ?_ | refine blk_alloc ?_ _)); exact BK101.out)) : gb101 ≠ gb102)); have n6_ := Aside0.mk ((by rw [hg]; exact Nat.ne_of_gt (blk_lt (g := gb101) (o := .cells #[.int .i64 a0_0, .int .i64 a0_1] 60 (0, 0)) (by (with_reducible repeat (first | refine blk_drewN ?_ _ | refine blk_drew ?_ | refine blk_alloc ?_ _)); exact BK101.out)) : gb102 ≠ gb101)); clear BK101; clear HB; have BK101 := n0_; have HB := n1_; have BK102 := n2_; have GW102 := n3_; have GE102 := n4_; have NB101_102 := n5_; have NB102_101 := n6_; clear n0_ n1_ n2_ n3_ n4_ n5_ n6_; clear hb hbox hg; have hnb17 := NB101_102.out; have hnc17 := NB102_101.out; have hcz18_0 : w16.cell? ⟨gb101, 0, none⟩ = some (.int .i64 a0_0) := (blk_cell BK101.out 0).trans rfl; have hcz18_1 : w16.cell? ⟨gb101, 1, none⟩ = some (.int .i64 a0_1) := (blk_cell BK101.out 1).trans rfl; have hfz18_0 := blk_frozen BK101.out 0; have hfz18_1 := blk_frozen BK101.out 1; have hcz19_0 : w16.cell? ⟨gb102, 0, none⟩ = some (.int .i64 a1_0) := (blk_cell BK102.out 0).trans rfl; have hcz19_1 : w16.cell? ⟨gb102, 1, none⟩ = some (.int .i64 a1_1) := (blk_cell BK102.out 1).trans rfl; have hfz19_0 := blk_frozen BK102.out 0; have hfz19_1 := blk_frozen BK102.out 1))
    go_ret
    exact ⟨by first | rfl | (simp [errW_none, errW_some] <;> rfl) | (simp [*, errW_none, errW_some] <;> rfl), by repeat (first | (with_reducible first | exact HB.out | apply below_alloc | apply pw_below_drewN | apply below_drew1 | refine below_set ?_ GE101.out | refine below_set ?_ GE102.out) | exact HB.out)⟩

end Go.Proofs.YtpfalhbeeodjaaaDoor.P

/- laws_eqNoteS: what it answers, and that the machine's call comes to it. -/
namespace Go.Proofs.YtpfalhbeeodjaaaDoor.P
open Go.RowKit Go.Proofs.YtpfalhbeeodjaaaDoorW.PrintWords Go.Proofs.YtpfalhbeeodjaaaDoorW.PrintLast Go.Proofs.YtpfalhbeeodjaaaDoorW.PrintMore
attribute [local go_sem] max2_int min2_int max_two min_two max_three min_three max_four min_four str_leq str_gtr str_geq
set_option linter.unusedVariables false
set_option linter.unusedSimpArgs false

/-! ### laws_eqNoteS: function 22 -/
def laws_eqNoteS.l0 : Nat → List (S60) → List (S60) → Int → Option (Bool)
  | 0, _, _, _ => none
  | k + 1, x0, x1, x5 => if x5 < (x0.length : Int) then (if 0 ≤ x5 then (if x5 < (x1.length : Int) then ((laws_eqNote.f ((rd_T60 x0 x5).f0) ((rd_T60 x0 x5).f1) ((rd_T60 x1 x5).f0) ((rd_T60 x1 x5).f1)).bind fun t103 => (if t103 = true then (laws_eqNoteS.l0 k x0 x1 (wrap64 (x5 + 1))) else (some false))) else (none)) else (none)) else (some true)
def laws_eqNoteS.f (k : Nat) (l0 : List (S60)) (l1 : List (S60)) : Option (Bool) := if (l0.length : Int) = (l1.length : Int) then (laws_eqNoteS.l0 k l0 l1 0) else (some false)
theorem laws_eqNoteS.mono_l : ∀ k, (∀ y0 y1 y2, LeO (laws_eqNoteS.l0 k y0 y1 y2) (laws_eqNoteS.l0 (k + 1) y0 y1 y2))
  | 0 => fun _ _ _ r h => by simp [laws_eqNoteS.l0] at h
  | k + 1 => by
    have ih0 := laws_eqNoteS.mono_l k
    · intro y0 y1 y2
      unfold laws_eqNoteS.l0
      repeat' first
      | (with_reducible exact ih0 _ _ _)
      | (with_reducible exact LeO.refl _)
      | (with_reducible exact LeO.none _)
      | (with_reducible refine LeO.ite ?_ ?_)
      | (with_reducible refine LeO.bind ?_ (fun _ => ?_))
      | exact ih0 _ _ _
      | exact LeO.none _
      | refine LeO.ite ?_ ?_
      | refine LeO.bind ?_ (fun _ => ?_)
theorem laws_eqNoteS.mono : ∀ a0 a1 k, LeO (laws_eqNoteS.f k a0 a1) (laws_eqNoteS.f (k + 1) a0 a1) := by
  intro a0 a1 k
  have ih0 := laws_eqNoteS.mono_l k
  unfold laws_eqNoteS.f
  repeat' first
      | (with_reducible exact ih0 _ _ _)
      | (with_reducible exact LeO.refl _)
      | (with_reducible exact LeO.none _)
      | (with_reducible refine LeO.ite ?_ ?_)
      | (with_reducible refine LeO.bind ?_ (fun _ => ?_))
      | exact ih0 _ _ _
      | exact LeO.none _
      | refine LeO.ite ?_ ?_
      | refine LeO.bind ?_ (fun _ => ?_)
def laws_eqNoteS.T6 : Bool × List (List Nat × List Nat) := (true, [([], []), ([], []), ([0, 1], [0, 1]), ([2], [2]), ([], []), ([], []), ([4, 5], [4, 5]), ([6], [6]), ([3, 7], [3, 7]), ([8], [8])])
def laws_eqNoteS.B6 : List Nat := [0, 0, 3, 7, 0, 0, 48, 112, 255, 511]
theorem laws_eqNoteS.tab6 : rtab .any (opsOf Tryd.f22 6) = laws_eqNoteS.T6 := by kernel_rfl
theorem laws_eqNoteS.bits6 : waitsOk laws_eqNoteS.T6.2 laws_eqNoteS.B6 = true := by kernel_rfl
set_option maxHeartbeats 8000000 in
set_option maxRecDepth 100000 in
theorem laws_eqNoteS.calls (k : Nat) (A0 : Option Addr) (c0 : Nat) (l0 : List (S60)) (A1 : Option Addr) (c1 : Nat) (l1 : List (S60)) (r : Bool) (w : World) (hr0 : Kd.C k60 w A0 l0.length l0) (hc0 : l0.length ≤ c0) (hr1 : Kd.C k60 w A1 l1.length l1) (hc1 : l1.length ≤ c1) (h : laws_eqNoteS.f k l0 l1 = some r) :
    Calls Tryd.prog 22 #[.slice A0 l0.length c0, .slice A1 l1.length c1] w fun e w' => e = .returned (.bool r) ∧ Below w.heap.size w w' := by
  have hu60 := Tryd.underlying60
  have HR0 := Aside0.mk hr0
  have HC0 := Aside0.mk hc0
  clear hr0 hc0
  have HR1 := Aside0.mk hr1
  have HC1 := Aside0.mk hc1
  clear hr1 hc1
  have HB := Aside0.mk (Below.refl w.heap.size w)
  have H : (if (l0.length : Int) = (l1.length : Int) then (laws_eqNoteS.l0 k l0 l1 0) else (some false)) = some r := h
  clear h
  by_cases c3 : (l0.length : Int) = (l1.length : Int)
  · rw [if_pos c3] at H
    have c3b0 : ((l0.length : Int) == (l1.length : Int)) = true := beq_iff_eq.mpr c3
    have c3b1 : ((l0.length : Int) != (l1.length : Int)) = false := bne_eq_false_iff_eq.mpr c3
    have c3b2 : (l0.length == l1.length) = true := by first | simpa using c3 | (simp at c3 ⊢; omega)
    clear c3
    have H' := Aside0.mk H
    clear H
    go_enter Tryd.func22, Tryd.ntmps22
    go_wp2
    go_loopg [5] k (fun kq v5 w' => ∃ (x5_1 : Int), v5 = .int .i64 x5_1 ∧ Aside0 (laws_eqNoteS.l0 kq l0 l1 x5_1 = some r) ∧ Aside0 (kq ≤ k) ∧ Aside0 (Below w.heap.size w w'))
    case atStart => exact ⟨(0), (by first | rfl | (simp; done) | (simp [*]; done)), H', ⟨Nat.le_refl _⟩, ⟨by repeat (first | (with_reducible first | exact HB.out | apply below_alloc | apply pw_below_drewN | apply below_drew1) | exact HB.out)⟩⟩
    case round =>
      clear H'
      try clear c1
      try clear c2
      try clear p2
      try clear c3
      try clear c3b0
      try clear c3b1
      try clear c3b2
      obtain ⟨x5_1, rfl, HA, HK1, HB⟩ := hrel
      cases gk with
      | zero => exact absurd HA.out (by simp [laws_eqNoteS.l0])
      | succ k1 =>
        have H := HA.out
        clear HA
        simp only [laws_eqNoteS.l0] at H
        by_cases c4 : x5_1 < (l0.length : Int)
        · rw [if_pos c4] at H
          have c4b0 : decide (x5_1 < (l0.length : Int)) = true := decide_eq_true c4
          clear c4
          by_cases c5 : 0 ≤ x5_1
          · rw [if_pos c5] at H
            have c5b0 : decide (0 ≤ x5_1) = true := decide_eq_true c5
            clear c5
            by_cases c6 : x5_1 < (l1.length : Int)
            · rw [if_pos c6] at H
              have c6b0 : decide (x5_1 < (l1.length : Int)) = true := decide_eq_true c6
              clear c6
              replace H := Option.bind_eq_some_iff.mp H
              obtain ⟨t103, A70, H⟩ := H
              replace H : (if t103 = true then (laws_eqNoteS.l0 k1 l0 l1 (wrap64 (x5_1 + 1))) else (some false)) = some r := H
              have A7 := Aside0.mk A70
              clear A70
              by_cases c8 : t103 = true
              · subst c8
                have H1 : (laws_eqNoteS.l0 k1 l0 l1 (wrap64 (x5_1 + 1))) = some r := by rw [if_pos rfl] at H; exact H
                clear H
                have H := H1
                clear H1
                have H' := Aside0.mk H
                clear H
                try go_wp2
                have n0_ := Aside0.mk (below_drew1 HB.out)
                clear HB
                have HB := n0_
                clear n0_
                have p101 : 0 ≤ (x5_1 : Int) := of_decide_eq_true (by first | (with_reducible assumption) | assumption)
                have q101 : x5_1 < (l0.length : Int) := of_decide_eq_true (by first | (with_reducible assumption) | assumption)
                obtain ⟨ad101, e101, hx101_0, hx101_1⟩ := at_T60 HR0.out x5_1 p101 q101
                have hw101_1 := hx101_1
                have hw101_0 := hx101_0
                cases e101
                replace hx101_0 := (HB.out.cell (World.block_lt_of_cell? w _ hx101_0)).trans hx101_0
                replace hx101_1 := (HB.out.cell (World.block_lt_of_cell? w _ hx101_1)).trans hx101_1
                replace p101 := eq_true p101
                replace q101 := eq_true q101
                have p102 : 0 ≤ (x5_1 : Int) := of_decide_eq_true (by first | (with_reducible assumption) | assumption)
                have q102 : x5_1 < (l1.length : Int) := of_decide_eq_true (by first | (with_reducible assumption) | assumption)
                obtain ⟨ad102, e102, hx102_0, hx102_1⟩ := at_T60 HR1.out x5_1 p102 q102
                have hw102_1 := hx102_1
                have hw102_0 := hx102_0
                cases e102
                replace hx102_0 := (HB.out.cell (World.block_lt_of_cell? w _ hx102_0)).trans hx102_0
                replace hx102_1 := (HB.out.cell (World.block_lt_of_cell? w _ hx102_1)).trans hx102_1
                replace p102 := eq_true p102
                replace q102 := eq_true q102
                refine start_ (n := 10) (S := fun w' => w'.cell? (ad101.add ((x5_1).toNat * 2)) = some (.int .i64 ((rd_T60 l0 x5_1).f0)) ∧ w'.cell? ⟨(ad101.add ((x5_1).toNat * 2)).block, (ad101.add ((x5_1).toNat * 2)).off + 1, none⟩ = some (.int .i64 ((rd_T60 l0 x5_1).f1)) ∧ w'.cell? (ad102.add ((x5_1).toNat * 2)) = some (.int .i64 ((rd_T60 l1 x5_1).f0)) ∧ w'.cell? ⟨(ad102.add ((x5_1).toNat * 2)).block, (ad102.add ((x5_1).toNat * 2)).off + 1, none⟩ = some (.int .i64 ((rd_T60 l1 x5_1).f1))) (ds := []) #[false, false, false, false, false, false, false, false, false, false] (by kernel_rfl) rfl rfl ⟨((HB.out.cell (World.block_lt_of_cell? w _ hw101_0)).trans hw101_0), ((HB.out.cell (World.block_lt_of_cell? w _ hw101_1)).trans hw101_1), ((HB.out.cell (World.block_lt_of_cell? w _ hw102_0)).trans hw102_0), ((HB.out.cell (World.block_lt_of_cell? w _ hw102_1)).trans hw102_1)⟩ (fun hHeld => ?_); refine with_tabW laws_eqNoteS.tab6 laws_eqNoteS.bits6 (fun HT_ HW_ => ?_)
                generalize wr.drew = w9 at HB hx101_0 hx101_1 hx102_0 hx102_1 hHeld ⊢
                refine pure_ (i := 0) (N := some 17) (v := ?_) (a' := ?_) #[true, false, false, false, false, false, false, false, false, false] rfl rfl (any_of HT_.out (by kernel_rfl)) (fun _ _ _ h => h) (Or.inl ⟨by rfl, ?_⟩) ?_ ?_
                rotate_left
                · intro w'
                  go_simp
                  with_reducible rfl
                rotate_left
                · simp only [Act.put, List.setIfInBounds_toArray, List.set_cons_zero, List.set_cons_succ, i64_w, i32_w]
                  rfl
                refine pure_ (i := 1) (N := some 18) (v := ?_) (a' := ?_) #[true, true, false, false, false, false, false, false, false, false] rfl rfl (any_of HT_.out (by kernel_rfl)) (fun _ _ _ h => h) (Or.inl ⟨by rfl, ?_⟩) ?_ ?_
                rotate_left
                · intro w'
                  go_simp
                  with_reducible rfl
                rotate_left
                · simp only [Act.put, List.setIfInBounds_toArray, List.set_cons_zero, List.set_cons_succ, i64_w, i32_w]
                  rfl
                refine pure_ (i := 2) (N := some 19) (v := ?_) (a' := ?_) #[true, true, true, false, false, false, false, false, false, false] rfl rfl (any_of HT_.out (by kernel_rfl)) (fun _ _ _ h => h) (Or.inl ⟨by rfl, ?_⟩) ?_ ?_
                rotate_left
                · intro w'
                  go_simp
                  with_reducible rfl
                rotate_left
                · simp only [Act.put, List.setIfInBounds_toArray, List.set_cons_zero, List.set_cons_succ, i64_w, i32_w]
                  rfl
                refine pure_ (i := 4) (N := some 21) (v := ?_) (a' := ?_) #[true, true, true, false, true, false, false, false, false, false] rfl rfl (any_of HT_.out (by kernel_rfl)) (fun _ _ _ h => h) (Or.inl ⟨by rfl, ?_⟩) ?_ ?_
                rotate_left
                · intro w'
                  go_simp
                  with_reducible rfl
                rotate_left
                · simp only [Act.put, List.setIfInBounds_toArray, List.set_cons_zero, List.set_cons_succ, i64_w, i32_w]
                  rfl
                refine pure_ (i := 5) (N := some 22) (v := ?_) (a' := ?_) #[true, true, true, false, true, true, false, false, false, false] rfl rfl (any_of HT_.out (by kernel_rfl)) (fun _ _ _ h => h) (Or.inl ⟨by rfl, ?_⟩) ?_ ?_
                rotate_left
                · intro w'
                  go_simp
                  with_reducible rfl
                rotate_left
                · simp only [Act.put, List.setIfInBounds_toArray, List.set_cons_zero, List.set_cons_succ, i64_w, i32_w]
                  rfl
                refine pure_ (i := 6) (N := some 23) (v := ?_) (a' := ?_) #[true, true, true, false, true, true, true, false, false, false] rfl rfl (any_of HT_.out (by kernel_rfl)) (fun _ _ _ h => h) (Or.inl ⟨by rfl, ?_⟩) ?_ ?_
                rotate_left
                · intro w'
                  go_simp
                  with_reducible rfl
                rotate_left
                · simp only [Act.put, List.setIfInBounds_toArray, List.set_cons_zero, List.set_cons_succ, i64_w, i32_w]
                  rfl
                refine take_ (i := 3) (N := some 20) (v := ?_) (a' := ?_) #[true, true, true, true, true, true, true, false, false, false] rfl rfl (take_ofW HT_.out HW_.out (by kernel_rfl)) (fun _ _ _ h => h) (Or.inl ⟨by rfl, ?_⟩) hHeld ?_ ?_
                rotate_left
                · rintro w' ⟨s0, s1, s2, s3⟩
                  go_simp
                  with_reducible rfl
                rotate_left
                · simp only [Act.put, List.setIfInBounds_toArray, List.set_cons_zero, List.set_cons_succ, i64_w, i32_w]
                  rfl
                refine take_ (i := 7) (N := some 24) (v := ?_) (a' := ?_) #[true, true, true, true, true, true, true, true, false, false] rfl rfl (take_ofW HT_.out HW_.out (by kernel_rfl)) (fun _ _ _ h => h) (Or.inl ⟨by rfl, ?_⟩) hHeld ?_ ?_
                rotate_left
                · rintro w' ⟨s0, s1, s2, s3⟩
                  go_simp
                  with_reducible rfl
                rotate_left
                · simp only [Act.put, List.setIfInBounds_toArray, List.set_cons_zero, List.set_cons_succ, i64_w, i32_w]
                  rfl
                refine one_ (i := 8) (N := some 25) #[true, true, true, true, true, true, true, true, true, false] rfl rfl (one_of HT_.out (by kernel_rfl)) (by decide) (fun K hK => ?_)
                refine goes_ Tryd.func49 (by kernel_rfl) rfl #[.agg #[.int .i64 ((rd_T60 l0 x5_1).f0), .int .i64 ((rd_T60 l0 x5_1).f1)], .agg #[.int .i64 ((rd_T60 l1 x5_1).f0), .int .i64 ((rd_T60 l1 x5_1).f1)]] (by rfl) rfl rfl (by (try simp only [List.map_toArray, List.map_cons, List.map_nil]); first | done | rfl | (simp only [List.length_drop, List.length_take]; rfl)) ?_
                with_reducible refine (laws_eqNote.calls ((rd_T60 l0 x5_1).f0) ((rd_T60 l0 x5_1).f1) ((rd_T60 l1 x5_1).f0) ((rd_T60 l1 x5_1).f1) true _ A7.out).mono ?_
                rintro e w10 ⟨rfl, hb⟩
                refine ⟨_, rfl, ?_⟩
                have n0_ := Aside0.mk (below_step (by repeat (first | (with_reducible first | exact HB.out | apply below_alloc | apply pw_below_drewN | apply below_drew1) | exact HB.out)) hb)
                clear HB
                have HB := n0_
                clear n0_
                (try clear hb)
                (try clear hb2)
                (try clear hk)
                (try clear hi)
                refine hK.out _ _ ⟨((HB.out.cell (World.block_lt_of_cell? w _ hw101_0)).trans hw101_0), ((HB.out.cell (World.block_lt_of_cell? w _ hw101_1)).trans hw101_1), ((HB.out.cell (World.block_lt_of_cell? w _ hw102_0)).trans hw102_0), ((HB.out.cell (World.block_lt_of_cell? w _ hw102_1)).trans hw102_1)⟩ (fun hHeld => ?_)
                clear hK K
                refine norm_ (a' := ?_) ?_ ?_
                rotate_left
                · show Act.put _ (some 25) _ = _
                  simp only [Act.put, List.setIfInBounds_toArray, List.set_cons_zero, List.set_cons_succ, i64_w, i32_w]
                  rfl
                refine pure_ (i := 9) (N := some 26) (v := ?_) (a' := ?_) #[true, true, true, true, true, true, true, true, true, true] rfl rfl (any_of HT_.out (by kernel_rfl)) (fun _ _ _ h => h) (Or.inl ⟨by rfl, ?_⟩) ?_ ?_
                rotate_left
                · intro w'
                  go_simp
                  with_reducible rfl
                rotate_left
                · simp only [Act.put, List.setIfInBounds_toArray, List.set_cons_zero, List.set_cons_succ, i64_w, i32_w]
                  rfl
                refine done_ (done_of HT_.out (by kernel_rfl)) ?_
                try go_wp2
                go_roundg k1
                case measure => have := HK1.out; omega
                case rel => exact ⟨(wrap64 (x5_1 + 1)), (by first | rfl | (simp; done) | (simp [*]; done)), H', ⟨by have := HK1.out; omega⟩, ⟨by repeat (first | (with_reducible first | exact HB.out | apply below_alloc | apply pw_below_drewN | apply below_drew1) | exact HB.out)⟩⟩
              · replace c8 := Bool.eq_false_iff.mpr c8
                subst c8
                have H1 : (some false) = some r := by rw [if_neg (show ¬ (false = true) by decide)] at H; exact H
                clear H
                have H := H1
                clear H1
                obtain rfl := Option.some.inj H
                try go_wp2
                have n0_ := Aside0.mk (below_drew1 HB.out)
                clear HB
                have HB := n0_
                clear n0_
                have p101 : 0 ≤ (x5_1 : Int) := of_decide_eq_true (by first | (with_reducible assumption) | assumption)
                have q101 : x5_1 < (l0.length : Int) := of_decide_eq_true (by first | (with_reducible assumption) | assumption)
                obtain ⟨ad101, e101, hx101_0, hx101_1⟩ := at_T60 HR0.out x5_1 p101 q101
                have hw101_1 := hx101_1
                have hw101_0 := hx101_0
                cases e101
                replace hx101_0 := (HB.out.cell (World.block_lt_of_cell? w _ hx101_0)).trans hx101_0
                replace hx101_1 := (HB.out.cell (World.block_lt_of_cell? w _ hx101_1)).trans hx101_1
                replace p101 := eq_true p101
                replace q101 := eq_true q101
                have p102 : 0 ≤ (x5_1 : Int) := of_decide_eq_true (by first | (with_reducible assumption) | assumption)
                have q102 : x5_1 < (l1.length : Int) := of_decide_eq_true (by first | (with_reducible assumption) | assumption)
                obtain ⟨ad102, e102, hx102_0, hx102_1⟩ := at_T60 HR1.out x5_1 p102 q102
                have hw102_1 := hx102_1
                have hw102_0 := hx102_0
                cases e102
                replace hx102_0 := (HB.out.cell (World.block_lt_of_cell? w _ hx102_0)).trans hx102_0
                replace hx102_1 := (HB.out.cell (World.block_lt_of_cell? w _ hx102_1)).trans hx102_1
                replace p102 := eq_true p102
                replace q102 := eq_true q102
                refine start_ (n := 10) (S := fun w' => w'.cell? (ad101.add ((x5_1).toNat * 2)) = some (.int .i64 ((rd_T60 l0 x5_1).f0)) ∧ w'.cell? ⟨(ad101.add ((x5_1).toNat * 2)).block, (ad101.add ((x5_1).toNat * 2)).off + 1, none⟩ = some (.int .i64 ((rd_T60 l0 x5_1).f1)) ∧ w'.cell? (ad102.add ((x5_1).toNat * 2)) = some (.int .i64 ((rd_T60 l1 x5_1).f0)) ∧ w'.cell? ⟨(ad102.add ((x5_1).toNat * 2)).block, (ad102.add ((x5_1).toNat * 2)).off + 1, none⟩ = some (.int .i64 ((rd_T60 l1 x5_1).f1))) (ds := []) #[false, false, false, false, false, false, false, false, false, false] (by kernel_rfl) rfl rfl ⟨((HB.out.cell (World.block_lt_of_cell? w _ hw101_0)).trans hw101_0), ((HB.out.cell (World.block_lt_of_cell? w _ hw101_1)).trans hw101_1), ((HB.out.cell (World.block_lt_of_cell? w _ hw102_0)).trans hw102_0), ((HB.out.cell (World.block_lt_of_cell? w _ hw102_1)).trans hw102_1)⟩ (fun hHeld => ?_); refine with_tabW laws_eqNoteS.tab6 laws_eqNoteS.bits6 (fun HT_ HW_ => ?_)
                generalize wr.drew = w11 at HB hx101_0 hx101_1 hx102_0 hx102_1 hHeld ⊢
                refine pure_ (i := 0) (N := some 17) (v := ?_) (a' := ?_) #[true, false, false, false, false, false, false, false, false, false] rfl rfl (any_of HT_.out (by kernel_rfl)) (fun _ _ _ h => h) (Or.inl ⟨by rfl, ?_⟩) ?_ ?_
                rotate_left
                · intro w'
                  go_simp
                  with_reducible rfl
                rotate_left
                · simp only [Act.put, List.setIfInBounds_toArray, List.set_cons_zero, List.set_cons_succ, i64_w, i32_w]
                  rfl
                refine pure_ (i := 1) (N := some 18) (v := ?_) (a' := ?_) #[true, true, false, false, false, false, false, false, false, false] rfl rfl (any_of HT_.out (by kernel_rfl)) (fun _ _ _ h => h) (Or.inl ⟨by rfl, ?_⟩) ?_ ?_
                rotate_left
                · intro w'
                  go_simp
                  with_reducible rfl
                rotate_left
                · simp only [Act.put, List.setIfInBounds_toArray, List.set_cons_zero, List.set_cons_succ, i64_w, i32_w]
                  rfl
                refine pure_ (i := 2) (N := some 19) (v := ?_) (a' := ?_) #[true, true, true, false, false, false, false, false, false, false] rfl rfl (any_of HT_.out (by kernel_rfl)) (fun _ _ _ h => h) (Or.inl ⟨by rfl, ?_⟩) ?_ ?_
                rotate_left
                · intro w'
                  go_simp
                  with_reducible rfl
                rotate_left
                · simp only [Act.put, List.setIfInBounds_toArray, List.set_cons_zero, List.set_cons_succ, i64_w, i32_w]
                  rfl
                refine pure_ (i := 4) (N := some 21) (v := ?_) (a' := ?_) #[true, true, true, false, true, false, false, false, false, false] rfl rfl (any_of HT_.out (by kernel_rfl)) (fun _ _ _ h => h) (Or.inl ⟨by rfl, ?_⟩) ?_ ?_
                rotate_left
                · intro w'
                  go_simp
                  with_reducible rfl
                rotate_left
                · simp only [Act.put, List.setIfInBounds_toArray, List.set_cons_zero, List.set_cons_succ, i64_w, i32_w]
                  rfl
                refine pure_ (i := 5) (N := some 22) (v := ?_) (a' := ?_) #[true, true, true, false, true, true, false, false, false, false] rfl rfl (any_of HT_.out (by kernel_rfl)) (fun _ _ _ h => h) (Or.inl ⟨by rfl, ?_⟩) ?_ ?_
                rotate_left
                · intro w'
                  go_simp
                  with_reducible rfl
                rotate_left
                · simp only [Act.put, List.setIfInBounds_toArray, List.set_cons_zero, List.set_cons_succ, i64_w, i32_w]
                  rfl
                refine pure_ (i := 6) (N := some 23) (v := ?_) (a' := ?_) #[true, true, true, false, true, true, true, false, false, false] rfl rfl (any_of HT_.out (by kernel_rfl)) (fun _ _ _ h => h) (Or.inl ⟨by rfl, ?_⟩) ?_ ?_
                rotate_left
                · intro w'
                  go_simp
                  with_reducible rfl
                rotate_left
                · simp only [Act.put, List.setIfInBounds_toArray, List.set_cons_zero, List.set_cons_succ, i64_w, i32_w]
                  rfl
                refine take_ (i := 3) (N := some 20) (v := ?_) (a' := ?_) #[true, true, true, true, true, true, true, false, false, false] rfl rfl (take_ofW HT_.out HW_.out (by kernel_rfl)) (fun _ _ _ h => h) (Or.inl ⟨by rfl, ?_⟩) hHeld ?_ ?_
                rotate_left
                · rintro w' ⟨s0, s1, s2, s3⟩
                  go_simp
                  with_reducible rfl
                rotate_left
                · simp only [Act.put, List.setIfInBounds_toArray, List.set_cons_zero, List.set_cons_succ, i64_w, i32_w]
                  rfl
                refine take_ (i := 7) (N := some 24) (v := ?_) (a' := ?_) #[true, true, true, true, true, true, true, true, false, false] rfl rfl (take_ofW HT_.out HW_.out (by kernel_rfl)) (fun _ _ _ h => h) (Or.inl ⟨by rfl, ?_⟩) hHeld ?_ ?_
                rotate_left
                · rintro w' ⟨s0, s1, s2, s3⟩
                  go_simp
                  with_reducible rfl
                rotate_left
                · simp only [Act.put, List.setIfInBounds_toArray, List.set_cons_zero, List.set_cons_succ, i64_w, i32_w]
                  rfl
                refine one_ (i := 8) (N := some 25) #[true, true, true, true, true, true, true, true, true, false] rfl rfl (one_of HT_.out (by kernel_rfl)) (by decide) (fun K hK => ?_)
                refine goes_ Tryd.func49 (by kernel_rfl) rfl #[.agg #[.int .i64 ((rd_T60 l0 x5_1).f0), .int .i64 ((rd_T60 l0 x5_1).f1)], .agg #[.int .i64 ((rd_T60 l1 x5_1).f0), .int .i64 ((rd_T60 l1 x5_1).f1)]] (by rfl) rfl rfl (by (try simp only [List.map_toArray, List.map_cons, List.map_nil]); first | done | rfl | (simp only [List.length_drop, List.length_take]; rfl)) ?_
                with_reducible refine (laws_eqNote.calls ((rd_T60 l0 x5_1).f0) ((rd_T60 l0 x5_1).f1) ((rd_T60 l1 x5_1).f0) ((rd_T60 l1 x5_1).f1) false _ A7.out).mono ?_
                rintro e w12 ⟨rfl, hb⟩
                refine ⟨_, rfl, ?_⟩
                have n0_ := Aside0.mk (below_step (by repeat (first | (with_reducible first | exact HB.out | apply below_alloc | apply pw_below_drewN | apply below_drew1) | exact HB.out)) hb)
                clear HB
                have HB := n0_
                clear n0_
                (try clear hb)
                (try clear hb2)
                (try clear hk)
                (try clear hi)
                refine hK.out _ _ ⟨((HB.out.cell (World.block_lt_of_cell? w _ hw101_0)).trans hw101_0), ((HB.out.cell (World.block_lt_of_cell? w _ hw101_1)).trans hw101_1), ((HB.out.cell (World.block_lt_of_cell? w _ hw102_0)).trans hw102_0), ((HB.out.cell (World.block_lt_of_cell? w _ hw102_1)).trans hw102_1)⟩ (fun hHeld => ?_)
                clear hK K
                refine norm_ (a' := ?_) ?_ ?_
                rotate_left
                · show Act.put _ (some 25) _ = _
                  simp only [Act.put, List.setIfInBounds_toArray, List.set_cons_zero, List.set_cons_succ, i64_w, i32_w]
                  rfl
                refine pure_ (i := 9) (N := some 26) (v := ?_) (a' := ?_) #[true, true, true, true, true, true, true, true, true, true] rfl rfl (any_of HT_.out (by kernel_rfl)) (fun _ _ _ h => h) (Or.inl ⟨by rfl, ?_⟩) ?_ ?_
                rotate_left
                · intro w'
                  go_simp
                  with_reducible rfl
                rotate_left
                · simp only [Act.put, List.setIfInBounds_toArray, List.set_cons_zero, List.set_cons_succ, i64_w, i32_w]
                  rfl
                refine done_ (done_of HT_.out (by kernel_rfl)) ?_
                try go_wp2
                go_ret
                exact ⟨by first | rfl | (simp [errW_none, errW_some] <;> rfl) | (simp [*, errW_none, errW_some] <;> rfl), by repeat (first | (with_reducible first | exact HB.out | apply below_alloc | apply pw_below_drewN | apply below_drew1) | exact HB.out)⟩
            · rw [if_neg c6] at H
              exact absurd H (by simp)
          · rw [if_neg c5] at H
            exact absurd H (by simp)
        · rw [if_neg c4] at H
          have c4b0 : decide (x5_1 < (l0.length : Int)) = false := decide_eq_false c4
          clear c4
          obtain rfl := Option.some.inj H
          go_wp2
          go_ret
          exact ⟨by first | rfl | (simp [errW_none, errW_some] <;> rfl) | (simp [*, errW_none, errW_some] <;> rfl), by repeat (first | (with_reducible first | exact HB.out | apply below_alloc | apply pw_below_drewN | apply below_drew1) | exact HB.out)⟩
  · rw [if_neg c3] at H
    have c3b0 : ((l0.length : Int) == (l1.length : Int)) = false := beq_eq_false_iff_ne.mpr c3
    have c3b1 : ((l0.length : Int) != (l1.length : Int)) = true := bne_iff_ne.mpr c3
    have c3b2 : (l0.length == l1.length) = false := by first | simpa using c3 | (simp at c3 ⊢; omega)
    obtain rfl := Option.some.inj H
    go_enter Tryd.func22, Tryd.ntmps22
    go_wp2
    go_ret
    exact ⟨by first | rfl | (simp [errW_none, errW_some] <;> rfl) | (simp [*, errW_none, errW_some] <;> rfl), by repeat (first | (with_reducible first | exact HB.out | apply below_alloc | apply pw_below_drewN | apply below_drew1) | exact HB.out)⟩

end Go.Proofs.YtpfalhbeeodjaaaDoor.P

/- laws_markNoteS: what it answers, and that the machine's call comes to it. -/
namespace Go.Proofs.YtpfalhbeeodjaaaDoor.P
open Go.RowKit Go.Proofs.YtpfalhbeeodjaaaDoorW.PrintWords Go.Proofs.YtpfalhbeeodjaaaDoorW.PrintLast Go.Proofs.YtpfalhbeeodjaaaDoorW.PrintMore
attribute [local go_sem] max2_int min2_int max_two min_two max_three min_three max_four min_four str_leq str_gtr str_geq
set_option linter.unusedVariables false
set_option linter.unusedSimpArgs false

/-! ### laws_markNoteS: function 29 -/
def laws_markNoteS.l0 : Nat → List (S60) → Int → Int → Option (Int × (List (S60)))
  | 0, _, _, _ => none
  | k + 1, x0, x1, x5 => if x5 < (x0.length : Int) then (if 0 ≤ x5 then ((some (x0.set (x5 : Int).toNat (⟨x1, (rd_T60 x0 x5).f1⟩ : S60) : List (S60))).bind fun y101 => (laws_markNoteS.l0 k (y101.set (x5 : Int).toNat (⟨(rd_T60 y101 x5).f0, wrap64 (x1 + 1)⟩ : S60)) (wrap64 ((wrap64 (x1 + 1)) + 1)) (wrap64 (x5 + 1)))) else (none)) else (some (x1, x0))
def laws_markNoteS.f (k : Nat) (l0 : List (S60)) (a1 : Int) : Option (Int × (List (S60))) := laws_markNoteS.l0 k l0 a1 0
theorem laws_markNoteS.mono_l : ∀ k, (∀ y0 y1 y2, LeO (laws_markNoteS.l0 k y0 y1 y2) (laws_markNoteS.l0 (k + 1) y0 y1 y2))
  | 0 => fun _ _ _ r h => by simp [laws_markNoteS.l0] at h
  | k + 1 => by
    have ih0 := laws_markNoteS.mono_l k
    · intro y0 y1 y2
      unfold laws_markNoteS.l0
      repeat' first
      | (with_reducible exact ih0 _ _ _)
      | (with_reducible exact LeO.refl _)
      | (with_reducible exact LeO.none _)
      | (with_reducible refine LeO.ite ?_ ?_)
      | (with_reducible refine LeO.bind ?_ (fun _ => ?_))
      | exact ih0 _ _ _
      | exact LeO.none _
      | refine LeO.ite ?_ ?_
      | refine LeO.bind ?_ (fun _ => ?_)
theorem laws_markNoteS.mono : ∀ a0 a1 k, LeO (laws_markNoteS.f k a0 a1) (laws_markNoteS.f (k + 1) a0 a1) := by
  intro a0 a1 k
  have ih0 := laws_markNoteS.mono_l k
  unfold laws_markNoteS.f
  repeat' first
      | (with_reducible exact ih0 _ _ _)
      | (with_reducible exact LeO.refl _)
      | (with_reducible exact LeO.none _)
      | (with_reducible refine LeO.ite ?_ ?_)
      | (with_reducible refine LeO.bind ?_ (fun _ => ?_))
      | exact ih0 _ _ _
      | exact LeO.none _
      | refine LeO.ite ?_ ?_
      | refine LeO.bind ?_ (fun _ => ?_)
set_option maxHeartbeats 8000000 in
set_option maxRecDepth 100000 in
theorem laws_markNoteS.calls (k : Nat) (P0_ : Nat → Prop) (u9000_ : Value) (l0 : List (S60)) (a1 : Int) (r1 : Int) (r2 : List (S60)) (w0 w : World) (hB : Below w0.heap.size w0 w) (ho0 : Kd.R k60 60 w w0.heap.size P0_ u9000_ l0) (h : laws_markNoteS.f k l0 a1 = some (r1, r2)) :
    Calls Tryd.prog 29 #[u9000_, .int .i64 a1] w fun e w' => e = .returned (.int .i64 r1) ∧ Kd.R k60 60 w' w0.heap.size (fun k_ => (P0_ k_ ∨ w.heap.size ≤ k_)) u9000_ r2 ∧ Below w0.heap.size w0 w' ∧ Kept w w' (fun k_ => P0_ k_) := by
  have HO0 := Aside0.mk (show Kd.R k60 60 w w0.heap.size (fun k_ => (P0_ k_ ∨ w.heap.size ≤ k_)) u9000_ l0 from Kd.R_mono ho0 (fun k_ hk => (.inl hk)))
  have HK := Aside0.mk (Kept.refl w (fun k_ => P0_ k_))
  have HW0 := Aside0.mk hB.size
  have HB := Aside0.mk hB
  clear hB
  have H : (laws_markNoteS.l0 k l0 a1 0) = some (r1, r2) := h
  clear h
  have H' := Aside0.mk H
  clear H
  go_enter Tryd.func29, Tryd.ntmps29
  go_wp2
  go_loopg [1, 5] k (fun kq v1 v5 w' => ∃ (x0_1 : List (S60)) (x1_1 : Int) (x5_1 : Int), v1 = .int .i64 x1_1 ∧ v5 = .int .i64 x5_1 ∧ Aside0 (laws_markNoteS.l0 kq x0_1 x1_1 x5_1 = some (r1, r2)) ∧ Aside0 (kq ≤ k) ∧ Aside0 (Kd.R k60 60 w' w0.heap.size (fun k_ => (P0_ k_ ∨ w.heap.size ≤ k_)) u9000_ x0_1) ∧ Aside0 (Kept w w' (fun k_ => P0_ k_)) ∧ Aside0 (Below w0.heap.size w0 w'))
  case atStart => exact ⟨(l0), (a1), (0), (by first | rfl | (simp; done) | (simp [*]; done)), (by first | rfl | (simp; done) | (simp [*]; done)), H', ⟨Nat.le_refl _⟩, ⟨by (with_reducible repeat (first | apply Kd.R_alloc | apply Kd.R_drewN | apply Kd.R_drew)); exact HO0.out⟩, ⟨by repeat (first | (with_reducible first | exact HK.out | apply Kept.alloc | apply Kept.drewN | apply Kept.drew) | exact HK.out)⟩, ⟨by repeat (first | (with_reducible first | exact HB.out | apply below_alloc | apply pw_below_drewN | apply below_drew1) | exact HB.out)⟩⟩
  case round =>
    clear H'
    try clear c2
    try clear p2
    obtain ⟨x0_1, x1_1, x5_1, rfl, rfl, HA, HK1, HO_0, HK, HB⟩ := hrel
    cases gk with
    | zero => exact absurd HA.out (by simp [laws_markNoteS.l0])
    | succ k1 =>
      have H := HA.out
      clear HA
      simp only [laws_markNoteS.l0] at H
      by_cases c3 : x5_1 < (x0_1.length : Int)
      · rw [if_pos c3] at H
        have c3b0 : decide (x5_1 < (x0_1.length : Int)) = true := decide_eq_true c3
        clear c3
        by_cases c4 : 0 ≤ x5_1
        · rw [if_pos c4] at H
          have c4b0 : decide (0 ≤ x5_1) = true := decide_eq_true c4
          clear c4
          obtain ⟨y101, hy101⟩ : ∃ y_ : List (S60), y_ = (x0_1.set (x5_1 : Int).toNat (⟨x1_1, (rd_T60 x0_1 x5_1).f1⟩ : S60)) := ⟨_, rfl⟩
          replace H : (laws_markNoteS.l0 k1 (y101.set (x5_1 : Int).toNat (⟨(rd_T60 y101 x5_1).f0, wrap64 (x1_1 + 1)⟩ : S60)) (wrap64 ((wrap64 (x1_1 + 1)) + 1)) (wrap64 (x5_1 + 1))) = some (r1, r2) := by first | (rw [hy101]; with_reducible exact H) | (have H2_ := (Option.bind_some _ _).symm.trans H; rw [hy101]; with_reducible exact H2_) | (have H2_ := (Option.bind_some _ _).symm.trans H; with_reducible exact H2_) | with_reducible exact H | (rw [hy101]; exact H) | exact H
          have Ny101 := Aside0.mk hy101
          clear hy101
          obtain ⟨y102, hy102⟩ : ∃ y_ : List (S60), y_ = (y101.set (x5_1 : Int).toNat (⟨(rd_T60 y101 x5_1).f0, wrap64 (x1_1 + 1)⟩ : S60)) := ⟨_, rfl⟩
          replace H : (laws_markNoteS.l0 k1 y102 (wrap64 ((wrap64 (x1_1 + 1)) + 1)) (wrap64 (x5_1 + 1))) = some (r1, r2) := by first | (rw [hy102]; with_reducible exact H) | (have H2_ := (Option.bind_some _ _).symm.trans H; rw [hy102]; with_reducible exact H2_) | (have H2_ := (Option.bind_some _ _).symm.trans H; with_reducible exact H2_) | with_reducible exact H | (rw [hy102]; exact H) | exact H
          have Ny102 := Aside0.mk hy102
          clear hy102
          have H' := Aside0.mk H
          clear H
          obtain ⟨Ao7, co7, eo7⟩ := Kd.R_slice HO_0.out
          subst eo7
          have p5 : 0 ≤ (x5_1 : Int) := of_decide_eq_true (by first | (with_reducible assumption) | assumption)
          have q5 : (x5_1 : Int) < ((x0_1.length : Int) : Int) := of_decide_eq_true (by first | (with_reducible assumption) | assumption)
          obtain ⟨go5, co5, eo5, gb5, gl5, cl5, HG5⟩ := Kd.R_form HO_0.out (by omega)
          (first | cases eo5 | (injection eo5 with ea_ en_ ec_; (first | subst ea_ | (injection ea_ with ea_; subst ea_)); subst ec_; clear en_))
          have GB5 := Aside0.mk gb5
          have GG5 := Aside0.mk HG5
          clear gb5 gl5 HG5
          have HMgo5 := Aside0.mk (show (P0_ go5 ∨ w.heap.size ≤ go5) from (HO_0.out.1 _ rfl))
          obtain ⟨ce5, hcl5, hM5, hcc5, hfr5⟩ := Kd.R_elem HO_0.out z60 (x5_1 : Int) p5 q5
          obtain rfl := k60_openM hM5
          have hx5_0 : wr.cell? ⟨go5, (x5_1 : Int).toNat * 2, none⟩ = some (.int .i64 ((rd_T60 x0_1 x5_1).f0)) := hcc5 0 _ rfl
          have hx5_1 : wr.cell? ⟨go5, (x5_1 : Int).toNat * 2 + 1, none⟩ = some (.int .i64 ((rd_T60 x0_1 x5_1).f1)) := hcc5 1 _ rfl
          have hf5_0 : wr.frozen? ⟨go5, (x5_1 : Int).toNat * 2, none⟩ = false := hfr5 0
          have hf5_1 : wr.frozen? ⟨go5, (x5_1 : Int).toNat * 2 + 1, none⟩ = false := hfr5 1
          clear hcl5 hcc5 hfr5 hM5
          replace p5 := eq_true p5
          replace q5 := eq_true q5
          have HX8 := Aside0.mk (show Kd.R k60 60 wr w0.heap.size (fun k_ => (P0_ k_ ∨ w.heap.size ≤ k_)) (.slice (some ⟨go5, 0, none⟩) x0_1.length co7) x0_1 from (by (with_reducible repeat (first | apply Kd.R_alloc | apply Kd.R_drewN | apply Kd.R_drew)); exact HO_0.out))
          obtain ⟨ce8, hcl8, hM8, hcc8, hfr8⟩ := Kd.R_elem HX8.out z60 (x5_1 : Int) (of_decide_eq_true (by first | (with_reducible assumption) | assumption)) (by have h_ : (x5_1 : Int) < ((x0_1.length : Int) : Int) := of_decide_eq_true (by first | (with_reducible assumption) | assumption); first | exact h_ | (have e_ := (Kd.R_reads' HO_0.out).1; omega) | simpa using h_)
          obtain rfl := k60_openM hM8
          have HP8 := Kd.R_seg HX8.out (x5_1 : Int) (of_decide_eq_true (by first | (with_reducible assumption) | assumption)) (by have h_ : (x5_1 : Int) < ((x0_1.length : Int) : Int) := of_decide_eq_true (by first | (with_reducible assumption) | assumption); first | exact h_ | (have e_ := (Kd.R_reads' HO_0.out).1; omega) | simpa using h_) (seg := [.int .i64 x1_1]) (j := 0) hcl8 hcc8 (show 1 ≤ 2 from by decide) (x' := (⟨x1_1, (rd_T60 x0_1 x5_1).f1⟩ : S60)) (k60_mkM _ _ _ (⟨x1_1, (rd_T60 x0_1 x5_1).f1⟩ : S60) ) (fun _ hk => hk)
          have hx8_0 := hcc8 0 _ rfl
          (try simp only [show (k60).sz = 2 from rfl, Nat.mul_one, Nat.add_zero] at hx8_0)
          have hf8_0 := hfr8 0
          (try simp only [show (k60).sz = 2 from rfl, Nat.mul_one, Nat.add_zero] at hf8_0)
          clear hcl8 hcc8 hfr8 hM8
          go_wp2_with (first | ((with_reducible refine gate_store (t := 2) (p := 16) rfl ?_); refine store_event (t := 2) (p := 16) (v := ?vo_w9) (w1 := (wr.setCell ⟨go5, (x5_1 : Int).toNat * 2, none⟩ (.int .i64 x1_1))) ?hg ?ho ?hn ?hr ?_; (case ho => rfl); (case hg => rfl); (case hn => rfl); (case hr => first | (go_simp; done) | (go_simp; rfl)); intro w9 hw; have hg : wr.grownBy w9 (some go5) := (by rw [hw]; exact HP8.2); have hp_ : Kd.R k60 60 w9 w0.heap.size (fun k_ => (P0_ k_ ∨ w.heap.size ≤ k_)) (.slice (some ⟨go5, 0, none⟩) x0_1.length co7) y101 := (by rw [hw, Ny101.out]; exact HP8.1); clear HP8; have n0_ := Aside0.mk (hp_); have n1_ := Aside0.mk ((by rw [hw]; exact below_set (HB.out) GB5.out : Below w0.heap.size w0 w9)); have n2_ := Aside0.mk (Kept.of_grown (S := (fun k_ => P0_ k_)) hg (by repeat (first | (with_reducible first | exact HK.out | apply Kept.alloc | apply Kept.drewN | apply Kept.drew) | exact HK.out)) (fun k_ e_ => (HO_0.out.1 k_ e_))); clear HO_0; clear HB; clear HK; have HO_0 := n0_; have HB := n1_; have HK := n2_; clear n0_ n1_ n2_; clear hg hw hp_; have p6 : 0 ≤ (x5_1 : Int) := of_decide_eq_true (by first | (with_reducible assumption) | assumption); have q6 : (x5_1 : Int) < ((x0_1.length : Int) : Int) := of_decide_eq_true (by first | (with_reducible assumption) | assumption); obtain ⟨ce6, hcl6, hM6, hcc6, hfr6⟩ := Kd.R_elem HO_0.out z60 (x5_1 : Int) p6 q6; obtain rfl := k60_openM hM6; have hx6_0 : w9.cell? ⟨go5, (x5_1 : Int).toNat * 2, none⟩ = some (.int .i64 ((rd_T60 y101 x5_1).f0)) := hcc6 0 _ rfl; have hx6_1 : w9.cell? ⟨go5, (x5_1 : Int).toNat * 2 + 1, none⟩ = some (.int .i64 ((rd_T60 y101 x5_1).f1)) := hcc6 1 _ rfl; have hf6_0 : w9.frozen? ⟨go5, (x5_1 : Int).toNat * 2, none⟩ = false := hfr6 0; have hf6_1 : w9.frozen? ⟨go5, (x5_1 : Int).toNat * 2 + 1, none⟩ = false := hfr6 1; clear hcl6 hcc6 hfr6 hM6; replace p6 := eq_true p6; replace q6 := eq_true q6; have HX10 := Aside0.mk (show Kd.R k60 60 w9 w0.heap.size (fun k_ => (P0_ k_ ∨ w.heap.size ≤ k_)) (.slice (some ⟨go5, 0, none⟩) x0_1.length co7) y101 from (by (with_reducible repeat (first | apply Kd.R_alloc | apply Kd.R_drewN | apply Kd.R_drew)); exact HO_0.out)); obtain ⟨ce10, hcl10, hM10, hcc10, hfr10⟩ := Kd.R_elem HX10.out z60 (x5_1 : Int) (of_decide_eq_true (by first | (with_reducible assumption) | assumption)) (by have h_ : (x5_1 : Int) < ((x0_1.length : Int) : Int) := of_decide_eq_true (by first | (with_reducible assumption) | assumption); first | exact h_ | (have e_ := (Kd.R_reads' HO_0.out).1; omega) | simpa using h_); obtain rfl := k60_openM hM10; have HP10 := Kd.R_seg HX10.out (x5_1 : Int) (of_decide_eq_true (by first | (with_reducible assumption) | assumption)) (by have h_ : (x5_1 : Int) < ((x0_1.length : Int) : Int) := of_decide_eq_true (by first | (with_reducible assumption) | assumption); first | exact h_ | (have e_ := (Kd.R_reads' HO_0.out).1; omega) | simpa using h_) (seg := [.int .i64 (wrap64 (x1_1 + 1))]) (j := 1) hcl10 hcc10 (show 2 ≤ 2 from by decide) (x' := (⟨(rd_T60 y101 x5_1).f0, wrap64 (x1_1 + 1)⟩ : S60)) (k60_mkM _ _ _ (⟨(rd_T60 y101 x5_1).f0, wrap64 (x1_1 + 1)⟩ : S60) ) (fun _ hk => hk); have hx10_1 := hcc10 1 _ rfl; (try simp only [show (k60).sz = 2 from rfl, Nat.mul_one, Nat.add_zero] at hx10_1); have hf10_1 := hfr10 1; (try simp only [show (k60).sz = 2 from rfl, Nat.mul_one, Nat.add_zero] at hf10_1); clear hcl10 hcc10 hfr10 hM10) | ((with_reducible refine gate_store (t := 2) (p := 23) rfl ?_); refine store_event (t := 2) (p := 23) (v := ?vo_w11) (w1 := (w9.setCell ⟨go5, (x5_1 : Int).toNat * 2 + 1, none⟩ (.int .i64 (wrap64 (x1_1 + 1))))) ?hg ?ho ?hn ?hr ?_; (case ho => rfl); (case hg => rfl); (case hn => rfl); (case hr => first | (go_simp; done) | (go_simp; rfl)); intro w11 hw; have hg : w9.grownBy w11 (some go5) := (by rw [hw]; exact HP10.2); have hp_ : Kd.R k60 60 w11 w0.heap.size (fun k_ => (P0_ k_ ∨ w.heap.size ≤ k_)) (.slice (some ⟨go5, 0, none⟩) x0_1.length co7) y102 := (by rw [hw, Ny102.out]; exact HP10.1); clear HP10; have n0_ := Aside0.mk (hp_); have n1_ := Aside0.mk ((by rw [hw]; exact below_set (HB.out) GB5.out : Below w0.heap.size w0 w11)); have n2_ := Aside0.mk (Kept.of_grown (S := (fun k_ => P0_ k_)) hg (by repeat (first | (with_reducible first | exact HK.out | apply Kept.alloc | apply Kept.drewN | apply Kept.drew) | exact HK.out)) (fun k_ e_ => (HO_0.out.1 k_ e_))); clear HO_0; clear HB; clear HK; have HO_0 := n0_; have HB := n1_; have HK := n2_; clear n0_ n1_ n2_; clear hg hw hp_))
          go_roundg k1
          case measure => have := HK1.out; omega
          case rel => exact ⟨(y102), (wrap64 ((wrap64 (x1_1 + 1)) + 1)), (wrap64 (x5_1 + 1)), (by first | rfl | (simp; done) | (simp [*]; done)), (by first | rfl | (simp; done) | (simp [*]; done)), H', ⟨by have := HK1.out; omega⟩, ⟨by (with_reducible repeat (first | apply Kd.R_alloc | apply Kd.R_drewN | apply Kd.R_drew)); exact HO_0.out⟩, ⟨by repeat (first | (with_reducible first | exact HK.out | apply Kept.alloc | apply Kept.drewN | apply Kept.drew) | exact HK.out)⟩, ⟨by repeat (first | (with_reducible first | exact HB.out | apply below_alloc | apply pw_below_drewN | apply below_drew1) | exact HB.out)⟩⟩
        · rw [if_neg c4] at H
          exact absurd H (by simp)
      · rw [if_neg c3] at H
        have c3b0 : decide (x5_1 < (x0_1.length : Int)) = false := decide_eq_false c3
        clear c3
        simp only [Option.some.injEq, Prod.mk.injEq] at H
        obtain ⟨rfl, rfl⟩ := H
        obtain ⟨Ao12, co12, eo12⟩ := Kd.R_slice HO_0.out
        subst eo12
        go_wp2
        go_ret
        exact ⟨by first | rfl | (simp [errW_none, errW_some] <;> rfl) | (simp [*, errW_none, errW_some] <;> rfl), by (with_reducible repeat (first | apply Kd.R_alloc | apply Kd.R_drewN | apply Kd.R_drew)); exact HO_0.out, by repeat (first | (with_reducible first | exact HB.out | apply below_alloc | apply pw_below_drewN | apply below_drew1) | exact HB.out), by repeat (first | (with_reducible first | exact HK.out | apply Kept.alloc | apply Kept.drewN | apply Kept.drew) | exact HK.out)⟩

end Go.Proofs.YtpfalhbeeodjaaaDoor.P

/- laws_heldNoteS: what it answers, and that the machine's call comes to it. -/
namespace Go.Proofs.YtpfalhbeeodjaaaDoor.P
open Go.RowKit Go.Proofs.YtpfalhbeeodjaaaDoorW.PrintWords Go.Proofs.YtpfalhbeeodjaaaDoorW.PrintLast Go.Proofs.YtpfalhbeeodjaaaDoorW.PrintMore
attribute [local go_sem] max2_int min2_int max_two min_two max_three min_three max_four min_four str_leq str_gtr str_geq
set_option linter.unusedVariables false
set_option linter.unusedSimpArgs false

/-! ### laws_heldNoteS: function 30 -/
def laws_heldNoteS.l0 : Nat → List (S60) → Int → Int → Option (Int)
  | 0, _, _, _ => none
  | k + 1, x0, x1, x5 => if x5 < (x0.length : Int) then (if 0 ≤ x5 then (if ((rd_T60 x0 x5).f0) = x1 then (if ((rd_T60 x0 x5).f1) = (wrap64 (x1 + 1)) then (laws_heldNoteS.l0 k x0 (wrap64 ((wrap64 (x1 + 1)) + 1)) (wrap64 (x5 + 1))) else (some (-1))) else (some (-1))) else (none)) else (some x1)
def laws_heldNoteS.f (k : Nat) (l0 : List (S60)) (a1 : Int) : Option (Int) := laws_heldNoteS.l0 k l0 a1 0
theorem laws_heldNoteS.mono_l : ∀ k, (∀ y0 y1 y2, LeO (laws_heldNoteS.l0 k y0 y1 y2) (laws_heldNoteS.l0 (k + 1) y0 y1 y2))
  | 0 => fun _ _ _ r h => by simp [laws_heldNoteS.l0] at h
  | k + 1 => by
    have ih0 := laws_heldNoteS.mono_l k
    · intro y0 y1 y2
      unfold laws_heldNoteS.l0
      repeat' first
      | (with_reducible exact ih0 _ _ _)
      | (with_reducible exact LeO.refl _)
      | (with_reducible exact LeO.none _)
      | (with_reducible refine LeO.ite ?_ ?_)
      | (with_reducible refine LeO.bind ?_ (fun _ => ?_))
      | exact ih0 _ _ _
      | exact LeO.none _
      | refine LeO.ite ?_ ?_
      | refine LeO.bind ?_ (fun _ => ?_)
theorem laws_heldNoteS.mono : ∀ a0 a1 k, LeO (laws_heldNoteS.f k a0 a1) (laws_heldNoteS.f (k + 1) a0 a1) := by
  intro a0 a1 k
  have ih0 := laws_heldNoteS.mono_l k
  unfold laws_heldNoteS.f
  repeat' first
      | (with_reducible exact ih0 _ _ _)
      | (with_reducible exact LeO.refl _)
      | (with_reducible exact LeO.none _)
      | (with_reducible refine LeO.ite ?_ ?_)
      | (with_reducible refine LeO.bind ?_ (fun _ => ?_))
      | exact ih0 _ _ _
      | exact LeO.none _
      | refine LeO.ite ?_ ?_
      | refine LeO.bind ?_ (fun _ => ?_)
set_option maxHeartbeats 8000000 in
set_option maxRecDepth 100000 in
theorem laws_heldNoteS.calls (k : Nat) (A0 : Option Addr) (c0 : Nat) (l0 : List (S60)) (a1 : Int) (r : Int) (w : World) (hr0 : Kd.C k60 w A0 l0.length l0) (hc0 : l0.length ≤ c0) (h : laws_heldNoteS.f k l0 a1 = some r) :
    Calls Tryd.prog 30 #[.slice A0 l0.length c0, .int .i64 a1] w fun e w' => e = .returned (.int .i64 r) ∧ Drawn0 w w' := by
  have HR0 := Aside0.mk hr0
  have HC0 := Aside0.mk hc0
  clear hr0 hc0
  have H : (laws_heldNoteS.l0 k l0 a1 0) = some r := h
  clear h
  have H' := Aside0.mk H
  clear H
  go_enter Tryd.func30, Tryd.ntmps30
  go_wp2
  go_loopg [1, 5] k (fun kq v1 v5 w' => ∃ (x1_1 : Int) (x5_1 : Int), v1 = .int .i64 x1_1 ∧ v5 = .int .i64 x5_1 ∧ Aside0 (laws_heldNoteS.l0 kq l0 x1_1 x5_1 = some r) ∧ Aside0 (kq ≤ k) ∧ Drawn0 w w')
  case atStart => exact ⟨(a1), (0), (by first | rfl | (simp; done) | (simp [*]; done)), (by first | rfl | (simp; done) | (simp [*]; done)), H', ⟨Nat.le_refl _⟩, by repeat (first | exact Drawn0.refl _ | apply Drawn0.step)⟩
  case round =>
    clear H'
    try clear p2
    obtain ⟨x1_1, x5_1, rfl, rfl, HA, HK1, ⟨m1, rfl⟩⟩ := hrel
    cases gk with
    | zero => exact absurd HA.out (by simp [laws_heldNoteS.l0])
    | succ k1 =>
      have H := HA.out
      clear HA
      simp only [laws_heldNoteS.l0] at H
      by_cases c3 : x5_1 < (l0.length : Int)
      · rw [if_pos c3] at H
        have c3b0 : decide (x5_1 < (l0.length : Int)) = true := decide_eq_true c3
        clear c3
        by_cases c4 : 0 ≤ x5_1
        · rw [if_pos c4] at H
          have c4b0 : decide (0 ≤ x5_1) = true := decide_eq_true c4
          clear c4
          by_cases c5 : ((rd_T60 l0 x5_1).f0) = x1_1
          · rw [if_pos c5] at H
            have c5b0 : (((rd_T60 l0 x5_1).f0) == x1_1) = true := beq_iff_eq.mpr c5
            have c5b1 : (((rd_T60 l0 x5_1).f0) != x1_1) = false := bne_eq_false_iff_eq.mpr c5
            clear c5
            by_cases c6 : ((rd_T60 l0 x5_1).f1) = (wrap64 (x1_1 + 1))
            · rw [if_pos c6] at H
              have c6b0 : (((rd_T60 l0 x5_1).f1) == (wrap64 (x1_1 + 1))) = true := beq_iff_eq.mpr c6
              have c6b1 : (((rd_T60 l0 x5_1).f1) != (wrap64 (x1_1 + 1))) = false := bne_eq_false_iff_eq.mpr c6
              clear c6
              have H' := Aside0.mk H
              clear H
              have p101 : 0 ≤ (x5_1 : Int) := of_decide_eq_true (by first | (with_reducible assumption) | assumption)
              have q101 : x5_1 < (l0.length : Int) := of_decide_eq_true (by first | (with_reducible assumption) | assumption)
              obtain ⟨ad101, e101, hx101_0, hx101_1⟩ := at_T60 HR0.out x5_1 p101 q101
              cases e101
              replace p101 := eq_true p101
              replace q101 := eq_true q101
              have p102 : 0 ≤ (x5_1 : Int) := of_decide_eq_true (by first | (with_reducible assumption) | assumption)
              have q102 : x5_1 < (l0.length : Int) := of_decide_eq_true (by first | (with_reducible assumption) | assumption)
              obtain ⟨ad102, e102, hx102_0, hx102_1⟩ := at_T60 HR0.out x5_1 p102 q102
              obtain rfl : ad101 = ad102 := (by injection e102)
              replace p102 := eq_true p102
              replace q102 := eq_true q102
              go_wp2
              go_roundg k1
              case measure => have := HK1.out; omega
              case rel => exact ⟨(wrap64 ((wrap64 (x1_1 + 1)) + 1)), (wrap64 (x5_1 + 1)), (by first | rfl | (simp; done) | (simp [*]; done)), (by first | rfl | (simp; done) | (simp [*]; done)), H', ⟨by have := HK1.out; omega⟩, by repeat (first | exact Drawn0.refl _ | apply Drawn0.step)⟩
            · rw [if_neg c6] at H
              have c6b0 : (((rd_T60 l0 x5_1).f1) == (wrap64 (x1_1 + 1))) = false := beq_eq_false_iff_ne.mpr c6
              have c6b1 : (((rd_T60 l0 x5_1).f1) != (wrap64 (x1_1 + 1))) = true := bne_iff_ne.mpr c6
              obtain rfl := Option.some.inj H
              have p101 : 0 ≤ (x5_1 : Int) := of_decide_eq_true (by first | (with_reducible assumption) | assumption)
              have q101 : x5_1 < (l0.length : Int) := of_decide_eq_true (by first | (with_reducible assumption) | assumption)
              obtain ⟨ad101, e101, hx101_0, hx101_1⟩ := at_T60 HR0.out x5_1 p101 q101
              cases e101
              replace p101 := eq_true p101
              replace q101 := eq_true q101
              have p102 : 0 ≤ (x5_1 : Int) := of_decide_eq_true (by first | (with_reducible assumption) | assumption)
              have q102 : x5_1 < (l0.length : Int) := of_decide_eq_true (by first | (with_reducible assumption) | assumption)
              obtain ⟨ad102, e102, hx102_0, hx102_1⟩ := at_T60 HR0.out x5_1 p102 q102
              obtain rfl : ad101 = ad102 := (by injection e102)
              replace p102 := eq_true p102
              replace q102 := eq_true q102
              go_wp2
              go_ret
              exact ⟨by first | rfl | (simp; done) | (simp [*]; done), by repeat (first | exact Drawn0.refl _ | apply Drawn0.step)⟩
          · rw [if_neg c5] at H
            have c5b0 : (((rd_T60 l0 x5_1).f0) == x1_1) = false := beq_eq_false_iff_ne.mpr c5
            have c5b1 : (((rd_T60 l0 x5_1).f0) != x1_1) = true := bne_iff_ne.mpr c5
            obtain rfl := Option.some.inj H
            have p101 : 0 ≤ (x5_1 : Int) := of_decide_eq_true (by first | (with_reducible assumption) | assumption)
            have q101 : x5_1 < (l0.length : Int) := of_decide_eq_true (by first | (with_reducible assumption) | assumption)
            obtain ⟨ad101, e101, hx101_0, hx101_1⟩ := at_T60 HR0.out x5_1 p101 q101
            cases e101
            replace p101 := eq_true p101
            replace q101 := eq_true q101
            go_wp2
            go_ret
            exact ⟨by first | rfl | (simp; done) | (simp [*]; done), by repeat (first | exact Drawn0.refl _ | apply Drawn0.step)⟩
        · rw [if_neg c4] at H
          exact absurd H (by simp)
      · rw [if_neg c3] at H
        have c3b0 : decide (x5_1 < (l0.length : Int)) = false := decide_eq_false c3
        clear c3
        obtain rfl := Option.some.inj H
        go_wp2
        go_ret
        exact ⟨by first | rfl | (simp; done) | (simp [*]; done), by repeat (first | exact Drawn0.refl _ | apply Drawn0.step)⟩

end Go.Proofs.YtpfalhbeeodjaaaDoor.P

/- The laws' own functions on plain data: sizes, copies, equality: what each answers. Printed by program out of the types. -/
namespace Go.Proofs.YtpfalhbeeodjaaaDoor.P
open Go.RowKit Go.Proofs.YtpfalhbeeodjaaaDoorW.PrintWords Go.Proofs.YtpfalhbeeodjaaaDoorL
set_option linter.unusedVariables false
set_option linter.unusedSimpArgs false

theorem toInt64S_eq {l : List Int} (hl : l.length ≤ 1048576) {k : Nat} (hk : 1048600 ≤ k) : laws_toInt64S.f k l = some l := by
  unfold laws_toInt64S.f
  rw [if_pos (nn_cast _), if_pos (by simp; omega)]
  rw [set_loop (fun k acc i => laws_toInt64S.l0 k l acc i) l (fun x => x) 0 (fun k i hi acc ha _ => ?_) (fun k acc => ?_) k _ (by omega) (by simp)]
  · simp
  · simp only [laws_toInt64S.l0]
    rw [if_pos (lt_cast hi), if_pos (nn_cast i), if_pos (by omega), rd_get hi, wrap_succ hi (by omega)]
    rfl
  · simp only [laws_toInt64S.l0]
    rw [if_neg (nlt_cast _)]
theorem eqInt64S_eq {a b : List Int} (hl : a.length ≤ 1048576) {k : Nat} (hk : 1048600 ≤ k) : laws_eqInt64S.f k a b = some (decide (a = b)) := by
  unfold laws_eqInt64S.f
  by_cases h : a.length = b.length
  · rw [if_pos (by omega)]
    refine eq_loop (fun k i => laws_eqInt64S.l0 k a b i) a b h 0 (fun k i h1 h2 _ => ?_) (fun k => ?_) k (by omega)
    · simp only [laws_eqInt64S.l0]
      rw [if_pos (lt_cast h1), if_pos (nn_cast i), if_pos (lt_cast h2), rd_get h1, rd_get h2, wrap_succ h1 (by omega)]

    · simp only [laws_eqInt64S.l0]
      rw [if_neg (nlt_cast _)]
  · rw [if_neg (by omega)]
    have : a ≠ b := fun e => h (by rw [e])
    simp [this]
/-! ### Note -/
def cNote (x : S62) : S60 := ⟨x.f0, x.f1⟩
def smNote (x : S62) : Prop := True
theorem rd_lNote {l : List S62} {i : Nat} (h : i < l.length) : rd_T62 l (i : Int) = l[i] := by
  simp [rd_T62, List.getD_eq_getElem?_getD, List.getElem?_eq_getElem h]
theorem rd_iNote {l : List S60} {i : Nat} (h : i < l.length) : rd_T60 l (i : Int) = l[i] := by
  simp [rd_T60, List.getD_eq_getElem?_getD, List.getElem?_eq_getElem h]
theorem ext_iNote {a b : S60} : a = b ↔ a.f0 = b.f0 ∧ a.f1 = b.f1 := by
  cases a; cases b; simp
instance : DecidableEq S60 := fun _ _ => decidable_of_iff _ ext_iNote.symm
theorem szNoteS_some {l : List S62} (hl : l.length ≤ maxLen) (hg : ∀ y ∈ l, Go.Proofs.YtpfalhbeeodjaaaDoor.g62 y) {a : Int} (ha0 : 0 ≤ a) (ha : a ≤ 1048576) {k : Nat} (_hk : 1048600 ≤ k) : ∃ r, laws_szNoteS.f l a = some r ∧ (r < 0 ∨ (0 ≤ r ∧ r ≤ a ∧ l.length ≤ 1048576 ∧ ∀ y ∈ l, smNote y)) := by
  have hl' : l.length ≤ 9223372036854775807 := by simpa only [maxLen] using hl
  unfold laws_szNoteS.f
  rw [wrap_id (by omega) (by omega)]
  by_cases h0 : a - (l.length : Int) < 0
  · rw [if_pos h0]; exact ⟨-1, rfl, .inl (by omega)⟩
  · rw [if_neg h0]; exact ⟨_, rfl, .inr ⟨by omega, by omega, by omega, fun y hy => by unfold smNote; trivial⟩⟩
theorem toNote_eq {x : S62} (hs : smNote x) : laws_toNote.f x.f0 x.f1 = some ((cNote x).f0, (cNote x).f1) := by
  unfold smNote at hs
  unfold laws_toNote.f
  rfl
theorem toNoteS_eq {l : List S62} (hl : l.length ≤ 1048576) (hs : ∀ y ∈ l, smNote y) {k : Nat} (hk : 1048600 ≤ k) : laws_toNoteS.f k l = some (l.map cNote) := by
  unfold laws_toNoteS.f
  rw [if_pos (nn_cast _), if_pos (by simp; omega)]
  refine set_loop (fun k acc i => laws_toNoteS.l0 k l acc i) l cNote 0 (fun k i hi acc ha hB => ?_) (fun k acc => ?_) k _ (by omega) (by simp)
  · simp only [laws_toNoteS.l0]
    rw [if_pos (lt_cast hi), if_pos (nn_cast i), rd_lNote hi, wrap_succ hi (by omega), toNote_eq (hs _ (List.getElem_mem hi))]
    simp only [Option.bind_some]
    rw [if_pos (by omega)]
    rfl
  · simp only [laws_toNoteS.l0]
    rw [if_neg (nlt_cast _)]
def smiNote (x : S60) : Prop := True
theorem smi_cNote {x : S62} (hs : smNote x) : smiNote (cNote x) := by
  unfold smNote at hs
  unfold smiNote
  trivial
theorem eqNote_eq {a b : S60} (hs : smiNote a) : laws_eqNote.f a.f0 a.f1 b.f0 b.f1 = some (decide (a = b)) := by
  unfold smiNote at hs
  unfold laws_eqNote.f
  by_cases e0 : a.f0 = b.f0
  rotate_left
  · rw [if_neg e0]; have hne : ¬ a = b := fun e => e0 (ext_iNote.1 e).1; simp [hne]
  rw [if_pos e0]
  by_cases e1 : a.f1 = b.f1
  rotate_left
  · rw [if_neg e1]; have hne : ¬ a = b := fun e => e1 (ext_iNote.1 e).2; simp [hne]
  rw [if_pos e1]
  rw [decide_eq_true (ext_iNote.2 ⟨e0, e1⟩)]
theorem eqNoteS_eq {a b : List S60} (hl : a.length ≤ 1048576) (hs : ∀ y ∈ a, smiNote y) {k : Nat} (hk : 1048600 ≤ k) : laws_eqNoteS.f k a b = some (decide (a = b)) := by
  unfold laws_eqNoteS.f
  by_cases h : a.length = b.length
  · rw [if_pos (by omega)]
    refine eq_loop (fun k i => laws_eqNoteS.l0 k a b i) a b h 0 (fun k i h1 h2 hB => ?_) (fun k => ?_) k (by omega)
    · simp only [laws_eqNoteS.l0]
      rw [if_pos (lt_cast h1), if_pos (nn_cast i), if_pos (lt_cast h2), rd_iNote h1, rd_iNote h2, wrap_succ h1 (by omega), eqNote_eq (hs _ (List.getElem_mem h1))]
      simp only [Option.bind_some, decide_eq_true_eq]
    · simp only [laws_eqNoteS.l0]
      rw [if_neg (nlt_cast _)]
  · rw [if_neg (by omega)]
    have : a ≠ b := fun e => h (by rw [e])
    simp [this]
def mkInt64S (l : List Int) (m : Int) : List Int := mkl (fun _ m => m) (fun _ => 1) l m
theorem markInt64S_eq {l : List Int} {m : Int} (hm : 0 ≤ m) (hb : m + l.length ≤ 1073741824) {k : Nat} (hk : 200 + l.length ≤ k) : laws_markInt64S.f k l m = some (m + l.length, mkInt64S l m) := by
  unfold laws_markInt64S.f mkInt64S
  have h := mark_loop (fun k l m i => laws_markInt64S.l0 k l m i) (fun _ m => m) (fun _ => 1) 1073741824 100 (fun _ => by omega) (fun k pre x rest m hB hp hm hM => ?_) (fun k l m => ?_) k l m (by omega) (by omega) hm (by rw [mtot_const]; omega)
  · rw [mtot_const] at h
    rw [show m + (l.length : Int) = m + 1 * l.length from by omega]
    exact h
  · simp only [laws_markInt64S.l0]
    rw [if_pos (by simp; omega), if_pos (nn_cast _), set_mid, wrap_id (x := m + 1) (by omega) (by omega), wrap_succ (i := pre.length) (n := pre.length + 1) (by omega) (by omega)]
  · simp only [laws_markInt64S.l0]
    rw [if_neg (nlt_cast _)]
theorem heldInt64S_mk {l : List Int} {m0 : Int} (hm : 0 ≤ m0) (hb : m0 + l.length ≤ 1073741824) {k : Nat} (hk : 200 + l.length ≤ k) : laws_heldInt64S.f k (mkInt64S l m0) m0 = some (m0 + l.length) := by
  unfold laws_heldInt64S.f
  have h := held_loop (fun k m i => laws_heldInt64S.l0 k (mkInt64S l m0) m i) (fun _ m => m) (fun _ => 1) 1073741824 100 (fun _ => by omega) (mkInt64S l m0) (fun k pre x rest m he hB hp hm hM => ?_) (fun k m => ?_) k l m0 rfl (by omega) (by omega) hm (by rw [mtot_const]; omega)
  · rw [mtot_const] at h
    rw [show m0 + (l.length : Int) = m0 + 1 * l.length from by omega]
    exact h
  · simp only [laws_heldInt64S.l0]
    rw [if_pos (by rw [he]; simp; omega), if_pos (nn_cast _), he, rd_mid, if_pos rfl, wrap_id (x := m + 1) (by omega) (by omega), wrap_succ (i := pre.length) (n := pre.length + 1) (by omega) (by omega)]
  · simp only [laws_heldInt64S.l0]
    rw [if_neg (nlt_cast _)]
theorem rdm_iNote {pre rest : List S60} {x : S60} : rd_T60 (pre ++ x :: rest) (pre.length : Int) = x := by simp [rd_T60]
def mkNoteS (l : List S60) (m : Int) : List S60 := mkl (fun (_ : S60) m => (⟨m, m + 1⟩ : S60)) (fun _ => 2) l m
theorem markNoteS_eq {l : List S60} {m : Int} (hm : 0 ≤ m) (hb : m + 2 * l.length ≤ 1073741824) {k : Nat} (hk : 200 + l.length ≤ k) : laws_markNoteS.f k l m = some (m + 2 * l.length, mkNoteS l m) := by
  unfold laws_markNoteS.f mkNoteS
  have h := mark_loop (fun k l m i => laws_markNoteS.l0 k l m i) (fun (_ : S60) m => (⟨m, m + 1⟩ : S60)) (fun _ => 2) 1073741824 100 (fun _ => by omega) (fun k pre x rest m hB hp hm hM => ?_) (fun k l m => ?_) k l m (by omega) (by omega) hm (by rw [mtot_const]; omega)
  · rw [mtot_const] at h
    exact h
  · simp only [laws_markNoteS.l0]
    have w1 : wrap64 (m + 1) = m + 1 := wrap_id (by omega) (by omega)
    have w2 : wrap64 ((m + 1) + 1) = m + 1 + 1 := wrap_id (by omega) (by omega)
    rw [if_pos (by simp; omega)]
    simp only [Option.bind_some, w1, w2]
    (try rw [if_pos (nn_cast _)])
    simp only [Option.bind_some, rdm_iNote, set_mid, w1, w2]
    (try rw [if_pos (nn_cast _)])
    (try simp only [Option.bind_some, rdm_iNote, set_mid, w1, w2])
    rw [wrap_succ (i := pre.length) (n := pre.length + 1) (by omega) (by omega), show m + (2 : Int) = m + 1 + 1 from by omega]
  · simp only [laws_markNoteS.l0]
    rw [if_neg (nlt_cast _)]
theorem heldNoteS_mk {l : List S60} {m0 : Int} (hm : 0 ≤ m0) (hb : m0 + 2 * l.length ≤ 1073741824) {k : Nat} (hk : 200 + l.length ≤ k) : laws_heldNoteS.f k (mkNoteS l m0) m0 = some (m0 + 2 * l.length) := by
  unfold laws_heldNoteS.f
  have h := held_loop (fun k m i => laws_heldNoteS.l0 k (mkNoteS l m0) m i) (fun (_ : S60) m => (⟨m, m + 1⟩ : S60)) (fun _ => 2) 1073741824 100 (fun _ => by omega) (mkNoteS l m0) (fun k pre x rest m he hB hp hm hM => ?_) (fun k m => ?_) k l m0 rfl (by omega) (by omega) hm (by rw [mtot_const]; omega)
  · rw [mtot_const] at h
    exact h
  · simp only [laws_heldNoteS.l0]
    have w1 : wrap64 (m + 1) = m + 1 := wrap_id (by omega) (by omega)
    have w2 : wrap64 ((m + 1) + 1) = m + 1 + 1 := wrap_id (by omega) (by omega)
    rw [if_pos (by rw [he]; simp; omega), if_pos (nn_cast _)]
    simp only [he, rdm_iNote, Option.bind_some, w1, w2, if_true]
    rw [wrap_succ (i := pre.length) (n := pre.length + 1) (by omega) (by omega), show m + (2 : Int) = m + 1 + 1 from by omega]
  · simp only [laws_heldNoteS.l0]
    rw [if_neg (nlt_cast _)]
end Go.Proofs.YtpfalhbeeodjaaaDoor.P

/- A melody as text in a script: the reference and the program write the same. -/
namespace Go.Proofs.YtpfalhbeeodjaaaDoor.P
open Go.RowKit Go.Proofs.YtpfalhbeeodjaaaDoorW.PrintWords Go.Proofs.YtpfalhbeeodjaaaDoorL
def noteB (x : S60) : Bool := (decide (-12 ≤ x.f0) && decide (x.f0 ≤ 23)) && (decide (1 ≤ x.f1) && decide (x.f1 ≤ 64))
def melB (l : List S60) : Bool := l.all noteB && decide (l.length ≤ 48)
theorem ValidMelody_eq {l : List S60} {k : Nat} (hk : 100 ≤ k) : impl_ValidMelody.f k l = some (melB l) := by
  unfold impl_ValidMelody.f melB
  by_cases hl : l.length ≤ 48
  rotate_left
  · rw [if_pos (by omega), decide_eq_false hl, Bool.and_false]
  rw [if_neg (by omega), decide_eq_true hl, Bool.and_true]
  refine list_loop0 (fun k i => impl_ValidMelody.l0 k l (l.length : Int) i) l (fun r => r.all noteB) 0 (fun k i hi _ => ?_) (fun k => ?_) k (by omega)
  · simp only [impl_ValidMelody.l0]
    rw [if_pos (lt_cast hi), if_pos (nn_cast i), if_pos (lt_cast hi), rd_iNote hi, wrap_succ hi (by omega)]
    unfold impl_pitchOk.f impl_lengthOk.f
    rw [within_eq, within_eq]; simp only [Option.bind_some]
    rw [List.all_cons]
    change _ = some (((decide (-12 ≤ l[i].f0) && decide (l[i].f0 ≤ 23)) && (decide (1 ≤ l[i].f1) && decide (l[i].f1 ≤ 64))) && _) ∨ (((((decide (-12 ≤ l[i].f0) && decide (l[i].f0 ≤ 23)) && (decide (1 ≤ l[i].f1) && decide (l[i].f1 ≤ 64))) && _) = _) ∧ _)
    cases (decide (-12 ≤ l[i].f0) && decide (l[i].f0 ≤ 23))
    · left; rfl
    · cases (decide (1 ≤ l[i].f1) && decide (l[i].f1 ≤ 64))
      · left; rfl
      · right; exact ⟨rfl, rfl⟩
  · simp only [impl_ValidMelody.l0]
    rw [if_neg (nlt_cast _)]; rfl
theorem l09Ok_eq {l : List S60} (hl : l.length ≤ 2000000) {k : Nat} (hk : l.length + 100 ≤ k) : spec_l09Ok.f k l = some (melB l) := by
  unfold spec_l09Ok.f melB
  refine list_loop0 (fun k i => spec_l09Ok.l0 k l i) l (fun r => r.all noteB && decide (l.length ≤ 48)) 0 (fun k i hi _ => ?_) (fun k => ?_) k (by omega)
  · simp only [spec_l09Ok.l0]
    rw [if_pos (lt_cast hi), if_pos (nn_cast i), rd_iNote hi, wrap_succ hi (by omega)]
    unfold spec_l03Pitch.f spec_l09Length.f
    rw [in_eq, in_eq]; simp only [Option.bind_some]
    rw [List.all_cons]
    change _ = some ((((decide (-12 ≤ l[i].f0) && decide (l[i].f0 ≤ 23)) && (decide (1 ≤ l[i].f1) && decide (l[i].f1 ≤ 64))) && _) && _) ∨ ((((((decide (-12 ≤ l[i].f0) && decide (l[i].f0 ≤ 23)) && (decide (1 ≤ l[i].f1) && decide (l[i].f1 ≤ 64))) && _) && _) = _) ∧ _)
    cases (decide (-12 ≤ l[i].f0) && decide (l[i].f0 ≤ 23))
    · left; rfl
    · cases (decide (1 ≤ l[i].f1) && decide (l[i].f1 ≤ 64))
      · left; rfl
      · right; exact ⟨rfl, rfl⟩
  · simp only [spec_l09Ok.l0]
    rw [if_neg (nlt_cast _)]
    simp
    omega
def okNote (x : S60) : Prop := (-12 ≤ x.f0 ∧ x.f0 ≤ 23) ∧ -1000000000000 ≤ x.f1 ∧ x.f1 ≤ 1000000000000
theorem melB_ok {l : List S60} (h : melB l = true) : l.length ≤ 48 ∧ ∀ x ∈ l, okNote x := by
  unfold melB at h
  rw [Bool.and_eq_true, decide_eq_true_iff] at h
  refine ⟨h.2, fun x hx => ?_⟩
  have := List.all_eq_true.1 h.1 x hx
  unfold noteB at this
  rw [Bool.and_eq_true, Bool.and_eq_true, Bool.and_eq_true, decide_eq_true_iff, decide_eq_true_iff, decide_eq_true_iff, decide_eq_true_iff] at this
  unfold okNote
  omega
def noteT (s k : Int) (x : S60) : ByteArray := (pt s k x.f0 ++ (⟨#[58]⟩ : ByteArray)) ++ impl_Decimal.t x.f1
theorem noteT_size {s k : Int} (h : keyB s k = true) {x : S60} (hx : okNote x) : (noteT s k x).size ≤ 60 := by
  have h1 := pt_size h hx.1.1 hx.1.2
  have h2 := Decimal_size (n := x.f1) (by have := hx.2.1; omega) (by have := hx.2.2; omega)
  have e1 : (⟨#[58]⟩ : ByteArray).size = 1 := rfl
  unfold noteT
  rw [ByteArray.size_append, ByteArray.size_append]; omega
theorem notes_size {s k : Int} (h : keyB s k = true) {l : List S60} (hb : ∀ x ∈ l, okNote x) : ∀ x ∈ l.map (noteT s k), x.size ≤ 99 := by
  intro x hx
  obtain ⟨y, hy, rfl⟩ := List.mem_map.1 hx
  have := noteT_size h (hb y hy)
  omega
theorem notesIn_l0 {s k : Int} (h : keyB s k = true) {l : List S60} (hl : l.length ≤ 48) (hb : ∀ x ∈ l, okNote x) : ∀ (d K i : Nat), i + d = l.length → d + 1 ≤ K → impl_notesIn.l0 K s k ((l.take i).map (noteT s k)) l (l.length : Int) (i : Int) = some (joinT (l.map (noteT s k))) := by
  intro d
  induction d with
  | zero =>
    intro K i hi hK
    obtain ⟨K, rfl⟩ : ∃ m, K = m + 1 := ⟨K - 1, by omega⟩
    simp only [impl_notesIn.l0]
    rw [if_neg (by omega), List.take_of_length_le (by omega), Join_eq (by rw [List.length_map]; omega) (notes_size h hb)]; rfl
  | succ d ih =>
    intro K i hi hK
    obtain ⟨K, rfl⟩ : ∃ m, K = m + 1 := ⟨K - 1, by omega⟩
    have hlt : i < l.length := by omega
    have hx := hb l[i] (List.getElem_mem hlt)
    obtain ⟨⟨x1, x2⟩, x3, x4⟩ := hx
    have hz := pt_size h (p := l[i].f0) x1 x2
    have hd := Decimal_size (n := l[i].f1) (by omega) (by omega)
    have e1 : (⟨#[58]⟩ : ByteArray).size = 1 := rfl
    simp only [impl_notesIn.l0]
    rw [if_pos (lt_cast hlt), if_pos (nn_cast i), if_pos (lt_cast hlt), rd_iNote hlt, pitchIn_eq h x1 x2]
    simp only [Option.bind_some]
    rw [if_pos (by omega), Decimal_eq (by omega) (by omega)]
    simp only [Option.bind_some]
    rw [if_pos (by rw [ByteArray.size_append]; omega), if_pos (by rw [List.length_map, List.length_take]; omega), wrap_succ hlt (by omega)]
    have e : (l.take i).map (noteT s k) ++ [(pt s k l[i].f0 ++ (⟨#[58]⟩ : ByteArray)) ++ impl_Decimal.t l[i].f1] = (l.take (i + 1)).map (noteT s k) := by
      rw [List.take_add_one, List.getElem?_eq_getElem hlt, List.map_append]; rfl
    rw [e]
    exact ih K (i + 1) (by omega) (by omega)
theorem notesIn_eq {s k : Int} (h : keyB s k = true) {l : List S60} (hl : l.length ≤ 48) (hb : ∀ x ∈ l, okNote x) {K : Nat} (hK : 100 ≤ K) : impl_notesIn.f K s k l = some (joinT (l.map (noteT s k))) :=
  notesIn_l0 h hl hb l.length K 0 (by omega) (by omega)
theorem l26Notes_l0 {s k : Int} (h : keyB s k = true) {l : List S60} (hl : l.length ≤ 48) (hb : ∀ x ∈ l, okNote x) : ∀ (d K i : Nat) (acc : ByteArray), i + d = l.length → 0 < i → acc.size ≤ 100 * i → d + 2100 ≤ K → spec_l26Notes.l0 K s k l acc (i : Int) = some (catS acc ((l.drop i).map (noteT s k))) := by
  intro d
  induction d with
  | zero =>
    intro K i acc hi h0 ha hK
    obtain ⟨K, rfl⟩ : ∃ m, K = m + 1 := ⟨K - 1, by omega⟩
    simp only [spec_l26Notes.l0]
    rw [if_neg (by omega), List.drop_eq_nil_of_le (by omega)]; rfl
  | succ d ih =>
    intro K i acc hi h0 ha hK
    obtain ⟨K, rfl⟩ : ∃ m, K = m + 1 := ⟨K - 1, by omega⟩
    have hlt : i < l.length := by omega
    have hx := hb l[i] (List.getElem_mem hlt)
    have hs := noteT_size h hx
    obtain ⟨⟨x1, x2⟩, x3, x4⟩ := hx
    have hz := pt_size h (p := l[i].f0) x1 x2
    have hd := Decimal_size (n := l[i].f1) (by omega) (by omega)
    have e1 : (⟨#[58]⟩ : ByteArray).size = 1 := rfl
    have e3 : (⟨#[32]⟩ : ByteArray).size = 1 := rfl
    simp only [spec_l26Notes.l0]
    rw [if_pos (lt_cast hlt), if_pos (by omega), if_pos (by omega), if_pos (nn_cast i), rd_iNote hlt, l26Pitch_eq h x1 x2 (by omega)]
    simp only [Option.bind_some]
    rw [if_pos (by omega), l01Dec_eq (by omega) (by omega) (by omega)]
    simp only [Option.bind_some]
    rw [if_pos (by rw [ByteArray.size_append]; omega)]
    change (if (acc ++ (⟨#[32]⟩ : ByteArray)).size + (noteT s k l[i]).size ≤ 9223372036854775807 then spec_l26Notes.l0 K s k l ((acc ++ (⟨#[32]⟩ : ByteArray)) ++ noteT s k l[i]) (wrap64 ((i : Int) + 1)) else none) = _
    rw [if_pos (by rw [ByteArray.size_append]; omega), wrap_succ hlt (by omega), ih K (i + 1) _ (by omega) (by omega) (by rw [ByteArray.size_append, ByteArray.size_append]; omega) (by omega), List.drop_eq_getElem_cons hlt, List.map_cons, catS_snoc]
theorem l26Notes_eq {s k : Int} (h : keyB s k = true) {l : List S60} (hl : l.length ≤ 48) (hb : ∀ x ∈ l, okNote x) {K : Nat} (hK : 3000 ≤ K) : spec_l26Notes.f K s k l = some (joinT (l.map (noteT s k))) := by
  unfold spec_l26Notes.f
  obtain ⟨K, rfl⟩ : ∃ m, K = m + 1 := ⟨K - 1, by omega⟩
  cases l with
  | nil => simp only [spec_l26Notes.l0]; rfl
  | cons x r =>
    have hx := hb x List.mem_cons_self
    have hs := noteT_size h hx
    obtain ⟨⟨x1, x2⟩, x3, x4⟩ := hx
    have hz := pt_size h (p := x.f0) x1 x2
    have hd := Decimal_size (n := x.f1) (by omega) (by omega)
    have e1 : (⟨#[58]⟩ : ByteArray).size = 1 := rfl
    have h0 : (0 : Int) < (((x :: r).length : Nat) : Int) := by rw [List.length_cons]; omega
    have e0 : (⟨#[]⟩ : ByteArray).size = 0 := rfl
    have e2 : rd_T60 (x :: r) 0 = x := rfl
    have hw : wrap64 (0 + 1) = ((1 : Nat) : Int) := by rw [wrap_id (by omega) (by omega)]; rfl
    simp only [spec_l26Notes.l0]
    rw [if_pos h0, if_neg (by omega), if_pos (Int.le_refl 0), e2, l26Pitch_eq h x1 x2 (by omega)]
    simp only [Option.bind_some]
    rw [if_pos (by omega), l01Dec_eq (by omega) (by omega) (by omega)]
    simp only [Option.bind_some]
    rw [if_pos (by rw [ByteArray.size_append]; omega)]
    change (if (⟨#[]⟩ : ByteArray).size + (noteT s k x).size ≤ 9223372036854775807 then spec_l26Notes.l0 K s k (x :: r) ((⟨#[]⟩ : ByteArray) ++ noteT s k x) (wrap64 (0 + 1)) else none) = _
    rw [if_pos (by omega), bnil, hw, l26Notes_l0 h hl hb r.length K 1 _ (by rw [List.length_cons]; omega) (by omega) (by omega) (by rw [List.length_cons] at hl; omega)]
    rfl
end Go.Proofs.YtpfalhbeeodjaaaDoor.P

/- The pitch that is written so: both look through all pitches, from the least. -/
namespace Go.Proofs.YtpfalhbeeodjaaaDoor.P
open Go.RowKit Go.Proofs.YtpfalhbeeodjaaaDoorW.PrintWords Go.Proofs.YtpfalhbeeodjaaaDoorL
def readL (s k : Int) (a : ByteArray) : Nat → Int → Int × Bool
  | 0, _ => (0, false)
  | n + 1, p => if (pt s k p).toList = a.toList then (p, true) else readL s k a n (p + 1)
def readPt (s k : Int) (a : ByteArray) : Int × Bool := readL s k a 36 (-12)
theorem readPitch_lst {s k : Int} (a : ByteArray) (h : keyB s k = true) : ∀ (n : Nat) (p : Int), -12 ≤ p → p + n = 24 → impl_readPitchIn.lst (impl_readPitchIn.q s k a) n p = some (readL s k a n p) := by
  intro n
  induction n with
  | zero => intro p _ _; rfl
  | succ n ih =>
    intro p h0 h1
    simp only [impl_readPitchIn.lst, readL, impl_readPitchIn.q]
    rw [pitchIn_eq h h0 (by omega)]
    simp only [Option.bind_some]
    by_cases he : (pt s k p).toList = a.toList
    · rw [if_pos (beq_iff_eq.2 he), if_pos he]
    · rw [if_neg (fun e => he (beq_iff_eq.1 e)), if_neg he]
      exact ih (p + 1) (by omega) (by omega)
theorem readPitchIn_eq {s k : Int} (a : ByteArray) (h : keyB s k = true) : impl_readPitchIn.f s k a = some (readPt s k a) := readPitch_lst a h 36 (-12) (by omega) (by omega)
theorem readPitch_l0 {s k : Int} (a : ByteArray) (h : keyB s k = true) : ∀ (n : Nat) (p : Int) (K : Nat), -12 ≤ p → p + n = 24 → n + 2100 ≤ K → spec_l26ReadPitch.l0 K s k a p = some (readL s k a n p) := by
  intro n
  induction n with
  | zero =>
    intro p K h0 h1 hK
    obtain ⟨K, rfl⟩ : ∃ m, K = m + 1 := ⟨K - 1, by omega⟩
    simp only [spec_l26ReadPitch.l0, readL]
    rw [if_neg (by omega)]
  | succ n ih =>
    intro p K h0 h1 hK
    obtain ⟨K, rfl⟩ : ∃ m, K = m + 1 := ⟨K - 1, by omega⟩
    simp only [spec_l26ReadPitch.l0, readL]
    rw [if_pos (by omega), l26Pitch_eq h h0 (by omega) (by omega)]
    simp only [Option.bind_some]
    by_cases he : (pt s k p).toList = a.toList
    · rw [if_pos he, if_pos he]
    · rw [if_neg he, if_neg he, wrap_id (by omega) (by omega), ih (p + 1) K (by omega) (by omega) (by omega)]
theorem l26ReadPitch_eq {s k : Int} (a : ByteArray) (h : keyB s k = true) {K : Nat} (hK : 2200 ≤ K) : spec_l26ReadPitch.f K s k a = some (readPt s k a) := readPitch_l0 a h 36 (-12) K (by omega) (by omega) (by omega)
/-- A pitch that is read lies within the pitches. -/
theorem readL_bounds {s k : Int} {a : ByteArray} : ∀ (n : Nat) (p : Int), (readL s k a n p).2 = true → p ≤ (readL s k a n p).1 ∧ (readL s k a n p).1 < p + n ∧ (pt s k (readL s k a n p).1).toList = a.toList := by
  intro n
  induction n with
  | zero => intro p h; simp [readL] at h
  | succ n ih =>
    intro p h
    simp only [readL] at h ⊢
    by_cases he : (pt s k p).toList = a.toList
    · rw [if_pos he] at h ⊢; exact ⟨by simp, by simp; omega, he⟩
    · rw [if_neg he] at h ⊢
      obtain ⟨h1, h2, h3⟩ := ih (p + 1) h
      exact ⟨by omega, by omega, h3⟩
theorem readPt_bounds {s k : Int} {a : ByteArray} (h : (readPt s k a).2 = true) : -12 ≤ (readPt s k a).1 ∧ (readPt s k a).1 ≤ 23 := by
  have := readL_bounds 36 (-12) h
  exact ⟨this.1, by have := this.2.1; unfold readPt; omega⟩
end Go.Proofs.YtpfalhbeeodjaaaDoor.P

/- A number read from decimal text: the reference's reader and the program's take the same texts, and to the same numbers. -/
namespace Go.Proofs.YtpfalhbeeodjaaaDoor.P
open Go.RowKit Go.Proofs.YtpfalhbeeodjaaaDoorW.PrintWords Go.Proofs.YtpfalhbeeodjaaaDoorL
def digB (c : UInt8) : Bool := decide (48 ≤ c.toNat) && decide (c.toNat ≤ 57)
def valD (acc : Nat) (d : List UInt8) : Nat := d.foldl (fun a c => a * 10 + (c.toNat - 48)) acc
def okN (neg : Bool) (d : List UInt8) : Bool := decide (1 ≤ d.length) && decide (d.length ≤ 18) && (decide (d.head? ≠ some 48) || (!neg && decide (d.length = 1))) && d.all digB
def sgn (neg : Bool) (n : Nat) : Int := if neg = true then -(n : Int) else (n : Int)
def numN (neg : Bool) (d : List UInt8) : Option Int := if okN neg d = true then some (sgn neg (valD 0 d)) else none
def numV (s : List UInt8) : Option Int := if s.head? = some 45 then numN true (s.drop 1) else numN false s
def pairN : Option Int → Int × Bool | some n => (n, true) | none => (0, false)
theorem digB_iff {c : UInt8} : digB c = true ↔ 48 ≤ c.toNat ∧ c.toNat ≤ 57 := by
  unfold digB
  rw [Bool.and_eq_true, decide_eq_true_iff, decide_eq_true_iff]
theorem valD_cons (acc : Nat) (c : UInt8) (r : List UInt8) : valD acc (c :: r) = valD (acc * 10 + (c.toNat - 48)) r := by
  unfold valD; rw [List.foldl_cons]
theorem valD_ge : ∀ (d : List UInt8) (acc : Nat), acc ≤ valD acc d
  | [], _ => Nat.le_refl _
  | c :: r, acc => by rw [valD_cons]; have := valD_ge r (acc * 10 + (c.toNat - 48)); omega
theorem valD_lt : ∀ (d : List UInt8) (acc j : Nat), d.all digB = true → acc < 10 ^ j → valD acc d < 10 ^ (j + d.length)
  | [], acc, j, _, h => h
  | c :: r, acc, j, ha, h => by
    rw [List.all_cons, Bool.and_eq_true, digB_iff] at ha
    have := valD_lt r (acc * 10 + (c.toNat - 48)) (j + 1) ha.2 (by rw [Nat.pow_succ]; omega)
    rw [valD_cons, List.length_cons, show j + (r.length + 1) = j + 1 + r.length by omega]; exact this
theorem pow17 {j : Nat} (h : j ≤ 17) : 10 ^ j ≤ 100000000000000000 := Nat.le_trans (Nat.pow_le_pow_right (by decide) h) (by decide)
theorem bt_drop {s : ByteArray} {i : Nat} {c : UInt8} {r : List UInt8} (h : s.data.toList.drop i = c :: r) : bt s (i : Int) = (c.toNat : Int) := by
  have hl : i < s.size := by
    have := congrArg List.length h
    rw [List.length_drop, List.length_cons, ← Lib.size_eq] at this; omega
  have e : s.data.toList[i]? = some c := by
    have := List.getElem?_drop (xs := s.data.toList) (i := i) (j := 0)
    rw [h] at this; simpa using this.symm
  rw [Lib.data_getElem? s i hl] at e
  have e' := Option.some.inj e
  have hi : ((i : Int)).toNat = i := by omega
  unfold bt
  rw [dif_pos (by omega)]
  simp only [hi]
  rw [e']
theorem Digit_eq (c : UInt8) : spec_l01Digit.f (c.toNat : Int) = some (digB c) := by
  unfold spec_l01Digit.f digB
  by_cases h : (c.toNat : Int) ≥ 48
  · rw [if_pos h]
    have h1 : 48 ≤ c.toNat := by omega
    by_cases h2 : c.toNat ≤ 57
    · have h3 : (c.toNat : Int) ≤ 57 := by omega
      simp [h1, h2, h3]
    · have h3 : ¬ (c.toNat : Int) ≤ 57 := by omega
      simp [h1, h2, h3]
  · rw [if_neg h]
    have h1 : ¬ 48 ≤ c.toNat := by omega
    simp [h1]
theorem Num_l0 (s : ByteArray) (neg : Bool) (hs : s.size ≤ 1048576) : ∀ (d k i acc j : Nat), i + d = s.size → acc < 10 ^ j → j + d ≤ 18 → d + 1 ≤ k →
    spec_l01Number.l0 k s (if neg = true then 1 else 0) (acc : Int) (i : Int) = some (if (s.data.toList.drop i).all digB = true then (sgn neg (valD acc (s.data.toList.drop i)), true) else (0, false)) := by
  intro d
  induction d with
  | zero =>
    intro k i acc j hi ha hj hk
    obtain ⟨k, rfl⟩ : ∃ m, k = m + 1 := ⟨k - 1, by omega⟩
    have hd : s.data.toList.drop i = [] := List.drop_eq_nil_of_le (by rw [← Lib.size_eq]; omega)
    have := pow17 (j := 17) (by omega)
    have hlt : acc < 1000000000000000000 := Nat.lt_of_lt_of_le ha (Nat.le_trans (Nat.pow_le_pow_right (by decide) (show j ≤ 18 by omega)) (by decide))
    simp only [spec_l01Number.l0]
    rw [if_neg (by omega), hd]
    cases neg
    · simp [sgn, valD]
    · simp [sgn, valD, wrap_id (x := -(acc : Int)) (by omega) (by omega)]
  | succ d ih =>
    intro k i acc j hi ha hj hk
    obtain ⟨k, rfl⟩ : ∃ m, k = m + 1 := ⟨k - 1, by omega⟩
    have hlt : i < s.data.toList.length := by rw [← Lib.size_eq]; omega
    obtain ⟨c, r, hd⟩ : ∃ c r, s.data.toList.drop i = c :: r := ⟨_, _, List.drop_eq_getElem_cons hlt⟩
    have hr : s.data.toList.drop (i + 1) = r := by
      rw [← List.drop_drop, hd]; rfl
    have hp := pow17 (j := j) (by omega)
    simp only [spec_l01Number.l0]
    rw [if_pos (by omega), if_pos (nn_cast i), bt_drop hd, Digit_eq, hd, List.all_cons]
    simp only [Option.bind_some]
    by_cases hc : digB c = true
    · rw [if_pos hc, hc, Bool.true_and]
      rw [digB_iff] at hc
      have e1 : wrap64 (wrap64 (10 * (acc : Int)) + ((c.toNat : Int) - 48) % 256) = ((acc * 10 + (c.toNat - 48) : Nat) : Int) := by
        rw [wrap_id (x := 10 * (acc : Int)) (by omega) (by omega), wrap_id (by omega) (by omega)]; omega
      have e2 : wrap64 ((i : Int) + 1) = ((i + 1 : Nat) : Int) := by rw [wrap_id (by omega) (by omega)]; omega
      rw [e1, e2, ih k (i + 1) _ (j + 1) (by omega) (by rw [Nat.pow_succ]; omega) (by omega) (by omega), hr, valD_cons]
    · rw [if_neg hc]
      rw [Bool.not_eq_true] at hc
      simp [hc]
theorem Num_j1 (s : ByteArray) (neg : Bool) (x4 : Nat) (hx : x4 = if neg = true then 1 else 0) (hle : x4 ≤ s.size) (hs : s.size ≤ 1048576) {k : Nat} (hk : 50 ≤ k) :
    spec_l01Number.j1 k s (x4 : Int) = some (pairN (numN neg (s.data.toList.drop x4))) := by
  obtain ⟨k, rfl⟩ : ∃ m, k = m + 2 := ⟨k - 2, by omega⟩
  have hd : (s.data.toList.drop x4).length = s.size - x4 := by rw [List.length_drop, ← Lib.size_eq]
  have j2t : spec_l01Number.j2 (k + 1) s (x4 : Int) true = some (0, false) := by simp only [spec_l01Number.j2]; rw [if_pos trivial]
  have j2f : s.size - x4 ≤ 18 → spec_l01Number.j2 (k + 1) s (x4 : Int) false = some (if (s.data.toList.drop x4).all digB = true then (sgn neg (valD 0 (s.data.toList.drop x4)), true) else (0, false)) := fun h18 => by
    have := Num_l0 s neg hs (s.size - x4) k x4 0 0 (by omega) (by decide) (by omega) (by omega)
    have e : ((if neg = true then 1 else 0 : Int)) = (x4 : Int) := by rw [hx]; cases neg <;> rfl
    rw [e] at this
    simp only [spec_l01Number.j2]
    rw [if_neg (by decide)]
    exact this
  show spec_l01Number.j1 (k + 1 + 1) s (x4 : Int) = _
  simp only [spec_l01Number.j1]
  unfold numN okN
  by_cases h1 : (s.size : Int) = (x4 : Int)
  · rw [if_pos h1, j2t, hd, show s.size - x4 = 0 by omega]; rfl
  rw [if_neg h1, wrap_id (by omega) (by omega)]
  by_cases h2 : (s.size : Int) - (x4 : Int) > 18
  · have h3 : ¬ s.size - x4 ≤ 18 := by omega
    rw [if_pos h2, j2t, hd, decide_eq_false h3]; simp [pairN]
  have hlt : x4 < s.data.toList.length := by rw [← Lib.size_eq]; omega
  rw [if_neg h2, if_pos (nn_cast x4), if_pos (by omega), hd]
  obtain ⟨c, r, hc⟩ : ∃ c r, s.data.toList.drop x4 = c :: r := ⟨_, _, List.drop_eq_getElem_cons hlt⟩
  have h18 : s.size - x4 ≤ 18 := by omega
  have h1' : 1 ≤ s.size - x4 := by omega
  rw [bt_drop hc]
  have key : ∀ b : Bool, (b = (decide ((s.data.toList.drop x4).head? ≠ some 48) || (!neg && decide (s.size - x4 = 1)))) → (if b = true then spec_l01Number.j2 (k + 1) s (x4 : Int) false else spec_l01Number.j2 (k + 1) s (x4 : Int) true) = some (pairN (if (decide (1 ≤ s.size - x4) && decide (s.size - x4 ≤ 18) && (decide ((s.data.toList.drop x4).head? ≠ some 48) || (!neg && decide (s.size - x4 = 1))) && (s.data.toList.drop x4).all digB) = true then some (sgn neg (valD 0 (s.data.toList.drop x4))) else none)) := by
    intro b hb
    rw [← hb, decide_eq_true h1', decide_eq_true h18]
    cases b
    · rw [if_neg (by decide), j2t]; rfl
    · rw [if_pos rfl, j2f h18]
      cases (s.data.toList.drop x4).all digB <;> rfl
  by_cases h48 : (c.toNat : Int) = 48
  · have hc48 : c = 48 := UInt8.toNat_inj.1 (by rw [show c.toNat = 48 by omega]; rfl)
    rw [if_pos h48]
    have hh : decide ((s.data.toList.drop x4).head? ≠ some 48) = false := by rw [hc, hc48]; rfl
    have := key (!decide ((s.size : Int) > 1)) (by
      rw [hh, Bool.false_or]
      cases neg
      · have : x4 = 0 := hx
        subst this
        by_cases hz : s.size = 1
        · simp [hz]
        · have : (s.size : Int) > 1 := by omega
          simp [hz, this]
      · have : x4 = 1 := hx
        subst this
        have : (s.size : Int) > 1 := by omega
        simp [this])
    rw [← this]
    cases decide ((s.size : Int) > 1) <;> rfl
  · rw [if_neg h48]
    have hh : decide ((s.data.toList.drop x4).head? ≠ some 48) = true := by
      rw [hc]; refine decide_eq_true ?_
      intro e; apply h48; rw [show c = 48 from Option.some.inj e]; rfl
    have := key true (by rw [hh, Bool.true_or])
    rw [← this]; rfl
theorem Number_eq (s : ByteArray) (hs : s.size ≤ 1048576) {k : Nat} (hk : 60 ≤ k) : spec_l01Number.f k s = some (pairN (numV s.data.toList)) := by
  obtain ⟨k, rfl⟩ : ∃ m, k = m + 1 := ⟨k - 1, by omega⟩
  unfold spec_l01Number.f numV
  by_cases h0 : (s.size : Int) > 0
  · have hlt : 0 < s.data.toList.length := by rw [← Lib.size_eq]; omega
    obtain ⟨c, r, hc⟩ : ∃ c r, s.data.toList.drop 0 = c :: r := ⟨_, _, List.drop_eq_getElem_cons hlt⟩
    rw [if_pos h0, if_pos (by omega), show (0 : Int) = ((0 : Nat) : Int) from rfl, bt_drop hc]
    rw [List.drop_zero] at hc
    have hh : s.data.toList.head? = some c := by rw [hc]; rfl
    rw [hh]
    simp only [spec_l01Number.j0]
    by_cases h45 : c = 45
    · subst h45
      rw [if_pos (by decide), if_pos rfl]
      exact Num_j1 s true 1 rfl (by omega) hs (by omega)
    · have : ¬ ((((c.toNat : Nat) : Int)) == 45) = true := by
        intro e; apply h45; exact UInt8.toNat_inj.1 (by have := beq_iff_eq.1 e; rw [show c.toNat = 45 by omega]; rfl)
      rw [if_neg this, if_neg (fun e => h45 (Option.some.inj e))]
      have := Num_j1 s false 0 rfl (by omega) hs (k := k) (by omega)
      rw [List.drop_zero] at this; exact this
  · have hz : s.size = 0 := by omega
    have hn : s.data.toList = [] := List.eq_nil_of_length_eq_zero (by rw [← Lib.size_eq]; exact hz)
    rw [if_neg h0, hn]
    simp only [spec_l01Number.j0]
    rw [if_neg (by decide)]
    have := Num_j1 s false 0 rfl (by omega) hs (k := k) (by omega)
    rw [List.drop_zero, hn] at this; exact this
theorem valD_snoc (l : List UInt8) (b : UInt8) : valD 0 (l ++ [b]) = valD 0 l * 10 + (b.toNat - 48) := by unfold valD; rw [List.foldl_append]; rfl
theorem valD_pos {d : List UInt8} (h0 : d ≠ []) (ha : d.all digB = true) (h : d.head? ≠ some 48) : 1 ≤ valD 0 d := by
  cases d with
  | nil => exact absurd rfl h0
  | cons c r =>
    rw [List.all_cons, Bool.and_eq_true, digB_iff] at ha
    have hc : c.toNat ≠ 48 := fun e => h (by rw [List.head?_cons]; congr 1; exact UInt8.toNat_inj.1 (by rw [e]; rfl))
    have := valD_ge r (0 * 10 + (c.toNat - 48))
    rw [valD_cons]; omega
theorem dec_val : ∀ (n : Nat) (d : List UInt8), d.length ≤ n → d ≠ [] → d.all digB = true → (d.head? ≠ some 48 ∨ d.length = 1) → Lib.decDigits (valD 0 d) = d := by
  intro n
  induction n with
  | zero => intro d h h0; exact absurd (List.eq_nil_of_length_eq_zero (by omega)) h0
  | succ n ih =>
    intro d h h0 ha hh
    rcases List.eq_nil_or_concat d with rfl | ⟨l, b, rfl⟩
    · exact absurd rfl h0
    rw [List.concat_eq_append] at h ha hh ⊢
    rw [List.all_append, Bool.and_eq_true, List.all_cons, Bool.and_eq_true, digB_iff] at ha
    have hb := ha.2.1
    have eb : UInt8.ofNat (48 + (b.toNat - 48)) = b := by rw [show 48 + (b.toNat - 48) = b.toNat by omega]; exact UInt8.ofNat_toNat
    rw [valD_snoc, Lib.decDigits]
    cases l with
    | nil =>
      rw [dif_pos (by show 0 * 10 + _ < 10; omega)]
      show [UInt8.ofNat (48 + (0 * 10 + (b.toNat - 48)))] = _
      rw [Nat.zero_mul, Nat.zero_add, eb]; rfl
    | cons c r =>
      have h48 : (c :: r).head? ≠ some 48 := by
        rcases hh with hh | hh
        · simpa using hh
        · simp at hh
      have hp := valD_pos (by simp) ha.1 h48
      rw [dif_neg (by omega), show (valD 0 (c :: r) * 10 + (b.toNat - 48)) / 10 = valD 0 (c :: r) by omega, show (valD 0 (c :: r) * 10 + (b.toNat - 48)) % 10 = b.toNat - 48 by omega, eb]
      rw [ih (c :: r) (by simp at h ⊢; omega) (by simp) ha.1 (Or.inl h48)]
theorem toNat_dig {u : Nat} (h : u < 10) : (UInt8.ofNat (48 + u)).toNat = 48 + u := by
  rw [UInt8.toNat_ofNat']; omega
theorem dec_spec : ∀ (n u : Nat), u ≤ n → Lib.decDigits u ≠ [] ∧ (Lib.decDigits u).all digB = true ∧ valD 0 (Lib.decDigits u) = u ∧ (u ≠ 0 → (Lib.decDigits u).head? ≠ some 48) ∧ (u = 0 → (Lib.decDigits u).length = 1) := by
  intro n
  induction n with
  | zero =>
    intro u h
    obtain rfl : u = 0 := by omega
    rw [Lib.decDigits_one (by decide)]
    exact ⟨by simp, by decide, by decide, fun h => absurd rfl h, fun _ => rfl⟩
  | succ n ih =>
    intro u h
    rw [Lib.decDigits]
    by_cases h10 : u < 10
    · rw [dif_pos h10]
      have e := toNat_dig h10
      refine ⟨by simp, ?_, ?_, ?_, fun _ => rfl⟩
      · rw [List.all_cons, Bool.and_eq_true, digB_iff, e]; exact ⟨by omega, rfl⟩
      · rw [valD_cons, e]; show 0 * 10 + (48 + u - 48) = u; omega
      · intro h0 e2
        rw [List.head?_cons] at e2
        have := congrArg UInt8.toNat (Option.some.inj e2)
        rw [e] at this
        have e48 : (48 : UInt8).toNat = 48 := rfl
        omega
    · rw [dif_neg h10]
      obtain ⟨i1, i2, i3, i4, _⟩ := ih (u / 10) (by omega)
      have e := toNat_dig (u := u % 10) (by omega)
      refine ⟨by simp, ?_, ?_, ?_, fun h0 => by omega⟩
      · rw [List.all_append, i2, List.all_cons, Bool.true_and, Bool.and_eq_true, digB_iff, e]; exact ⟨by omega, rfl⟩
      · rw [valD_snoc, i3, e]; omega
      · intro _
        have := i4 (by omega)
        revert this i1
        generalize Lib.decDigits (u / 10) = l
        intro i1 i4
        cases l with
        | nil => exact absurd rfl i1
        | cons c r => simpa using i4
theorem parseM : ∀ (d : List UInt8) (acc j : Nat), d.all digB = true → acc < 10 ^ j → j + d.length ≤ 18 → Lib.parseUintM (2 ^ 64 - 1) acc d = .ok (valD acc d)
  | [], acc, j, _, _, _ => rfl
  | c :: r, acc, j, ha, hj, hl => by
    rw [List.all_cons, Bool.and_eq_true, digB_iff] at ha
    rw [List.length_cons] at hl
    have hp := pow17 (j := j) (by omega)
    rw [Lib.parseUintM, if_pos ha.1, if_neg (by omega), if_neg (by omega), valD_cons]
    exact parseM r _ (j + 1) ha.2 (by rw [Nat.pow_succ]; omega) (by omega)
theorem okN_iff {neg : Bool} {d : List UInt8} : okN neg d = true ↔ (1 ≤ d.length ∧ d.length ≤ 18) ∧ (d.head? ≠ some 48 ∨ (neg = false ∧ d.length = 1)) ∧ d.all digB = true := by
  unfold okN
  simp only [Bool.and_eq_true, Bool.or_eq_true, decide_eq_true_iff, Bool.not_eq_true', and_assoc]
theorem parseU {neg : Bool} {d : List UInt8} (h : okN neg d = true) : Lib.parseUintB 64 d = .ok (valD 0 d) ∧ valD 0 d < 1000000000000000000 := by
  obtain ⟨⟨h1, h2⟩, _, h3⟩ := okN_iff.1 h
  unfold Lib.parseUintB
  rw [if_neg (by intro e; rw [e] at h1; simp at h1)]
  refine ⟨parseM d 0 0 h3 (by decide) (by omega), ?_⟩
  have := valD_lt d 0 0 h3 (by decide)
  exact Nat.lt_of_lt_of_le this (Nat.le_trans (Nat.pow_le_pow_right (by decide) (show 0 + d.length ≤ 18 by omega)) (by decide))
theorem dec_list (n : Int) : (impl_Decimal.t n).data.toList = Lib.itoa n := by unfold impl_Decimal.t; simp
theorem trim_minus (r : List UInt8) : Lib.trimPrefix (45 :: r) [45] = r := by
  unfold Lib.trimPrefix Lib.hasPrefix
  rw [if_pos (by simp [List.isPrefixOf])]; rfl
theorem trim_other {c : UInt8} (r : List UInt8) (h : c ≠ 45) : Lib.trimPrefix (c :: r) [45] = c :: r := by
  unfold Lib.trimPrefix Lib.hasPrefix
  rw [if_neg (by simp [List.isPrefixOf]; exact fun e => h e.symm)]
theorem num_itoa {s : List UInt8} {n : Int} (h : numV s = some n) : Lib.itoa n = s ∧ Lib.parseIntB 64 s = .ok n ∧ (Lib.trimPrefix s [45]).length ≤ 18 := by
  unfold numV at h
  by_cases h45 : s.head? = some 45
  · rw [if_pos h45] at h
    obtain ⟨r, rfl⟩ : ∃ r, s = 45 :: r := by
      cases s with
      | nil => simp at h45
      | cons c r => exact ⟨r, by rw [List.head?_cons] at h45; rw [Option.some.inj h45]⟩
    rw [show (45 :: r).drop 1 = r from rfl] at h
    unfold numN at h
    by_cases ho : okN true r = true
    · rw [if_pos ho] at h
      obtain rfl := Option.some.inj h
      obtain ⟨p1, p2⟩ := parseU ho
      obtain ⟨⟨h1, h2⟩, h3, h4⟩ := okN_iff.1 ho
      have h48 : r.head? ≠ some 48 := h3.resolve_right (fun e => by simp at e)
      have hne : r ≠ [] := by intro e; rw [e] at h1; simp at h1
      have hp := valD_pos hne h4 h48
      refine ⟨?_, ?_, by rw [trim_minus]; exact h2⟩
      · unfold Lib.itoa sgn
        rw [if_pos rfl, if_pos (by omega), show (-((valD 0 r : Nat) : Int)).natAbs = valD 0 r by omega, dec_val _ r (Nat.le_refl _) hne h4 (Or.inl h48)]
      · rw [Lib.parseIntB_minus, p1]
        show (if 2 ^ (64 - 1) < valD 0 r then _ else _) = _
        rw [if_neg (by omega)]; rfl
    · rw [if_neg ho] at h; cases h
  · rw [if_neg h45] at h
    unfold numN at h
    by_cases ho : okN false s = true
    · rw [if_pos ho] at h
      obtain rfl := Option.some.inj h
      obtain ⟨p1, p2⟩ := parseU ho
      obtain ⟨⟨h1, h2⟩, h3, h4⟩ := okN_iff.1 ho
      cases s with
      | nil => simp at h1
      | cons c r =>
        have hc : 48 ≤ c.toNat ∧ c.toNat ≤ 57 := by
          rw [List.all_cons, Bool.and_eq_true, digB_iff] at h4; exact h4.1
        have hc45 : c ≠ 45 := fun e => h45 (by rw [e]; rfl)
        refine ⟨?_, ?_, by rw [trim_other r hc45]; exact h2⟩
        · unfold Lib.itoa sgn
          show (if ((valD 0 (c :: r) : Nat) : Int) < 0 then _ else Lib.decDigits (((valD 0 (c :: r) : Nat) : Int)).toNat) = _
          rw [if_neg (by omega), show (((valD 0 (c :: r) : Nat) : Int)).toNat = valD 0 (c :: r) by omega, dec_val _ _ (Nat.le_refl _) (by simp) h4 (h3.imp id (fun e => e.2))]
        · rw [Lib.parseIntB_plain 64 c r (by omega) (by omega), p1]
          show (if 2 ^ (64 - 1) ≤ valD 0 (c :: r) then _ else _) = _
          rw [if_neg (by omega)]; rfl
    · rw [if_neg ho] at h; cases h
theorem num_of_itoa {n : Int} (h : (Lib.trimPrefix (Lib.itoa n) [45]).length ≤ 18) : numV (Lib.itoa n) = some n := by
  unfold Lib.itoa at h ⊢
  by_cases hn : n < 0
  · rw [if_pos hn] at h ⊢
    rw [trim_minus] at h
    obtain ⟨i1, i2, i3, i4, _⟩ := dec_spec n.natAbs n.natAbs (Nat.le_refl _)
    unfold numV
    rw [if_pos (show (45 :: Lib.decDigits n.natAbs).head? = some 45 from rfl), show (45 :: Lib.decDigits n.natAbs).drop 1 = Lib.decDigits n.natAbs from rfl]
    unfold numN
    have hl : 1 ≤ (Lib.decDigits n.natAbs).length := List.length_pos_iff.2 i1
    rw [if_pos (okN_iff.2 ⟨⟨hl, h⟩, Or.inl (i4 (by omega)), i2⟩), i3]
    unfold sgn
    rw [if_pos rfl]; congr 1; omega
  · rw [if_neg hn] at h ⊢
    obtain ⟨i1, i2, i3, i4, i5⟩ := dec_spec n.toNat n.toNat (Nat.le_refl _)
    have hl : 1 ≤ (Lib.decDigits n.toNat).length := List.length_pos_iff.2 i1
    have h45 : (Lib.decDigits n.toNat).head? ≠ some 45 ∧ Lib.trimPrefix (Lib.decDigits n.toNat) [45] = Lib.decDigits n.toNat := by
      revert i1 i2
      generalize Lib.decDigits n.toNat = l
      intro i1 i2
      cases l with
      | nil => exact absurd rfl i1
      | cons c r =>
        rw [List.all_cons, Bool.and_eq_true, digB_iff] at i2
        have hc : c ≠ 45 := fun e => by rw [e] at i2; exact absurd i2.1.1 (by decide)
        exact ⟨fun e => hc (Option.some.inj e), trim_other r hc⟩
    rw [h45.2] at h
    unfold numV
    rw [if_neg h45.1]
    unfold numN
    have hx : (Lib.decDigits n.toNat).head? ≠ some 48 ∨ (false = false ∧ (Lib.decDigits n.toNat).length = 1) := by
      by_cases hz : n.toNat = 0
      · exact Or.inr ⟨rfl, i5 hz⟩
      · exact Or.inl (i4 hz)
    rw [if_pos (okN_iff.2 ⟨⟨hl, h⟩, hx, i2⟩), i3]
    unfold sgn
    rw [if_neg (by decide)]; congr 1; omega
theorem RD_eq (s : ByteArray) : impl_ReadDecimal.v s = numV s.data.toList := by
  cases hn : numV s.data.toList with
  | some n =>
    obtain ⟨h1, h2, h3⟩ := num_itoa hn
    unfold impl_ReadDecimal.v
    rw [h2]
    show (if 18 < (Lib.trimPrefix s.data.toList [45]).length then none else if (impl_Decimal.t n).toList = s.toList then some n else none) = some n
    rw [if_neg (by omega), if_pos (by rw [ByteArray.toList_eq, ByteArray.toList_eq, dec_list, h1])]
  | none =>
    cases hv : impl_ReadDecimal.v s with
    | none => rfl
    | some v =>
      exfalso
      unfold impl_ReadDecimal.v at hv
      rcases hp : Lib.parseIntB 64 s.data.toList with w | _ | _ <;> rw [hp] at hv
      · replace hv : (if 18 < (Lib.trimPrefix s.data.toList [45]).length then none else if (impl_Decimal.t w).toList = s.toList then some w else none) = some v := hv
        by_cases h18 : 18 < (Lib.trimPrefix s.data.toList [45]).length
        · rw [if_pos h18] at hv; cases hv
        rw [if_neg h18] at hv
        by_cases he : (impl_Decimal.t w).toList = s.toList
        · rw [ByteArray.toList_eq, ByteArray.toList_eq, dec_list] at he
          rw [← he] at h18 hn
          rw [num_of_itoa (by omega)] at hn; cases hn
        · rw [if_neg he] at hv; cases hv
      · cases hv
      · cases hv
theorem ReadDecimal_eq (s : ByteArray) (hs : s.size ≤ 1048576) : impl_ReadDecimal.f s = some (pairN (numV s.data.toList)) := by
  unfold impl_ReadDecimal.f
  rw [if_pos (by omega), RD_eq]
  cases numV s.data.toList <;> rfl
end Go.Proofs.YtpfalhbeeodjaaaDoor.P

/- A text cut at a byte: the reference's list of pieces and the library's Cut. -/
namespace Go.Proofs.YtpfalhbeeodjaaaDoor.P
open Go.RowKit Go.Proofs.YtpfalhbeeodjaaaDoorW.PrintWords Go.Proofs.YtpfalhbeeodjaaaDoorL
def baL (l : List UInt8) : ByteArray := ⟨l.toArray⟩
def splitL (c : UInt8) (cur : List UInt8) : List UInt8 → List (List UInt8)
  | [] => [cur]
  | b :: r => if b = c then cur :: splitL c [] r else splitL c (cur ++ [b]) r
theorem baL_data (l : List UInt8) : (baL l).data.toList = l := by unfold baL; simp
theorem data_baL (s : ByteArray) : baL s.data.toList = s := Lib.mk_data s
theorem Split_l0 (s : ByteArray) (c : UInt8) (hs : s.size ≤ 1048576) : ∀ (d k b i : Nat) (acc : List ByteArray), i + d = s.size → b ≤ i → acc.length ≤ i → d + 1 ≤ k →
    spec_l01Split.l0 k s (c.toNat : Int) acc (b : Int) (i : Int) = some (acc ++ (splitL c ((s.data.toList.drop b).take (i - b)) (s.data.toList.drop i)).map baL) := by
  intro d
  induction d with
  | zero =>
    intro k b i acc hi hb ha hk
    obtain ⟨k, rfl⟩ : ∃ m, k = m + 1 := ⟨k - 1, by omega⟩
    have hd : s.data.toList.drop i = [] := List.drop_eq_nil_of_le (by rw [← Lib.size_eq]; omega)
    simp only [spec_l01Split.l0]
    rw [if_neg (by omega), if_pos (nn_cast b), if_pos (by omega), if_pos (by omega), hd, Lib.extract_eq]
    show some (acc ++ [baL _]) = some (acc ++ [baL _])
    rw [show ((b : Int)).toNat = b by omega, show s.size - b = i - b by omega]
  | succ d ih =>
    intro k b i acc hi hb ha hk
    obtain ⟨k, rfl⟩ : ∃ m, k = m + 1 := ⟨k - 1, by omega⟩
    have hlt : i < s.data.toList.length := by rw [← Lib.size_eq]; omega
    obtain ⟨x, r, hd⟩ : ∃ x r, s.data.toList.drop i = x :: r := ⟨_, _, List.drop_eq_getElem_cons hlt⟩
    have hr : s.data.toList.drop (i + 1) = r := by rw [← List.drop_drop, hd]; rfl
    have e2 : wrap64 ((i : Int) + 1) = ((i + 1 : Nat) : Int) := by rw [wrap_id (by omega) (by omega)]; omega
    simp only [spec_l01Split.l0]
    rw [if_pos (by omega), if_pos (nn_cast i), bt_drop hd, e2, hd]
    by_cases hc : x = c
    · subst hc
      rw [if_pos rfl, if_pos (nn_cast b), if_pos (by omega), if_pos (by omega), if_pos (by omega), ih k (i + 1) (i + 1) _ (by omega) (by omega) (by rw [List.length_append]; simp; omega) (by omega), hr, Lib.extract_eq]
      rw [show splitL x ((s.data.toList.drop b).take (i - b)) (x :: r) = ((s.data.toList.drop b).take (i - b)) :: splitL x [] r from if_pos rfl]
      rw [Nat.sub_self, List.take_zero, List.map_cons, List.append_assoc, show ((b : Int)).toNat = b by omega, show ((i : Int)).toNat = i by omega]
      rfl
    · rw [if_neg (fun e => hc (UInt8.toNat_inj.1 (by omega))), ih k b (i + 1) _ (by omega) (by omega) (by omega) (by omega), hr]
      rw [show splitL c ((s.data.toList.drop b).take (i - b)) (x :: r) = splitL c (((s.data.toList.drop b).take (i - b)) ++ [x]) r from if_neg hc]
      have : (s.data.toList.drop b).take (i + 1 - b) = (s.data.toList.drop b).take (i - b) ++ [x] := by
        rw [show i + 1 - b = (i - b) + 1 by omega, List.take_add_one, List.getElem?_drop, show b + (i - b) = i by omega]
        have : s.data.toList[i]? = some x := by
          have := List.getElem?_drop (xs := s.data.toList) (i := i) (j := 0)
          rw [hd] at this; simpa using this.symm
        rw [this]; rfl
      rw [this]
theorem Split_eq (s : ByteArray) (c : UInt8) (hs : s.size ≤ 1048576) {k : Nat} (hk : s.size + 1 ≤ k) : spec_l01Split.f k s (c.toNat : Int) = some ((splitL c [] s.data.toList).map baL) := by
  unfold spec_l01Split.f
  have := Split_l0 s c hs s.size k 0 0 [] (by omega) (by omega) (by simp) (by omega)
  simpa using this
theorem splitL_none {c : UInt8} : ∀ (l cur : List UInt8), c ∉ l → splitL c cur l = [cur ++ l]
  | [], cur, _ => by simp [splitL]
  | b :: r, cur, h => by
    rw [show splitL c cur (b :: r) = splitL c (cur ++ [b]) r from if_neg (fun e => h (by rw [e]; exact List.mem_cons_self)), splitL_none r _ (fun e => h (List.mem_cons_of_mem _ e))]
    simp
theorem splitL_at {c : UInt8} : ∀ (a cur b : List UInt8), c ∉ a → splitL c cur (a ++ c :: b) = (cur ++ a) :: splitL c [] b
  | [], cur, b, _ => by
    rw [List.nil_append, List.append_nil]; exact if_pos rfl
  | x :: r, cur, b, h => by
    rw [List.cons_append, show splitL c cur (x :: (r ++ c :: b)) = splitL c (cur ++ [x]) (r ++ c :: b) from if_neg (fun e => h (by rw [e]; exact List.mem_cons_self)), splitL_at r _ b (fun e => h (List.mem_cons_of_mem _ e))]
    simp
theorem splitL_pos (c : UInt8) : ∀ (l cur : List UInt8), 1 ≤ (splitL c cur l).length
  | [], _ => Nat.le_refl _
  | b :: r, cur => by
    unfold splitL
    split
    · simp
    · exact splitL_pos c r _
/-- Two pieces: one cut, and no other. -/
theorem splitL_two {c : UInt8} {l : List UInt8} (h : (splitL c [] l).length = 2) : ∃ a b, l = a ++ c :: b ∧ c ∉ a ∧ c ∉ b ∧ splitL c [] l = [a, b] := by
  by_cases hm : c ∈ l
  · obtain ⟨a, b, rfl, ha⟩ := List.eq_append_cons_of_mem hm
    rw [splitL_at a [] b ha] at h ⊢
    by_cases hb : c ∈ b
    · exfalso
      obtain ⟨a2, b2, rfl, ha2⟩ := List.eq_append_cons_of_mem hb
      rw [splitL_at a2 [] b2 ha2] at h
      have := splitL_pos c b2 []
      simp only [List.length_cons] at h; omega
    · exact ⟨a, b, rfl, ha, hb, by rw [splitL_none b [] hb]; simp⟩
  · rw [splitL_none l [] hm] at h; simp at h
theorem indexByte_at {c : UInt8} : ∀ (a b : List UInt8), c ∉ a → Lib.indexByte (a ++ c :: b) c = (a.length : Int)
  | [], b, _ => by simp [Lib.indexByte]
  | x :: r, b, h => by
    have ih := indexByte_at r b (fun e => h (List.mem_cons_of_mem _ e))
    have hx : (x == c) = false := beq_eq_false_iff_ne.2 (fun e => h (by rw [e]; exact List.mem_cons_self))
    rw [List.cons_append, Lib.indexByte, hx, ih]
    have : ((r.length : Int) == -1) = false := beq_eq_false_iff_ne.2 (by omega)
    simp [this]
theorem indexByte_no {c : UInt8} : ∀ (l : List UInt8), c ∉ l → Lib.indexByte l c = -1
  | [], _ => rfl
  | x :: r, h => by
    have ih := indexByte_no r (fun e => h (List.mem_cons_of_mem _ e))
    have hx : (x == c) = false := beq_eq_false_iff_ne.2 (fun e => h (by rw [e]; exact List.mem_cons_self))
    rw [Lib.indexByte, hx, ih]; rfl
theorem cut_at {c : UInt8} (a b : List UInt8) (h : c ∉ a) : Lib.cut (a ++ c :: b) [c] = (a, b, true) := by
  unfold Lib.cut
  rw [Lib.index_one, indexByte_at a b h, if_pos (by omega), show ((a.length : Int)).toNat = a.length by omega]
  simp
theorem cut_no {c : UInt8} (l : List UInt8) (h : c ∉ l) : Lib.cut l [c] = (l, [], false) := by
  unfold Lib.cut
  rw [Lib.index_one, indexByte_no l h, if_neg (by decide)]
theorem Cut_eq (s : ByteArray) (c : UInt8) (hs : s.size ≤ 1048576) : strings_Cut.f s (⟨#[c]⟩ : ByteArray) = some (baL (Lib.cut s.data.toList [c]).1, baL (Lib.cut s.data.toList [c]).2.1, (Lib.cut s.data.toList [c]).2.2) := by
  unfold strings_Cut.f
  rw [if_pos (by omega)]; rfl
end Go.Proofs.YtpfalhbeeodjaaaDoor.P

/- A melody read from text: the reference cuts at every blank and colon, the program cuts a bounded number of pieces, and each once; both take the same texts. -/
namespace Go.Proofs.YtpfalhbeeodjaaaDoor.P
open Go.RowKit Go.Proofs.YtpfalhbeeodjaaaDoorW.PrintWords Go.Proofs.YtpfalhbeeodjaaaDoorL
def twoN (x : Int × Bool) (y : Option Int) : Option S60 := match x.2, y with | true, some n => some ⟨x.1, n⟩ | _, _ => none
def piece (s k : Int) (t : List UInt8) : Option S60 := twoN (readPt s k (baL (Lib.cut t [58]).1)) (numV (Lib.cut t [58]).2.1)
def allR (s k : Int) : List (List UInt8) → Option (List S60)
  | [] => some []
  | t :: r => match piece s k t with | none => none | some x => (allR s k r).map (x :: ·)
theorem baL_size (l : List UInt8) : (baL l).size = l.length := by unfold baL; show l.toArray.size = _; simp
theorem itoa_mem {n : Int} {b : UInt8} (h : b ∈ Lib.itoa n) : b = 45 ∨ digB b = true := by
  unfold Lib.itoa at h
  split at h
  · rcases List.mem_cons.1 h with rfl | h
    · exact Or.inl rfl
    · exact Or.inr (List.all_eq_true.1 (dec_spec n.natAbs n.natAbs (Nat.le_refl _)).2.1 b h)
  · exact Or.inr (List.all_eq_true.1 (dec_spec n.toNat n.toNat (Nat.le_refl _)).2.1 b h)
theorem itoa_no {n : Int} {b : UInt8} (h0 : b ≠ 45) (h1 : digB b = false) : b ∉ Lib.itoa n := fun h => by
  rcases itoa_mem h with rfl | h
  · exact h0 rfl
  · rw [h1] at h; cases h
theorem num_no {l : List UInt8} {b : UInt8} (hb : b ∈ l) (h0 : b ≠ 45) (h1 : digB b = false) : numV l = none := by
  cases h : numV l with
  | none => rfl
  | some n => exact absurd (by rw [(num_itoa h).1]; exact hb) (itoa_no (n := n) h0 h1)
theorem cut_shape (l : List UInt8) (c : UInt8) : (∃ a b, Lib.cut l [c] = (a, b, true) ∧ l = a ++ c :: b ∧ c ∉ a) ∨ (Lib.cut l [c] = (l, [], false) ∧ c ∉ l) := by
  by_cases hm : c ∈ l
  · obtain ⟨a, b, rfl, ha⟩ := List.eq_append_cons_of_mem hm
    exact Or.inl ⟨a, b, cut_at a b ha, rfl, ha⟩
  · exact Or.inr ⟨cut_no l hm, hm⟩
theorem twoN_none (x : Int × Bool) : twoN x none = none := by unfold twoN; cases x.2 <;> rfl
theorem twoN_false {x : Int × Bool} (h : x.2 = false) (y : Option Int) : twoN x y = none := by unfold twoN; rw [h]
/-- A piece that the reference does not cut in two is no note for the program. -/
theorem piece_bad {s k : Int} {t : List UInt8} (h : ¬ (splitL 58 [] t).length = 2) : piece s k t = none := by
  unfold piece
  rcases cut_shape t 58 with ⟨a, b, e, ht, ha⟩ | ⟨e, ht⟩
  · rw [e]
    have hb : (58 : UInt8) ∈ b := by
      by_cases hb : (58 : UInt8) ∈ b
      · exact hb
      · exfalso; apply h; rw [ht, splitL_at a [] b ha, splitL_none b [] hb]; rfl
    show twoN _ (numV b) = none
    rw [num_no hb (by decide) (by decide), twoN_none]
  · rw [e]
    show twoN _ (numV []) = none
    rw [show numV [] = none from rfl, twoN_none]
theorem piece_two {s k : Int} {t a b : List UInt8} (ht : t = a ++ 58 :: b) (ha : (58 : UInt8) ∉ a) : piece s k t = twoN (readPt s k (baL a)) (numV b) := by
  unfold piece; rw [ht, cut_at a b ha]
theorem at_mem {l : List ByteArray} {t : Int} {b : UInt8} (hb : b ∈ (impl_pitchIn.at_ l t).data.toList) : ∃ x ∈ l, b ∈ x.data.toList := by
  unfold impl_pitchIn.at_ at hb
  rw [List.getD_eq_getElem?_getD] at hb
  cases h : l[t.toNat]? with
  | none => rw [h] at hb; exact absurd hb (by simp)
  | some x => rw [h] at hb; exact ⟨x, List.mem_of_getElem? h, hb⟩
theorem L_no : ∀ x ∈ impl_pitchIn.L, (32 : UInt8) ∉ x.data.toList := by decide
theorem M_no : ∀ x ∈ impl_pitchIn.M, (32 : UInt8) ∉ x.data.toList := by decide
theorem name_no (t : Int) : (32 : UInt8) ∉ (nameT t).data.toList := fun h => by
  unfold nameT at h
  rw [Lib.extract_eq] at h
  have h2 : (32 : UInt8) ∈ [83, 114, 82, 103, 71, 109, 77, 80, 100, 68, 110, 78] := List.mem_of_mem_drop (List.mem_of_mem_take (by simpa using h))
  exact absurd h2 (by decide)
theorem dec_no (n : Int) : (32 : UInt8) ∉ (impl_Decimal.t n).data.toList := by rw [dec_list]; exact itoa_no (by decide) (by decide)
theorem pt_no (s k p : Int) : (32 : UInt8) ∉ (pt s k p).data.toList := by
  have l1 : ∀ t, (32 : UInt8) ∉ (impl_pitchIn.at_ impl_pitchIn.L t).data.toList := fun t h => by obtain ⟨x, hx, hb⟩ := at_mem h; exact L_no x hx hb
  have m1 : ∀ t, (32 : UInt8) ∉ (impl_pitchIn.at_ impl_pitchIn.M t).data.toList := fun t h => by obtain ⟨x, hx, hb⟩ := at_mem h; exact M_no x hx hb
  have n1 := name_no (p % 12)
  have d1 := dec_no
  unfold pt
  repeat' split
  all_goals (try rw [ba_app])
  all_goals simp [n1, l1, m1, d1]
theorem piece_blank {s k : Int} {t : List UInt8} (h : (32 : UInt8) ∈ t) : piece s k t = none := by
  unfold piece
  rcases cut_shape t 58 with ⟨a, b, e, ht, ha⟩ | ⟨e, ht⟩
  · rw [e]
    show twoN (readPt s k (baL a)) (numV b) = none
    rw [ht, List.mem_append, List.mem_cons] at h
    rcases h with h | h | h
    · refine twoN_false ?_ _
      cases hr : (readPt s k (baL a)).2 with
      | false => rfl
      | true =>
        exfalso
        have := (readL_bounds 36 (-12) hr).2.2
        rw [ByteArray.toList_eq, ByteArray.toList_eq, baL_data] at this
        exact pt_no _ _ _ (by rw [this]; exact h)
    · exact absurd h (by decide)
    · rw [num_no h (by decide) (by decide), twoN_none]
  · rw [e]
    show twoN _ (numV []) = none
    rw [show numV [] = none from rfl, twoN_none]
theorem allR_append_none {s k : Int} : ∀ (pre : List (List UInt8)) {t : List UInt8}, piece s k t = none → allR s k (pre ++ [t]) = none
  | [], t, h => by simp [allR, h]
  | x :: r, t, h => by
    have ih := allR_append_none (s := s) (k := k) r h
    rw [List.cons_append]
    unfold allR
    cases piece s k x with
    | none => rfl
    | some y => rw [ih]; rfl
theorem allR_length {s k : Int} : ∀ (l : List (List UInt8)) (ys : List S60), allR s k l = some ys → ys.length = l.length
  | [], ys, h => by
    have e : [] = ys := Option.some.inj h
    rw [← e]; rfl
  | t :: r, ys, h => by
    unfold allR at h
    cases hp : piece s k t with
    | none => rw [hp] at h; cases h
    | some y =>
      rw [hp] at h
      obtain ⟨zs, hz, rfl⟩ := Option.map_eq_some_iff.1 h
      rw [List.length_cons, List.length_cons, allR_length r zs hz]
theorem splitL_le {c : UInt8} : ∀ (l cur : List UInt8), (splitL c cur l).length ≤ l.length + 1 ∧ ∀ t ∈ splitL c cur l, t.length ≤ cur.length + l.length
  | [], cur => ⟨by simp [splitL], fun t ht => by simp [splitL] at ht; rw [ht]; omega⟩
  | b :: r, cur => by
    unfold splitL
    by_cases hb : b = c
    · rw [if_pos hb]
      have ih := splitL_le (c := c) r []
      refine ⟨by rw [List.length_cons, List.length_cons]; have := ih.1; omega, fun t ht => ?_⟩
      rcases List.mem_cons.1 ht with rfl | ht
      · omega
      · have := ih.2 t ht
        rw [List.length_cons]; simp at this; omega
    · rw [if_neg hb]
      have ih := splitL_le (c := c) r (cur ++ [b])
      refine ⟨by rw [List.length_cons]; have := ih.1; omega, fun t ht => ?_⟩
      have := ih.2 t ht
      rw [List.length_cons]; simp at this; omega
theorem index_at {c : UInt8} (a b : List UInt8) (h : c ∉ a) : Lib.index (a ++ c :: b) [c] = (a.length : Int) := by rw [Lib.index_one, indexByte_at a b h]
theorem index_no {c : UInt8} (l : List UInt8) (h : c ∉ l) : Lib.index l [c] = -1 := by rw [Lib.index_one, indexByte_no l h]
theorem splitK_at {c : UInt8} (k : Nat) (a b : List UInt8) (h : c ∉ a) : Lib.splitK [c] 0 (k + 1) (a ++ c :: b) = a :: Lib.splitK [c] 0 k b := by
  have e1 : ((a.length : Int) == -1) = false := beq_eq_false_iff_ne.2 (by omega)
  rw [Lib.splitK, index_at a b h, e1, if_neg (by decide), show ((a.length : Int)).toNat = a.length by omega]
  simp
theorem splitK_no {c : UInt8} (k : Nat) (l : List UInt8) (h : c ∉ l) : Lib.splitK [c] 0 k l = [l] := by
  cases k with
  | zero => rfl
  | succ k => rw [Lib.splitK, index_no l h]; rfl
theorem splitK_same {c : UInt8} : ∀ (k : Nat) (l : List UInt8), (splitL c [] l).length ≤ k + 1 → Lib.splitK [c] 0 k l = splitL c [] l := by
  intro k
  induction k with
  | zero =>
    intro l h
    by_cases hm : c ∈ l
    · obtain ⟨a, b, rfl, ha⟩ := List.eq_append_cons_of_mem hm
      rw [splitL_at a [] b ha, List.length_cons] at h
      have := splitL_pos c b []
      omega
    · rw [splitL_none l [] hm]; rfl
  | succ k ih =>
    intro l h
    by_cases hm : c ∈ l
    · obtain ⟨a, b, rfl, ha⟩ := List.eq_append_cons_of_mem hm
      rw [splitL_at a [] b ha, List.length_cons] at h
      rw [splitK_at k a b ha, splitL_at a [] b ha, ih b (by omega)]; rfl
    · rw [splitL_none l [] hm, splitK_no _ l hm]; rfl
theorem splitK_more {c : UInt8} : ∀ (k : Nat) (l : List UInt8), k + 1 < (splitL c [] l).length → ∃ pre t, Lib.splitK [c] 0 k l = pre ++ [t] ∧ c ∈ t := by
  intro k
  induction k with
  | zero =>
    intro l h
    by_cases hm : c ∈ l
    · exact ⟨[], l, rfl, hm⟩
    · rw [splitL_none l [] hm] at h; simp at h
  | succ k ih =>
    intro l h
    by_cases hm : c ∈ l
    · obtain ⟨a, b, rfl, ha⟩ := List.eq_append_cons_of_mem hm
      rw [splitL_at a [] b ha, List.length_cons] at h
      obtain ⟨pre, t, e, ht⟩ := ih b (by omega)
      exact ⟨a :: pre, t, by rw [splitK_at k a b ha, e]; rfl, ht⟩
    · rw [splitL_none l [] hm] at h; simp at h
theorem splitK_le {c : UInt8} : ∀ (k : Nat) (l : List UInt8), ∀ t ∈ Lib.splitK [c] 0 k l, t.length ≤ l.length := by
  intro k
  induction k with
  | zero => intro l t ht; simp [Lib.splitK] at ht; rw [ht]; omega
  | succ k ih =>
    intro l t ht
    by_cases hm : c ∈ l
    · obtain ⟨a, b, rfl, ha⟩ := List.eq_append_cons_of_mem hm
      rw [splitK_at k a b ha] at ht
      rcases List.mem_cons.1 ht with rfl | ht
      · simp
      · have := ih b t ht
        simp; omega
    · rw [splitK_no _ l hm] at ht
      simp at ht; rw [ht]; omega
def notesOf (s k : Int) (l : List UInt8) : Option (List S60) := if l = [] then some [] else match allR s k (splitL 32 [] l) with | none => none | some ys => if melB ys = true then some ys else none
def specP : Option (List S60) → List S60 × Bool | some ys => (ys, true) | none => ([], false)
def specE (acc : List S60) : Option (List S60) → List S60 × Bool | some ys => if melB (acc ++ ys) = true then (acc ++ ys, true) else ([], false) | none => ([], false)
def implE (acc : List S60) : Option (List S60) → List S60 × Bool | some ys => (acc ++ ys, melB (acc ++ ys)) | none => ([], false)
theorem map_baL_get {ps : List (List UInt8)} {i : Nat} (h : i < ps.length) : rdOf ByteArray.empty (ps.map baL) (i : Int) = baL ps[i] := by
  rw [rdOf_get (by simpa using h)]; simp
theorem specRead_l0 {s k : Int} (hk : keyB s k = true) {ps : List (List UInt8)} (hn : ps.length ≤ 1048577) (hp : ∀ t ∈ ps, t.length ≤ 1048576) : ∀ (d K i : Nat) (acc : List S60), i + d = ps.length → acc.length ≤ i → d + 2000000 ≤ K → spec_l26Read.l0 K s k acc (ps.map baL) (i : Int) = some (specE acc (allR s k (ps.drop i))) := by
  intro d
  induction d with
  | zero =>
    intro K i acc hi ha hK
    obtain ⟨K, rfl⟩ : ∃ m, K = m + 1 := ⟨K - 1, by omega⟩
    simp only [spec_l26Read.l0]
    rw [if_neg (by rw [List.length_map]; omega), List.drop_eq_nil_of_le (by omega)]
    have e : specE acc (allR s k []) = if melB acc = true then (acc, true) else ([], false) := by
      show (if melB (acc ++ []) = true then (acc ++ [], true) else ([], false)) = _
      rw [List.append_nil]
    rw [e]
    rw [l09Ok_eq (by omega) (by omega)]; simp only [Option.bind_some]
    by_cases hm : melB acc = true
    · rw [if_pos hm, if_pos hm]
    · rw [if_neg hm, if_neg hm]
  | succ d ih =>
    intro K i acc hi ha hK
    obtain ⟨K, rfl⟩ : ∃ m, K = m + 1 := ⟨K - 1, by omega⟩
    have hlt : i < ps.length := by omega
    have ht := hp ps[i] (List.getElem_mem hlt)
    simp only [spec_l26Read.l0]
    rw [if_pos (by rw [List.length_map]; omega), if_pos (nn_cast i), map_baL_get hlt, List.drop_eq_getElem_cons hlt]
    have E1 : spec_l01Split.f K (baL ps[i]) 58 = some ((splitL 58 [] ps[i]).map baL) := by
      have := Split_eq (baL ps[i]) 58 (by rw [baL_size]; omega) (k := K) (by rw [baL_size]; omega)
      rw [baL_data] at this; exact this
    rw [E1]; simp only [Option.bind_some]
    by_cases h2 : (splitL 58 [] ps[i]).length = 2
    · obtain ⟨a, b, hab, h3, h4, e⟩ := splitL_two h2
      have hsz : ps[i].length = a.length + 1 + b.length := by rw [hab]; simp; omega
      have l2 : (([baL a, baL b].length : Nat) : Int) = 2 := rfl
      have r2 : rdOf ByteArray.empty [baL a, baL b] 0 = baL a := rfl
      have r3 : rdOf ByteArray.empty [baL a, baL b] 1 = baL b := rfl
      rw [e, show [a, b].map baL = [baL a, baL b] from rfl, l2, if_pos rfl, if_pos (by decide), r2, r3, l26ReadPitch_eq _ hk (by omega)]
      simp only [Option.bind_some]
      rw [if_pos (by decide), Number_eq (baL b) (by rw [baL_size]; omega) (by omega), baL_data]
      simp only [Option.bind_some]
      have hpc := piece_two (s := s) (k := k) hab h3
      unfold allR
      rw [hpc]
      rcases hx : readPt s k (baL a) with ⟨p, _ | _⟩
      · rw [twoN_false rfl]; rw [if_neg (show ¬ false = true by decide)]; rfl
      · cases numV b with
        | none => rw [twoN_none]; rw [if_pos rfl, if_neg (by decide)]; rfl
        | some n =>
          show (if true = true then (if true = true then (if acc.length < 8796093022208 then spec_l26Read.l0 K s k (acc ++ [⟨p, n⟩]) (ps.map baL) (wrap64 ((i : Int) + 1)) else none) else _) else _) = _
          rw [if_pos rfl, if_pos rfl, if_pos (by omega), wrap_succ hlt (by omega), ih K (i + 1) _ (by omega) (by rw [List.length_append]; simp; omega) (by omega)]
          show _ = some (specE acc ((allR s k (ps.drop (i + 1))).map _))
          cases allR s k (ps.drop (i + 1)) with
          | none => rfl
          | some ys => show some (if melB ((acc ++ [⟨p, n⟩]) ++ ys) = true then ((acc ++ [⟨p, n⟩]) ++ ys, true) else ([], false)) = some (if melB (acc ++ (⟨p, n⟩ :: ys)) = true then (acc ++ (⟨p, n⟩ :: ys), true) else ([], false)); rw [List.append_assoc]; rfl
    · rw [if_neg (by rw [List.length_map]; omega)]
      unfold allR
      rw [piece_bad h2]; rfl
theorem implRead_l0 {s k : Int} (hk : keyB s k = true) {ps : List (List UInt8)} (hn : ps.length ≤ 100) (hp : ∀ t ∈ ps, t.length ≤ 1048576) : ∀ (d K i : Nat) (acc : List S60), i + d = ps.length → acc.length ≤ i → d + 2000 ≤ K → impl_readNotesIn.l0 K s k acc (ps.map baL) ((ps.map baL).length : Int) (i : Int) = some (implE acc (allR s k (ps.drop i))) := by
  intro d
  induction d with
  | zero =>
    intro K i acc hi ha hK
    obtain ⟨K, rfl⟩ : ∃ m, K = m + 1 := ⟨K - 1, by omega⟩
    simp only [impl_readNotesIn.l0]
    rw [if_neg (by rw [List.length_map]; omega), List.drop_eq_nil_of_le (by omega), ValidMelody_eq (by omega)]
    show some (acc, melB acc) = some (acc ++ [], melB (acc ++ []))
    rw [List.append_nil]
  | succ d ih =>
    intro K i acc hi ha hK
    obtain ⟨K, rfl⟩ : ∃ m, K = m + 1 := ⟨K - 1, by omega⟩
    have hlt : i < ps.length := by omega
    have ht := hp ps[i] (List.getElem_mem hlt)
    simp only [impl_readNotesIn.l0]
    rw [if_pos (by rw [List.length_map]; omega), if_pos (nn_cast i), if_pos (by rw [List.length_map]; omega), map_baL_get hlt, List.drop_eq_getElem_cons hlt, Cut_eq (baL ps[i]) 58 (by rw [baL_size]; omega), baL_data]
    simp only [Option.bind_some]
    have hsz : (Lib.cut ps[i] [58]).2.1.length ≤ ps[i].length := by
      rcases cut_shape ps[i] 58 with ⟨a, b, e, h, _⟩ | ⟨e, _⟩
      · rw [e, h]; simp; omega
      · rw [e]; simp
    rw [readPitchIn_eq _ hk]
    simp only [Option.bind_some]
    rw [ReadDecimal_eq _ (by rw [baL_size]; omega), baL_data]
    simp only [Option.bind_some]
    unfold allR piece
    rcases hx : readPt s k (baL (Lib.cut ps[i] [58]).1) with ⟨p, _ | _⟩
    · rw [twoN_false rfl]; rw [if_neg (show ¬ false = true by decide)]; rfl
    · cases numV (Lib.cut ps[i] [58]).2.1 with
      | none => rw [twoN_none]; rw [if_pos rfl, if_neg (by decide)]; rfl
      | some n =>
        show (if true = true then (if true = true then (if acc.length < 8796093022208 then impl_readNotesIn.l0 K s k (acc ++ [⟨p, n⟩]) (ps.map baL) ((ps.map baL).length : Int) (wrap64 ((i : Int) + 1)) else none) else _) else _) = _
        rw [if_pos rfl, if_pos rfl, if_pos (by omega), wrap_succ hlt (by omega), ih K (i + 1) _ (by omega) (by rw [List.length_append]; simp; omega) (by omega)]
        show _ = some (implE acc ((allR s k (ps.drop (i + 1))).map _))
        cases allR s k (ps.drop (i + 1)) with
        | none => rfl
        | some ys => show some ((acc ++ [⟨p, n⟩]) ++ ys, melB ((acc ++ [⟨p, n⟩]) ++ ys)) = some (acc ++ (⟨p, n⟩ :: ys), melB (acc ++ (⟨p, n⟩ :: ys))); rw [List.append_assoc]; rfl
theorem empty_iff (a : ByteArray) : a.toList = ([] : List UInt8) ↔ a.data.toList = [] := by rw [ByteArray.toList_eq]
theorem l26Read_eq {s k : Int} (hk : keyB s k = true) {a : ByteArray} (ha : a.size ≤ 1048576) {K : Nat} (hK : 5000000 ≤ K) : spec_l26Read.f K s k a = some (specP (notesOf s k a.data.toList)) := by
  unfold spec_l26Read.f notesOf
  simp only [Option.bind_some]
  by_cases h0 : a.data.toList = []
  · rw [if_pos ((empty_iff a).2 h0), if_pos h0]; rfl
  rw [if_neg (fun e => h0 ((empty_iff a).1 e)), if_neg h0]
  have E1 : spec_l01Split.f K a 32 = some ((splitL 32 [] a.data.toList).map baL) := Split_eq a 32 ha (k := K) (by omega)
  rw [E1]; simp only [Option.bind_some]
  have hz : a.data.toList.length = a.size := (Lib.size_eq a).symm
  obtain ⟨s1, s2⟩ := splitL_le (c := 32) a.data.toList []
  have E2 := specRead_l0 hk (ps := splitL 32 [] a.data.toList) (by omega) (fun t ht => by have := s2 t ht; simp at this; omega) (splitL 32 [] a.data.toList).length K 0 [] (by omega) (by simp) (by omega)
  rw [List.drop_zero, show ((0 : Nat) : Int) = 0 from rfl] at E2
  rw [E2]
  cases allR s k (splitL 32 [] a.data.toList) with
  | none => rfl
  | some ys =>
    show some (if melB ([] ++ ys) = true then ([] ++ ys, true) else ([], false)) = some (specP (if melB ys = true then some ys else none))
    rw [List.nil_append]
    by_cases hm : melB ys = true
    · rw [if_pos hm, if_pos hm]; rfl
    · rw [if_neg hm, if_neg hm]; rfl
theorem readNotesIn_eq {s k : Int} (hk : keyB s k = true) {a : ByteArray} (ha : a.size ≤ 1048576) {K : Nat} (hK : 5000000 ≤ K) : ∃ m, impl_readNotesIn.f K s k a = some (m, (notesOf s k a.data.toList).isSome) ∧ ∀ ys, notesOf s k a.data.toList = some ys → m = ys := by
  unfold impl_readNotesIn.f
  by_cases h0 : a.data.toList = []
  · rw [if_pos ((empty_iff a).2 h0)]
    have : notesOf s k a.data.toList = some [] := by unfold notesOf; rw [if_pos h0]
    rw [this]
    exact ⟨[], rfl, fun ys h => Option.some.inj h⟩
  rw [if_neg (fun e => h0 ((empty_iff a).1 e))]
  have hz : a.data.toList.length = a.size := (Lib.size_eq a).symm
  have hpos : 1 ≤ a.size := by
    rw [← hz]; exact List.length_pos_iff.2 h0
  have E1 : strings_SplitN.f a (⟨#[32]⟩ : ByteArray) 49 = some ((Lib.splitK [32] 0 (min 49 (a.size + 1) - 1) a.data.toList).map baL) := by
    unfold strings_SplitN.f
    rw [if_pos ⟨⟨by omega, by decide⟩, by decide, by decide⟩]
    unfold strings_SplitN.t
    congr 1
    have := Lib.splitB_data (⟨#[32]⟩ : ByteArray) 0 (min 49 (a.size + 1) - 1) a
    rw [show (⟨#[32]⟩ : ByteArray).data.toList = [32] from rfl] at this
    rw [← this, List.map_map, show (49 : Int).toNat = 49 from rfl]
    have e : (baL ∘ fun x : ByteArray => x.data.toList) = id := by funext x; exact data_baL x
    rw [e, List.map_id]
  rw [E1]; simp only [Option.bind_some]
  obtain ⟨s1, s2⟩ := splitL_le (c := 32) a.data.toList []
  generalize hc : min 49 (a.size + 1) - 1 = c
  have hc48 : c ≤ 48 := by omega
  have hn : notesOf s k a.data.toList = match allR s k (splitL 32 [] a.data.toList) with | none => none | some ys => if melB ys = true then some ys else none := by unfold notesOf; rw [if_neg h0]
  by_cases hle : (splitL 32 [] a.data.toList).length ≤ c + 1
  · have E2 := implRead_l0 hk (ps := splitL 32 [] a.data.toList) (by omega) (fun t ht => by have := s2 t ht; simp at this; omega) (splitL 32 [] a.data.toList).length K 0 [] (by omega) (by simp) (by omega)
    rw [List.drop_zero, show ((0 : Nat) : Int) = 0 from rfl] at E2
    rw [splitK_same c _ hle, E2, hn]
    cases allR s k (splitL 32 [] a.data.toList) with
    | none => exact ⟨[], rfl, fun ys h => by cases h⟩
    | some ys =>
      refine ⟨ys, ?_, fun zs h => ?_⟩
      · show some ([] ++ ys, melB ([] ++ ys)) = some (ys, (if melB ys = true then some ys else none).isSome)
        rw [List.nil_append]
        cases melB ys <;> rfl
      · dsimp only at h
        by_cases hm : melB ys = true
        · rw [if_pos hm] at h; exact Option.some.inj h
        · rw [if_neg hm] at h; cases h
  · have hc' : c = 48 := by omega
    subst hc'
    obtain ⟨pre, t, e, ht⟩ := splitK_more (c := 32) 48 a.data.toList (by omega)
    have hlen : (pre ++ [t]).length ≤ 49 := by
      rw [← e]
      have := Lib.splitB_data (⟨#[32]⟩ : ByteArray) 0 48 a
      have h2 := congrArg List.length this
      rw [List.length_map] at h2
      have h3 := Lib.splitB_length_le (⟨#[32]⟩ : ByteArray) 0 48 a
      rw [show (⟨#[32]⟩ : ByteArray).data.toList = [32] from rfl] at h2
      omega
    have hsz : ∀ x ∈ pre ++ [t], x.length ≤ 1048576 := by
      rw [← e]; exact fun x hx => by have := splitK_le (c := 32) 48 a.data.toList x hx; omega
    have E2 := implRead_l0 hk (ps := pre ++ [t]) (by omega) hsz (pre ++ [t]).length K 0 [] (by omega) (by simp) (by omega)
    rw [List.drop_zero, show ((0 : Nat) : Int) = 0 from rfl, allR_append_none pre (piece_blank ht)] at E2
    rw [e, E2]
    have hnone : notesOf s k a.data.toList = none := by
      rw [hn]
      cases hr : allR s k (splitL 32 [] a.data.toList) with
      | none => rfl
      | some ys =>
        have := allR_length _ _ hr
        have hm : melB ys = false := by unfold melB; rw [decide_eq_false (by omega), Bool.and_false]
        dsimp only
        rw [hm]; rfl
    rw [hnone]
    exact ⟨[], rfl, fun ys h => by cases h⟩
theorem notesOf_ok {s k : Int} {l : List UInt8} {ys : List S60} (h : notesOf s k l = some ys) : melB ys = true := by
  unfold notesOf at h
  by_cases h0 : l = []
  · rw [if_pos h0] at h; obtain rfl := Option.some.inj h; rfl
  rw [if_neg h0] at h
  cases hr : allR s k (splitL 32 [] l) with
  | none => rw [hr] at h; cases h
  | some zs =>
    rw [hr] at h
    dsimp only at h
    by_cases hm : melB zs = true
    · rw [if_pos hm] at h; rw [← Option.some.inj h]; exact hm
    · rw [if_neg hm] at h; cases h
end Go.Proofs.YtpfalhbeeodjaaaDoor.P

/- Words for 'enough rounds'. -/
namespace Go.Proofs.YtpfalhbeeodjaaaDoor.P
open Go.RowKit Go.Proofs.YtpfalhbeeodjaaaDoorW.PrintWords Go.Proofs.YtpfalhbeeodjaaaDoorL
theorem Ev.le {α : Type} {g : Nat → Option α} {r : α} (K : Nat) (h : ∀ k, K ≤ k → g k = some r) : Ev g r := ⟨K, h⟩
theorem Ev.const {α : Type} {x : Option α} {r : α} (h : x = some r) : Ev (fun _ => x) r := ⟨0, fun _ _ => h⟩
theorem Ev.yes {α : Type} {c : Nat → Option Bool} {f : Nat → Option α} {r : α} (h : Ev c true) (k : Ev f r) : Ev (fun n => if c n = some true then f n else none) r := by
  obtain ⟨K, hK⟩ := h
  obtain ⟨K', hK'⟩ := k
  exact ⟨max K K', fun n hn => by
    show (if c n = some true then f n else none) = some r
    rw [if_pos (hK n (by omega))]; exact hK' n (by omega)⟩
theorem Ev.pos {α : Type} {c : Prop} [Decidable c] {f g : Nat → Option α} {r : α} (h : c) (k : Ev f r) : Ev (fun n => if c then f n else g n) r := Ev.congr (fun _ => if_pos h) k
theorem Ev.neg {α : Type} {c : Prop} [Decidable c] {f g : Nat → Option α} {r : α} (h : ¬ c) (k : Ev g r) : Ev (fun n => if c then f n else g n) r := Ev.congr (fun _ => if_neg h) k
theorem Ev.shift {α : Type} {g f : Nat → Option α} {r : α} (c : Nat) (h : ∀ k, g (k + c) = f k) (k : Ev f r) : Ev g r := by
  obtain ⟨K, hK⟩ := k
  refine ⟨K + c, fun n hn => ?_⟩
  obtain ⟨m, rfl⟩ : ∃ m, n = m + c := ⟨n - c, by omega⟩
  show g (m + c) = some r
  rw [h]; exact hK m (by omega)
/-- A list filled with counted marks. -/
def mkI (m : Int) (n : Nat) : List Int := (List.range n).map fun i : Nat => m + (i : Int)
theorem mkI_len (m : Int) (n : Nat) : (mkI m n).length = n := by simp [mkI]
theorem mkI_rd {m : Int} {n i : Nat} (h : i < n) : rd (mkI m n) (i : Int) = m + (i : Int) := by
  rw [rd_get (by simpa [mkI_len] using h)]
  simp [mkI]
/-- A loop that stores a counted mark into each place. -/
theorem mark_ints (L : Nat → List Int → Int → Int → Option (Int × List Int))
    (step : ∀ (k : Nat) (l : List Int) (m : Int) (i : Nat), i < l.length → l.length ≤ 4611686018427387904 → 0 ≤ m → m ≤ 4611686018427387904 → L (k + 1) l m (i : Int) = L k (l.set i m) (m + 1) ((i + 1 : Nat) : Int))
    (stop : ∀ (k : Nat) (l : List Int) (m : Int), L (k + 1) l m (l.length : Int) = some (m, l))
    {l : List Int} {m : Int} (hm : 0 ≤ m) (hb : m + l.length ≤ 4611686018427387904) : Ev (fun k => L k l m 0) (m + l.length, mkI m l.length) := by
  have main : ∀ (d i : Nat) (x : List Int), i + d = l.length → x.length = l.length → (∀ j, (h : j < x.length) → j < i → x[j] = m + (j : Int)) → Ev (fun k => L k x (m + (i : Int)) (i : Int)) (m + l.length, mkI m l.length) := by
    intro d
    induction d with
    | zero =>
      intro i x hi hx hp
      obtain rfl : i = x.length := by omega
      refine ⟨1, fun k hk => ?_⟩
      obtain ⟨k, rfl⟩ : ∃ q, k = q + 1 := ⟨k - 1, by omega⟩
      show L (k + 1) x (m + (x.length : Int)) (x.length : Int) = _
      rw [stop k x, hx]
      congr 2
      apply List.ext_getElem
      · rw [mkI_len]; exact hx
      · intro j h1 h2
        rw [hp j h1 h1]; simp [mkI]
    | succ d ih =>
      intro i x hi hx hp
      have hlt : i < x.length := by omega
      refine Ev.step (fun k => step k x _ i hlt (by omega) (by omega) (by omega)) ?_
      have := ih (i + 1) (x.set i (m + (i : Int))) (by omega) (by simpa using hx) (fun j h1 h2 => by
        rw [List.getElem_set]
        split
        · next e => subst e; rfl
        · exact hp j (by simpa using h1) (by omega))
      rw [show m + ((i + 1 : Nat) : Int) = m + (i : Int) + 1 by omega] at this
      exact this
  have := main l.length 0 l (by omega) rfl (fun j _ h => by omega)
  simpa using this
/-- .. and what looks whether they stand. -/
theorem held_ints {m0 : Int} (L : Nat → Int → Int → Option Int) (n : Nat)
    (step : ∀ (k : Nat) (m : Int) (i : Nat), i < n → 0 ≤ m → m ≤ 4611686018427387904 → m = m0 + (i : Int) → L (k + 1) m (i : Int) = L k (m + 1) ((i + 1 : Nat) : Int))
    (stop : ∀ (k : Nat) (m : Int), L (k + 1) m (n : Int) = some m) (hm : 0 ≤ m0) (hb : m0 + n ≤ 4611686018427387904) : Ev (fun k => L k m0 0) (m0 + n) := by
  have main : ∀ (d i : Nat), i + d = n → Ev (fun k => L k (m0 + (i : Int)) (i : Int)) (m0 + n) := by
    intro d
    induction d with
    | zero =>
      intro i hi
      obtain rfl : i = n := by omega
      exact Ev.step (fun k => stop k _) (Ev.now _)
    | succ d ih =>
      intro i hi
      refine Ev.step (fun k => step k _ i (by omega) (by omega) (by omega) rfl) ?_
      have := ih (i + 1) (by omega)
      rw [show m0 + ((i + 1 : Nat) : Int) = m0 + (i : Int) + 1 by omega] at this
      exact this
  have := main n 0 (by omega)
  simpa using this
theorem mtot_le {α : Type} {c : α → Int} {C : Int} {P : α → Prop} (hC : ∀ x, P x → c x ≤ C) : ∀ (l : List α) (m : Int), (∀ x ∈ l, P x) → mtot c l m ≤ m + (l.length : Int) * C
  | [], m, _ => by simp [mtot]
  | x :: r, m, h => by
    have h1 := mtot_le hC r (m + c x) (fun y hy => h y (List.mem_cons_of_mem _ hy))
    have h2 := hC x (h x List.mem_cons_self)
    simp only [mtot, List.length_cons]
    have e : ((r.length + 1 : Nat) : Int) * C = (r.length : Int) * C + C := by rw [Int.natCast_add, Int.add_mul]; simp
    omega
/-- A loop that marks each place of a list, element by element. -/
theorem mark_ev {α : Type} (L : Nat → List α → Int → Int → Option (Int × List α)) (g : α → Int → α) (c : α → Int) (M : Int) (hc : ∀ x, 0 ≤ c x) (P : α → Prop)
    (step : ∀ (pre : List α) (x : α) (rest : List α) (m : Int) (r : Int × List α), P x → pre.length + rest.length < 4611686018427387904 → 0 ≤ m → m + c x ≤ M → Ev (fun k => L k (pre ++ g x m :: rest) (m + c x) ((pre.length + 1 : Nat) : Int)) r → Ev (fun k => L k (pre ++ x :: rest) m (pre.length : Int)) r)
    (stop : ∀ (k : Nat) (l : List α) (m : Int), L (k + 1) l m (l.length : Int) = some (m, l)) (l : List α) (m : Int) (hp : ∀ x ∈ l, P x) (hl : l.length ≤ 4611686018427387904) (hm : 0 ≤ m) (hM : mtot c l m ≤ M) : Ev (fun k => L k l m 0) (mtot c l m, mkl g c l m) := by
  have main : ∀ (rest : List α) (pre : List α) (m : Int), (∀ x ∈ rest, P x) → pre.length + rest.length ≤ 4611686018427387904 → 0 ≤ m → mtot c rest m ≤ M → Ev (fun k => L k (pre ++ rest) m (pre.length : Int)) (mtot c rest m, pre ++ mkl g c rest m) := by
    intro rest
    induction rest with
    | nil =>
      intro pre m _ _ _ _
      refine Ev.step (f := fun _ => some (m, pre)) (fun k => ?_) ?_
      · rw [List.append_nil]; exact stop k pre m
      · simp only [mtot, mkl, List.append_nil]; exact Ev.now _
    | cons x rest ih =>
      intro pre m hp hl hm hM
      have h2 := mtot_ge hc rest (m + c x)
      have h3 := hc x
      simp only [mtot] at hM
      refine step pre x rest m _ (hp x List.mem_cons_self) (by simp at hl; omega) hm (by omega) ?_
      have := ih (pre ++ [g x m]) (m + c x) (fun y hy => hp y (List.mem_cons_of_mem _ hy)) (by simp at hl ⊢; omega) (by omega) hM
      simp only [List.append_assoc, List.singleton_append, List.length_append, List.length_singleton] at this
      simp only [mtot, mkl]
      exact this
  have := main l [] m hp (by simpa using hl) hm hM
  simpa using this
theorem held_ev {α : Type} (L : Nat → Int → Int → Option Int) (g : α → Int → α) (c : α → Int) (M : Int) (hc : ∀ x, 0 ≤ c x) (P : α → Prop) (l' : List α)
    (step : ∀ (pre : List α) (x : α) (rest : List α) (m : Int) (r : Int), l' = pre ++ g x m :: rest → P x → pre.length < 4611686018427387904 → 0 ≤ m → m + c x ≤ M → Ev (fun k => L k (m + c x) ((pre.length + 1 : Nat) : Int)) r → Ev (fun k => L k m (pre.length : Int)) r)
    (stop : ∀ (k : Nat) (m : Int), L (k + 1) m (l'.length : Int) = some m) (l : List α) (m : Int) (he : l' = mkl g c l m) (hp : ∀ x ∈ l, P x) (hl : l.length ≤ 4611686018427387904) (hm : 0 ≤ m) (hM : mtot c l m ≤ M) : Ev (fun k => L k m 0) (mtot c l m) := by
  have main : ∀ (rest : List α) (pre : List α) (m : Int), l' = pre ++ mkl g c rest m → (∀ x ∈ rest, P x) → pre.length + rest.length ≤ 4611686018427387904 → 0 ≤ m → mtot c rest m ≤ M → Ev (fun k => L k m (pre.length : Int)) (mtot c rest m) := by
    intro rest
    induction rest with
    | nil =>
      intro pre m he _ _ _ _
      simp only [mkl, List.append_nil] at he
      subst he
      simp only [mtot]
      exact Ev.step (f := fun _ => some m) (fun k => stop k m) (Ev.now _)
    | cons x rest ih =>
      intro pre m he hp hl hm hM
      have h2 := mtot_ge hc rest (m + c x)
      have h3 := hc x
      simp only [mtot] at hM
      simp only [mkl] at he
      refine step pre x _ m _ he (hp x List.mem_cons_self) (by simp at hl; omega) hm (by omega) ?_
      have := ih (pre ++ [g x m]) (m + c x) (by rw [he]; simp) (fun y hy => hp y (List.mem_cons_of_mem _ hy)) (by simp at hl ⊢; omega) (by omega) hM
      simp only [List.length_append, List.length_singleton] at this
      simp only [mtot]
      exact this
  have := main l [] m (by simpa using he) hp (by simpa using hl) hm hM
  simpa using this
theorem mkl_len {α : Type} (g : α → Int → α) (c : α → Int) : ∀ (l : List α) (m : Int), (mkl g c l m).length = l.length
  | [], _ => rfl
  | x :: r, m => by simp [mkl, mkl_len g c r]
end Go.Proofs.YtpfalhbeeodjaaaDoor.P

/- Marks of whole numbers. -/
namespace Go.Proofs.YtpfalhbeeodjaaaDoor.P
open Go.RowKit Go.Proofs.YtpfalhbeeodjaaaDoorW.PrintWords Go.Proofs.YtpfalhbeeodjaaaDoorL
theorem markI_ev {l : List Int} {m : Int} (hm : 0 ≤ m) (hb : m + l.length ≤ 4611686018427387904) : Ev (fun k => laws_markInt64S.f k l m) (m + l.length, mkI m l.length) := by
  unfold laws_markInt64S.f
  refine mark_ints (fun k l m i => laws_markInt64S.l0 k l m i) (fun k l m i hi hl h0 h1 => ?_) (fun k l m => ?_) hm hb
  · simp only [laws_markInt64S.l0]
    rw [if_pos (lt_cast hi), if_pos (nn_cast i), wrap_id (x := m + 1) (by omega) (by omega), Int.toNat_natCast, wrap_succ hi hl]
  · simp only [laws_markInt64S.l0]
    rw [if_neg (nlt_cast _)]
theorem heldI_ev {n : Nat} {m : Int} (hm : 0 ≤ m) (hb : m + n ≤ 4611686018427387904) : Ev (fun k => laws_heldInt64S.f k (mkI m n) m) (m + n) := by
  unfold laws_heldInt64S.f
  refine held_ints (fun k m' i => laws_heldInt64S.l0 k (mkI m n) m' i) n (fun k m' i hi h0 h1 he => ?_) (fun k m' => ?_) hm hb
  · simp only [laws_heldInt64S.l0]
    rw [mkI_len, if_pos (lt_cast hi), if_pos (nn_cast i), mkI_rd hi, if_pos he.symm, wrap_id (x := m' + 1) (by omega) (by omega), wrap_succ hi (by omega)]
  · simp only [laws_heldInt64S.l0]
    rw [mkI_len, if_neg (nlt_cast _)]
/-- As the plain laws take it. -/
theorem markInt64S_all {l : List Int} (hl : l.length ≤ 1048576) {m : Int} (h0 : 0 ≤ m) (h1 : m ≤ 1152921504606846976) : ∃ (m' : Int) (l' : List Int), m ≤ m' ∧ m' ≤ m + 8796093022208 ∧ Ev (fun k => laws_markInt64S.f k l m) (m', l') ∧ Ev (fun k => laws_heldInt64S.f k l' m) m' :=
  ⟨m + l.length, mkI m l.length, by omega, by omega, markI_ev h0 (by omega), heldI_ev h0 (by omega)⟩
end Go.Proofs.YtpfalhbeeodjaaaDoor.P

/- The plain law behind FnExactScriptsOf: both find the same scripts; the answer is the caller's own. Conditions: none beyond the kinds' own bounds. -/
namespace Go.Proofs.YtpfalhbeeodjaaaDoor.Pure
open Go.RowKit Go.Proofs.YtpfalhbeeodjaaaDoorW.PrintWords Go.Proofs.YtpfalhbeeodjaaaDoorL Go.Proofs.YtpfalhbeeodjaaaDoor.P
def hasN (p : Int) (l : List UInt8) : Bool := match notesOf p 0 l with | some ys => decide (0 < ys.length) | none => false
def scrG (l : List UInt8) : Nat → Int → List Int → List Int × Int
  | 0, _, acc => if acc.length = 0 then ([], 8) else (acc, 0)
  | n + 1, p, acc => scrG l n (p + 1) (if hasN p l = true then acc ++ [p] else acc)
theorem scrG_len (l : List UInt8) : ∀ (n : Nat) (p : Int) (acc : List Int), (scrG l n p acc).1.length ≤ acc.length + n := by
  intro n
  induction n with
  | zero => intro p acc; unfold scrG; split <;> simp
  | succ n ih =>
    intro p acc
    have := ih (p + 1) (if hasN p l = true then acc ++ [p] else acc)
    have hle : (if hasN p l = true then acc ++ [p] else acc).length ≤ acc.length + 1 := by split <;> simp
    show (scrG l n (p + 1) (if hasN p l = true then acc ++ [p] else acc)).1.length ≤ _
    omega
theorem key0 {p : Int} (h0 : 1 ≤ p) (h1 : p ≤ 4) : keyB p 0 = true := keyB_iff.2 ⟨⟨h0, h1⟩, by decide, by decide⟩
theorem scr_spec {a : ByteArray} (ha : a.size ≤ 1048576) : ∀ (n K : Nat) (p : Int) (acc : List Int), p + n = 5 → 1 ≤ p → acc.length + n ≤ 100 → 5000000 + n + 1 ≤ K → spec_ScriptsOf.l0 K a acc p = some (scrG a.data.toList n p acc) := by
  intro n
  induction n with
  | zero =>
    intro K p acc hp h1 hl hK
    obtain ⟨K, rfl⟩ : ∃ m, K = m + 1 := ⟨K - 1, by omega⟩
    simp only [spec_ScriptsOf.l0, scrG]
    rw [if_neg (by omega)]
    by_cases h : acc.length = 0
    · rw [if_pos (by omega), if_pos h]
    · rw [if_neg (by omega), if_neg h]
  | succ n ih =>
    intro K p acc hp h1 hl hK
    obtain ⟨K, rfl⟩ : ∃ m, K = m + 1 := ⟨K - 1, by omega⟩
    have hw : wrap64 (p + 1) = p + 1 := wrap_id (by omega) (by omega)
    simp only [spec_ScriptsOf.l0, scrG]
    rw [if_pos (by omega), l26Read_eq (key0 h1 (by omega)) ha (by omega), hw]; simp only [Option.bind_some]
    unfold hasN
    cases hn : notesOf p 0 a.data.toList with
    | none =>
      show (if false = true then _ else spec_ScriptsOf.l0 K a acc (p + 1)) = _
      rw [if_neg (by decide), if_neg (by decide), ih K (p + 1) acc (by omega) (by omega) (by omega) (by omega)]
    | some ys =>
      show (if true = true then (if (ys.length : Int) > 0 then (if acc.length < 17592186044416 then spec_ScriptsOf.l0 K a (acc ++ [p]) (p + 1) else none) else spec_ScriptsOf.l0 K a acc (p + 1)) else _) = _
      rw [if_pos rfl]
      by_cases hy : 0 < ys.length
      · rw [if_pos (by omega), if_pos (by omega), if_pos (decide_eq_true hy), ih K (p + 1) _ (by omega) (by omega) (by rw [List.length_append]; simp; omega) (by omega)]
      · rw [if_neg (by omega), if_neg (show ¬ decide (0 < ys.length) = true by rw [decide_eq_false hy]; decide), ih K (p + 1) acc (by omega) (by omega) (by omega) (by omega)]
theorem scr_impl {a : ByteArray} (ha : a.size ≤ 1048576) : ∀ (n K : Nat) (p : Int) (acc : List Int), p + n = 5 → 1 ≤ p → acc.length + n ≤ 100 → 5000000 + n + 1 ≤ K → impl_ScriptsOf.l0 K a acc p = some (scrG a.data.toList n p acc) := by
  intro n
  induction n with
  | zero =>
    intro K p acc hp h1 hl hK
    obtain ⟨K, rfl⟩ : ∃ m, K = m + 1 := ⟨K - 1, by omega⟩
    simp only [impl_ScriptsOf.l0, scrG]
    rw [if_neg (by omega)]
    by_cases h : acc.length = 0
    · rw [if_pos (by omega), if_pos h]
    · rw [if_neg (by omega), if_neg h]
  | succ n ih =>
    intro K p acc hp h1 hl hK
    obtain ⟨K, rfl⟩ : ∃ m, K = m + 1 := ⟨K - 1, by omega⟩
    have hw : wrap64 (p + 1) = p + 1 := wrap_id (by omega) (by omega)
    obtain ⟨m, e, hm⟩ := readNotesIn_eq (key0 h1 (by omega)) ha (K := K) (by omega)
    simp only [impl_ScriptsOf.l0, scrG]
    rw [if_pos (by omega), e, hw]; simp only [Option.bind_some]
    unfold hasN
    cases hn : notesOf p 0 a.data.toList with
    | none =>
      show (if false = true then _ else impl_ScriptsOf.l0 K a acc (p + 1)) = _
      rw [if_neg (by decide), if_neg (by decide), ih K (p + 1) acc (by omega) (by omega) (by omega) (by omega)]
    | some ys =>
      rw [hm ys hn]
      show (if true = true then (if (ys.length : Int) > 0 then (if acc.length < 17592186044416 then impl_ScriptsOf.l0 K a (acc ++ [p]) (p + 1) else none) else impl_ScriptsOf.l0 K a acc (p + 1)) else _) = _
      rw [if_pos rfl]
      by_cases hy : 0 < ys.length
      · rw [if_pos (by omega), if_pos (by omega), if_pos (decide_eq_true hy), ih K (p + 1) _ (by omega) (by omega) (by rw [List.length_append]; simp; omega) (by omega)]
      · rw [if_neg (by omega), if_neg (show ¬ decide (0 < ys.length) = true by rw [decide_eq_false hy]; decide), ih K (p + 1) acc (by omega) (by omega) (by omega) (by omega)]
theorem FnExactScriptsOf : ∀ (x0 : ByteArray), x0.size ≤ maxLen → ∃ k : Nat, P.laws_FnExactScriptsOf.f k x0 = some true := by
  intro a _
  by_cases hz : (a.size : Int) > 1048576
  · refine ⟨1, ?_⟩
    unfold laws_FnExactScriptsOf.f
    rw [if_pos hz]
  have ha : a.size ≤ 1048576 := by omega
  have hS : ∀ K, 6000000 ≤ K → spec_ScriptsOf.f K a = some (scrG a.data.toList 4 1 []) := fun K hK => scr_spec ha 4 K 1 [] (by omega) (by omega) (by simp) (by omega)
  have hI : ∀ K, 6000000 ≤ K → impl_ScriptsOf.f K a = some (scrG a.data.toList 4 1 []) := fun K hK => scr_impl ha 4 K 1 [] (by omega) (by omega) (by simp) (by omega)
  have hl := scrG_len a.data.toList 4 1 []
  generalize scrG a.data.toList 4 1 [] = r at hS hI hl
  obtain ⟨v, c⟩ := r
  dsimp only at hl
  simp only [List.length_nil] at hl
  have hE : ∀ K, 2000000 ≤ K → laws_eqInt64S.f K v v = some true := fun K hK => by rw [eqInt64S_eq (by omega) (by omega)]; simp
  obtain ⟨m', l', h1, h2, hM, hH⟩ := markInt64S_all (l := v) (m := 1) (by omega) (by omega) (by omega)
  obtain ⟨k1, hM⟩ := hM
  obtain ⟨k2, hH⟩ := hH
  have hM' : ∀ K, k1 ≤ K → laws_markInt64S.f K v 1 = some (m', l') := hM
  have hH' : ∀ K, k2 ≤ K → laws_heldInt64S.f K l' 1 = some m' := hH
  refine ⟨7000000 + k1 + k2 + 2, ?_⟩
  unfold laws_FnExactScriptsOf.f
  rw [if_neg hz, hS _ (by omega)]; simp only [Option.bind_some]
  rw [hI _ (by omega)]; simp only [Option.bind_some]
  rw [hE _ (by omega)]; simp only [Option.bind_some, if_true, bne_self_eq_false]
  show laws_FnExactScriptsOf.j0 ((7000000 + k1 + k2 + 1) + 1) a v c v false = _
  simp only [laws_FnExactScriptsOf.j0, Bool.false_eq_true, if_false]
  rw [hM' _ (by omega)]; simp only [Option.bind_some]
  rw [hH' _ (by omega)]; simp only [Option.bind_some]
  rw [if_neg (by omega), if_pos trivial, hI _ (by omega)]; simp only [Option.bind_some]
  rw [hE _ (by omega)]; simp only [Option.bind_some, if_true, bne_self_eq_false]
  show laws_FnExactScriptsOf.j1 ((7000000 + k1 + k2) + 1) l' m' false = _
  simp only [laws_FnExactScriptsOf.j1, Bool.false_eq_true, if_false]
  rw [hH' _ (by omega)]; simp only [Option.bind_some]
  rw [if_neg (by omega), if_pos trivial]
end Go.Proofs.YtpfalhbeeodjaaaDoor.Pure
