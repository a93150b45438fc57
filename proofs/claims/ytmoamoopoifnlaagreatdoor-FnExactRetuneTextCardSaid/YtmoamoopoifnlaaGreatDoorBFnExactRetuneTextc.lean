/- Part c of what FnExactRetuneText stands on: functions of the program as Lean functions with their walks, and plain lemmas. -/
import Derived.Test.YtmoamoopoifnlaaGreatDoorK
import Derived.Test.YtmoamoopoifnlaaGreatDoorBFnExactRetuneTextb
import Derived.Test.YtmoamoopoifnlaaGreatDoorBFnExactRetuneTexta
import Derived.Lib.ParseIntBCases
import Derived.Lib.IndexBytes
/- laws_eqInt64S: what it answers, and that the machine's call comes to it. -/
namespace Go.Proofs.YtmoamoopoifnlaaGreatDoor.P
open Go.RowKit Go.Proofs.YtmoamoopoifnlaaGreatDoorW.PrintWords Go.Proofs.YtmoamoopoifnlaaGreatDoorW.PrintLast Go.Proofs.YtmoamoopoifnlaaGreatDoorW.PrintMore
attribute [local go_sem] max2_int min2_int max_two min_two max_three min_three max_four min_four str_leq str_gtr str_geq
set_option linter.unusedVariables false
set_option linter.unusedSimpArgs false

/-! ### laws_eqInt64S: function 22 -/
def laws_eqInt64S.l0 : Nat → List Int → List Int → Int → Option (Bool)
  | 0, _, _, _ => none
  | k + 1, x0, x1, x5 => if x5 < (x0.length : Int) then (if 0 ≤ x5 then (if x5 < (x1.length : Int) then (if (rd x0 x5) = (rd x1 x5) then (laws_eqInt64S.l0 k x0 x1 (wrap64 (x5 + 1))) else (some false)) else (none)) else (none)) else (some true)
def laws_eqInt64S.f (k : Nat) (l0 : List Int) (l1 : List Int) : Option (Bool) := if (l0.length : Int) = (l1.length : Int) then (laws_eqInt64S.l0 k l0 l1 0) else (some false)
theorem laws_eqInt64S.mono_l : ∀ k, (∀ y0 y1 y2, LeO (laws_eqInt64S.l0 k y0 y1 y2) (laws_eqInt64S.l0 (k + 1) y0 y1 y2))
  | 0 => fun _ _ _ r h => by simp [laws_eqInt64S.l0] at h
  | k + 1 => by
    have ih0 := laws_eqInt64S.mono_l k
    · intro y0 y1 y2
      unfold laws_eqInt64S.l0
      repeat' first
      | (with_reducible exact ih0 _ _ _)
      | (with_reducible exact LeO.refl _)
      | (with_reducible exact LeO.none _)
      | (with_reducible refine LeO.ite ?_ ?_)
      | (with_reducible refine LeO.bind ?_ (fun _ => ?_))
      | exact ih0 _ _ _
      | exact LeO.none _
      | refine LeO.ite ?_ ?_
      | refine LeO.bind ?_ (fun _ => ?_)
theorem laws_eqInt64S.mono : ∀ a0 a1 k, LeO (laws_eqInt64S.f k a0 a1) (laws_eqInt64S.f (k + 1) a0 a1) := by
  intro a0 a1 k
  have ih0 := laws_eqInt64S.mono_l k
  unfold laws_eqInt64S.f
  repeat' first
      | (with_reducible exact ih0 _ _ _)
      | (with_reducible exact LeO.refl _)
      | (with_reducible exact LeO.none _)
      | (with_reducible refine LeO.ite ?_ ?_)
      | (with_reducible refine LeO.bind ?_ (fun _ => ?_))
      | exact ih0 _ _ _
      | exact LeO.none _
      | refine LeO.ite ?_ ?_
      | refine LeO.bind ?_ (fun _ => ?_)
set_option maxHeartbeats 8000000 in
set_option maxRecDepth 100000 in
theorem laws_eqInt64S.calls (k : Nat) (A0 : Option Addr) (c0 : Nat) (l0 : List Int) (A1 : Option Addr) (c1 : Nat) (l1 : List Int) (r : Bool) (w : World) (hr0 : Kd.C (Kd.int .i64) w A0 l0.length l0) (hc0 : l0.length ≤ c0) (hr1 : Kd.C (Kd.int .i64) w A1 l1.length l1) (hc1 : l1.length ≤ c1) (h : laws_eqInt64S.f k l0 l1 = some r) :
    Calls Tryz.prog 22 #[.slice A0 l0.length c0, .slice A1 l1.length c1] w fun e w' => e = .returned (.bool r) ∧ Drawn0 w w' := by
  have HR0 := Aside0.mk hr0
  have HC0 := Aside0.mk hc0
  clear hr0 hc0
  have HR1 := Aside0.mk hr1
  have HC1 := Aside0.mk hc1
  clear hr1 hc1
  have H : (if (l0.length : Int) = (l1.length : Int) then (laws_eqInt64S.l0 k l0 l1 0) else (some false)) = some r := h
  clear h
  by_cases c3 : (l0.length : Int) = (l1.length : Int)
  · rw [if_pos c3] at H
    have c3b0 : ((l0.length : Int) == (l1.length : Int)) = true := beq_iff_eq.mpr c3
    have c3b1 : ((l0.length : Int) != (l1.length : Int)) = false := bne_eq_false_iff_eq.mpr c3
    have c3b2 : (l0.length == l1.length) = true := by first | simpa using c3 | (simp at c3 ⊢; omega)
    clear c3
    have H' := Aside0.mk H
    clear H
    go_enter Tryz.func22, Tryz.ntmps22
    go_wp2
    repeat (go_quiet (fail); try go_wp2)
    go_loopg [5] k (fun kq v5 w' => ∃ (x5_1 : Int), v5 = .int .i64 x5_1 ∧ Aside0 (laws_eqInt64S.l0 kq l0 l1 x5_1 = some r) ∧ Aside0 (kq ≤ k) ∧ Drawn0 w w')
    case atStart => exact ⟨(0), (by first | rfl | (simp; done) | (simp [*]; done)), H', ⟨Nat.le_refl _⟩, by repeat (first | exact Drawn0.refl _ | apply Drawn0.step)⟩
    case round =>
      clear H'
      try clear c1
      try clear c2
      try clear p2
      try clear c3
      try clear c3b0
      try clear c3b1
      try clear c3b2
      obtain ⟨x5_1, rfl, HA, HK1, ⟨m1, rfl⟩⟩ := hrel
      cases gk with
      | zero => exact absurd HA.out (by simp [laws_eqInt64S.l0])
      | succ k1 =>
        have H := HA.out
        clear HA
        simp only [laws_eqInt64S.l0] at H
        by_cases c4 : x5_1 < (l0.length : Int)
        · rw [if_pos c4] at H
          have c4b0 : decide (x5_1 < (l0.length : Int)) = true := decide_eq_true c4
          clear c4
          by_cases c5 : 0 ≤ x5_1
          · rw [if_pos c5] at H
            have c5b0 : decide (0 ≤ x5_1) = true := decide_eq_true c5
            clear c5
            by_cases c6 : x5_1 < (l1.length : Int)
            · rw [if_pos c6] at H
              have c6b0 : decide (x5_1 < (l1.length : Int)) = true := decide_eq_true c6
              clear c6
              by_cases c7 : (rd l0 x5_1) = (rd l1 x5_1)
              · rw [if_pos c7] at H
                have c7b0 : ((rd l0 x5_1) == (rd l1 x5_1)) = true := beq_iff_eq.mpr c7
                have c7b1 : ((rd l0 x5_1) != (rd l1 x5_1)) = false := bne_eq_false_iff_eq.mpr c7
                clear c7
                have H' := Aside0.mk H
                clear H
                have p101 : 0 ≤ (x5_1 : Int) := of_decide_eq_true (by first | (with_reducible assumption) | assumption)
                have q101 : x5_1 < (l0.length : Int) := of_decide_eq_true (by first | (with_reducible assumption) | assumption)
                obtain ⟨ad101, e101, hx101_0⟩ := Kd.at_int HR0.out x5_1 p101 q101
                cases e101
                replace p101 := eq_true p101
                replace q101 := eq_true q101
                have p102 : 0 ≤ (x5_1 : Int) := of_decide_eq_true (by first | (with_reducible assumption) | assumption)
                have q102 : x5_1 < (l1.length : Int) := of_decide_eq_true (by first | (with_reducible assumption) | assumption)
                obtain ⟨ad102, e102, hx102_0⟩ := Kd.at_int HR1.out x5_1 p102 q102
                cases e102
                replace p102 := eq_true p102
                replace q102 := eq_true q102
                go_wp2
                repeat (go_quiet (fail); try go_wp2)
                go_roundg k1
                case measure => have := HK1.out; omega
                case rel => exact ⟨(wrap64 (x5_1 + 1)), (by first | rfl | (simp; done) | (simp [*]; done)), H', ⟨by have := HK1.out; omega⟩, by repeat (first | exact Drawn0.refl _ | apply Drawn0.step)⟩
              · rw [if_neg c7] at H
                have c7b0 : ((rd l0 x5_1) == (rd l1 x5_1)) = false := beq_eq_false_iff_ne.mpr c7
                have c7b1 : ((rd l0 x5_1) != (rd l1 x5_1)) = true := bne_iff_ne.mpr c7
                obtain rfl := Option.some.inj H
                have p101 : 0 ≤ (x5_1 : Int) := of_decide_eq_true (by first | (with_reducible assumption) | assumption)
                have q101 : x5_1 < (l0.length : Int) := of_decide_eq_true (by first | (with_reducible assumption) | assumption)
                obtain ⟨ad101, e101, hx101_0⟩ := Kd.at_int HR0.out x5_1 p101 q101
                cases e101
                replace p101 := eq_true p101
                replace q101 := eq_true q101
                have p102 : 0 ≤ (x5_1 : Int) := of_decide_eq_true (by first | (with_reducible assumption) | assumption)
                have q102 : x5_1 < (l1.length : Int) := of_decide_eq_true (by first | (with_reducible assumption) | assumption)
                obtain ⟨ad102, e102, hx102_0⟩ := Kd.at_int HR1.out x5_1 p102 q102
                cases e102
                replace p102 := eq_true p102
                replace q102 := eq_true q102
                go_wp2
                repeat (go_quiet (fail); try go_wp2)
                go_ret
                exact ⟨by first | rfl | (simp; done) | (simp [*]; done), by repeat (first | exact Drawn0.refl _ | apply Drawn0.step)⟩
            · rw [if_neg c6] at H
              exact absurd H (by simp)
          · rw [if_neg c5] at H
            exact absurd H (by simp)
        · rw [if_neg c4] at H
          have c4b0 : decide (x5_1 < (l0.length : Int)) = false := decide_eq_false c4
          clear c4
          obtain rfl := Option.some.inj H
          go_wp2
          repeat (go_quiet (fail); try go_wp2)
          go_ret
          exact ⟨by first | rfl | (simp; done) | (simp [*]; done), by repeat (first | exact Drawn0.refl _ | apply Drawn0.step)⟩
  · rw [if_neg c3] at H
    have c3b0 : ((l0.length : Int) == (l1.length : Int)) = false := beq_eq_false_iff_ne.mpr c3
    have c3b1 : ((l0.length : Int) != (l1.length : Int)) = true := bne_iff_ne.mpr c3
    have c3b2 : (l0.length == l1.length) = false := by first | simpa using c3 | (simp at c3 ⊢; omega)
    obtain rfl := Option.some.inj H
    go_enter Tryz.func22, Tryz.ntmps22
    go_wp2
    repeat (go_quiet (fail); try go_wp2)
    go_ret
    exact ⟨by first | rfl | (simp; done) | (simp [*]; done), by repeat (first | exact Drawn0.refl _ | apply Drawn0.step)⟩

end Go.Proofs.YtmoamoopoifnlaaGreatDoor.P

/- laws_markInt64S: what it answers, and that the machine's call comes to it. -/
namespace Go.Proofs.YtmoamoopoifnlaaGreatDoor.P
open Go.RowKit Go.Proofs.YtmoamoopoifnlaaGreatDoorW.PrintWords Go.Proofs.YtmoamoopoifnlaaGreatDoorW.PrintLast Go.Proofs.YtmoamoopoifnlaaGreatDoorW.PrintMore
attribute [local go_sem] max2_int min2_int max_two min_two max_three min_three max_four min_four str_leq str_gtr str_geq
set_option linter.unusedVariables false
set_option linter.unusedSimpArgs false

/-! ### laws_markInt64S: function 23 -/
def laws_markInt64S.l0 : Nat → List Int → Int → Int → Option (Int × List Int)
  | 0, _, _, _ => none
  | k + 1, x0, x1, x5 => if x5 < (x0.length : Int) then (if 0 ≤ x5 then (laws_markInt64S.l0 k (x0.set (x5 : Int).toNat x1) (wrap64 (x1 + 1)) (wrap64 (x5 + 1))) else (none)) else (some (x1, x0))
def laws_markInt64S.f (k : Nat) (l0 : List Int) (a1 : Int) : Option (Int × List Int) := laws_markInt64S.l0 k l0 a1 0
theorem laws_markInt64S.mono_l : ∀ k, (∀ y0 y1 y2, LeO (laws_markInt64S.l0 k y0 y1 y2) (laws_markInt64S.l0 (k + 1) y0 y1 y2))
  | 0 => fun _ _ _ r h => by simp [laws_markInt64S.l0] at h
  | k + 1 => by
    have ih0 := laws_markInt64S.mono_l k
    · intro y0 y1 y2
      unfold laws_markInt64S.l0
      repeat' first
      | (with_reducible exact ih0 _ _ _)
      | (with_reducible exact LeO.refl _)
      | (with_reducible exact LeO.none _)
      | (with_reducible refine LeO.ite ?_ ?_)
      | (with_reducible refine LeO.bind ?_ (fun _ => ?_))
      | exact ih0 _ _ _
      | exact LeO.none _
      | refine LeO.ite ?_ ?_
      | refine LeO.bind ?_ (fun _ => ?_)
theorem laws_markInt64S.mono : ∀ a0 a1 k, LeO (laws_markInt64S.f k a0 a1) (laws_markInt64S.f (k + 1) a0 a1) := by
  intro a0 a1 k
  have ih0 := laws_markInt64S.mono_l k
  unfold laws_markInt64S.f
  repeat' first
      | (with_reducible exact ih0 _ _ _)
      | (with_reducible exact LeO.refl _)
      | (with_reducible exact LeO.none _)
      | (with_reducible refine LeO.ite ?_ ?_)
      | (with_reducible refine LeO.bind ?_ (fun _ => ?_))
      | exact ih0 _ _ _
      | exact LeO.none _
      | refine LeO.ite ?_ ?_
      | refine LeO.bind ?_ (fun _ => ?_)
set_option maxHeartbeats 8000000 in
set_option maxRecDepth 100000 in
theorem laws_markInt64S.calls (k : Nat) (P0_ : Nat → Prop) (u9000_ : Value) (l0 : List Int) (a1 : Int) (r1 : Int) (r2 : List Int) (w0 w : World) (hB : Below w0.heap.size w0 w) (ho0 : Kd.R (Kd.int .i64) 2 w w0.heap.size P0_ u9000_ l0) (h : laws_markInt64S.f k l0 a1 = some (r1, r2)) :
    Calls Tryz.prog 23 #[u9000_, .int .i64 a1] w fun e w' => e = .returned (.int .i64 r1) ∧ Kd.R (Kd.int .i64) 2 w' w0.heap.size (fun k_ => (P0_ k_ ∨ w.heap.size ≤ k_)) u9000_ r2 ∧ Below w0.heap.size w0 w' ∧ Kept w w' (fun k_ => P0_ k_) := by
  have HO0 := Aside0.mk (show Kd.R (Kd.int .i64) 2 w w0.heap.size (fun k_ => (P0_ k_ ∨ w.heap.size ≤ k_)) u9000_ l0 from Kd.R_mono ho0 (fun k_ hk => (.inl hk)))
  have HK := Aside0.mk (Kept.refl w (fun k_ => P0_ k_))
  have HW0 := Aside0.mk hB.size
  have HB := Aside0.mk hB
  clear hB
  have H : (laws_markInt64S.l0 k l0 a1 0) = some (r1, r2) := h
  clear h
  have H' := Aside0.mk H
  clear H
  go_enter Tryz.func23, Tryz.ntmps23
  go_wp2
  go_loopg [1, 5] k (fun kq v1 v5 w' => ∃ (x0_1 : List Int) (x1_1 : Int) (x5_1 : Int), v1 = .int .i64 x1_1 ∧ v5 = .int .i64 x5_1 ∧ Aside0 (laws_markInt64S.l0 kq x0_1 x1_1 x5_1 = some (r1, r2)) ∧ Aside0 (kq ≤ k) ∧ Aside0 (Kd.R (Kd.int .i64) 2 w' w0.heap.size (fun k_ => (P0_ k_ ∨ w.heap.size ≤ k_)) u9000_ x0_1) ∧ Aside0 (Kept w w' (fun k_ => P0_ k_)) ∧ Aside0 (Below w0.heap.size w0 w'))
  case atStart => exact ⟨(l0), (a1), (0), (by first | rfl | (simp; done) | (simp [*]; done)), (by first | rfl | (simp; done) | (simp [*]; done)), H', ⟨Nat.le_refl _⟩, ⟨by (with_reducible repeat (first | apply Kd.R_alloc | apply Kd.R_drewN | apply Kd.R_drew)); exact HO0.out⟩, ⟨by repeat (first | (with_reducible first | exact HK.out | apply Kept.alloc | apply Kept.drewN | apply Kept.drew) | exact HK.out)⟩, ⟨by repeat (first | (with_reducible first | exact HB.out | apply below_alloc | apply pw_below_drewN | apply below_drew1) | exact HB.out)⟩⟩
  case round =>
    clear H'
    try clear c2
    try clear p2
    obtain ⟨x0_1, x1_1, x5_1, rfl, rfl, HA, HK1, HO_0, HK, HB⟩ := hrel
    cases gk with
    | zero => exact absurd HA.out (by simp [laws_markInt64S.l0])
    | succ k1 =>
      have H := HA.out
      clear HA
      simp only [laws_markInt64S.l0] at H
      by_cases c3 : x5_1 < (x0_1.length : Int)
      · rw [if_pos c3] at H
        have c3b0 : decide (x5_1 < (x0_1.length : Int)) = true := decide_eq_true c3
        clear c3
        by_cases c4 : 0 ≤ x5_1
        · rw [if_pos c4] at H
          have c4b0 : decide (0 ≤ x5_1) = true := decide_eq_true c4
          clear c4
          obtain ⟨y101, hy101⟩ : ∃ y_ : List Int, y_ = (x0_1.set (x5_1 : Int).toNat x1_1) := ⟨_, rfl⟩
          replace H : (laws_markInt64S.l0 k1 y101 (wrap64 (x1_1 + 1)) (wrap64 (x5_1 + 1))) = some (r1, r2) := by first | (rw [hy101]; with_reducible exact H) | (have H2_ := (Option.bind_some _ _).symm.trans H; rw [hy101]; with_reducible exact H2_) | (have H2_ := (Option.bind_some _ _).symm.trans H; with_reducible exact H2_) | with_reducible exact H | (rw [hy101]; exact H) | exact H
          have Ny101 := Aside0.mk hy101
          clear hy101
          have H' := Aside0.mk H
          clear H
          obtain ⟨Ao6, co6, eo6⟩ := Kd.R_slice HO_0.out
          subst eo6
          have p5 : 0 ≤ (x5_1 : Int) := of_decide_eq_true (by first | (with_reducible assumption) | assumption)
          have q5 : (x5_1 : Int) < ((x0_1.length : Int) : Int) := of_decide_eq_true (by first | (with_reducible assumption) | assumption)
          obtain ⟨go5, co5, eo5, gb5, gl5, cl5, HG5⟩ := Kd.R_form HO_0.out (by omega)
          (first | cases eo5 | (injection eo5 with ea_ en_ ec_; (first | subst ea_ | (injection ea_ with ea_; subst ea_)); subst ec_; clear en_))
          have GB5 := Aside0.mk gb5
          have GG5 := Aside0.mk HG5
          clear gb5 gl5 HG5
          have HMgo5 := Aside0.mk (show (P0_ go5 ∨ w.heap.size ≤ go5) from (HO_0.out.1 _ rfl))
          obtain ⟨hx5_0, hf5_0⟩ := Kd.R_celln 0 HO_0.out (x5_1 : Int) p5 q5
          replace p5 := eq_true p5
          replace q5 := eq_true q5
          have HP7 := Kd.R_putg HO_0.out (x5_1 : Int) x1_1
          go_wp2_with (first | ((with_reducible refine gate_store (t := 2) (p := 15) rfl ?_); refine store_event (t := 2) (p := 15) (v := ?vo_w8) (w1 := (wr.setCell ⟨go5, (x5_1 : Int).toNat, none⟩ (.int .i64 x1_1))) ?hg ?ho ?hn ?hr ?_; (case ho => rfl); (case hg => rfl); (case hn => rfl); (case hr => first | (go_simp; done) | (go_simp; rfl)); intro w8 hw; have hg : wr.grownBy w8 (some go5) := (by rw [hw]; exact HP7.2); have hp_ : Kd.R (Kd.int .i64) 2 w8 w0.heap.size (fun k_ => (P0_ k_ ∨ w.heap.size ≤ k_)) (.slice (some ⟨go5, 0, none⟩) x0_1.length co6) y101 := (by rw [hw, Ny101.out]; exact HP7.1); clear HP7; have n0_ := Aside0.mk (hp_); have n1_ := Aside0.mk ((by rw [hw]; exact below_set (HB.out) GB5.out : Below w0.heap.size w0 w8)); have n2_ := Aside0.mk (Kept.of_grown (S := (fun k_ => P0_ k_)) hg (by repeat (first | (with_reducible first | exact HK.out | apply Kept.alloc | apply Kept.drewN | apply Kept.drew) | exact HK.out)) (fun k_ e_ => (HO_0.out.1 k_ e_))); clear HO_0; clear HB; clear HK; have HO_0 := n0_; have HB := n1_; have HK := n2_; clear n0_ n1_ n2_; clear hg hw hp_))
          go_roundg k1
          case measure => have := HK1.out; omega
          case rel => exact ⟨(y101), (wrap64 (x1_1 + 1)), (wrap64 (x5_1 + 1)), (by first | rfl | (simp; done) | (simp [*]; done)), (by first | rfl | (simp; done) | (simp [*]; done)), H', ⟨by have := HK1.out; omega⟩, ⟨by (with_reducible repeat (first | apply Kd.R_alloc | apply Kd.R_drewN | apply Kd.R_drew)); exact HO_0.out⟩, ⟨by repeat (first | (with_reducible first | exact HK.out | apply Kept.alloc | apply Kept.drewN | apply Kept.drew) | exact HK.out)⟩, ⟨by repeat (first | (with_reducible first | exact HB.out | apply below_alloc | apply pw_below_drewN | apply below_drew1) | exact HB.out)⟩⟩
        · rw [if_neg c4] at H
          exact absurd H (by simp)
      · rw [if_neg c3] at H
        have c3b0 : decide (x5_1 < (x0_1.length : Int)) = false := decide_eq_false c3
        clear c3
        simp only [Option.some.injEq, Prod.mk.injEq] at H
        obtain ⟨rfl, rfl⟩ := H
        obtain ⟨Ao9, co9, eo9⟩ := Kd.R_slice HO_0.out
        subst eo9
        go_wp2
        go_ret
        exact ⟨by first | rfl | (simp [errW_none, errW_some] <;> rfl) | (simp [*, errW_none, errW_some] <;> rfl), by (with_reducible repeat (first | apply Kd.R_alloc | apply Kd.R_drewN | apply Kd.R_drew)); exact HO_0.out, by repeat (first | (with_reducible first | exact HB.out | apply below_alloc | apply pw_below_drewN | apply below_drew1) | exact HB.out), by repeat (first | (with_reducible first | exact HK.out | apply Kept.alloc | apply Kept.drewN | apply Kept.drew) | exact HK.out)⟩

end Go.Proofs.YtmoamoopoifnlaaGreatDoor.P

/- laws_heldInt64S: what it answers, and that the machine's call comes to it. -/
namespace Go.Proofs.YtmoamoopoifnlaaGreatDoor.P
open Go.RowKit Go.Proofs.YtmoamoopoifnlaaGreatDoorW.PrintWords Go.Proofs.YtmoamoopoifnlaaGreatDoorW.PrintLast Go.Proofs.YtmoamoopoifnlaaGreatDoorW.PrintMore
attribute [local go_sem] max2_int min2_int max_two min_two max_three min_three max_four min_four str_leq str_gtr str_geq
set_option linter.unusedVariables false
set_option linter.unusedSimpArgs false

/-! ### laws_heldInt64S: function 24 -/
def laws_heldInt64S.l0 : Nat → List Int → Int → Int → Option (Int)
  | 0, _, _, _ => none
  | k + 1, x0, x1, x5 => if x5 < (x0.length : Int) then (if 0 ≤ x5 then (if (rd x0 x5) = x1 then (laws_heldInt64S.l0 k x0 (wrap64 (x1 + 1)) (wrap64 (x5 + 1))) else (some (-1))) else (none)) else (some x1)
def laws_heldInt64S.f (k : Nat) (l0 : List Int) (a1 : Int) : Option (Int) := laws_heldInt64S.l0 k l0 a1 0
theorem laws_heldInt64S.mono_l : ∀ k, (∀ y0 y1 y2, LeO (laws_heldInt64S.l0 k y0 y1 y2) (laws_heldInt64S.l0 (k + 1) y0 y1 y2))
  | 0 => fun _ _ _ r h => by simp [laws_heldInt64S.l0] at h
  | k + 1 => by
    have ih0 := laws_heldInt64S.mono_l k
    · intro y0 y1 y2
      unfold laws_heldInt64S.l0
      repeat' first
      | (with_reducible exact ih0 _ _ _)
      | (with_reducible exact LeO.refl _)
      | (with_reducible exact LeO.none _)
      | (with_reducible refine LeO.ite ?_ ?_)
      | (with_reducible refine LeO.bind ?_ (fun _ => ?_))
      | exact ih0 _ _ _
      | exact LeO.none _
      | refine LeO.ite ?_ ?_
      | refine LeO.bind ?_ (fun _ => ?_)
theorem laws_heldInt64S.mono : ∀ a0 a1 k, LeO (laws_heldInt64S.f k a0 a1) (laws_heldInt64S.f (k + 1) a0 a1) := by
  intro a0 a1 k
  have ih0 := laws_heldInt64S.mono_l k
  unfold laws_heldInt64S.f
  repeat' first
      | (with_reducible exact ih0 _ _ _)
      | (with_reducible exact LeO.refl _)
      | (with_reducible exact LeO.none _)
      | (with_reducible refine LeO.ite ?_ ?_)
      | (with_reducible refine LeO.bind ?_ (fun _ => ?_))
      | exact ih0 _ _ _
      | exact LeO.none _
      | refine LeO.ite ?_ ?_
      | refine LeO.bind ?_ (fun _ => ?_)
set_option maxHeartbeats 8000000 in
set_option maxRecDepth 100000 in
theorem laws_heldInt64S.calls (k : Nat) (A0 : Option Addr) (c0 : Nat) (l0 : List Int) (a1 : Int) (r : Int) (w : World) (hr0 : Kd.C (Kd.int .i64) w A0 l0.length l0) (hc0 : l0.length ≤ c0) (h : laws_heldInt64S.f k l0 a1 = some r) :
    Calls Tryz.prog 24 #[.slice A0 l0.length c0, .int .i64 a1] w fun e w' => e = .returned (.int .i64 r) ∧ Drawn0 w w' := by
  have HR0 := Aside0.mk hr0
  have HC0 := Aside0.mk hc0
  clear hr0 hc0
  have H : (laws_heldInt64S.l0 k l0 a1 0) = some r := h
  clear h
  have H' := Aside0.mk H
  clear H
  go_enter Tryz.func24, Tryz.ntmps24
  go_wp2
  go_loopg [1, 5] k (fun kq v1 v5 w' => ∃ (x1_1 : Int) (x5_1 : Int), v1 = .int .i64 x1_1 ∧ v5 = .int .i64 x5_1 ∧ Aside0 (laws_heldInt64S.l0 kq l0 x1_1 x5_1 = some r) ∧ Aside0 (kq ≤ k) ∧ Drawn0 w w')
  case atStart => exact ⟨(a1), (0), (by first | rfl | (simp; done) | (simp [*]; done)), (by first | rfl | (simp; done) | (simp [*]; done)), H', ⟨Nat.le_refl _⟩, by repeat (first | exact Drawn0.refl _ | apply Drawn0.step)⟩
  case round =>
    clear H'
    try clear c2
    try clear p2
    obtain ⟨x1_1, x5_1, rfl, rfl, HA, HK1, ⟨m1, rfl⟩⟩ := hrel
    cases gk with
    | zero => exact absurd HA.out (by simp [laws_heldInt64S.l0])
    | succ k1 =>
      have H := HA.out
      clear HA
      simp only [laws_heldInt64S.l0] at H
      by_cases c3 : x5_1 < (l0.length : Int)
      · rw [if_pos c3] at H
        have c3b0 : decide (x5_1 < (l0.length : Int)) = true := decide_eq_true c3
        clear c3
        by_cases c4 : 0 ≤ x5_1
        · rw [if_pos c4] at H
          have c4b0 : decide (0 ≤ x5_1) = true := decide_eq_true c4
          clear c4
          by_cases c5 : (rd l0 x5_1) = x1_1
          · rw [if_pos c5] at H
            have c5b0 : ((rd l0 x5_1) == x1_1) = true := beq_iff_eq.mpr c5
            have c5b1 : ((rd l0 x5_1) != x1_1) = false := bne_eq_false_iff_eq.mpr c5
            clear c5
            have H' := Aside0.mk H
            clear H
            have p101 : 0 ≤ (x5_1 : Int) := of_decide_eq_true (by first | (with_reducible assumption) | assumption)
            have q101 : x5_1 < (l0.length : Int) := of_decide_eq_true (by first | (with_reducible assumption) | assumption)
            obtain ⟨ad101, e101, hx101_0⟩ := Kd.at_int HR0.out x5_1 p101 q101
            cases e101
            replace p101 := eq_true p101
            replace q101 := eq_true q101
            go_wp2
            go_roundg k1
            case measure => have := HK1.out; omega
            case rel => exact ⟨(wrap64 (x1_1 + 1)), (wrap64 (x5_1 + 1)), (by first | rfl | (simp; done) | (simp [*]; done)), (by first | rfl | (simp; done) | (simp [*]; done)), H', ⟨by have := HK1.out; omega⟩, by repeat (first | exact Drawn0.refl _ | apply Drawn0.step)⟩
          · rw [if_neg c5] at H
            have c5b0 : ((rd l0 x5_1) == x1_1) = false := beq_eq_false_iff_ne.mpr c5
            have c5b1 : ((rd l0 x5_1) != x1_1) = true := bne_iff_ne.mpr c5
            obtain rfl := Option.some.inj H
            have p101 : 0 ≤ (x5_1 : Int) := of_decide_eq_true (by first | (with_reducible assumption) | assumption)
            have q101 : x5_1 < (l0.length : Int) := of_decide_eq_true (by first | (with_reducible assumption) | assumption)
            obtain ⟨ad101, e101, hx101_0⟩ := Kd.at_int HR0.out x5_1 p101 q101
            cases e101
            replace p101 := eq_true p101
            replace q101 := eq_true q101
            go_wp2
            go_ret
            exact ⟨by first | rfl | (simp; done) | (simp [*]; done), by repeat (first | exact Drawn0.refl _ | apply Drawn0.step)⟩
        · rw [if_neg c4] at H
          exact absurd H (by simp)
      · rw [if_neg c3] at H
        have c3b0 : decide (x5_1 < (l0.length : Int)) = false := decide_eq_false c3
        clear c3
        obtain rfl := Option.some.inj H
        go_wp2
        go_ret
        exact ⟨by first | rfl | (simp; done) | (simp [*]; done), by repeat (first | exact Drawn0.refl _ | apply Drawn0.step)⟩

end Go.Proofs.YtmoamoopoifnlaaGreatDoor.P

/- laws_szInt64S: what it answers, and that the machine's call comes to it. -/
namespace Go.Proofs.YtmoamoopoifnlaaGreatDoor.P
open Go.RowKit Go.Proofs.YtmoamoopoifnlaaGreatDoorW.PrintWords Go.Proofs.YtmoamoopoifnlaaGreatDoorW.PrintLast Go.Proofs.YtmoamoopoifnlaaGreatDoorW.PrintMore
attribute [local go_sem] max2_int min2_int max_two min_two max_three min_three max_four min_four str_leq str_gtr str_geq
set_option linter.unusedVariables false
set_option linter.unusedSimpArgs false

/-! ### laws_szInt64S: function 65 -/
def laws_szInt64S.f (l0 : List Int) (a1 : Int) : Option (Int) := if (wrap64 (a1 - (l0.length : Int))) < 0 then (some (-1)) else (some (wrap64 (a1 - (l0.length : Int))))
set_option maxHeartbeats 8000000 in
set_option maxRecDepth 100000 in
theorem laws_szInt64S.calls (A0 : Option Addr) (c0 : Nat) (l0 : List Int) (a1 : Int) (r : Int) (w : World) (hr0 : Kd.C (Kd.int .i64) w A0 l0.length l0) (hc0 : l0.length ≤ c0) (h : laws_szInt64S.f l0 a1 = some r) :
    Calls Tryz.prog 65 #[.slice A0 l0.length c0, .int .i64 a1] w fun e w' => e = .returned (.int .i64 r) ∧ Drawn0 w w' := by
  have HR0 := Aside0.mk hr0
  have HC0 := Aside0.mk hc0
  clear hr0 hc0
  have H : (if (wrap64 (a1 - (l0.length : Int))) < 0 then (some (-1)) else (some (wrap64 (a1 - (l0.length : Int))))) = some r := h
  clear h
  by_cases c3 : (wrap64 (a1 - (l0.length : Int))) < 0
  · rw [if_pos c3] at H
    have c3b0 : decide ((wrap64 (a1 - (l0.length : Int))) < 0) = true := decide_eq_true c3
    clear c3
    obtain rfl := Option.some.inj H
    go_enter Tryz.func65, Tryz.ntmps65
    go_wp2
    go_ret
    exact ⟨by first | rfl | (simp; done) | (simp [*]; done), by repeat (first | exact Drawn0.refl _ | apply Drawn0.step)⟩
  · rw [if_neg c3] at H
    have c3b0 : decide ((wrap64 (a1 - (l0.length : Int))) < 0) = false := decide_eq_false c3
    clear c3
    obtain rfl := Option.some.inj H
    go_enter Tryz.func65, Tryz.ntmps65
    go_wp2
    go_ret
    exact ⟨by first | rfl | (simp; done) | (simp [*]; done), by repeat (first | exact Drawn0.refl _ | apply Drawn0.step)⟩

end Go.Proofs.YtmoamoopoifnlaaGreatDoor.P

/- laws_toInt64S: what it answers, and that the machine's call comes to it. -/
namespace Go.Proofs.YtmoamoopoifnlaaGreatDoor.P
open Go.RowKit Go.Proofs.YtmoamoopoifnlaaGreatDoorW.PrintWords Go.Proofs.YtmoamoopoifnlaaGreatDoorW.PrintLast Go.Proofs.YtmoamoopoifnlaaGreatDoorW.PrintMore
attribute [local go_sem] max2_int min2_int max_two min_two max_three min_three max_four min_four str_leq str_gtr str_geq
set_option linter.unusedVariables false
set_option linter.unusedSimpArgs false

/-! ### laws_toInt64S: function 67 -/
def laws_toInt64S.l0 : Nat → List Int → List Int → Int → Option (List Int)
  | 0, _, _, _ => none
  | k + 1, x0, x3, x4 => if x4 < (x0.length : Int) then (if 0 ≤ x4 then (if x4 < (x3.length : Int) then (laws_toInt64S.l0 k x0 (x3.set (x4 : Int).toNat (rd x0 x4)) (wrap64 (x4 + 1))) else (none)) else (none)) else (some x3)
def laws_toInt64S.f (k : Nat) (l0 : List Int) : Option (List Int) := if 0 ≤ (l0.length : Int) then (if ((l0.length : Int) : Int).toNat ≤ 35184372088832 then (laws_toInt64S.l0 k l0 (List.replicate ((l0.length : Int) : Int).toNat 0) 0) else (none)) else (none)
theorem laws_toInt64S.mono_l : ∀ k, (∀ y0 y1 y2, LeO (laws_toInt64S.l0 k y0 y1 y2) (laws_toInt64S.l0 (k + 1) y0 y1 y2))
  | 0 => fun _ _ _ r h => by simp [laws_toInt64S.l0] at h
  | k + 1 => by
    have ih0 := laws_toInt64S.mono_l k
    · intro y0 y1 y2
      unfold laws_toInt64S.l0
      repeat' first
      | (with_reducible exact ih0 _ _ _)
      | (with_reducible exact LeO.refl _)
      | (with_reducible exact LeO.none _)
      | (with_reducible refine LeO.ite ?_ ?_)
      | (with_reducible refine LeO.bind ?_ (fun _ => ?_))
      | exact ih0 _ _ _
      | exact LeO.none _
      | refine LeO.ite ?_ ?_
      | refine LeO.bind ?_ (fun _ => ?_)
theorem laws_toInt64S.mono : ∀ a0 k, LeO (laws_toInt64S.f k a0) (laws_toInt64S.f (k + 1) a0) := by
  intro a0 k
  have ih0 := laws_toInt64S.mono_l k
  unfold laws_toInt64S.f
  repeat' first
      | (with_reducible exact ih0 _ _ _)
      | (with_reducible exact LeO.refl _)
      | (with_reducible exact LeO.none _)
      | (with_reducible refine LeO.ite ?_ ?_)
      | (with_reducible refine LeO.bind ?_ (fun _ => ?_))
      | exact ih0 _ _ _
      | exact LeO.none _
      | refine LeO.ite ?_ ?_
      | refine LeO.bind ?_ (fun _ => ?_)
set_option maxHeartbeats 8000000 in
set_option maxRecDepth 100000 in
theorem laws_toInt64S.calls (k : Nat) (A0 : Option Addr) (c0 : Nat) (l0 : List Int) (r : List Int) (w : World) (hr0 : Kd.C (Kd.int .i64) w A0 l0.length l0) (hc0 : l0.length ≤ c0) (h : laws_toInt64S.f k l0 = some r) :
    Calls Tryz.prog 67 #[.slice A0 l0.length c0] w fun e w' => ∃ v0_ : Value, e = .returned (v0_) ∧ Kd.R (Kd.int .i64) 2 w' w.heap.size (fun _ => True) v0_ r ∧ Below w.heap.size w w' := by
  have HR0 := Aside0.mk hr0
  have HC0 := Aside0.mk hc0
  clear hr0 hc0
  have HB := Aside0.mk (Below.refl w.heap.size w)
  have H : (if 0 ≤ (l0.length : Int) then (if ((l0.length : Int) : Int).toNat ≤ 35184372088832 then (laws_toInt64S.l0 k l0 (List.replicate ((l0.length : Int) : Int).toNat 0) 0) else (none)) else (none)) = some r := h
  clear h
  by_cases c2 : 0 ≤ (l0.length : Int)
  · rw [if_pos c2] at H
    have c2b0 := eq_true c2
    have c2b1 : decide (0 ≤ (l0.length : Int)) = true := decide_eq_true c2
    clear c2
    by_cases c3 : ((l0.length : Int) : Int).toNat ≤ 35184372088832
    · rw [if_pos c3] at H
      have c3b0 := eq_true c3
      have c3b1 : decide (((l0.length : Int) : Int).toNat ≤ 35184372088832) = true := decide_eq_true c3
      clear c3
      obtain ⟨y101, hy101⟩ : ∃ y_ : List Int, y_ = (List.replicate ((l0.length : Int) : Int).toNat 0) := ⟨_, rfl⟩
      replace H : (laws_toInt64S.l0 k l0 y101 0) = some r := by first | (rw [hy101]; with_reducible exact H) | (have H2_ := (Option.bind_some _ _).symm.trans H; rw [hy101]; with_reducible exact H2_) | (have H2_ := (Option.bind_some _ _).symm.trans H; with_reducible exact H2_) | with_reducible exact H | (rw [hy101]; exact H) | exact H
      have Ny101 := Aside0.mk hy101
      clear hy101
      have H' := Aside0.mk H
      clear H
      go_enter Tryz.func67, Tryz.ntmps67
      go_wp2_with (first | ((with_reducible refine gate_dst (N := 7) rfl ?_); refine Kd.R_make (Kd.int .i64) _ 2 rfl (N := 7) rfl 37 _ _ rfl (l0.length : Int) rfl rfl Tryz.underlying37 (.int .i64 0) 8 info2 rfl (by decide) (by omega) 0 (ok := fun _ => True) (okp := fun _ => True) rfl (fun _ hk => hk) trivial (of_decide_eq_true (by first | (with_reducible assumption) | assumption)) (Nat.le_trans (Nat.mul_le_mul_right _ (of_decide_eq_true (by first | (with_reducible assumption) | assumption) : (l0.length : Int).toNat ≤ 35184372088832)) (by omega)) (Below.refl _ _) (Nat.le_refl _) ?_; intro v102 w4 ho5 hb hg_ hnew_; clear hg_ hnew_; (first | rw [← Ny101.out] at ho5 | (simp only [Int.reduceToNat] at ho5; rw [← Ny101.out] at ho5)); have n0_ := Aside0.mk (Kd.R_lower ho5 (below_size (by repeat (first | (with_reducible first | exact HB.out | apply below_alloc | apply pw_below_drewN | apply below_drew1) | exact HB.out)))); have n1_ := Aside0.mk (below_step (by repeat (first | (with_reducible first | exact HB.out | apply below_alloc | apply pw_below_drewN | apply below_drew1) | exact HB.out)) hb); clear HB; have HO103 := n0_; have HB := n1_; clear n0_ n1_; clear hb ho5))
      go_loopg [4] k (fun kq v4 w' => ∃ (x3_1 : List Int) (x4_1 : Int), v4 = .int .i64 x4_1 ∧ Aside0 (laws_toInt64S.l0 kq l0 x3_1 x4_1 = some r) ∧ Aside0 (kq ≤ k) ∧ Aside0 (Kd.R (Kd.int .i64) 2 w' w.heap.size (fun _ => True) v102 x3_1) ∧ Aside0 (Below w.heap.size w w'))
      case atStart => exact ⟨(y101), (0), (by first | rfl | (simp; done) | (simp [*]; done)), H', ⟨Nat.le_refl _⟩, ⟨by (with_reducible repeat (first | apply Kd.R_alloc | apply Kd.R_drewN | apply Kd.R_drew)); exact HO103.out⟩, ⟨by repeat (first | (with_reducible first | exact HB.out | apply below_alloc | apply pw_below_drewN | apply below_drew1) | exact HB.out)⟩⟩
      case round =>
        clear H'
        try clear c2
        try clear c2b0
        try clear c2b1
        try clear p2
        try clear c3
        try clear c3b0
        try clear c3b1
        obtain ⟨x3_1, x4_1, rfl, HA, HK1, HO_3, HB⟩ := hrel
        cases gk with
        | zero => exact absurd HA.out (by simp [laws_toInt64S.l0])
        | succ k1 =>
          have H := HA.out
          clear HA
          simp only [laws_toInt64S.l0] at H
          by_cases c6 : x4_1 < (l0.length : Int)
          · rw [if_pos c6] at H
            have c6b0 : decide (x4_1 < (l0.length : Int)) = true := decide_eq_true c6
            clear c6
            by_cases c7 : 0 ≤ x4_1
            · rw [if_pos c7] at H
              have c7b0 : decide (0 ≤ x4_1) = true := decide_eq_true c7
              clear c7
              by_cases c8 : x4_1 < (x3_1.length : Int)
              · rw [if_pos c8] at H
                have c8b0 : decide (x4_1 < (x3_1.length : Int)) = true := decide_eq_true c8
                clear c8
                obtain ⟨y105, hy105⟩ : ∃ y_ : List Int, y_ = (x3_1.set (x4_1 : Int).toNat (rd l0 x4_1)) := ⟨_, rfl⟩
                replace H : (laws_toInt64S.l0 k1 l0 y105 (wrap64 (x4_1 + 1))) = some r := by first | (rw [hy105]; with_reducible exact H) | (have H2_ := (Option.bind_some _ _).symm.trans H; rw [hy105]; with_reducible exact H2_) | (have H2_ := (Option.bind_some _ _).symm.trans H; with_reducible exact H2_) | with_reducible exact H | (rw [hy105]; exact H) | exact H
                have Ny105 := Aside0.mk hy105
                clear hy105
                have H' := Aside0.mk H
                clear H
                have p104 : 0 ≤ (x4_1 : Int) := of_decide_eq_true (by first | (with_reducible assumption) | assumption)
                have q104 : x4_1 < (l0.length : Int) := of_decide_eq_true (by first | (with_reducible assumption) | assumption)
                obtain ⟨ad104, e104, hx104_0⟩ := Kd.at_int HR0.out x4_1 p104 q104
                cases e104
                replace hx104_0 := (HB.out.cell (World.block_lt_of_cell? w _ hx104_0)).trans hx104_0
                replace p104 := eq_true p104
                replace q104 := eq_true q104
                have p9 : 0 ≤ (x4_1 : Int) := of_decide_eq_true (by first | (with_reducible assumption) | assumption)
                have q9 : (x4_1 : Int) < ((x3_1.length : Int) : Int) := of_decide_eq_true (by first | (with_reducible assumption) | assumption)
                obtain ⟨go9, co9, eo9, gb9, gl9, cl9, HG9⟩ := Kd.R_form HO_3.out (by omega)
                (first | cases eo9 | (injection eo9 with ea_ en_ ec_; (first | subst ea_ | (injection ea_ with ea_; subst ea_)); subst ec_; clear en_))
                have GB9 := Aside0.mk gb9
                have GG9 := Aside0.mk HG9
                clear gb9 gl9 HG9
                obtain ⟨hx9_0, hf9_0⟩ := Kd.R_celln 0 HO_3.out (x4_1 : Int) p9 q9
                replace p9 := eq_true p9
                replace q9 := eq_true q9
                have HP10 := Kd.R_putg HO_3.out (x4_1 : Int) (rd l0 x4_1)
                go_wp2_with (first | ((with_reducible refine gate_store (t := 2) (p := 20) rfl ?_); refine store_event (t := 2) (p := 20) (v := ?vo_w11) (w1 := (wr.setCell ⟨go9, (x4_1 : Int).toNat, none⟩ (.int .i64 (rd l0 x4_1)))) ?hg ?ho ?hn ?hr ?_; (case ho => rfl); (case hg => rfl); (case hn => rfl); (case hr => first | (go_simp; done) | (go_simp; rfl)); intro w11 hw; have hg : wr.grownBy w11 (some go9) := (by rw [hw]; exact HP10.2); have hp_ : Kd.R (Kd.int .i64) 2 w11 w.heap.size (fun _ => True) (.slice (some ⟨go9, 0, none⟩) x3_1.length co9) y105 := (by rw [hw, Ny105.out]; exact HP10.1); clear HP10; have n0_ := Aside0.mk (hp_); have n1_ := Aside0.mk ((by rw [hw]; exact below_set (HB.out) GB9.out : Below w.heap.size w w11)); clear HO_3; clear HB; have HO_3 := n0_; have HB := n1_; clear n0_ n1_; clear hg hw hp_))
                go_roundg k1
                case measure => have := HK1.out; omega
                case rel => exact ⟨(y105), (wrap64 (x4_1 + 1)), (by first | rfl | (simp; done) | (simp [*]; done)), H', ⟨by have := HK1.out; omega⟩, ⟨by (with_reducible repeat (first | apply Kd.R_alloc | apply Kd.R_drewN | apply Kd.R_drew)); exact HO_3.out⟩, ⟨by repeat (first | (with_reducible first | exact HB.out | apply below_alloc | apply pw_below_drewN | apply below_drew1) | exact HB.out)⟩⟩
              · rw [if_neg c8] at H
                exact absurd H (by simp)
            · rw [if_neg c7] at H
              exact absurd H (by simp)
          · rw [if_neg c6] at H
            have c6b0 : decide (x4_1 < (l0.length : Int)) = false := decide_eq_false c6
            clear c6
            obtain rfl := Option.some.inj H
            go_wp2
            go_ret
            exact ⟨_, by first | rfl | (simp [errW_none, errW_some] <;> rfl) | (simp [*, errW_none, errW_some] <;> rfl), by (with_reducible repeat (first | apply Kd.R_alloc | apply Kd.R_drewN | apply Kd.R_drew)); exact HO_3.out, by repeat (first | (with_reducible first | exact HB.out | apply below_alloc | apply pw_below_drewN | apply below_drew1) | exact HB.out)⟩
    · rw [if_neg c3] at H
      exact absurd H (by simp)
  · rw [if_neg c2] at H
    exact absurd H (by simp)

end Go.Proofs.YtmoamoopoifnlaaGreatDoor.P

/- The laws' own functions on plain data: sizes, copies, equality: what each answers. Printed by program out of the types. -/
namespace Go.Proofs.YtmoamoopoifnlaaGreatDoor.P
open Go.RowKit Go.Proofs.YtmoamoopoifnlaaGreatDoorW.PrintWords Go.Proofs.YtmoamoopoifnlaaGreatDoorL
set_option linter.unusedVariables false
set_option linter.unusedSimpArgs false

theorem szInt64S_some {l : List Int} (hl : l.length ≤ maxLen) {a : Int} (ha0 : 0 ≤ a) (ha : a ≤ 1048576) : ∃ r, laws_szInt64S.f l a = some r ∧ (r < 0 ∨ (0 ≤ r ∧ r ≤ a ∧ l.length ≤ 1048576)) := by
  have hl' : l.length ≤ 9223372036854775807 := by simpa only [maxLen] using hl
  unfold laws_szInt64S.f
  rw [wrap_id (by omega) (by omega)]
  by_cases h0 : a - (l.length : Int) < 0
  · rw [if_pos h0]; exact ⟨-1, rfl, .inl (by omega)⟩
  · rw [if_neg h0]; exact ⟨_, rfl, .inr ⟨by omega, by omega, by omega⟩⟩
theorem toInt64S_eq {l : List Int} (hl : l.length ≤ 1048576) {k : Nat} (hk : 1048600 ≤ k) : laws_toInt64S.f k l = some l := by
  unfold laws_toInt64S.f
  rw [if_pos (nn_cast _), if_pos (by simp; omega)]
  rw [set_loop (fun k acc i => laws_toInt64S.l0 k l acc i) l (fun x => x) 0 (fun k i hi acc ha _ => ?_) (fun k acc => ?_) k _ (by omega) (by simp)]
  · simp
  · simp only [laws_toInt64S.l0]
    rw [if_pos (lt_cast hi), if_pos (nn_cast i), if_pos (by omega), rd_get hi, wrap_succ hi (by omega)]
    rfl
  · simp only [laws_toInt64S.l0]
    rw [if_neg (nlt_cast _)]
theorem eqInt64S_eq {a b : List Int} (hl : a.length ≤ 1048576) {k : Nat} (hk : 1048600 ≤ k) : laws_eqInt64S.f k a b = some (decide (a = b)) := by
  unfold laws_eqInt64S.f
  by_cases h : a.length = b.length
  · rw [if_pos (by omega)]
    refine eq_loop (fun k i => laws_eqInt64S.l0 k a b i) a b h 0 (fun k i h1 h2 _ => ?_) (fun k => ?_) k (by omega)
    · simp only [laws_eqInt64S.l0]
      rw [if_pos (lt_cast h1), if_pos (nn_cast i), if_pos (lt_cast h2), rd_get h1, rd_get h2, wrap_succ h1 (by omega)]

    · simp only [laws_eqInt64S.l0]
      rw [if_neg (nlt_cast _)]
  · rw [if_neg (by omega)]
    have : a ≠ b := fun e => h (by rw [e])
    simp [this]
def mkInt64S (l : List Int) (m : Int) : List Int := mkl (fun _ m => m) (fun _ => 1) l m
theorem markInt64S_eq {l : List Int} {m : Int} (hm : 0 ≤ m) (hb : m + l.length ≤ 1073741824) {k : Nat} (hk : 200 + l.length ≤ k) : laws_markInt64S.f k l m = some (m + l.length, mkInt64S l m) := by
  unfold laws_markInt64S.f mkInt64S
  have h := mark_loop (fun k l m i => laws_markInt64S.l0 k l m i) (fun _ m => m) (fun _ => 1) 1073741824 100 (fun _ => by omega) (fun k pre x rest m hB hp hm hM => ?_) (fun k l m => ?_) k l m (by omega) (by omega) hm (by rw [mtot_const]; omega)
  · rw [mtot_const] at h
    rw [show m + (l.length : Int) = m + 1 * l.length from by omega]
    exact h
  · simp only [laws_markInt64S.l0]
    rw [if_pos (by simp; omega), if_pos (nn_cast _), set_mid, wrap_id (x := m + 1) (by omega) (by omega), wrap_succ (i := pre.length) (n := pre.length + 1) (by omega) (by omega)]
  · simp only [laws_markInt64S.l0]
    rw [if_neg (nlt_cast _)]
theorem heldInt64S_mk {l : List Int} {m0 : Int} (hm : 0 ≤ m0) (hb : m0 + l.length ≤ 1073741824) {k : Nat} (hk : 200 + l.length ≤ k) : laws_heldInt64S.f k (mkInt64S l m0) m0 = some (m0 + l.length) := by
  unfold laws_heldInt64S.f
  have h := held_loop (fun k m i => laws_heldInt64S.l0 k (mkInt64S l m0) m i) (fun _ m => m) (fun _ => 1) 1073741824 100 (fun _ => by omega) (mkInt64S l m0) (fun k pre x rest m he hB hp hm hM => ?_) (fun k m => ?_) k l m0 rfl (by omega) (by omega) hm (by rw [mtot_const]; omega)
  · rw [mtot_const] at h
    rw [show m0 + (l.length : Int) = m0 + 1 * l.length from by omega]
    exact h
  · simp only [laws_heldInt64S.l0]
    rw [if_pos (by rw [he]; simp; omega), if_pos (nn_cast _), he, rd_mid, if_pos rfl, wrap_id (x := m + 1) (by omega) (by omega), wrap_succ (i := pre.length) (n := pre.length + 1) (by omega) (by omega)]
  · simp only [laws_heldInt64S.l0]
    rw [if_neg (nlt_cast _)]
end Go.Proofs.YtmoamoopoifnlaaGreatDoor.P

/- A melody as text in a script: the reference and the program write the same. -/
namespace Go.Proofs.YtmoamoopoifnlaaGreatDoor.P
open Go.RowKit Go.Proofs.YtmoamoopoifnlaaGreatDoorW.PrintWords Go.Proofs.YtmoamoopoifnlaaGreatDoorL
theorem rdN_get {l : List S67} {i : Nat} (h : i < l.length) : rd_T67 l (i : Int) = l[i] := by
  simp [rd_T67, List.getD_eq_getElem?_getD, List.getElem?_eq_getElem h]
def noteB (x : S67) : Bool := (decide (-12 ≤ x.f0) && decide (x.f0 ≤ 23)) && (decide (1 ≤ x.f1) && decide (x.f1 ≤ 64))
def melB (l : List S67) : Bool := l.all noteB && decide (l.length ≤ 48)
theorem ValidMelody_eq {l : List S67} {k : Nat} (hk : 100 ≤ k) : impl_ValidMelody.f k l = some (melB l) := by
  unfold impl_ValidMelody.f melB
  by_cases hl : l.length ≤ 48
  rotate_left
  · rw [if_pos (by omega), decide_eq_false hl, Bool.and_false]
  rw [if_neg (by omega), decide_eq_true hl, Bool.and_true]
  refine list_loop0 (fun k i => impl_ValidMelody.l0 k l (l.length : Int) i) l (fun r => r.all noteB) 0 (fun k i hi _ => ?_) (fun k => ?_) k (by omega)
  · simp only [impl_ValidMelody.l0]
    rw [if_pos (lt_cast hi), if_pos (nn_cast i), if_pos (lt_cast hi), rdN_get hi, wrap_succ hi (by omega)]
    unfold impl_pitchOk.f impl_lengthOk.f
    rw [within_eq, within_eq]; simp only [Option.bind_some]
    rw [List.all_cons]
    change _ = some (((decide (-12 ≤ l[i].f0) && decide (l[i].f0 ≤ 23)) && (decide (1 ≤ l[i].f1) && decide (l[i].f1 ≤ 64))) && _) ∨ (((((decide (-12 ≤ l[i].f0) && decide (l[i].f0 ≤ 23)) && (decide (1 ≤ l[i].f1) && decide (l[i].f1 ≤ 64))) && _) = _) ∧ _)
    cases (decide (-12 ≤ l[i].f0) && decide (l[i].f0 ≤ 23))
    · left; rfl
    · cases (decide (1 ≤ l[i].f1) && decide (l[i].f1 ≤ 64))
      · left; rfl
      · right; exact ⟨rfl, rfl⟩
  · simp only [impl_ValidMelody.l0]
    rw [if_neg (nlt_cast _)]; rfl
theorem l09Ok_eq {l : List S67} (hl : l.length ≤ 2000000) {k : Nat} (hk : l.length + 100 ≤ k) : spec_l09Ok.f k l = some (melB l) := by
  unfold spec_l09Ok.f melB
  refine list_loop0 (fun k i => spec_l09Ok.l0 k l i) l (fun r => r.all noteB && decide (l.length ≤ 48)) 0 (fun k i hi _ => ?_) (fun k => ?_) k (by omega)
  · simp only [spec_l09Ok.l0]
    rw [if_pos (lt_cast hi), if_pos (nn_cast i), rdN_get hi, wrap_succ hi (by omega)]
    unfold spec_l03Pitch.f spec_l09Length.f
    rw [in_eq, in_eq]; simp only [Option.bind_some]
    rw [List.all_cons]
    change _ = some ((((decide (-12 ≤ l[i].f0) && decide (l[i].f0 ≤ 23)) && (decide (1 ≤ l[i].f1) && decide (l[i].f1 ≤ 64))) && _) && _) ∨ ((((((decide (-12 ≤ l[i].f0) && decide (l[i].f0 ≤ 23)) && (decide (1 ≤ l[i].f1) && decide (l[i].f1 ≤ 64))) && _) && _) = _) ∧ _)
    cases (decide (-12 ≤ l[i].f0) && decide (l[i].f0 ≤ 23))
    · left; rfl
    · cases (decide (1 ≤ l[i].f1) && decide (l[i].f1 ≤ 64))
      · left; rfl
      · right; exact ⟨rfl, rfl⟩
  · simp only [spec_l09Ok.l0]
    rw [if_neg (nlt_cast _)]
    simp
    omega
def okNote (x : S67) : Prop := (-12 ≤ x.f0 ∧ x.f0 ≤ 23) ∧ -1000000000000 ≤ x.f1 ∧ x.f1 ≤ 1000000000000
theorem melB_ok {l : List S67} (h : melB l = true) : l.length ≤ 48 ∧ ∀ x ∈ l, okNote x := by
  unfold melB at h
  rw [Bool.and_eq_true, decide_eq_true_iff] at h
  refine ⟨h.2, fun x hx => ?_⟩
  have := List.all_eq_true.1 h.1 x hx
  unfold noteB at this
  rw [Bool.and_eq_true, Bool.and_eq_true, Bool.and_eq_true, decide_eq_true_iff, decide_eq_true_iff, decide_eq_true_iff, decide_eq_true_iff] at this
  unfold okNote
  omega
def noteT (s k : Int) (x : S67) : ByteArray := (pt s k x.f0 ++ (⟨#[58]⟩ : ByteArray)) ++ impl_Decimal.t x.f1
theorem noteT_size {s k : Int} (h : keyB s k = true) {x : S67} (hx : okNote x) : (noteT s k x).size ≤ 60 := by
  have h1 := pt_size h hx.1.1 hx.1.2
  have h2 := Decimal_size (n := x.f1) (by have := hx.2.1; omega) (by have := hx.2.2; omega)
  have e1 : (⟨#[58]⟩ : ByteArray).size = 1 := rfl
  unfold noteT
  rw [ByteArray.size_append, ByteArray.size_append]; omega
theorem notes_size {s k : Int} (h : keyB s k = true) {l : List S67} (hb : ∀ x ∈ l, okNote x) : ∀ x ∈ l.map (noteT s k), x.size ≤ 99 := by
  intro x hx
  obtain ⟨y, hy, rfl⟩ := List.mem_map.1 hx
  have := noteT_size h (hb y hy)
  omega
theorem notesIn_l0 {s k : Int} (h : keyB s k = true) {l : List S67} (hl : l.length ≤ 48) (hb : ∀ x ∈ l, okNote x) : ∀ (d K i : Nat), i + d = l.length → d + 1 ≤ K → impl_notesIn.l0 K s k ((l.take i).map (noteT s k)) l (l.length : Int) (i : Int) = some (joinT (l.map (noteT s k))) := by
  intro d
  induction d with
  | zero =>
    intro K i hi hK
    obtain ⟨K, rfl⟩ : ∃ m, K = m + 1 := ⟨K - 1, by omega⟩
    simp only [impl_notesIn.l0]
    rw [if_neg (by omega), List.take_of_length_le (by omega), Join_eq (by rw [List.length_map]; omega) (notes_size h hb)]; rfl
  | succ d ih =>
    intro K i hi hK
    obtain ⟨K, rfl⟩ : ∃ m, K = m + 1 := ⟨K - 1, by omega⟩
    have hlt : i < l.length := by omega
    have hx := hb l[i] (List.getElem_mem hlt)
    obtain ⟨⟨x1, x2⟩, x3, x4⟩ := hx
    have hz := pt_size h (p := l[i].f0) x1 x2
    have hd := Decimal_size (n := l[i].f1) (by omega) (by omega)
    have e1 : (⟨#[58]⟩ : ByteArray).size = 1 := rfl
    simp only [impl_notesIn.l0]
    rw [if_pos (lt_cast hlt), if_pos (nn_cast i), if_pos (lt_cast hlt), rdN_get hlt, pitchIn_eq h x1 x2]
    simp only [Option.bind_some]
    rw [if_pos (by omega), Decimal_eq (by omega) (by omega)]
    simp only [Option.bind_some]
    rw [if_pos (by rw [ByteArray.size_append]; omega), if_pos (by rw [List.length_map, List.length_take]; omega), wrap_succ hlt (by omega)]
    have e : (l.take i).map (noteT s k) ++ [(pt s k l[i].f0 ++ (⟨#[58]⟩ : ByteArray)) ++ impl_Decimal.t l[i].f1] = (l.take (i + 1)).map (noteT s k) := by
      rw [List.take_add_one, List.getElem?_eq_getElem hlt, List.map_append]; rfl
    rw [e]
    exact ih K (i + 1) (by omega) (by omega)
theorem notesIn_eq {s k : Int} (h : keyB s k = true) {l : List S67} (hl : l.length ≤ 48) (hb : ∀ x ∈ l, okNote x) {K : Nat} (hK : 100 ≤ K) : impl_notesIn.f K s k l = some (joinT (l.map (noteT s k))) :=
  notesIn_l0 h hl hb l.length K 0 (by omega) (by omega)
theorem l26Notes_l0 {s k : Int} (h : keyB s k = true) {l : List S67} (hl : l.length ≤ 48) (hb : ∀ x ∈ l, okNote x) : ∀ (d K i : Nat) (acc : ByteArray), i + d = l.length → 0 < i → acc.size ≤ 100 * i → d + 2100 ≤ K → spec_l26Notes.l0 K s k l acc (i : Int) = some (catS acc ((l.drop i).map (noteT s k))) := by
  intro d
  induction d with
  | zero =>
    intro K i acc hi h0 ha hK
    obtain ⟨K, rfl⟩ : ∃ m, K = m + 1 := ⟨K - 1, by omega⟩
    simp only [spec_l26Notes.l0]
    rw [if_neg (by omega), List.drop_eq_nil_of_le (by omega)]; rfl
  | succ d ih =>
    intro K i acc hi h0 ha hK
    obtain ⟨K, rfl⟩ : ∃ m, K = m + 1 := ⟨K - 1, by omega⟩
    have hlt : i < l.length := by omega
    have hx := hb l[i] (List.getElem_mem hlt)
    have hs := noteT_size h hx
    obtain ⟨⟨x1, x2⟩, x3, x4⟩ := hx
    have hz := pt_size h (p := l[i].f0) x1 x2
    have hd := Decimal_size (n := l[i].f1) (by omega) (by omega)
    have e1 : (⟨#[58]⟩ : ByteArray).size = 1 := rfl
    have e3 : (⟨#[32]⟩ : ByteArray).size = 1 := rfl
    simp only [spec_l26Notes.l0]
    rw [if_pos (lt_cast hlt), if_pos (by omega), if_pos (by omega), if_pos (nn_cast i), rdN_get hlt, l26Pitch_eq h x1 x2 (by omega)]
    simp only [Option.bind_some]
    rw [if_pos (by omega), l01Dec_eq (by omega) (by omega) (by omega)]
    simp only [Option.bind_some]
    rw [if_pos (by rw [ByteArray.size_append]; omega)]
    change (if (acc ++ (⟨#[32]⟩ : ByteArray)).size + (noteT s k l[i]).size ≤ 9223372036854775807 then spec_l26Notes.l0 K s k l ((acc ++ (⟨#[32]⟩ : ByteArray)) ++ noteT s k l[i]) (wrap64 ((i : Int) + 1)) else none) = _
    rw [if_pos (by rw [ByteArray.size_append]; omega), wrap_succ hlt (by omega), ih K (i + 1) _ (by omega) (by omega) (by rw [ByteArray.size_append, ByteArray.size_append]; omega) (by omega), List.drop_eq_getElem_cons hlt, List.map_cons, catS_snoc]
theorem l26Notes_eq {s k : Int} (h : keyB s k = true) {l : List S67} (hl : l.length ≤ 48) (hb : ∀ x ∈ l, okNote x) {K : Nat} (hK : 3000 ≤ K) : spec_l26Notes.f K s k l = some (joinT (l.map (noteT s k))) := by
  unfold spec_l26Notes.f
  obtain ⟨K, rfl⟩ : ∃ m, K = m + 1 := ⟨K - 1, by omega⟩
  cases l with
  | nil => simp only [spec_l26Notes.l0]; rfl
  | cons x r =>
    have hx := hb x List.mem_cons_self
    have hs := noteT_size h hx
    obtain ⟨⟨x1, x2⟩, x3, x4⟩ := hx
    have hz := pt_size h (p := x.f0) x1 x2
    have hd := Decimal_size (n := x.f1) (by omega) (by omega)
    have e1 : (⟨#[58]⟩ : ByteArray).size = 1 := rfl
    have h0 : (0 : Int) < (((x :: r).length : Nat) : Int) := by rw [List.length_cons]; omega
    have e0 : (⟨#[]⟩ : ByteArray).size = 0 := rfl
    have e2 : rd_T67 (x :: r) 0 = x := rfl
    have hw : wrap64 (0 + 1) = ((1 : Nat) : Int) := by rw [wrap_id (by omega) (by omega)]; rfl
    simp only [spec_l26Notes.l0]
    rw [if_pos h0, if_neg (by omega), if_pos (Int.le_refl 0), e2, l26Pitch_eq h x1 x2 (by omega)]
    simp only [Option.bind_some]
    rw [if_pos (by omega), l01Dec_eq (by omega) (by omega) (by omega)]
    simp only [Option.bind_some]
    rw [if_pos (by rw [ByteArray.size_append]; omega)]
    change (if (⟨#[]⟩ : ByteArray).size + (noteT s k x).size ≤ 9223372036854775807 then spec_l26Notes.l0 K s k (x :: r) ((⟨#[]⟩ : ByteArray) ++ noteT s k x) (wrap64 (0 + 1)) else none) = _
    rw [if_pos (by omega), bnil, hw, l26Notes_l0 h hl hb r.length K 1 _ (by rw [List.length_cons]; omega) (by omega) (by omega) (by rw [List.length_cons] at hl; omega)]
    rfl
end Go.Proofs.YtmoamoopoifnlaaGreatDoor.P

/- The pitch that is written so: both look through all pitches, from the least. -/
namespace Go.Proofs.YtmoamoopoifnlaaGreatDoor.P
open Go.RowKit Go.Proofs.YtmoamoopoifnlaaGreatDoorW.PrintWords Go.Proofs.YtmoamoopoifnlaaGreatDoorL
def readL (s k : Int) (a : ByteArray) : Nat → Int → Int × Bool
  | 0, _ => (0, false)
  | n + 1, p => if (pt s k p).toList = a.toList then (p, true) else readL s k a n (p + 1)
def readPt (s k : Int) (a : ByteArray) : Int × Bool := readL s k a 36 (-12)
theorem readPitch_lst {s k : Int} (a : ByteArray) (h : keyB s k = true) : ∀ (n : Nat) (p : Int), -12 ≤ p → p + n = 24 → impl_readPitchIn.lst (impl_readPitchIn.q s k a) n p = some (readL s k a n p) := by
  intro n
  induction n with
  | zero => intro p _ _; rfl
  | succ n ih =>
    intro p h0 h1
    simp only [impl_readPitchIn.lst, readL, impl_readPitchIn.q]
    rw [pitchIn_eq h h0 (by omega)]
    simp only [Option.bind_some]
    by_cases he : (pt s k p).toList = a.toList
    · rw [if_pos (beq_iff_eq.2 he), if_pos he]
    · rw [if_neg (fun e => he (beq_iff_eq.1 e)), if_neg he]
      exact ih (p + 1) (by omega) (by omega)
theorem readPitchIn_eq {s k : Int} (a : ByteArray) (h : keyB s k = true) : impl_readPitchIn.f s k a = some (readPt s k a) := readPitch_lst a h 36 (-12) (by omega) (by omega)
theorem readPitch_l0 {s k : Int} (a : ByteArray) (h : keyB s k = true) : ∀ (n : Nat) (p : Int) (K : Nat), -12 ≤ p → p + n = 24 → n + 2100 ≤ K → spec_l26ReadPitch.l0 K s k a p = some (readL s k a n p) := by
  intro n
  induction n with
  | zero =>
    intro p K h0 h1 hK
    obtain ⟨K, rfl⟩ : ∃ m, K = m + 1 := ⟨K - 1, by omega⟩
    simp only [spec_l26ReadPitch.l0, readL]
    rw [if_neg (by omega)]
  | succ n ih =>
    intro p K h0 h1 hK
    obtain ⟨K, rfl⟩ : ∃ m, K = m + 1 := ⟨K - 1, by omega⟩
    simp only [spec_l26ReadPitch.l0, readL]
    rw [if_pos (by omega), l26Pitch_eq h h0 (by omega) (by omega)]
    simp only [Option.bind_some]
    by_cases he : (pt s k p).toList = a.toList
    · rw [if_pos he, if_pos he]
    · rw [if_neg he, if_neg he, wrap_id (by omega) (by omega), ih (p + 1) K (by omega) (by omega) (by omega)]
theorem l26ReadPitch_eq {s k : Int} (a : ByteArray) (h : keyB s k = true) {K : Nat} (hK : 2200 ≤ K) : spec_l26ReadPitch.f K s k a = some (readPt s k a) := readPitch_l0 a h 36 (-12) K (by omega) (by omega) (by omega)
/-- A pitch that is read lies within the pitches. -/
theorem readL_bounds {s k : Int} {a : ByteArray} : ∀ (n : Nat) (p : Int), (readL s k a n p).2 = true → p ≤ (readL s k a n p).1 ∧ (readL s k a n p).1 < p + n ∧ (pt s k (readL s k a n p).1).toList = a.toList := by
  intro n
  induction n with
  | zero => intro p h; simp [readL] at h
  | succ n ih =>
    intro p h
    simp only [readL] at h ⊢
    by_cases he : (pt s k p).toList = a.toList
    · rw [if_pos he] at h ⊢; exact ⟨by simp, by simp; omega, he⟩
    · rw [if_neg he] at h ⊢
      obtain ⟨h1, h2, h3⟩ := ih (p + 1) h
      exact ⟨by omega, by omega, h3⟩
theorem readPt_bounds {s k : Int} {a : ByteArray} (h : (readPt s k a).2 = true) : -12 ≤ (readPt s k a).1 ∧ (readPt s k a).1 ≤ 23 := by
  have := readL_bounds 36 (-12) h
  exact ⟨this.1, by have := this.2.1; unfold readPt; omega⟩
end Go.Proofs.YtmoamoopoifnlaaGreatDoor.P

/- A number read from decimal text: the reference's reader and the program's take the same texts, and to the same numbers. -/
namespace Go.Proofs.YtmoamoopoifnlaaGreatDoor.P
open Go.RowKit Go.Proofs.YtmoamoopoifnlaaGreatDoorW.PrintWords Go.Proofs.YtmoamoopoifnlaaGreatDoorL
def digB (c : UInt8) : Bool := decide (48 ≤ c.toNat) && decide (c.toNat ≤ 57)
def valD (acc : Nat) (d : List UInt8) : Nat := d.foldl (fun a c => a * 10 + (c.toNat - 48)) acc
def okN (neg : Bool) (d : List UInt8) : Bool := decide (1 ≤ d.length) && decide (d.length ≤ 18) && (decide (d.head? ≠ some 48) || (!neg && decide (d.length = 1))) && d.all digB
def sgn (neg : Bool) (n : Nat) : Int := if neg = true then -(n : Int) else (n : Int)
def numN (neg : Bool) (d : List UInt8) : Option Int := if okN neg d = true then some (sgn neg (valD 0 d)) else none
def numV (s : List UInt8) : Option Int := if s.head? = some 45 then numN true (s.drop 1) else numN false s
def pairN : Option Int → Int × Bool | some n => (n, true) | none => (0, false)
theorem digB_iff {c : UInt8} : digB c = true ↔ 48 ≤ c.toNat ∧ c.toNat ≤ 57 := by
  unfold digB
  rw [Bool.and_eq_true, decide_eq_true_iff, decide_eq_true_iff]
theorem valD_cons (acc : Nat) (c : UInt8) (r : List UInt8) : valD acc (c :: r) = valD (acc * 10 + (c.toNat - 48)) r := by
  unfold valD; rw [List.foldl_cons]
theorem valD_ge : ∀ (d : List UInt8) (acc : Nat), acc ≤ valD acc d
  | [], _ => Nat.le_refl _
  | c :: r, acc => by rw [valD_cons]; have := valD_ge r (acc * 10 + (c.toNat - 48)); omega
theorem valD_lt : ∀ (d : List UInt8) (acc j : Nat), d.all digB = true → acc < 10 ^ j → valD acc d < 10 ^ (j + d.length)
  | [], acc, j, _, h => h
  | c :: r, acc, j, ha, h => by
    rw [List.all_cons, Bool.and_eq_true, digB_iff] at ha
    have := valD_lt r (acc * 10 + (c.toNat - 48)) (j + 1) ha.2 (by rw [Nat.pow_succ]; omega)
    rw [valD_cons, List.length_cons, show j + (r.length + 1) = j + 1 + r.length by omega]; exact this
theorem pow17 {j : Nat} (h : j ≤ 17) : 10 ^ j ≤ 100000000000000000 := Nat.le_trans (Nat.pow_le_pow_right (by decide) h) (by decide)
theorem bt_drop {s : ByteArray} {i : Nat} {c : UInt8} {r : List UInt8} (h : s.data.toList.drop i = c :: r) : bt s (i : Int) = (c.toNat : Int) := by
  have hl : i < s.size := by
    have := congrArg List.length h
    rw [List.length_drop, List.length_cons, ← Lib.size_eq] at this; omega
  have e : s.data.toList[i]? = some c := by
    have := List.getElem?_drop (xs := s.data.toList) (i := i) (j := 0)
    rw [h] at this; simpa using this.symm
  rw [Lib.data_getElem? s i hl] at e
  have e' := Option.some.inj e
  have hi : ((i : Int)).toNat = i := by omega
  unfold bt
  rw [dif_pos (by omega)]
  simp only [hi]
  rw [e']
theorem Digit_eq (c : UInt8) : spec_l01Digit.f (c.toNat : Int) = some (digB c) := by
  unfold spec_l01Digit.f digB
  by_cases h : (c.toNat : Int) ≥ 48
  · rw [if_pos h]
    have h1 : 48 ≤ c.toNat := by omega
    by_cases h2 : c.toNat ≤ 57
    · have h3 : (c.toNat : Int) ≤ 57 := by omega
      simp [h1, h2, h3]
    · have h3 : ¬ (c.toNat : Int) ≤ 57 := by omega
      simp [h1, h2, h3]
  · rw [if_neg h]
    have h1 : ¬ 48 ≤ c.toNat := by omega
    simp [h1]
theorem Num_l0 (s : ByteArray) (neg : Bool) (hs : s.size ≤ 1048576) : ∀ (d k i acc j : Nat), i + d = s.size → acc < 10 ^ j → j + d ≤ 18 → d + 1 ≤ k →
    spec_l01Number.l0 k s (if neg = true then 1 else 0) (acc : Int) (i : Int) = some (if (s.data.toList.drop i).all digB = true then (sgn neg (valD acc (s.data.toList.drop i)), true) else (0, false)) := by
  intro d
  induction d with
  | zero =>
    intro k i acc j hi ha hj hk
    obtain ⟨k, rfl⟩ : ∃ m, k = m + 1 := ⟨k - 1, by omega⟩
    have hd : s.data.toList.drop i = [] := List.drop_eq_nil_of_le (by rw [← Lib.size_eq]; omega)
    have := pow17 (j := 17) (by omega)
    have hlt : acc < 1000000000000000000 := Nat.lt_of_lt_of_le ha (Nat.le_trans (Nat.pow_le_pow_right (by decide) (show j ≤ 18 by omega)) (by decide))
    simp only [spec_l01Number.l0]
    rw [if_neg (by omega), hd]
    cases neg
    · simp [sgn, valD]
    · simp [sgn, valD, wrap_id (x := -(acc : Int)) (by omega) (by omega)]
  | succ d ih =>
    intro k i acc j hi ha hj hk
    obtain ⟨k, rfl⟩ : ∃ m, k = m + 1 := ⟨k - 1, by omega⟩
    have hlt : i < s.data.toList.length := by rw [← Lib.size_eq]; omega
    obtain ⟨c, r, hd⟩ : ∃ c r, s.data.toList.drop i = c :: r := ⟨_, _, List.drop_eq_getElem_cons hlt⟩
    have hr : s.data.toList.drop (i + 1) = r := by
      rw [← List.drop_drop, hd]; rfl
    have hp := pow17 (j := j) (by omega)
    simp only [spec_l01Number.l0]
    rw [if_pos (by omega), if_pos (nn_cast i), bt_drop hd, Digit_eq, hd, List.all_cons]
    simp only [Option.bind_some]
    by_cases hc : digB c = true
    · rw [if_pos hc, hc, Bool.true_and]
      rw [digB_iff] at hc
      have e1 : wrap64 (wrap64 (10 * (acc : Int)) + ((c.toNat : Int) - 48) % 256) = ((acc * 10 + (c.toNat - 48) : Nat) : Int) := by
        rw [wrap_id (x := 10 * (acc : Int)) (by omega) (by omega), wrap_id (by omega) (by omega)]; omega
      have e2 : wrap64 ((i : Int) + 1) = ((i + 1 : Nat) : Int) := by rw [wrap_id (by omega) (by omega)]; omega
      rw [e1, e2, ih k (i + 1) _ (j + 1) (by omega) (by rw [Nat.pow_succ]; omega) (by omega) (by omega), hr, valD_cons]
    · rw [if_neg hc]
      rw [Bool.not_eq_true] at hc
      simp [hc]
theorem Num_j1 (s : ByteArray) (neg : Bool) (x4 : Nat) (hx : x4 = if neg = true then 1 else 0) (hle : x4 ≤ s.size) (hs : s.size ≤ 1048576) {k : Nat} (hk : 50 ≤ k) :
    spec_l01Number.j1 k s (x4 : Int) = some (pairN (numN neg (s.data.toList.drop x4))) := by
  obtain ⟨k, rfl⟩ : ∃ m, k = m + 2 := ⟨k - 2, by omega⟩
  have hd : (s.data.toList.drop x4).length = s.size - x4 := by rw [List.length_drop, ← Lib.size_eq]
  have j2t : spec_l01Number.j2 (k + 1) s (x4 : Int) true = some (0, false) := by simp only [spec_l01Number.j2]; rw [if_pos trivial]
  have j2f : s.size - x4 ≤ 18 → spec_l01Number.j2 (k + 1) s (x4 : Int) false = some (if (s.data.toList.drop x4).all digB = true then (sgn neg (valD 0 (s.data.toList.drop x4)), true) else (0, false)) := fun h18 => by
    have := Num_l0 s neg hs (s.size - x4) k x4 0 0 (by omega) (by decide) (by omega) (by omega)
    have e : ((if neg = true then 1 else 0 : Int)) = (x4 : Int) := by rw [hx]; cases neg <;> rfl
    rw [e] at this
    simp only [spec_l01Number.j2]
    rw [if_neg (by decide)]
    exact this
  show spec_l01Number.j1 (k + 1 + 1) s (x4 : Int) = _
  simp only [spec_l01Number.j1]
  unfold numN okN
  by_cases h1 : (s.size : Int) = (x4 : Int)
  · rw [if_pos h1, j2t, hd, show s.size - x4 = 0 by omega]; rfl
  rw [if_neg h1, wrap_id (by omega) (by omega)]
  by_cases h2 : (s.size : Int) - (x4 : Int) > 18
  · have h3 : ¬ s.size - x4 ≤ 18 := by omega
    rw [if_pos h2, j2t, hd, decide_eq_false h3]; simp [pairN]
  have hlt : x4 < s.data.toList.length := by rw [← Lib.size_eq]; omega
  rw [if_neg h2, if_pos (nn_cast x4), if_pos (by omega), hd]
  obtain ⟨c, r, hc⟩ : ∃ c r, s.data.toList.drop x4 = c :: r := ⟨_, _, List.drop_eq_getElem_cons hlt⟩
  have h18 : s.size - x4 ≤ 18 := by omega
  have h1' : 1 ≤ s.size - x4 := by omega
  rw [bt_drop hc]
  have key : ∀ b : Bool, (b = (decide ((s.data.toList.drop x4).head? ≠ some 48) || (!neg && decide (s.size - x4 = 1)))) → (if b = true then spec_l01Number.j2 (k + 1) s (x4 : Int) false else spec_l01Number.j2 (k + 1) s (x4 : Int) true) = some (pairN (if (decide (1 ≤ s.size - x4) && decide (s.size - x4 ≤ 18) && (decide ((s.data.toList.drop x4).head? ≠ some 48) || (!neg && decide (s.size - x4 = 1))) && (s.data.toList.drop x4).all digB) = true then some (sgn neg (valD 0 (s.data.toList.drop x4))) else none)) := by
    intro b hb
    rw [← hb, decide_eq_true h1', decide_eq_true h18]
    cases b
    · rw [if_neg (by decide), j2t]; rfl
    · rw [if_pos rfl, j2f h18]
      cases (s.data.toList.drop x4).all digB <;> rfl
  by_cases h48 : (c.toNat : Int) = 48
  · have hc48 : c = 48 := UInt8.toNat_inj.1 (by rw [show c.toNat = 48 by omega]; rfl)
    rw [if_pos h48]
    have hh : decide ((s.data.toList.drop x4).head? ≠ some 48) = false := by rw [hc, hc48]; rfl
    have := key (!decide ((s.size : Int) > 1)) (by
      rw [hh, Bool.false_or]
      cases neg
      · have : x4 = 0 := hx
        subst this
        by_cases hz : s.size = 1
        · simp [hz]
        · have : (s.size : Int) > 1 := by omega
          simp [hz, this]
      · have : x4 = 1 := hx
        subst this
        have : (s.size : Int) > 1 := by omega
        simp [this])
    rw [← this]
    cases decide ((s.size : Int) > 1) <;> rfl
  · rw [if_neg h48]
    have hh : decide ((s.data.toList.drop x4).head? ≠ some 48) = true := by
      rw [hc]; refine decide_eq_true ?_
      intro e; apply h48; rw [show c = 48 from Option.some.inj e]; rfl
    have := key true (by rw [hh, Bool.true_or])
    rw [← this]; rfl
theorem Number_eq (s : ByteArray) (hs : s.size ≤ 1048576) {k : Nat} (hk : 60 ≤ k) : spec_l01Number.f k s = some (pairN (numV s.data.toList)) := by
  obtain ⟨k, rfl⟩ : ∃ m, k = m + 1 := ⟨k - 1, by omega⟩
  unfold spec_l01Number.f numV
  by_cases h0 : (s.size : Int) > 0
  · have hlt : 0 < s.data.toList.length := by rw [← Lib.size_eq]; omega
    obtain ⟨c, r, hc⟩ : ∃ c r, s.data.toList.drop 0 = c :: r := ⟨_, _, List.drop_eq_getElem_cons hlt⟩
    rw [if_pos h0, if_pos (by omega), show (0 : Int) = ((0 : Nat) : Int) from rfl, bt_drop hc]
    rw [List.drop_zero] at hc
    have hh : s.data.toList.head? = some c := by rw [hc]; rfl
    rw [hh]
    simp only [spec_l01Number.j0]
    by_cases h45 : c = 45
    · subst h45
      rw [if_pos (by decide), if_pos rfl]
      exact Num_j1 s true 1 rfl (by omega) hs (by omega)
    · have : ¬ ((((c.toNat : Nat) : Int)) == 45) = true := by
        intro e; apply h45; exact UInt8.toNat_inj.1 (by have := beq_iff_eq.1 e; rw [show c.toNat = 45 by omega]; rfl)
      rw [if_neg this, if_neg (fun e => h45 (Option.some.inj e))]
      have := Num_j1 s false 0 rfl (by omega) hs (k := k) (by omega)
      rw [List.drop_zero] at this; exact this
  · have hz : s.size = 0 := by omega
    have hn : s.data.toList = [] := List.eq_nil_of_length_eq_zero (by rw [← Lib.size_eq]; exact hz)
    rw [if_neg h0, hn]
    simp only [spec_l01Number.j0]
    rw [if_neg (by decide)]
    have := Num_j1 s false 0 rfl (by omega) hs (k := k) (by omega)
    rw [List.drop_zero, hn] at this; exact this
theorem valD_snoc (l : List UInt8) (b : UInt8) : valD 0 (l ++ [b]) = valD 0 l * 10 + (b.toNat - 48) := by unfold valD; rw [List.foldl_append]; rfl
theorem valD_pos {d : List UInt8} (h0 : d ≠ []) (ha : d.all digB = true) (h : d.head? ≠ some 48) : 1 ≤ valD 0 d := by
  cases d with
  | nil => exact absurd rfl h0
  | cons c r =>
    rw [List.all_cons, Bool.and_eq_true, digB_iff] at ha
    have hc : c.toNat ≠ 48 := fun e => h (by rw [List.head?_cons]; congr 1; exact UInt8.toNat_inj.1 (by rw [e]; rfl))
    have := valD_ge r (0 * 10 + (c.toNat - 48))
    rw [valD_cons]; omega
theorem dec_val : ∀ (n : Nat) (d : List UInt8), d.length ≤ n → d ≠ [] → d.all digB = true → (d.head? ≠ some 48 ∨ d.length = 1) → Lib.decDigits (valD 0 d) = d := by
  intro n
  induction n with
  | zero => intro d h h0; exact absurd (List.eq_nil_of_length_eq_zero (by omega)) h0
  | succ n ih =>
    intro d h h0 ha hh
    rcases List.eq_nil_or_concat d with rfl | ⟨l, b, rfl⟩
    · exact absurd rfl h0
    rw [List.concat_eq_append] at h ha hh ⊢
    rw [List.all_append, Bool.and_eq_true, List.all_cons, Bool.and_eq_true, digB_iff] at ha
    have hb := ha.2.1
    have eb : UInt8.ofNat (48 + (b.toNat - 48)) = b := by rw [show 48 + (b.toNat - 48) = b.toNat by omega]; exact UInt8.ofNat_toNat
    rw [valD_snoc, Lib.decDigits]
    cases l with
    | nil =>
      rw [dif_pos (by show 0 * 10 + _ < 10; omega)]
      show [UInt8.ofNat (48 + (0 * 10 + (b.toNat - 48)))] = _
      rw [Nat.zero_mul, Nat.zero_add, eb]; rfl
    | cons c r =>
      have h48 : (c :: r).head? ≠ some 48 := by
        rcases hh with hh | hh
        · simpa using hh
        · simp at hh
      have hp := valD_pos (by simp) ha.1 h48
      rw [dif_neg (by omega), show (valD 0 (c :: r) * 10 + (b.toNat - 48)) / 10 = valD 0 (c :: r) by omega, show (valD 0 (c :: r) * 10 + (b.toNat - 48)) % 10 = b.toNat - 48 by omega, eb]
      rw [ih (c :: r) (by simp at h ⊢; omega) (by simp) ha.1 (Or.inl h48)]
theorem toNat_dig {u : Nat} (h : u < 10) : (UInt8.ofNat (48 + u)).toNat = 48 + u := by
  rw [UInt8.toNat_ofNat']; omega
theorem dec_spec : ∀ (n u : Nat), u ≤ n → Lib.decDigits u ≠ [] ∧ (Lib.decDigits u).all digB = true ∧ valD 0 (Lib.decDigits u) = u ∧ (u ≠ 0 → (Lib.decDigits u).head? ≠ some 48) ∧ (u = 0 → (Lib.decDigits u).length = 1) := by
  intro n
  induction n with
  | zero =>
    intro u h
    obtain rfl : u = 0 := by omega
    rw [Lib.decDigits_one (by decide)]
    exact ⟨by simp, by decide, by decide, fun h => absurd rfl h, fun _ => rfl⟩
  | succ n ih =>
    intro u h
    rw [Lib.decDigits]
    by_cases h10 : u < 10
    · rw [dif_pos h10]
      have e := toNat_dig h10
      refine ⟨by simp, ?_, ?_, ?_, fun _ => rfl⟩
      · rw [List.all_cons, Bool.and_eq_true, digB_iff, e]; exact ⟨by omega, rfl⟩
      · rw [valD_cons, e]; show 0 * 10 + (48 + u - 48) = u; omega
      · intro h0 e2
        rw [List.head?_cons] at e2
        have := congrArg UInt8.toNat (Option.some.inj e2)
        rw [e] at this
        have e48 : (48 : UInt8).toNat = 48 := rfl
        omega
    · rw [dif_neg h10]
      obtain ⟨i1, i2, i3, i4, _⟩ := ih (u / 10) (by omega)
      have e := toNat_dig (u := u % 10) (by omega)
      refine ⟨by simp, ?_, ?_, ?_, fun h0 => by omega⟩
      · rw [List.all_append, i2, List.all_cons, Bool.true_and, Bool.and_eq_true, digB_iff, e]; exact ⟨by omega, rfl⟩
      · rw [valD_snoc, i3, e]; omega
      · intro _
        have := i4 (by omega)
        revert this i1
        generalize Lib.decDigits (u / 10) = l
        intro i1 i4
        cases l with
        | nil => exact absurd rfl i1
        | cons c r => simpa using i4
theorem parseM : ∀ (d : List UInt8) (acc j : Nat), d.all digB = true → acc < 10 ^ j → j + d.length ≤ 18 → Lib.parseUintM (2 ^ 64 - 1) acc d = .ok (valD acc d)
  | [], acc, j, _, _, _ => rfl
  | c :: r, acc, j, ha, hj, hl => by
    rw [List.all_cons, Bool.and_eq_true, digB_iff] at ha
    rw [List.length_cons] at hl
    have hp := pow17 (j := j) (by omega)
    rw [Lib.parseUintM, if_pos ha.1, if_neg (by omega), if_neg (by omega), valD_cons]
    exact parseM r _ (j + 1) ha.2 (by rw [Nat.pow_succ]; omega) (by omega)
theorem okN_iff {neg : Bool} {d : List UInt8} : okN neg d = true ↔ (1 ≤ d.length ∧ d.length ≤ 18) ∧ (d.head? ≠ some 48 ∨ (neg = false ∧ d.length = 1)) ∧ d.all digB = true := by
  unfold okN
  simp only [Bool.and_eq_true, Bool.or_eq_true, decide_eq_true_iff, Bool.not_eq_true', and_assoc]
theorem parseU {neg : Bool} {d : List UInt8} (h : okN neg d = true) : Lib.parseUintB 64 d = .ok (valD 0 d) ∧ valD 0 d < 1000000000000000000 := by
  obtain ⟨⟨h1, h2⟩, _, h3⟩ := okN_iff.1 h
  unfold Lib.parseUintB
  rw [if_neg (by intro e; rw [e] at h1; simp at h1)]
  refine ⟨parseM d 0 0 h3 (by decide) (by omega), ?_⟩
  have := valD_lt d 0 0 h3 (by decide)
  exact Nat.lt_of_lt_of_le this (Nat.le_trans (Nat.pow_le_pow_right (by decide) (show 0 + d.length ≤ 18 by omega)) (by decide))
theorem dec_list (n : Int) : (impl_Decimal.t n).data.toList = Lib.itoa n := by unfold impl_Decimal.t; simp
theorem trim_minus (r : List UInt8) : Lib.trimPrefix (45 :: r) [45] = r := by
  unfold Lib.trimPrefix Lib.hasPrefix
  rw [if_pos (by simp [List.isPrefixOf])]; rfl
theorem trim_other {c : UInt8} (r : List UInt8) (h : c ≠ 45) : Lib.trimPrefix (c :: r) [45] = c :: r := by
  unfold Lib.trimPrefix Lib.hasPrefix
  rw [if_neg (by simp [List.isPrefixOf]; exact fun e => h e.symm)]
theorem num_itoa {s : List UInt8} {n : Int} (h : numV s = some n) : Lib.itoa n = s ∧ Lib.parseIntB 64 s = .ok n ∧ (Lib.trimPrefix s [45]).length ≤ 18 := by
  unfold numV at h
  by_cases h45 : s.head? = some 45
  · rw [if_pos h45] at h
    obtain ⟨r, rfl⟩ : ∃ r, s = 45 :: r := by
      cases s with
      | nil => simp at h45
      | cons c r => exact ⟨r, by rw [List.head?_cons] at h45; rw [Option.some.inj h45]⟩
    rw [show (45 :: r).drop 1 = r from rfl] at h
    unfold numN at h
    by_cases ho : okN true r = true
    · rw [if_pos ho] at h
      obtain rfl := Option.some.inj h
      obtain ⟨p1, p2⟩ := parseU ho
      obtain ⟨⟨h1, h2⟩, h3, h4⟩ := okN_iff.1 ho
      have h48 : r.head? ≠ some 48 := h3.resolve_right (fun e => by simp at e)
      have hne : r ≠ [] := by intro e; rw [e] at h1; simp at h1
      have hp := valD_pos hne h4 h48
      refine ⟨?_, ?_, by rw [trim_minus]; exact h2⟩
      · unfold Lib.itoa sgn
        rw [if_pos rfl, if_pos (by omega), show (-((valD 0 r : Nat) : Int)).natAbs = valD 0 r by omega, dec_val _ r (Nat.le_refl _) hne h4 (Or.inl h48)]
      · rw [Lib.parseIntB_minus, p1]
        show (if 2 ^ (64 - 1) < valD 0 r then _ else _) = _
        rw [if_neg (by omega)]; rfl
    · rw [if_neg ho] at h; cases h
  · rw [if_neg h45] at h
    unfold numN at h
    by_cases ho : okN false s = true
    · rw [if_pos ho] at h
      obtain rfl := Option.some.inj h
      obtain ⟨p1, p2⟩ := parseU ho
      obtain ⟨⟨h1, h2⟩, h3, h4⟩ := okN_iff.1 ho
      cases s with
      | nil => simp at h1
      | cons c r =>
        have hc : 48 ≤ c.toNat ∧ c.toNat ≤ 57 := by
          rw [List.all_cons, Bool.and_eq_true, digB_iff] at h4; exact h4.1
        have hc45 : c ≠ 45 := fun e => h45 (by rw [e]; rfl)
        refine ⟨?_, ?_, by rw [trim_other r hc45]; exact h2⟩
        · unfold Lib.itoa sgn
          show (if ((valD 0 (c :: r) : Nat) : Int) < 0 then _ else Lib.decDigits (((valD 0 (c :: r) : Nat) : Int)).toNat) = _
          rw [if_neg (by omega), show (((valD 0 (c :: r) : Nat) : Int)).toNat = valD 0 (c :: r) by omega, dec_val _ _ (Nat.le_refl _) (by simp) h4 (h3.imp id (fun e => e.2))]
        · rw [Lib.parseIntB_plain 64 c r (by omega) (by omega), p1]
          show (if 2 ^ (64 - 1) ≤ valD 0 (c :: r) then _ else _) = _
          rw [if_neg (by omega)]; rfl
    · rw [if_neg ho] at h; cases h
theorem num_of_itoa {n : Int} (h : (Lib.trimPrefix (Lib.itoa n) [45]).length ≤ 18) : numV (Lib.itoa n) = some n := by
  unfold Lib.itoa at h ⊢
  by_cases hn : n < 0
  · rw [if_pos hn] at h ⊢
    rw [trim_minus] at h
    obtain ⟨i1, i2, i3, i4, _⟩ := dec_spec n.natAbs n.natAbs (Nat.le_refl _)
    unfold numV
    rw [if_pos (show (45 :: Lib.decDigits n.natAbs).head? = some 45 from rfl), show (45 :: Lib.decDigits n.natAbs).drop 1 = Lib.decDigits n.natAbs from rfl]
    unfold numN
    have hl : 1 ≤ (Lib.decDigits n.natAbs).length := List.length_pos_iff.2 i1
    rw [if_pos (okN_iff.2 ⟨⟨hl, h⟩, Or.inl (i4 (by omega)), i2⟩), i3]
    unfold sgn
    rw [if_pos rfl]; congr 1; omega
  · rw [if_neg hn] at h ⊢
    obtain ⟨i1, i2, i3, i4, i5⟩ := dec_spec n.toNat n.toNat (Nat.le_refl _)
    have hl : 1 ≤ (Lib.decDigits n.toNat).length := List.length_pos_iff.2 i1
    have h45 : (Lib.decDigits n.toNat).head? ≠ some 45 ∧ Lib.trimPrefix (Lib.decDigits n.toNat) [45] = Lib.decDigits n.toNat := by
      revert i1 i2
      generalize Lib.decDigits n.toNat = l
      intro i1 i2
      cases l with
      | nil => exact absurd rfl i1
      | cons c r =>
        rw [List.all_cons, Bool.and_eq_true, digB_iff] at i2
        have hc : c ≠ 45 := fun e => by rw [e] at i2; exact absurd i2.1.1 (by decide)
        exact ⟨fun e => hc (Option.some.inj e), trim_other r hc⟩
    rw [h45.2] at h
    unfold numV
    rw [if_neg h45.1]
    unfold numN
    have hx : (Lib.decDigits n.toNat).head? ≠ some 48 ∨ (false = false ∧ (Lib.decDigits n.toNat).length = 1) := by
      by_cases hz : n.toNat = 0
      · exact Or.inr ⟨rfl, i5 hz⟩
      · exact Or.inl (i4 hz)
    rw [if_pos (okN_iff.2 ⟨⟨hl, h⟩, hx, i2⟩), i3]
    unfold sgn
    rw [if_neg (by decide)]; congr 1; omega
theorem RD_eq (s : ByteArray) : impl_ReadDecimal.v s = numV s.data.toList := by
  cases hn : numV s.data.toList with
  | some n =>
    obtain ⟨h1, h2, h3⟩ := num_itoa hn
    unfold impl_ReadDecimal.v
    rw [h2]
    show (if 18 < (Lib.trimPrefix s.data.toList [45]).length then none else if (impl_Decimal.t n).toList = s.toList then some n else none) = some n
    rw [if_neg (by omega), if_pos (by rw [ByteArray.toList_eq, ByteArray.toList_eq, dec_list, h1])]
  | none =>
    cases hv : impl_ReadDecimal.v s with
    | none => rfl
    | some v =>
      exfalso
      unfold impl_ReadDecimal.v at hv
      rcases hp : Lib.parseIntB 64 s.data.toList with w | _ | _ <;> rw [hp] at hv
      · replace hv : (if 18 < (Lib.trimPrefix s.data.toList [45]).length then none else if (impl_Decimal.t w).toList = s.toList then some w else none) = some v := hv
        by_cases h18 : 18 < (Lib.trimPrefix s.data.toList [45]).length
        · rw [if_pos h18] at hv; cases hv
        rw [if_neg h18] at hv
        by_cases he : (impl_Decimal.t w).toList = s.toList
        · rw [ByteArray.toList_eq, ByteArray.toList_eq, dec_list] at he
          rw [← he] at h18 hn
          rw [num_of_itoa (by omega)] at hn; cases hn
        · rw [if_neg he] at hv; cases hv
      · cases hv
      · cases hv
theorem ReadDecimal_eq (s : ByteArray) (hs : s.size ≤ 1048576) : impl_ReadDecimal.f s = some (pairN (numV s.data.toList)) := by
  unfold impl_ReadDecimal.f
  rw [if_pos (by omega), RD_eq]
  cases numV s.data.toList <;> rfl
end Go.Proofs.YtmoamoopoifnlaaGreatDoor.P

/- A text cut at a byte: the reference's list of pieces and the library's Cut. -/
namespace Go.Proofs.YtmoamoopoifnlaaGreatDoor.P
open Go.RowKit Go.Proofs.YtmoamoopoifnlaaGreatDoorW.PrintWords Go.Proofs.YtmoamoopoifnlaaGreatDoorL
def baL (l : List UInt8) : ByteArray := ⟨l.toArray⟩
def splitL (c : UInt8) (cur : List UInt8) : List UInt8 → List (List UInt8)
  | [] => [cur]
  | b :: r => if b = c then cur :: splitL c [] r else splitL c (cur ++ [b]) r
theorem baL_data (l : List UInt8) : (baL l).data.toList = l := by unfold baL; simp
theorem data_baL (s : ByteArray) : baL s.data.toList = s := Lib.mk_data s
theorem Split_l0 (s : ByteArray) (c : UInt8) (hs : s.size ≤ 1048576) : ∀ (d k b i : Nat) (acc : List ByteArray), i + d = s.size → b ≤ i → acc.length ≤ i → d + 1 ≤ k →
    spec_l01Split.l0 k s (c.toNat : Int) acc (b : Int) (i : Int) = some (acc ++ (splitL c ((s.data.toList.drop b).take (i - b)) (s.data.toList.drop i)).map baL) := by
  intro d
  induction d with
  | zero =>
    intro k b i acc hi hb ha hk
    obtain ⟨k, rfl⟩ : ∃ m, k = m + 1 := ⟨k - 1, by omega⟩
    have hd : s.data.toList.drop i = [] := List.drop_eq_nil_of_le (by rw [← Lib.size_eq]; omega)
    simp only [spec_l01Split.l0]
    rw [if_neg (by omega), if_pos (nn_cast b), if_pos (by omega), if_pos (by omega), hd, Lib.extract_eq]
    show some (acc ++ [baL _]) = some (acc ++ [baL _])
    rw [show ((b : Int)).toNat = b by omega, show s.size - b = i - b by omega]
  | succ d ih =>
    intro k b i acc hi hb ha hk
    obtain ⟨k, rfl⟩ : ∃ m, k = m + 1 := ⟨k - 1, by omega⟩
    have hlt : i < s.data.toList.length := by rw [← Lib.size_eq]; omega
    obtain ⟨x, r, hd⟩ : ∃ x r, s.data.toList.drop i = x :: r := ⟨_, _, List.drop_eq_getElem_cons hlt⟩
    have hr : s.data.toList.drop (i + 1) = r := by rw [← List.drop_drop, hd]; rfl
    have e2 : wrap64 ((i : Int) + 1) = ((i + 1 : Nat) : Int) := by rw [wrap_id (by omega) (by omega)]; omega
    simp only [spec_l01Split.l0]
    rw [if_pos (by omega), if_pos (nn_cast i), bt_drop hd, e2, hd]
    by_cases hc : x = c
    · subst hc
      rw [if_pos rfl, if_pos (nn_cast b), if_pos (by omega), if_pos (by omega), if_pos (by omega), ih k (i + 1) (i + 1) _ (by omega) (by omega) (by rw [List.length_append]; simp; omega) (by omega), hr, Lib.extract_eq]
      rw [show splitL x ((s.data.toList.drop b).take (i - b)) (x :: r) = ((s.data.toList.drop b).take (i - b)) :: splitL x [] r from if_pos rfl]
      rw [Nat.sub_self, List.take_zero, List.map_cons, List.append_assoc, show ((b : Int)).toNat = b by omega, show ((i : Int)).toNat = i by omega]
      rfl
    · rw [if_neg (fun e => hc (UInt8.toNat_inj.1 (by omega))), ih k b (i + 1) _ (by omega) (by omega) (by omega) (by omega), hr]
      rw [show splitL c ((s.data.toList.drop b).take (i - b)) (x :: r) = splitL c (((s.data.toList.drop b).take (i - b)) ++ [x]) r from if_neg hc]
      have : (s.data.toList.drop b).take (i + 1 - b) = (s.data.toList.drop b).take (i - b) ++ [x] := by
        rw [show i + 1 - b = (i - b) + 1 by omega, List.take_add_one, List.getElem?_drop, show b + (i - b) = i by omega]
        have : s.data.toList[i]? = some x := by
          have := List.getElem?_drop (xs := s.data.toList) (i := i) (j := 0)
          rw [hd] at this; simpa using this.symm
        rw [this]; rfl
      rw [this]
theorem Split_eq (s : ByteArray) (c : UInt8) (hs : s.size ≤ 1048576) {k : Nat} (hk : s.size + 1 ≤ k) : spec_l01Split.f k s (c.toNat : Int) = some ((splitL c [] s.data.toList).map baL) := by
  unfold spec_l01Split.f
  have := Split_l0 s c hs s.size k 0 0 [] (by omega) (by omega) (by simp) (by omega)
  simpa using this
theorem splitL_none {c : UInt8} : ∀ (l cur : List UInt8), c ∉ l → splitL c cur l = [cur ++ l]
  | [], cur, _ => by simp [splitL]
  | b :: r, cur, h => by
    rw [show splitL c cur (b :: r) = splitL c (cur ++ [b]) r from if_neg (fun e => h (by rw [e]; exact List.mem_cons_self)), splitL_none r _ (fun e => h (List.mem_cons_of_mem _ e))]
    simp
theorem splitL_at {c : UInt8} : ∀ (a cur b : List UInt8), c ∉ a → splitL c cur (a ++ c :: b) = (cur ++ a) :: splitL c [] b
  | [], cur, b, _ => by
    rw [List.nil_append, List.append_nil]; exact if_pos rfl
  | x :: r, cur, b, h => by
    rw [List.cons_append, show splitL c cur (x :: (r ++ c :: b)) = splitL c (cur ++ [x]) (r ++ c :: b) from if_neg (fun e => h (by rw [e]; exact List.mem_cons_self)), splitL_at r _ b (fun e => h (List.mem_cons_of_mem _ e))]
    simp
theorem splitL_pos (c : UInt8) : ∀ (l cur : List UInt8), 1 ≤ (splitL c cur l).length
  | [], _ => Nat.le_refl _
  | b :: r, cur => by
    unfold splitL
    split
    · simp
    · exact splitL_pos c r _
/-- Two pieces: one cut, and no other. -/
theorem splitL_two {c : UInt8} {l : List UInt8} (h : (splitL c [] l).length = 2) : ∃ a b, l = a ++ c :: b ∧ c ∉ a ∧ c ∉ b ∧ splitL c [] l = [a, b] := by
  by_cases hm : c ∈ l
  · obtain ⟨a, b, rfl, ha⟩ := List.eq_append_cons_of_mem hm
    rw [splitL_at a [] b ha] at h ⊢
    by_cases hb : c ∈ b
    · exfalso
      obtain ⟨a2, b2, rfl, ha2⟩ := List.eq_append_cons_of_mem hb
      rw [splitL_at a2 [] b2 ha2] at h
      have := splitL_pos c b2 []
      simp only [List.length_cons] at h; omega
    · exact ⟨a, b, rfl, ha, hb, by rw [splitL_none b [] hb]; simp⟩
  · rw [splitL_none l [] hm] at h; simp at h
theorem indexByte_at {c : UInt8} : ∀ (a b : List UInt8), c ∉ a → Lib.indexByte (a ++ c :: b) c = (a.length : Int)
  | [], b, _ => by simp [Lib.indexByte]
  | x :: r, b, h => by
    have ih := indexByte_at r b (fun e => h (List.mem_cons_of_mem _ e))
    have hx : (x == c) = false := beq_eq_false_iff_ne.2 (fun e => h (by rw [e]; exact List.mem_cons_self))
    rw [List.cons_append, Lib.indexByte, hx, ih]
    have : ((r.length : Int) == -1) = false := beq_eq_false_iff_ne.2 (by omega)
    simp [this]
theorem indexByte_no {c : UInt8} : ∀ (l : List UInt8), c ∉ l → Lib.indexByte l c = -1
  | [], _ => rfl
  | x :: r, h => by
    have ih := indexByte_no r (fun e => h (List.mem_cons_of_mem _ e))
    have hx : (x == c) = false := beq_eq_false_iff_ne.2 (fun e => h (by rw [e]; exact List.mem_cons_self))
    rw [Lib.indexByte, hx, ih]; rfl
theorem cut_at {c : UInt8} (a b : List UInt8) (h : c ∉ a) : Lib.cut (a ++ c :: b) [c] = (a, b, true) := by
  unfold Lib.cut
  rw [Lib.index_one, indexByte_at a b h, if_pos (by omega), show ((a.length : Int)).toNat = a.length by omega]
  simp
theorem cut_no {c : UInt8} (l : List UInt8) (h : c ∉ l) : Lib.cut l [c] = (l, [], false) := by
  unfold Lib.cut
  rw [Lib.index_one, indexByte_no l h, if_neg (by decide)]
theorem Cut_eq (s : ByteArray) (c : UInt8) (hs : s.size ≤ 1048576) : strings_Cut.f s (⟨#[c]⟩ : ByteArray) = some (baL (Lib.cut s.data.toList [c]).1, baL (Lib.cut s.data.toList [c]).2.1, (Lib.cut s.data.toList [c]).2.2) := by
  unfold strings_Cut.f
  rw [if_pos (by omega)]; rfl
end Go.Proofs.YtmoamoopoifnlaaGreatDoor.P

/- A melody read from text: the reference cuts at every blank and colon, the program cuts a bounded number of pieces, and each once; both take the same texts. -/
namespace Go.Proofs.YtmoamoopoifnlaaGreatDoor.P
open Go.RowKit Go.Proofs.YtmoamoopoifnlaaGreatDoorW.PrintWords Go.Proofs.YtmoamoopoifnlaaGreatDoorL
def twoN (x : Int × Bool) (y : Option Int) : Option S67 := match x.2, y with | true, some n => some ⟨x.1, n⟩ | _, _ => none
def piece (s k : Int) (t : List UInt8) : Option S67 := twoN (readPt s k (baL (Lib.cut t [58]).1)) (numV (Lib.cut t [58]).2.1)
def allR (s k : Int) : List (List UInt8) → Option (List S67)
  | [] => some []
  | t :: r => match piece s k t with | none => none | some x => (allR s k r).map (x :: ·)
theorem baL_size (l : List UInt8) : (baL l).size = l.length := by unfold baL; show l.toArray.size = _; simp
theorem itoa_mem {n : Int} {b : UInt8} (h : b ∈ Lib.itoa n) : b = 45 ∨ digB b = true := by
  unfold Lib.itoa at h
  split at h
  · rcases List.mem_cons.1 h with rfl | h
    · exact Or.inl rfl
    · exact Or.inr (List.all_eq_true.1 (dec_spec n.natAbs n.natAbs (Nat.le_refl _)).2.1 b h)
  · exact Or.inr (List.all_eq_true.1 (dec_spec n.toNat n.toNat (Nat.le_refl _)).2.1 b h)
theorem itoa_no {n : Int} {b : UInt8} (h0 : b ≠ 45) (h1 : digB b = false) : b ∉ Lib.itoa n := fun h => by
  rcases itoa_mem h with rfl | h
  · exact h0 rfl
  · rw [h1] at h; cases h
theorem num_no {l : List UInt8} {b : UInt8} (hb : b ∈ l) (h0 : b ≠ 45) (h1 : digB b = false) : numV l = none := by
  cases h : numV l with
  | none => rfl
  | some n => exact absurd (by rw [(num_itoa h).1]; exact hb) (itoa_no (n := n) h0 h1)
theorem cut_shape (l : List UInt8) (c : UInt8) : (∃ a b, Lib.cut l [c] = (a, b, true) ∧ l = a ++ c :: b ∧ c ∉ a) ∨ (Lib.cut l [c] = (l, [], false) ∧ c ∉ l) := by
  by_cases hm : c ∈ l
  · obtain ⟨a, b, rfl, ha⟩ := List.eq_append_cons_of_mem hm
    exact Or.inl ⟨a, b, cut_at a b ha, rfl, ha⟩
  · exact Or.inr ⟨cut_no l hm, hm⟩
theorem twoN_none (x : Int × Bool) : twoN x none = none := by unfold twoN; cases x.2 <;> rfl
theorem twoN_false {x : Int × Bool} (h : x.2 = false) (y : Option Int) : twoN x y = none := by unfold twoN; rw [h]
/-- A piece that the reference does not cut in two is no note for the program. -/
theorem piece_bad {s k : Int} {t : List UInt8} (h : ¬ (splitL 58 [] t).length = 2) : piece s k t = none := by
  unfold piece
  rcases cut_shape t 58 with ⟨a, b, e, ht, ha⟩ | ⟨e, ht⟩
  · rw [e]
    have hb : (58 : UInt8) ∈ b := by
      by_cases hb : (58 : UInt8) ∈ b
      · exact hb
      · exfalso; apply h; rw [ht, splitL_at a [] b ha, splitL_none b [] hb]; rfl
    show twoN _ (numV b) = none
    rw [num_no hb (by decide) (by decide), twoN_none]
  · rw [e]
    show twoN _ (numV []) = none
    rw [show numV [] = none from rfl, twoN_none]
theorem piece_two {s k : Int} {t a b : List UInt8} (ht : t = a ++ 58 :: b) (ha : (58 : UInt8) ∉ a) : piece s k t = twoN (readPt s k (baL a)) (numV b) := by
  unfold piece; rw [ht, cut_at a b ha]
theorem at_mem {l : List ByteArray} {t : Int} {b : UInt8} (hb : b ∈ (impl_pitchIn.at_ l t).data.toList) : ∃ x ∈ l, b ∈ x.data.toList := by
  unfold impl_pitchIn.at_ at hb
  rw [List.getD_eq_getElem?_getD] at hb
  cases h : l[t.toNat]? with
  | none => rw [h] at hb; exact absurd hb (by simp)
  | some x => rw [h] at hb; exact ⟨x, List.mem_of_getElem? h, hb⟩
theorem L_no : ∀ x ∈ impl_pitchIn.L, (32 : UInt8) ∉ x.data.toList := by decide
theorem M_no : ∀ x ∈ impl_pitchIn.M, (32 : UInt8) ∉ x.data.toList := by decide
theorem name_no (t : Int) : (32 : UInt8) ∉ (nameT t).data.toList := fun h => by
  unfold nameT at h
  rw [Lib.extract_eq] at h
  have h2 : (32 : UInt8) ∈ [83, 114, 82, 103, 71, 109, 77, 80, 100, 68, 110, 78] := List.mem_of_mem_drop (List.mem_of_mem_take (by simpa using h))
  exact absurd h2 (by decide)
theorem dec_no (n : Int) : (32 : UInt8) ∉ (impl_Decimal.t n).data.toList := by rw [dec_list]; exact itoa_no (by decide) (by decide)
theorem pt_no (s k p : Int) : (32 : UInt8) ∉ (pt s k p).data.toList := by
  have l1 : ∀ t, (32 : UInt8) ∉ (impl_pitchIn.at_ impl_pitchIn.L t).data.toList := fun t h => by obtain ⟨x, hx, hb⟩ := at_mem h; exact L_no x hx hb
  have m1 : ∀ t, (32 : UInt8) ∉ (impl_pitchIn.at_ impl_pitchIn.M t).data.toList := fun t h => by obtain ⟨x, hx, hb⟩ := at_mem h; exact M_no x hx hb
  have n1 := name_no (p % 12)
  have d1 := dec_no
  unfold pt
  repeat' split
  all_goals (try rw [ba_app])
  all_goals simp [n1, l1, m1, d1]
theorem piece_blank {s k : Int} {t : List UInt8} (h : (32 : UInt8) ∈ t) : piece s k t = none := by
  unfold piece
  rcases cut_shape t 58 with ⟨a, b, e, ht, ha⟩ | ⟨e, ht⟩
  · rw [e]
    show twoN (readPt s k (baL a)) (numV b) = none
    rw [ht, List.mem_append, List.mem_cons] at h
    rcases h with h | h | h
    · refine twoN_false ?_ _
      cases hr : (readPt s k (baL a)).2 with
      | false => rfl
      | true =>
        exfalso
        have := (readL_bounds 36 (-12) hr).2.2
        rw [ByteArray.toList_eq, ByteArray.toList_eq, baL_data] at this
        exact pt_no _ _ _ (by rw [this]; exact h)
    · exact absurd h (by decide)
    · rw [num_no h (by decide) (by decide), twoN_none]
  · rw [e]
    show twoN _ (numV []) = none
    rw [show numV [] = none from rfl, twoN_none]
theorem allR_append_none {s k : Int} : ∀ (pre : List (List UInt8)) {t : List UInt8}, piece s k t = none → allR s k (pre ++ [t]) = none
  | [], t, h => by simp [allR, h]
  | x :: r, t, h => by
    have ih := allR_append_none (s := s) (k := k) r h
    rw [List.cons_append]
    unfold allR
    cases piece s k x with
    | none => rfl
    | some y => rw [ih]; rfl
theorem allR_length {s k : Int} : ∀ (l : List (List UInt8)) (ys : List S67), allR s k l = some ys → ys.length = l.length
  | [], ys, h => by
    have e : [] = ys := Option.some.inj h
    rw [← e]; rfl
  | t :: r, ys, h => by
    unfold allR at h
    cases hp : piece s k t with
    | none => rw [hp] at h; cases h
    | some y =>
      rw [hp] at h
      obtain ⟨zs, hz, rfl⟩ := Option.map_eq_some_iff.1 h
      rw [List.length_cons, List.length_cons, allR_length r zs hz]
theorem splitL_le {c : UInt8} : ∀ (l cur : List UInt8), (splitL c cur l).length ≤ l.length + 1 ∧ ∀ t ∈ splitL c cur l, t.length ≤ cur.length + l.length
  | [], cur => ⟨by simp [splitL], fun t ht => by simp [splitL] at ht; rw [ht]; omega⟩
  | b :: r, cur => by
    unfold splitL
    by_cases hb : b = c
    · rw [if_pos hb]
      have ih := splitL_le (c := c) r []
      refine ⟨by rw [List.length_cons, List.length_cons]; have := ih.1; omega, fun t ht => ?_⟩
      rcases List.mem_cons.1 ht with rfl | ht
      · omega
      · have := ih.2 t ht
        rw [List.length_cons]; simp at this; omega
    · rw [if_neg hb]
      have ih := splitL_le (c := c) r (cur ++ [b])
      refine ⟨by rw [List.length_cons]; have := ih.1; omega, fun t ht => ?_⟩
      have := ih.2 t ht
      rw [List.length_cons]; simp at this; omega
theorem index_at {c : UInt8} (a b : List UInt8) (h : c ∉ a) : Lib.index (a ++ c :: b) [c] = (a.length : Int) := by rw [Lib.index_one, indexByte_at a b h]
theorem index_no {c : UInt8} (l : List UInt8) (h : c ∉ l) : Lib.index l [c] = -1 := by rw [Lib.index_one, indexByte_no l h]
theorem splitK_at {c : UInt8} (k : Nat) (a b : List UInt8) (h : c ∉ a) : Lib.splitK [c] 0 (k + 1) (a ++ c :: b) = a :: Lib.splitK [c] 0 k b := by
  have e1 : ((a.length : Int) == -1) = false := beq_eq_false_iff_ne.2 (by omega)
  rw [Lib.splitK, index_at a b h, e1, if_neg (by decide), show ((a.length : Int)).toNat = a.length by omega]
  simp
theorem splitK_no {c : UInt8} (k : Nat) (l : List UInt8) (h : c ∉ l) : Lib.splitK [c] 0 k l = [l] := by
  cases k with
  | zero => rfl
  | succ k => rw [Lib.splitK, index_no l h]; rfl
theorem splitK_same {c : UInt8} : ∀ (k : Nat) (l : List UInt8), (splitL c [] l).length ≤ k + 1 → Lib.splitK [c] 0 k l = splitL c [] l := by
  intro k
  induction k with
  | zero =>
    intro l h
    by_cases hm : c ∈ l
    · obtain ⟨a, b, rfl, ha⟩ := List.eq_append_cons_of_mem hm
      rw [splitL_at a [] b ha, List.length_cons] at h
      have := splitL_pos c b []
      omega
    · rw [splitL_none l [] hm]; rfl
  | succ k ih =>
    intro l h
    by_cases hm : c ∈ l
    · obtain ⟨a, b, rfl, ha⟩ := List.eq_append_cons_of_mem hm
      rw [splitL_at a [] b ha, List.length_cons] at h
      rw [splitK_at k a b ha, splitL_at a [] b ha, ih b (by omega)]; rfl
    · rw [splitL_none l [] hm, splitK_no _ l hm]; rfl
theorem splitK_more {c : UInt8} : ∀ (k : Nat) (l : List UInt8), k + 1 < (splitL c [] l).length → ∃ pre t, Lib.splitK [c] 0 k l = pre ++ [t] ∧ c ∈ t := by
  intro k
  induction k with
  | zero =>
    intro l h
    by_cases hm : c ∈ l
    · exact ⟨[], l, rfl, hm⟩
    · rw [splitL_none l [] hm] at h; simp at h
  | succ k ih =>
    intro l h
    by_cases hm : c ∈ l
    · obtain ⟨a, b, rfl, ha⟩ := List.eq_append_cons_of_mem hm
      rw [splitL_at a [] b ha, List.length_cons] at h
      obtain ⟨pre, t, e, ht⟩ := ih b (by omega)
      exact ⟨a :: pre, t, by rw [splitK_at k a b ha, e]; rfl, ht⟩
    · rw [splitL_none l [] hm] at h; simp at h
theorem splitK_le {c : UInt8} : ∀ (k : Nat) (l : List UInt8), ∀ t ∈ Lib.splitK [c] 0 k l, t.length ≤ l.length := by
  intro k
  induction k with
  | zero => intro l t ht; simp [Lib.splitK] at ht; rw [ht]; omega
  | succ k ih =>
    intro l t ht
    by_cases hm : c ∈ l
    · obtain ⟨a, b, rfl, ha⟩ := List.eq_append_cons_of_mem hm
      rw [splitK_at k a b ha] at ht
      rcases List.mem_cons.1 ht with rfl | ht
      · simp
      · have := ih b t ht
        simp; omega
    · rw [splitK_no _ l hm] at ht
      simp at ht; rw [ht]; omega
def notesOf (s k : Int) (l : List UInt8) : Option (List S67) := if l = [] then some [] else match allR s k (splitL 32 [] l) with | none => none | some ys => if melB ys = true then some ys else none
def specP : Option (List S67) → List S67 × Bool | some ys => (ys, true) | none => ([], false)
def specE (acc : List S67) : Option (List S67) → List S67 × Bool | some ys => if melB (acc ++ ys) = true then (acc ++ ys, true) else ([], false) | none => ([], false)
def implE (acc : List S67) : Option (List S67) → List S67 × Bool | some ys => (acc ++ ys, melB (acc ++ ys)) | none => ([], false)
theorem map_baL_get {ps : List (List UInt8)} {i : Nat} (h : i < ps.length) : rdOf ByteArray.empty (ps.map baL) (i : Int) = baL ps[i] := by
  rw [rdOf_get (by simpa using h)]; simp
theorem specRead_l0 {s k : Int} (hk : keyB s k = true) {ps : List (List UInt8)} (hn : ps.length ≤ 1048577) (hp : ∀ t ∈ ps, t.length ≤ 1048576) : ∀ (d K i : Nat) (acc : List S67), i + d = ps.length → acc.length ≤ i → d + 2000000 ≤ K → spec_l26Read.l0 K s k acc (ps.map baL) (i : Int) = some (specE acc (allR s k (ps.drop i))) := by
  intro d
  induction d with
  | zero =>
    intro K i acc hi ha hK
    obtain ⟨K, rfl⟩ : ∃ m, K = m + 1 := ⟨K - 1, by omega⟩
    simp only [spec_l26Read.l0]
    rw [if_neg (by rw [List.length_map]; omega), List.drop_eq_nil_of_le (by omega)]
    have e : specE acc (allR s k []) = if melB acc = true then (acc, true) else ([], false) := by
      show (if melB (acc ++ []) = true then (acc ++ [], true) else ([], false)) = _
      rw [List.append_nil]
    rw [e]
    rw [l09Ok_eq (by omega) (by omega)]; simp only [Option.bind_some]
    by_cases hm : melB acc = true
    · rw [if_pos hm, if_pos hm]
    · rw [if_neg hm, if_neg hm]
  | succ d ih =>
    intro K i acc hi ha hK
    obtain ⟨K, rfl⟩ : ∃ m, K = m + 1 := ⟨K - 1, by omega⟩
    have hlt : i < ps.length := by omega
    have ht := hp ps[i] (List.getElem_mem hlt)
    simp only [spec_l26Read.l0]
    rw [if_pos (by rw [List.length_map]; omega), if_pos (nn_cast i), map_baL_get hlt, List.drop_eq_getElem_cons hlt]
    have E1 : spec_l01Split.f K (baL ps[i]) 58 = some ((splitL 58 [] ps[i]).map baL) := by
      have := Split_eq (baL ps[i]) 58 (by rw [baL_size]; omega) (k := K) (by rw [baL_size]; omega)
      rw [baL_data] at this; exact this
    rw [E1]; simp only [Option.bind_some]
    by_cases h2 : (splitL 58 [] ps[i]).length = 2
    · obtain ⟨a, b, hab, h3, h4, e⟩ := splitL_two h2
      have hsz : ps[i].length = a.length + 1 + b.length := by rw [hab]; simp; omega
      have l2 : (([baL a, baL b].length : Nat) : Int) = 2 := rfl
      have r2 : rdOf ByteArray.empty [baL a, baL b] 0 = baL a := rfl
      have r3 : rdOf ByteArray.empty [baL a, baL b] 1 = baL b := rfl
      rw [e, show [a, b].map baL = [baL a, baL b] from rfl, l2, if_pos rfl, if_pos (by decide), r2, r3, l26ReadPitch_eq _ hk (by omega)]
      simp only [Option.bind_some]
      rw [if_pos (by decide), Number_eq (baL b) (by rw [baL_size]; omega) (by omega), baL_data]
      simp only [Option.bind_some]
      have hpc := piece_two (s := s) (k := k) hab h3
      unfold allR
      rw [hpc]
      rcases hx : readPt s k (baL a) with ⟨p, _ | _⟩
      · rw [twoN_false rfl]; rw [if_neg (show ¬ false = true by decide)]; rfl
      · cases numV b with
        | none => rw [twoN_none]; rw [if_pos rfl, if_neg (by decide)]; rfl
        | some n =>
          show (if true = true then (if true = true then (if acc.length < 8796093022208 then spec_l26Read.l0 K s k (acc ++ [⟨p, n⟩]) (ps.map baL) (wrap64 ((i : Int) + 1)) else none) else _) else _) = _
          rw [if_pos rfl, if_pos rfl, if_pos (by omega), wrap_succ hlt (by omega), ih K (i + 1) _ (by omega) (by rw [List.length_append]; simp; omega) (by omega)]
          show _ = some (specE acc ((allR s k (ps.drop (i + 1))).map _))
          cases allR s k (ps.drop (i + 1)) with
          | none => rfl
          | some ys => show some (if melB ((acc ++ [⟨p, n⟩]) ++ ys) = true then ((acc ++ [⟨p, n⟩]) ++ ys, true) else ([], false)) = some (if melB (acc ++ (⟨p, n⟩ :: ys)) = true then (acc ++ (⟨p, n⟩ :: ys), true) else ([], false)); rw [List.append_assoc]; rfl
    · rw [if_neg (by rw [List.length_map]; omega)]
      unfold allR
      rw [piece_bad h2]; rfl
theorem implRead_l0 {s k : Int} (hk : keyB s k = true) {ps : List (List UInt8)} (hn : ps.length ≤ 100) (hp : ∀ t ∈ ps, t.length ≤ 1048576) : ∀ (d K i : Nat) (acc : List S67), i + d = ps.length → acc.length ≤ i → d + 2000 ≤ K → impl_readNotesIn.l0 K s k acc (ps.map baL) ((ps.map baL).length : Int) (i : Int) = some (implE acc (allR s k (ps.drop i))) := by
  intro d
  induction d with
  | zero =>
    intro K i acc hi ha hK
    obtain ⟨K, rfl⟩ : ∃ m, K = m + 1 := ⟨K - 1, by omega⟩
    simp only [impl_readNotesIn.l0]
    rw [if_neg (by rw [List.length_map]; omega), List.drop_eq_nil_of_le (by omega), ValidMelody_eq (by omega)]
    show some (acc, melB acc) = some (acc ++ [], melB (acc ++ []))
    rw [List.append_nil]
  | succ d ih =>
    intro K i acc hi ha hK
    obtain ⟨K, rfl⟩ : ∃ m, K = m + 1 := ⟨K - 1, by omega⟩
    have hlt : i < ps.length := by omega
    have ht := hp ps[i] (List.getElem_mem hlt)
    simp only [impl_readNotesIn.l0]
    rw [if_pos (by rw [List.length_map]; omega), if_pos (nn_cast i), if_pos (by rw [List.length_map]; omega), map_baL_get hlt, List.drop_eq_getElem_cons hlt, Cut_eq (baL ps[i]) 58 (by rw [baL_size]; omega), baL_data]
    simp only [Option.bind_some]
    have hsz : (Lib.cut ps[i] [58]).2.1.length ≤ ps[i].length := by
      rcases cut_shape ps[i] 58 with ⟨a, b, e, h, _⟩ | ⟨e, _⟩
      · rw [e, h]; simp; omega
      · rw [e]; simp
    rw [readPitchIn_eq _ hk]
    simp only [Option.bind_some]
    rw [ReadDecimal_eq _ (by rw [baL_size]; omega), baL_data]
    simp only [Option.bind_some]
    unfold allR piece
    rcases hx : readPt s k (baL (Lib.cut ps[i] [58]).1) with ⟨p, _ | _⟩
    · rw [twoN_false rfl]; rw [if_neg (show ¬ false = true by decide)]; rfl
    · cases numV (Lib.cut ps[i] [58]).2.1 with
      | none => rw [twoN_none]; rw [if_pos rfl, if_neg (by decide)]; rfl
      | some n =>
        show (if true = true then (if true = true then (if acc.length < 8796093022208 then impl_readNotesIn.l0 K s k (acc ++ [⟨p, n⟩]) (ps.map baL) ((ps.map baL).length : Int) (wrap64 ((i : Int) + 1)) else none) else _) else _) = _
        rw [if_pos rfl, if_pos rfl, if_pos (by omega), wrap_succ hlt (by omega), ih K (i + 1) _ (by omega) (by rw [List.length_append]; simp; omega) (by omega)]
        show _ = some (implE acc ((allR s k (ps.drop (i + 1))).map _))
        cases allR s k (ps.drop (i + 1)) with
        | none => rfl
        | some ys => show some ((acc ++ [⟨p, n⟩]) ++ ys, melB ((acc ++ [⟨p, n⟩]) ++ ys)) = some (acc ++ (⟨p, n⟩ :: ys), melB (acc ++ (⟨p, n⟩ :: ys))); rw [List.append_assoc]; rfl
theorem empty_iff (a : ByteArray) : a.toList = ([] : List UInt8) ↔ a.data.toList = [] := by rw [ByteArray.toList_eq]
theorem l26Read_eq {s k : Int} (hk : keyB s k = true) {a : ByteArray} (ha : a.size ≤ 1048576) {K : Nat} (hK : 5000000 ≤ K) : spec_l26Read.f K s k a = some (specP (notesOf s k a.data.toList)) := by
  unfold spec_l26Read.f notesOf
  simp only [Option.bind_some]
  by_cases h0 : a.data.toList = []
  · rw [if_pos ((empty_iff a).2 h0), if_pos h0]; rfl
  rw [if_neg (fun e => h0 ((empty_iff a).1 e)), if_neg h0]
  have E1 : spec_l01Split.f K a 32 = some ((splitL 32 [] a.data.toList).map baL) := Split_eq a 32 ha (k := K) (by omega)
  rw [E1]; simp only [Option.bind_some]
  have hz : a.data.toList.length = a.size := (Lib.size_eq a).symm
  obtain ⟨s1, s2⟩ := splitL_le (c := 32) a.data.toList []
  have E2 := specRead_l0 hk (ps := splitL 32 [] a.data.toList) (by omega) (fun t ht => by have := s2 t ht; simp at this; omega) (splitL 32 [] a.data.toList).length K 0 [] (by omega) (by simp) (by omega)
  rw [List.drop_zero, show ((0 : Nat) : Int) = 0 from rfl] at E2
  rw [E2]
  cases allR s k (splitL 32 [] a.data.toList) with
  | none => rfl
  | some ys =>
    show some (if melB ([] ++ ys) = true then ([] ++ ys, true) else ([], false)) = some (specP (if melB ys = true then some ys else none))
    rw [List.nil_append]
    by_cases hm : melB ys = true
    · rw [if_pos hm, if_pos hm]; rfl
    · rw [if_neg hm, if_neg hm]; rfl
theorem readNotesIn_eq {s k : Int} (hk : keyB s k = true) {a : ByteArray} (ha : a.size ≤ 1048576) {K : Nat} (hK : 5000000 ≤ K) : ∃ m, impl_readNotesIn.f K s k a = some (m, (notesOf s k a.data.toList).isSome) ∧ ∀ ys, notesOf s k a.data.toList = some ys → m = ys := by
  unfold impl_readNotesIn.f
  by_cases h0 : a.data.toList = []
  · rw [if_pos ((empty_iff a).2 h0)]
    have : notesOf s k a.data.toList = some [] := by unfold notesOf; rw [if_pos h0]
    rw [this]
    exact ⟨[], rfl, fun ys h => Option.some.inj h⟩
  rw [if_neg (fun e => h0 ((empty_iff a).1 e))]
  have hz : a.data.toList.length = a.size := (Lib.size_eq a).symm
  have hpos : 1 ≤ a.size := by
    rw [← hz]; exact List.length_pos_iff.2 h0
  have E1 : strings_SplitN.f a (⟨#[32]⟩ : ByteArray) 49 = some ((Lib.splitK [32] 0 (min 49 (a.size + 1) - 1) a.data.toList).map baL) := by
    unfold strings_SplitN.f
    rw [if_pos ⟨⟨by omega, by decide⟩, by decide, by decide⟩]
    unfold strings_SplitN.t
    congr 1
    have := Lib.splitB_data (⟨#[32]⟩ : ByteArray) 0 (min 49 (a.size + 1) - 1) a
    rw [show (⟨#[32]⟩ : ByteArray).data.toList = [32] from rfl] at this
    rw [← this, List.map_map, show (49 : Int).toNat = 49 from rfl]
    have e : (baL ∘ fun x : ByteArray => x.data.toList) = id := by funext x; exact data_baL x
    rw [e, List.map_id]
  rw [E1]; simp only [Option.bind_some]
  obtain ⟨s1, s2⟩ := splitL_le (c := 32) a.data.toList []
  generalize hc : min 49 (a.size + 1) - 1 = c
  have hc48 : c ≤ 48 := by omega
  have hn : notesOf s k a.data.toList = match allR s k (splitL 32 [] a.data.toList) with | none => none | some ys => if melB ys = true then some ys else none := by unfold notesOf; rw [if_neg h0]
  by_cases hle : (splitL 32 [] a.data.toList).length ≤ c + 1
  · have E2 := implRead_l0 hk (ps := splitL 32 [] a.data.toList) (by omega) (fun t ht => by have := s2 t ht; simp at this; omega) (splitL 32 [] a.data.toList).length K 0 [] (by omega) (by simp) (by omega)
    rw [List.drop_zero, show ((0 : Nat) : Int) = 0 from rfl] at E2
    rw [splitK_same c _ hle, E2, hn]
    cases allR s k (splitL 32 [] a.data.toList) with
    | none => exact ⟨[], rfl, fun ys h => by cases h⟩
    | some ys =>
      refine ⟨ys, ?_, fun zs h => ?_⟩
      · show some ([] ++ ys, melB ([] ++ ys)) = some (ys, (if melB ys = true then some ys else none).isSome)
        rw [List.nil_append]
        cases melB ys <;> rfl
      · dsimp only at h
        by_cases hm : melB ys = true
        · rw [if_pos hm] at h; exact Option.some.inj h
        · rw [if_neg hm] at h; cases h
  · have hc' : c = 48 := by omega
    subst hc'
    obtain ⟨pre, t, e, ht⟩ := splitK_more (c := 32) 48 a.data.toList (by omega)
    have hlen : (pre ++ [t]).length ≤ 49 := by
      rw [← e]
      have := Lib.splitB_data (⟨#[32]⟩ : ByteArray) 0 48 a
      have h2 := congrArg List.length this
      rw [List.length_map] at h2
      have h3 := Lib.splitB_length_le (⟨#[32]⟩ : ByteArray) 0 48 a
      rw [show (⟨#[32]⟩ : ByteArray).data.toList = [32] from rfl] at h2
      omega
    have hsz : ∀ x ∈ pre ++ [t], x.length ≤ 1048576 := by
      rw [← e]; exact fun x hx => by have := splitK_le (c := 32) 48 a.data.toList x hx; omega
    have E2 := implRead_l0 hk (ps := pre ++ [t]) (by omega) hsz (pre ++ [t]).length K 0 [] (by omega) (by simp) (by omega)
    rw [List.drop_zero, show ((0 : Nat) : Int) = 0 from rfl, allR_append_none pre (piece_blank ht)] at E2
    rw [e, E2]
    have hnone : notesOf s k a.data.toList = none := by
      rw [hn]
      cases hr : allR s k (splitL 32 [] a.data.toList) with
      | none => rfl
      | some ys =>
        have := allR_length _ _ hr
        have hm : melB ys = false := by unfold melB; rw [decide_eq_false (by omega), Bool.and_false]
        dsimp only
        rw [hm]; rfl
    rw [hnone]
    exact ⟨[], rfl, fun ys h => by cases h⟩
theorem notesOf_ok {s k : Int} {l : List UInt8} {ys : List S67} (h : notesOf s k l = some ys) : melB ys = true := by
  unfold notesOf at h
  by_cases h0 : l = []
  · rw [if_pos h0] at h; obtain rfl := Option.some.inj h; rfl
  rw [if_neg h0] at h
  cases hr : allR s k (splitL 32 [] l) with
  | none => rw [hr] at h; cases h
  | some zs =>
    rw [hr] at h
    dsimp only at h
    by_cases hm : melB zs = true
    · rw [if_pos hm] at h; rw [← Option.some.inj h]; exact hm
    · rw [if_neg hm] at h; cases h
end Go.Proofs.YtmoamoopoifnlaaGreatDoor.P

/- A melody moved to another key: both read the notes, move each pitch, and write them again. -/
namespace Go.Proofs.YtmoamoopoifnlaaGreatDoor.P
open Go.RowKit Go.Proofs.YtmoamoopoifnlaaGreatDoorW.PrintWords Go.Proofs.YtmoamoopoifnlaaGreatDoorL
def mvd (k o : Int) (ys : List S67) : List S67 := ys.map (impl_RetuneText.mv k o)
def pB (p : Int) : Bool := decide (-12 ≤ p) && decide (p ≤ 23)
def moved (s k o : Int) (ys : List S67) : ByteArray × Int := if ((mvd k o ys).all fun x => pB x.f0) = true then (joinT ((mvd k o ys).map (noteT s o)), 0) else (⟨#[]⟩, 6)
def retR (s k o : Int) (l : List UInt8) : ByteArray × Int := if keyB s k = true ∧ keyB s o = true then (match notesOf s k l with | none => (⟨#[]⟩, 8) | some ys => moved s k o ys) else (⟨#[]⟩, 2)
theorem l03Pitch_eq (p : Int) : spec_l03Pitch.f p = some (pB p) := by unfold spec_l03Pitch.f pB; rw [in_eq]; rfl
theorem chk1 (x : S67) : impl_checkedMelody_1.f x.f0 x.f1 = some (!noteB x) := by
  unfold impl_checkedMelody_1.f impl_pitchOk.f impl_lengthOk.f noteB
  rw [within_eq, within_eq]; simp only [Option.bind_some]
  cases (decide (-12 ≤ x.f0) && decide (x.f0 ≤ 23)) <;> simp
theorem chkAny : ∀ l : List S67, anyO (fun x => impl_checkedMelody_1.f x.f0 x.f1) l = some (!(l.all noteB))
  | [] => rfl
  | x :: r => by
    unfold anyO
    rw [chk1, List.all_cons]
    cases noteB x
    · rfl
    · simp only [Bool.not_true, Bool.true_and]
      exact chkAny r
theorem all_mv {k o : Int} : ∀ {ys : List S67}, ys.all noteB = true → (mvd k o ys).all noteB = (mvd k o ys).all fun x => pB x.f0
  | [], _ => rfl
  | x :: r, h => by
    rw [List.all_cons, Bool.and_eq_true] at h
    have ih := all_mv (k := k) (o := o) h.2
    have h1 := h.1
    unfold noteB at h1
    rw [Bool.and_eq_true] at h1
    show (noteB (impl_RetuneText.mv k o x) && (mvd k o r).all noteB) = (pB (impl_RetuneText.mv k o x).f0 && (mvd k o r).all fun x => pB x.f0)
    rw [ih]
    congr 1
    show (pB (impl_RetuneText.mv k o x).f0 && (decide (1 ≤ x.f1) && decide (x.f1 ≤ 64))) = _
    rw [h1.2, Bool.and_true]
theorem chk_eq {k o : Int} {ys : List S67} (h : melB ys = true) : impl_RetuneText.chk (mvd k o ys) = some (if ((mvd k o ys).all fun x => pB x.f0) = true then 0 else 6) := by
  have h2 := h
  unfold melB at h2
  rw [Bool.and_eq_true, decide_eq_true_iff] at h2
  unfold impl_RetuneText.chk
  rw [chkAny, all_mv h2.1]; simp only [Option.bind_some]
  cases hb : (mvd k o ys).all fun x => pB x.f0
  · rfl
  · have : (mvd k o ys).length ≤ 48 := by unfold mvd; rw [List.length_map]; exact h2.2
    simp only [Bool.not_true, Bool.false_eq_true, if_false, if_true]
    rw [if_pos this]
theorem mvd_ok {k o : Int} {ys : List S67} (h : melB ys = true) (h2 : ((mvd k o ys).all fun x => pB x.f0) = true) : melB (mvd k o ys) = true := by
  unfold melB at h ⊢
  rw [Bool.and_eq_true, decide_eq_true_iff] at h
  rw [all_mv h.1, h2, Bool.true_and]
  unfold mvd
  rw [List.length_map]; exact decide_eq_true h.2
theorem Retune_l0 {s k o : Int} (hk : keyB s o = true) {ys : List S67} (h : melB ys = true) : ∀ (d K i : Nat), i + d = ys.length → d + 4000 ≤ K → spec_RetuneText.l0 K s k o ys ((mvd k o ys).take i) (i : Int) = some (if ((mvd k o ys).take i).all (fun x => pB x.f0) = true then moved s k o ys else (⟨#[]⟩, 6)) ∨ ¬ ((mvd k o ys).take i).all (fun x => pB x.f0) = true := by
  have hl : (mvd k o ys).length = ys.length := by unfold mvd; rw [List.length_map]
  have h48 : ys.length ≤ 48 := (melB_ok h).1
  intro d
  induction d with
  | zero =>
    intro K i hi hK
    obtain ⟨K, rfl⟩ : ∃ m, K = m + 1 := ⟨K - 1, by omega⟩
    by_cases hc : ((mvd k o ys).take i).all (fun x => pB x.f0) = true
    rotate_left
    · exact Or.inr hc
    left
    rw [if_pos hc]
    rw [List.take_of_length_le (by omega)] at hc ⊢
    obtain ⟨b1, b2⟩ := melB_ok (mvd_ok h hc)
    simp only [spec_RetuneText.l0]
    rw [if_neg (by omega), l26Notes_eq hk b1 b2 (by omega)]
    unfold moved
    rw [if_pos hc]; rfl
  | succ d ih =>
    intro K i hi hK
    obtain ⟨K, rfl⟩ : ∃ m, K = m + 1 := ⟨K - 1, by omega⟩
    have hlt : i < ys.length := by omega
    by_cases hc : ((mvd k o ys).take i).all (fun x => pB x.f0) = true
    rotate_left
    · exact Or.inr hc
    left
    rw [if_pos hc]
    have ht : (mvd k o ys).take (i + 1) = (mvd k o ys).take i ++ [impl_RetuneText.mv k o ys[i]] := by
      rw [List.take_add_one, List.getElem?_eq_getElem (by omega)]
      unfold mvd
      rw [List.getElem_map]; rfl
    simp only [spec_RetuneText.l0]
    rw [if_pos (lt_cast hlt), if_pos (nn_cast i), rdN_get hlt, l03Pitch_eq]; simp only [Option.bind_some]
    cases hp : pB (wrap64 (wrap64 (ys[i].f0 + k) - o))
    · rw [if_neg (by decide)]
      unfold moved
      have : ¬ ((mvd k o ys).all fun x => pB x.f0) = true := fun e => by
        have hm : impl_RetuneText.mv k o ys[i] ∈ mvd k o ys := List.mem_map.2 ⟨_, List.getElem_mem hlt, rfl⟩
        have := List.all_eq_true.1 e _ hm
        rw [show (impl_RetuneText.mv k o ys[i]).f0 = wrap64 (wrap64 (ys[i].f0 + k) - o) from rfl, hp] at this
        cases this
      rw [if_neg this]
    · rw [if_pos rfl, if_pos (by rw [List.length_take]; omega), wrap_succ hlt (by omega)]
      have e : (mvd k o ys).take i ++ [(⟨wrap64 (wrap64 (ys[i].f0 + k) - o), ys[i].f1⟩ : S67)] = (mvd k o ys).take (i + 1) := by rw [ht]; rfl
      have hc2 : ((mvd k o ys).take (i + 1)).all (fun x => pB x.f0) = true := by
        rw [ht, List.all_append, hc]
        show (true && (pB (wrap64 (wrap64 (ys[i].f0 + k) - o)) && true)) = true
        rw [hp]; rfl
      rw [e]
      have := (ih K (i + 1) (by omega) (by omega)).resolve_right (fun n => n hc2)
      rw [if_pos hc2] at this
      exact this
theorem Retune_spec (s k o : Int) {a : ByteArray} (ha : a.size ≤ 1048576) {K : Nat} (hK : 5000002 ≤ K) : spec_RetuneText.f K s k o a = some (retR s k o a.data.toList) := by
  obtain ⟨K, rfl⟩ : ∃ m, K = m + 1 := ⟨K - 1, by omega⟩
  unfold spec_RetuneText.f retR
  rw [l26Script_eq, l26Script_eq]; simp only [Option.bind_some, spec_RetuneText.j0]
  by_cases h : keyB s k = true
  · by_cases h2 : keyB s o = true
    · rw [if_pos h, h2, if_neg (by decide), if_pos ⟨h, rfl⟩, l26Read_eq h ha (by omega)]; simp only [Option.bind_some]
      cases hn : notesOf s k a.data.toList with
      | none => rfl
      | some ys =>
        show (if true = true then spec_RetuneText.l0 K s k o ys [] 0 else _) = _
        rw [if_pos rfl]
        have := (Retune_l0 (k := k) h2 (notesOf_ok hn) ys.length K 0 (by omega) (by have := (melB_ok (notesOf_ok hn)).1; omega)).resolve_right (fun n => n rfl)
        rw [List.take_zero, if_pos (by rfl)] at this
        exact this
    · have h2' : keyB s o = false := Bool.eq_false_iff.2 h2
      rw [if_pos h, h2', if_pos (by decide), if_neg (fun e => absurd e.2 (by decide))]
  · rw [if_neg h, if_pos trivial, if_neg (fun e => h e.1)]
theorem Retune_impl (s k o : Int) {a : ByteArray} (ha : a.size ≤ 1048576) {K : Nat} (hK : 5000002 ≤ K) : impl_RetuneText.f K s k o a = some (retR s k o a.data.toList) := by
  unfold impl_RetuneText.f retR
  rw [keyOk_eq, keyOk_eq]; simp only [Option.bind_some]
  by_cases h : keyB s k = true
  · by_cases h2 : keyB s o = true
    · obtain ⟨m, e, hm⟩ := readNotesIn_eq h ha (K := K) (by omega)
      rw [if_pos h, if_pos h2, if_pos ⟨h, h2⟩, e]; simp only [Option.bind_some]
      cases hn : notesOf s k a.data.toList with
      | none => rfl
      | some ys =>
        rw [hm ys hn]
        have ho := notesOf_ok hn
        have hl := (melB_ok ho).1
        show (if true = true then (if ys.length ≤ 1000000 then ((impl_RetuneText.chk (mvd k o ys)).bind fun c => if c = 0 then ((impl_notesIn.f K s o (mvd k o ys)).bind fun t => some (t, (0 : Int))) else some ((⟨#[]⟩ : ByteArray), c)) else none) else _) = _
        rw [if_pos rfl, if_pos (by omega), chk_eq ho]; simp only [Option.bind_some]
        unfold moved
        by_cases hc : ((mvd k o ys).all fun x => pB x.f0) = true
        · obtain ⟨b1, b2⟩ := melB_ok (mvd_ok ho hc)
          rw [if_pos hc, if_pos rfl, notesIn_eq h2 b1 b2 (by omega), if_pos hc]; rfl
        · rw [if_neg hc, if_neg (by decide), if_neg hc]
    · rw [if_pos h, if_neg h2, if_neg (fun e => h2 e.2)]
  · rw [if_neg h, if_neg (fun e => h e.1)]
end Go.Proofs.YtmoamoopoifnlaaGreatDoor.P

/- The plain law behind FnExactRetuneText: both move the melody to the other key. Conditions: none beyond the kinds' own bounds. -/
namespace Go.Proofs.YtmoamoopoifnlaaGreatDoor.Pure
open Go.RowKit Go.Proofs.YtmoamoopoifnlaaGreatDoorW.PrintWords Go.Proofs.YtmoamoopoifnlaaGreatDoorL Go.Proofs.YtmoamoopoifnlaaGreatDoor.P
theorem FnExactRetuneText : ∀ (x0 : Int) (x1 : Int) (x2 : Int) (x3 : ByteArray), (Lit.int .i64 x0).wf = true → (Lit.int .i64 x1).wf = true → (Lit.int .i64 x2).wf = true → x3.size ≤ maxLen → ∃ k : Nat, P.laws_FnExactRetuneText.f k x0 x1 x2 x3 = some true := by
  intro s k o a _ _ _ _
  refine ⟨6000000, ?_⟩
  unfold laws_FnExactRetuneText.f
  by_cases hz : (a.size : Int) > 1048576
  · rw [if_pos hz]
  rw [if_neg hz, Retune_spec s k o (by omega) (by omega)]; simp only [Option.bind_some]
  rw [Retune_impl s k o (by omega) (by omega)]; simp
end Go.Proofs.YtmoamoopoifnlaaGreatDoor.Pure
