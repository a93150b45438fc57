/- Part c of what FnExactValidTurns stands on: functions of the program as Lean functions with their walks, and plain lemmas. -/
import Derived.Test.YtjlfolmjkppneaaK
import Derived.Test.YtjlfolmjkppneaaBFnExactValidTurnsb
import Derived.Test.YtjlfolmjkppneaaBFnExactValidTurnsa
/- laws_eqAnswerS: what it answers, and that the machine's call comes to it. -/
namespace Go.Proofs.Ytjlfolmjkppneaa.P
open Go.RowKit Go.Proofs.YtjlfolmjkppneaaW.PrintWords Go.Proofs.YtjlfolmjkppneaaW.PrintLast Go.Proofs.YtjlfolmjkppneaaW.PrintMore
attribute [local go_sem] max2_int min2_int max_two min_two max_three min_three max_four min_four str_leq str_gtr str_geq
set_option linter.unusedVariables false
set_option linter.unusedSimpArgs false

/-! ### laws_eqAnswerS: function 41 -/
def laws_eqAnswerS.l0 : Nat → List (S85) → List (S85) → Int → Option (Bool)
  | 0, _, _, _ => none
  | k + 1, x0, x1, x5 => if x5 < (x0.length : Int) then (if 0 ≤ x5 then (if x5 < (x1.length : Int) then ((laws_eqAnswer.f ((rd_T85 x0 x5).f0) ((rd_T85 x0 x5).f1) ((rd_T85 x0 x5).f2) ((rd_T85 x1 x5).f0) ((rd_T85 x1 x5).f1) ((rd_T85 x1 x5).f2)).bind fun t149 => (if t149 = true then (laws_eqAnswerS.l0 k x0 x1 (wrap64 (x5 + 1))) else (some false))) else (none)) else (none)) else (some true)
def laws_eqAnswerS.f (k : Nat) (l0 : List (S85)) (l1 : List (S85)) : Option (Bool) := if (l0.length : Int) = (l1.length : Int) then (laws_eqAnswerS.l0 k l0 l1 0) else (some false)
theorem laws_eqAnswerS.mono_l : ∀ k, (∀ y0 y1 y2, LeO (laws_eqAnswerS.l0 k y0 y1 y2) (laws_eqAnswerS.l0 (k + 1) y0 y1 y2))
  | 0 => fun _ _ _ r h => by simp [laws_eqAnswerS.l0] at h
  | k + 1 => by
    have ih0 := laws_eqAnswerS.mono_l k
    · intro y0 y1 y2
      unfold laws_eqAnswerS.l0
      repeat' first
      | (with_reducible exact ih0 _ _ _)
      | (with_reducible exact LeO.refl _)
      | (with_reducible exact LeO.none _)
      | (with_reducible refine LeO.ite ?_ ?_)
      | (with_reducible refine LeO.bind ?_ (fun _ => ?_))
      | exact ih0 _ _ _
      | exact LeO.none _
      | refine LeO.ite ?_ ?_
      | refine LeO.bind ?_ (fun _ => ?_)
theorem laws_eqAnswerS.mono : ∀ a0 a1 k, LeO (laws_eqAnswerS.f k a0 a1) (laws_eqAnswerS.f (k + 1) a0 a1) := by
  intro a0 a1 k
  have ih0 := laws_eqAnswerS.mono_l k
  unfold laws_eqAnswerS.f
  repeat' first
      | (with_reducible exact ih0 _ _ _)
      | (with_reducible exact LeO.refl _)
      | (with_reducible exact LeO.none _)
      | (with_reducible refine LeO.ite ?_ ?_)
      | (with_reducible refine LeO.bind ?_ (fun _ => ?_))
      | exact ih0 _ _ _
      | exact LeO.none _
      | refine LeO.ite ?_ ?_
      | refine LeO.bind ?_ (fun _ => ?_)
def laws_eqAnswerS.T6 : Bool × List (List Nat × List Nat) := (true, [([], []), ([], []), ([0, 1], [0, 1]), ([2], [2]), ([], []), ([], []), ([4, 5], [4, 5]), ([6], [6]), ([3, 7], [3, 7]), ([8], [8])])
def laws_eqAnswerS.B6 : List Nat := [0, 0, 3, 7, 0, 0, 48, 112, 255, 511]
theorem laws_eqAnswerS.tab6 : rtab .any (opsOf Try.f41 6) = laws_eqAnswerS.T6 := by kernel_rfl
theorem laws_eqAnswerS.bits6 : waitsOk laws_eqAnswerS.T6.2 laws_eqAnswerS.B6 = true := by kernel_rfl
set_option maxHeartbeats 8000000 in
set_option maxRecDepth 100000 in
theorem laws_eqAnswerS.calls (k : Nat) (A0 : Option Addr) (c0 : Nat) (l0 : List (S85)) (A1 : Option Addr) (c1 : Nat) (l1 : List (S85)) (r : Bool) (w : World) (hr0 : Kd.C k85 w A0 l0.length l0) (hc0 : l0.length ≤ c0) (hr1 : Kd.C k85 w A1 l1.length l1) (hc1 : l1.length ≤ c1) (h : laws_eqAnswerS.f k l0 l1 = some r) :
    Calls Try.prog 41 #[.slice A0 l0.length c0, .slice A1 l1.length c1] w fun e w' => e = .returned (.bool r) ∧ Below w.heap.size w w' := by
  have hu85 := Try.underlying85
  have HR0 := Aside0.mk hr0
  have HC0 := Aside0.mk hc0
  clear hr0 hc0
  have HR1 := Aside0.mk hr1
  have HC1 := Aside0.mk hc1
  clear hr1 hc1
  have HB := Aside0.mk (Below.refl w.heap.size w)
  have H : (if (l0.length : Int) = (l1.length : Int) then (laws_eqAnswerS.l0 k l0 l1 0) else (some false)) = some r := h
  clear h
  by_cases c3 : (l0.length : Int) = (l1.length : Int)
  · rw [if_pos c3] at H
    have c3b0 : ((l0.length : Int) == (l1.length : Int)) = true := beq_iff_eq.mpr c3
    have c3b1 : ((l0.length : Int) != (l1.length : Int)) = false := bne_eq_false_iff_eq.mpr c3
    have c3b2 : (l0.length == l1.length) = true := by first | simpa using c3 | (simp at c3 ⊢; omega)
    clear c3
    have H' := Aside0.mk H
    clear H
    go_enter Try.func41, Try.ntmps41
    go_wp2
    go_loopg [5] k (fun kq v5 w' => ∃ (x5_1 : Int), v5 = .int .i64 x5_1 ∧ Aside0 (laws_eqAnswerS.l0 kq l0 l1 x5_1 = some r) ∧ Aside0 (kq ≤ k) ∧ Aside0 (Below w.heap.size w w'))
    case atStart => exact ⟨(0), (by first | rfl | (simp; done) | (simp [*]; done)), H', ⟨Nat.le_refl _⟩, ⟨by repeat (first | (with_reducible first | exact HB.out | apply below_alloc | apply pw_below_drewN | apply below_drew1) | exact HB.out)⟩⟩
    case round =>
      clear H'
      try clear c1
      try clear p2
      try clear c3
      try clear c3b0
      try clear c3b1
      try clear c3b2
      obtain ⟨x5_1, rfl, HA, HK1, HB⟩ := hrel
      cases gk with
      | zero => exact absurd HA.out (by simp [laws_eqAnswerS.l0])
      | succ k1 =>
        have H := HA.out
        clear HA
        simp only [laws_eqAnswerS.l0] at H
        by_cases c4 : x5_1 < (l0.length : Int)
        · rw [if_pos c4] at H
          have c4b0 : decide (x5_1 < (l0.length : Int)) = true := decide_eq_true c4
          clear c4
          by_cases c5 : 0 ≤ x5_1
          · rw [if_pos c5] at H
            have c5b0 : decide (0 ≤ x5_1) = true := decide_eq_true c5
            clear c5
            by_cases c6 : x5_1 < (l1.length : Int)
            · rw [if_pos c6] at H
              have c6b0 : decide (x5_1 < (l1.length : Int)) = true := decide_eq_true c6
              clear c6
              replace H := Option.bind_eq_some_iff.mp H
              obtain ⟨t149, A70, H⟩ := H
              replace H : (if t149 = true then (laws_eqAnswerS.l0 k1 l0 l1 (wrap64 (x5_1 + 1))) else (some false)) = some r := H
              have A7 := Aside0.mk A70
              clear A70
              by_cases c8 : t149 = true
              · subst c8
                have H1 : (laws_eqAnswerS.l0 k1 l0 l1 (wrap64 (x5_1 + 1))) = some r := by rw [if_pos rfl] at H; exact H
                clear H
                have H := H1
                clear H1
                have H' := Aside0.mk H
                clear H
                try go_wp2
                have n0_ := Aside0.mk (below_drew1 HB.out)
                clear HB
                have HB := n0_
                clear n0_
                have p147 : 0 ≤ (x5_1 : Int) := of_decide_eq_true (by first | (with_reducible assumption) | assumption)
                have q147 : x5_1 < (l0.length : Int) := of_decide_eq_true (by first | (with_reducible assumption) | assumption)
                obtain ⟨ad147, e147, hx147_0, hx147_1, hx147_2⟩ := at_T85 HR0.out x5_1 p147 q147
                have hw147_2 := hx147_2
                have hw147_1 := hx147_1
                have hw147_0 := hx147_0
                cases e147
                replace hx147_0 := (HB.out.cell (World.block_lt_of_cell? w _ hx147_0)).trans hx147_0
                replace hx147_1 := (HB.out.cell (World.block_lt_of_cell? w _ hx147_1)).trans hx147_1
                replace hx147_2 := (HB.out.cell (World.block_lt_of_cell? w _ hx147_2)).trans hx147_2
                replace p147 := eq_true p147
                replace q147 := eq_true q147
                have p148 : 0 ≤ (x5_1 : Int) := of_decide_eq_true (by first | (with_reducible assumption) | assumption)
                have q148 : x5_1 < (l1.length : Int) := of_decide_eq_true (by first | (with_reducible assumption) | assumption)
                obtain ⟨ad148, e148, hx148_0, hx148_1, hx148_2⟩ := at_T85 HR1.out x5_1 p148 q148
                have hw148_2 := hx148_2
                have hw148_1 := hx148_1
                have hw148_0 := hx148_0
                cases e148
                replace hx148_0 := (HB.out.cell (World.block_lt_of_cell? w _ hx148_0)).trans hx148_0
                replace hx148_1 := (HB.out.cell (World.block_lt_of_cell? w _ hx148_1)).trans hx148_1
                replace hx148_2 := (HB.out.cell (World.block_lt_of_cell? w _ hx148_2)).trans hx148_2
                replace p148 := eq_true p148
                replace q148 := eq_true q148
                refine start_ (n := 10) (S := fun w' => w'.cell? (ad147.add ((x5_1).toNat * 3)) = some (.string ((rd_T85 l0 x5_1).f0)) ∧ w'.cell? ⟨(ad147.add ((x5_1).toNat * 3)).block, (ad147.add ((x5_1).toNat * 3)).off + 1, none⟩ = some (.string ((rd_T85 l0 x5_1).f1)) ∧ w'.cell? ⟨(ad147.add ((x5_1).toNat * 3)).block, (ad147.add ((x5_1).toNat * 3)).off + 2, none⟩ = some (.int .i64 ((rd_T85 l0 x5_1).f2)) ∧ w'.cell? (ad148.add ((x5_1).toNat * 3)) = some (.string ((rd_T85 l1 x5_1).f0)) ∧ w'.cell? ⟨(ad148.add ((x5_1).toNat * 3)).block, (ad148.add ((x5_1).toNat * 3)).off + 1, none⟩ = some (.string ((rd_T85 l1 x5_1).f1)) ∧ w'.cell? ⟨(ad148.add ((x5_1).toNat * 3)).block, (ad148.add ((x5_1).toNat * 3)).off + 2, none⟩ = some (.int .i64 ((rd_T85 l1 x5_1).f2))) (ds := []) #[false, false, false, false, false, false, false, false, false, false] (by kernel_rfl) rfl rfl ⟨((HB.out.cell (World.block_lt_of_cell? w _ hw147_0)).trans hw147_0), ((HB.out.cell (World.block_lt_of_cell? w _ hw147_1)).trans hw147_1), ((HB.out.cell (World.block_lt_of_cell? w _ hw147_2)).trans hw147_2), ((HB.out.cell (World.block_lt_of_cell? w _ hw148_0)).trans hw148_0), ((HB.out.cell (World.block_lt_of_cell? w _ hw148_1)).trans hw148_1), ((HB.out.cell (World.block_lt_of_cell? w _ hw148_2)).trans hw148_2)⟩ (fun hHeld => ?_); refine with_tabW laws_eqAnswerS.tab6 laws_eqAnswerS.bits6 (fun HT_ HW_ => ?_)
                generalize wr.drew = w9 at HB hx147_0 hx147_1 hx147_2 hx148_0 hx148_1 hx148_2 hHeld ⊢
                refine pure_ (i := 0) (N := some 17) (v := ?_) (a' := ?_) #[true, false, false, false, false, false, false, false, false, false] rfl rfl (any_of HT_.out (by kernel_rfl)) (fun _ _ _ h => h) (Or.inl ⟨by rfl, ?_⟩) ?_ ?_
                rotate_left
                · intro w'
                  go_simp
                  with_reducible rfl
                rotate_left
                · simp only [Act.put, List.setIfInBounds_toArray, List.set_cons_zero, List.set_cons_succ, i64_w, i32_w]
                  rfl
                refine pure_ (i := 1) (N := some 18) (v := ?_) (a' := ?_) #[true, true, false, false, false, false, false, false, false, false] rfl rfl (any_of HT_.out (by kernel_rfl)) (fun _ _ _ h => h) (Or.inl ⟨by rfl, ?_⟩) ?_ ?_
                rotate_left
                · intro w'
                  go_simp
                  with_reducible rfl
                rotate_left
                · simp only [Act.put, List.setIfInBounds_toArray, List.set_cons_zero, List.set_cons_succ, i64_w, i32_w]
                  rfl
                refine pure_ (i := 2) (N := some 19) (v := ?_) (a' := ?_) #[true, true, true, false, false, false, false, false, false, false] rfl rfl (any_of HT_.out (by kernel_rfl)) (fun _ _ _ h => h) (Or.inl ⟨by rfl, ?_⟩) ?_ ?_
                rotate_left
                · intro w'
                  go_simp
                  with_reducible rfl
                rotate_left
                · simp only [Act.put, List.setIfInBounds_toArray, List.set_cons_zero, List.set_cons_succ, i64_w, i32_w]
                  rfl
                refine pure_ (i := 4) (N := some 21) (v := ?_) (a' := ?_) #[true, true, true, false, true, false, false, false, false, false] rfl rfl (any_of HT_.out (by kernel_rfl)) (fun _ _ _ h => h) (Or.inl ⟨by rfl, ?_⟩) ?_ ?_
                rotate_left
                · intro w'
                  go_simp
                  with_reducible rfl
                rotate_left
                · simp only [Act.put, List.setIfInBounds_toArray, List.set_cons_zero, List.set_cons_succ, i64_w, i32_w]
                  rfl
                refine pure_ (i := 5) (N := some 22) (v := ?_) (a' := ?_) #[true, true, true, false, true, true, false, false, false, false] rfl rfl (any_of HT_.out (by kernel_rfl)) (fun _ _ _ h => h) (Or.inl ⟨by rfl, ?_⟩) ?_ ?_
                rotate_left
                · intro w'
                  go_simp
                  with_reducible rfl
                rotate_left
                · simp only [Act.put, List.setIfInBounds_toArray, List.set_cons_zero, List.set_cons_succ, i64_w, i32_w]
                  rfl
                refine pure_ (i := 6) (N := some 23) (v := ?_) (a' := ?_) #[true, true, true, false, true, true, true, false, false, false] rfl rfl (any_of HT_.out (by kernel_rfl)) (fun _ _ _ h => h) (Or.inl ⟨by rfl, ?_⟩) ?_ ?_
                rotate_left
                · intro w'
                  go_simp
                  with_reducible rfl
                rotate_left
                · simp only [Act.put, List.setIfInBounds_toArray, List.set_cons_zero, List.set_cons_succ, i64_w, i32_w]
                  rfl
                refine take_ (i := 3) (N := some 20) (v := ?_) (a' := ?_) #[true, true, true, true, true, true, true, false, false, false] rfl rfl (take_ofW HT_.out HW_.out (by kernel_rfl)) (fun _ _ _ h => h) (Or.inl ⟨by rfl, ?_⟩) hHeld ?_ ?_
                rotate_left
                · rintro w' ⟨s0, s1, s2, s3, s4, s5⟩
                  go_simp
                  with_reducible rfl
                rotate_left
                · simp only [Act.put, List.setIfInBounds_toArray, List.set_cons_zero, List.set_cons_succ, i64_w, i32_w]
                  rfl
                refine take_ (i := 7) (N := some 24) (v := ?_) (a' := ?_) #[true, true, true, true, true, true, true, true, false, false] rfl rfl (take_ofW HT_.out HW_.out (by kernel_rfl)) (fun _ _ _ h => h) (Or.inl ⟨by rfl, ?_⟩) hHeld ?_ ?_
                rotate_left
                · rintro w' ⟨s0, s1, s2, s3, s4, s5⟩
                  go_simp
                  with_reducible rfl
                rotate_left
                · simp only [Act.put, List.setIfInBounds_toArray, List.set_cons_zero, List.set_cons_succ, i64_w, i32_w]
                  rfl
                refine one_ (i := 8) (N := some 25) #[true, true, true, true, true, true, true, true, true, false] rfl rfl (one_of HT_.out (by kernel_rfl)) (by decide) (fun K hK => ?_)
                refine goes_ Try.func75 (by kernel_rfl) rfl #[.agg #[.string ((rd_T85 l0 x5_1).f0), .string ((rd_T85 l0 x5_1).f1), .int .i64 ((rd_T85 l0 x5_1).f2)], .agg #[.string ((rd_T85 l1 x5_1).f0), .string ((rd_T85 l1 x5_1).f1), .int .i64 ((rd_T85 l1 x5_1).f2)]] (by rfl) rfl rfl (by (try simp only [List.map_toArray, List.map_cons, List.map_nil]); first | done | rfl | (simp only [List.length_drop, List.length_take]; rfl)) ?_
                with_reducible refine (laws_eqAnswer.calls ((rd_T85 l0 x5_1).f0) ((rd_T85 l0 x5_1).f1) ((rd_T85 l0 x5_1).f2) ((rd_T85 l1 x5_1).f0) ((rd_T85 l1 x5_1).f1) ((rd_T85 l1 x5_1).f2) true _ A7.out).mono ?_
                rintro e w10 ⟨rfl, hb⟩
                refine ⟨_, rfl, ?_⟩
                have n0_ := Aside0.mk (below_step (by repeat (first | (with_reducible first | exact HB.out | apply below_alloc | apply pw_below_drewN | apply below_drew1) | exact HB.out)) hb)
                clear HB
                have HB := n0_
                clear n0_
                (try clear hb)
                (try clear hb2)
                (try clear hk)
                (try clear hi)
                refine hK.out _ _ ⟨((HB.out.cell (World.block_lt_of_cell? w _ hw147_0)).trans hw147_0), ((HB.out.cell (World.block_lt_of_cell? w _ hw147_1)).trans hw147_1), ((HB.out.cell (World.block_lt_of_cell? w _ hw147_2)).trans hw147_2), ((HB.out.cell (World.block_lt_of_cell? w _ hw148_0)).trans hw148_0), ((HB.out.cell (World.block_lt_of_cell? w _ hw148_1)).trans hw148_1), ((HB.out.cell (World.block_lt_of_cell? w _ hw148_2)).trans hw148_2)⟩ (fun hHeld => ?_)
                clear hK K
                refine norm_ (a' := ?_) ?_ ?_
                rotate_left
                · show Act.put _ (some 25) _ = _
                  simp only [Act.put, List.setIfInBounds_toArray, List.set_cons_zero, List.set_cons_succ, i64_w, i32_w]
                  rfl
                refine pure_ (i := 9) (N := some 26) (v := ?_) (a' := ?_) #[true, true, true, true, true, true, true, true, true, true] rfl rfl (any_of HT_.out (by kernel_rfl)) (fun _ _ _ h => h) (Or.inl ⟨by rfl, ?_⟩) ?_ ?_
                rotate_left
                · intro w'
                  go_simp
                  with_reducible rfl
                rotate_left
                · simp only [Act.put, List.setIfInBounds_toArray, List.set_cons_zero, List.set_cons_succ, i64_w, i32_w]
                  rfl
                refine done_ (done_of HT_.out (by kernel_rfl)) ?_
                try go_wp2
                go_roundg k1
                case measure => have := HK1.out; omega
                case rel => exact ⟨(wrap64 (x5_1 + 1)), (by first | rfl | (simp; done) | (simp [*]; done)), H', ⟨by have := HK1.out; omega⟩, ⟨by repeat (first | (with_reducible first | exact HB.out | apply below_alloc | apply pw_below_drewN | apply below_drew1) | exact HB.out)⟩⟩
              · replace c8 := Bool.eq_false_iff.mpr c8
                subst c8
                have H1 : (some false) = some r := by rw [if_neg (show ¬ (false = true) by decide)] at H; exact H
                clear H
                have H := H1
                clear H1
                obtain rfl := Option.some.inj H
                try go_wp2
                have n0_ := Aside0.mk (below_drew1 HB.out)
                clear HB
                have HB := n0_
                clear n0_
                have p147 : 0 ≤ (x5_1 : Int) := of_decide_eq_true (by first | (with_reducible assumption) | assumption)
                have q147 : x5_1 < (l0.length : Int) := of_decide_eq_true (by first | (with_reducible assumption) | assumption)
                obtain ⟨ad147, e147, hx147_0, hx147_1, hx147_2⟩ := at_T85 HR0.out x5_1 p147 q147
                have hw147_2 := hx147_2
                have hw147_1 := hx147_1
                have hw147_0 := hx147_0
                cases e147
                replace hx147_0 := (HB.out.cell (World.block_lt_of_cell? w _ hx147_0)).trans hx147_0
                replace hx147_1 := (HB.out.cell (World.block_lt_of_cell? w _ hx147_1)).trans hx147_1
                replace hx147_2 := (HB.out.cell (World.block_lt_of_cell? w _ hx147_2)).trans hx147_2
                replace p147 := eq_true p147
                replace q147 := eq_true q147
                have p148 : 0 ≤ (x5_1 : Int) := of_decide_eq_true (by first | (with_reducible assumption) | assumption)
                have q148 : x5_1 < (l1.length : Int) := of_decide_eq_true (by first | (with_reducible assumption) | assumption)
                obtain ⟨ad148, e148, hx148_0, hx148_1, hx148_2⟩ := at_T85 HR1.out x5_1 p148 q148
                have hw148_2 := hx148_2
                have hw148_1 := hx148_1
                have hw148_0 := hx148_0
                cases e148
                replace hx148_0 := (HB.out.cell (World.block_lt_of_cell? w _ hx148_0)).trans hx148_0
                replace hx148_1 := (HB.out.cell (World.block_lt_of_cell? w _ hx148_1)).trans hx148_1
                replace hx148_2 := (HB.out.cell (World.block_lt_of_cell? w _ hx148_2)).trans hx148_2
                replace p148 := eq_true p148
                replace q148 := eq_true q148
                refine start_ (n := 10) (S := fun w' => w'.cell? (ad147.add ((x5_1).toNat * 3)) = some (.string ((rd_T85 l0 x5_1).f0)) ∧ w'.cell? ⟨(ad147.add ((x5_1).toNat * 3)).block, (ad147.add ((x5_1).toNat * 3)).off + 1, none⟩ = some (.string ((rd_T85 l0 x5_1).f1)) ∧ w'.cell? ⟨(ad147.add ((x5_1).toNat * 3)).block, (ad147.add ((x5_1).toNat * 3)).off + 2, none⟩ = some (.int .i64 ((rd_T85 l0 x5_1).f2)) ∧ w'.cell? (ad148.add ((x5_1).toNat * 3)) = some (.string ((rd_T85 l1 x5_1).f0)) ∧ w'.cell? ⟨(ad148.add ((x5_1).toNat * 3)).block, (ad148.add ((x5_1).toNat * 3)).off + 1, none⟩ = some (.string ((rd_T85 l1 x5_1).f1)) ∧ w'.cell? ⟨(ad148.add ((x5_1).toNat * 3)).block, (ad148.add ((x5_1).toNat * 3)).off + 2, none⟩ = some (.int .i64 ((rd_T85 l1 x5_1).f2))) (ds := []) #[false, false, false, false, false, false, false, false, false, false] (by kernel_rfl) rfl rfl ⟨((HB.out.cell (World.block_lt_of_cell? w _ hw147_0)).trans hw147_0), ((HB.out.cell (World.block_lt_of_cell? w _ hw147_1)).trans hw147_1), ((HB.out.cell (World.block_lt_of_cell? w _ hw147_2)).trans hw147_2), ((HB.out.cell (World.block_lt_of_cell? w _ hw148_0)).trans hw148_0), ((HB.out.cell (World.block_lt_of_cell? w _ hw148_1)).trans hw148_1), ((HB.out.cell (World.block_lt_of_cell? w _ hw148_2)).trans hw148_2)⟩ (fun hHeld => ?_); refine with_tabW laws_eqAnswerS.tab6 laws_eqAnswerS.bits6 (fun HT_ HW_ => ?_)
                generalize wr.drew = w11 at HB hx147_0 hx147_1 hx147_2 hx148_0 hx148_1 hx148_2 hHeld ⊢
                refine pure_ (i := 0) (N := some 17) (v := ?_) (a' := ?_) #[true, false, false, false, false, false, false, false, false, false] rfl rfl (any_of HT_.out (by kernel_rfl)) (fun _ _ _ h => h) (Or.inl ⟨by rfl, ?_⟩) ?_ ?_
                rotate_left
                · intro w'
                  go_simp
                  with_reducible rfl
                rotate_left
                · simp only [Act.put, List.setIfInBounds_toArray, List.set_cons_zero, List.set_cons_succ, i64_w, i32_w]
                  rfl
                refine pure_ (i := 1) (N := some 18) (v := ?_) (a' := ?_) #[true, true, false, false, false, false, false, false, false, false] rfl rfl (any_of HT_.out (by kernel_rfl)) (fun _ _ _ h => h) (Or.inl ⟨by rfl, ?_⟩) ?_ ?_
                rotate_left
                · intro w'
                  go_simp
                  with_reducible rfl
                rotate_left
                · simp only [Act.put, List.setIfInBounds_toArray, List.set_cons_zero, List.set_cons_succ, i64_w, i32_w]
                  rfl
                refine pure_ (i := 2) (N := some 19) (v := ?_) (a' := ?_) #[true, true, true, false, false, false, false, false, false, false] rfl rfl (any_of HT_.out (by kernel_rfl)) (fun _ _ _ h => h) (Or.inl ⟨by rfl, ?_⟩) ?_ ?_
                rotate_left
                · intro w'
                  go_simp
                  with_reducible rfl
                rotate_left
                · simp only [Act.put, List.setIfInBounds_toArray, List.set_cons_zero, List.set_cons_succ, i64_w, i32_w]
                  rfl
                refine pure_ (i := 4) (N := some 21) (v := ?_) (a' := ?_) #[true, true, true, false, true, false, false, false, false, false] rfl rfl (any_of HT_.out (by kernel_rfl)) (fun _ _ _ h => h) (Or.inl ⟨by rfl, ?_⟩) ?_ ?_
                rotate_left
                · intro w'
                  go_simp
                  with_reducible rfl
                rotate_left
                · simp only [Act.put, List.setIfInBounds_toArray, List.set_cons_zero, List.set_cons_succ, i64_w, i32_w]
                  rfl
                refine pure_ (i := 5) (N := some 22) (v := ?_) (a' := ?_) #[true, true, true, false, true, true, false, false, false, false] rfl rfl (any_of HT_.out (by kernel_rfl)) (fun _ _ _ h => h) (Or.inl ⟨by rfl, ?_⟩) ?_ ?_
                rotate_left
                · intro w'
                  go_simp
                  with_reducible rfl
                rotate_left
                · simp only [Act.put, List.setIfInBounds_toArray, List.set_cons_zero, List.set_cons_succ, i64_w, i32_w]
                  rfl
                refine pure_ (i := 6) (N := some 23) (v := ?_) (a' := ?_) #[true, true, true, false, true, true, true, false, false, false] rfl rfl (any_of HT_.out (by kernel_rfl)) (fun _ _ _ h => h) (Or.inl ⟨by rfl, ?_⟩) ?_ ?_
                rotate_left
                · intro w'
                  go_simp
                  with_reducible rfl
                rotate_left
                · simp only [Act.put, List.setIfInBounds_toArray, List.set_cons_zero, List.set_cons_succ, i64_w, i32_w]
                  rfl
                refine take_ (i := 3) (N := some 20) (v := ?_) (a' := ?_) #[true, true, true, true, true, true, true, false, false, false] rfl rfl (take_ofW HT_.out HW_.out (by kernel_rfl)) (fun _ _ _ h => h) (Or.inl ⟨by rfl, ?_⟩) hHeld ?_ ?_
                rotate_left
                · rintro w' ⟨s0, s1, s2, s3, s4, s5⟩
                  go_simp
                  with_reducible rfl
                rotate_left
                · simp only [Act.put, List.setIfInBounds_toArray, List.set_cons_zero, List.set_cons_succ, i64_w, i32_w]
                  rfl
                refine take_ (i := 7) (N := some 24) (v := ?_) (a' := ?_) #[true, true, true, true, true, true, true, true, false, false] rfl rfl (take_ofW HT_.out HW_.out (by kernel_rfl)) (fun _ _ _ h => h) (Or.inl ⟨by rfl, ?_⟩) hHeld ?_ ?_
                rotate_left
                · rintro w' ⟨s0, s1, s2, s3, s4, s5⟩
                  go_simp
                  with_reducible rfl
                rotate_left
                · simp only [Act.put, List.setIfInBounds_toArray, List.set_cons_zero, List.set_cons_succ, i64_w, i32_w]
                  rfl
                refine one_ (i := 8) (N := some 25) #[true, true, true, true, true, true, true, true, true, false] rfl rfl (one_of HT_.out (by kernel_rfl)) (by decide) (fun K hK => ?_)
                refine goes_ Try.func75 (by kernel_rfl) rfl #[.agg #[.string ((rd_T85 l0 x5_1).f0), .string ((rd_T85 l0 x5_1).f1), .int .i64 ((rd_T85 l0 x5_1).f2)], .agg #[.string ((rd_T85 l1 x5_1).f0), .string ((rd_T85 l1 x5_1).f1), .int .i64 ((rd_T85 l1 x5_1).f2)]] (by rfl) rfl rfl (by (try simp only [List.map_toArray, List.map_cons, List.map_nil]); first | done | rfl | (simp only [List.length_drop, List.length_take]; rfl)) ?_
                with_reducible refine (laws_eqAnswer.calls ((rd_T85 l0 x5_1).f0) ((rd_T85 l0 x5_1).f1) ((rd_T85 l0 x5_1).f2) ((rd_T85 l1 x5_1).f0) ((rd_T85 l1 x5_1).f1) ((rd_T85 l1 x5_1).f2) false _ A7.out).mono ?_
                rintro e w12 ⟨rfl, hb⟩
                refine ⟨_, rfl, ?_⟩
                have n0_ := Aside0.mk (below_step (by repeat (first | (with_reducible first | exact HB.out | apply below_alloc | apply pw_below_drewN | apply below_drew1) | exact HB.out)) hb)
                clear HB
                have HB := n0_
                clear n0_
                (try clear hb)
                (try clear hb2)
                (try clear hk)
                (try clear hi)
                refine hK.out _ _ ⟨((HB.out.cell (World.block_lt_of_cell? w _ hw147_0)).trans hw147_0), ((HB.out.cell (World.block_lt_of_cell? w _ hw147_1)).trans hw147_1), ((HB.out.cell (World.block_lt_of_cell? w _ hw147_2)).trans hw147_2), ((HB.out.cell (World.block_lt_of_cell? w _ hw148_0)).trans hw148_0), ((HB.out.cell (World.block_lt_of_cell? w _ hw148_1)).trans hw148_1), ((HB.out.cell (World.block_lt_of_cell? w _ hw148_2)).trans hw148_2)⟩ (fun hHeld => ?_)
                clear hK K
                refine norm_ (a' := ?_) ?_ ?_
                rotate_left
                · show Act.put _ (some 25) _ = _
                  simp only [Act.put, List.setIfInBounds_toArray, List.set_cons_zero, List.set_cons_succ, i64_w, i32_w]
                  rfl
                refine pure_ (i := 9) (N := some 26) (v := ?_) (a' := ?_) #[true, true, true, true, true, true, true, true, true, true] rfl rfl (any_of HT_.out (by kernel_rfl)) (fun _ _ _ h => h) (Or.inl ⟨by rfl, ?_⟩) ?_ ?_
                rotate_left
                · intro w'
                  go_simp
                  with_reducible rfl
                rotate_left
                · simp only [Act.put, List.setIfInBounds_toArray, List.set_cons_zero, List.set_cons_succ, i64_w, i32_w]
                  rfl
                refine done_ (done_of HT_.out (by kernel_rfl)) ?_
                try go_wp2
                go_ret
                exact ⟨by first | rfl | (simp [errW_none, errW_some] <;> rfl) | (simp [*, errW_none, errW_some] <;> rfl), by repeat (first | (with_reducible first | exact HB.out | apply below_alloc | apply pw_below_drewN | apply below_drew1) | exact HB.out)⟩
            · rw [if_neg c6] at H
              exact absurd H (by simp)
          · rw [if_neg c5] at H
            exact absurd H (by simp)
        · rw [if_neg c4] at H
          have c4b0 : decide (x5_1 < (l0.length : Int)) = false := decide_eq_false c4
          clear c4
          obtain rfl := Option.some.inj H
          go_wp2
          go_ret
          exact ⟨by first | rfl | (simp [errW_none, errW_some] <;> rfl) | (simp [*, errW_none, errW_some] <;> rfl), by repeat (first | (with_reducible first | exact HB.out | apply below_alloc | apply pw_below_drewN | apply below_drew1) | exact HB.out)⟩
  · rw [if_neg c3] at H
    have c3b0 : ((l0.length : Int) == (l1.length : Int)) = false := beq_eq_false_iff_ne.mpr c3
    have c3b1 : ((l0.length : Int) != (l1.length : Int)) = true := bne_iff_ne.mpr c3
    have c3b2 : (l0.length == l1.length) = false := by first | simpa using c3 | (simp at c3 ⊢; omega)
    obtain rfl := Option.some.inj H
    go_enter Try.func41, Try.ntmps41
    go_wp2
    go_ret
    exact ⟨by first | rfl | (simp [errW_none, errW_some] <;> rfl) | (simp [*, errW_none, errW_some] <;> rfl), by repeat (first | (with_reducible first | exact HB.out | apply below_alloc | apply pw_below_drewN | apply below_drew1) | exact HB.out)⟩

end Go.Proofs.Ytjlfolmjkppneaa.P

/- laws_eqInt64S: what it answers, and that the machine's call comes to it. -/
namespace Go.Proofs.Ytjlfolmjkppneaa.P
open Go.RowKit Go.Proofs.YtjlfolmjkppneaaW.PrintWords Go.Proofs.YtjlfolmjkppneaaW.PrintLast Go.Proofs.YtjlfolmjkppneaaW.PrintMore
attribute [local go_sem] max2_int min2_int max_two min_two max_three min_three max_four min_four str_leq str_gtr str_geq
set_option linter.unusedVariables false
set_option linter.unusedSimpArgs false

/-! ### laws_eqInt64S: function 58 -/
def laws_eqInt64S.l0 : Nat → List Int → List Int → Int → Option (Bool)
  | 0, _, _, _ => none
  | k + 1, x0, x1, x5 => if x5 < (x0.length : Int) then (if 0 ≤ x5 then (if x5 < (x1.length : Int) then (if (rd x0 x5) = (rd x1 x5) then (laws_eqInt64S.l0 k x0 x1 (wrap64 (x5 + 1))) else (some false)) else (none)) else (none)) else (some true)
def laws_eqInt64S.f (k : Nat) (l0 : List Int) (l1 : List Int) : Option (Bool) := if (l0.length : Int) = (l1.length : Int) then (laws_eqInt64S.l0 k l0 l1 0) else (some false)
theorem laws_eqInt64S.mono_l : ∀ k, (∀ y0 y1 y2, LeO (laws_eqInt64S.l0 k y0 y1 y2) (laws_eqInt64S.l0 (k + 1) y0 y1 y2))
  | 0 => fun _ _ _ r h => by simp [laws_eqInt64S.l0] at h
  | k + 1 => by
    have ih0 := laws_eqInt64S.mono_l k
    · intro y0 y1 y2
      unfold laws_eqInt64S.l0
      repeat' first
      | (with_reducible exact ih0 _ _ _)
      | (with_reducible exact LeO.refl _)
      | (with_reducible exact LeO.none _)
      | (with_reducible refine LeO.ite ?_ ?_)
      | (with_reducible refine LeO.bind ?_ (fun _ => ?_))
      | exact ih0 _ _ _
      | exact LeO.none _
      | refine LeO.ite ?_ ?_
      | refine LeO.bind ?_ (fun _ => ?_)
theorem laws_eqInt64S.mono : ∀ a0 a1 k, LeO (laws_eqInt64S.f k a0 a1) (laws_eqInt64S.f (k + 1) a0 a1) := by
  intro a0 a1 k
  have ih0 := laws_eqInt64S.mono_l k
  unfold laws_eqInt64S.f
  repeat' first
      | (with_reducible exact ih0 _ _ _)
      | (with_reducible exact LeO.refl _)
      | (with_reducible exact LeO.none _)
      | (with_reducible refine LeO.ite ?_ ?_)
      | (with_reducible refine LeO.bind ?_ (fun _ => ?_))
      | exact ih0 _ _ _
      | exact LeO.none _
      | refine LeO.ite ?_ ?_
      | refine LeO.bind ?_ (fun _ => ?_)
set_option maxHeartbeats 8000000 in
set_option maxRecDepth 100000 in
theorem laws_eqInt64S.calls (k : Nat) (A0 : Option Addr) (c0 : Nat) (l0 : List Int) (A1 : Option Addr) (c1 : Nat) (l1 : List Int) (r : Bool) (w : World) (hr0 : Kd.C (Kd.int .i64) w A0 l0.length l0) (hc0 : l0.length ≤ c0) (hr1 : Kd.C (Kd.int .i64) w A1 l1.length l1) (hc1 : l1.length ≤ c1) (h : laws_eqInt64S.f k l0 l1 = some r) :
    Calls Try.prog 58 #[.slice A0 l0.length c0, .slice A1 l1.length c1] w fun e w' => e = .returned (.bool r) ∧ Drawn0 w w' := by
  have HR0 := Aside0.mk hr0
  have HC0 := Aside0.mk hc0
  clear hr0 hc0
  have HR1 := Aside0.mk hr1
  have HC1 := Aside0.mk hc1
  clear hr1 hc1
  have H : (if (l0.length : Int) = (l1.length : Int) then (laws_eqInt64S.l0 k l0 l1 0) else (some false)) = some r := h
  clear h
  by_cases c3 : (l0.length : Int) = (l1.length : Int)
  · rw [if_pos c3] at H
    have c3b0 : ((l0.length : Int) == (l1.length : Int)) = true := beq_iff_eq.mpr c3
    have c3b1 : ((l0.length : Int) != (l1.length : Int)) = false := bne_eq_false_iff_eq.mpr c3
    have c3b2 : (l0.length == l1.length) = true := by first | simpa using c3 | (simp at c3 ⊢; omega)
    clear c3
    have H' := Aside0.mk H
    clear H
    go_enter Try.func58, Try.ntmps58
    go_wp2
    repeat (go_quiet (fail); try go_wp2)
    go_loopg [5] k (fun kq v5 w' => ∃ (x5_1 : Int), v5 = .int .i64 x5_1 ∧ Aside0 (laws_eqInt64S.l0 kq l0 l1 x5_1 = some r) ∧ Aside0 (kq ≤ k) ∧ Drawn0 w w')
    case atStart => exact ⟨(0), (by first | rfl | (simp; done) | (simp [*]; done)), H', ⟨Nat.le_refl _⟩, by repeat (first | exact Drawn0.refl _ | apply Drawn0.step)⟩
    case round =>
      clear H'
      try clear c1
      try clear p2
      try clear c3
      try clear c3b0
      try clear c3b1
      try clear c3b2
      obtain ⟨x5_1, rfl, HA, HK1, ⟨m1, rfl⟩⟩ := hrel
      cases gk with
      | zero => exact absurd HA.out (by simp [laws_eqInt64S.l0])
      | succ k1 =>
        have H := HA.out
        clear HA
        simp only [laws_eqInt64S.l0] at H
        by_cases c4 : x5_1 < (l0.length : Int)
        · rw [if_pos c4] at H
          have c4b0 : decide (x5_1 < (l0.length : Int)) = true := decide_eq_true c4
          clear c4
          by_cases c5 : 0 ≤ x5_1
          · rw [if_pos c5] at H
            have c5b0 : decide (0 ≤ x5_1) = true := decide_eq_true c5
            clear c5
            by_cases c6 : x5_1 < (l1.length : Int)
            · rw [if_pos c6] at H
              have c6b0 : decide (x5_1 < (l1.length : Int)) = true := decide_eq_true c6
              clear c6
              by_cases c7 : (rd l0 x5_1) = (rd l1 x5_1)
              · rw [if_pos c7] at H
                have c7b0 : ((rd l0 x5_1) == (rd l1 x5_1)) = true := beq_iff_eq.mpr c7
                have c7b1 : ((rd l0 x5_1) != (rd l1 x5_1)) = false := bne_eq_false_iff_eq.mpr c7
                clear c7
                have H' := Aside0.mk H
                clear H
                have p313 : 0 ≤ (x5_1 : Int) := of_decide_eq_true (by first | (with_reducible assumption) | assumption)
                have q313 : x5_1 < (l0.length : Int) := of_decide_eq_true (by first | (with_reducible assumption) | assumption)
                obtain ⟨ad313, e313, hx313_0⟩ := Kd.at_int HR0.out x5_1 p313 q313
                cases e313
                replace p313 := eq_true p313
                replace q313 := eq_true q313
                have p314 : 0 ≤ (x5_1 : Int) := of_decide_eq_true (by first | (with_reducible assumption) | assumption)
                have q314 : x5_1 < (l1.length : Int) := of_decide_eq_true (by first | (with_reducible assumption) | assumption)
                obtain ⟨ad314, e314, hx314_0⟩ := Kd.at_int HR1.out x5_1 p314 q314
                cases e314
                replace p314 := eq_true p314
                replace q314 := eq_true q314
                go_wp2
                repeat (go_quiet (fail); try go_wp2)
                go_roundg k1
                case measure => have := HK1.out; omega
                case rel => exact ⟨(wrap64 (x5_1 + 1)), (by first | rfl | (simp; done) | (simp [*]; done)), H', ⟨by have := HK1.out; omega⟩, by repeat (first | exact Drawn0.refl _ | apply Drawn0.step)⟩
              · rw [if_neg c7] at H
                have c7b0 : ((rd l0 x5_1) == (rd l1 x5_1)) = false := beq_eq_false_iff_ne.mpr c7
                have c7b1 : ((rd l0 x5_1) != (rd l1 x5_1)) = true := bne_iff_ne.mpr c7
                obtain rfl := Option.some.inj H
                have p313 : 0 ≤ (x5_1 : Int) := of_decide_eq_true (by first | (with_reducible assumption) | assumption)
                have q313 : x5_1 < (l0.length : Int) := of_decide_eq_true (by first | (with_reducible assumption) | assumption)
                obtain ⟨ad313, e313, hx313_0⟩ := Kd.at_int HR0.out x5_1 p313 q313
                cases e313
                replace p313 := eq_true p313
                replace q313 := eq_true q313
                have p314 : 0 ≤ (x5_1 : Int) := of_decide_eq_true (by first | (with_reducible assumption) | assumption)
                have q314 : x5_1 < (l1.length : Int) := of_decide_eq_true (by first | (with_reducible assumption) | assumption)
                obtain ⟨ad314, e314, hx314_0⟩ := Kd.at_int HR1.out x5_1 p314 q314
                cases e314
                replace p314 := eq_true p314
                replace q314 := eq_true q314
                go_wp2
                repeat (go_quiet (fail); try go_wp2)
                go_ret
                exact ⟨by first | rfl | (simp; done) | (simp [*]; done), by repeat (first | exact Drawn0.refl _ | apply Drawn0.step)⟩
            · rw [if_neg c6] at H
              exact absurd H (by simp)
          · rw [if_neg c5] at H
            exact absurd H (by simp)
        · rw [if_neg c4] at H
          have c4b0 : decide (x5_1 < (l0.length : Int)) = false := decide_eq_false c4
          clear c4
          obtain rfl := Option.some.inj H
          go_wp2
          repeat (go_quiet (fail); try go_wp2)
          go_ret
          exact ⟨by first | rfl | (simp; done) | (simp [*]; done), by repeat (first | exact Drawn0.refl _ | apply Drawn0.step)⟩
  · rw [if_neg c3] at H
    have c3b0 : ((l0.length : Int) == (l1.length : Int)) = false := beq_eq_false_iff_ne.mpr c3
    have c3b1 : ((l0.length : Int) != (l1.length : Int)) = true := bne_iff_ne.mpr c3
    have c3b2 : (l0.length == l1.length) = false := by first | simpa using c3 | (simp at c3 ⊢; omega)
    obtain rfl := Option.some.inj H
    go_enter Try.func58, Try.ntmps58
    go_wp2
    repeat (go_quiet (fail); try go_wp2)
    go_ret
    exact ⟨by first | rfl | (simp; done) | (simp [*]; done), by repeat (first | exact Drawn0.refl _ | apply Drawn0.step)⟩

end Go.Proofs.Ytjlfolmjkppneaa.P

/- The laws' own functions on plain data: sizes, copies, equality: what each answers. Printed by program out of the types. -/
namespace Go.Proofs.Ytjlfolmjkppneaa.P
open Go.RowKit Go.Proofs.YtjlfolmjkppneaaW.PrintWords Go.Proofs.YtjlfolmjkppneaaL
set_option linter.unusedVariables false
set_option linter.unusedSimpArgs false

theorem eqInt64S_eq {a b : List Int} (hl : a.length ≤ 1048576) {k : Nat} (hk : 1048600 ≤ k) : laws_eqInt64S.f k a b = some (decide (a = b)) := by
  unfold laws_eqInt64S.f
  by_cases h : a.length = b.length
  · rw [if_pos (by omega)]
    refine eq_loop (fun k i => laws_eqInt64S.l0 k a b i) a b h 0 (fun k i h1 h2 _ => ?_) (fun k => ?_) k (by omega)
    · simp only [laws_eqInt64S.l0]
      rw [if_pos (lt_cast h1), if_pos (nn_cast i), if_pos (lt_cast h2), rd_get h1, rd_get h2, wrap_succ h1 (by omega)]

    · simp only [laws_eqInt64S.l0]
      rw [if_neg (nlt_cast _)]
  · rw [if_neg (by omega)]
    have : a ≠ b := fun e => h (by rw [e])
    simp [this]
theorem eqStringS_eq {a b : List ByteArray} (hl : a.length ≤ 1048576) {k : Nat} (hk : 1048600 ≤ k) : laws_eqStringS.f k a b = some (decide (a = b)) := by
  unfold laws_eqStringS.f
  by_cases h : a.length = b.length
  · rw [if_pos (by omega)]
    refine eq_loop (fun k i => laws_eqStringS.l0 k a b i) a b h 0 (fun k i h1 h2 _ => ?_) (fun k => ?_) k (by omega)
    · simp only [laws_eqStringS.l0]
      rw [if_pos (lt_cast h1), if_pos (nn_cast i), if_pos (lt_cast h2), rdOf_get h1, rdOf_get h2, wrap_succ h1 (by omega)]
      by_cases e0 : a[i].toList = b[i].toList
      · rw [if_pos e0, if_pos (bytes_eq.1 e0)]
      · rw [if_neg e0, if_neg (fun e => e0 (bytes_eq.2 e))]
    · simp only [laws_eqStringS.l0]
      rw [if_neg (nlt_cast _)]
  · rw [if_neg (by omega)]
    have : a ≠ b := fun e => h (by rw [e])
    simp [this]
/-! ### Answer -/
def cAnswer (x : S82) : S85 := ⟨x.f0, x.f1, x.f2⟩
def smAnswer (x : S82) : Prop := x.f0.size ≤ 1048576 ∧ x.f1.size ≤ 1048576
theorem rd_lAnswer {l : List S82} {i : Nat} (h : i < l.length) : rd_T82 l (i : Int) = l[i] := by
  simp [rd_T82, List.getD_eq_getElem?_getD, List.getElem?_eq_getElem h]
theorem rd_iAnswer {l : List S85} {i : Nat} (h : i < l.length) : rd_T85 l (i : Int) = l[i] := by
  simp [rd_T85, List.getD_eq_getElem?_getD, List.getElem?_eq_getElem h]
theorem ext_iAnswer {a b : S85} : a = b ↔ a.f0.toList = b.f0.toList ∧ a.f1.toList = b.f1.toList ∧ a.f2 = b.f2 := by
  simp only [bytes_eq]; cases a; cases b; simp
instance : DecidableEq S85 := fun _ _ => decidable_of_iff _ ext_iAnswer.symm
theorem szAnswer_some {x : S82} (hg : Go.Proofs.Ytjlfolmjkppneaa.g82 x) {a : Int} (ha0 : 0 ≤ a) (ha : a ≤ 1048576) : ∃ r, laws_szAnswer.f x.f0 x.f1 x.f2 a = some r ∧ (r < 0 ∨ (0 ≤ r ∧ r ≤ a ∧ smAnswer x)) := by
  unfold laws_szAnswer.f smAnswer
  have hs0 : x.f0.size ≤ 9223372036854775807 := by have := hg.1; simpa only [maxLen] using this
  rw [wrap_id (x := a - (x.f0.size : Int)) (by omega) (by omega)]
  by_cases h0 : a - (x.f0.size : Int) < 0
  · rw [if_pos h0]; exact ⟨-1, rfl, .inl (by omega)⟩
  rw [if_neg h0]
  have hs1 : x.f1.size ≤ 9223372036854775807 := by have := hg.2.1; simpa only [maxLen] using this
  rw [wrap_id (x := (a - (x.f0.size : Int)) - (x.f1.size : Int)) (by omega) (by omega)]
  by_cases h1 : (a - (x.f0.size : Int)) - (x.f1.size : Int) < 0
  · rw [if_pos h1]; exact ⟨-1, rfl, .inl (by omega)⟩
  rw [if_neg h1]
  exact ⟨_, rfl, .inr ⟨by omega, by omega, by omega, by omega⟩⟩
theorem szAnswerS_some {l : List S82} (hl : l.length ≤ maxLen) (hg : ∀ y ∈ l, Go.Proofs.Ytjlfolmjkppneaa.g82 y) {a : Int} (ha0 : 0 ≤ a) (ha : a ≤ 1048576) {k : Nat} (hk : 1048600 ≤ k) : ∃ r, laws_szAnswerS.f k l a = some r ∧ (r < 0 ∨ (0 ≤ r ∧ r ≤ a ∧ l.length ≤ 1048576 ∧ ∀ y ∈ l, smAnswer y)) := by
  have hl' : l.length ≤ 9223372036854775807 := by simpa only [maxLen] using hl
  unfold laws_szAnswerS.f
  rw [wrap_id (by omega) (by omega)]
  by_cases h0 : a - (l.length : Int) < 0
  · rw [if_pos h0]; exact ⟨-1, rfl, .inl (by omega)⟩
  · rw [if_neg h0]
    have main : ∀ (d k i : Nat) (s : Int), i + d = l.length → 0 + d < k → 0 ≤ s → s ≤ a - l.length → ∃ r, laws_szAnswerS.l0 k l s (i : Int) = some r ∧ (r < 0 ∨ (0 ≤ r ∧ r ≤ s ∧ ∀ y ∈ l.drop i, smAnswer y)) := by
      intro d
      induction d with
      | zero =>
        intro k i s hi hk h0 h1
        obtain ⟨k, rfl⟩ : ∃ m, k = m + 1 := ⟨k - 1, by omega⟩
        obtain rfl : i = l.length := by omega
        simp only [laws_szAnswerS.l0]
        rw [if_neg (nlt_cast _)]
        exact ⟨s, rfl, .inr ⟨h0, by omega, by simp⟩⟩
      | succ d ih =>
        intro k i s hi hk h0 h1
        obtain ⟨k, rfl⟩ : ∃ m, k = m + 1 := ⟨k - 1, by omega⟩
        have hlt : i < l.length := by omega
        simp only [laws_szAnswerS.l0]
        rw [if_pos (lt_cast hlt), if_pos (nn_cast i), rd_lAnswer hlt, wrap_succ hlt (by omega)]
        obtain ⟨r1, hr1, e1⟩ := szAnswer_some (hg l[i] (List.getElem_mem hlt)) (a := s) (by omega) (by omega)
        rw [hr1]; simp only [Option.bind_some]
        by_cases h2 : r1 < 0
        · rw [if_pos h2]
          exact ⟨-1, rfl, .inl (by omega)⟩
        · rw [if_neg h2]
          have e1' := e1.resolve_left h2
          obtain ⟨r, hr, h3⟩ := ih k (i + 1) r1 (by omega) (by omega) (by omega) (by omega)
          refine ⟨r, hr, h3.imp id fun h3 => ⟨h3.1, by omega, ?_⟩⟩
          rw [drop_cons hlt]
          intro y hy
          rcases List.mem_cons.1 hy with rfl | hy
          · exact e1'.2.2
          · exact h3.2.2 y hy
    obtain ⟨r, hr, h⟩ := main l.length k 0 (a - l.length) (by omega) (by omega) (by omega) (by omega)
    refine ⟨r, hr, h.imp id fun h => ⟨h.1, by omega, by omega, ?_⟩⟩
    simpa using h.2.2
theorem toAnswer_eq {x : S82} (hs : smAnswer x) : laws_toAnswer.f x.f0 x.f1 x.f2 = some ((cAnswer x).f0, (cAnswer x).f1, (cAnswer x).f2) := by
  unfold smAnswer at hs
  unfold laws_toAnswer.f
  rfl
theorem toAnswerS_eq {l : List S82} (hl : l.length ≤ 1048576) (hs : ∀ y ∈ l, smAnswer y) {k : Nat} (hk : 1048600 ≤ k) : laws_toAnswerS.f k l = some (l.map cAnswer) := by
  unfold laws_toAnswerS.f
  rw [if_pos (nn_cast _), if_pos (by simp; omega)]
  refine set_loop (fun k acc i => laws_toAnswerS.l0 k l acc i) l cAnswer 0 (fun k i hi acc ha hB => ?_) (fun k acc => ?_) k _ (by omega) (by simp)
  · simp only [laws_toAnswerS.l0]
    rw [if_pos (lt_cast hi), if_pos (nn_cast i), rd_lAnswer hi, wrap_succ hi (by omega), toAnswer_eq (hs _ (List.getElem_mem hi))]
    simp only [Option.bind_some]
    rw [if_pos (by omega)]
    rfl
  · simp only [laws_toAnswerS.l0]
    rw [if_neg (nlt_cast _)]
def smiAnswer (x : S85) : Prop := True
theorem smi_cAnswer {x : S82} (hs : smAnswer x) : smiAnswer (cAnswer x) := by
  unfold smAnswer at hs
  unfold smiAnswer
  trivial
theorem eqAnswer_eq {a b : S85} (hs : smiAnswer a) : laws_eqAnswer.f a.f0 a.f1 a.f2 b.f0 b.f1 b.f2 = some (decide (a = b)) := by
  unfold smiAnswer at hs
  unfold laws_eqAnswer.f
  by_cases e0 : a.f0.toList = b.f0.toList
  rotate_left
  · rw [if_neg e0]; have hne : ¬ a = b := fun e => e0 (ext_iAnswer.1 e).1; simp [hne]
  rw [if_pos e0]
  by_cases e1 : a.f1.toList = b.f1.toList
  rotate_left
  · rw [if_neg e1]; have hne : ¬ a = b := fun e => e1 (ext_iAnswer.1 e).2.1; simp [hne]
  rw [if_pos e1]
  by_cases e2 : a.f2 = b.f2
  rotate_left
  · rw [if_neg e2]; have hne : ¬ a = b := fun e => e2 (ext_iAnswer.1 e).2.2; simp [hne]
  rw [if_pos e2]
  rw [decide_eq_true (ext_iAnswer.2 ⟨e0, e1, e2⟩)]
theorem eqAnswerS_eq {a b : List S85} (hl : a.length ≤ 1048576) (hs : ∀ y ∈ a, smiAnswer y) {k : Nat} (hk : 1048600 ≤ k) : laws_eqAnswerS.f k a b = some (decide (a = b)) := by
  unfold laws_eqAnswerS.f
  by_cases h : a.length = b.length
  · rw [if_pos (by omega)]
    refine eq_loop (fun k i => laws_eqAnswerS.l0 k a b i) a b h 0 (fun k i h1 h2 hB => ?_) (fun k => ?_) k (by omega)
    · simp only [laws_eqAnswerS.l0]
      rw [if_pos (lt_cast h1), if_pos (nn_cast i), if_pos (lt_cast h2), rd_iAnswer h1, rd_iAnswer h2, wrap_succ h1 (by omega), eqAnswer_eq (hs _ (List.getElem_mem h1))]
      simp only [Option.bind_some, decide_eq_true_eq]
    · simp only [laws_eqAnswerS.l0]
      rw [if_neg (nlt_cast _)]
  · rw [if_neg (by omega)]
    have : a ≠ b := fun e => h (by rw [e])
    simp [this]
/-! ### Turn -/
def cTurn (x : S61) : S62 := ⟨x.f0, x.f1, x.f2⟩
def smTurn (x : S61) : Prop := x.f0.size ≤ 1048576
theorem rd_lTurn {l : List S61} {i : Nat} (h : i < l.length) : rd_T61 l (i : Int) = l[i] := by
  simp [rd_T61, List.getD_eq_getElem?_getD, List.getElem?_eq_getElem h]
theorem rd_iTurn {l : List S62} {i : Nat} (h : i < l.length) : rd_T62 l (i : Int) = l[i] := by
  simp [rd_T62, List.getD_eq_getElem?_getD, List.getElem?_eq_getElem h]
theorem ext_iTurn {a b : S62} : a = b ↔ a.f0.toList = b.f0.toList ∧ a.f1 = b.f1 ∧ a.f2 = b.f2 := by
  simp only [bytes_eq]; cases a; cases b; simp
instance : DecidableEq S62 := fun _ _ => decidable_of_iff _ ext_iTurn.symm
theorem szTurn_some {x : S61} (hg : Go.Proofs.Ytjlfolmjkppneaa.g61 x) {a : Int} (ha0 : 0 ≤ a) (ha : a ≤ 1048576) : ∃ r, laws_szTurn.f x.f0 x.f1 x.f2 a = some r ∧ (r < 0 ∨ (0 ≤ r ∧ r ≤ a ∧ smTurn x)) := by
  unfold laws_szTurn.f smTurn
  have hs0 : x.f0.size ≤ 9223372036854775807 := by have := hg.1; simpa only [maxLen] using this
  rw [wrap_id (x := a - (x.f0.size : Int)) (by omega) (by omega)]
  by_cases h0 : a - (x.f0.size : Int) < 0
  · rw [if_pos h0]; exact ⟨-1, rfl, .inl (by omega)⟩
  rw [if_neg h0]
  exact ⟨_, rfl, .inr ⟨by omega, by omega, by omega⟩⟩
theorem szTurnS_some {l : List S61} (hl : l.length ≤ maxLen) (hg : ∀ y ∈ l, Go.Proofs.Ytjlfolmjkppneaa.g61 y) {a : Int} (ha0 : 0 ≤ a) (ha : a ≤ 1048576) {k : Nat} (hk : 1048600 ≤ k) : ∃ r, laws_szTurnS.f k l a = some r ∧ (r < 0 ∨ (0 ≤ r ∧ r ≤ a ∧ l.length ≤ 1048576 ∧ ∀ y ∈ l, smTurn y)) := by
  have hl' : l.length ≤ 9223372036854775807 := by simpa only [maxLen] using hl
  unfold laws_szTurnS.f
  rw [wrap_id (by omega) (by omega)]
  by_cases h0 : a - (l.length : Int) < 0
  · rw [if_pos h0]; exact ⟨-1, rfl, .inl (by omega)⟩
  · rw [if_neg h0]
    have main : ∀ (d k i : Nat) (s : Int), i + d = l.length → 0 + d < k → 0 ≤ s → s ≤ a - l.length → ∃ r, laws_szTurnS.l0 k l s (i : Int) = some r ∧ (r < 0 ∨ (0 ≤ r ∧ r ≤ s ∧ ∀ y ∈ l.drop i, smTurn y)) := by
      intro d
      induction d with
      | zero =>
        intro k i s hi hk h0 h1
        obtain ⟨k, rfl⟩ : ∃ m, k = m + 1 := ⟨k - 1, by omega⟩
        obtain rfl : i = l.length := by omega
        simp only [laws_szTurnS.l0]
        rw [if_neg (nlt_cast _)]
        exact ⟨s, rfl, .inr ⟨h0, by omega, by simp⟩⟩
      | succ d ih =>
        intro k i s hi hk h0 h1
        obtain ⟨k, rfl⟩ : ∃ m, k = m + 1 := ⟨k - 1, by omega⟩
        have hlt : i < l.length := by omega
        simp only [laws_szTurnS.l0]
        rw [if_pos (lt_cast hlt), if_pos (nn_cast i), rd_lTurn hlt, wrap_succ hlt (by omega)]
        obtain ⟨r1, hr1, e1⟩ := szTurn_some (hg l[i] (List.getElem_mem hlt)) (a := s) (by omega) (by omega)
        rw [hr1]; simp only [Option.bind_some]
        by_cases h2 : r1 < 0
        · rw [if_pos h2]
          exact ⟨-1, rfl, .inl (by omega)⟩
        · rw [if_neg h2]
          have e1' := e1.resolve_left h2
          obtain ⟨r, hr, h3⟩ := ih k (i + 1) r1 (by omega) (by omega) (by omega) (by omega)
          refine ⟨r, hr, h3.imp id fun h3 => ⟨h3.1, by omega, ?_⟩⟩
          rw [drop_cons hlt]
          intro y hy
          rcases List.mem_cons.1 hy with rfl | hy
          · exact e1'.2.2
          · exact h3.2.2 y hy
    obtain ⟨r, hr, h⟩ := main l.length k 0 (a - l.length) (by omega) (by omega) (by omega) (by omega)
    refine ⟨r, hr, h.imp id fun h => ⟨h.1, by omega, by omega, ?_⟩⟩
    simpa using h.2.2
theorem toTurn_eq {x : S61} (hs : smTurn x) : laws_toTurn.f x.f0 x.f1 x.f2 = some ((cTurn x).f0, (cTurn x).f1, (cTurn x).f2) := by
  unfold smTurn at hs
  unfold laws_toTurn.f
  rfl
theorem toTurnS_eq {l : List S61} (hl : l.length ≤ 1048576) (hs : ∀ y ∈ l, smTurn y) {k : Nat} (hk : 1048600 ≤ k) : laws_toTurnS.f k l = some (l.map cTurn) := by
  unfold laws_toTurnS.f
  rw [if_pos (nn_cast _), if_pos (by simp; omega)]
  refine set_loop (fun k acc i => laws_toTurnS.l0 k l acc i) l cTurn 0 (fun k i hi acc ha hB => ?_) (fun k acc => ?_) k _ (by omega) (by simp)
  · simp only [laws_toTurnS.l0]
    rw [if_pos (lt_cast hi), if_pos (nn_cast i), rd_lTurn hi, wrap_succ hi (by omega), toTurn_eq (hs _ (List.getElem_mem hi))]
    simp only [Option.bind_some]
    rw [if_pos (by omega)]
    rfl
  · simp only [laws_toTurnS.l0]
    rw [if_neg (nlt_cast _)]
def smiTurn (x : S62) : Prop := True
theorem smi_cTurn {x : S61} (hs : smTurn x) : smiTurn (cTurn x) := by
  unfold smTurn at hs
  unfold smiTurn
  trivial
theorem eqTurn_eq {a b : S62} (hs : smiTurn a) : laws_eqTurn.f a.f0 a.f1 a.f2 b.f0 b.f1 b.f2 = some (decide (a = b)) := by
  unfold smiTurn at hs
  unfold laws_eqTurn.f
  by_cases e0 : a.f0.toList = b.f0.toList
  rotate_left
  · rw [if_neg e0]; have hne : ¬ a = b := fun e => e0 (ext_iTurn.1 e).1; simp [hne]
  rw [if_pos e0]
  by_cases e1 : a.f1 = b.f1
  rotate_left
  · rw [if_neg e1]; have hne : ¬ a = b := fun e => e1 (ext_iTurn.1 e).2.1; simp [hne]
  rw [if_pos e1]
  by_cases e2 : a.f2 = b.f2
  rotate_left
  · rw [if_neg e2]; have hne : ¬ a = b := fun e => e2 (ext_iTurn.1 e).2.2; simp [hne]
  rw [if_pos e2]
  rw [decide_eq_true (ext_iTurn.2 ⟨e0, e1, e2⟩)]
theorem eqTurnS_eq {a b : List S62} (hl : a.length ≤ 1048576) (hs : ∀ y ∈ a, smiTurn y) {k : Nat} (hk : 1048600 ≤ k) : laws_eqTurnS.f k a b = some (decide (a = b)) := by
  unfold laws_eqTurnS.f
  by_cases h : a.length = b.length
  · rw [if_pos (by omega)]
    refine eq_loop (fun k i => laws_eqTurnS.l0 k a b i) a b h 0 (fun k i h1 h2 hB => ?_) (fun k => ?_) k (by omega)
    · simp only [laws_eqTurnS.l0]
      rw [if_pos (lt_cast h1), if_pos (nn_cast i), if_pos (lt_cast h2), rd_iTurn h1, rd_iTurn h2, wrap_succ h1 (by omega), eqTurn_eq (hs _ (List.getElem_mem h1))]
      simp only [Option.bind_some, decide_eq_true_eq]
    · simp only [laws_eqTurnS.l0]
      rw [if_neg (nlt_cast _)]
  · rw [if_neg (by omega)]
    have : a ≠ b := fun e => h (by rw [e])
    simp [this]
end Go.Proofs.Ytjlfolmjkppneaa.P

/- Valid turns: the reference's and the program's test answer the same. -/
namespace Go.Proofs.Ytjlfolmjkppneaa.P
open Go.RowKit Go.Proofs.YtjlfolmjkppneaaW.PrintWords Go.Proofs.YtjlfolmjkppneaaL
def turnB (x : S62) : Bool := nameB x.f0 && (decide (0 ≤ x.f1) && decide (x.f1 ≤ 10000)) && (decide (1 ≤ x.f2) && decide (x.f2 ≤ 10000))
def turnLess (a b : S62) : Bool := if a.f1 = b.f1 then (if a.f0.toList = b.f0.toList then decide (a.f2 < b.f2) else Op.bytesLess a.f0.toList b.f0.toList) else decide (a.f1 < b.f1)
def turnAt (l : List S62) (i : Nat) : Bool := turnB (rd_T62 l (i : Int)) && (decide (i = 0) || turnLess (rd_T62 l ((i - 1 : Nat) : Int)) (rd_T62 l (i : Int)))
def turnsB (l : List S62) : Bool := (List.range l.length).all (turnAt l) && decide (l.length ≤ 24)
def cmpT (a b : S62) : Int := if cmpI a.f1 b.f1 = 0 then (if cmpS a.f0 b.f0 = 0 then cmpI a.f2 b.f2 else cmpS a.f0 b.f0) else cmpI a.f1 b.f1

theorem l23One_e_eq (l : List S62) (i : Int) {k : Nat} (hk : 20 ≤ k) : spec_l23One_e.f k l i = some (turnB (rd_T62 l i)) := by
  unfold spec_l23One_e.f turnB
  rw [l01Name_eq _ hk]; simp only [Option.bind_some, in_eq]
  by_cases h : nameB (rd_T62 l i).f0 = true
  · rw [if_pos h, h]
    by_cases h2 : (decide (0 ≤ (rd_T62 l i).f1) && decide ((rd_T62 l i).f1 ≤ 10000)) = true
    · rw [if_pos h2, h2]; simp
    · rw [if_neg h2]; rw [Bool.not_eq_true] at h2; rw [h2]; simp
  · rw [if_neg h]; simp [h]
theorem l23Before_e_eq (l : List S62) (i j : Int) : spec_l23Before_e.f l i l j = some (turnLess (rd_T62 l i) (rd_T62 l j)) := by
  unfold spec_l23Before_e.f turnLess
  split
  · split <;> rfl
  · rfl
theorem Turn_valid_eq (x : S62) {k : Nat} (hk : 20 ≤ k) : impl_Turn_valid.f k x.f0 x.f1 x.f2 = some (turnB x) := by
  unfold impl_Turn_valid.f turnB
  rw [IsName_eq _ hk]; simp only [Option.bind_some, within_eq]
  by_cases h : nameB x.f0 = true
  · rw [if_pos h, h]
    by_cases h2 : (decide (0 ≤ x.f1) && decide (x.f1 ≤ 10000)) = true
    · rw [if_pos h2, h2]; simp
    · rw [if_neg h2]; rw [Bool.not_eq_true] at h2; rw [h2]; simp
  · rw [if_neg h]; simp [h]
theorem compareTurns_eq (a b : S62) {k : Nat} (hk : 10 ≤ k) : impl_compareTurns.f k a.f0 a.f1 a.f2 b.f0 b.f1 b.f2 = some (cmpT a b) := by
  unfold impl_compareTurns.f cmpT
  rw [Compare_int64_eq, Compare_string_eq, Compare_int64_eq]
  simp only [Option.bind_some]
  rw [Or3_eq _ _ _ hk]; rfl
theorem cmpI_zero {a b : Int} : cmpI a b = 0 ↔ a = b := by
  unfold cmpI; constructor
  · intro h; split at h
    · omega
    · split at h <;> omega
  · intro h; rw [if_neg (by omega), if_neg (by omega)]
theorem cmpS_zero {a b : ByteArray} : cmpS a b = 0 ↔ a.toList = b.toList := by
  unfold cmpS; constructor
  · intro h
    by_cases h1 : Op.bytesLess a.toList b.toList = true
    · rw [if_pos h1] at h; omega
    · rw [if_neg h1] at h
      by_cases h2 : Op.bytesLess b.toList a.toList = true
      · rw [if_pos h2] at h; omega
      · by_cases e : a.toList = b.toList
        · exact e
        · exact absurd (less_total (by simpa using h1) e) h2
  · intro h; rw [h, less_irrefl]; rfl
theorem cmpT_neg (a b : S62) : cmpT a b ≥ 0 ↔ turnLess a b = false := by
  unfold cmpT turnLess
  by_cases h1 : a.f1 = b.f1
  · rw [if_pos (cmpI_zero.2 h1), if_pos h1]
    by_cases h2 : a.f0.toList = b.f0.toList
    · rw [if_pos (cmpS_zero.2 h2), if_pos h2]
      unfold cmpI
      by_cases h3 : a.f2 < b.f2
      · rw [if_pos h3]; simp [h3]
      · rw [if_neg h3]; simp [h3]; split <;> omega
    · rw [if_neg (fun e => h2 (cmpS_zero.1 e)), if_neg h2]
      unfold cmpS
      by_cases h3 : Op.bytesLess a.f0.toList b.f0.toList = true
      · rw [if_pos h3]; simp [h3]
      · rw [if_neg h3, if_pos (less_total (by simpa using h3) h2)]; simp [h3]
  · rw [if_neg (fun e => h1 (cmpI_zero.1 e)), if_neg h1]
    unfold cmpI
    by_cases h3 : a.f1 < b.f1
    · rw [if_pos h3]; simp [h3]
    · rw [if_neg h3, if_pos (by omega)]; simp [h3]

theorem l23Ok_eq {l : List S62} (hl : l.length ≤ 1048576) {k : Nat} (hk : 1048600 ≤ k) : spec_l23Ok.f k l = some (turnsB l) := by
  unfold spec_l23Ok.f turnsB
  refine all_loop (fun k i => spec_l23Ok.l0 k l i) l.length (turnAt l) _ 20 (fun k i hi hB => ?_) (fun k _ => ?_) k (by omega)
  · simp only [spec_l23Ok.l0]
    rw [if_pos (lt_cast hi), if_pos (nn_cast i), l23One_e_eq _ _ hB, wrap_succ hi (by omega)]
    simp only [Option.bind_some, turnAt]
    by_cases h : turnB (rd_T62 l (i : Int)) = true
    · rw [if_pos h]
      by_cases h0 : i = 0
      · rw [if_neg (by omega)]; simp only [h, decide_eq_true h0, Bool.true_or, Bool.and_self, if_true]
      · rw [if_pos (by omega), pred_cast (by omega) hi (by omega), if_pos (nn_cast _), if_pos (by omega), l23Before_e_eq]
        simp [h, h0]
    · rw [if_neg h]; simp [h]
  · simp only [spec_l23Ok.l0]
    rw [if_neg (nlt_cast _)]
    congr 2
    exact propext (by omega)
theorem ValidTurns_eq {l : List S62} {k : Nat} (hk : 100 ≤ k) : impl_ValidTurns.f k l = some (turnsB l) := by
  unfold impl_ValidTurns.f turnsB
  by_cases h24 : (l.length : Int) > 24
  · rw [if_pos h24]
    have : ¬ l.length ≤ 24 := by omega
    simp [this]
  rw [if_neg h24]
  have h24' : l.length ≤ 24 := by omega
  rw [decide_eq_true h24']
  refine all_loop (fun k i => impl_ValidTurns.l0 k l l (l.length : Int) i) l.length (turnAt l) true 20 (fun k i hi hB => ?_) (fun k _ => ?_) k (by omega)
  · simp only [impl_ValidTurns.l0]
    rw [if_pos (lt_cast hi), if_pos (nn_cast i), if_pos (lt_cast hi), Turn_valid_eq _ hB, wrap_succ hi (by omega)]
    simp only [Option.bind_some, turnAt]
    by_cases h : turnB (rd_T62 l (i : Int)) = true
    · rw [if_pos h]
      by_cases h0 : i = 0
      · rw [if_neg (by omega)]; simp only [h, decide_eq_true h0, Bool.true_or, Bool.and_self, if_true]
      · rw [if_pos (by omega), pred_cast (by omega) hi (by omega), if_pos (nn_cast _), if_pos (by omega), compareTurns_eq _ _ (by omega)]
        simp only [Option.bind_some, cmpT_neg, h, decide_eq_false h0, Bool.false_or, Bool.true_and]
        by_cases h3 : turnLess (rd_T62 l ((i - 1 : Nat) : Int)) (rd_T62 l (i : Int)) = true
        · rw [if_neg (by simp [h3]), if_pos h3]
        · rw [if_pos (by simpa using h3), if_neg h3]
    · rw [if_neg h]; simp [h]
  · simp only [impl_ValidTurns.l0]
    rw [if_neg (nlt_cast _)]
theorem smi_turns (l : List S62) : ∀ y ∈ l, smiTurn y := fun _ _ => trivial
end Go.Proofs.Ytjlfolmjkppneaa.P

/- The plain law behind FnExactValidTurns: the reference's and the program's test of turns answer the same, and the copy stays. Conditions: none beyond the kinds' own bounds. -/
namespace Go.Proofs.Ytjlfolmjkppneaa.Pure
open Go.RowKit Go.Proofs.YtjlfolmjkppneaaW.PrintWords Go.Proofs.YtjlfolmjkppneaaL Go.Proofs.Ytjlfolmjkppneaa.P
theorem FnExactValidTurns : ∀ (x0 : List (P.S61)), (x0.length ≤ maxLen ∧ ∀ y ∈ x0, g61 y) → ∃ k : Nat, P.laws_FnExactValidTurns.f k x0 = some true := by
  intro x0 ⟨hl0, hg0⟩
  refine ⟨2097200, ?_⟩
  unfold laws_FnExactValidTurns.f
  obtain ⟨r, hr, h⟩ := szTurnS_some hl0 hg0 (a := 1048576) (by omega) (by omega) (k := 2097200) (by omega)
  rw [hr]; simp only [Option.bind_some]
  by_cases h0 : r < 0
  · rw [if_pos h0]
  rw [if_neg h0]
  obtain ⟨_, _, z0, s0⟩ := h.resolve_left h0
  rw [toTurnS_eq z0 s0 (by omega)]
  simp only [Option.bind_some, spec_ValidTurns.f]
  rw [l23Ok_eq (by simpa using z0) (by omega), ValidTurns_eq (by omega)]
  simp only [Option.bind_some]
  rw [if_neg (by simp), eqTurnS_eq (by simpa using z0) (smi_turns _) (by omega)]
  simp
end Go.Proofs.Ytjlfolmjkppneaa.Pure
