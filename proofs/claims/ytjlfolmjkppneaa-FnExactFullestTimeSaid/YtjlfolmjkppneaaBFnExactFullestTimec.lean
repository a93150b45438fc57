/- Part c of what FnExactFullestTime stands on: functions of the program as Lean functions with their walks, and plain lemmas. -/
import Derived.Test.YtjlfolmjkppneaaK
import Derived.Test.YtjlfolmjkppneaaBFnExactFullestTimeb
import Derived.Shelf.Lays
import Derived.Test.YtjlfolmjkppneaaProg
import Derived.Sort.Grow
import Derived.Sort.EncStr
import Derived.Lib.SlicesCompact
import Derived.Shelf.Sort.Plain
import Derived.Shelf.Slices.In.SortNone
import Derived.Shelf.Slices.CompactS
import Derived.Test.YtjlfolmjkppneaaBFnExactFullestTimea
import Derived.ChangeOld
import Derived.ChangeArms
import Derived.WideShapes
import Derived.Test.YtjlfolmjkppneaaWWords
import Derived.KernelRfl
namespace Go.Proofs.Ytjlfolmjkppneaa.P
open Go.RowKit Go.Proofs.YtjlfolmjkppneaaW.PrintWords Go.Proofs.YtjlfolmjkppneaaW.PrintLast Go.Proofs.YtjlfolmjkppneaaW.PrintMore
attribute [local go_sem] max2_int min2_int max_two min_two max_three min_three max_four min_four str_leq str_gtr str_geq
set_option linter.unusedVariables false
set_option linter.unusedSimpArgs false

def impl_ValidTurns.l0 : Nat → List (S62) → List (S62) → Int → Int → Option (Bool)
  | 0, _, _, _, _ => none
  | k + 1, x0, x8, x9, x10 => if x10 < x9 then (if 0 ≤ x10 then (if x10 < (x8.length : Int) then ((impl_Turn_valid.f k ((rd_T62 x8 x10).f0) ((rd_T62 x8 x10).f1) ((rd_T62 x8 x10).f2)).bind fun t103 => (if t103 = true then (if x10 > 0 then (if 0 ≤ (wrap64 (x10 - 1)) then (if (wrap64 (x10 - 1)) < (x0.length : Int) then ((impl_compareTurns.f k ((rd_T62 x0 (wrap64 (x10 - 1))).f0) ((rd_T62 x0 (wrap64 (x10 - 1))).f1) ((rd_T62 x0 (wrap64 (x10 - 1))).f2) ((rd_T62 x8 x10).f0) ((rd_T62 x8 x10).f1) ((rd_T62 x8 x10).f2)).bind fun t105 => (if t105 ≥ 0 then (some false) else (impl_ValidTurns.l0 k x0 x8 x9 (wrap64 (x10 + 1))))) else (none)) else (none)) else (impl_ValidTurns.l0 k x0 x8 x9 (wrap64 (x10 + 1)))) else (some false))) else (none)) else (none)) else (some true)
def impl_ValidTurns.f (k : Nat) (l0 : List (S62)) : Option (Bool) := if (l0.length : Int) > 24 then (some false) else (impl_ValidTurns.l0 k l0 l0 (l0.length : Int) 0)
def impl_ValidTurns.T6 : Bool × List (List Nat × List Nat) := (true, [([], []), ([0], [0]), ([1], [1]), ([2, 1], [2]), ([3], [3]), ([4, 3], [3, 4]), ([5, 3, 3], [3, 5]), ([6], [6]), ([6], [6]), ([8, 6], [6, 8]), ([7, 9, 6], [6, 7, 9]), ([10, 6], [6, 10]), ([6], [6]), ([11, 12, 6, 6], [6, 11, 12]), ([13, 6], [6, 13]), ([6, 14, 3], [3, 6, 14]), ([3, 15], [3, 15])])
def impl_ValidTurns.B6 : List Nat := [0, 1, 3, 7, 15, 31, 63, 127, 127, 383, 1023, 2047, 127, 8191, 16383, 32767, 65535]
theorem impl_ValidTurns.tab6 : rtab .any (opsOf Try.f15 6) = impl_ValidTurns.T6 := by kernel_rfl
theorem impl_ValidTurns.bits6 : waitsOk impl_ValidTurns.T6.2 impl_ValidTurns.B6 = true := by kernel_rfl
set_option maxHeartbeats 8000000 in
set_option maxRecDepth 100000 in
theorem impl_ValidTurns.calls (k : Nat) (A0 : Option Addr) (c0 : Nat) (l0 : List (S62)) (r : Bool) (w : World) (hr0 : Kd.C k62 w A0 l0.length l0) (hc0 : l0.length ≤ c0) (h : impl_ValidTurns.f k l0 = some r) :
    Calls Try.prog 15 #[.slice A0 l0.length c0] w fun e w' => e = .returned (.bool r) ∧ Below w.heap.size w w' := by
  have hu62 := Try.underlying62
  have HR0 := Aside0.mk hr0
  have HC0 := Aside0.mk hc0
  clear hr0 hc0
  have HB := Aside0.mk (Below.refl w.heap.size w)
  have H : (if (l0.length : Int) > 24 then (some false) else (impl_ValidTurns.l0 k l0 l0 (l0.length : Int) 0)) = some r := h
  clear h
  by_cases c2 : (l0.length : Int) > 24
  · rw [if_pos c2] at H
    have c2b0 : decide (24 < (l0.length : Int)) = true := decide_eq_true c2
    have c2b1 : decide (24 < l0.length) = true := decide_eq_true (by omega)
    clear c2
    obtain rfl := Option.some.inj H
    go_enter Try.func15, Try.ntmps15
    go_wp2
    go_ret
    exact ⟨by first | rfl | (simp [errW_none, errW_some] <;> rfl) | (simp [*, errW_none, errW_some] <;> rfl), by repeat (first | (with_reducible first | exact HB.out | apply below_alloc | apply pw_below_drewN | apply below_drew1) | exact HB.out)⟩
  · rw [if_neg c2] at H
    have c2b0 : decide (24 < (l0.length : Int)) = false := decide_eq_false c2
    have c2b1 : decide (24 < l0.length) = false := decide_eq_false (by omega)
    clear c2
    have H' := Aside0.mk H
    clear H
    go_enter Try.func15, Try.ntmps15
    go_wp2
    go_loopg [10] k (fun kq v10 w' => ∃ (x10_1 : Int), v10 = .int .i64 x10_1 ∧ Aside0 (impl_ValidTurns.l0 kq l0 l0 (l0.length : Int) x10_1 = some r) ∧ Aside0 (kq ≤ k) ∧ Aside0 (Below w.heap.size w w'))
    case atStart => exact ⟨(0), (by first | rfl | (simp; done) | (simp [*]; done)), H', ⟨Nat.le_refl _⟩, ⟨by repeat (first | (with_reducible first | exact HB.out | apply below_alloc | apply pw_below_drewN | apply below_drew1) | exact HB.out)⟩⟩
    case round =>
      clear H'
      try clear c1
      try clear c2
      try clear c2b0
      try clear c2b1
      try clear p2
      obtain ⟨x10_1, rfl, HA, HK1, HB⟩ := hrel
      cases gk with
      | zero => exact absurd HA.out (by simp [impl_ValidTurns.l0])
      | succ k1 =>
        have H := HA.out
        clear HA
        simp only [impl_ValidTurns.l0] at H
        by_cases c3 : x10_1 < (l0.length : Int)
        · rw [if_pos c3] at H
          have c3b0 : decide (x10_1 < (l0.length : Int)) = true := decide_eq_true c3
          clear c3
          by_cases c4 : 0 ≤ x10_1
          · rw [if_pos c4] at H
            have c4b0 : decide (0 ≤ x10_1) = true := decide_eq_true c4
            clear c4
            by_cases c5 : x10_1 < (l0.length : Int)
            · rw [if_pos c5] at H
              have c5b0 : decide (x10_1 < (l0.length : Int)) = true := decide_eq_true c5
              clear c5
              replace H := Option.bind_eq_some_iff.mp H
              obtain ⟨t103, A60, H⟩ := H
              replace H : (if t103 = true then (if x10_1 > 0 then (if 0 ≤ (wrap64 (x10_1 - 1)) then (if (wrap64 (x10_1 - 1)) < (l0.length : Int) then ((impl_compareTurns.f k1 ((rd_T62 l0 (wrap64 (x10_1 - 1))).f0) ((rd_T62 l0 (wrap64 (x10_1 - 1))).f1) ((rd_T62 l0 (wrap64 (x10_1 - 1))).f2) ((rd_T62 l0 x10_1).f0) ((rd_T62 l0 x10_1).f1) ((rd_T62 l0 x10_1).f2)).bind fun t105 => (if t105 ≥ 0 then (some false) else (impl_ValidTurns.l0 k1 l0 l0 (l0.length : Int) (wrap64 (x10_1 + 1))))) else (none)) else (none)) else (impl_ValidTurns.l0 k1 l0 l0 (l0.length : Int) (wrap64 (x10_1 + 1)))) else (some false)) = some r := H
              have A6 := Aside0.mk A60
              clear A60
              by_cases c7 : t103 = true
              · subst c7
                have H1 : (if x10_1 > 0 then (if 0 ≤ (wrap64 (x10_1 - 1)) then (if (wrap64 (x10_1 - 1)) < (l0.length : Int) then ((impl_compareTurns.f k1 ((rd_T62 l0 (wrap64 (x10_1 - 1))).f0) ((rd_T62 l0 (wrap64 (x10_1 - 1))).f1) ((rd_T62 l0 (wrap64 (x10_1 - 1))).f2) ((rd_T62 l0 x10_1).f0) ((rd_T62 l0 x10_1).f1) ((rd_T62 l0 x10_1).f2)).bind fun t105 => (if t105 ≥ 0 then (some false) else (impl_ValidTurns.l0 k1 l0 l0 (l0.length : Int) (wrap64 (x10_1 + 1))))) else (none)) else (none)) else (impl_ValidTurns.l0 k1 l0 l0 (l0.length : Int) (wrap64 (x10_1 + 1)))) = some r := by rw [if_pos rfl] at H; exact H
                clear H
                have H := H1
                clear H1
                by_cases c8 : x10_1 > 0
                · rw [if_pos c8] at H
                  have c8b0 : decide (0 < x10_1) = true := decide_eq_true c8
                  clear c8
                  obtain ⟨ji9, hji9⟩ : ∃ j_ : Int, (wrap64 (x10_1 - 1)) = j_ := ⟨_, rfl⟩
                  replace H : (if 0 ≤ (ji9) then (if (ji9) < (l0.length : Int) then ((impl_compareTurns.f k1 ((rd_T62 l0 (ji9)).f0) ((rd_T62 l0 (ji9)).f1) ((rd_T62 l0 (ji9)).f2) ((rd_T62 l0 x10_1).f0) ((rd_T62 l0 x10_1).f1) ((rd_T62 l0 x10_1).f2)).bind fun t105 => (if t105 ≥ 0 then (some false) else (impl_ValidTurns.l0 k1 l0 l0 (l0.length : Int) (wrap64 (x10_1 + 1))))) else (none)) else (none)) = some r := by first | (rw [hji9] at H; exact H) | (simp only [hji9] at H ⊢; exact H)
                  (try rw [hji9] at A6)
                  have hji9w : (IntKind.i64.wrap (x10_1 - 1)) = ji9 := (i64_w _).trans hji9
                  by_cases c10 : 0 ≤ (ji9)
                  · rw [if_pos c10] at H
                    have c10b0 : decide (0 ≤ (ji9)) = true := decide_eq_true c10
                    clear c10
                    by_cases c11 : (ji9) < (l0.length : Int)
                    · rw [if_pos c11] at H
                      have c11b0 : decide ((ji9) < (l0.length : Int)) = true := decide_eq_true c11
                      clear c11
                      replace H := Option.bind_eq_some_iff.mp H
                      obtain ⟨t105, A120, H⟩ := H
                      replace H : (if t105 ≥ 0 then (some false) else (impl_ValidTurns.l0 k1 l0 l0 (l0.length : Int) (wrap64 (x10_1 + 1)))) = some r := H
                      have A12 := Aside0.mk A120
                      clear A120
                      by_cases c13 : t105 ≥ 0
                      · rw [if_pos c13] at H
                        have c13b0 : decide (0 ≤ t105) = true := decide_eq_true c13
                        clear c13
                        obtain rfl := Option.some.inj H
                        have p101 : 0 ≤ (x10_1 : Int) := of_decide_eq_true (by first | (with_reducible assumption) | assumption)
                        have q101 : x10_1 < (l0.length : Int) := of_decide_eq_true (by first | (with_reducible assumption) | assumption)
                        obtain ⟨ad101, e101, hx101_0, hx101_1, hx101_2⟩ := at_T62 HR0.out x10_1 p101 q101
                        cases e101
                        replace hx101_0 := (HB.out.cell (World.block_lt_of_cell? w _ hx101_0)).trans hx101_0
                        replace hx101_1 := (HB.out.cell (World.block_lt_of_cell? w _ hx101_1)).trans hx101_1
                        replace hx101_2 := (HB.out.cell (World.block_lt_of_cell? w _ hx101_2)).trans hx101_2
                        replace p101 := eq_true p101
                        replace q101 := eq_true q101
                        try go_wp2_with (first | ((with_reducible refine gate_dst (N := 4) rfl ?_); refine box_event ?hg (N := 4) ?hd (cs := #[.string (⟨#[]⟩ : ByteArray), .int .i64 0, .int .i64 0]) (t := 62) ?hr ?_; (case hd => rfl); (case hg => rfl); (case hr => first | (go_simp; done) | (go_simp; rfl)); intro gb102 hg w14 hbox hb; have n0_ := Aside0.mk (below_step (by repeat (first | (with_reducible first | exact HB.out | apply below_alloc | apply pw_below_drewN | apply below_drew1) | exact HB.out)) hb); have n1_ := Aside0.mk (hbox); have n2_ := Aside0.mk ((by rw [hg]; exact (below_size (by repeat (first | (with_reducible first | exact HB.out | apply below_alloc | apply pw_below_drewN | apply below_drew1) | exact HB.out))) : w.heap.size ≤ gb102)); have n3_ := Aside0.mk ((by rw [hg]; exact (below_size (by repeat (first | (with_reducible first | exact HB.out | apply below_alloc | apply pw_below_drewN | apply below_drew1) | exact HB.out))) : w.heap.size ≤ gb102)); clear HB; have HB := n0_; have BK102 := n1_; have GW102 := n2_; have GE102 := n3_; clear n0_ n1_ n2_ n3_; clear hb hbox hg; have hcz15_0 : w14.cell? ⟨gb102, 0, none⟩ = some (.string (⟨#[]⟩ : ByteArray)) := (blk_cell BK102.out 0).trans rfl; have hcz15_1 : w14.cell? ⟨gb102, 1, none⟩ = some (.int .i64 0) := (blk_cell BK102.out 1).trans rfl; have hcz15_2 : w14.cell? ⟨gb102, 2, none⟩ = some (.int .i64 0) := (blk_cell BK102.out 2).trans rfl; have hfz15_0 := blk_frozen BK102.out 0; have hfz15_1 := blk_frozen BK102.out 1; have hfz15_2 := blk_frozen BK102.out 2))
                        have n0_ : Aside0 ((((w14.setCell ⟨gb102, 0, none⟩ (.string ((rd_T62 l0 x10_1).f0))).setCell ⟨gb102, 1, none⟩ (.int .i64 ((rd_T62 l0 x10_1).f1))).setCell ⟨gb102, 2, none⟩ (.int .i64 ((rd_T62 l0 x10_1).f2))).heap[gb102]? = some (.cells #[.string ((rd_T62 l0 x10_1).f0), .int .i64 ((rd_T62 l0 x10_1).f1), .int .i64 ((rd_T62 l0 x10_1).f2)] 62 (0, 0))) := ⟨by (with_reducible repeat (first | refine blk_drewN ?_ _ | refine blk_drew ?_ | refine blk_alloc ?_ _)); refine blk_put (cs := #[.string ((rd_T62 l0 x10_1).f0), .int .i64 ((rd_T62 l0 x10_1).f1), .int .i64 0]) ?_ 2 _ rfl; (with_reducible repeat (first | refine blk_drewN ?_ _ | refine blk_drew ?_ | refine blk_alloc ?_ _)); refine blk_put (cs := #[.string ((rd_T62 l0 x10_1).f0), .int .i64 0, .int .i64 0]) ?_ 1 _ rfl; (with_reducible repeat (first | refine blk_drewN ?_ _ | refine blk_drew ?_ | refine blk_alloc ?_ _)); refine blk_put (cs := #[.string (⟨#[]⟩ : ByteArray), .int .i64 0, .int .i64 0]) ?_ 0 _ rfl; (with_reducible repeat (first | refine blk_drewN ?_ _ | refine blk_drew ?_ | refine blk_alloc ?_ _)); exact BK102.out⟩
                        have n1_ : Aside0 (Below w.heap.size w (((w14.setCell ⟨gb102, 0, none⟩ (.string ((rd_T62 l0 x10_1).f0))).setCell ⟨gb102, 1, none⟩ (.int .i64 ((rd_T62 l0 x10_1).f1))).setCell ⟨gb102, 2, none⟩ (.int .i64 ((rd_T62 l0 x10_1).f2)))) := ⟨by repeat (first | (with_reducible first | exact HB.out | apply below_alloc | apply pw_below_drewN | apply below_drew1 | refine below_set ?_ GE102.out) | exact HB.out)⟩
                        (try clear BK102)
                        (try clear HB)
                        generalize (((w14.setCell ⟨gb102, 0, none⟩ (.string ((rd_T62 l0 x10_1).f0))).setCell ⟨gb102, 1, none⟩ (.int .i64 ((rd_T62 l0 x10_1).f1))).setCell ⟨gb102, 2, none⟩ (.int .i64 ((rd_T62 l0 x10_1).f2))) = w16 at n0_ n1_ ⊢
                        have BK102 := n0_
                        have HB := n1_
                        clear n0_ n1_
                        have n0_ := Aside0.mk (blk_drew BK102.out)
                        have n1_ := Aside0.mk (below_drew1 HB.out)
                        clear BK102
                        clear HB
                        have BK102 := n0_
                        have HB := n1_
                        clear n0_ n1_
                        have p104 : 0 ≤ ((ji9) : Int) := of_decide_eq_true (by first | (with_reducible assumption) | assumption)
                        have q104 : (ji9) < (l0.length : Int) := of_decide_eq_true (by first | (with_reducible assumption) | assumption)
                        obtain ⟨ad104, e104, hx104_0, hx104_1, hx104_2⟩ := at_T62 HR0.out (ji9) p104 q104
                        have hw104_2 := hx104_2
                        have hw104_1 := hx104_1
                        have hw104_0 := hx104_0
                        obtain rfl : ad101 = ad104 := (by injection e104)
                        replace hx104_0 := (HB.out.cell (World.block_lt_of_cell? w _ hx104_0)).trans hx104_0
                        replace hx104_1 := (HB.out.cell (World.block_lt_of_cell? w _ hx104_1)).trans hx104_1
                        replace hx104_2 := (HB.out.cell (World.block_lt_of_cell? w _ hx104_2)).trans hx104_2
                        replace p104 := eq_true p104
                        replace q104 := eq_true q104
                        refine start_ (n := 17) (S := fun w' => w'.cell? ⟨gb102, 0, none⟩ = some (.string ((rd_T62 l0 x10_1).f0)) ∧ w'.cell? ⟨gb102, 1, none⟩ = some (.int .i64 ((rd_T62 l0 x10_1).f1)) ∧ w'.cell? ⟨gb102, 2, none⟩ = some (.int .i64 ((rd_T62 l0 x10_1).f2)) ∧ w'.cell? (ad101.add (((ji9)).toNat * 3)) = some (.string ((rd_T62 l0 (ji9)).f0)) ∧ w'.cell? ⟨(ad101.add (((ji9)).toNat * 3)).block, (ad101.add (((ji9)).toNat * 3)).off + 1, none⟩ = some (.int .i64 ((rd_T62 l0 (ji9)).f1)) ∧ w'.cell? ⟨(ad101.add (((ji9)).toNat * 3)).block, (ad101.add (((ji9)).toNat * 3)).off + 2, none⟩ = some (.int .i64 ((rd_T62 l0 (ji9)).f2))) (ds := []) #[false, false, false, false, false, false, false, false, false, false, false, false, false, false, false, false, false] (by kernel_rfl) rfl rfl ⟨(blk_cell BK102.out 0).trans rfl, (blk_cell BK102.out 1).trans rfl, (blk_cell BK102.out 2).trans rfl, ((HB.out.cell (World.block_lt_of_cell? w _ hw104_0)).trans hw104_0), ((HB.out.cell (World.block_lt_of_cell? w _ hw104_1)).trans hw104_1), ((HB.out.cell (World.block_lt_of_cell? w _ hw104_2)).trans hw104_2)⟩ (fun hHeld => ?_); refine with_tabW impl_ValidTurns.tab6 impl_ValidTurns.bits6 (fun HT_ HW_ => ?_)
                        generalize w16.drew = w17 at BK102 HB hx104_0 hx104_1 hx104_2 hHeld ⊢
                        refine take_ (i := 0) (N := some 15) (v := ?_) (a' := ?_) #[true, false, false, false, false, false, false, false, false, false, false, false, false, false, false, false, false] rfl rfl (take_ofW HT_.out HW_.out (by kernel_rfl)) (fun _ _ _ h => h) (Or.inl ⟨by rfl, ?_⟩) hHeld ?_ ?_
                        rotate_left
                        · rintro w' ⟨s0, s1, s2, s3, s4, s5⟩
                          go_simp
                          with_reducible rfl
                        rotate_left
                        · simp only [Act.put, List.setIfInBounds_toArray, List.set_cons_zero, List.set_cons_succ, i64_w, i32_w]
                          rfl
                        refine one_ (i := 1) (N := some 16) #[true, true, false, false, false, false, false, false, false, false, false, false, false, false, false, false, false] rfl rfl (one_of HT_.out (by kernel_rfl)) (by decide) (fun K hK => ?_)
                        refine goes_ Try.func48 (by kernel_rfl) rfl #[.agg #[.string ((rd_T62 l0 x10_1).f0), .int .i64 ((rd_T62 l0 x10_1).f1), .int .i64 ((rd_T62 l0 x10_1).f2)]] (by rfl) rfl rfl (by (try simp only [List.map_toArray, List.map_cons, List.map_nil]); first | done | rfl | (simp only [List.length_drop, List.length_take]; rfl)) ?_
                        with_reducible refine (impl_Turn_valid.calls k1 ((rd_T62 l0 x10_1).f0) ((rd_T62 l0 x10_1).f1) ((rd_T62 l0 x10_1).f2) true _ A6.out).mono ?_
                        rintro e w18 ⟨rfl, hb⟩
                        refine ⟨_, rfl, ?_⟩
                        have n0_ := Aside0.mk (blk_below (g := gb102) (o := .cells #[.string ((rd_T62 l0 x10_1).f0), .int .i64 ((rd_T62 l0 x10_1).f1), .int .i64 ((rd_T62 l0 x10_1).f2)] 62 (0, 0)) (by (with_reducible repeat (first | refine blk_drewN ?_ _ | refine blk_drew ?_ | refine blk_alloc ?_ _)); exact BK102.out) hb)
                        have n1_ := Aside0.mk (below_step (by repeat (first | (with_reducible first | exact HB.out | apply below_alloc | apply pw_below_drewN | apply below_drew1 | refine below_set ?_ GE102.out) | exact HB.out)) hb)
                        clear BK102
                        clear HB
                        have BK102 := n0_
                        have HB := n1_
                        clear n0_ n1_
                        (try clear hb)
                        (try clear hb2)
                        (try clear hk)
                        (try clear hi)
                        refine hK.out _ _ ⟨(blk_cell BK102.out 0).trans rfl, (blk_cell BK102.out 1).trans rfl, (blk_cell BK102.out 2).trans rfl, ((HB.out.cell (World.block_lt_of_cell? w _ hw104_0)).trans hw104_0), ((HB.out.cell (World.block_lt_of_cell? w _ hw104_1)).trans hw104_1), ((HB.out.cell (World.block_lt_of_cell? w _ hw104_2)).trans hw104_2)⟩ (fun hHeld => ?_)
                        clear hK K
                        refine norm_ (a' := ?_) ?_ ?_
                        rotate_left
                        · show Act.put _ (some 16) _ = _
                          simp only [Act.put, List.setIfInBounds_toArray, List.set_cons_zero, List.set_cons_succ, i64_w, i32_w]
                          rfl
                        refine pure_ (i := 2) (N := some 17) (v := ?_) (a' := ?_) #[true, true, true, false, false, false, false, false, false, false, false, false, false, false, false, false, false] rfl rfl (any_of HT_.out (by kernel_rfl)) (fun _ _ _ h => h) (Or.inl ⟨by rfl, ?_⟩) ?_ ?_
                        rotate_left
                        · intro w'
                          go_simp
                          with_reducible rfl
                        rotate_left
                        · simp only [Act.put, List.setIfInBounds_toArray, List.set_cons_zero, List.set_cons_succ, i64_w, i32_w]
                          rfl
                        refine pure_ (i := 3) (N := some 18) (v := ?_) (a' := ?_) #[true, true, true, true, false, false, false, false, false, false, false, false, false, false, false, false, false] rfl rfl (any_of HT_.out (by kernel_rfl)) (fun _ _ _ h => h) (Or.inl ⟨by rfl, ?_⟩) ?_ ?_
                        rotate_left
                        · intro w'
                          go_simp
                          with_reducible rfl
                        rotate_left
                        · simp only [Act.put, List.setIfInBounds_toArray, List.set_cons_zero, List.set_cons_succ, i64_w, i32_w]
                          rfl
                        refine pure_ (i := 4) (N := some 19) (v := ?_) (a' := ?_) #[true, true, true, true, true, false, false, false, false, false, false, false, false, false, false, false, false] rfl rfl (any_of HT_.out (by kernel_rfl)) (fun _ _ _ h => h) (Or.inl ⟨by rfl, ?_⟩) ?_ ?_
                        rotate_left
                        · intro w'
                          go_simp
                          with_reducible rfl
                        rotate_left
                        · simp only [Act.put, List.setIfInBounds_toArray, List.set_cons_zero, List.set_cons_succ, i64_w, i32_w]
                          rfl
                        refine pure_ (i := 5) (N := some 20) (v := ?_) (a' := ?_) #[true, true, true, true, true, true, false, false, false, false, false, false, false, false, false, false, false] rfl rfl (any_of HT_.out (by kernel_rfl)) (fun _ _ _ h => h) (Or.inl ⟨by rfl, ?_⟩) ?_ ?_
                        rotate_left
                        · intro w'
                          go_simp
                          with_reducible rfl
                        rotate_left
                        · simp only [Act.put, List.setIfInBounds_toArray, List.set_cons_zero, List.set_cons_succ, i64_w, i32_w]
                          rfl
                        refine pure_ (i := 6) (N := some 21) (v := ?_) (a' := ?_) #[true, true, true, true, true, true, true, false, false, false, false, false, false, false, false, false, false] rfl rfl (any_of HT_.out (by kernel_rfl)) (fun _ _ _ h => h) (Or.inl ⟨by rfl, ?_⟩) ?_ ?_
                        rotate_left
                        · intro w'
                          go_simp
                          with_reducible rfl
                        rotate_left
                        · simp only [Act.put, List.setIfInBounds_toArray, List.set_cons_zero, List.set_cons_succ, i64_w, i32_w]
                          rfl
                        refine pure_ (i := 7) (N := some 22) (v := ?_) (a' := ?_) #[true, true, true, true, true, true, true, true, false, false, false, false, false, false, false, false, false] rfl rfl (any_of HT_.out (by kernel_rfl)) (fun _ _ _ h => h) (Or.inl ⟨by rfl, ?_⟩) ?_ ?_
                        rotate_left
                        · intro w'
                          go_simp
                          with_reducible rfl
                        rotate_left
                        · simp only [Act.put, List.setIfInBounds_toArray, List.set_cons_zero, List.set_cons_succ, i64_w, i32_w]
                          rfl
                        refine pure_ (i := 8) (N := some 23) (v := ?_) (a' := ?_) #[true, true, true, true, true, true, true, true, true, false, false, false, false, false, false, false, false] rfl rfl (any_of HT_.out (by kernel_rfl)) (fun _ _ _ h => h) (Or.inl ⟨by rfl, ?_⟩) ?_ ?_
                        rotate_left
                        · intro w'
                          go_simp
                          with_reducible rfl
                        rotate_left
                        · simp only [Act.put, List.setIfInBounds_toArray, List.set_cons_zero, List.set_cons_succ, i64_w, i32_w]
                          rfl
                        refine pure_ (i := 9) (N := some 24) (v := ?_) (a' := ?_) #[true, true, true, true, true, true, true, true, true, true, false, false, false, false, false, false, false] rfl rfl (any_of HT_.out (by kernel_rfl)) (fun _ _ _ h => h) (Or.inl ⟨by rfl, ?_⟩) ?_ ?_
                        rotate_left
                        · intro w'
                          go_simp
                          with_reducible rfl
                        rotate_left
                        · simp only [Act.put, List.setIfInBounds_toArray, List.set_cons_zero, List.set_cons_succ, i64_w, i32_w]
                          rfl
                        refine pure_ (i := 10) (N := some 25) (v := ?_) (a' := ?_) #[true, true, true, true, true, true, true, true, true, true, true, false, false, false, false, false, false] rfl rfl (any_of HT_.out (by kernel_rfl)) (fun _ _ _ h => h) (Or.inl ⟨by rfl, ?_⟩) ?_ ?_
                        rotate_left
                        · intro w'
                          go_simp
                          with_reducible rfl
                        rotate_left
                        · simp only [Act.put, List.setIfInBounds_toArray, List.set_cons_zero, List.set_cons_succ, i64_w, i32_w]
                          rfl
                        refine take_ (i := 11) (N := some 26) (v := ?_) (a' := ?_) #[true, true, true, true, true, true, true, true, true, true, true, true, false, false, false, false, false] rfl rfl (take_ofW HT_.out HW_.out (by kernel_rfl)) (fun _ _ _ h => h) (Or.inl ⟨by rfl, ?_⟩) hHeld ?_ ?_
                        rotate_left
                        · rintro w' ⟨s0, s1, s2, s3, s4, s5⟩
                          go_simp
                          with_reducible rfl
                        rotate_left
                        · simp only [Act.put, List.setIfInBounds_toArray, List.set_cons_zero, List.set_cons_succ, i64_w, i32_w]
                          rfl
                        refine take_ (i := 12) (N := some 27) (v := ?_) (a' := ?_) #[true, true, true, true, true, true, true, true, true, true, true, true, true, false, false, false, false] rfl rfl (take_ofW HT_.out HW_.out (by kernel_rfl)) (fun _ _ _ h => h) (Or.inl ⟨by rfl, ?_⟩) hHeld ?_ ?_
                        rotate_left
                        · rintro w' ⟨s0, s1, s2, s3, s4, s5⟩
                          go_simp
                          with_reducible rfl
                        rotate_left
                        · simp only [Act.put, List.setIfInBounds_toArray, List.set_cons_zero, List.set_cons_succ, i64_w, i32_w]
                          rfl
                        refine one_ (i := 13) (N := some 28) #[true, true, true, true, true, true, true, true, true, true, true, true, true, true, false, false, false] rfl rfl (one_of HT_.out (by kernel_rfl)) (by decide) (fun K hK => ?_)
                        refine goes_ Try.func49 (by kernel_rfl) rfl #[.agg #[.string ((rd_T62 l0 (ji9)).f0), .int .i64 ((rd_T62 l0 (ji9)).f1), .int .i64 ((rd_T62 l0 (ji9)).f2)], .agg #[.string ((rd_T62 l0 x10_1).f0), .int .i64 ((rd_T62 l0 x10_1).f1), .int .i64 ((rd_T62 l0 x10_1).f2)]] (by rfl) rfl rfl (by (try simp only [List.map_toArray, List.map_cons, List.map_nil]); first | done | (simp only [hji9]; rfl) | rfl | (simp only [List.length_drop, List.length_take]; rfl)) ?_
                        with_reducible refine (impl_compareTurns.calls k1 ((rd_T62 l0 (ji9)).f0) ((rd_T62 l0 (ji9)).f1) ((rd_T62 l0 (ji9)).f2) ((rd_T62 l0 x10_1).f0) ((rd_T62 l0 x10_1).f1) ((rd_T62 l0 x10_1).f2) t105 _ A12.out).mono ?_
                        rintro e w19 ⟨rfl, hb⟩
                        refine ⟨_, rfl, ?_⟩
                        have n0_ := Aside0.mk (blk_below (g := gb102) (o := .cells #[.string ((rd_T62 l0 x10_1).f0), .int .i64 ((rd_T62 l0 x10_1).f1), .int .i64 ((rd_T62 l0 x10_1).f2)] 62 (0, 0)) (by (with_reducible repeat (first | refine blk_drewN ?_ _ | refine blk_drew ?_ | refine blk_alloc ?_ _)); exact BK102.out) hb)
                        have n1_ := Aside0.mk (below_step (by repeat (first | (with_reducible first | exact HB.out | apply below_alloc | apply pw_below_drewN | apply below_drew1 | refine below_set ?_ GE102.out) | exact HB.out)) hb)
                        clear BK102
                        clear HB
                        have BK102 := n0_
                        have HB := n1_
                        clear n0_ n1_
                        (try clear hb)
                        (try clear hb2)
                        (try clear hk)
                        (try clear hi)
                        refine hK.out _ _ ⟨(blk_cell BK102.out 0).trans rfl, (blk_cell BK102.out 1).trans rfl, (blk_cell BK102.out 2).trans rfl, ((HB.out.cell (World.block_lt_of_cell? w _ hw104_0)).trans hw104_0), ((HB.out.cell (World.block_lt_of_cell? w _ hw104_1)).trans hw104_1), ((HB.out.cell (World.block_lt_of_cell? w _ hw104_2)).trans hw104_2)⟩ (fun hHeld => ?_)
                        clear hK K
                        refine norm_ (a' := ?_) ?_ ?_
                        rotate_left
                        · show Act.put _ (some 28) _ = _
                          simp only [Act.put, List.setIfInBounds_toArray, List.set_cons_zero, List.set_cons_succ, i64_w, i32_w]
                          rfl
                        refine pure_ (i := 14) (N := some 29) (v := ?_) (a' := ?_) #[true, true, true, true, true, true, true, true, true, true, true, true, true, true, true, false, false] rfl rfl (any_of HT_.out (by kernel_rfl)) (fun _ _ _ h => h) (Or.inl ⟨by rfl, ?_⟩) ?_ ?_
                        rotate_left
                        · intro w'
                          go_simp
                          with_reducible rfl
                        rotate_left
                        · simp only [Act.put, List.setIfInBounds_toArray, List.set_cons_zero, List.set_cons_succ, i64_w, i32_w]
                          rfl
                        refine pure_ (i := 15) (N := some 30) (v := ?_) (a' := ?_) #[true, true, true, true, true, true, true, true, true, true, true, true, true, true, true, true, false] rfl rfl (any_of HT_.out (by kernel_rfl)) (fun _ _ _ h => h) (Or.inl ⟨by rfl, ?_⟩) ?_ ?_
                        rotate_left
                        · intro w'
                          go_simp
                          with_reducible rfl
                        rotate_left
                        · simp only [Act.put, List.setIfInBounds_toArray, List.set_cons_zero, List.set_cons_succ, i64_w, i32_w]
                          rfl
                        refine pure_ (i := 16) (N := some 31) (v := ?_) (a' := ?_) #[true, true, true, true, true, true, true, true, true, true, true, true, true, true, true, true, true] rfl rfl (any_of HT_.out (by kernel_rfl)) (fun _ _ _ h => h) (Or.inl ⟨by rfl, ?_⟩) ?_ ?_
                        rotate_left
                        · intro w'
                          go_simp
                          with_reducible rfl
                        rotate_left
                        · simp only [Act.put, List.setIfInBounds_toArray, List.set_cons_zero, List.set_cons_succ, i64_w, i32_w]
                          rfl
                        refine done_ (done_of HT_.out (by kernel_rfl)) ?_
                        try go_wp2
                        go_ret
                        exact ⟨by first | rfl | (simp [errW_none, errW_some] <;> rfl) | (simp only [← hji9]; first | rfl | (simp [errW_none, errW_some] <;> rfl)) | (simp [*, errW_none, errW_some] <;> rfl), by repeat (first | (with_reducible first | exact HB.out | apply below_alloc | apply pw_below_drewN | apply below_drew1 | refine below_set ?_ GE102.out) | exact HB.out)⟩
                      · rw [if_neg c13] at H
                        have c13b0 : decide (0 ≤ t105) = false := decide_eq_false c13
                        clear c13
                        have H' := Aside0.mk H
                        clear H
                        have p101 : 0 ≤ (x10_1 : Int) := of_decide_eq_true (by first | (with_reducible assumption) | assumption)
                        have q101 : x10_1 < (l0.length : Int) := of_decide_eq_true (by first | (with_reducible assumption) | assumption)
                        obtain ⟨ad101, e101, hx101_0, hx101_1, hx101_2⟩ := at_T62 HR0.out x10_1 p101 q101
                        cases e101
                        replace hx101_0 := (HB.out.cell (World.block_lt_of_cell? w _ hx101_0)).trans hx101_0
                        replace hx101_1 := (HB.out.cell (World.block_lt_of_cell? w _ hx101_1)).trans hx101_1
                        replace hx101_2 := (HB.out.cell (World.block_lt_of_cell? w _ hx101_2)).trans hx101_2
                        replace p101 := eq_true p101
                        replace q101 := eq_true q101
                        try go_wp2_with (first | ((with_reducible refine gate_dst (N := 4) rfl ?_); refine box_event ?hg (N := 4) ?hd (cs := #[.string (⟨#[]⟩ : ByteArray), .int .i64 0, .int .i64 0]) (t := 62) ?hr ?_; (case hd => rfl); (case hg => rfl); (case hr => first | (go_simp; done) | (go_simp; rfl)); intro gb102 hg w20 hbox hb; have n0_ := Aside0.mk (below_step (by repeat (first | (with_reducible first | exact HB.out | apply below_alloc | apply pw_below_drewN | apply below_drew1) | exact HB.out)) hb); have n1_ := Aside0.mk (hbox); have n2_ := Aside0.mk ((by rw [hg]; exact (below_size (by repeat (first | (with_reducible first | exact HB.out | apply below_alloc | apply pw_below_drewN | apply below_drew1) | exact HB.out))) : w.heap.size ≤ gb102)); have n3_ := Aside0.mk ((by rw [hg]; exact (below_size (by repeat (first | (with_reducible first | exact HB.out | apply below_alloc | apply pw_below_drewN | apply below_drew1) | exact HB.out))) : w.heap.size ≤ gb102)); clear HB; have HB := n0_; have BK102 := n1_; have GW102 := n2_; have GE102 := n3_; clear n0_ n1_ n2_ n3_; clear hb hbox hg; have hcz21_0 : w20.cell? ⟨gb102, 0, none⟩ = some (.string (⟨#[]⟩ : ByteArray)) := (blk_cell BK102.out 0).trans rfl; have hcz21_1 : w20.cell? ⟨gb102, 1, none⟩ = some (.int .i64 0) := (blk_cell BK102.out 1).trans rfl; have hcz21_2 : w20.cell? ⟨gb102, 2, none⟩ = some (.int .i64 0) := (blk_cell BK102.out 2).trans rfl; have hfz21_0 := blk_frozen BK102.out 0; have hfz21_1 := blk_frozen BK102.out 1; have hfz21_2 := blk_frozen BK102.out 2))
                        have n0_ : Aside0 ((((w20.setCell ⟨gb102, 0, none⟩ (.string ((rd_T62 l0 x10_1).f0))).setCell ⟨gb102, 1, none⟩ (.int .i64 ((rd_T62 l0 x10_1).f1))).setCell ⟨gb102, 2, none⟩ (.int .i64 ((rd_T62 l0 x10_1).f2))).heap[gb102]? = some (.cells #[.string ((rd_T62 l0 x10_1).f0), .int .i64 ((rd_T62 l0 x10_1).f1), .int .i64 ((rd_T62 l0 x10_1).f2)] 62 (0, 0))) := ⟨by (with_reducible repeat (first | refine blk_drewN ?_ _ | refine blk_drew ?_ | refine blk_alloc ?_ _)); refine blk_put (cs := #[.string ((rd_T62 l0 x10_1).f0), .int .i64 ((rd_T62 l0 x10_1).f1), .int .i64 0]) ?_ 2 _ rfl; (with_reducible repeat (first | refine blk_drewN ?_ _ | refine blk_drew ?_ | refine blk_alloc ?_ _)); refine blk_put (cs := #[.string ((rd_T62 l0 x10_1).f0), .int .i64 0, .int .i64 0]) ?_ 1 _ rfl; (with_reducible repeat (first | refine blk_drewN ?_ _ | refine blk_drew ?_ | refine blk_alloc ?_ _)); refine blk_put (cs := #[.string (⟨#[]⟩ : ByteArray), .int .i64 0, .int .i64 0]) ?_ 0 _ rfl; (with_reducible repeat (first | refine blk_drewN ?_ _ | refine blk_drew ?_ | refine blk_alloc ?_ _)); exact BK102.out⟩
                        have n1_ : Aside0 (Below w.heap.size w (((w20.setCell ⟨gb102, 0, none⟩ (.string ((rd_T62 l0 x10_1).f0))).setCell ⟨gb102, 1, none⟩ (.int .i64 ((rd_T62 l0 x10_1).f1))).setCell ⟨gb102, 2, none⟩ (.int .i64 ((rd_T62 l0 x10_1).f2)))) := ⟨by repeat (first | (with_reducible first | exact HB.out | apply below_alloc | apply pw_below_drewN | apply below_drew1 | refine below_set ?_ GE102.out) | exact HB.out)⟩
                        (try clear BK102)
                        (try clear HB)
                        generalize (((w20.setCell ⟨gb102, 0, none⟩ (.string ((rd_T62 l0 x10_1).f0))).setCell ⟨gb102, 1, none⟩ (.int .i64 ((rd_T62 l0 x10_1).f1))).setCell ⟨gb102, 2, none⟩ (.int .i64 ((rd_T62 l0 x10_1).f2))) = w22 at n0_ n1_ ⊢
                        have BK102 := n0_
                        have HB := n1_
                        clear n0_ n1_
                        have n0_ := Aside0.mk (blk_drew BK102.out)
                        have n1_ := Aside0.mk (below_drew1 HB.out)
                        clear BK102
                        clear HB
                        have BK102 := n0_
                        have HB := n1_
                        clear n0_ n1_
                        have p104 : 0 ≤ ((ji9) : Int) := of_decide_eq_true (by first | (with_reducible assumption) | assumption)
                        have q104 : (ji9) < (l0.length : Int) := of_decide_eq_true (by first | (with_reducible assumption) | assumption)
                        obtain ⟨ad104, e104, hx104_0, hx104_1, hx104_2⟩ := at_T62 HR0.out (ji9) p104 q104
                        have hw104_2 := hx104_2
                        have hw104_1 := hx104_1
                        have hw104_0 := hx104_0
                        obtain rfl : ad101 = ad104 := (by injection e104)
                        replace hx104_0 := (HB.out.cell (World.block_lt_of_cell? w _ hx104_0)).trans hx104_0
                        replace hx104_1 := (HB.out.cell (World.block_lt_of_cell? w _ hx104_1)).trans hx104_1
                        replace hx104_2 := (HB.out.cell (World.block_lt_of_cell? w _ hx104_2)).trans hx104_2
                        replace p104 := eq_true p104
                        replace q104 := eq_true q104
                        refine start_ (n := 17) (S := fun w' => w'.cell? ⟨gb102, 0, none⟩ = some (.string ((rd_T62 l0 x10_1).f0)) ∧ w'.cell? ⟨gb102, 1, none⟩ = some (.int .i64 ((rd_T62 l0 x10_1).f1)) ∧ w'.cell? ⟨gb102, 2, none⟩ = some (.int .i64 ((rd_T62 l0 x10_1).f2)) ∧ w'.cell? (ad101.add (((ji9)).toNat * 3)) = some (.string ((rd_T62 l0 (ji9)).f0)) ∧ w'.cell? ⟨(ad101.add (((ji9)).toNat * 3)).block, (ad101.add (((ji9)).toNat * 3)).off + 1, none⟩ = some (.int .i64 ((rd_T62 l0 (ji9)).f1)) ∧ w'.cell? ⟨(ad101.add (((ji9)).toNat * 3)).block, (ad101.add (((ji9)).toNat * 3)).off + 2, none⟩ = some (.int .i64 ((rd_T62 l0 (ji9)).f2))) (ds := []) #[false, false, false, false, false, false, false, false, false, false, false, false, false, false, false, false, false] (by kernel_rfl) rfl rfl ⟨(blk_cell BK102.out 0).trans rfl, (blk_cell BK102.out 1).trans rfl, (blk_cell BK102.out 2).trans rfl, ((HB.out.cell (World.block_lt_of_cell? w _ hw104_0)).trans hw104_0), ((HB.out.cell (World.block_lt_of_cell? w _ hw104_1)).trans hw104_1), ((HB.out.cell (World.block_lt_of_cell? w _ hw104_2)).trans hw104_2)⟩ (fun hHeld => ?_); refine with_tabW impl_ValidTurns.tab6 impl_ValidTurns.bits6 (fun HT_ HW_ => ?_)
                        generalize w22.drew = w23 at BK102 HB hx104_0 hx104_1 hx104_2 hHeld ⊢
                        refine take_ (i := 0) (N := some 15) (v := ?_) (a' := ?_) #[true, false, false, false, false, false, false, false, false, false, false, false, false, false, false, false, false] rfl rfl (take_ofW HT_.out HW_.out (by kernel_rfl)) (fun _ _ _ h => h) (Or.inl ⟨by rfl, ?_⟩) hHeld ?_ ?_
                        rotate_left
                        · rintro w' ⟨s0, s1, s2, s3, s4, s5⟩
                          go_simp
                          with_reducible rfl
                        rotate_left
                        · simp only [Act.put, List.setIfInBounds_toArray, List.set_cons_zero, List.set_cons_succ, i64_w, i32_w]
                          rfl
                        refine one_ (i := 1) (N := some 16) #[true, true, false, false, false, false, false, false, false, false, false, false, false, false, false, false, false] rfl rfl (one_of HT_.out (by kernel_rfl)) (by decide) (fun K hK => ?_)
                        refine goes_ Try.func48 (by kernel_rfl) rfl #[.agg #[.string ((rd_T62 l0 x10_1).f0), .int .i64 ((rd_T62 l0 x10_1).f1), .int .i64 ((rd_T62 l0 x10_1).f2)]] (by rfl) rfl rfl (by (try simp only [List.map_toArray, List.map_cons, List.map_nil]); first | done | rfl | (simp only [List.length_drop, List.length_take]; rfl)) ?_
                        with_reducible refine (impl_Turn_valid.calls k1 ((rd_T62 l0 x10_1).f0) ((rd_T62 l0 x10_1).f1) ((rd_T62 l0 x10_1).f2) true _ A6.out).mono ?_
                        rintro e w24 ⟨rfl, hb⟩
                        refine ⟨_, rfl, ?_⟩
                        have n0_ := Aside0.mk (blk_below (g := gb102) (o := .cells #[.string ((rd_T62 l0 x10_1).f0), .int .i64 ((rd_T62 l0 x10_1).f1), .int .i64 ((rd_T62 l0 x10_1).f2)] 62 (0, 0)) (by (with_reducible repeat (first | refine blk_drewN ?_ _ | refine blk_drew ?_ | refine blk_alloc ?_ _)); exact BK102.out) hb)
                        have n1_ := Aside0.mk (below_step (by repeat (first | (with_reducible first | exact HB.out | apply below_alloc | apply pw_below_drewN | apply below_drew1 | refine below_set ?_ GE102.out) | exact HB.out)) hb)
                        clear BK102
                        clear HB
                        have BK102 := n0_
                        have HB := n1_
                        clear n0_ n1_
                        (try clear hb)
                        (try clear hb2)
                        (try clear hk)
                        (try clear hi)
                        refine hK.out _ _ ⟨(blk_cell BK102.out 0).trans rfl, (blk_cell BK102.out 1).trans rfl, (blk_cell BK102.out 2).trans rfl, ((HB.out.cell (World.block_lt_of_cell? w _ hw104_0)).trans hw104_0), ((HB.out.cell (World.block_lt_of_cell? w _ hw104_1)).trans hw104_1), ((HB.out.cell (World.block_lt_of_cell? w _ hw104_2)).trans hw104_2)⟩ (fun hHeld => ?_)
                        clear hK K
                        refine norm_ (a' := ?_) ?_ ?_
                        rotate_left
                        · show Act.put _ (some 16) _ = _
                          simp only [Act.put, List.setIfInBounds_toArray, List.set_cons_zero, List.set_cons_succ, i64_w, i32_w]
                          rfl
                        refine pure_ (i := 2) (N := some 17) (v := ?_) (a' := ?_) #[true, true, true, false, false, false, false, false, false, false, false, false, false, false, false, false, false] rfl rfl (any_of HT_.out (by kernel_rfl)) (fun _ _ _ h => h) (Or.inl ⟨by rfl, ?_⟩) ?_ ?_
                        rotate_left
                        · intro w'
                          go_simp
                          with_reducible rfl
                        rotate_left
                        · simp only [Act.put, List.setIfInBounds_toArray, List.set_cons_zero, List.set_cons_succ, i64_w, i32_w]
                          rfl
                        refine pure_ (i := 3) (N := some 18) (v := ?_) (a' := ?_) #[true, true, true, true, false, false, false, false, false, false, false, false, false, false, false, false, false] rfl rfl (any_of HT_.out (by kernel_rfl)) (fun _ _ _ h => h) (Or.inl ⟨by rfl, ?_⟩) ?_ ?_
                        rotate_left
                        · intro w'
                          go_simp
                          with_reducible rfl
                        rotate_left
                        · simp only [Act.put, List.setIfInBounds_toArray, List.set_cons_zero, List.set_cons_succ, i64_w, i32_w]
                          rfl
                        refine pure_ (i := 4) (N := some 19) (v := ?_) (a' := ?_) #[true, true, true, true, true, false, false, false, false, false, false, false, false, false, false, false, false] rfl rfl (any_of HT_.out (by kernel_rfl)) (fun _ _ _ h => h) (Or.inl ⟨by rfl, ?_⟩) ?_ ?_
                        rotate_left
                        · intro w'
                          go_simp
                          with_reducible rfl
                        rotate_left
                        · simp only [Act.put, List.setIfInBounds_toArray, List.set_cons_zero, List.set_cons_succ, i64_w, i32_w]
                          rfl
                        refine pure_ (i := 5) (N := some 20) (v := ?_) (a' := ?_) #[true, true, true, true, true, true, false, false, false, false, false, false, false, false, false, false, false] rfl rfl (any_of HT_.out (by kernel_rfl)) (fun _ _ _ h => h) (Or.inl ⟨by rfl, ?_⟩) ?_ ?_
                        rotate_left
                        · intro w'
                          go_simp
                          with_reducible rfl
                        rotate_left
                        · simp only [Act.put, List.setIfInBounds_toArray, List.set_cons_zero, List.set_cons_succ, i64_w, i32_w]
                          rfl
                        refine pure_ (i := 6) (N := some 21) (v := ?_) (a' := ?_) #[true, true, true, true, true, true, true, false, false, false, false, false, false, false, false, false, false] rfl rfl (any_of HT_.out (by kernel_rfl)) (fun _ _ _ h => h) (Or.inl ⟨by rfl, ?_⟩) ?_ ?_
                        rotate_left
                        · intro w'
                          go_simp
                          with_reducible rfl
                        rotate_left
                        · simp only [Act.put, List.setIfInBounds_toArray, List.set_cons_zero, List.set_cons_succ, i64_w, i32_w]
                          rfl
                        refine pure_ (i := 7) (N := some 22) (v := ?_) (a' := ?_) #[true, true, true, true, true, true, true, true, false, false, false, false, false, false, false, false, false] rfl rfl (any_of HT_.out (by kernel_rfl)) (fun _ _ _ h => h) (Or.inl ⟨by rfl, ?_⟩) ?_ ?_
                        rotate_left
                        · intro w'
                          go_simp
                          with_reducible rfl
                        rotate_left
                        · simp only [Act.put, List.setIfInBounds_toArray, List.set_cons_zero, List.set_cons_succ, i64_w, i32_w]
                          rfl
                        refine pure_ (i := 8) (N := some 23) (v := ?_) (a' := ?_) #[true, true, true, true, true, true, true, true, true, false, false, false, false, false, false, false, false] rfl rfl (any_of HT_.out (by kernel_rfl)) (fun _ _ _ h => h) (Or.inl ⟨by rfl, ?_⟩) ?_ ?_
                        rotate_left
                        · intro w'
                          go_simp
                          with_reducible rfl
                        rotate_left
                        · simp only [Act.put, List.setIfInBounds_toArray, List.set_cons_zero, List.set_cons_succ, i64_w, i32_w]
                          rfl
                        refine pure_ (i := 9) (N := some 24) (v := ?_) (a' := ?_) #[true, true, true, true, true, true, true, true, true, true, false, false, false, false, false, false, false] rfl rfl (any_of HT_.out (by kernel_rfl)) (fun _ _ _ h => h) (Or.inl ⟨by rfl, ?_⟩) ?_ ?_
                        rotate_left
                        · intro w'
                          go_simp
                          with_reducible rfl
                        rotate_left
                        · simp only [Act.put, List.setIfInBounds_toArray, List.set_cons_zero, List.set_cons_succ, i64_w, i32_w]
                          rfl
                        refine pure_ (i := 10) (N := some 25) (v := ?_) (a' := ?_) #[true, true, true, true, true, true, true, true, true, true, true, false, false, false, false, false, false] rfl rfl (any_of HT_.out (by kernel_rfl)) (fun _ _ _ h => h) (Or.inl ⟨by rfl, ?_⟩) ?_ ?_
                        rotate_left
                        · intro w'
                          go_simp
                          with_reducible rfl
                        rotate_left
                        · simp only [Act.put, List.setIfInBounds_toArray, List.set_cons_zero, List.set_cons_succ, i64_w, i32_w]
                          rfl
                        refine take_ (i := 11) (N := some 26) (v := ?_) (a' := ?_) #[true, true, true, true, true, true, true, true, true, true, true, true, false, false, false, false, false] rfl rfl (take_ofW HT_.out HW_.out (by kernel_rfl)) (fun _ _ _ h => h) (Or.inl ⟨by rfl, ?_⟩) hHeld ?_ ?_
                        rotate_left
                        · rintro w' ⟨s0, s1, s2, s3, s4, s5⟩
                          go_simp
                          with_reducible rfl
                        rotate_left
                        · simp only [Act.put, List.setIfInBounds_toArray, List.set_cons_zero, List.set_cons_succ, i64_w, i32_w]
                          rfl
                        refine take_ (i := 12) (N := some 27) (v := ?_) (a' := ?_) #[true, true, true, true, true, true, true, true, true, true, true, true, true, false, false, false, false] rfl rfl (take_ofW HT_.out HW_.out (by kernel_rfl)) (fun _ _ _ h => h) (Or.inl ⟨by rfl, ?_⟩) hHeld ?_ ?_
                        rotate_left
                        · rintro w' ⟨s0, s1, s2, s3, s4, s5⟩
                          go_simp
                          with_reducible rfl
                        rotate_left
                        · simp only [Act.put, List.setIfInBounds_toArray, List.set_cons_zero, List.set_cons_succ, i64_w, i32_w]
                          rfl
                        refine one_ (i := 13) (N := some 28) #[true, true, true, true, true, true, true, true, true, true, true, true, true, true, false, false, false] rfl rfl (one_of HT_.out (by kernel_rfl)) (by decide) (fun K hK => ?_)
                        refine goes_ Try.func49 (by kernel_rfl) rfl #[.agg #[.string ((rd_T62 l0 (ji9)).f0), .int .i64 ((rd_T62 l0 (ji9)).f1), .int .i64 ((rd_T62 l0 (ji9)).f2)], .agg #[.string ((rd_T62 l0 x10_1).f0), .int .i64 ((rd_T62 l0 x10_1).f1), .int .i64 ((rd_T62 l0 x10_1).f2)]] (by rfl) rfl rfl (by (try simp only [List.map_toArray, List.map_cons, List.map_nil]); first | done | (simp only [hji9]; rfl) | rfl | (simp only [List.length_drop, List.length_take]; rfl)) ?_
                        with_reducible refine (impl_compareTurns.calls k1 ((rd_T62 l0 (ji9)).f0) ((rd_T62 l0 (ji9)).f1) ((rd_T62 l0 (ji9)).f2) ((rd_T62 l0 x10_1).f0) ((rd_T62 l0 x10_1).f1) ((rd_T62 l0 x10_1).f2) t105 _ A12.out).mono ?_
                        rintro e w25 ⟨rfl, hb⟩
                        refine ⟨_, rfl, ?_⟩
                        have n0_ := Aside0.mk (blk_below (g := gb102) (o := .cells #[.string ((rd_T62 l0 x10_1).f0), .int .i64 ((rd_T62 l0 x10_1).f1), .int .i64 ((rd_T62 l0 x10_1).f2)] 62 (0, 0)) (by (with_reducible repeat (first | refine blk_drewN ?_ _ | refine blk_drew ?_ | refine blk_alloc ?_ _)); exact BK102.out) hb)
                        have n1_ := Aside0.mk (below_step (by repeat (first | (with_reducible first | exact HB.out | apply below_alloc | apply pw_below_drewN | apply below_drew1 | refine below_set ?_ GE102.out) | exact HB.out)) hb)
                        clear BK102
                        clear HB
                        have BK102 := n0_
                        have HB := n1_
                        clear n0_ n1_
                        (try clear hb)
                        (try clear hb2)
                        (try clear hk)
                        (try clear hi)
                        refine hK.out _ _ ⟨(blk_cell BK102.out 0).trans rfl, (blk_cell BK102.out 1).trans rfl, (blk_cell BK102.out 2).trans rfl, ((HB.out.cell (World.block_lt_of_cell? w _ hw104_0)).trans hw104_0), ((HB.out.cell (World.block_lt_of_cell? w _ hw104_1)).trans hw104_1), ((HB.out.cell (World.block_lt_of_cell? w _ hw104_2)).trans hw104_2)⟩ (fun hHeld => ?_)
                        clear hK K
                        refine norm_ (a' := ?_) ?_ ?_
                        rotate_left
                        · show Act.put _ (some 28) _ = _
                          simp only [Act.put, List.setIfInBounds_toArray, List.set_cons_zero, List.set_cons_succ, i64_w, i32_w]
                          rfl
                        refine pure_ (i := 14) (N := some 29) (v := ?_) (a' := ?_) #[true, true, true, true, true, true, true, true, true, true, true, true, true, true, true, false, false] rfl rfl (any_of HT_.out (by kernel_rfl)) (fun _ _ _ h => h) (Or.inl ⟨by rfl, ?_⟩) ?_ ?_
                        rotate_left
                        · intro w'
                          go_simp
                          with_reducible rfl
                        rotate_left
                        · simp only [Act.put, List.setIfInBounds_toArray, List.set_cons_zero, List.set_cons_succ, i64_w, i32_w]
                          rfl
                        refine pure_ (i := 15) (N := some 30) (v := ?_) (a' := ?_) #[true, true, true, true, true, true, true, true, true, true, true, true, true, true, true, true, false] rfl rfl (any_of HT_.out (by kernel_rfl)) (fun _ _ _ h => h) (Or.inl ⟨by rfl, ?_⟩) ?_ ?_
                        rotate_left
                        · intro w'
                          go_simp
                          with_reducible rfl
                        rotate_left
                        · simp only [Act.put, List.setIfInBounds_toArray, List.set_cons_zero, List.set_cons_succ, i64_w, i32_w]
                          rfl
                        refine pure_ (i := 16) (N := some 31) (v := ?_) (a' := ?_) #[true, true, true, true, true, true, true, true, true, true, true, true, true, true, true, true, true] rfl rfl (any_of HT_.out (by kernel_rfl)) (fun _ _ _ h => h) (Or.inl ⟨by rfl, ?_⟩) ?_ ?_
                        rotate_left
                        · intro w'
                          go_simp
                          with_reducible rfl
                        rotate_left
                        · simp only [Act.put, List.setIfInBounds_toArray, List.set_cons_zero, List.set_cons_succ, i64_w, i32_w]
                          rfl
                        refine done_ (done_of HT_.out (by kernel_rfl)) ?_
                        try go_wp2
                        go_roundg k1
                        case measure => have := HK1.out; omega
                        case rel => exact ⟨(wrap64 (x10_1 + 1)), (by first | rfl | (simp; done) | (simp [*]; done)), H', ⟨by have := HK1.out; omega⟩, ⟨by repeat (first | (with_reducible first | exact HB.out | apply below_alloc | apply pw_below_drewN | apply below_drew1 | refine below_set ?_ GE102.out) | exact HB.out)⟩⟩
                    · rw [if_neg c11] at H
                      exact absurd H (by simp)
                  · rw [if_neg c10] at H
                    exact absurd H (by simp)
                · rw [if_neg c8] at H
                  have c8b0 : decide (0 < x10_1) = false := decide_eq_false c8
                  clear c8
                  have H' := Aside0.mk H
                  clear H
                  have p101 : 0 ≤ (x10_1 : Int) := of_decide_eq_true (by first | (with_reducible assumption) | assumption)
                  have q101 : x10_1 < (l0.length : Int) := of_decide_eq_true (by first | (with_reducible assumption) | assumption)
                  obtain ⟨ad101, e101, hx101_0, hx101_1, hx101_2⟩ := at_T62 HR0.out x10_1 p101 q101
                  cases e101
                  replace hx101_0 := (HB.out.cell (World.block_lt_of_cell? w _ hx101_0)).trans hx101_0
                  replace hx101_1 := (HB.out.cell (World.block_lt_of_cell? w _ hx101_1)).trans hx101_1
                  replace hx101_2 := (HB.out.cell (World.block_lt_of_cell? w _ hx101_2)).trans hx101_2
                  replace p101 := eq_true p101
                  replace q101 := eq_true q101
                  try go_wp2_with (first | ((with_reducible refine gate_dst (N := 4) rfl ?_); refine box_event ?hg (N := 4) ?hd (cs := #[.string (⟨#[]⟩ : ByteArray), .int .i64 0, .int .i64 0]) (t := 62) ?hr ?_; (case hd => rfl); (case hg => rfl); (case hr => first | (go_simp; done) | (go_simp; rfl)); intro gb102 hg w26 hbox hb; have n0_ := Aside0.mk (below_step (by repeat (first | (with_reducible first | exact HB.out | apply below_alloc | apply pw_below_drewN | apply below_drew1) | exact HB.out)) hb); have n1_ := Aside0.mk (hbox); have n2_ := Aside0.mk ((by rw [hg]; exact (below_size (by repeat (first | (with_reducible first | exact HB.out | apply below_alloc | apply pw_below_drewN | apply below_drew1) | exact HB.out))) : w.heap.size ≤ gb102)); have n3_ := Aside0.mk ((by rw [hg]; exact (below_size (by repeat (first | (with_reducible first | exact HB.out | apply below_alloc | apply pw_below_drewN | apply below_drew1) | exact HB.out))) : w.heap.size ≤ gb102)); clear HB; have HB := n0_; have BK102 := n1_; have GW102 := n2_; have GE102 := n3_; clear n0_ n1_ n2_ n3_; clear hb hbox hg; have hcz27_0 : w26.cell? ⟨gb102, 0, none⟩ = some (.string (⟨#[]⟩ : ByteArray)) := (blk_cell BK102.out 0).trans rfl; have hcz27_1 : w26.cell? ⟨gb102, 1, none⟩ = some (.int .i64 0) := (blk_cell BK102.out 1).trans rfl; have hcz27_2 : w26.cell? ⟨gb102, 2, none⟩ = some (.int .i64 0) := (blk_cell BK102.out 2).trans rfl; have hfz27_0 := blk_frozen BK102.out 0; have hfz27_1 := blk_frozen BK102.out 1; have hfz27_2 := blk_frozen BK102.out 2))
                  have n0_ : Aside0 ((((w26.setCell ⟨gb102, 0, none⟩ (.string ((rd_T62 l0 x10_1).f0))).setCell ⟨gb102, 1, none⟩ (.int .i64 ((rd_T62 l0 x10_1).f1))).setCell ⟨gb102, 2, none⟩ (.int .i64 ((rd_T62 l0 x10_1).f2))).heap[gb102]? = some (.cells #[.string ((rd_T62 l0 x10_1).f0), .int .i64 ((rd_T62 l0 x10_1).f1), .int .i64 ((rd_T62 l0 x10_1).f2)] 62 (0, 0))) := ⟨by (with_reducible repeat (first | refine blk_drewN ?_ _ | refine blk_drew ?_ | refine blk_alloc ?_ _)); refine blk_put (cs := #[.string ((rd_T62 l0 x10_1).f0), .int .i64 ((rd_T62 l0 x10_1).f1), .int .i64 0]) ?_ 2 _ rfl; (with_reducible repeat (first | refine blk_drewN ?_ _ | refine blk_drew ?_ | refine blk_alloc ?_ _)); refine blk_put (cs := #[.string ((rd_T62 l0 x10_1).f0), .int .i64 0, .int .i64 0]) ?_ 1 _ rfl; (with_reducible repeat (first | refine blk_drewN ?_ _ | refine blk_drew ?_ | refine blk_alloc ?_ _)); refine blk_put (cs := #[.string (⟨#[]⟩ : ByteArray), .int .i64 0, .int .i64 0]) ?_ 0 _ rfl; (with_reducible repeat (first | refine blk_drewN ?_ _ | refine blk_drew ?_ | refine blk_alloc ?_ _)); exact BK102.out⟩
                  have n1_ : Aside0 (Below w.heap.size w (((w26.setCell ⟨gb102, 0, none⟩ (.string ((rd_T62 l0 x10_1).f0))).setCell ⟨gb102, 1, none⟩ (.int .i64 ((rd_T62 l0 x10_1).f1))).setCell ⟨gb102, 2, none⟩ (.int .i64 ((rd_T62 l0 x10_1).f2)))) := ⟨by repeat (first | (with_reducible first | exact HB.out | apply below_alloc | apply pw_below_drewN | apply below_drew1 | refine below_set ?_ GE102.out) | exact HB.out)⟩
                  (try clear BK102)
                  (try clear HB)
                  generalize (((w26.setCell ⟨gb102, 0, none⟩ (.string ((rd_T62 l0 x10_1).f0))).setCell ⟨gb102, 1, none⟩ (.int .i64 ((rd_T62 l0 x10_1).f1))).setCell ⟨gb102, 2, none⟩ (.int .i64 ((rd_T62 l0 x10_1).f2))) = w28 at n0_ n1_ ⊢
                  have BK102 := n0_
                  have HB := n1_
                  clear n0_ n1_
                  have n0_ := Aside0.mk (blk_drew BK102.out)
                  have n1_ := Aside0.mk (below_drew1 HB.out)
                  clear BK102
                  clear HB
                  have BK102 := n0_
                  have HB := n1_
                  clear n0_ n1_
                  refine start_ (n := 17) (S := fun w' => w'.cell? ⟨gb102, 0, none⟩ = some (.string ((rd_T62 l0 x10_1).f0)) ∧ w'.cell? ⟨gb102, 1, none⟩ = some (.int .i64 ((rd_T62 l0 x10_1).f1)) ∧ w'.cell? ⟨gb102, 2, none⟩ = some (.int .i64 ((rd_T62 l0 x10_1).f2))) (ds := []) #[false, false, false, false, false, false, false, false, false, false, false, false, false, false, false, false, false] (by kernel_rfl) rfl rfl ⟨(blk_cell BK102.out 0).trans rfl, (blk_cell BK102.out 1).trans rfl, (blk_cell BK102.out 2).trans rfl⟩ (fun hHeld => ?_); refine with_tabW impl_ValidTurns.tab6 impl_ValidTurns.bits6 (fun HT_ HW_ => ?_)
                  generalize w28.drew = w29 at BK102 HB hHeld ⊢
                  refine take_ (i := 0) (N := some 15) (v := ?_) (a' := ?_) #[true, false, false, false, false, false, false, false, false, false, false, false, false, false, false, false, false] rfl rfl (take_ofW HT_.out HW_.out (by kernel_rfl)) (fun _ _ _ h => h) (Or.inl ⟨by rfl, ?_⟩) hHeld ?_ ?_
                  rotate_left
                  · rintro w' ⟨s0, s1, s2⟩
                    go_simp
                    with_reducible rfl
                  rotate_left
                  · simp only [Act.put, List.setIfInBounds_toArray, List.set_cons_zero, List.set_cons_succ, i64_w, i32_w]
                    rfl
                  refine one_ (i := 1) (N := some 16) #[true, true, false, false, false, false, false, false, false, false, false, false, false, false, false, false, false] rfl rfl (one_of HT_.out (by kernel_rfl)) (by decide) (fun K hK => ?_)
                  refine goes_ Try.func48 (by kernel_rfl) rfl #[.agg #[.string ((rd_T62 l0 x10_1).f0), .int .i64 ((rd_T62 l0 x10_1).f1), .int .i64 ((rd_T62 l0 x10_1).f2)]] (by rfl) rfl rfl (by (try simp only [List.map_toArray, List.map_cons, List.map_nil]); first | done | rfl | (simp only [List.length_drop, List.length_take]; rfl)) ?_
                  with_reducible refine (impl_Turn_valid.calls k1 ((rd_T62 l0 x10_1).f0) ((rd_T62 l0 x10_1).f1) ((rd_T62 l0 x10_1).f2) true _ A6.out).mono ?_
                  rintro e w30 ⟨rfl, hb⟩
                  refine ⟨_, rfl, ?_⟩
                  have n0_ := Aside0.mk (blk_below (g := gb102) (o := .cells #[.string ((rd_T62 l0 x10_1).f0), .int .i64 ((rd_T62 l0 x10_1).f1), .int .i64 ((rd_T62 l0 x10_1).f2)] 62 (0, 0)) (by (with_reducible repeat (first | refine blk_drewN ?_ _ | refine blk_drew ?_ | refine blk_alloc ?_ _)); exact BK102.out) hb)
                  have n1_ := Aside0.mk (below_step (by repeat (first | (with_reducible first | exact HB.out | apply below_alloc | apply pw_below_drewN | apply below_drew1 | refine below_set ?_ GE102.out) | exact HB.out)) hb)
                  clear BK102
                  clear HB
                  have BK102 := n0_
                  have HB := n1_
                  clear n0_ n1_
                  (try clear hb)
                  (try clear hb2)
                  (try clear hk)
                  (try clear hi)
                  refine hK.out _ _ ⟨(blk_cell BK102.out 0).trans rfl, (blk_cell BK102.out 1).trans rfl, (blk_cell BK102.out 2).trans rfl⟩ (fun hHeld => ?_)
                  clear hK K
                  refine norm_ (a' := ?_) ?_ ?_
                  rotate_left
                  · show Act.put _ (some 16) _ = _
                    simp only [Act.put, List.setIfInBounds_toArray, List.set_cons_zero, List.set_cons_succ, i64_w, i32_w]
                    rfl
                  refine pure_ (i := 2) (N := some 17) (v := ?_) (a' := ?_) #[true, true, true, false, false, false, false, false, false, false, false, false, false, false, false, false, false] rfl rfl (any_of HT_.out (by kernel_rfl)) (fun _ _ _ h => h) (Or.inl ⟨by rfl, ?_⟩) ?_ ?_
                  rotate_left
                  · intro w'
                    go_simp
                    with_reducible rfl
                  rotate_left
                  · simp only [Act.put, List.setIfInBounds_toArray, List.set_cons_zero, List.set_cons_succ, i64_w, i32_w]
                    rfl
                  refine pure_ (i := 3) (N := some 18) (v := ?_) (a' := ?_) #[true, true, true, true, false, false, false, false, false, false, false, false, false, false, false, false, false] rfl rfl (any_of HT_.out (by kernel_rfl)) (fun _ _ _ h => h) (Or.inl ⟨by rfl, ?_⟩) ?_ ?_
                  rotate_left
                  · intro w'
                    go_simp
                    with_reducible rfl
                  rotate_left
                  · simp only [Act.put, List.setIfInBounds_toArray, List.set_cons_zero, List.set_cons_succ, i64_w, i32_w]
                    rfl
                  refine pure_ (i := 4) (N := some 19) (v := ?_) (a' := ?_) #[true, true, true, true, true, false, false, false, false, false, false, false, false, false, false, false, false] rfl rfl (any_of HT_.out (by kernel_rfl)) (fun _ _ _ h => h) (Or.inl ⟨by rfl, ?_⟩) ?_ ?_
                  rotate_left
                  · intro w'
                    go_simp
                    with_reducible rfl
                  rotate_left
                  · simp only [Act.put, List.setIfInBounds_toArray, List.set_cons_zero, List.set_cons_succ, i64_w, i32_w]
                    rfl
                  refine pure_ (i := 5) (N := some 20) (v := ?_) (a' := ?_) #[true, true, true, true, true, true, false, false, false, false, false, false, false, false, false, false, false] rfl rfl (any_of HT_.out (by kernel_rfl)) (fun _ _ _ h => h) (Or.inl ⟨by rfl, ?_⟩) ?_ ?_
                  rotate_left
                  · intro w'
                    go_simp
                    with_reducible rfl
                  rotate_left
                  · simp only [Act.put, List.setIfInBounds_toArray, List.set_cons_zero, List.set_cons_succ, i64_w, i32_w]
                    rfl
                  refine pure_ (i := 6) (N := some 21) (v := ?_) (a' := ?_) #[true, true, true, true, true, true, true, false, false, false, false, false, false, false, false, false, false] rfl rfl (any_of HT_.out (by kernel_rfl)) (fun _ _ _ h => h) (Or.inl ⟨by rfl, ?_⟩) ?_ ?_
                  rotate_left
                  · intro w'
                    go_simp
                    with_reducible rfl
                  rotate_left
                  · simp only [Act.put, List.setIfInBounds_toArray, List.set_cons_zero, List.set_cons_succ, i64_w, i32_w]
                    rfl
                  refine pure_ (i := 7) (N := some 22) (v := undef) (a' := ?_) #[true, true, true, true, true, true, true, true, false, false, false, false, false, false, false, false, false] rfl rfl (any_of HT_.out (by kernel_rfl)) (fun _ _ _ h => h) (Or.inr ⟨by rfl, rfl⟩) ?_ ?_
                  rotate_left
                  · simp only [Act.put, List.setIfInBounds_toArray, List.set_cons_zero, List.set_cons_succ, i64_w, i32_w]
                    rfl
                  refine pure_ (i := 8) (N := some 23) (v := undef) (a' := ?_) #[true, true, true, true, true, true, true, true, true, false, false, false, false, false, false, false, false] rfl rfl (any_of HT_.out (by kernel_rfl)) (fun _ _ _ h => h) (Or.inr ⟨by rfl, rfl⟩) ?_ ?_
                  rotate_left
                  · simp only [Act.put, List.setIfInBounds_toArray, List.set_cons_zero, List.set_cons_succ, i64_w, i32_w]
                    rfl
                  refine pure_ (i := 9) (N := some 24) (v := undef) (a' := ?_) #[true, true, true, true, true, true, true, true, true, true, false, false, false, false, false, false, false] rfl rfl (any_of HT_.out (by kernel_rfl)) (fun _ _ _ h => h) (Or.inr ⟨by rfl, rfl⟩) ?_ ?_
                  rotate_left
                  · simp only [Act.put, List.setIfInBounds_toArray, List.set_cons_zero, List.set_cons_succ, i64_w, i32_w]
                    rfl
                  refine pure_ (i := 10) (N := some 25) (v := undef) (a' := ?_) #[true, true, true, true, true, true, true, true, true, true, true, false, false, false, false, false, false] rfl rfl (any_of HT_.out (by kernel_rfl)) (fun _ _ _ h => h) (Or.inr ⟨by rfl, rfl⟩) ?_ ?_
                  rotate_left
                  · simp only [Act.put, List.setIfInBounds_toArray, List.set_cons_zero, List.set_cons_succ, i64_w, i32_w]
                    rfl
                  refine pure_ (i := 11) (N := some 26) (v := undef) (a' := ?_) #[true, true, true, true, true, true, true, true, true, true, true, true, false, false, false, false, false] rfl rfl (any_of HT_.out (by kernel_rfl)) (fun _ _ _ h => h) (Or.inr ⟨by rfl, rfl⟩) ?_ ?_
                  rotate_left
                  · simp only [Act.put, List.setIfInBounds_toArray, List.set_cons_zero, List.set_cons_succ, i64_w, i32_w]
                    rfl
                  refine pure_ (i := 12) (N := some 27) (v := undef) (a' := ?_) #[true, true, true, true, true, true, true, true, true, true, true, true, true, false, false, false, false] rfl rfl (any_of HT_.out (by kernel_rfl)) (fun _ _ _ h => h) (Or.inr ⟨by rfl, rfl⟩) ?_ ?_
                  rotate_left
                  · simp only [Act.put, List.setIfInBounds_toArray, List.set_cons_zero, List.set_cons_succ, i64_w, i32_w]
                    rfl
                  refine pure_ (i := 13) (N := some 28) (v := undef) (a' := ?_) #[true, true, true, true, true, true, true, true, true, true, true, true, true, true, false, false, false] rfl rfl (any_of HT_.out (by kernel_rfl)) (fun _ _ _ h => h) (Or.inr ⟨by rfl, rfl⟩) ?_ ?_
                  rotate_left
                  · simp only [Act.put, List.setIfInBounds_toArray, List.set_cons_zero, List.set_cons_succ, i64_w, i32_w]
                    rfl
                  refine pure_ (i := 14) (N := some 29) (v := undef) (a' := ?_) #[true, true, true, true, true, true, true, true, true, true, true, true, true, true, true, false, false] rfl rfl (any_of HT_.out (by kernel_rfl)) (fun _ _ _ h => h) (Or.inr ⟨by rfl, rfl⟩) ?_ ?_
                  rotate_left
                  · simp only [Act.put, List.setIfInBounds_toArray, List.set_cons_zero, List.set_cons_succ, i64_w, i32_w]
                    rfl
                  refine pure_ (i := 15) (N := some 30) (v := ?_) (a' := ?_) #[true, true, true, true, true, true, true, true, true, true, true, true, true, true, true, true, false] rfl rfl (any_of HT_.out (by kernel_rfl)) (fun _ _ _ h => h) (Or.inl ⟨by rfl, ?_⟩) ?_ ?_
                  rotate_left
                  · intro w'
                    go_simp
                    with_reducible rfl
                  rotate_left
                  · simp only [Act.put, List.setIfInBounds_toArray, List.set_cons_zero, List.set_cons_succ, i64_w, i32_w]
                    rfl
                  refine pure_ (i := 16) (N := some 31) (v := ?_) (a' := ?_) #[true, true, true, true, true, true, true, true, true, true, true, true, true, true, true, true, true] rfl rfl (any_of HT_.out (by kernel_rfl)) (fun _ _ _ h => h) (Or.inl ⟨by rfl, ?_⟩) ?_ ?_
                  rotate_left
                  · intro w'
                    go_simp
                    with_reducible rfl
                  rotate_left
                  · simp only [Act.put, List.setIfInBounds_toArray, List.set_cons_zero, List.set_cons_succ, i64_w, i32_w]
                    rfl
                  refine done_ (done_of HT_.out (by kernel_rfl)) ?_
                  try go_wp2
                  go_roundg k1
                  case measure => have := HK1.out; omega
                  case rel => exact ⟨(wrap64 (x10_1 + 1)), (by first | rfl | (simp; done) | (simp [*]; done)), H', ⟨by have := HK1.out; omega⟩, ⟨by repeat (first | (with_reducible first | exact HB.out | apply below_alloc | apply pw_below_drewN | apply below_drew1 | refine below_set ?_ GE102.out) | exact HB.out)⟩⟩
              · replace c7 := Bool.eq_false_iff.mpr c7
                subst c7
                have H1 : (some false) = some r := by rw [if_neg (show ¬ (false = true) by decide)] at H; exact H
                clear H
                have H := H1
                clear H1
                obtain rfl := Option.some.inj H
                have p101 : 0 ≤ (x10_1 : Int) := of_decide_eq_true (by first | (with_reducible assumption) | assumption)
                have q101 : x10_1 < (l0.length : Int) := of_decide_eq_true (by first | (with_reducible assumption) | assumption)
                obtain ⟨ad101, e101, hx101_0, hx101_1, hx101_2⟩ := at_T62 HR0.out x10_1 p101 q101
                cases e101
                replace hx101_0 := (HB.out.cell (World.block_lt_of_cell? w _ hx101_0)).trans hx101_0
                replace hx101_1 := (HB.out.cell (World.block_lt_of_cell? w _ hx101_1)).trans hx101_1
                replace hx101_2 := (HB.out.cell (World.block_lt_of_cell? w _ hx101_2)).trans hx101_2
                replace p101 := eq_true p101
                replace q101 := eq_true q101
                try go_wp2_with (first | ((with_reducible refine gate_dst (N := 4) rfl ?_); refine box_event ?hg (N := 4) ?hd (cs := #[.string (⟨#[]⟩ : ByteArray), .int .i64 0, .int .i64 0]) (t := 62) ?hr ?_; (case hd => rfl); (case hg => rfl); (case hr => first | (go_simp; done) | (go_simp; rfl)); intro gb102 hg w31 hbox hb; have n0_ := Aside0.mk (below_step (by repeat (first | (with_reducible first | exact HB.out | apply below_alloc | apply pw_below_drewN | apply below_drew1) | exact HB.out)) hb); have n1_ := Aside0.mk (hbox); have n2_ := Aside0.mk ((by rw [hg]; exact (below_size (by repeat (first | (with_reducible first | exact HB.out | apply below_alloc | apply pw_below_drewN | apply below_drew1) | exact HB.out))) : w.heap.size ≤ gb102)); have n3_ := Aside0.mk ((by rw [hg]; exact (below_size (by repeat (first | (with_reducible first | exact HB.out | apply below_alloc | apply pw_below_drewN | apply below_drew1) | exact HB.out))) : w.heap.size ≤ gb102)); clear HB; have HB := n0_; have BK102 := n1_; have GW102 := n2_; have GE102 := n3_; clear n0_ n1_ n2_ n3_; clear hb hbox hg; have hcz32_0 : w31.cell? ⟨gb102, 0, none⟩ = some (.string (⟨#[]⟩ : ByteArray)) := (blk_cell BK102.out 0).trans rfl; have hcz32_1 : w31.cell? ⟨gb102, 1, none⟩ = some (.int .i64 0) := (blk_cell BK102.out 1).trans rfl; have hcz32_2 : w31.cell? ⟨gb102, 2, none⟩ = some (.int .i64 0) := (blk_cell BK102.out 2).trans rfl; have hfz32_0 := blk_frozen BK102.out 0; have hfz32_1 := blk_frozen BK102.out 1; have hfz32_2 := blk_frozen BK102.out 2))
                have n0_ : Aside0 ((((w31.setCell ⟨gb102, 0, none⟩ (.string ((rd_T62 l0 x10_1).f0))).setCell ⟨gb102, 1, none⟩ (.int .i64 ((rd_T62 l0 x10_1).f1))).setCell ⟨gb102, 2, none⟩ (.int .i64 ((rd_T62 l0 x10_1).f2))).heap[gb102]? = some (.cells #[.string ((rd_T62 l0 x10_1).f0), .int .i64 ((rd_T62 l0 x10_1).f1), .int .i64 ((rd_T62 l0 x10_1).f2)] 62 (0, 0))) := ⟨by (with_reducible repeat (first | refine blk_drewN ?_ _ | refine blk_drew ?_ | refine blk_alloc ?_ _)); refine blk_put (cs := #[.string ((rd_T62 l0 x10_1).f0), .int .i64 ((rd_T62 l0 x10_1).f1), .int .i64 0]) ?_ 2 _ rfl; (with_reducible repeat (first | refine blk_drewN ?_ _ | refine blk_drew ?_ | refine blk_alloc ?_ _)); refine blk_put (cs := #[.string ((rd_T62 l0 x10_1).f0), .int .i64 0, .int .i64 0]) ?_ 1 _ rfl; (with_reducible repeat (first | refine blk_drewN ?_ _ | refine blk_drew ?_ | refine blk_alloc ?_ _)); refine blk_put (cs := #[.string (⟨#[]⟩ : ByteArray), .int .i64 0, .int .i64 0]) ?_ 0 _ rfl; (with_reducible repeat (first | refine blk_drewN ?_ _ | refine blk_drew ?_ | refine blk_alloc ?_ _)); exact BK102.out⟩
                have n1_ : Aside0 (Below w.heap.size w (((w31.setCell ⟨gb102, 0, none⟩ (.string ((rd_T62 l0 x10_1).f0))).setCell ⟨gb102, 1, none⟩ (.int .i64 ((rd_T62 l0 x10_1).f1))).setCell ⟨gb102, 2, none⟩ (.int .i64 ((rd_T62 l0 x10_1).f2)))) := ⟨by repeat (first | (with_reducible first | exact HB.out | apply below_alloc | apply pw_below_drewN | apply below_drew1 | refine below_set ?_ GE102.out) | exact HB.out)⟩
                (try clear BK102)
                (try clear HB)
                generalize (((w31.setCell ⟨gb102, 0, none⟩ (.string ((rd_T62 l0 x10_1).f0))).setCell ⟨gb102, 1, none⟩ (.int .i64 ((rd_T62 l0 x10_1).f1))).setCell ⟨gb102, 2, none⟩ (.int .i64 ((rd_T62 l0 x10_1).f2))) = w33 at n0_ n1_ ⊢
                have BK102 := n0_
                have HB := n1_
                clear n0_ n1_
                have n0_ := Aside0.mk (blk_drew BK102.out)
                have n1_ := Aside0.mk (below_drew1 HB.out)
                clear BK102
                clear HB
                have BK102 := n0_
                have HB := n1_
                clear n0_ n1_
                refine start_ (n := 17) (S := fun w' => w'.cell? ⟨gb102, 0, none⟩ = some (.string ((rd_T62 l0 x10_1).f0)) ∧ w'.cell? ⟨gb102, 1, none⟩ = some (.int .i64 ((rd_T62 l0 x10_1).f1)) ∧ w'.cell? ⟨gb102, 2, none⟩ = some (.int .i64 ((rd_T62 l0 x10_1).f2))) (ds := []) #[false, false, false, false, false, false, false, false, false, false, false, false, false, false, false, false, false] (by kernel_rfl) rfl rfl ⟨(blk_cell BK102.out 0).trans rfl, (blk_cell BK102.out 1).trans rfl, (blk_cell BK102.out 2).trans rfl⟩ (fun hHeld => ?_); refine with_tabW impl_ValidTurns.tab6 impl_ValidTurns.bits6 (fun HT_ HW_ => ?_)
                generalize w33.drew = w34 at BK102 HB hHeld ⊢
                refine take_ (i := 0) (N := some 15) (v := ?_) (a' := ?_) #[true, false, false, false, false, false, false, false, false, false, false, false, false, false, false, false, false] rfl rfl (take_ofW HT_.out HW_.out (by kernel_rfl)) (fun _ _ _ h => h) (Or.inl ⟨by rfl, ?_⟩) hHeld ?_ ?_
                rotate_left
                · rintro w' ⟨s0, s1, s2⟩
                  go_simp
                  with_reducible rfl
                rotate_left
                · simp only [Act.put, List.setIfInBounds_toArray, List.set_cons_zero, List.set_cons_succ, i64_w, i32_w]
                  rfl
                refine one_ (i := 1) (N := some 16) #[true, true, false, false, false, false, false, false, false, false, false, false, false, false, false, false, false] rfl rfl (one_of HT_.out (by kernel_rfl)) (by decide) (fun K hK => ?_)
                refine goes_ Try.func48 (by kernel_rfl) rfl #[.agg #[.string ((rd_T62 l0 x10_1).f0), .int .i64 ((rd_T62 l0 x10_1).f1), .int .i64 ((rd_T62 l0 x10_1).f2)]] (by rfl) rfl rfl (by (try simp only [List.map_toArray, List.map_cons, List.map_nil]); first | done | rfl | (simp only [List.length_drop, List.length_take]; rfl)) ?_
                with_reducible refine (impl_Turn_valid.calls k1 ((rd_T62 l0 x10_1).f0) ((rd_T62 l0 x10_1).f1) ((rd_T62 l0 x10_1).f2) false _ A6.out).mono ?_
                rintro e w35 ⟨rfl, hb⟩
                refine ⟨_, rfl, ?_⟩
                have n0_ := Aside0.mk (blk_below (g := gb102) (o := .cells #[.string ((rd_T62 l0 x10_1).f0), .int .i64 ((rd_T62 l0 x10_1).f1), .int .i64 ((rd_T62 l0 x10_1).f2)] 62 (0, 0)) (by (with_reducible repeat (first | refine blk_drewN ?_ _ | refine blk_drew ?_ | refine blk_alloc ?_ _)); exact BK102.out) hb)
                have n1_ := Aside0.mk (below_step (by repeat (first | (with_reducible first | exact HB.out | apply below_alloc | apply pw_below_drewN | apply below_drew1 | refine below_set ?_ GE102.out) | exact HB.out)) hb)
                clear BK102
                clear HB
                have BK102 := n0_
                have HB := n1_
                clear n0_ n1_
                (try clear hb)
                (try clear hb2)
                (try clear hk)
                (try clear hi)
                refine hK.out _ _ ⟨(blk_cell BK102.out 0).trans rfl, (blk_cell BK102.out 1).trans rfl, (blk_cell BK102.out 2).trans rfl⟩ (fun hHeld => ?_)
                clear hK K
                refine norm_ (a' := ?_) ?_ ?_
                rotate_left
                · show Act.put _ (some 16) _ = _
                  simp only [Act.put, List.setIfInBounds_toArray, List.set_cons_zero, List.set_cons_succ, i64_w, i32_w]
                  rfl
                refine pure_ (i := 2) (N := some 17) (v := ?_) (a' := ?_) #[true, true, true, false, false, false, false, false, false, false, false, false, false, false, false, false, false] rfl rfl (any_of HT_.out (by kernel_rfl)) (fun _ _ _ h => h) (Or.inl ⟨by rfl, ?_⟩) ?_ ?_
                rotate_left
                · intro w'
                  go_simp
                  with_reducible rfl
                rotate_left
                · simp only [Act.put, List.setIfInBounds_toArray, List.set_cons_zero, List.set_cons_succ, i64_w, i32_w]
                  rfl
                refine pure_ (i := 3) (N := some 18) (v := ?_) (a' := ?_) #[true, true, true, true, false, false, false, false, false, false, false, false, false, false, false, false, false] rfl rfl (any_of HT_.out (by kernel_rfl)) (fun _ _ _ h => h) (Or.inl ⟨by rfl, ?_⟩) ?_ ?_
                rotate_left
                · intro w'
                  go_simp
                  with_reducible rfl
                rotate_left
                · simp only [Act.put, List.setIfInBounds_toArray, List.set_cons_zero, List.set_cons_succ, i64_w, i32_w]
                  rfl
                refine pure_ (i := 4) (N := some 19) (v := undef) (a' := ?_) #[true, true, true, true, true, false, false, false, false, false, false, false, false, false, false, false, false] rfl rfl (any_of HT_.out (by kernel_rfl)) (fun _ _ _ h => h) (Or.inr ⟨by rfl, rfl⟩) ?_ ?_
                rotate_left
                · simp only [Act.put, List.setIfInBounds_toArray, List.set_cons_zero, List.set_cons_succ, i64_w, i32_w]
                  rfl
                refine pure_ (i := 5) (N := some 20) (v := undef) (a' := ?_) #[true, true, true, true, true, true, false, false, false, false, false, false, false, false, false, false, false] rfl rfl (any_of HT_.out (by kernel_rfl)) (fun _ _ _ h => h) (Or.inr ⟨by rfl, rfl⟩) ?_ ?_
                rotate_left
                · simp only [Act.put, List.setIfInBounds_toArray, List.set_cons_zero, List.set_cons_succ, i64_w, i32_w]
                  rfl
                refine pure_ (i := 6) (N := some 21) (v := undef) (a' := ?_) #[true, true, true, true, true, true, true, false, false, false, false, false, false, false, false, false, false] rfl rfl (any_of HT_.out (by kernel_rfl)) (fun _ _ _ h => h) (Or.inr ⟨by rfl, rfl⟩) ?_ ?_
                rotate_left
                · simp only [Act.put, List.setIfInBounds_toArray, List.set_cons_zero, List.set_cons_succ, i64_w, i32_w]
                  rfl
                refine pure_ (i := 7) (N := some 22) (v := undef) (a' := ?_) #[true, true, true, true, true, true, true, true, false, false, false, false, false, false, false, false, false] rfl rfl (any_of HT_.out (by kernel_rfl)) (fun _ _ _ h => h) (Or.inr ⟨by rfl, rfl⟩) ?_ ?_
                rotate_left
                · simp only [Act.put, List.setIfInBounds_toArray, List.set_cons_zero, List.set_cons_succ, i64_w, i32_w]
                  rfl
                refine pure_ (i := 8) (N := some 23) (v := undef) (a' := ?_) #[true, true, true, true, true, true, true, true, true, false, false, false, false, false, false, false, false] rfl rfl (any_of HT_.out (by kernel_rfl)) (fun _ _ _ h => h) (Or.inr ⟨by rfl, rfl⟩) ?_ ?_
                rotate_left
                · simp only [Act.put, List.setIfInBounds_toArray, List.set_cons_zero, List.set_cons_succ, i64_w, i32_w]
                  rfl
                refine pure_ (i := 9) (N := some 24) (v := undef) (a' := ?_) #[true, true, true, true, true, true, true, true, true, true, false, false, false, false, false, false, false] rfl rfl (any_of HT_.out (by kernel_rfl)) (fun _ _ _ h => h) (Or.inr ⟨by rfl, rfl⟩) ?_ ?_
                rotate_left
                · simp only [Act.put, List.setIfInBounds_toArray, List.set_cons_zero, List.set_cons_succ, i64_w, i32_w]
                  rfl
                refine pure_ (i := 10) (N := some 25) (v := undef) (a' := ?_) #[true, true, true, true, true, true, true, true, true, true, true, false, false, false, false, false, false] rfl rfl (any_of HT_.out (by kernel_rfl)) (fun _ _ _ h => h) (Or.inr ⟨by rfl, rfl⟩) ?_ ?_
                rotate_left
                · simp only [Act.put, List.setIfInBounds_toArray, List.set_cons_zero, List.set_cons_succ, i64_w, i32_w]
                  rfl
                refine pure_ (i := 11) (N := some 26) (v := undef) (a' := ?_) #[true, true, true, true, true, true, true, true, true, true, true, true, false, false, false, false, false] rfl rfl (any_of HT_.out (by kernel_rfl)) (fun _ _ _ h => h) (Or.inr ⟨by rfl, rfl⟩) ?_ ?_
                rotate_left
                · simp only [Act.put, List.setIfInBounds_toArray, List.set_cons_zero, List.set_cons_succ, i64_w, i32_w]
                  rfl
                refine pure_ (i := 12) (N := some 27) (v := undef) (a' := ?_) #[true, true, true, true, true, true, true, true, true, true, true, true, true, false, false, false, false] rfl rfl (any_of HT_.out (by kernel_rfl)) (fun _ _ _ h => h) (Or.inr ⟨by rfl, rfl⟩) ?_ ?_
                rotate_left
                · simp only [Act.put, List.setIfInBounds_toArray, List.set_cons_zero, List.set_cons_succ, i64_w, i32_w]
                  rfl
                refine pure_ (i := 13) (N := some 28) (v := undef) (a' := ?_) #[true, true, true, true, true, true, true, true, true, true, true, true, true, true, false, false, false] rfl rfl (any_of HT_.out (by kernel_rfl)) (fun _ _ _ h => h) (Or.inr ⟨by rfl, rfl⟩) ?_ ?_
                rotate_left
                · simp only [Act.put, List.setIfInBounds_toArray, List.set_cons_zero, List.set_cons_succ, i64_w, i32_w]
                  rfl
                refine pure_ (i := 14) (N := some 29) (v := undef) (a' := ?_) #[true, true, true, true, true, true, true, true, true, true, true, true, true, true, true, false, false] rfl rfl (any_of HT_.out (by kernel_rfl)) (fun _ _ _ h => h) (Or.inr ⟨by rfl, rfl⟩) ?_ ?_
                rotate_left
                · simp only [Act.put, List.setIfInBounds_toArray, List.set_cons_zero, List.set_cons_succ, i64_w, i32_w]
                  rfl
                refine pure_ (i := 15) (N := some 30) (v := undef) (a' := ?_) #[true, true, true, true, true, true, true, true, true, true, true, true, true, true, true, true, false] rfl rfl (any_of HT_.out (by kernel_rfl)) (fun _ _ _ h => h) (Or.inr ⟨by rfl, rfl⟩) ?_ ?_
                rotate_left
                · simp only [Act.put, List.setIfInBounds_toArray, List.set_cons_zero, List.set_cons_succ, i64_w, i32_w]
                  rfl
                refine pure_ (i := 16) (N := some 31) (v := ?_) (a' := ?_) #[true, true, true, true, true, true, true, true, true, true, true, true, true, true, true, true, true] rfl rfl (any_of HT_.out (by kernel_rfl)) (fun _ _ _ h => h) (Or.inl ⟨by rfl, ?_⟩) ?_ ?_
                rotate_left
                · intro w'
                  go_simp
                  with_reducible rfl
                rotate_left
                · simp only [Act.put, List.setIfInBounds_toArray, List.set_cons_zero, List.set_cons_succ, i64_w, i32_w]
                  rfl
                refine done_ (done_of HT_.out (by kernel_rfl)) ?_
                try go_wp2
                go_ret
                exact ⟨by first | rfl | (simp [errW_none, errW_some] <;> rfl) | (simp [*, errW_none, errW_some] <;> rfl), by repeat (first | (with_reducible first | exact HB.out | apply below_alloc | apply pw_below_drewN | apply below_drew1 | refine below_set ?_ GE102.out) | exact HB.out)⟩
            · rw [if_neg c5] at H
              exact absurd H (by simp)
          · rw [if_neg c4] at H
            exact absurd H (by simp)
        · rw [if_neg c3] at H
          have c3b0 : decide (x10_1 < (l0.length : Int)) = false := decide_eq_false c3
          clear c3
          obtain rfl := Option.some.inj H
          go_wp2
          go_ret
          exact ⟨by first | rfl | (simp [errW_none, errW_some] <;> rfl) | (simp [*, errW_none, errW_some] <;> rfl), by repeat (first | (with_reducible first | exact HB.out | apply below_alloc | apply pw_below_drewN | apply below_drew1) | exact HB.out)⟩

end Go.Proofs.Ytjlfolmjkppneaa.P

namespace Go.Proofs.Ytjlfolmjkppneaa.P
open Go.RowKit Go.Proofs.YtjlfolmjkppneaaW.PrintWords Go.Proofs.YtjlfolmjkppneaaW.PrintLast Go.Proofs.YtjlfolmjkppneaaW.PrintMore
attribute [local go_sem] max2_int min2_int max_two min_two max_three min_three max_four min_four str_leq str_gtr str_geq
set_option linter.unusedVariables false
set_option linter.unusedSimpArgs false

def impl_Turn_end.f (a0_0 : ByteArray) (a0_1 : Int) (a0_2 : Int) : Option (Int) := some (wrap64 (a0_1 + a0_2))
set_option maxHeartbeats 8000000 in
set_option maxRecDepth 100000 in
theorem impl_Turn_end.calls (a0_0 : ByteArray) (a0_1 : Int) (a0_2 : Int) (r : Int) (w : World) (h : impl_Turn_end.f a0_0 a0_1 a0_2 = some r) :
    Calls Try.prog 57 #[.agg #[.string a0_0, .int .i64 a0_1, .int .i64 a0_2]] w fun e w' => e = .returned (.int .i64 r) ∧ Below w.heap.size w w' := by
  have hu62 := Try.underlying62
  have HB := Aside0.mk (Below.refl w.heap.size w)
  have H : (some (wrap64 (a0_1 + a0_2))) = some r := h
  clear h
  obtain rfl := Option.some.inj H
  go_enter Try.func57, Try.ntmps57
  go_wp2_with (first | ((with_reducible refine gate_dst (N := 1) rfl ?_); refine box_event ?hg (N := 1) ?hd (cs := #[.string a0_0, .int .i64 a0_1, .int .i64 a0_2]) (t := 62) ?hr ?_; (case hd => rfl); (case hg => rfl); (case hr => first | (go_simp; done) | (go_simp; rfl)); intro gb101 hg w2 hbox hb; have n0_ := Aside0.mk (below_step (by repeat (first | (with_reducible first | exact HB.out | apply below_alloc | apply pw_below_drewN | apply below_drew1) | exact HB.out)) hb); have n1_ := Aside0.mk (hbox); have n2_ := Aside0.mk ((by rw [hg]; exact (below_size (by repeat (first | (with_reducible first | exact HB.out | apply below_alloc | apply pw_below_drewN | apply below_drew1) | exact HB.out))) : w.heap.size ≤ gb101)); have n3_ := Aside0.mk ((by rw [hg]; exact (below_size (by repeat (first | (with_reducible first | exact HB.out | apply below_alloc | apply pw_below_drewN | apply below_drew1) | exact HB.out))) : w.heap.size ≤ gb101)); clear HB; have HB := n0_; have BK101 := n1_; have GW101 := n2_; have GE101 := n3_; clear n0_ n1_ n2_ n3_; clear hb hbox hg; have hcz3_0 : w2.cell? ⟨gb101, 0, none⟩ = some (.string a0_0) := (blk_cell BK101.out 0).trans rfl; have hcz3_1 : w2.cell? ⟨gb101, 1, none⟩ = some (.int .i64 a0_1) := (blk_cell BK101.out 1).trans rfl; have hcz3_2 : w2.cell? ⟨gb101, 2, none⟩ = some (.int .i64 a0_2) := (blk_cell BK101.out 2).trans rfl; have hfz3_0 := blk_frozen BK101.out 0; have hfz3_1 := blk_frozen BK101.out 1; have hfz3_2 := blk_frozen BK101.out 2))
  go_ret
  exact ⟨by first | rfl | (simp [errW_none, errW_some] <;> rfl) | (simp [*, errW_none, errW_some] <;> rfl), by repeat (first | (with_reducible first | exact HB.out | apply below_alloc | apply pw_below_drewN | apply below_drew1 | refine below_set ?_ GE101.out) | exact HB.out)⟩

end Go.Proofs.Ytjlfolmjkppneaa.P

/- What the library's contracts ask of this program: its bodies, types and numbers, each held against the library's by the kernel. -/
namespace Go.Proofs.Ytjlfolmjkppneaa.P
open Go.Shelf
def sh_SortS_ren : Go.Shelf.Ren := ⟨fun | 190 => 92 | 125 => 103 | 258 => 102 | 128 => 115 | 129 => 116 | 302 => 106 | 303 => 107 | 304 => 108 | 305 => 109 | 306 => 110 | 307 => 111 | 308 => 112 | 309 => 113 | 310 => 114 | 333 => 118 | 329 => 119 | 330 => 120 | 334 => 121 | 335 => 122 | 336 => 101 | 344 => 123 | n => n, fun | 31 => 40 | 9 => 9 | 3 => 3 | 46 => 109 | 0 => 0 | 51 => 124 | 53 => 126 | 4 => 4 | 183 => 117 | 182 => 116 | 131 => 93 | 5 => 5 | 218 => 128 | 222 => 132 | 228 => 134 | 229 => 135 | n => n, fun | n => n⟩
theorem sh_SortS : Lays.n190 Try.prog sh_SortS_ren := {
  mixed := by kernel_rfl
  f125 := Try.func103.trans (congrArg some (by kernel_rfl))
  f128 := Try.func115.trans (congrArg some (by kernel_rfl))
  f129 := Try.func116.trans (congrArg some (by kernel_rfl))
  f190 := Try.func92.trans (congrArg some (by kernel_rfl))
  f258 := Try.func102.trans (congrArg some (by kernel_rfl))
  f302 := Try.func106.trans (congrArg some (by kernel_rfl))
  f303 := Try.func107.trans (congrArg some (by kernel_rfl))
  f304 := Try.func108.trans (congrArg some (by kernel_rfl))
  f305 := Try.func109.trans (congrArg some (by kernel_rfl))
  f306 := Try.func110.trans (congrArg some (by kernel_rfl))
  f307 := Try.func111.trans (congrArg some (by kernel_rfl))
  f308 := Try.func112.trans (congrArg some (by kernel_rfl))
  f309 := Try.func113.trans (congrArg some (by kernel_rfl))
  f310 := Try.func114.trans (congrArg some (by kernel_rfl))
  f329 := Try.func119.trans (congrArg some (by kernel_rfl))
  f330 := Try.func120.trans (congrArg some (by kernel_rfl))
  f333 := Try.func118.trans (congrArg some (by kernel_rfl))
  f334 := Try.func121.trans (congrArg some (by kernel_rfl))
  f335 := Try.func122.trans (congrArg some (by kernel_rfl))
  f336 := Try.func101.trans (congrArg some (by kernel_rfl))
  f344 := Try.func123.trans (congrArg some (by kernel_rfl))
  t0 := Try.underlying0
  a0 := Try.isAgg0
  z0 := Try.sizeOf0
  v0 := Try.zeroValue0
  t3 := Try.underlying3
  a3 := Try.isAgg3
  z3 := Try.sizeOf3
  v3 := Try.zeroValue3
  t4 := Try.underlying4
  a4 := Try.isAgg4
  z4 := Try.sizeOf4
  v4 := Try.zeroValue4
  t5 := Try.underlying5
  a5 := Try.isAgg5
  z5 := Try.sizeOf5
  v5 := Try.zeroValue5
  t9 := Try.underlying9
  a9 := Try.isAgg9
  z9 := Try.sizeOf9
  v9 := Try.zeroValue9
  t31 := Try.underlying40
  a31 := Try.isAgg40
  z31 := Try.sizeOf40
  v31 := Try.zeroValue40
  t46 := Try.underlying109
  a46 := Try.isAgg109
  z46 := Try.sizeOf109
  v46 := Try.zeroValue109
  t51 := Try.underlying124
  a51 := Try.isAgg124
  z51 := Try.sizeOf124
  v51 := Try.zeroValue124
  t53 := Try.underlying126
  a53 := Try.isAgg126
  z53 := Try.sizeOf126
  v53 := Try.zeroValue126
  t131 := Try.underlying93
  a131 := Try.isAgg93
  z131 := Try.sizeOf93
  v131 := Try.zeroValue93
  t182 := Try.underlying116
  a182 := Try.isAgg116
  z182 := Try.sizeOf116
  v182 := Try.zeroValue116
  t183 := Try.underlying117
  a183 := Try.isAgg117
  z183 := Try.sizeOf117
  v183 := Try.zeroValue117
  t218 := Try.underlying128
  a218 := Try.isAgg128
  z218 := Try.sizeOf128
  v218 := Try.zeroValue128
  t222 := Try.underlying132
  a222 := Try.isAgg132
  z222 := Try.sizeOf132
  v222 := Try.zeroValue132
  t228 := Try.underlying134
  a228 := Try.isAgg134
  z228 := Try.sizeOf134
  v228 := Try.zeroValue134
  t229 := Try.underlying135
  a229 := Try.isAgg135
  z229 := Try.sizeOf135
  v229 := Try.zeroValue135 }
def sh_CompactS_ren : Go.Shelf.Ren := ⟨fun | 194 => 93 | n => n, fun | 31 => 40 | 9 => 9 | 3 => 3 | 4 => 4 | 0 => 0 | n => n, fun | n => n⟩
theorem sh_CompactS : Lays.n194 Try.prog sh_CompactS_ren := {
  mixed := by kernel_rfl
  f194 := Try.func93.trans (congrArg some (by kernel_rfl))
  t0 := Try.underlying0
  a0 := Try.isAgg0
  z0 := Try.sizeOf0
  v0 := Try.zeroValue0
  t3 := Try.underlying3
  a3 := Try.isAgg3
  z3 := Try.sizeOf3
  v3 := Try.zeroValue3
  t4 := Try.underlying4
  a4 := Try.isAgg4
  z4 := Try.sizeOf4
  v4 := Try.zeroValue4
  t9 := Try.underlying9
  a9 := Try.isAgg9
  z9 := Try.sizeOf9
  v9 := Try.zeroValue9
  t31 := Try.underlying40
  a31 := Try.isAgg40
  z31 := Try.sizeOf40
  v31 := Try.zeroValue40 }
end Go.Proofs.Ytjlfolmjkppneaa.P

namespace Go.Proofs.Ytjlfolmjkppneaa.P
open Go.RowKit Go.Sort Go.Proofs.YtjlfolmjkppneaaW.PrintWords Go.Proofs.YtjlfolmjkppneaaW.PrintLast Go.Proofs.YtjlfolmjkppneaaW.PrintMore
theorem put_block {α : Type} [Inhabited α] (enc : α → Value) {w : World} {g q : Nat} {d : Array α} {os : Array Obj} {cur : Array Value} {e : TypeId} {fr : Nat × Nat} (h : w.heap[g]? = some (.cells cur e fr)) :
    (Sort.grow (putRow enc (Sort.ahead w q) g 0 d) os).heap[g]? = some (.cells (putCells enc 0 d cur) e fr) := by
  have hlt : g < w.heap.size := (Array.getElem?_eq_some_iff.1 h).1
  rw [Sort.heap_grow_old _ _ (by rw [size_putRow]; exact hlt)]
  simp only [putRow, mapBlock, Array.getElem?_modify, Sort.ahead, h, if_true, Option.map_some, onCells]
theorem put_other {α : Type} [Inhabited α] (enc : α → Value) {w : World} {g q i : Nat} {d : Array α} {os : Array Obj} (hi : i < w.heap.size) (hn : i ≠ g) :
    (Sort.grow (putRow enc (Sort.ahead w q) g 0 d) os).heap[i]? = w.heap[i]? := by
  rw [Sort.heap_grow_old _ _ (by rw [size_putRow]; exact hi)]
  simp [putRow, mapBlock, Array.getElem?_modify, Ne.symm hn, Sort.ahead]
theorem put_take {α : Type} [Inhabited α] (enc : α → Value) (d : Array α) (cur : Array Value) (m : Nat) (hm : m ≤ d.size) (hd : d.size ≤ cur.size) : (putCells enc 0 d cur).toList.take m = (d.toList.take m).map enc := by
  apply List.ext_getElem?
  intro k
  simp only [List.getElem?_take, List.getElem?_map, Array.getElem?_toList, putCells, Array.getElem?_mapIdx]
  by_cases hk : k < m
  · have h1 : k < cur.size := by omega
    have h2 : k < d.size := by omega
    rw [if_pos hk, if_pos hk, Array.getElem?_eq_getElem h1, Array.getElem?_eq_getElem h2]
    simp [h2]
  · rw [if_neg hk, if_neg hk]; rfl
theorem own_put {α β : Type} [Inhabited β] {enc : α → Value} {h1 : ∀ x, (enc x).oneCell' = true} (encB : β → Value) {e base n cap g q : Nat} {w0 w : World} {P0 : Nat → Prop} {d : Array β} {os : Array Obj} {xs ys : List α} {m : Nat}
    (hb0 : base = w0.heap.size) (hB : Below w0.heap.size w0 w) (ho : (Kd.scalar enc h1).R e w base P0 (.slice (some ⟨g, 0, none⟩) n cap) xs) (hn : xs.length = n) (hd : d.size = n) (hm : m ≤ n) (hy : ys.length = m) (hys : (d.toList.take m).map encB = ys.map enc) (W : World) (hW : W = Sort.grow (putRow encB (Sort.ahead w q) g 0 d) os) :
    (Kd.scalar enc h1).R e W base (fun k_ => P0 k_ ∨ w.heap.size ≤ k_) (.slice (some ⟨g, 0, none⟩) m cap) ys ∧ Below w0.heap.size w0 W ∧ Kept w W P0 := by
  have hown := Kd.own_of_R ho
  have hp : P0 g := ho.1 g rfl
  rw [hn] at hown
  obtain ⟨_, hn2 | ⟨g', cap', cur, hv, hbase, hh, hcap, hmax, hsz, htk⟩⟩ := hown
  · exact absurd hn2.1 (by simp)
  simp only [Value.slice.injEq, Option.some.injEq, Addr.mk.injEq, and_true, true_and] at hv
  obtain ⟨rfl, rfl⟩ := hv
  have hgl : g < w.heap.size := (Array.getElem?_eq_some_iff.1 hh).1
  subst hW
  refine ⟨?_, ?_, ?_⟩
  · refine Kd.R_of_own ⟨by simp [encs], .inr ⟨g, cap, putCells encB 0 d cur, by rw [hy], hbase, put_block encB hh, by omega, hmax, by simp [putCells, hsz], ?_⟩⟩ (fun k hk => ?_)
    · rw [Nat.mul_one, hy, put_take encB d cur m (by omega) (by omega), hys]; rfl
    · have : g = k := by simpa [Value.ownBlock] using hk
      subst this; exact .inl hp
  · refine ⟨hB.os, hB.tape, hB.output, ?_, fun k hk => ?_⟩
    · rw [Sort.size_grow, size_putRow]; exact Nat.le_trans hB.size (Nat.le_add_right _ _)
    · have hk2 : k < w.heap.size := Nat.lt_of_lt_of_le hk hB.size
      rw [put_other encB hk2 (by omega)]; exact hB.block k hk
  · refine ⟨by rw [Sort.size_grow, size_putRow]; exact Nat.le_add_right _ _, fun i hi hp2 => ?_⟩
    exact put_other encB hi (fun e2 => hp2 (by rw [e2]; exact hp))
theorem own_holds {α β : Type} [Inhabited β] {enc : α → Value} {h1 : ∀ x, (enc x).oneCell' = true} (dflt : α) (encB : β → Value) {e base n cap g : Nat} {w : World} {P0 : Nat → Prop} {d : Array β} {xs : List α}
    (ho : (Kd.scalar enc h1).R e w base P0 (.slice (some ⟨g, 0, none⟩) n cap) xs) (hn : xs.length = n) (hd : d.size = n) (hc : ∀ j, j < n → enc (xs.getD j dflt) = encB d[j]!) : Holds encB w g 0 d ∧ g < w.heap.size ∧ n ≤ cap ∧ cap ≤ maxLen := by
  have hown := Kd.own_of_R ho
  rw [hn] at hown
  have hat := fun (j : Nat) (hj : j < n) => own_at_of (d := dflt) hown (j : Int) (by omega) (by omega : (j : Int) < (n : Int))
  obtain ⟨_, hn2 | ⟨g', cap', cur, hv, hbase, hh, hcap, hmax, hsz, htk⟩⟩ := hown
  · exact absurd hn2.1 (by simp)
  simp only [Value.slice.injEq, Option.some.injEq, Addr.mk.injEq, and_true, true_and] at hv
  obtain ⟨rfl, rfl⟩ := hv
  refine ⟨fun j hj => ?_, (Array.getElem?_eq_some_iff.1 hh).1, hcap, hmax⟩
  obtain ⟨h2, h3⟩ := hat j (by omega)
  rw [Int.toNat_natCast] at h2 h3
  rw [Nat.zero_add]
  refine ⟨?_, h3⟩
  rw [h2, ← hc j (by omega)]; rfl
theorem own_shape {α : Type} {enc : α → Value} {h1 : ∀ x, (enc x).oneCell' = true} {e base : Nat} {w : World} {P0 : Nat → Prop} {u : Value} {xs : List α} (ho : (Kd.scalar enc h1).R e w base P0 u xs) : (u = .slice none 0 0 ∧ xs = []) ∨ ∃ g cap, u = .slice (some ⟨g, 0, none⟩) xs.length cap := by
  obtain ⟨_, hn2 | ⟨g', cap', cur, hv, _⟩⟩ := Kd.own_of_R ho
  · exact .inl ⟨hn2.1, List.eq_nil_of_length_eq_zero hn2.2⟩
  · exact .inr ⟨g', cap', hv⟩
end Go.Proofs.Ytjlfolmjkppneaa.P

namespace Go.Proofs.Ytjlfolmjkppneaa.P
open Go.RowKit Go.Sort Go.Proofs.YtjlfolmjkppneaaW.PrintWords Go.Proofs.YtjlfolmjkppneaaW.PrintLast Go.Proofs.YtjlfolmjkppneaaW.PrintMore
def unS (l : List ByteArray) : List (List UInt8) := l.map fun b => b.data.toList
def mkS (l : List (List UInt8)) : List ByteArray := l.map fun b => ⟨b.toArray⟩
def sortS (l : List ByteArray) : List ByteArray := mkS ((unS l).mergeSort fun x y => decide (x ≤ y))
def compactS (l : List ByteArray) : List ByteArray := mkS (Lib.compact (unS l))
theorem compact_length_le {α : Type} [BEq α] [LawfulBEq α] [Inhabited α] [DecidableEq α] (zs : List α) : (Lib.compact zs).length ≤ zs.length := by
  unfold Lib.compact
  have main : ∀ m, (Lib.compactUpTo zs.toArray m).length ≤ m := by
    intro m
    induction m with
    | zero => simp [Lib.compactUpTo]
    | succ m ih =>
      rw [Lib.compactUpTo_succ, List.length_append]
      split <;> simp <;> omega
  exact main _
theorem enc_mkS (l : List (List UInt8)) : (mkS l).map Value.string = l.map encStr := by simp [mkS, encStr]
end Go.Proofs.Ytjlfolmjkppneaa.P

namespace Go.Proofs.Ytjlfolmjkppneaa.P
open Go.RowKit Go.Proofs.YtjlfolmjkppneaaW.PrintWords Go.Proofs.YtjlfolmjkppneaaW.PrintLast Go.Proofs.YtjlfolmjkppneaaW.PrintMore
attribute [local go_sem] max2_int min2_int max_two min_two max_three min_three max_four min_four str_leq str_gtr str_geq
set_option linter.unusedVariables false
set_option linter.unusedSimpArgs false

open Go.Sort
def slices_Sort_S_string.f (l0 : List ByteArray) : Option (List ByteArray) := if l0.length < 4611686018427387904 then some (sortS l0) else none
theorem slices_Sort_S_string.calls (P0_ : Nat → Prop) (u9000_ : Value) (l0 : List ByteArray) (r : List ByteArray) (w0 w : World) (hB : Below w0.heap.size w0 w) (ho0 : Kd.R Kd.string 9 w w0.heap.size P0_ u9000_ l0) (h : slices_Sort_S_string.f l0 = some r) :
    Calls Try.prog 92 #[u9000_] w fun e w' => e = .returned (.tuple #[]) ∧ Kd.R Kd.string 9 w' w0.heap.size (fun k_ => (P0_ k_ ∨ w.heap.size ≤ k_)) u9000_ r ∧ Below w0.heap.size w0 w' ∧ Kept w w' (fun k_ => P0_ k_) := by
  unfold slices_Sort_S_string.f at h
  by_cases hml : l0.length < 4611686018427387904
  rotate_left
  · rw [if_neg hml] at h; exact absurd h (by simp)
  rw [if_pos hml] at h
  obtain rfl := Option.some.inj h
  rcases own_shape ho0 with ⟨rfl, rfl⟩ | ⟨g, cap, rfl⟩
  · refine (Any.slices_Sort_string_none sh_SortS none 0 w).mono ?_
    rintro e w' ⟨rfl, rfl⟩
    exact ⟨rfl, by have : sortS [] = [] := (by simp [sortS, unS, mkS]); rw [this]; exact Kd.R_nil _ _ _ _ _, hB, Kept.refl _ _⟩
  · have hl : (unS l0).length = l0.length := by simp [unS]
    obtain ⟨hH, hg, hcap, hmax⟩ := own_holds (d := (unS l0).toArray) ByteArray.empty encStr ho0 rfl (by simp [unS]) (fun j hj => by
      have : j < (unS l0).length := by omega
      simp [unS, encStr, List.getElem?_eq_getElem hj, List.getD_eq_getElem?_getD, hj])
    have hc := Any.slices_Sort_string sh_SortS g 0 cap (unS l0) w hH hg (by rw [hl]; exact hml)
    rw [hl] at hc
    refine hc.mono ?_
    rintro e w' ⟨rfl, n, os, hw⟩
    obtain ⟨h1, h2, h3⟩ := own_put (m := l0.length) (ys := sortS l0) encStr rfl hB ho0 rfl (by simp [unS]) (Nat.le_refl _) (by simp [sortS, unS, mkS]) (by
      rw [List.take_of_length_le (by simp [unS])]
      simp [sortS, enc_mkS]) w' hw
    exact ⟨rfl, h1, h2, h3⟩

end Go.Proofs.Ytjlfolmjkppneaa.P

namespace Go.Proofs.Ytjlfolmjkppneaa.P
open Go.RowKit Go.Proofs.YtjlfolmjkppneaaW.PrintWords Go.Proofs.YtjlfolmjkppneaaW.PrintLast Go.Proofs.YtjlfolmjkppneaaW.PrintMore
attribute [local go_sem] max2_int min2_int max_two min_two max_three min_three max_four min_four str_leq str_gtr str_geq
set_option linter.unusedVariables false
set_option linter.unusedSimpArgs false

open Go.Sort
def slices_Compact_S_string.f (l0 : List ByteArray) : Option (List ByteArray) := some (compactS l0)
theorem slices_Compact_S_string.calls (P0_ : Nat → Prop) (u9000_ : Value) (l0 : List ByteArray) (r : List ByteArray) (w0 w : World) (hB : Below w0.heap.size w0 w) (ho0 : Kd.R Kd.string 9 w w0.heap.size P0_ u9000_ l0) (h : slices_Compact_S_string.f l0 = some r) :
    Calls Try.prog 93 #[u9000_] w fun e w' => ∃ v0 : Value, e = .returned v0 ∧ Kd.R Kd.string 9 w' w0.heap.size (fun k_ => (P0_ k_ ∨ w.heap.size ≤ k_)) v0 r ∧ Below w0.heap.size w0 w' ∧ Kept w w' (fun k_ => P0_ k_) := by
  obtain rfl := Option.some.inj h
  rcases own_shape ho0 with ⟨rfl, rfl⟩ | ⟨g, cap, rfl⟩
  · refine (Any.slices_Compact_string_empty sh_CompactS none 0 w).mono ?_
    rintro e w' ⟨rfl, rfl⟩
    exact ⟨_, rfl, by have : compactS [] = [] := (by simp [compactS, unS, mkS, Lib.compact, Lib.compactUpTo]); rw [this]; exact Kd.R_nil _ _ _ _ _, hB, Kept.refl _ _⟩
  · have hl : (unS l0).length = l0.length := by simp [unS]
    obtain ⟨hH, hg, hcap, hmax⟩ := own_holds (d := (unS l0).toArray) ByteArray.empty encStr ho0 rfl (by simp [unS]) (fun j hj => by
      have : j < (unS l0).length := by omega
      simp [unS, encStr, List.getElem?_eq_getElem hj, List.getD_eq_getElem?_getD, hj])
    have hml : maxLen ≤ 9223372036854775807 := by unfold maxLen; omega
    have hcl := compact_length_le (unS l0)
    have hc := Any.slices_Compact_string sh_CompactS g 0 cap (unS l0) w hH (by omega) (by omega)
    rw [hl] at hc
    refine hc.mono ?_
    rintro e w' ⟨rfl, q, hw⟩
    obtain ⟨h1, h2, h3⟩ := own_put (m := (Lib.compact (unS l0)).length) (ys := compactS l0) (os := #[]) (d := (Lib.compact (unS l0) ++ List.replicate (l0.length - (Lib.compact (unS l0)).length) []).toArray) encStr rfl hB ho0 rfl (by simp; omega) (by omega) (by simp [compactS, mkS]) (by
      simp [compactS, enc_mkS]) w' (by rw [Sort.grow_empty]; exact hw)
    exact ⟨_, rfl, h1, h2, h3⟩

end Go.Proofs.Ytjlfolmjkppneaa.P

namespace Go.Proofs.Ytjlfolmjkppneaa.P
open Go.RowKit Go.Proofs.YtjlfolmjkppneaaW.PrintWords Go.Proofs.YtjlfolmjkppneaaW.PrintLast Go.Proofs.YtjlfolmjkppneaaW.PrintMore
attribute [local go_sem] max2_int min2_int max_two min_two max_three min_three max_four min_four str_leq str_gtr str_geq
set_option linter.unusedVariables false
set_option linter.unusedSimpArgs false

def impl_playersAt.l0 : Nat → Int → List ByteArray → List (S62) → Int → Int → Option (List ByteArray)
  | 0, _, _, _, _, _ => none
  | k + 1, x1, x5, x8, x9, x10 => if x10 < x9 then (if 0 ≤ x10 then (if x10 < (x8.length : Int) then ((impl_Turn_end.f ((rd_T62 x8 x10).f0) ((rd_T62 x8 x10).f1) ((rd_T62 x8 x10).f2)).bind fun t107 => ((impl_within.f x1 ((rd_T62 x8 x10).f1) (wrap64 (t107 - 1))).bind fun t108 => (if t108 = true then (if x5.length < 8796093022208 then (impl_playersAt.l0 k x1 (x5 ++ [(rd_T62 x8 x10).f0]) x8 x9 (wrap64 (x10 + 1))) else (none)) else (impl_playersAt.l0 k x1 x5 x8 x9 (wrap64 (x10 + 1)))))) else (none)) else (none)) else ((slices_Sort_S_string.f x5).bind fun t101 => ((slices_Compact_S_string.f t101).bind fun t102 => (some t102)))
def impl_playersAt.f (k : Nat) (l0 : List (S62)) (a1 : Int) : Option (List ByteArray) := impl_playersAt.l0 k a1 ([] : List ByteArray) l0 (l0.length : Int) 0
set_option maxHeartbeats 8000000 in
set_option maxRecDepth 100000 in
theorem impl_playersAt.calls (k : Nat) (A0 : Option Addr) (c0 : Nat) (l0 : List (S62)) (a1 : Int) (r : List ByteArray) (w : World) (hr0 : Kd.C k62 w A0 l0.length l0) (hc0 : l0.length ≤ c0) (h : impl_playersAt.f k l0 a1 = some r) :
    Calls Try.prog 64 #[.slice A0 l0.length c0, .int .i64 a1] w fun e w' => ∃ v0_ : Value, e = .returned (v0_) ∧ Kd.R Kd.string 9 w' w.heap.size (fun _ => True) v0_ r ∧ Below w.heap.size w w' := by
  have hu62 := Try.underlying62
  have HR0 := Aside0.mk hr0
  have HC0 := Aside0.mk hc0
  clear hr0 hc0
  have HB := Aside0.mk (Below.refl w.heap.size w)
  have H : (impl_playersAt.l0 k a1 ([] : List ByteArray) l0 (l0.length : Int) 0) = some r := h
  clear h
  have H' := Aside0.mk H
  clear H
  go_enter Try.func64, Try.ntmps64
  go_wp2
  go_loopg [5, 10] k (fun kq v5 v10 w' => ∃ (x5_1 : List ByteArray) (x10_1 : Int), v10 = .int .i64 x10_1 ∧ Aside0 (impl_playersAt.l0 kq a1 x5_1 l0 (l0.length : Int) x10_1 = some r) ∧ Aside0 (kq ≤ k) ∧ Aside0 (Kd.R Kd.string 9 w' w.heap.size (fun _ => True) v5 x5_1) ∧ Aside0 (Below w.heap.size w w'))
  case atStart => exact ⟨(([] : List ByteArray)), (0), (by first | rfl | (simp; done) | (simp [*]; done)), H', ⟨Nat.le_refl _⟩, ⟨by first | exact Kd.R_nil _ _ _ _ _ | exact Kd.N_nil _ _ _ _ _ | exact Kd.V_nil _ _ _ _ _ | exact Kd.Q_nil _ _ _ _ _ | exact Kd.S_nil _ _ _ _ _⟩, ⟨by repeat (first | (with_reducible first | exact HB.out | apply below_alloc | apply pw_below_drewN | apply below_drew1) | exact HB.out)⟩⟩
  case round =>
    clear H'
    try clear p2
    obtain ⟨x5_1, x10_1, rfl, HA, HK1, HO_5, HB⟩ := hrel
    cases gk with
    | zero => exact absurd HA.out (by simp [impl_playersAt.l0])
    | succ k1 =>
      have H := HA.out
      clear HA
      simp only [impl_playersAt.l0] at H
      by_cases c3 : x10_1 < (l0.length : Int)
      · rw [if_pos c3] at H
        have c3b0 : decide (x10_1 < (l0.length : Int)) = true := decide_eq_true c3
        clear c3
        by_cases c4 : 0 ≤ x10_1
        · rw [if_pos c4] at H
          have c4b0 : decide (0 ≤ x10_1) = true := decide_eq_true c4
          clear c4
          by_cases c5 : x10_1 < (l0.length : Int)
          · rw [if_pos c5] at H
            have c5b0 : decide (x10_1 < (l0.length : Int)) = true := decide_eq_true c5
            clear c5
            replace H := Option.bind_eq_some_iff.mp H
            obtain ⟨t107, A60, H⟩ := H
            replace H : ((impl_within.f a1 ((rd_T62 l0 x10_1).f1) (wrap64 (t107 - 1))).bind fun t108 => (if t108 = true then (if x5_1.length < 8796093022208 then (impl_playersAt.l0 k1 a1 (x5_1 ++ [(rd_T62 l0 x10_1).f0]) l0 (l0.length : Int) (wrap64 (x10_1 + 1))) else (none)) else (impl_playersAt.l0 k1 a1 x5_1 l0 (l0.length : Int) (wrap64 (x10_1 + 1))))) = some r := H
            have A6 := Aside0.mk A60
            clear A60
            replace H := Option.bind_eq_some_iff.mp H
            obtain ⟨t108, A70, H⟩ := H
            replace H : (if t108 = true then (if x5_1.length < 8796093022208 then (impl_playersAt.l0 k1 a1 (x5_1 ++ [(rd_T62 l0 x10_1).f0]) l0 (l0.length : Int) (wrap64 (x10_1 + 1))) else (none)) else (impl_playersAt.l0 k1 a1 x5_1 l0 (l0.length : Int) (wrap64 (x10_1 + 1)))) = some r := H
            have A7 := Aside0.mk A70
            clear A70
            by_cases c8 : t108 = true
            · subst c8
              have H1 : (if x5_1.length < 8796093022208 then (impl_playersAt.l0 k1 a1 (x5_1 ++ [(rd_T62 l0 x10_1).f0]) l0 (l0.length : Int) (wrap64 (x10_1 + 1))) else (none)) = some r := by rw [if_pos rfl] at H; exact H
              clear H
              have H := H1
              clear H1
              by_cases c9 : x5_1.length < 8796093022208
              · rw [if_pos c9] at H
                have LMc9 := Aside0.mk c9
                clear c9
                obtain ⟨y109, hy109⟩ : ∃ y_ : List ByteArray, y_ = (x5_1 ++ [(rd_T62 l0 x10_1).f0]) := ⟨_, rfl⟩
                replace H : (impl_playersAt.l0 k1 a1 y109 l0 (l0.length : Int) (wrap64 (x10_1 + 1))) = some r := by first | (rw [hy109]; with_reducible exact H) | (have H2_ := (Option.bind_some _ _).symm.trans H; rw [hy109]; with_reducible exact H2_) | (have H2_ := (Option.bind_some _ _).symm.trans H; with_reducible exact H2_) | with_reducible exact H | (rw [hy109]; exact H) | exact H
                have Ny109 := Aside0.mk hy109
                clear hy109
                have H' := Aside0.mk H
                clear H
                have p105 : 0 ≤ (x10_1 : Int) := of_decide_eq_true (by first | (with_reducible assumption) | assumption)
                have q105 : x10_1 < (l0.length : Int) := of_decide_eq_true (by first | (with_reducible assumption) | assumption)
                obtain ⟨ad105, e105, hx105_0, hx105_1, hx105_2⟩ := at_T62 HR0.out x10_1 p105 q105
                cases e105
                replace hx105_0 := (HB.out.cell (World.block_lt_of_cell? w _ hx105_0)).trans hx105_0
                replace hx105_1 := (HB.out.cell (World.block_lt_of_cell? w _ hx105_1)).trans hx105_1
                replace hx105_2 := (HB.out.cell (World.block_lt_of_cell? w _ hx105_2)).trans hx105_2
                replace p105 := eq_true p105
                replace q105 := eq_true q105
                try go_wp2_with (first | ((with_reducible refine gate_dst (N := 7) rfl ?_); refine box_event ?hg (N := 7) ?hd (cs := #[.string (⟨#[]⟩ : ByteArray), .int .i64 0, .int .i64 0]) (t := 62) ?hr ?_; (case hd => rfl); (case hg => rfl); (case hr => first | (go_simp; done) | (go_simp; rfl)); intro gb106 hg w10 hbox hb; have n0_ := Aside0.mk (Kd.R_below (by (with_reducible repeat (first | apply Kd.R_alloc | apply Kd.R_drewN | apply Kd.R_drew)); exact HO_5.out) hb); have n1_ := Aside0.mk (below_step (by repeat (first | (with_reducible first | exact HB.out | apply below_alloc | apply pw_below_drewN | apply below_drew1) | exact HB.out)) hb); have n2_ := Aside0.mk (hbox); have n3_ := Aside0.mk ((by rw [hg]; exact (below_size (by repeat (first | (with_reducible first | exact HB.out | apply below_alloc | apply pw_below_drewN | apply below_drew1) | exact HB.out))) : w.heap.size ≤ gb106)); have n4_ := Aside0.mk ((by rw [hg]; exact (below_size (by repeat (first | (with_reducible first | exact HB.out | apply below_alloc | apply pw_below_drewN | apply below_drew1) | exact HB.out))) : w.heap.size ≤ gb106)); clear HO_5; clear HB; have HO_5 := n0_; have HB := n1_; have BK106 := n2_; have GW106 := n3_; have GE106 := n4_; clear n0_ n1_ n2_ n3_ n4_; clear hb hbox hg; have hcz11_0 : w10.cell? ⟨gb106, 0, none⟩ = some (.string (⟨#[]⟩ : ByteArray)) := (blk_cell BK106.out 0).trans rfl; have hcz11_1 : w10.cell? ⟨gb106, 1, none⟩ = some (.int .i64 0) := (blk_cell BK106.out 1).trans rfl; have hcz11_2 : w10.cell? ⟨gb106, 2, none⟩ = some (.int .i64 0) := (blk_cell BK106.out 2).trans rfl; have hfz11_0 := blk_frozen BK106.out 0; have hfz11_1 := blk_frozen BK106.out 1; have hfz11_2 := blk_frozen BK106.out 2))
                have n0_ : Aside0 (Kd.R Kd.string 9 (((w10.setCell ⟨gb106, 0, none⟩ (.string ((rd_T62 l0 x10_1).f0))).setCell ⟨gb106, 1, none⟩ (.int .i64 ((rd_T62 l0 x10_1).f1))).setCell ⟨gb106, 2, none⟩ (.int .i64 ((rd_T62 l0 x10_1).f2))) w.heap.size (fun _ => True) u5 x5_1) := ⟨by (with_reducible repeat (first | apply Kd.R_alloc | apply Kd.R_drewN | apply Kd.R_drew)); exact Kd.R_mono (Kd.R_far (p := ⟨gb106, 2, none⟩) (Kd.R_far (p := ⟨gb106, 1, none⟩) (Kd.R_far (p := ⟨gb106, 0, none⟩) (Kd.R_types HO_5.out BK106.out (by decide)) (fun _ hk => hk.2) (.string ((rd_T62 l0 x10_1).f0))) (fun _ hk => hk.2) (.int .i64 ((rd_T62 l0 x10_1).f1))) (fun _ hk => hk.2) (.int .i64 ((rd_T62 l0 x10_1).f2))) (fun _ hk => trivial)⟩
                have n1_ : Aside0 ((((w10.setCell ⟨gb106, 0, none⟩ (.string ((rd_T62 l0 x10_1).f0))).setCell ⟨gb106, 1, none⟩ (.int .i64 ((rd_T62 l0 x10_1).f1))).setCell ⟨gb106, 2, none⟩ (.int .i64 ((rd_T62 l0 x10_1).f2))).heap[gb106]? = some (.cells #[.string ((rd_T62 l0 x10_1).f0), .int .i64 ((rd_T62 l0 x10_1).f1), .int .i64 ((rd_T62 l0 x10_1).f2)] 62 (0, 0))) := ⟨by (with_reducible repeat (first | refine blk_drewN ?_ _ | refine blk_drew ?_ | refine blk_alloc ?_ _)); refine blk_put (cs := #[.string ((rd_T62 l0 x10_1).f0), .int .i64 ((rd_T62 l0 x10_1).f1), .int .i64 0]) ?_ 2 _ rfl; (with_reducible repeat (first | refine blk_drewN ?_ _ | refine blk_drew ?_ | refine blk_alloc ?_ _)); refine blk_put (cs := #[.string ((rd_T62 l0 x10_1).f0), .int .i64 0, .int .i64 0]) ?_ 1 _ rfl; (with_reducible repeat (first | refine blk_drewN ?_ _ | refine blk_drew ?_ | refine blk_alloc ?_ _)); refine blk_put (cs := #[.string (⟨#[]⟩ : ByteArray), .int .i64 0, .int .i64 0]) ?_ 0 _ rfl; (with_reducible repeat (first | refine blk_drewN ?_ _ | refine blk_drew ?_ | refine blk_alloc ?_ _)); exact BK106.out⟩
                have n2_ : Aside0 (Below w.heap.size w (((w10.setCell ⟨gb106, 0, none⟩ (.string ((rd_T62 l0 x10_1).f0))).setCell ⟨gb106, 1, none⟩ (.int .i64 ((rd_T62 l0 x10_1).f1))).setCell ⟨gb106, 2, none⟩ (.int .i64 ((rd_T62 l0 x10_1).f2)))) := ⟨by repeat (first | (with_reducible first | exact HB.out | apply below_alloc | apply pw_below_drewN | apply below_drew1 | refine below_set ?_ GE106.out) | exact HB.out)⟩
                (try clear HO_5)
                (try clear BK106)
                (try clear HB)
                generalize (((w10.setCell ⟨gb106, 0, none⟩ (.string ((rd_T62 l0 x10_1).f0))).setCell ⟨gb106, 1, none⟩ (.int .i64 ((rd_T62 l0 x10_1).f1))).setCell ⟨gb106, 2, none⟩ (.int .i64 ((rd_T62 l0 x10_1).f2))) = w12 at n0_ n1_ n2_ ⊢
                have HO_5 := n0_
                have BK106 := n1_
                have HB := n2_
                clear n0_ n1_ n2_
                have n0_ := Aside0.mk (Kd.R_drew HO_5.out)
                have n1_ := Aside0.mk (blk_drew BK106.out)
                have n2_ := Aside0.mk (below_drew1 HB.out)
                clear HO_5
                clear BK106
                clear HB
                have HO_5 := n0_
                have BK106 := n1_
                have HB := n2_
                clear n0_ n1_ n2_
                refine start_ (n := 7) (S := fun w' => w'.cell? ⟨gb106, 0, none⟩ = some (.string ((rd_T62 l0 x10_1).f0)) ∧ w'.cell? ⟨gb106, 1, none⟩ = some (.int .i64 ((rd_T62 l0 x10_1).f1)) ∧ w'.cell? ⟨gb106, 2, none⟩ = some (.int .i64 ((rd_T62 l0 x10_1).f2))) (ds := []) #[false, false, false, false, false, false, false] (by kernel_rfl) rfl rfl ⟨(blk_cell BK106.out 0).trans rfl, (blk_cell BK106.out 1).trans rfl, (blk_cell BK106.out 2).trans rfl⟩ (fun hHeld => ?_)
                generalize w12.drew = w13 at HO_5 BK106 HB hHeld ⊢
                refine pure_ (i := 0) (N := some 14) (v := ?_) (a' := ?_) #[true, false, false, false, false, false, false] rfl rfl (by kernel_rfl) (fun _ _ _ h => h) (Or.inl ⟨by rfl, ?_⟩) ?_ ?_
                rotate_left
                · intro w'
                  go_simp
                  with_reducible rfl
                rotate_left
                · simp only [Act.put, List.setIfInBounds_toArray, List.set_cons_zero, List.set_cons_succ, i64_w, i32_w]
                  rfl
                refine pure_ (i := 1) (N := some 15) (v := ?_) (a' := ?_) #[true, true, false, false, false, false, false] rfl rfl (by kernel_rfl) (fun _ _ _ h => h) (Or.inl ⟨by rfl, ?_⟩) ?_ ?_
                rotate_left
                · intro w'
                  go_simp
                  with_reducible rfl
                rotate_left
                · simp only [Act.put, List.setIfInBounds_toArray, List.set_cons_zero, List.set_cons_succ, i64_w, i32_w]
                  rfl
                refine take_ (i := 2) (N := some 16) (v := ?_) (a' := ?_) #[true, true, true, false, false, false, false] rfl rfl (by kernel_rfl) (fun _ _ _ h => h) (Or.inl ⟨by rfl, ?_⟩) hHeld ?_ ?_
                rotate_left
                · rintro w' ⟨s0, s1, s2⟩
                  go_simp
                  with_reducible rfl
                rotate_left
                · simp only [Act.put, List.setIfInBounds_toArray, List.set_cons_zero, List.set_cons_succ, i64_w, i32_w]
                  rfl
                refine take_ (i := 3) (N := some 17) (v := ?_) (a' := ?_) #[true, true, true, true, false, false, false] rfl rfl (by kernel_rfl) (fun _ _ _ h => h) (Or.inl ⟨by rfl, ?_⟩) hHeld ?_ ?_
                rotate_left
                · rintro w' ⟨s0, s1, s2⟩
                  go_simp
                  with_reducible rfl
                rotate_left
                · simp only [Act.put, List.setIfInBounds_toArray, List.set_cons_zero, List.set_cons_succ, i64_w, i32_w]
                  rfl
                refine one_ (i := 4) (N := some 18) #[true, true, true, true, true, false, false] rfl rfl (by kernel_rfl) (by decide) (fun K hK => ?_)
                refine goes_ Try.func57 (by kernel_rfl) rfl #[.agg #[.string ((rd_T62 l0 x10_1).f0), .int .i64 ((rd_T62 l0 x10_1).f1), .int .i64 ((rd_T62 l0 x10_1).f2)]] (by rfl) rfl rfl (by (try simp only [List.map_toArray, List.map_cons, List.map_nil]); first | done | rfl | (simp only [List.length_drop, List.length_take]; rfl)) ?_
                with_reducible refine (impl_Turn_end.calls ((rd_T62 l0 x10_1).f0) ((rd_T62 l0 x10_1).f1) ((rd_T62 l0 x10_1).f2) t107 _ A6.out).mono ?_
                rintro e w14 ⟨rfl, hb⟩
                refine ⟨_, rfl, ?_⟩
                have n0_ := Aside0.mk (Kd.R_below (by (with_reducible repeat (first | apply Kd.R_alloc | apply Kd.R_drewN | apply Kd.R_drew)); exact HO_5.out) hb)
                have n1_ := Aside0.mk (blk_below (g := gb106) (o := .cells #[.string ((rd_T62 l0 x10_1).f0), .int .i64 ((rd_T62 l0 x10_1).f1), .int .i64 ((rd_T62 l0 x10_1).f2)] 62 (0, 0)) (by (with_reducible repeat (first | refine blk_drewN ?_ _ | refine blk_drew ?_ | refine blk_alloc ?_ _)); exact BK106.out) hb)
                have n2_ := Aside0.mk (below_step (by repeat (first | (with_reducible first | exact HB.out | apply below_alloc | apply pw_below_drewN | apply below_drew1 | refine below_set ?_ GE106.out) | exact HB.out)) hb)
                clear HO_5
                clear BK106
                clear HB
                have HO_5 := n0_
                have BK106 := n1_
                have HB := n2_
                clear n0_ n1_ n2_
                (try clear hb)
                (try clear hb2)
                (try clear hk)
                (try clear hi)
                refine hK.out _ _ ⟨(blk_cell BK106.out 0).trans rfl, (blk_cell BK106.out 1).trans rfl, (blk_cell BK106.out 2).trans rfl⟩ (fun hHeld => ?_)
                clear hK K
                refine norm_ (a' := ?_) ?_ ?_
                rotate_left
                · show Act.put _ (some 18) _ = _
                  simp only [Act.put, List.setIfInBounds_toArray, List.set_cons_zero, List.set_cons_succ, i64_w, i32_w]
                  rfl
                refine pure_ (i := 5) (N := some 19) (v := ?_) (a' := ?_) #[true, true, true, true, true, true, false] rfl rfl (by kernel_rfl) (fun _ _ _ h => h) (Or.inl ⟨by rfl, ?_⟩) ?_ ?_
                rotate_left
                · intro w'
                  go_simp
                  with_reducible rfl
                rotate_left
                · simp only [Act.put, List.setIfInBounds_toArray, List.set_cons_zero, List.set_cons_succ, i64_w, i32_w]
                  rfl
                refine one_ (i := 6) (N := some 20) #[true, true, true, true, true, true, true] rfl rfl (by kernel_rfl) (by decide) (fun K hK => ?_)
                refine goes_ Try.func54 (by kernel_rfl) rfl #[.int .i64 a1, .int .i64 ((rd_T62 l0 x10_1).f1), .int .i64 (wrap64 (t107 - 1))] (by rfl) rfl rfl (by (try simp only [List.map_toArray, List.map_cons, List.map_nil]); first | done | rfl | (simp only [List.length_drop, List.length_take]; rfl)) ?_
                with_reducible refine (impl_within.calls a1 ((rd_T62 l0 x10_1).f1) (wrap64 (t107 - 1)) true _ A7.out).mono ?_
                rintro e w' ⟨rfl, ⟨nd, rfl⟩⟩
                refine ⟨_, rfl, ?_⟩
                refine hK.out _ _ ⟨(blk_cell BK106.out 0).trans rfl, (blk_cell BK106.out 1).trans rfl, (blk_cell BK106.out 2).trans rfl⟩ (fun hHeld => ?_)
                clear hK K
                refine norm_ (a' := ?_) ?_ ?_
                rotate_left
                · show Act.put _ (some 20) _ = _
                  simp only [Act.put, List.setIfInBounds_toArray, List.set_cons_zero, List.set_cons_succ, i64_w, i32_w]
                  rfl
                refine done_ (by kernel_rfl) ?_
                have hcz15_0 : w14.cell? ⟨gb106, 0, none⟩ = some (.string ((rd_T62 l0 x10_1).f0)) := (blk_cell BK106.out 0).trans rfl
                have hcz15_1 : w14.cell? ⟨gb106, 1, none⟩ = some (.int .i64 ((rd_T62 l0 x10_1).f1)) := (blk_cell BK106.out 1).trans rfl
                have hcz15_2 : w14.cell? ⟨gb106, 2, none⟩ = some (.int .i64 ((rd_T62 l0 x10_1).f2)) := (blk_cell BK106.out 2).trans rfl
                have hfz15_0 := blk_frozen BK106.out 0
                have hfz15_1 := blk_frozen BK106.out 1
                have hfz15_2 := blk_frozen BK106.out 2
                try go_wp2_with (first | ((with_reducible refine gate_builtin (b := .append) (xs := #[.tmp 21, .tmp 24]) rfl ?_); at_builtin; refine Kd.R_append Kd.string (w0 := w) w.heap.size rfl (.tmp 21) (.tmp 24) 40 9 (.string ⟨#[]⟩) 16 rfl Try.underlying40 info9 rfl (by decide) (by omega) u5 x5_1 ((rd_T62 l0 x10_1).f0) [.string ((rd_T62 l0 x10_1).f0)] (fun _ => True) (fun _ => False) rfl rfl ?aP (fun _ hk => hk.elim) ?aF ?aO ?aB ?aS ?aL ?_; (case aP => exact rfl); (case aB => exact (by repeat (first | (with_reducible first | exact HB.out | apply below_alloc | apply pw_below_drewN | apply below_drew1 | refine below_set ?_ GE106.out) | exact HB.out))); (case aF => exact (fun _ _ => trivial)); (case aO => exact (by (with_reducible repeat (first | apply Kd.R_alloc | apply Kd.R_drewN | apply Kd.R_drew)); exact HO_5.out)); (case aS => exact (below_size (by repeat (first | (with_reducible first | exact HB.out | apply below_alloc | apply pw_below_drewN | apply below_drew1 | refine below_set ?_ GE106.out) | exact HB.out)))); (case aL => have := LMc9.out; omega); intro v110 w16 ho hb hg hat; rw [← Ny109.out] at ho; have n0_ := Aside0.mk (blk_grown (g := gb106) (o := .cells #[.string ((rd_T62 l0 x10_1).f0), .int .i64 ((rd_T62 l0 x10_1).f1), .int .i64 ((rd_T62 l0 x10_1).f2)] 62 (0, 0)) (by (with_reducible repeat (first | refine blk_drewN ?_ _ | refine blk_drew ?_ | refine blk_alloc ?_ _)); exact BK106.out) hg (Kd.R_ne HO_5.out BK106.out (by decide))); have n1_ := Aside0.mk (hb); have n2_ := Aside0.mk (ho); clear BK106; clear HB; clear HO_5; have BK106 := n0_; have HB := n1_; have HO111 := n2_; clear n0_ n1_ n2_; clear ho hb hg hat))
                go_roundg k1
                case measure => have := HK1.out; omega
                case rel => exact ⟨(y109), (wrap64 (x10_1 + 1)), (by first | rfl | (simp; done) | (simp [*]; done)), H', ⟨by have := HK1.out; omega⟩, ⟨by (with_reducible repeat (first | apply Kd.R_alloc | apply Kd.R_drewN | apply Kd.R_drew)); exact HO111.out⟩, ⟨by repeat (first | (with_reducible first | exact HB.out | apply below_alloc | apply pw_below_drewN | apply below_drew1 | refine below_set ?_ GE106.out) | exact HB.out)⟩⟩
              · rw [if_neg c9] at H
                exact absurd H (by simp)
            · replace c8 := Bool.eq_false_iff.mpr c8
              subst c8
              have H1 : (impl_playersAt.l0 k1 a1 x5_1 l0 (l0.length : Int) (wrap64 (x10_1 + 1))) = some r := by rw [if_neg (show ¬ (false = true) by decide)] at H; exact H
              clear H
              have H := H1
              clear H1
              have H' := Aside0.mk H
              clear H
              have p105 : 0 ≤ (x10_1 : Int) := of_decide_eq_true (by first | (with_reducible assumption) | assumption)
              have q105 : x10_1 < (l0.length : Int) := of_decide_eq_true (by first | (with_reducible assumption) | assumption)
              obtain ⟨ad105, e105, hx105_0, hx105_1, hx105_2⟩ := at_T62 HR0.out x10_1 p105 q105
              cases e105
              replace hx105_0 := (HB.out.cell (World.block_lt_of_cell? w _ hx105_0)).trans hx105_0
              replace hx105_1 := (HB.out.cell (World.block_lt_of_cell? w _ hx105_1)).trans hx105_1
              replace hx105_2 := (HB.out.cell (World.block_lt_of_cell? w _ hx105_2)).trans hx105_2
              replace p105 := eq_true p105
              replace q105 := eq_true q105
              try go_wp2_with (first | ((with_reducible refine gate_dst (N := 7) rfl ?_); refine box_event ?hg (N := 7) ?hd (cs := #[.string (⟨#[]⟩ : ByteArray), .int .i64 0, .int .i64 0]) (t := 62) ?hr ?_; (case hd => rfl); (case hg => rfl); (case hr => first | (go_simp; done) | (go_simp; rfl)); intro gb106 hg w17 hbox hb; have n0_ := Aside0.mk (Kd.R_below (by (with_reducible repeat (first | apply Kd.R_alloc | apply Kd.R_drewN | apply Kd.R_drew)); exact HO_5.out) hb); have n1_ := Aside0.mk (below_step (by repeat (first | (with_reducible first | exact HB.out | apply below_alloc | apply pw_below_drewN | apply below_drew1) | exact HB.out)) hb); have n2_ := Aside0.mk (hbox); have n3_ := Aside0.mk ((by rw [hg]; exact (below_size (by repeat (first | (with_reducible first | exact HB.out | apply below_alloc | apply pw_below_drewN | apply below_drew1) | exact HB.out))) : w.heap.size ≤ gb106)); have n4_ := Aside0.mk ((by rw [hg]; exact (below_size (by repeat (first | (with_reducible first | exact HB.out | apply below_alloc | apply pw_below_drewN | apply below_drew1) | exact HB.out))) : w.heap.size ≤ gb106)); clear HO_5; clear HB; have HO_5 := n0_; have HB := n1_; have BK106 := n2_; have GW106 := n3_; have GE106 := n4_; clear n0_ n1_ n2_ n3_ n4_; clear hb hbox hg; have hcz18_0 : w17.cell? ⟨gb106, 0, none⟩ = some (.string (⟨#[]⟩ : ByteArray)) := (blk_cell BK106.out 0).trans rfl; have hcz18_1 : w17.cell? ⟨gb106, 1, none⟩ = some (.int .i64 0) := (blk_cell BK106.out 1).trans rfl; have hcz18_2 : w17.cell? ⟨gb106, 2, none⟩ = some (.int .i64 0) := (blk_cell BK106.out 2).trans rfl; have hfz18_0 := blk_frozen BK106.out 0; have hfz18_1 := blk_frozen BK106.out 1; have hfz18_2 := blk_frozen BK106.out 2))
              have n0_ : Aside0 (Kd.R Kd.string 9 (((w17.setCell ⟨gb106, 0, none⟩ (.string ((rd_T62 l0 x10_1).f0))).setCell ⟨gb106, 1, none⟩ (.int .i64 ((rd_T62 l0 x10_1).f1))).setCell ⟨gb106, 2, none⟩ (.int .i64 ((rd_T62 l0 x10_1).f2))) w.heap.size (fun _ => True) u5 x5_1) := ⟨by (with_reducible repeat (first | apply Kd.R_alloc | apply Kd.R_drewN | apply Kd.R_drew)); exact Kd.R_mono (Kd.R_far (p := ⟨gb106, 2, none⟩) (Kd.R_far (p := ⟨gb106, 1, none⟩) (Kd.R_far (p := ⟨gb106, 0, none⟩) (Kd.R_types HO_5.out BK106.out (by decide)) (fun _ hk => hk.2) (.string ((rd_T62 l0 x10_1).f0))) (fun _ hk => hk.2) (.int .i64 ((rd_T62 l0 x10_1).f1))) (fun _ hk => hk.2) (.int .i64 ((rd_T62 l0 x10_1).f2))) (fun _ hk => trivial)⟩
              have n1_ : Aside0 ((((w17.setCell ⟨gb106, 0, none⟩ (.string ((rd_T62 l0 x10_1).f0))).setCell ⟨gb106, 1, none⟩ (.int .i64 ((rd_T62 l0 x10_1).f1))).setCell ⟨gb106, 2, none⟩ (.int .i64 ((rd_T62 l0 x10_1).f2))).heap[gb106]? = some (.cells #[.string ((rd_T62 l0 x10_1).f0), .int .i64 ((rd_T62 l0 x10_1).f1), .int .i64 ((rd_T62 l0 x10_1).f2)] 62 (0, 0))) := ⟨by (with_reducible repeat (first | refine blk_drewN ?_ _ | refine blk_drew ?_ | refine blk_alloc ?_ _)); refine blk_put (cs := #[.string ((rd_T62 l0 x10_1).f0), .int .i64 ((rd_T62 l0 x10_1).f1), .int .i64 0]) ?_ 2 _ rfl; (with_reducible repeat (first | refine blk_drewN ?_ _ | refine blk_drew ?_ | refine blk_alloc ?_ _)); refine blk_put (cs := #[.string ((rd_T62 l0 x10_1).f0), .int .i64 0, .int .i64 0]) ?_ 1 _ rfl; (with_reducible repeat (first | refine blk_drewN ?_ _ | refine blk_drew ?_ | refine blk_alloc ?_ _)); refine blk_put (cs := #[.string (⟨#[]⟩ : ByteArray), .int .i64 0, .int .i64 0]) ?_ 0 _ rfl; (with_reducible repeat (first | refine blk_drewN ?_ _ | refine blk_drew ?_ | refine blk_alloc ?_ _)); exact BK106.out⟩
              have n2_ : Aside0 (Below w.heap.size w (((w17.setCell ⟨gb106, 0, none⟩ (.string ((rd_T62 l0 x10_1).f0))).setCell ⟨gb106, 1, none⟩ (.int .i64 ((rd_T62 l0 x10_1).f1))).setCell ⟨gb106, 2, none⟩ (.int .i64 ((rd_T62 l0 x10_1).f2)))) := ⟨by repeat (first | (with_reducible first | exact HB.out | apply below_alloc | apply pw_below_drewN | apply below_drew1 | refine below_set ?_ GE106.out) | exact HB.out)⟩
              (try clear HO_5)
              (try clear BK106)
              (try clear HB)
              generalize (((w17.setCell ⟨gb106, 0, none⟩ (.string ((rd_T62 l0 x10_1).f0))).setCell ⟨gb106, 1, none⟩ (.int .i64 ((rd_T62 l0 x10_1).f1))).setCell ⟨gb106, 2, none⟩ (.int .i64 ((rd_T62 l0 x10_1).f2))) = w19 at n0_ n1_ n2_ ⊢
              have HO_5 := n0_
              have BK106 := n1_
              have HB := n2_
              clear n0_ n1_ n2_
              have n0_ := Aside0.mk (Kd.R_drew HO_5.out)
              have n1_ := Aside0.mk (blk_drew BK106.out)
              have n2_ := Aside0.mk (below_drew1 HB.out)
              clear HO_5
              clear BK106
              clear HB
              have HO_5 := n0_
              have BK106 := n1_
              have HB := n2_
              clear n0_ n1_ n2_
              refine start_ (n := 7) (S := fun w' => w'.cell? ⟨gb106, 0, none⟩ = some (.string ((rd_T62 l0 x10_1).f0)) ∧ w'.cell? ⟨gb106, 1, none⟩ = some (.int .i64 ((rd_T62 l0 x10_1).f1)) ∧ w'.cell? ⟨gb106, 2, none⟩ = some (.int .i64 ((rd_T62 l0 x10_1).f2))) (ds := []) #[false, false, false, false, false, false, false] (by kernel_rfl) rfl rfl ⟨(blk_cell BK106.out 0).trans rfl, (blk_cell BK106.out 1).trans rfl, (blk_cell BK106.out 2).trans rfl⟩ (fun hHeld => ?_)
              generalize w19.drew = w20 at HO_5 BK106 HB hHeld ⊢
              refine pure_ (i := 0) (N := some 14) (v := ?_) (a' := ?_) #[true, false, false, false, false, false, false] rfl rfl (by kernel_rfl) (fun _ _ _ h => h) (Or.inl ⟨by rfl, ?_⟩) ?_ ?_
              rotate_left
              · intro w'
                go_simp
                with_reducible rfl
              rotate_left
              · simp only [Act.put, List.setIfInBounds_toArray, List.set_cons_zero, List.set_cons_succ, i64_w, i32_w]
                rfl
              refine pure_ (i := 1) (N := some 15) (v := ?_) (a' := ?_) #[true, true, false, false, false, false, false] rfl rfl (by kernel_rfl) (fun _ _ _ h => h) (Or.inl ⟨by rfl, ?_⟩) ?_ ?_
              rotate_left
              · intro w'
                go_simp
                with_reducible rfl
              rotate_left
              · simp only [Act.put, List.setIfInBounds_toArray, List.set_cons_zero, List.set_cons_succ, i64_w, i32_w]
                rfl
              refine take_ (i := 2) (N := some 16) (v := ?_) (a' := ?_) #[true, true, true, false, false, false, false] rfl rfl (by kernel_rfl) (fun _ _ _ h => h) (Or.inl ⟨by rfl, ?_⟩) hHeld ?_ ?_
              rotate_left
              · rintro w' ⟨s0, s1, s2⟩
                go_simp
                with_reducible rfl
              rotate_left
              · simp only [Act.put, List.setIfInBounds_toArray, List.set_cons_zero, List.set_cons_succ, i64_w, i32_w]
                rfl
              refine take_ (i := 3) (N := some 17) (v := ?_) (a' := ?_) #[true, true, true, true, false, false, false] rfl rfl (by kernel_rfl) (fun _ _ _ h => h) (Or.inl ⟨by rfl, ?_⟩) hHeld ?_ ?_
              rotate_left
              · rintro w' ⟨s0, s1, s2⟩
                go_simp
                with_reducible rfl
              rotate_left
              · simp only [Act.put, List.setIfInBounds_toArray, List.set_cons_zero, List.set_cons_succ, i64_w, i32_w]
                rfl
              refine one_ (i := 4) (N := some 18) #[true, true, true, true, true, false, false] rfl rfl (by kernel_rfl) (by decide) (fun K hK => ?_)
              refine goes_ Try.func57 (by kernel_rfl) rfl #[.agg #[.string ((rd_T62 l0 x10_1).f0), .int .i64 ((rd_T62 l0 x10_1).f1), .int .i64 ((rd_T62 l0 x10_1).f2)]] (by rfl) rfl rfl (by (try simp only [List.map_toArray, List.map_cons, List.map_nil]); first | done | rfl | (simp only [List.length_drop, List.length_take]; rfl)) ?_
              with_reducible refine (impl_Turn_end.calls ((rd_T62 l0 x10_1).f0) ((rd_T62 l0 x10_1).f1) ((rd_T62 l0 x10_1).f2) t107 _ A6.out).mono ?_
              rintro e w21 ⟨rfl, hb⟩
              refine ⟨_, rfl, ?_⟩
              have n0_ := Aside0.mk (Kd.R_below (by (with_reducible repeat (first | apply Kd.R_alloc | apply Kd.R_drewN | apply Kd.R_drew)); exact HO_5.out) hb)
              have n1_ := Aside0.mk (blk_below (g := gb106) (o := .cells #[.string ((rd_T62 l0 x10_1).f0), .int .i64 ((rd_T62 l0 x10_1).f1), .int .i64 ((rd_T62 l0 x10_1).f2)] 62 (0, 0)) (by (with_reducible repeat (first | refine blk_drewN ?_ _ | refine blk_drew ?_ | refine blk_alloc ?_ _)); exact BK106.out) hb)
              have n2_ := Aside0.mk (below_step (by repeat (first | (with_reducible first | exact HB.out | apply below_alloc | apply pw_below_drewN | apply below_drew1 | refine below_set ?_ GE106.out) | exact HB.out)) hb)
              clear HO_5
              clear BK106
              clear HB
              have HO_5 := n0_
              have BK106 := n1_
              have HB := n2_
              clear n0_ n1_ n2_
              (try clear hb)
              (try clear hb2)
              (try clear hk)
              (try clear hi)
              refine hK.out _ _ ⟨(blk_cell BK106.out 0).trans rfl, (blk_cell BK106.out 1).trans rfl, (blk_cell BK106.out 2).trans rfl⟩ (fun hHeld => ?_)
              clear hK K
              refine norm_ (a' := ?_) ?_ ?_
              rotate_left
              · show Act.put _ (some 18) _ = _
                simp only [Act.put, List.setIfInBounds_toArray, List.set_cons_zero, List.set_cons_succ, i64_w, i32_w]
                rfl
              refine pure_ (i := 5) (N := some 19) (v := ?_) (a' := ?_) #[true, true, true, true, true, true, false] rfl rfl (by kernel_rfl) (fun _ _ _ h => h) (Or.inl ⟨by rfl, ?_⟩) ?_ ?_
              rotate_left
              · intro w'
                go_simp
                with_reducible rfl
              rotate_left
              · simp only [Act.put, List.setIfInBounds_toArray, List.set_cons_zero, List.set_cons_succ, i64_w, i32_w]
                rfl
              refine one_ (i := 6) (N := some 20) #[true, true, true, true, true, true, true] rfl rfl (by kernel_rfl) (by decide) (fun K hK => ?_)
              refine goes_ Try.func54 (by kernel_rfl) rfl #[.int .i64 a1, .int .i64 ((rd_T62 l0 x10_1).f1), .int .i64 (wrap64 (t107 - 1))] (by rfl) rfl rfl (by (try simp only [List.map_toArray, List.map_cons, List.map_nil]); first | done | rfl | (simp only [List.length_drop, List.length_take]; rfl)) ?_
              with_reducible refine (impl_within.calls a1 ((rd_T62 l0 x10_1).f1) (wrap64 (t107 - 1)) false _ A7.out).mono ?_
              rintro e w' ⟨rfl, ⟨nd, rfl⟩⟩
              refine ⟨_, rfl, ?_⟩
              refine hK.out _ _ ⟨(blk_cell BK106.out 0).trans rfl, (blk_cell BK106.out 1).trans rfl, (blk_cell BK106.out 2).trans rfl⟩ (fun hHeld => ?_)
              clear hK K
              refine norm_ (a' := ?_) ?_ ?_
              rotate_left
              · show Act.put _ (some 20) _ = _
                simp only [Act.put, List.setIfInBounds_toArray, List.set_cons_zero, List.set_cons_succ, i64_w, i32_w]
                rfl
              refine done_ (by kernel_rfl) ?_
              try go_wp2
              go_roundg k1
              case measure => have := HK1.out; omega
              case rel => exact ⟨(x5_1), (wrap64 (x10_1 + 1)), (by first | rfl | (simp; done) | (simp [*]; done)), H', ⟨by have := HK1.out; omega⟩, ⟨by (with_reducible repeat (first | apply Kd.R_alloc | apply Kd.R_drewN | apply Kd.R_drew)); exact HO_5.out⟩, ⟨by repeat (first | (with_reducible first | exact HB.out | apply below_alloc | apply pw_below_drewN | apply below_drew1 | refine below_set ?_ GE106.out) | exact HB.out)⟩⟩
          · rw [if_neg c5] at H
            exact absurd H (by simp)
        · rw [if_neg c4] at H
          exact absurd H (by simp)
      · rw [if_neg c3] at H
        have c3b0 : decide (x10_1 < (l0.length : Int)) = false := decide_eq_false c3
        clear c3
        replace H := Option.bind_eq_some_iff.mp H
        obtain ⟨t101, A220, H⟩ := H
        replace H : ((slices_Compact_S_string.f t101).bind fun t102 => (some t102)) = some r := H
        have A22 := Aside0.mk A220
        clear A220
        replace H := Option.bind_eq_some_iff.mp H
        obtain ⟨t102, A230, H⟩ := H
        replace H : (some t102) = some r := H
        have A23 := Aside0.mk A230
        clear A230
        obtain rfl := Option.some.inj H
        obtain ⟨Ao24, co24, eo24⟩ := Kd.R_slice HO_5.out
        subst eo24
        go_wp2_with (first | ((with_reducible refine gate_callee (f := 92) rfl ?_); refine goesL_ (some 28) rfl rfl Try.func92 (by kernel_rfl) rfl #[.slice Ao24 x5_1.length co24] rfl (by (try simp only [List.map_toArray, List.map_cons, List.map_nil]); first | done | rfl | (simp only [List.length_drop, List.length_take]; rfl)) ?_; (with_reducible refine (slices_Sort_S_string.calls (fun k_ => some k_ = (.slice Ao24 x5_1.length co24 : Value).ownBlock) (.slice Ao24 x5_1.length co24) x5_1 t101 w _ ?side1 ?side2 A22.out).mono ?_); (case side1 => repeat (first | (with_reducible first | exact HB.out | apply below_alloc | apply pw_below_drewN | apply below_drew1) | exact HB.out)); (case side2 => exact Kd.R_tight rfl HO_5.out); rintro e w25 ⟨rfl, hy0, hb, hkp⟩; refine ⟨_, rfl, ?_⟩; have n0_ := Aside0.mk (Kd.R_reok rfl hy0 (fun k_ e_ => HO_5.out.1 k_ e_)); have n1_ := Aside0.mk (hb); clear HO_5; clear HB; have HO_5 := n0_; have HB := n1_; clear n0_ n1_; (try clear hb); (try clear hkp); (try clear hy0)) | ((with_reducible refine gate_callee (f := 93) rfl ?_); refine goesL_ (some 30) rfl rfl Try.func93 (by kernel_rfl) rfl #[.slice Ao24 x5_1.length co24] rfl (by (try simp only [List.map_toArray, List.map_cons, List.map_nil]); first | done | rfl | (simp only [List.length_drop, List.length_take]; rfl)) ?_; (with_reducible refine (slices_Compact_S_string.calls (fun k_ => some k_ = (.slice Ao24 x5_1.length co24 : Value).ownBlock) (.slice Ao24 x5_1.length co24) t101 t102 w _ ?side1 ?side2 A23.out).mono ?_); (case side1 => repeat (first | (with_reducible first | exact HB.out | apply below_alloc | apply pw_below_drewN | apply below_drew1) | exact HB.out)); (case side2 => exact Kd.R_tight rfl HO_5.out); rintro e w26 ⟨v103, rfl, ho0, hb, hkp⟩; refine ⟨_, rfl, ?_⟩; have n0_ := Aside0.mk (Kd.R_mono (ok' := fun k_ => True) ho0 (fun k_ hk_ => trivial)); have n1_ := Aside0.mk (hb); clear HB; clear HO_5; have HO104 := n0_; have HB := n1_; clear n0_ n1_; (try clear hb); (try clear hkp); (try clear ho0)))
        go_ret
        exact ⟨_, by first | rfl | (simp [errW_none, errW_some] <;> rfl) | (simp [*, errW_none, errW_some] <;> rfl), by (with_reducible repeat (first | apply Kd.R_alloc | apply Kd.R_drewN | apply Kd.R_drew)); exact HO104.out, by repeat (first | (with_reducible first | exact HB.out | apply below_alloc | apply pw_below_drewN | apply below_drew1) | exact HB.out)⟩

end Go.Proofs.Ytjlfolmjkppneaa.P

namespace Go.Proofs.Ytjlfolmjkppneaa.P
open Go.RowKit Go.Proofs.YtjlfolmjkppneaaW.PrintWords Go.Proofs.YtjlfolmjkppneaaW.PrintLast Go.Proofs.YtjlfolmjkppneaaW.PrintMore
attribute [local go_sem] max2_int min2_int max_two min_two max_three min_three max_four min_four str_leq str_gtr str_geq
set_option linter.unusedVariables false
set_option linter.unusedSimpArgs false

def impl_FullestTime.l0 : Nat → List (S62) → Int → Int → List (S62) → Int → Int → Option (Int × Int × Int)
  | 0, _, _, _, _, _, _ => none
  | k + 1, x0, x5, x6, x18, x19, x20 => if x20 < x19 then (if 0 ≤ x20 then (if x20 < (x18.length : Int) then ((impl_playersAt.f k x0 ((rd_T62 x18 x20).f1)).bind fun t104 => (if (t104.length : Int) > x6 then (impl_FullestTime.l0 k x0 ((rd_T62 x18 x20).f1) (t104.length : Int) x18 x19 (wrap64 (x20 + 1))) else (impl_FullestTime.l0 k x0 x5 x6 x18 x19 (wrap64 (x20 + 1))))) else (none)) else (none)) else (some (x5, x6, 0))
def impl_FullestTime.f (k : Nat) (l0 : List (S62)) : Option (Int × Int × Int) := (impl_ValidTurns.f k l0).bind fun t101 => (if t101 = true then (if (l0.length : Int) = 0 then (some (0, 0, 3)) else (impl_FullestTime.l0 k l0 0 0 l0 (l0.length : Int) 0)) else (some (0, 0, 1)))
set_option maxHeartbeats 8000000 in
set_option maxRecDepth 100000 in
theorem impl_FullestTime.calls (k : Nat) (A0 : Option Addr) (c0 : Nat) (l0 : List (S62)) (r1 : Int) (r2 : Int) (r3 : Int) (w : World) (hr0 : Kd.C k62 w A0 l0.length l0) (hc0 : l0.length ≤ c0) (h : impl_FullestTime.f k l0 = some (r1, r2, r3)) :
    Calls Try.prog 29 #[.slice A0 l0.length c0] w fun e w' => e = .returned (.tuple #[.int .i64 r1, .int .i64 r2, .int .i64 r3]) ∧ Below w.heap.size w w' := by
  have hu62 := Try.underlying62
  have HR0 := Aside0.mk hr0
  have HC0 := Aside0.mk hc0
  clear hr0 hc0
  have HB := Aside0.mk (Below.refl w.heap.size w)
  have H : ((impl_ValidTurns.f k l0).bind fun t101 => (if t101 = true then (if (l0.length : Int) = 0 then (some (0, 0, 3)) else (impl_FullestTime.l0 k l0 0 0 l0 (l0.length : Int) 0)) else (some (0, 0, 1)))) = some (r1, r2, r3) := h
  clear h
  replace H := Option.bind_eq_some_iff.mp H
  obtain ⟨t101, A20, H⟩ := H
  replace H : (if t101 = true then (if (l0.length : Int) = 0 then (some (0, 0, 3)) else (impl_FullestTime.l0 k l0 0 0 l0 (l0.length : Int) 0)) else (some (0, 0, 1))) = some (r1, r2, r3) := H
  have A2 := Aside0.mk A20
  clear A20
  by_cases c3 : t101 = true
  · subst c3
    have H1 : (if (l0.length : Int) = 0 then (some (0, 0, 3)) else (impl_FullestTime.l0 k l0 0 0 l0 (l0.length : Int) 0)) = some (r1, r2, r3) := by rw [if_pos rfl] at H; exact H
    clear H
    have H := H1
    clear H1
    by_cases c4 : (l0.length : Int) = 0
    · rw [if_pos c4] at H
      have c4b0 : ((l0.length : Int) == 0) = true := beq_iff_eq.mpr c4
      have c4b1 : ((l0.length : Int) != 0) = false := bne_eq_false_iff_eq.mpr c4
      clear c4
      simp only [Option.some.injEq, Prod.mk.injEq] at H
      obtain ⟨rfl, rfl, rfl⟩ := H
      go_enter Try.func29, Try.ntmps29
      go_wp2_with (first | ((with_reducible refine gate_callee (f := 15) rfl ?_); refine goesL_ (some 12) rfl rfl Try.func15 (by kernel_rfl) rfl #[.slice A0 l0.length c0] rfl (by (try simp only [List.map_toArray, List.map_cons, List.map_nil]); first | done | rfl | (simp only [List.length_drop, List.length_take]; rfl)) ?_; (with_reducible refine (impl_ValidTurns.calls k _ _ l0 true _ ?side1 ?side2 A2.out).mono ?_); (case side1 => repeat (first | exact HR0.out | (with_reducible refine Kd.C_alloc ?_ _) | (with_reducible refine Kd.C_drewN ?_ _) | (with_reducible refine Kd.C_drew ?_))); (case side2 => exact HC0.out); rintro e w5 ⟨rfl, hb⟩; refine ⟨_, rfl, ?_⟩; have n0_ := Aside0.mk (below_step (by repeat (first | (with_reducible first | exact HB.out | apply below_alloc | apply pw_below_drewN | apply below_drew1) | exact HB.out)) hb); clear HB; have HB := n0_; clear n0_; (try clear hb); (try clear hb2); (try clear hk); (try clear hi)))
      go_ret3
      exact ⟨by first | rfl | (simp [errW_none, errW_some] <;> rfl) | (simp [*, errW_none, errW_some] <;> rfl), by repeat (first | (with_reducible first | exact HB.out | apply below_alloc | apply pw_below_drewN | apply below_drew1) | exact HB.out)⟩
    · rw [if_neg c4] at H
      have c4b0 : ((l0.length : Int) == 0) = false := beq_eq_false_iff_ne.mpr c4
      have c4b1 : ((l0.length : Int) != 0) = true := bne_iff_ne.mpr c4
      have c4b2 : ¬ (l0 = []) := fun h_ => c4 (by rw [h_]; rfl)
      have H' := Aside0.mk H
      clear H
      go_enter Try.func29, Try.ntmps29
      go_wp2_with (first | ((with_reducible refine gate_callee (f := 15) rfl ?_); refine goesL_ (some 12) rfl rfl Try.func15 (by kernel_rfl) rfl #[.slice A0 l0.length c0] rfl (by (try simp only [List.map_toArray, List.map_cons, List.map_nil]); first | done | rfl | (simp only [List.length_drop, List.length_take]; rfl)) ?_; (with_reducible refine (impl_ValidTurns.calls k _ _ l0 true _ ?side1 ?side2 A2.out).mono ?_); (case side1 => repeat (first | exact HR0.out | (with_reducible refine Kd.C_alloc ?_ _) | (with_reducible refine Kd.C_drewN ?_ _) | (with_reducible refine Kd.C_drew ?_))); (case side2 => exact HC0.out); rintro e w6 ⟨rfl, hb⟩; refine ⟨_, rfl, ?_⟩; have n0_ := Aside0.mk (below_step (by repeat (first | (with_reducible first | exact HB.out | apply below_alloc | apply pw_below_drewN | apply below_drew1) | exact HB.out)) hb); clear HB; have HB := n0_; clear n0_; (try clear hb); (try clear hb2); (try clear hk); (try clear hi)))
      go_loopg [5, 6, 20] k (fun kq v5 v6 v20 w' => ∃ (x5_1 : Int) (x6_1 : Int) (x20_1 : Int), v5 = .int .i64 x5_1 ∧ v6 = .int .i64 x6_1 ∧ v20 = .int .i64 x20_1 ∧ Aside0 (impl_FullestTime.l0 kq l0 x5_1 x6_1 l0 (l0.length : Int) x20_1 = some (r1, r2, r3)) ∧ Aside0 (kq ≤ k) ∧ Aside0 (Below w.heap.size w w'))
      case atStart => exact ⟨(0), (0), (0), (by first | rfl | (simp; done) | (simp [*]; done)), (by first | rfl | (simp; done) | (simp [*]; done)), (by first | rfl | (simp; done) | (simp [*]; done)), H', ⟨Nat.le_refl _⟩, ⟨by repeat (first | (with_reducible first | exact HB.out | apply below_alloc | apply pw_below_drewN | apply below_drew1) | exact HB.out)⟩⟩
      case round =>
        clear H'
        try clear c1
        try clear c2
        try clear p2
        try clear c3
        try clear c4
        try clear c4b0
        try clear c4b1
        try clear c4b2
        obtain ⟨x5_1, x6_1, x20_1, rfl, rfl, rfl, HA, HK1, HB⟩ := hrel
        cases gk with
        | zero => exact absurd HA.out (by simp [impl_FullestTime.l0])
        | succ k1 =>
          have H := HA.out
          clear HA
          simp only [impl_FullestTime.l0] at H
          by_cases c7 : x20_1 < (l0.length : Int)
          · rw [if_pos c7] at H
            have c7b0 : decide (x20_1 < (l0.length : Int)) = true := decide_eq_true c7
            clear c7
            by_cases c8 : 0 ≤ x20_1
            · rw [if_pos c8] at H
              have c8b0 : decide (0 ≤ x20_1) = true := decide_eq_true c8
              clear c8
              by_cases c9 : x20_1 < (l0.length : Int)
              · rw [if_pos c9] at H
                have c9b0 : decide (x20_1 < (l0.length : Int)) = true := decide_eq_true c9
                clear c9
                replace H := Option.bind_eq_some_iff.mp H
                obtain ⟨t104, A100, H⟩ := H
                replace H : (if (t104.length : Int) > x6_1 then (impl_FullestTime.l0 k1 l0 ((rd_T62 l0 x20_1).f1) (t104.length : Int) l0 (l0.length : Int) (wrap64 (x20_1 + 1))) else (impl_FullestTime.l0 k1 l0 x5_1 x6_1 l0 (l0.length : Int) (wrap64 (x20_1 + 1)))) = some (r1, r2, r3) := H
                have A10 := Aside0.mk A100
                clear A100
                by_cases c11 : (t104.length : Int) > x6_1
                · rw [if_pos c11] at H
                  have c11b0 : decide (x6_1 < (t104.length : Int)) = true := decide_eq_true c11
                  clear c11
                  have H' := Aside0.mk H
                  clear H
                  have p102 : 0 ≤ (x20_1 : Int) := of_decide_eq_true (by first | (with_reducible assumption) | assumption)
                  have q102 : x20_1 < (l0.length : Int) := of_decide_eq_true (by first | (with_reducible assumption) | assumption)
                  obtain ⟨ad102, e102, hx102_0, hx102_1, hx102_2⟩ := at_T62 HR0.out x20_1 p102 q102
                  cases e102
                  replace hx102_0 := (HB.out.cell (World.block_lt_of_cell? w _ hx102_0)).trans hx102_0
                  replace hx102_1 := (HB.out.cell (World.block_lt_of_cell? w _ hx102_1)).trans hx102_1
                  replace hx102_2 := (HB.out.cell (World.block_lt_of_cell? w _ hx102_2)).trans hx102_2
                  replace p102 := eq_true p102
                  replace q102 := eq_true q102
                  go_wp2_with (first | ((with_reducible refine gate_dst (N := 8) rfl ?_); refine box_event ?hg (N := 8) ?hd (cs := #[.string (⟨#[]⟩ : ByteArray), .int .i64 0, .int .i64 0]) (t := 62) ?hr ?_; (case hd => rfl); (case hg => rfl); (case hr => first | (go_simp; done) | (go_simp; rfl)); intro gb103 hg w12 hbox hb; have n0_ := Aside0.mk (below_step (by repeat (first | (with_reducible first | exact HB.out | apply below_alloc | apply pw_below_drewN | apply below_drew1) | exact HB.out)) hb); have n1_ := Aside0.mk (hbox); have n2_ := Aside0.mk ((by rw [hg]; exact (below_size (by repeat (first | (with_reducible first | exact HB.out | apply below_alloc | apply pw_below_drewN | apply below_drew1) | exact HB.out))) : w.heap.size ≤ gb103)); have n3_ := Aside0.mk ((by rw [hg]; exact (below_size (by repeat (first | (with_reducible first | exact HB.out | apply below_alloc | apply pw_below_drewN | apply below_drew1) | exact HB.out))) : w.heap.size ≤ gb103)); clear HB; have HB := n0_; have BK103 := n1_; have GW103 := n2_; have GE103 := n3_; clear n0_ n1_ n2_ n3_; clear hb hbox hg; have hcz13_0 : w12.cell? ⟨gb103, 0, none⟩ = some (.string (⟨#[]⟩ : ByteArray)) := (blk_cell BK103.out 0).trans rfl; have hcz13_1 : w12.cell? ⟨gb103, 1, none⟩ = some (.int .i64 0) := (blk_cell BK103.out 1).trans rfl; have hcz13_2 : w12.cell? ⟨gb103, 2, none⟩ = some (.int .i64 0) := (blk_cell BK103.out 2).trans rfl; have hfz13_0 := blk_frozen BK103.out 0; have hfz13_1 := blk_frozen BK103.out 1; have hfz13_2 := blk_frozen BK103.out 2) | ((with_reducible refine gate_callee (f := 64) rfl ?_); refine goesL_ (some 27) rfl rfl Try.func64 (by kernel_rfl) rfl #[.slice (some ad102) l0.length c0, .int .i64 ((rd_T62 l0 x20_1).f1)] rfl (by (try simp only [List.map_toArray, List.map_cons, List.map_nil]); first | done | rfl | (simp only [List.length_drop, List.length_take]; rfl)) ?_; (with_reducible refine (impl_playersAt.calls k1 _ _ l0 ((rd_T62 l0 x20_1).f1) t104 _ ?side1 ?side2 A10.out).mono ?_); (case side1 => exact Kd.C_below HR0.out (by repeat (first | (with_reducible first | exact HB.out | apply below_alloc | apply pw_below_drewN | apply below_drew1 | refine below_set ?_ GE103.out) | exact HB.out))); (case side2 => exact HC0.out); rintro e w14 ⟨v105, rfl, ho0, hb⟩; refine ⟨_, rfl, ?_⟩; have n0_ := Aside0.mk (Kd.R_lower ho0 (below_size (by repeat (first | (with_reducible first | exact HB.out | apply below_alloc | apply pw_below_drewN | apply below_drew1 | refine below_set ?_ GE103.out) | exact HB.out)))); have n1_ := Aside0.mk (blk_below (g := gb103) (o := .cells #[.string ((rd_T62 l0 x20_1).f0), .int .i64 ((rd_T62 l0 x20_1).f1), .int .i64 ((rd_T62 l0 x20_1).f2)] 62 (0, 0)) (by (with_reducible repeat (first | refine blk_drewN ?_ _ | refine blk_drew ?_ | refine blk_alloc ?_ _)); refine blk_put (cs := #[.string ((rd_T62 l0 x20_1).f0), .int .i64 ((rd_T62 l0 x20_1).f1), .int .i64 0]) ?_ 2 _ rfl; (with_reducible repeat (first | refine blk_drewN ?_ _ | refine blk_drew ?_ | refine blk_alloc ?_ _)); refine blk_put (cs := #[.string ((rd_T62 l0 x20_1).f0), .int .i64 0, .int .i64 0]) ?_ 1 _ rfl; (with_reducible repeat (first | refine blk_drewN ?_ _ | refine blk_drew ?_ | refine blk_alloc ?_ _)); refine blk_put (cs := #[.string (⟨#[]⟩ : ByteArray), .int .i64 0, .int .i64 0]) ?_ 0 _ rfl; (with_reducible repeat (first | refine blk_drewN ?_ _ | refine blk_drew ?_ | refine blk_alloc ?_ _)); exact BK103.out) hb); have n2_ := Aside0.mk (below_step (by repeat (first | (with_reducible first | exact HB.out | apply below_alloc | apply pw_below_drewN | apply below_drew1 | refine below_set ?_ GE103.out) | exact HB.out)) hb); clear BK103; clear HB; have HO106 := n0_; have BK103 := n1_; have HB := n2_; clear n0_ n1_ n2_; (try clear hb); (try clear hb2); (try clear hk); (try clear hi); (try clear ho0); obtain ⟨Ao15, co15, eo15⟩ := Kd.R_slice HO106.out; subst eo15; have hcz16_0 : w14.cell? ⟨gb103, 0, none⟩ = some (.string ((rd_T62 l0 x20_1).f0)) := (blk_cell BK103.out 0).trans rfl; have hcz16_1 : w14.cell? ⟨gb103, 1, none⟩ = some (.int .i64 ((rd_T62 l0 x20_1).f1)) := (blk_cell BK103.out 1).trans rfl; have hcz16_2 : w14.cell? ⟨gb103, 2, none⟩ = some (.int .i64 ((rd_T62 l0 x20_1).f2)) := (blk_cell BK103.out 2).trans rfl; have hfz16_0 := blk_frozen BK103.out 0; have hfz16_1 := blk_frozen BK103.out 1; have hfz16_2 := blk_frozen BK103.out 2))
                  go_roundg k1
                  case measure => have := HK1.out; omega
                  case rel => exact ⟨((rd_T62 l0 x20_1).f1), ((t104.length : Int)), (wrap64 (x20_1 + 1)), (by first | rfl | (simp; done) | (simp [*]; done)), (by first | rfl | (simp; done) | (simp [*]; done)), (by first | rfl | (simp; done) | (simp [*]; done)), H', ⟨by have := HK1.out; omega⟩, ⟨by repeat (first | (with_reducible first | exact HB.out | apply below_alloc | apply pw_below_drewN | apply below_drew1 | refine below_set ?_ GE103.out) | exact HB.out)⟩⟩
                · rw [if_neg c11] at H
                  have c11b0 : decide (x6_1 < (t104.length : Int)) = false := decide_eq_false c11
                  clear c11
                  have H' := Aside0.mk H
                  clear H
                  have p102 : 0 ≤ (x20_1 : Int) := of_decide_eq_true (by first | (with_reducible assumption) | assumption)
                  have q102 : x20_1 < (l0.length : Int) := of_decide_eq_true (by first | (with_reducible assumption) | assumption)
                  obtain ⟨ad102, e102, hx102_0, hx102_1, hx102_2⟩ := at_T62 HR0.out x20_1 p102 q102
                  cases e102
                  replace hx102_0 := (HB.out.cell (World.block_lt_of_cell? w _ hx102_0)).trans hx102_0
                  replace hx102_1 := (HB.out.cell (World.block_lt_of_cell? w _ hx102_1)).trans hx102_1
                  replace hx102_2 := (HB.out.cell (World.block_lt_of_cell? w _ hx102_2)).trans hx102_2
                  replace p102 := eq_true p102
                  replace q102 := eq_true q102
                  go_wp2_with (first | ((with_reducible refine gate_dst (N := 8) rfl ?_); refine box_event ?hg (N := 8) ?hd (cs := #[.string (⟨#[]⟩ : ByteArray), .int .i64 0, .int .i64 0]) (t := 62) ?hr ?_; (case hd => rfl); (case hg => rfl); (case hr => first | (go_simp; done) | (go_simp; rfl)); intro gb103 hg w17 hbox hb; have n0_ := Aside0.mk (below_step (by repeat (first | (with_reducible first | exact HB.out | apply below_alloc | apply pw_below_drewN | apply below_drew1) | exact HB.out)) hb); have n1_ := Aside0.mk (hbox); have n2_ := Aside0.mk ((by rw [hg]; exact (below_size (by repeat (first | (with_reducible first | exact HB.out | apply below_alloc | apply pw_below_drewN | apply below_drew1) | exact HB.out))) : w.heap.size ≤ gb103)); have n3_ := Aside0.mk ((by rw [hg]; exact (below_size (by repeat (first | (with_reducible first | exact HB.out | apply below_alloc | apply pw_below_drewN | apply below_drew1) | exact HB.out))) : w.heap.size ≤ gb103)); clear HB; have HB := n0_; have BK103 := n1_; have GW103 := n2_; have GE103 := n3_; clear n0_ n1_ n2_ n3_; clear hb hbox hg; have hcz18_0 : w17.cell? ⟨gb103, 0, none⟩ = some (.string (⟨#[]⟩ : ByteArray)) := (blk_cell BK103.out 0).trans rfl; have hcz18_1 : w17.cell? ⟨gb103, 1, none⟩ = some (.int .i64 0) := (blk_cell BK103.out 1).trans rfl; have hcz18_2 : w17.cell? ⟨gb103, 2, none⟩ = some (.int .i64 0) := (blk_cell BK103.out 2).trans rfl; have hfz18_0 := blk_frozen BK103.out 0; have hfz18_1 := blk_frozen BK103.out 1; have hfz18_2 := blk_frozen BK103.out 2) | ((with_reducible refine gate_callee (f := 64) rfl ?_); refine goesL_ (some 27) rfl rfl Try.func64 (by kernel_rfl) rfl #[.slice (some ad102) l0.length c0, .int .i64 ((rd_T62 l0 x20_1).f1)] rfl (by (try simp only [List.map_toArray, List.map_cons, List.map_nil]); first | done | rfl | (simp only [List.length_drop, List.length_take]; rfl)) ?_; (with_reducible refine (impl_playersAt.calls k1 _ _ l0 ((rd_T62 l0 x20_1).f1) t104 _ ?side1 ?side2 A10.out).mono ?_); (case side1 => exact Kd.C_below HR0.out (by repeat (first | (with_reducible first | exact HB.out | apply below_alloc | apply pw_below_drewN | apply below_drew1 | refine below_set ?_ GE103.out) | exact HB.out))); (case side2 => exact HC0.out); rintro e w19 ⟨v105, rfl, ho0, hb⟩; refine ⟨_, rfl, ?_⟩; have n0_ := Aside0.mk (Kd.R_lower ho0 (below_size (by repeat (first | (with_reducible first | exact HB.out | apply below_alloc | apply pw_below_drewN | apply below_drew1 | refine below_set ?_ GE103.out) | exact HB.out)))); have n1_ := Aside0.mk (blk_below (g := gb103) (o := .cells #[.string ((rd_T62 l0 x20_1).f0), .int .i64 ((rd_T62 l0 x20_1).f1), .int .i64 ((rd_T62 l0 x20_1).f2)] 62 (0, 0)) (by (with_reducible repeat (first | refine blk_drewN ?_ _ | refine blk_drew ?_ | refine blk_alloc ?_ _)); refine blk_put (cs := #[.string ((rd_T62 l0 x20_1).f0), .int .i64 ((rd_T62 l0 x20_1).f1), .int .i64 0]) ?_ 2 _ rfl; (with_reducible repeat (first | refine blk_drewN ?_ _ | refine blk_drew ?_ | refine blk_alloc ?_ _)); refine blk_put (cs := #[.string ((rd_T62 l0 x20_1).f0), .int .i64 0, .int .i64 0]) ?_ 1 _ rfl; (with_reducible repeat (first | refine blk_drewN ?_ _ | refine blk_drew ?_ | refine blk_alloc ?_ _)); refine blk_put (cs := #[.string (⟨#[]⟩ : ByteArray), .int .i64 0, .int .i64 0]) ?_ 0 _ rfl; (with_reducible repeat (first | refine blk_drewN ?_ _ | refine blk_drew ?_ | refine blk_alloc ?_ _)); exact BK103.out) hb); have n2_ := Aside0.mk (below_step (by repeat (first | (with_reducible first | exact HB.out | apply below_alloc | apply pw_below_drewN | apply below_drew1 | refine below_set ?_ GE103.out) | exact HB.out)) hb); clear BK103; clear HB; have HO106 := n0_; have BK103 := n1_; have HB := n2_; clear n0_ n1_ n2_; (try clear hb); (try clear hb2); (try clear hk); (try clear hi); (try clear ho0); obtain ⟨Ao20, co20, eo20⟩ := Kd.R_slice HO106.out; subst eo20))
                  go_roundg k1
                  case measure => have := HK1.out; omega
                  case rel => exact ⟨(x5_1), (x6_1), (wrap64 (x20_1 + 1)), (by first | rfl | (simp; done) | (simp [*]; done)), (by first | rfl | (simp; done) | (simp [*]; done)), (by first | rfl | (simp; done) | (simp [*]; done)), H', ⟨by have := HK1.out; omega⟩, ⟨by repeat (first | (with_reducible first | exact HB.out | apply below_alloc | apply pw_below_drewN | apply below_drew1 | refine below_set ?_ GE103.out) | exact HB.out)⟩⟩
              · rw [if_neg c9] at H
                exact absurd H (by simp)
            · rw [if_neg c8] at H
              exact absurd H (by simp)
          · rw [if_neg c7] at H
            have c7b0 : decide (x20_1 < (l0.length : Int)) = false := decide_eq_false c7
            clear c7
            simp only [Option.some.injEq, Prod.mk.injEq] at H
            obtain ⟨rfl, rfl, rfl⟩ := H
            go_wp2
            go_ret3
            exact ⟨by first | rfl | (simp [errW_none, errW_some] <;> rfl) | (simp [*, errW_none, errW_some] <;> rfl), by repeat (first | (with_reducible first | exact HB.out | apply below_alloc | apply pw_below_drewN | apply below_drew1) | exact HB.out)⟩
  · replace c3 := Bool.eq_false_iff.mpr c3
    subst c3
    have H1 : (some (0, 0, 1)) = some (r1, r2, r3) := by rw [if_neg (show ¬ (false = true) by decide)] at H; exact H
    clear H
    have H := H1
    clear H1
    simp only [Option.some.injEq, Prod.mk.injEq] at H
    obtain ⟨rfl, rfl, rfl⟩ := H
    go_enter Try.func29, Try.ntmps29
    go_wp2_with (first | ((with_reducible refine gate_callee (f := 15) rfl ?_); refine goesL_ (some 12) rfl rfl Try.func15 (by kernel_rfl) rfl #[.slice A0 l0.length c0] rfl (by (try simp only [List.map_toArray, List.map_cons, List.map_nil]); first | done | rfl | (simp only [List.length_drop, List.length_take]; rfl)) ?_; (with_reducible refine (impl_ValidTurns.calls k _ _ l0 false _ ?side1 ?side2 A2.out).mono ?_); (case side1 => repeat (first | exact HR0.out | (with_reducible refine Kd.C_alloc ?_ _) | (with_reducible refine Kd.C_drewN ?_ _) | (with_reducible refine Kd.C_drew ?_))); (case side2 => exact HC0.out); rintro e w21 ⟨rfl, hb⟩; refine ⟨_, rfl, ?_⟩; have n0_ := Aside0.mk (below_step (by repeat (first | (with_reducible first | exact HB.out | apply below_alloc | apply pw_below_drewN | apply below_drew1) | exact HB.out)) hb); clear HB; have HB := n0_; clear n0_; (try clear hb); (try clear hb2); (try clear hk); (try clear hi)))
    go_ret3
    exact ⟨by first | rfl | (simp [errW_none, errW_some] <;> rfl) | (simp [*, errW_none, errW_some] <;> rfl), by repeat (first | (with_reducible first | exact HB.out | apply below_alloc | apply pw_below_drewN | apply below_drew1) | exact HB.out)⟩

end Go.Proofs.Ytjlfolmjkppneaa.P

namespace Go.Proofs.Ytjlfolmjkppneaa.P
open Go.RowKit Go.Proofs.YtjlfolmjkppneaaW.PrintWords Go.Proofs.YtjlfolmjkppneaaW.PrintLast Go.Proofs.YtjlfolmjkppneaaW.PrintMore
attribute [local go_sem] max2_int min2_int max_two min_two max_three min_three max_four min_four str_leq str_gtr str_geq
set_option linter.unusedVariables false
set_option linter.unusedSimpArgs false

def laws_FnExactFullestTime.j0 : Nat → List (S61) → List (S62) → Bool → Option (Bool)
  | 0, _, _, _ => none
  | k + 1, x0, x7, x43 => if x43 = true then (some false) else ((laws_toTurnS.f k x0).bind fun t114 => ((laws_eqTurnS.f k x7 t114).bind fun t117 => (if t117 = true then (some true) else (some false))))
def laws_FnExactFullestTime.f (k : Nat) (l0 : List (S61)) : Option (Bool) := (laws_szTurnS.f k l0 1048576).bind fun t101 => (if t101 < 0 then (some true) else ((laws_toTurnS.f k l0).bind fun t102 => ((spec_FullestTime.f k t102).bind fun bt105 => ((laws_toTurnS.f k l0).bind fun t108 => ((impl_FullestTime.f k t108).bind fun bt111 => (if bt111.1 = bt105.1 then (if bt111.2.1 = bt105.2.1 then (laws_FnExactFullestTime.j0 k l0 t108 (bt111.2.2 != bt105.2.2)) else (laws_FnExactFullestTime.j0 k l0 t108 true)) else (laws_FnExactFullestTime.j0 k l0 t108 true)))))))
set_option maxHeartbeats 8000000 in
set_option maxRecDepth 100000 in
theorem laws_FnExactFullestTime.calls (k : Nat) (A0 : Option Addr) (c0 : Nat) (l0 : List (S61)) (r : Bool) (w : World) (hr0 : Kd.C k61 w A0 l0.length l0) (hc0 : l0.length ≤ c0) (h : laws_FnExactFullestTime.f k l0 = some r) :
    Calls Try.prog 7 #[.slice A0 l0.length c0] w fun e w' => e = .returned (.bool r) ∧ Below w.heap.size w w' := by
  have HR0 := Aside0.mk hr0
  have HC0 := Aside0.mk hc0
  clear hr0 hc0
  have HB := Aside0.mk (Below.refl w.heap.size w)
  have H : ((laws_szTurnS.f k l0 1048576).bind fun t101 => (if t101 < 0 then (some true) else ((laws_toTurnS.f k l0).bind fun t102 => ((spec_FullestTime.f k t102).bind fun bt105 => ((laws_toTurnS.f k l0).bind fun t108 => ((impl_FullestTime.f k t108).bind fun bt111 => (if bt111.1 = bt105.1 then (if bt111.2.1 = bt105.2.1 then (laws_FnExactFullestTime.j0 k l0 t108 (bt111.2.2 != bt105.2.2)) else (laws_FnExactFullestTime.j0 k l0 t108 true)) else (laws_FnExactFullestTime.j0 k l0 t108 true)))))))) = some r := h
  clear h
  replace H := Option.bind_eq_some_iff.mp H
  obtain ⟨t101, A20, H⟩ := H
  replace H : (if t101 < 0 then (some true) else ((laws_toTurnS.f k l0).bind fun t102 => ((spec_FullestTime.f k t102).bind fun bt105 => ((laws_toTurnS.f k l0).bind fun t108 => ((impl_FullestTime.f k t108).bind fun bt111 => (if bt111.1 = bt105.1 then (if bt111.2.1 = bt105.2.1 then (laws_FnExactFullestTime.j0 k l0 t108 (bt111.2.2 != bt105.2.2)) else (laws_FnExactFullestTime.j0 k l0 t108 true)) else (laws_FnExactFullestTime.j0 k l0 t108 true))))))) = some r := H
  have A2 := Aside0.mk A20
  clear A20
  by_cases c3 : t101 < 0
  · rw [if_pos c3] at H
    have c3b0 : decide (t101 < 0) = true := decide_eq_true c3
    clear c3
    obtain rfl := Option.some.inj H
    go_enter Try.func7, Try.ntmps7
    go_wp2_with (first | ((with_reducible refine gate_callee (f := 12) rfl ?_); refine goesL_ (some 13) rfl rfl Try.func12 (by kernel_rfl) rfl #[.slice A0 l0.length c0, .int .i64 1048576] rfl (by (try simp only [List.map_toArray, List.map_cons, List.map_nil]); first | done | rfl | (simp only [List.length_drop, List.length_take]; rfl)) ?_; (with_reducible refine (laws_szTurnS.calls k _ _ l0 1048576 t101 _ ?side1 ?side2 A2.out).mono ?_); (case side1 => repeat (first | exact HR0.out | (with_reducible refine Kd.C_alloc ?_ _) | (with_reducible refine Kd.C_drewN ?_ _) | (with_reducible refine Kd.C_drew ?_))); (case side2 => exact HC0.out); rintro e w4 ⟨rfl, hb⟩; refine ⟨_, rfl, ?_⟩; have n0_ := Aside0.mk (below_step (by repeat (first | (with_reducible first | exact HB.out | apply below_alloc | apply pw_below_drewN | apply below_drew1) | exact HB.out)) hb); clear HB; have HB := n0_; clear n0_; (try clear hb); (try clear hb2); (try clear hk); (try clear hi)))
    go_ret
    exact ⟨by first | rfl | (simp [errW_none, errW_some] <;> rfl) | (simp [*, errW_none, errW_some] <;> rfl), by repeat (first | (with_reducible first | exact HB.out | apply below_alloc | apply pw_below_drewN | apply below_drew1) | exact HB.out)⟩
  · rw [if_neg c3] at H
    have c3b0 : decide (t101 < 0) = false := decide_eq_false c3
    clear c3
    replace H := Option.bind_eq_some_iff.mp H
    obtain ⟨t102, A50, H⟩ := H
    replace H : ((spec_FullestTime.f k t102).bind fun bt105 => ((laws_toTurnS.f k l0).bind fun t108 => ((impl_FullestTime.f k t108).bind fun bt111 => (if bt111.1 = bt105.1 then (if bt111.2.1 = bt105.2.1 then (laws_FnExactFullestTime.j0 k l0 t108 (bt111.2.2 != bt105.2.2)) else (laws_FnExactFullestTime.j0 k l0 t108 true)) else (laws_FnExactFullestTime.j0 k l0 t108 true))))) = some r := H
    have A5 := Aside0.mk A50
    clear A50
    replace H := Option.bind_eq_some_iff.mp H
    obtain ⟨⟨t105, t106, t107⟩, A60, H⟩ := H
    replace H : ((laws_toTurnS.f k l0).bind fun t108 => ((impl_FullestTime.f k t108).bind fun bt111 => (if bt111.1 = t105 then (if bt111.2.1 = t106 then (laws_FnExactFullestTime.j0 k l0 t108 (bt111.2.2 != t107)) else (laws_FnExactFullestTime.j0 k l0 t108 true)) else (laws_FnExactFullestTime.j0 k l0 t108 true)))) = some r := H
    have A6 := Aside0.mk A60
    clear A60
    replace H := Option.bind_eq_some_iff.mp H
    obtain ⟨t108, A70, H⟩ := H
    replace H : ((impl_FullestTime.f k t108).bind fun bt111 => (if bt111.1 = t105 then (if bt111.2.1 = t106 then (laws_FnExactFullestTime.j0 k l0 t108 (bt111.2.2 != t107)) else (laws_FnExactFullestTime.j0 k l0 t108 true)) else (laws_FnExactFullestTime.j0 k l0 t108 true))) = some r := H
    have A7 := Aside0.mk A70
    clear A70
    replace H := Option.bind_eq_some_iff.mp H
    obtain ⟨⟨t111, t112, t113⟩, A80, H⟩ := H
    replace H : (if t111 = t105 then (if t112 = t106 then (laws_FnExactFullestTime.j0 k l0 t108 (t113 != t107)) else (laws_FnExactFullestTime.j0 k l0 t108 true)) else (laws_FnExactFullestTime.j0 k l0 t108 true)) = some r := H
    have A8 := Aside0.mk A80
    clear A80
    have HC9 := Aside0.mk H
    clear H
    go_enter Try.func7, Try.ntmps7
    go_upto_region 8 with (first | ((with_reducible refine gate_callee (f := 12) rfl ?_); refine goesL_ (some 13) rfl rfl Try.func12 (by kernel_rfl) rfl #[.slice A0 l0.length c0, .int .i64 1048576] rfl (by (try simp only [List.map_toArray, List.map_cons, List.map_nil]); first | done | rfl | (simp only [List.length_drop, List.length_take]; rfl)) ?_; (with_reducible refine (laws_szTurnS.calls k _ _ l0 1048576 t101 _ ?side1 ?side2 A2.out).mono ?_); (case side1 => repeat (first | exact HR0.out | (with_reducible refine Kd.C_alloc ?_ _) | (with_reducible refine Kd.C_drewN ?_ _) | (with_reducible refine Kd.C_drew ?_))); (case side2 => exact HC0.out); rintro e w10 ⟨rfl, hb⟩; refine ⟨_, rfl, ?_⟩; have n0_ := Aside0.mk (below_step (by repeat (first | (with_reducible first | exact HB.out | apply below_alloc | apply pw_below_drewN | apply below_drew1) | exact HB.out)) hb); clear HB; have HB := n0_; clear n0_; (try clear hb); (try clear hb2); (try clear hk); (try clear hi)) | ((with_reducible refine gate_callee (f := 14) rfl ?_); refine goesL_ (some 18) rfl rfl Try.func14 (by kernel_rfl) rfl #[.slice A0 l0.length c0] rfl (by (try simp only [List.map_toArray, List.map_cons, List.map_nil]); first | done | rfl | (simp only [List.length_drop, List.length_take]; rfl)) ?_; (with_reducible refine (laws_toTurnS.calls k _ _ l0 t102 _ ?side1 ?side2 A5.out).mono ?_); (case side1 => repeat (first | exact (Kd.C_below HR0.out HB.out) | (with_reducible refine Kd.C_alloc ?_ _) | (with_reducible refine Kd.C_drewN ?_ _) | (with_reducible refine Kd.C_drew ?_))); (case side2 => exact HC0.out); rintro e w11 ⟨v103, rfl, ho0, hb⟩; refine ⟨_, rfl, ?_⟩; have n0_ := Aside0.mk (Kd.R_lower ho0 (below_size (by repeat (first | (with_reducible first | exact HB.out | apply below_alloc | apply pw_below_drewN | apply below_drew1) | exact HB.out)))); have n1_ := Aside0.mk (below_step (by repeat (first | (with_reducible first | exact HB.out | apply below_alloc | apply pw_below_drewN | apply below_drew1) | exact HB.out)) hb); clear HB; have HO104 := n0_; have HB := n1_; clear n0_ n1_; (try clear hb); (try clear hb2); (try clear hk); (try clear hi); (try clear ho0); obtain ⟨Ao12, co12, eo12⟩ := Kd.R_slice HO104.out; subst eo12) | ((with_reducible refine gate_callee (f := 28) rfl ?_); refine goesL_ (some 19) rfl rfl Try.func28 (by kernel_rfl) rfl #[.slice Ao12 t102.length co12] rfl (by (try simp only [List.map_toArray, List.map_cons, List.map_nil]); first | done | rfl | (simp only [List.length_drop, List.length_take]; rfl)) ?_; (with_reducible refine (spec_FullestTime.calls k _ _ t102 t105 t106 t107 _ ?side1 ?side2 A6.out).mono ?_); (case side1 => repeat (first | exact (Kd.R_reads' HO104.out).2.2 | (with_reducible refine Kd.C_alloc ?_ _) | (with_reducible refine Kd.C_drewN ?_ _) | (with_reducible refine Kd.C_drew ?_))); (case side2 => exact (Kd.R_reads' HO104.out).2.1); rintro e w13 ⟨rfl, hb⟩; refine ⟨_, rfl, ?_⟩; have n0_ := Aside0.mk (Kd.R_below (by (with_reducible repeat (first | apply Kd.R_alloc | apply Kd.R_drewN | apply Kd.R_drew)); exact HO104.out) hb); have n1_ := Aside0.mk (below_step (by repeat (first | (with_reducible first | exact HB.out | apply below_alloc | apply pw_below_drewN | apply below_drew1) | exact HB.out)) hb); clear HO104; clear HB; have HO104 := n0_; have HB := n1_; clear n0_ n1_; (try clear hb); (try clear hb2); (try clear hk); (try clear hi)) | ((with_reducible refine gate_callee (f := 14) rfl ?_); refine goesL_ (some 24) rfl rfl Try.func14 (by kernel_rfl) rfl #[.slice A0 l0.length c0] rfl (by (try simp only [List.map_toArray, List.map_cons, List.map_nil]); first | done | rfl | (simp only [List.length_drop, List.length_take]; rfl)) ?_; (with_reducible refine (laws_toTurnS.calls k _ _ l0 t108 _ ?side1 ?side2 A7.out).mono ?_); (case side1 => repeat (first | exact (Kd.C_below HR0.out HB.out) | (with_reducible refine Kd.C_alloc ?_ _) | (with_reducible refine Kd.C_drewN ?_ _) | (with_reducible refine Kd.C_drew ?_))); (case side2 => exact HC0.out); rintro e w14 ⟨v109, rfl, ho0, hb⟩; refine ⟨_, rfl, ?_⟩; have n0_ := Aside0.mk (Kd.R_elder' (by (with_reducible repeat (first | apply Kd.R_alloc | apply Kd.R_drewN | apply Kd.R_drew)); exact HO104.out) (Kd.R_base ho0) hb); have n1_ := Aside0.mk (Kd.R_lower (Kd.R_new' ho0 (Kd.R_lt (by (with_reducible repeat (first | apply Kd.R_alloc | apply Kd.R_drewN | apply Kd.R_drew)); exact HO104.out))) (below_size (by repeat (first | (with_reducible first | exact HB.out | apply below_alloc | apply pw_below_drewN | apply below_drew1) | exact HB.out)))); have n2_ := Aside0.mk (below_step (by repeat (first | (with_reducible first | exact HB.out | apply below_alloc | apply pw_below_drewN | apply below_drew1) | exact HB.out)) hb); clear HO104; clear HB; have HO104 := n0_; have HO110 := n1_; have HB := n2_; clear n0_ n1_ n2_; (try clear hb); (try clear hb2); (try clear hk); (try clear hi); (try clear ho0); obtain ⟨Ao15, co15, eo15⟩ := Kd.R_slice HO110.out; subst eo15) | ((with_reducible refine gate_callee (f := 29) rfl ?_); refine goesL_ (some 27) rfl rfl Try.func29 (by kernel_rfl) rfl #[.slice Ao15 t108.length co15] rfl (by (try simp only [List.map_toArray, List.map_cons, List.map_nil]); first | done | rfl | (simp only [List.length_drop, List.length_take]; rfl)) ?_; (with_reducible refine (impl_FullestTime.calls k _ _ t108 t111 t112 t113 _ ?side1 ?side2 A8.out).mono ?_); (case side1 => repeat (first | exact (Kd.R_reads' HO110.out).2.2 | (with_reducible refine Kd.C_alloc ?_ _) | (with_reducible refine Kd.C_drewN ?_ _) | (with_reducible refine Kd.C_drew ?_))); (case side2 => exact (Kd.R_reads' HO110.out).2.1); rintro e w16 ⟨rfl, hb⟩; refine ⟨_, rfl, ?_⟩; have n0_ := Aside0.mk (Kd.R_below (by (with_reducible repeat (first | apply Kd.R_alloc | apply Kd.R_drewN | apply Kd.R_drew)); exact HO104.out) hb); have n1_ := Aside0.mk (Kd.R_below (by (with_reducible repeat (first | apply Kd.R_alloc | apply Kd.R_drewN | apply Kd.R_drew)); exact HO110.out) hb); have n2_ := Aside0.mk (below_step (by repeat (first | (with_reducible first | exact HB.out | apply below_alloc | apply pw_below_drewN | apply below_drew1) | exact HB.out)) hb); clear HO104; clear HO110; clear HB; have HO104 := n0_; have HO110 := n1_; have HB := n2_; clear n0_ n1_ n2_; (try clear hb); (try clear hb2); (try clear hk); (try clear hi)))
    (try simp only [Act.put, List.setIfInBounds_toArray, List.set_cons_zero, List.set_cons_succ])
    go_cut [43] (fun v43 wc => ∃ (kq : Nat) (x43_8 : Bool), v43 = .bool x43_8 ∧ Aside0 (laws_FnExactFullestTime.j0 kq l0 t108 x43_8 = some r) ∧ Aside0 (kq ≤ k) ∧ Aside0 (Kd.R k62 62 wc w.heap.size (fun _ => True) (.slice Ao15 t108.length co15) t108) ∧ Aside0 (Below w.heap.size w wc))
    case first =>
      have H := HC9.out
      clear HC9
      by_cases c17 : t111 = t105
      · rw [if_pos c17] at H
        have c17b0 : (t111 == t105) = true := beq_iff_eq.mpr c17
        have c17b1 : (t111 != t105) = false := bne_eq_false_iff_eq.mpr c17
        clear c17
        (first | rw [c17b0] | (simp only [i64_w, i32_w]; rw [c17b0]) | skip)
        by_cases c18 : t112 = t106
        · rw [if_pos c18] at H
          have c18b0 : (t112 == t106) = true := beq_iff_eq.mpr c18
          have c18b1 : (t112 != t106) = false := bne_eq_false_iff_eq.mpr c18
          clear c18
          have H' := Aside0.mk H
          clear H
          go_wp2
          go_meet
          case rel => exact ⟨_, ((t113 != t107)), (by first | rfl | (simp; done) | (simp [*]; done)), H', ⟨by first | omega | exact Nat.le_refl _⟩, ⟨by (with_reducible repeat (first | apply Kd.R_alloc | apply Kd.R_drewN | apply Kd.R_drew)); exact Kd.R_mono HO110.out (fun _ hk => trivial)⟩, ⟨by repeat (first | (with_reducible first | exact HB.out | apply below_alloc | apply pw_below_drewN | apply below_drew1) | exact HB.out)⟩⟩
        · rw [if_neg c18] at H
          have c18b0 : (t112 == t106) = false := beq_eq_false_iff_ne.mpr c18
          have c18b1 : (t112 != t106) = true := bne_iff_ne.mpr c18
          have H' := Aside0.mk H
          clear H
          go_wp2
          go_meet
          case rel => exact ⟨_, (true), (by first | rfl | (simp; done) | (simp [*]; done)), H', ⟨by first | omega | exact Nat.le_refl _⟩, ⟨by (with_reducible repeat (first | apply Kd.R_alloc | apply Kd.R_drewN | apply Kd.R_drew)); exact Kd.R_mono HO110.out (fun _ hk => trivial)⟩, ⟨by repeat (first | (with_reducible first | exact HB.out | apply below_alloc | apply pw_below_drewN | apply below_drew1) | exact HB.out)⟩⟩
      · rw [if_neg c17] at H
        have c17b0 : (t111 == t105) = false := beq_eq_false_iff_ne.mpr c17
        have c17b1 : (t111 != t105) = true := bne_iff_ne.mpr c17
        (first | rw [c17b0] | (simp only [i64_w, i32_w]; rw [c17b0]) | skip)
        have H' := Aside0.mk H
        clear H
        go_wp2
        go_meet
        case rel => exact ⟨_, (true), (by first | rfl | (simp; done) | (simp [*]; done)), H', ⟨by first | omega | exact Nat.le_refl _⟩, ⟨by (with_reducible repeat (first | apply Kd.R_alloc | apply Kd.R_drewN | apply Kd.R_drew)); exact Kd.R_mono HO110.out (fun _ hk => trivial)⟩, ⟨by repeat (first | (with_reducible first | exact HB.out | apply below_alloc | apply pw_below_drewN | apply below_drew1) | exact HB.out)⟩⟩
    case rest =>
      clear HC9
      try clear c1
      try clear c2
      try clear p2
      try clear c3
      try clear c3b0
      try clear c7
      try clear c12
      try clear c14
      try clear c17
      try clear c17b0
      try clear c17b1
      try clear c18
      try clear c18b0
      try clear c18b1
      obtain ⟨kq, x43_8, rfl, HA, HJ8, HO_7, HB⟩ := hcut
      cases kq with
      | zero => exact absurd HA.out (by simp [laws_FnExactFullestTime.j0])
      | succ kj8 =>
        have H := HA.out
        clear HA
        simp only [laws_FnExactFullestTime.j0] at H
        by_cases c19 : x43_8 = true
        · subst c19
          have H1 : (some false) = some r := by rw [if_pos rfl] at H; exact H
          clear H
          have H := H1
          clear H1
          obtain rfl := Option.some.inj H
          go_wp2
          go_ret
          exact ⟨by first | rfl | (simp [errW_none, errW_some] <;> rfl) | (simp [*, errW_none, errW_some] <;> rfl), by repeat (first | (with_reducible first | exact HB.out | apply below_alloc | apply pw_below_drewN | apply below_drew1) | exact HB.out)⟩
        · replace c19 := Bool.eq_false_iff.mpr c19
          subst c19
          have H1 : ((laws_toTurnS.f kj8 l0).bind fun t114 => ((laws_eqTurnS.f kj8 t108 t114).bind fun t117 => (if t117 = true then (some true) else (some false)))) = some r := by rw [if_neg (show ¬ (false = true) by decide)] at H; exact H
          clear H
          have H := H1
          clear H1
          replace H := Option.bind_eq_some_iff.mp H
          obtain ⟨t114, A200, H⟩ := H
          replace H : ((laws_eqTurnS.f kj8 t108 t114).bind fun t117 => (if t117 = true then (some true) else (some false))) = some r := H
          have A20 := Aside0.mk A200
          clear A200
          replace H := Option.bind_eq_some_iff.mp H
          obtain ⟨t117, A210, H⟩ := H
          replace H : (if t117 = true then (some true) else (some false)) = some r := H
          have A21 := Aside0.mk A210
          clear A210
          by_cases c22 : t117 = true
          · subst c22
            have H1 : (some true) = some r := by rw [if_pos rfl] at H; exact H
            clear H
            have H := H1
            clear H1
            obtain rfl := Option.some.inj H
            go_wp2_with (first | ((with_reducible refine gate_callee (f := 14) rfl ?_); refine goesL_ (some 46) rfl rfl Try.func14 (by kernel_rfl) rfl #[.slice A0 l0.length c0] rfl (by (try simp only [List.map_toArray, List.map_cons, List.map_nil]); first | done | rfl | (simp only [List.length_drop, List.length_take]; rfl)) ?_; (with_reducible refine (laws_toTurnS.calls kj8 _ _ l0 t114 _ ?side1 ?side2 A20.out).mono ?_); (case side1 => repeat (first | exact (Kd.C_below HR0.out HB.out) | (with_reducible refine Kd.C_alloc ?_ _) | (with_reducible refine Kd.C_drewN ?_ _) | (with_reducible refine Kd.C_drew ?_))); (case side2 => exact HC0.out); rintro e w23 ⟨v115, rfl, ho0, hb⟩; refine ⟨_, rfl, ?_⟩; have n0_ := Aside0.mk (Kd.R_elder' (by (with_reducible repeat (first | apply Kd.R_alloc | apply Kd.R_drewN | apply Kd.R_drew)); exact HO_7.out) (Kd.R_base ho0) hb); have n1_ := Aside0.mk (Kd.R_lower (Kd.R_new' ho0 (Kd.R_lt (by (with_reducible repeat (first | apply Kd.R_alloc | apply Kd.R_drewN | apply Kd.R_drew)); exact HO_7.out))) (below_size (by repeat (first | (with_reducible first | exact HB.out | apply below_alloc | apply pw_below_drewN | apply below_drew1) | exact HB.out)))); have n2_ := Aside0.mk (below_step (by repeat (first | (with_reducible first | exact HB.out | apply below_alloc | apply pw_below_drewN | apply below_drew1) | exact HB.out)) hb); clear HO_7; clear HB; have HO_7 := n0_; have HO116 := n1_; have HB := n2_; clear n0_ n1_ n2_; (try clear hb); (try clear hb2); (try clear hk); (try clear hi); (try clear ho0); obtain ⟨Ao24, co24, eo24⟩ := Kd.R_slice HO116.out; subst eo24) | ((with_reducible refine gate_callee (f := 16) rfl ?_); refine goesL_ (some 47) rfl rfl Try.func16 (by kernel_rfl) rfl #[.slice Ao15 t108.length co15, .slice Ao24 t114.length co24] rfl (by (try simp only [List.map_toArray, List.map_cons, List.map_nil]); first | done | rfl | (simp only [List.length_drop, List.length_take]; rfl)) ?_; (with_reducible refine (laws_eqTurnS.calls kj8 _ _ t108 _ _ t114 true _ ?side1 ?side2 ?side3 ?side4 A21.out).mono ?_); (case side1 => repeat (first | exact (Kd.R_reads' HO_7.out).2.2 | (with_reducible refine Kd.C_alloc ?_ _) | (with_reducible refine Kd.C_drewN ?_ _) | (with_reducible refine Kd.C_drew ?_))); (case side2 => exact (Kd.R_reads' HO_7.out).2.1); (case side3 => repeat (first | exact (Kd.R_reads' HO116.out).2.2 | (with_reducible refine Kd.C_alloc ?_ _) | (with_reducible refine Kd.C_drewN ?_ _) | (with_reducible refine Kd.C_drew ?_))); (case side4 => exact (Kd.R_reads' HO116.out).2.1); rintro e w25 ⟨rfl, hb⟩; refine ⟨_, rfl, ?_⟩; have n0_ := Aside0.mk (Kd.R_below (by (with_reducible repeat (first | apply Kd.R_alloc | apply Kd.R_drewN | apply Kd.R_drew)); exact HO_7.out) hb); have n1_ := Aside0.mk (Kd.R_below (by (with_reducible repeat (first | apply Kd.R_alloc | apply Kd.R_drewN | apply Kd.R_drew)); exact HO116.out) hb); have n2_ := Aside0.mk (below_step (by repeat (first | (with_reducible first | exact HB.out | apply below_alloc | apply pw_below_drewN | apply below_drew1) | exact HB.out)) hb); clear HO_7; clear HO116; clear HB; have HO_7 := n0_; have HO116 := n1_; have HB := n2_; clear n0_ n1_ n2_; (try clear hb); (try clear hb2); (try clear hk); (try clear hi)))
            go_ret
            exact ⟨by first | rfl | (simp [errW_none, errW_some] <;> rfl) | (simp [*, errW_none, errW_some] <;> rfl), by repeat (first | (with_reducible first | exact HB.out | apply below_alloc | apply pw_below_drewN | apply below_drew1) | exact HB.out)⟩
          · replace c22 := Bool.eq_false_iff.mpr c22
            subst c22
            have H1 : (some false) = some r := by rw [if_neg (show ¬ (false = true) by decide)] at H; exact H
            clear H
            have H := H1
            clear H1
            obtain rfl := Option.some.inj H
            go_wp2_with (first | ((with_reducible refine gate_callee (f := 14) rfl ?_); refine goesL_ (some 46) rfl rfl Try.func14 (by kernel_rfl) rfl #[.slice A0 l0.length c0] rfl (by (try simp only [List.map_toArray, List.map_cons, List.map_nil]); first | done | rfl | (simp only [List.length_drop, List.length_take]; rfl)) ?_; (with_reducible refine (laws_toTurnS.calls kj8 _ _ l0 t114 _ ?side1 ?side2 A20.out).mono ?_); (case side1 => repeat (first | exact (Kd.C_below HR0.out HB.out) | (with_reducible refine Kd.C_alloc ?_ _) | (with_reducible refine Kd.C_drewN ?_ _) | (with_reducible refine Kd.C_drew ?_))); (case side2 => exact HC0.out); rintro e w26 ⟨v115, rfl, ho0, hb⟩; refine ⟨_, rfl, ?_⟩; have n0_ := Aside0.mk (Kd.R_elder' (by (with_reducible repeat (first | apply Kd.R_alloc | apply Kd.R_drewN | apply Kd.R_drew)); exact HO_7.out) (Kd.R_base ho0) hb); have n1_ := Aside0.mk (Kd.R_lower (Kd.R_new' ho0 (Kd.R_lt (by (with_reducible repeat (first | apply Kd.R_alloc | apply Kd.R_drewN | apply Kd.R_drew)); exact HO_7.out))) (below_size (by repeat (first | (with_reducible first | exact HB.out | apply below_alloc | apply pw_below_drewN | apply below_drew1) | exact HB.out)))); have n2_ := Aside0.mk (below_step (by repeat (first | (with_reducible first | exact HB.out | apply below_alloc | apply pw_below_drewN | apply below_drew1) | exact HB.out)) hb); clear HO_7; clear HB; have HO_7 := n0_; have HO116 := n1_; have HB := n2_; clear n0_ n1_ n2_; (try clear hb); (try clear hb2); (try clear hk); (try clear hi); (try clear ho0); obtain ⟨Ao27, co27, eo27⟩ := Kd.R_slice HO116.out; subst eo27) | ((with_reducible refine gate_callee (f := 16) rfl ?_); refine goesL_ (some 47) rfl rfl Try.func16 (by kernel_rfl) rfl #[.slice Ao15 t108.length co15, .slice Ao27 t114.length co27] rfl (by (try simp only [List.map_toArray, List.map_cons, List.map_nil]); first | done | rfl | (simp only [List.length_drop, List.length_take]; rfl)) ?_; (with_reducible refine (laws_eqTurnS.calls kj8 _ _ t108 _ _ t114 false _ ?side1 ?side2 ?side3 ?side4 A21.out).mono ?_); (case side1 => repeat (first | exact (Kd.R_reads' HO_7.out).2.2 | (with_reducible refine Kd.C_alloc ?_ _) | (with_reducible refine Kd.C_drewN ?_ _) | (with_reducible refine Kd.C_drew ?_))); (case side2 => exact (Kd.R_reads' HO_7.out).2.1); (case side3 => repeat (first | exact (Kd.R_reads' HO116.out).2.2 | (with_reducible refine Kd.C_alloc ?_ _) | (with_reducible refine Kd.C_drewN ?_ _) | (with_reducible refine Kd.C_drew ?_))); (case side4 => exact (Kd.R_reads' HO116.out).2.1); rintro e w28 ⟨rfl, hb⟩; refine ⟨_, rfl, ?_⟩; have n0_ := Aside0.mk (Kd.R_below (by (with_reducible repeat (first | apply Kd.R_alloc | apply Kd.R_drewN | apply Kd.R_drew)); exact HO_7.out) hb); have n1_ := Aside0.mk (Kd.R_below (by (with_reducible repeat (first | apply Kd.R_alloc | apply Kd.R_drewN | apply Kd.R_drew)); exact HO116.out) hb); have n2_ := Aside0.mk (below_step (by repeat (first | (with_reducible first | exact HB.out | apply below_alloc | apply pw_below_drewN | apply below_drew1) | exact HB.out)) hb); clear HO_7; clear HO116; clear HB; have HO_7 := n0_; have HO116 := n1_; have HB := n2_; clear n0_ n1_ n2_; (try clear hb); (try clear hb2); (try clear hk); (try clear hi)))
            go_ret
            exact ⟨by first | rfl | (simp [errW_none, errW_some] <;> rfl) | (simp [*, errW_none, errW_some] <;> rfl), by repeat (first | (with_reducible first | exact HB.out | apply below_alloc | apply pw_below_drewN | apply below_drew1) | exact HB.out)⟩

end Go.Proofs.Ytjlfolmjkppneaa.P

namespace Go.Proofs.YtjlfolmjkppneaaO
open Go.RowKit Go.WideShapes Go.Proofs.YtjlfolmjkppneaaW.PrintWords

theorem addr_add_add (a : Addr) (m i : Nat) : (a.add m).add i = a.add (m + i) := by
  unfold Addr.add
  by_cases h1 : m = 0
  · subst h1; simp
  · by_cases h2 : i = 0
    · subst h2; simp [h1]
    · have h3 : ¬ (m + i = 0) := by omega
      simp [h1, h2, Nat.add_assoc]

/-- Whatever the claim reads at this type is a value of this kind, of which G holds. -/
def Opens {α : Type} (P : Program) (t : TypeId) (d : Kd α) (G : α → Prop) : Prop :=
  ∀ (H : Type) (enc : TypeId × Value → H) (w : World) (base : Nat) (spare : Nat → Bool) (held : Bool) (fuel : Nat) (cs : List Value) (x : DataW H × List MemPlace),
    DataW.trod enc P w base spare held fuel t cs = some x → ∃ a : α, d.K w a cs ∧ G a

section
variable {α β : Type} {P : Program} {t e : TypeId} {d : Kd α} {G : α → Prop}

theorem opens_int {k : IntKind} (ht : P.underlying t = some (.int k)) : Opens P t (Kd.int k) (fun n => (Lit.int k n).wf = true) := by
  intro H enc w base spare held fuel cs x h
  obtain ⟨n, rfl, _, hw⟩ := DataW.trod_int ht h
  exact ⟨n, rfl, hw⟩
theorem opens_string (ht : P.underlying t = some .string) : Opens P t Kd.string (fun s => s.size ≤ maxLen) := by
  intro H enc w base spare held fuel cs x h
  obtain ⟨n, rfl, _, hs⟩ := DataW.trod_string ht h
  exact ⟨n, rfl, hs⟩

theorem list_of_each {p : Nat → α → Prop} : ∀ n : Nat, (∀ i, i < n → ∃ a, p i a) → ∃ l : List α, l.length = n ∧ ∀ i a, l[i]? = some a → p i a
  | 0, _ => ⟨[], rfl, fun i a h => by simp at h⟩
  | n + 1, h => by
    obtain ⟨l, hl, hp⟩ := list_of_each n (fun i hi => h i (by omega))
    obtain ⟨a, ha⟩ := h n (by omega)
    refine ⟨l ++ [a], by simp [hl], fun i b hb => ?_⟩
    by_cases hi : i < l.length
    · rw [List.getElem?_append_left hi] at hb
      exact hp i b hb
    · rw [List.getElem?_append_right (by omega)] at hb
      have h0 : i - l.length = 0 := by
        have := (List.getElem?_eq_some_iff.1 hb).1
        simp at this
        omega
      rw [h0] at hb
      have hi2 : i = n := by omega
      subst hi2
      simp at hb
      subst hb
      exact ha

theorem opens_slice (ht : P.underlying t = some (.slice e)) (hc : P.cellsOf e = d.sz) (hd : Opens P e d G) : Opens P t (Kd.slice e d) (fun l => l.length ≤ maxLen ∧ ∀ x ∈ l, G x) := by
  intro H enc w base spare held fuel cs x h
  rcases DataW.trod_slice ht h with ⟨rfl, _⟩ | ⟨a, len, cap, elems, rest, n, _, rfl, _, hb, hl, hm, hlen, hel, _, _⟩
  · exact ⟨[], ⟨none, 0, rfl, Nat.le_refl _, rfl, by simp, fun hp => by simp at hp⟩, by simp, by simp⟩
  · have each : ∀ i, i < len → ∃ x : α, G x ∧ ∃ c, c.length = d.sz ∧ d.K w x c ∧ ∀ j u, c[j]? = some u → w.cell? (a.add (i * d.sz + j)) = some u := by
      intro i hi
      have h1 := hel i hi
      have h2 : ∃ y, elems[i]? = some y := ⟨elems[i]'(by omega), List.getElem?_eq_getElem (by omega)⟩
      obtain ⟨y, hy⟩ := h2
      rw [hy, Option.bind_eq_some_iff] at h1
      obtain ⟨c, hcs, hy'⟩ := h1
      obtain ⟨x, hK, hG⟩ := hd H enc w base spare held n c y hy'
      refine ⟨x, hG, c, d.K_len hK, hK, fun j u hu => ?_⟩
      have hx := World.cells?_some hcs
      have hj : j < P.cellsOf e := by
        have := (List.getElem?_eq_some_iff.1 hu).1
        have := hx.2.1
        omega
      have hz := hx.2.2 j hj
      rw [addr_add_add, hc, hu] at hz
      exact hz
    obtain ⟨l, hll, hp⟩ := list_of_each len each
    refine ⟨l, ⟨some a, cap, by rw [hll], by omega, rfl, by simp only [maxLen] at hm; omega, fun _ => ⟨a, rfl, fun j p hj => ?_⟩⟩, by simp only [maxLen] at hm ⊢; omega, fun x hx => ?_⟩
    · exact (hp j p hj).2
    · obtain ⟨i, hi, hi2⟩ := List.getElem_of_mem hx
      exact (hp i x (by rw [List.getElem?_eq_getElem hi, hi2])).1

def OpensFs {α : Type} (P : Program) (fs : List Field) (o : Nat) (d : Kd α) (G : α → Prop) : Prop :=
  ∀ (H : Type) (enc : TypeId × Value → H) (w : World) (base : Nat) (spare : Nat → Bool) (held : Bool) (fuel : Nat) (cs : List Value),
    cs.length = o + d.sz → (∀ (i : Nat) (f : Field), fs[i]? = some f → ∃ x, DataW.trod enc P w base spare held fuel f.type ((cs.drop f.offset).take (P.cellsOf f.type)) = some x) → ∃ a : α, d.K w a (cs.drop o) ∧ G a
theorem opensFs_last {f : Field} {o : Nat} (ho : f.offset = o) (hc : P.cellsOf f.type = d.sz) (h : Opens P f.type d G) : OpensFs P [f] o d G := by
  intro H enc w base spare held fuel cs hl hx
  obtain ⟨x, hx⟩ := hx 0 f rfl
  rw [ho, hc, List.take_of_length_le (by rw [List.length_drop]; omega)] at hx
  exact h H enc w base spare held fuel _ x hx
theorem opensFs_cons {f : Field} {fs : List Field} {o : Nat} {d2 : Kd β} {G2 : β → Prop} (ho : f.offset = o) (hc : P.cellsOf f.type = d.sz) (h : Opens P f.type d G) (h2 : OpensFs P fs (o + d.sz) d2 G2) :
    OpensFs P (f :: fs) o (Kd.pair d d2) (fun x => G x.1 ∧ G2 x.2) := by
  intro H enc w base spare held fuel cs hl hx
  have hl' : cs.length = o + (d.sz + d2.sz) := hl
  obtain ⟨x, hx0⟩ := hx 0 f rfl
  rw [ho, hc] at hx0
  obtain ⟨a, hK, hG⟩ := h H enc w base spare held fuel _ x hx0
  obtain ⟨b, hK2, hG2⟩ := h2 H enc w base spare held fuel cs (by omega) (fun i f2 hf => hx (i + 1) f2 (by simpa using hf))
  refine ⟨(a, b), ⟨_, _, ?_, hK, hK2⟩, hG, hG2⟩
  rw [← List.drop_drop]
  exact (List.take_append_drop d.sz (cs.drop o)).symm
theorem opens_struct {fs : Array Field} (ht : P.underlying t = some (.struct fs)) (hc : P.cellsOf t = d.sz) (h : OpensFs P fs.toList 0 d G) : Opens P t d G := by
  intro H enc w base spare held fuel cs x hx
  obtain ⟨xs, n, _, _, hl, hxl, hf⟩ := DataW.trod_struct ht hx
  have := h H enc w base spare held n cs (by omega) (fun i f hif => by
    have hif' : fs[i]? = some f := by simpa using hif
    have hi : i < xs.length := by
      rw [hxl]
      exact (Array.getElem?_eq_some_iff.1 hif').1
    exact ⟨xs[i], by rw [hf i f hif', List.getElem?_eq_getElem hi]⟩)
  simpa using this
theorem opens_iso (f : β → α) (g : α → β) (hfg : ∀ a, f (g a) = a) (h : Opens P t d G) : Opens P t (Kd.iso d f) (fun b => G (f b)) := by
  intro H enc w base spare held fuel cs x hx
  obtain ⟨a, hK, hG⟩ := h H enc w base spare held fuel cs x hx
  exact ⟨g a, by show d.K w (f (g a)) cs; rw [hfg]; exact hK, by show G (f (g a)); rw [hfg]; exact hG⟩
end
end Go.Proofs.YtjlfolmjkppneaaO

namespace Go.Proofs.Ytjlfolmjkppneaa
open Go.RowKit Go.Proofs.YtjlfolmjkppneaaO Go.Proofs.YtjlfolmjkppneaaW.PrintWords
def g61 (x : P.S61) : Prop := x.f0.size ≤ maxLen ∧ (Lit.int .i64 x.f1).wf = true ∧ (Lit.int .i64 x.f2).wf = true
theorem open61 : Opens Try.prog 61 P.k61 g61 :=
  opens_iso (fun x : P.S61 => (x.f0, x.f1, x.f2)) (fun a => ⟨a.1, a.2.1, a.2.2⟩) (fun _ => rfl) (opens_struct Try.underlying61 (by kernel_rfl) (opensFs_cons (by rfl) (by kernel_rfl) (opens_string Try.underlying9) (opensFs_cons (by rfl) (by kernel_rfl) (opens_int Try.underlying2) (opensFs_last (by rfl) (by kernel_rfl) (opens_int Try.underlying2)))))
end Go.Proofs.Ytjlfolmjkppneaa

namespace Go.Proofs.YtjlfolmjkppneaaL
open Go.RowKit Go.Proofs.YtjlfolmjkppneaaW.PrintWords

theorem wrap_id {x : Int} (h0 : -9223372036854775808 ≤ x) (h1 : x ≤ 9223372036854775807) : wrap64 x = x := by unfold wrap64; omega
theorem wrap_succ {i n : Nat} (h : i < n) (hn : n ≤ 4611686018427387904) : wrap64 ((i : Int) + 1) = ((i + 1 : Nat) : Int) := by
  rw [wrap_id (by omega) (by omega)]; omega
theorem lt_cast {i n : Nat} (h : i < n) : (i : Int) < (n : Int) := by omega
theorem nn_cast (i : Nat) : 0 ≤ (i : Int) := by omega
theorem nlt_cast (n : Nat) : ¬ ((n : Int) < (n : Int)) := by omega
theorem drop_cons {α : Type} {l : List α} {i : Nat} (h : i < l.length) : l.drop i = l[i] :: l.drop (i + 1) := List.drop_eq_getElem_cons h

/-- A loop over a list: at each element it answers, or it goes on behind it. G: what it answers from a rest on. -/
theorem list_loop {α σ ρ : Type} (L : Nat → σ → Int → Option ρ) (l : List α) (G : List α → σ → ρ) (Inv : Nat → σ → Prop) (B : Nat)
    (step : ∀ (k i : Nat) (hi : i < l.length) (s : σ), Inv i s → B ≤ k →
      L (k + 1) s (i : Int) = some (G (l[i] :: l.drop (i + 1)) s) ∨ ∃ s', Inv (i + 1) s' ∧ G (l[i] :: l.drop (i + 1)) s = G (l.drop (i + 1)) s' ∧ L (k + 1) s (i : Int) = L k s' ((i + 1 : Nat) : Int))
    (stop : ∀ (k : Nat) (s : σ), Inv l.length s → L (k + 1) s (l.length : Int) = some (G [] s)) :
    ∀ (k : Nat) (s : σ), B + l.length < k → Inv 0 s → L k s 0 = some (G l s) := by
  have main : ∀ (d k i : Nat) (s : σ), i + d = l.length → B + d < k → Inv i s → L k s (i : Int) = some (G (l.drop i) s) := by
    intro d
    induction d with
    | zero =>
      intro k i s hi hk hI
      obtain ⟨k, rfl⟩ : ∃ m, k = m + 1 := ⟨k - 1, by omega⟩
      have : i = l.length := by omega
      subst this
      rw [stop k s hI, List.drop_length]
    | succ d ih =>
      intro k i s hi hk hI
      obtain ⟨k, rfl⟩ : ∃ m, k = m + 1 := ⟨k - 1, by omega⟩
      have hlt : i < l.length := by omega
      rw [drop_cons hlt]
      rcases step k i hlt s hI (by omega) with h | ⟨s', hI', hG, hL⟩
      · exact h
      · rw [hL, hG]
        exact ih k (i + 1) s' (by omega) (by omega) hI'
  intro k s hk hI
  have := main l.length k 0 s (by omega) hk hI
  simpa using this

/-- The same without a state. -/
theorem list_loop0 {α ρ : Type} (L : Nat → Int → Option ρ) (l : List α) (G : List α → ρ) (B : Nat)
    (step : ∀ (k i : Nat) (hi : i < l.length), B ≤ k →
      L (k + 1) (i : Int) = some (G (l[i] :: l.drop (i + 1))) ∨ (G (l[i] :: l.drop (i + 1)) = G (l.drop (i + 1)) ∧ L (k + 1) (i : Int) = L k ((i + 1 : Nat) : Int)))
    (stop : ∀ (k : Nat), L (k + 1) (l.length : Int) = some (G [])) :
    ∀ (k : Nat), B + l.length < k → L k 0 = some (G l) := by
  intro k hk
  exact list_loop (σ := Unit) (fun k _ i => L k i) l (fun l _ => G l) (fun _ _ => True) B (fun k i hi s _ hB => by
    rcases step k i hi hB with h | ⟨h1, h2⟩
    · exact .inl h
    · exact .inr ⟨(), trivial, h1, h2⟩) (fun k _ _ => stop k) k () hk trivial

/-- A loop that fills a list that was made, place by place. -/
theorem set_loop {α β : Type} (L : Nat → List β → Int → Option (List β)) (l : List α) (g : α → β) (B : Nat)
    (step : ∀ (k i : Nat) (hi : i < l.length) (acc : List β), acc.length = l.length → B ≤ k → L (k + 1) acc (i : Int) = L k (acc.set i (g l[i])) ((i + 1 : Nat) : Int))
    (stop : ∀ (k : Nat) (acc : List β), L (k + 1) acc (l.length : Int) = some acc) :
    ∀ (k : Nat) (acc : List β), B + l.length < k → acc.length = l.length → L k acc 0 = some (l.map g) := by
  have main : ∀ (d k i : Nat) (acc : List β), i + d = l.length → B + d < k → acc.length = l.length → L k acc (i : Int) = some (acc.take i ++ (l.drop i).map g) := by
    intro d
    induction d with
    | zero =>
      intro k i acc hi hk ha
      obtain ⟨k, rfl⟩ : ∃ m, k = m + 1 := ⟨k - 1, by omega⟩
      have : i = l.length := by omega
      subst this
      rw [stop k acc, List.drop_length, List.take_of_length_le (by omega)]
      simp
    | succ d ih =>
      intro k i acc hi hk ha
      obtain ⟨k, rfl⟩ : ∃ m, k = m + 1 := ⟨k - 1, by omega⟩
      have hlt : i < l.length := by omega
      rw [step k i hlt acc ha (by omega), ih k (i + 1) _ (by omega) (by omega) (by simpa using ha), drop_cons hlt]
      have h2 : (acc.set i (g l[i])).take (i + 1) = acc.take i ++ [g l[i]] := by
        rw [List.take_succ_eq_append_getElem (by simp; omega)]
        have h3 : (acc.set i (g l[i])).take i = acc.take i := by
          apply List.ext_getElem
          · simp
          · intro j h1 h2
            simp at h1
            simp [List.getElem_set_ne (show i ≠ j by omega)]
        rw [h3]
        simp
      rw [h2]
      simp only [List.append_assoc, List.singleton_append, List.map_cons]
  intro k acc hk ha
  have := main l.length k 0 acc (by omega) hk ha
  simpa using this

/-- A loop that compares two lists of one length, place by place. -/
theorem eq_loop {α : Type} [DecidableEq α] (L : Nat → Int → Option Bool) (a b : List α) (hab : a.length = b.length) (B : Nat)
    (step : ∀ (k i : Nat) (h : i < a.length) (h2 : i < b.length), B ≤ k → L (k + 1) (i : Int) = if a[i] = b[i] then L k ((i + 1 : Nat) : Int) else some false)
    (stop : ∀ (k : Nat), L (k + 1) (a.length : Int) = some true) :
    ∀ (k : Nat), B + a.length < k → L k 0 = some (decide (a = b)) := by
  have main : ∀ (d k i : Nat), i + d = a.length → B + d < k → L k (i : Int) = some (decide (a.drop i = b.drop i)) := by
    intro d
    induction d with
    | zero =>
      intro k i hi hk
      obtain ⟨k, rfl⟩ : ∃ m, k = m + 1 := ⟨k - 1, by omega⟩
      obtain rfl : i = a.length := by omega
      rw [stop k, List.drop_length, hab, List.drop_length]
      rfl
    | succ d ih =>
      intro k i hi hk
      obtain ⟨k, rfl⟩ : ∃ m, k = m + 1 := ⟨k - 1, by omega⟩
      have h1 : i < a.length := by omega
      have h2 : i < b.length := by omega
      rw [step k i h1 h2 (by omega), ih k (i + 1) (by omega) (by omega)]
      rw [show (decide (a.drop i = b.drop i)) = decide (a[i] = b[i] ∧ a.drop (i + 1) = b.drop (i + 1)) from by
        congr 1; rw [drop_cons h1, drop_cons h2, List.cons.injEq]]
      by_cases e : a[i] = b[i]
      · rw [if_pos e]; simp [e]
      · rw [if_neg e]; simp [e]
  intro k hk
  have := main a.length k 0 (by omega) hk
  simpa using this

/-- A loop that asks each index below n and stops at the first that says no. -/
theorem all_loop (L : Nat → Int → Option Bool) (n : Nat) (p : Nat → Bool) (fin : Bool) (B : Nat)
    (step : ∀ (k i : Nat), i < n → B ≤ k → L (k + 1) (i : Int) = if p i = true then L k ((i + 1 : Nat) : Int) else some false)
    (stop : ∀ (k : Nat), B ≤ k → L (k + 1) (n : Int) = some fin) :
    ∀ (k : Nat), B + n < k → L k 0 = some ((List.range n).all p && fin) := by
  have main : ∀ (d k i : Nat), i + d = n → B + d < k → L k (i : Int) = some ((List.range' i d).all p && fin) := by
    intro d
    induction d with
    | zero =>
      intro k i hi hk
      obtain ⟨k, rfl⟩ : ∃ m, k = m + 1 := ⟨k - 1, by omega⟩
      obtain rfl : i = n := by omega
      rw [stop k (by omega)]; simp
    | succ d ih =>
      intro k i hi hk
      obtain ⟨k, rfl⟩ : ∃ m, k = m + 1 := ⟨k - 1, by omega⟩
      rw [step k i (by omega) (by omega), List.range'_succ, List.all_cons]
      by_cases h : p i = true
      · rw [if_pos h, ih k (i + 1) (by omega) (by omega), h]; simp
      · rw [if_neg h]; simp [h]
  intro k hk
  have := main n k 0 (by omega) hk
  rw [List.range_eq_range']
  exact this

theorem pred_cast {i n : Nat} (h0 : 0 < i) (h : i < n) (hn : n ≤ 4611686018427387904) : wrap64 ((i : Int) - 1) = ((i - 1 : Nat) : Int) := by
  rw [wrap_id (by omega) (by omega)]; omega

theorem rd_get {l : List Int} {i : Nat} (h : i < l.length) : rd l (i : Int) = l[i] := by
  simp [rd, List.getD_eq_getElem?_getD, List.getElem?_eq_getElem h]
theorem rdOf_get {α : Type} {z : α} {l : List α} {i : Nat} (h : i < l.length) : rdOf z l (i : Int) = l[i] := by
  simp [rdOf, List.getD_eq_getElem?_getD, List.getElem?_eq_getElem h]

theorem bytes_eq {a b : ByteArray} : a.toList = b.toList ↔ a = b := by
  constructor
  · intro h
    have h2 : a.data.toList = b.data.toList := by
      have e : ∀ x : ByteArray, x.toList = x.data.toList := ByteArray.toList_eq
      rw [← e, ← e]; exact h
    cases a; cases b
    simp at h2
    rw [h2]
  · intro h; rw [h]
end Go.Proofs.YtjlfolmjkppneaaL

namespace Go.Proofs.YtjlfolmjkppneaaL
open Go.RowKit Go.Proofs.YtjlfolmjkppneaaW.PrintWords
theorem list_loopW {α σ τ : Type} (L : Nat → σ → Int → τ) (l : List α) (G : List α → σ → τ) (Inv : Nat → σ → Prop) (B c : Nat)
    (step : ∀ (k i : Nat) (hi : i < l.length) (s : σ), Inv i s → B ≤ k →
      L (k + c) s (i : Int) = G (l[i] :: l.drop (i + 1)) s ∨ ∃ s' k', k ≤ k' ∧ Inv (i + 1) s' ∧ G (l[i] :: l.drop (i + 1)) s = G (l.drop (i + 1)) s' ∧ L (k + c) s (i : Int) = L k' s' ((i + 1 : Nat) : Int))
    (stop : ∀ (k : Nat) (s : σ), Inv l.length s → B ≤ k → L (k + c) s (l.length : Int) = G [] s) :
    ∀ (k : Nat) (s : σ), B + c * (l.length + 1) ≤ k → Inv 0 s → L k s 0 = G l s := by
  have main : ∀ (d k i : Nat) (s : σ), i + d = l.length → B + c * (d + 1) ≤ k → Inv i s → L k s (i : Int) = G (l.drop i) s := by
    intro d
    induction d with
    | zero =>
      intro k i s hi hk hI
      have h1 : c * (0 + 1) = c := by simp
      obtain ⟨k, rfl⟩ : ∃ m, k = m + c := ⟨k - c, by omega⟩
      have : i = l.length := by omega
      subst this
      rw [stop k s hI (by omega), List.drop_length]
    | succ d ih =>
      intro k i s hi hk hI
      have h1 : c * (d + 1 + 1) = c * (d + 1) + c := Nat.mul_succ _ _
      obtain ⟨k, rfl⟩ : ∃ m, k = m + c := ⟨k - c, by omega⟩
      have hlt : i < l.length := by omega
      rw [List.drop_eq_getElem_cons hlt]
      rcases step k i hlt s hI (by omega) with h | ⟨s', k', hk', hI', hG, h⟩
      · exact h
      · rw [h, hG]; exact ih k' (i + 1) s' (by omega) (by omega) hI'
  intro k s hk hI
  have := main l.length k 0 s (by omega) hk hI
  simpa using this
theorem list_loopV {α σ ρ : Type} (L : Nat → σ → Int → Option ρ) (l : List α) (G : List α → σ → ρ) (Inv : Nat → σ → Prop) (B c : Nat)
    (step : ∀ (k i : Nat) (hi : i < l.length) (s : σ), Inv i s → B ≤ k →
      L (k + c) s (i : Int) = some (G (l[i] :: l.drop (i + 1)) s) ∨ ∃ s' k', k ≤ k' ∧ Inv (i + 1) s' ∧ G (l[i] :: l.drop (i + 1)) s = G (l.drop (i + 1)) s' ∧ L (k + c) s (i : Int) = L k' s' ((i + 1 : Nat) : Int))
    (stop : ∀ (k : Nat) (s : σ), Inv l.length s → B ≤ k → L (k + c) s (l.length : Int) = some (G [] s)) :
    ∀ (k : Nat) (s : σ), B + c * (l.length + 1) ≤ k → Inv 0 s → L k s 0 = some (G l s) :=
  list_loopW L l (fun r s => some (G r s)) Inv B c (fun k i hi s hI hB => by
    rcases step k i hi s hI hB with h | ⟨s', k', h1, h2, h3, h4⟩
    · exact .inl h
    · exact .inr ⟨s', k', h1, h2, by rw [h3], h4⟩) stop
end Go.Proofs.YtjlfolmjkppneaaL

namespace Go.Proofs.Ytjlfolmjkppneaa.P
open Go.RowKit Go.Proofs.YtjlfolmjkppneaaW.PrintWords Go.Proofs.YtjlfolmjkppneaaL
def putI (x : Int) : List Int → Bool → List Int
  | [], d => if d = true then [] else [x]
  | y :: r, d => if (!d && decide (y ≥ x)) = true then (if y > x then [x, y] else [y]) ++ putI x r true else y :: putI x r d
theorem putI_true (x : Int) : ∀ l, putI x l true = l
  | [] => rfl
  | y :: r => by rw [putI, if_neg (by simp), putI_true x r]
theorem l00Put_eq {l : List Int} (hl : l.length ≤ 1048576) (x : Int) {k : Nat} (hk : 2 * l.length + 10 ≤ k) : spec_l00Put.f k l x = some (putI x l false) := by
  unfold spec_l00Put.f
  have main := list_loopV (fun k (s : List Int × Bool) i => spec_l00Put.l0 k l x s.1 s.2 i) l (fun r s => s.1 ++ putI x r s.2) (fun i s => s.1.length ≤ 2 * i) 0 2
    (fun k i hi s hI _ => ?_) (fun k s hI _ => ?_) k ([], false) (by omega) (by simp)
  · simpa using main
  · obtain ⟨out, done⟩ := s
    right
    have hb : out.length ≤ 2 * i := hI
    simp only [spec_l00Put.l0]
    rw [if_pos (lt_cast hi), if_pos (nn_cast i), rd_get hi]
    have hw := wrap_succ hi (by omega)
    cases done with
    | true =>
      rw [if_pos rfl]
      simp only [spec_l00Put.j1]
      rw [if_neg (by decide), if_pos (nn_cast i), if_pos (lt_cast hi), rd_get hi, hw, if_pos (by omega)]
      exact ⟨(out ++ [l[i]], true), k, Nat.le_refl _, (by show (out ++ [l[i]]).length ≤ _; simp; omega), by simp only [putI]; simp, rfl⟩
    | false =>
      rw [if_neg (by decide)]
      simp only [spec_l00Put.j1]
      by_cases h : l[i] ≥ x
      · rw [if_pos (decide_eq_true h), if_pos (nn_cast i), if_pos (lt_cast hi), rd_get hi, hw]
        by_cases h2 : l[i] > x
        · rw [if_pos h2, if_pos (by omega), Option.bind_some, if_pos (by simp; omega)]
          exact ⟨(out ++ [x] ++ [l[i]], true), k, Nat.le_refl _, (by show (out ++ [x] ++ [l[i]]).length ≤ _; simp; omega), by simp only [putI]; rw [if_pos (by simp; omega), if_pos h2]; simp, rfl⟩
        · rw [if_neg h2, if_pos (by omega)]
          exact ⟨(out ++ [l[i]], true), k, Nat.le_refl _, (by show (out ++ [l[i]]).length ≤ _; simp; omega), by simp only [putI]; rw [if_pos (by simp; omega), if_neg h2]; simp, rfl⟩
      · rw [if_neg (by simpa using h), if_pos (nn_cast i), if_pos (lt_cast hi), rd_get hi, hw, if_pos (by omega)]
        exact ⟨(out ++ [l[i]], false), k, Nat.le_refl _, (by show (out ++ [l[i]]).length ≤ _; simp; omega), by simp only [putI]; rw [if_neg (by simp; omega)]; simp, rfl⟩
  · obtain ⟨out, done⟩ := s
    have hb : out.length ≤ 2 * l.length := hI
    simp only [spec_l00Put.l0]
    rw [if_neg (nlt_cast _)]
    cases done with
    | true => rw [if_pos rfl]; simp [putI]
    | false => rw [if_neg (by decide), if_pos (by omega)]; simp [putI]
theorem mem_putI (x : Int) : ∀ l z, z ∈ putI x l false ↔ z = x ∨ z ∈ l
  | [], z => by simp [putI]
  | y :: r, z => by
    rw [putI]
    by_cases h : y ≥ x
    · rw [if_pos (by simp; omega), putI_true]
      by_cases h2 : y > x
      · rw [if_pos h2]; simp
      · rw [if_neg h2]
        have : y = x := by omega
        subst this
        simp
    · rw [if_neg (by simp; omega), List.mem_cons, mem_putI x r z, List.mem_cons]
      constructor
      · rintro (h | h | h) <;> simp [h]
      · rintro (h | h | h) <;> simp [h]
def AscI (l : List Int) : Prop := l.Pairwise fun a b => a < b
theorem asc_putI (x : Int) : ∀ {l}, AscI l → AscI (putI x l false)
  | [], _ => by simp [putI, AscI]
  | y :: r, ha => by
    obtain ⟨hy, hr⟩ := List.pairwise_cons.1 ha
    rw [putI]
    by_cases h : y ≥ x
    · rw [if_pos (by simp; omega), putI_true]
      by_cases h2 : y > x
      · rw [if_pos h2]
        refine List.pairwise_cons.2 ⟨fun z hz => ?_, ha⟩
        rcases List.mem_cons.1 hz with e | hz
        · rw [e]; exact h2
        · have := hy z hz; omega
      · rw [if_neg h2]; exact ha
    · rw [if_neg (by simp; omega)]
      refine List.pairwise_cons.2 ⟨fun z hz => ?_, asc_putI x hr⟩
      rcases (mem_putI x r z).1 hz with e | hz
      · rw [e]; omega
      · exact hy z hz
theorem putI_length (x : Int) : ∀ l, (putI x l false).length ≤ l.length + 1
  | [] => by simp [putI]
  | y :: r => by
    rw [putI]
    by_cases h : y ≥ x
    · rw [if_pos (by simp; omega), putI_true]
      split <;> simp
    · rw [if_neg (by simp; omega)]
      have := putI_length x r
      simp; omega
end Go.Proofs.Ytjlfolmjkppneaa.P

namespace Go.Proofs.Ytjlfolmjkppneaa.P
open Go.RowKit Go.Sort Go.Proofs.YtjlfolmjkppneaaW.PrintWords
def ltB (a b : ByteArray) : Bool := Op.bytesLess a.toList b.toList
theorem bytesLess_eq' : ∀ (x y : List UInt8), Op.bytesLess x y = decide (x < y)
  | [], [] => by simp [Op.bytesLess]
  | _ :: _, [] => by simp [Op.bytesLess]
  | [], _ :: _ => by simp [Op.bytesLess]
  | a :: x, b :: y => by
    rw [Op.bytesLess, bytesLess_eq' x y]
    simp only [List.cons_lt_cons_iff]
    by_cases h1 : a < b <;> by_cases h2 : a = b <;> by_cases h3 : x < y <;> simp [h1, h2, h3]
theorem toList_data' (b : ByteArray) : b.toList = b.data.toList := by simp [ByteArray.toList_eq]
theorem ltB_iff {a b : ByteArray} : ltB a b = true ↔ a.data.toList < b.data.toList := by
  unfold ltB; rw [bytesLess_eq', toList_data', toList_data']; simp
theorem ba_ext {a b : ByteArray} : a.data.toList = b.data.toList ↔ a = b := by
  rw [← toList_data', ← toList_data']
  constructor
  · intro h
    have h2 : a.data.toList = b.data.toList := by rw [← toList_data', ← toList_data']; exact h
    have h3 : a.data = b.data := Array.ext' h2
    cases a; cases b; simp at h3; rw [h3]
  · intro h; rw [h]
theorem ltB_irrefl (a : ByteArray) : ¬ ltB a a = true := by rw [ltB_iff]; exact List.lt_irrefl _
theorem ltB_trans {a b c : ByteArray} (h : ltB a b = true) (h2 : ltB b c = true) : ltB a c = true := by rw [ltB_iff] at *; exact List.lt_trans h h2
theorem lt_of_le_ne {a b : List UInt8} (h : a ≤ b) (hne : a ≠ b) : a < b := Classical.byContradiction fun hn => hne (List.le_antisymm h (List.not_lt.1 hn))
theorem ltB_total {a b : ByteArray} (h : ¬ ltB a b = true) (hne : a ≠ b) : ltB b a = true := by
  rw [ltB_iff] at *
  rcases List.le_total a.data.toList b.data.toList with h1 | h1
  · exact absurd (lt_of_le_ne h1 (fun e => hne (ba_ext.1 e))) h
  · exact lt_of_le_ne h1 (fun e => hne (ba_ext.1 e).symm)
/-- Ascending, nothing twice. -/
def Asc (l : List ByteArray) : Prop := l.Pairwise fun a b => ltB a b = true
theorem asc_ext : ∀ {a b : List ByteArray}, Asc a → Asc b → (∀ x, x ∈ a ↔ x ∈ b) → a = b
  | [], [], _, _, _ => rfl
  | [], y :: _, _, _, h => absurd ((h y).2 List.mem_cons_self) (by simp)
  | x :: _, [], _, _, h => absurd ((h x).1 List.mem_cons_self) (by simp)
  | x :: r, y :: s, ha, hb, h => by
    obtain ⟨hx, hr⟩ := List.pairwise_cons.1 ha
    obtain ⟨hy, hs⟩ := List.pairwise_cons.1 hb
    have e : x = y := by
      have h1 := (h x).1 List.mem_cons_self
      have h2 := (h y).2 List.mem_cons_self
      rcases List.mem_cons.1 h1 with e | h1
      · exact e
      rcases List.mem_cons.1 h2 with e | h2
      · exact e.symm
      exact absurd (ltB_trans (hx y h2) (hy x h1)) (ltB_irrefl x)
    subst e
    congr 1
    refine asc_ext hr hs fun z => ⟨fun hz => ?_, fun hz => ?_⟩
    · rcases List.mem_cons.1 ((h z).1 (List.mem_cons_of_mem _ hz)) with e | h'
      · subst e; exact absurd (hx z hz) (ltB_irrefl z)
      · exact h'
    · rcases List.mem_cons.1 ((h z).2 (List.mem_cons_of_mem _ hz)) with e | h'
      · subst e; exact absurd (hy z hz) (ltB_irrefl z)
      · exact h'
/-- The reference's putting: what is less, the name, what is greater. -/
def putG (x : ByteArray) : List ByteArray → Bool → List ByteArray
  | [], d => if d = true then [] else [x]
  | y :: r, d => (if (!d && !ltB y x) = true then [x] else []) ++ ((if y.toList = x.toList then [] else [y]) ++ putG x r (d || !ltB y x))
theorem putG_true (x : ByteArray) : ∀ l, putG x l true = l.filter fun y => decide (y.toList ≠ x.toList)
  | [] => by simp [putG]
  | y :: r => by
    rw [putG, Bool.true_or, putG_true x r]
    by_cases h : y.toList = x.toList <;> simp [h]
theorem toList_iff {a b : ByteArray} : a.toList = b.toList ↔ a = b := by rw [toList_data', toList_data']; exact ba_ext
theorem mem_putG (x : ByteArray) : ∀ l z, z ∈ putG x l false ↔ z = x ∨ z ∈ l
  | [], z => by simp [putG]
  | y :: r, z => by
    rw [putG]
    by_cases h : ltB y x = true
    · have hne : ¬ y.toList = x.toList := fun e => ltB_irrefl x (by rw [toList_iff] at e; rwa [e] at h)
      simp only [h, Bool.not_true, Bool.and_false, Bool.false_eq_true, if_false, List.nil_append, if_neg hne, Bool.or_false, List.singleton_append, List.mem_cons, mem_putG x r z]
      constructor
      · rintro (h | h | h) <;> simp [h]
      · rintro (h | h | h) <;> simp [h]
    · rw [Bool.not_eq_true] at h
      simp only [h, Bool.not_false, Bool.and_self, if_true, Bool.or_true, putG_true]
      by_cases e : y.toList = x.toList
      · have e' := toList_iff.1 e
        subst e'
        simp only [if_true, List.nil_append, List.singleton_append, List.mem_cons, List.mem_filter, decide_eq_true_iff]
        constructor
        · rintro (h | h); exact .inl h; exact .inr (.inr h.1)
        · rintro (h | h | h)
          · exact .inl h
          · exact .inl h
          · by_cases e2 : z = y
            · exact .inl e2
            · exact .inr ⟨h, fun e3 => e2 (toList_iff.1 e3)⟩
      · simp only [if_neg e, List.singleton_append, List.mem_cons, List.mem_filter, decide_eq_true_iff]
        constructor
        · rintro (h | h | h); exact .inl h; exact .inr (.inl h); exact .inr (.inr h.1)
        · rintro (h | h | h)
          · exact .inl h
          · exact .inr (.inl h)
          · by_cases e2 : z = x
            · exact .inl e2
            · exact .inr (.inr ⟨h, fun e3 => e2 (toList_iff.1 e3)⟩)
theorem asc_putG (x : ByteArray) : ∀ {l}, Asc l → Asc (putG x l false)
  | [], _ => by simp [putG, Asc]
  | y :: r, ha => by
    obtain ⟨hy, hr⟩ := List.pairwise_cons.1 ha
    rw [putG]
    by_cases h : ltB y x = true
    · have hne : ¬ y.toList = x.toList := fun e => ltB_irrefl x (by rw [toList_iff] at e; rwa [e] at h)
      simp only [h, Bool.not_true, Bool.and_false, Bool.false_eq_true, if_false, List.nil_append, if_neg hne, Bool.or_false, List.singleton_append]
      refine List.pairwise_cons.2 ⟨fun z hz => ?_, asc_putG x hr⟩
      rcases (mem_putG x r z).1 hz with e | hz
      · rw [e]; exact h
      · exact hy z hz
    · have h' := h
      rw [Bool.not_eq_true] at h'
      simp only [h', Bool.not_false, Bool.and_self, if_true, Bool.or_true, putG_true]
      have hf : Asc (r.filter fun z => decide (z.toList ≠ x.toList)) := List.Pairwise.filter _ hr
      by_cases e : y.toList = x.toList
      · have e' := toList_iff.1 e
        subst e'
        simp only [if_true, List.nil_append, List.singleton_append]
        exact List.pairwise_cons.2 ⟨fun z hz => hy z (List.mem_filter.1 hz).1, hf⟩
      · have hxy : ltB x y = true := ltB_total h (fun e2 => e (toList_iff.2 e2))
        simp only [if_neg e, List.singleton_append]
        refine List.pairwise_cons.2 ⟨fun z hz => ?_, List.pairwise_cons.2 ⟨fun z hz => hy z (List.mem_filter.1 hz).1, hf⟩⟩
        rcases List.mem_cons.1 hz with e2 | hz
        · rw [e2]; exact hxy
        · exact ltB_trans hxy (hy z (List.mem_filter.1 hz).1)
theorem putG_length (x : ByteArray) : ∀ l d, (putG x l d).length ≤ l.length + 1
  | [], d => by rw [putG]; split <;> simp
  | y :: r, d => by
    rw [putG]
    cases d with
    | true =>
      have := putG_length x r true
      simp only [Bool.not_true, Bool.false_and, Bool.false_eq_true, if_false, List.nil_append, Bool.true_or, List.length_append, List.length_cons]
      split <;> simp <;> omega
    | false =>
      by_cases h : ltB y x = true
      · have := putG_length x r false
        simp only [h, Bool.not_true, Bool.and_false, Bool.false_eq_true, if_false, List.nil_append, Bool.or_false, List.length_append, List.length_cons]
        split <;> simp <;> omega
      · rw [Bool.not_eq_true] at h
        have h1 := List.length_filter_le (fun z => decide (z.toList ≠ x.toList)) r
        simp only [h, Bool.not_false, Bool.and_self, if_true, Bool.or_true, putG_true, List.length_append, List.length_cons]
        split <;> simp at h1 ⊢ <;> omega
/-- All of a list put, one behind the other. -/
def puts (l acc : List ByteArray) : List ByteArray := l.foldl (fun a x => putG x a false) acc
theorem asc_puts : ∀ (l : List ByteArray) {acc}, Asc acc → Asc (puts l acc)
  | [], _, h => h
  | x :: r, _, h => asc_puts r (asc_putG x h)
theorem mem_puts : ∀ (l : List ByteArray) (acc : List ByteArray) (z : ByteArray), z ∈ puts l acc ↔ z ∈ l ∨ z ∈ acc
  | [], acc, z => by simp [puts]
  | x :: r, acc, z => by
    show z ∈ puts r (putG x acc false) ↔ _
    rw [mem_puts r, mem_putG, List.mem_cons]
    constructor
    · rintro (h | h | h) <;> simp [h]
    · rintro ((h | h) | h) <;> simp [h]
theorem compactUpTo_mem {α : Type} [Inhabited α] [DecidableEq α] (d : Array α) : ∀ (m : Nat) (x : α), x ∈ Lib.compactUpTo d m ↔ ∃ j, j < m ∧ d[j]! = x
  | 0, x => by simp [Lib.compactUpTo]
  | m + 1, x => by
    rw [Lib.compactUpTo_succ, List.mem_append, compactUpTo_mem d m x]
    by_cases hk : Lib.keeps d m = true
    · rw [if_pos hk, List.mem_singleton]
      constructor
      · rintro (⟨j, hj, e⟩ | e)
        · exact ⟨j, by omega, e⟩
        · exact ⟨m, by omega, e.symm⟩
      · rintro ⟨j, hj, e⟩
        by_cases h : j = m
        · subst h; exact .inr e.symm
        · exact .inl ⟨j, by omega, e⟩
    · rw [if_neg hk]
      have hm : m ≠ 0 ∧ d[m]! = d[m - 1]! := by
        unfold Lib.keeps at hk
        simp only [decide_eq_true_iff, not_or, Classical.not_not] at hk
        exact hk
      constructor
      · rintro (⟨j, hj, e⟩ | e)
        · exact ⟨j, by omega, e⟩
        · simp at e
      · rintro ⟨j, hj, e⟩
        by_cases h : j = m
        · subst h; exact .inl ⟨j - 1, by omega, by rw [← hm.2]; exact e⟩
        · exact .inl ⟨j, by omega, e⟩
theorem compactUpTo_asc (d : Array (List UInt8)) (hs : ∀ i j, i ≤ j → j < d.size → d[i]! ≤ d[j]!) : ∀ m, m ≤ d.size → (Lib.compactUpTo d m).Pairwise (fun a b => a < b)
  | 0, _ => by simp [Lib.compactUpTo]
  | m + 1, hm => by
    rw [Lib.compactUpTo_succ]
    have ih := compactUpTo_asc d hs m (by omega)
    by_cases hk : Lib.keeps d m = true
    · rw [if_pos hk]
      refine List.pairwise_append.2 ⟨ih, by simp, fun a ha b hb => ?_⟩
      rw [List.mem_singleton] at hb; subst hb
      obtain ⟨j, hj, rfl⟩ := (compactUpTo_mem d m a).1 ha
      have h2 : d[m]! ≠ d[m - 1]! := by
        unfold Lib.keeps at hk
        rcases of_decide_eq_true hk with h | h
        · omega
        · exact h
      have h3 : d[m - 1]! < d[m]! := lt_of_le_ne (hs _ _ (by omega) (by omega)) (fun e => h2 e.symm)
      exact List.lt_of_le_of_lt (hs j (m - 1) (by omega) (by omega)) h3
    · rw [if_neg hk, List.append_nil]; exact ih
theorem unS_mkS (l : List (List UInt8)) : unS (mkS l) = l := by
  unfold unS mkS; rw [List.map_map]; exact (List.map_congr_left (fun _ _ => rfl)).trans (List.map_id l)
theorem compactSort_eq (l : List ByteArray) : compactS (sortS l) = puts l [] := by
  have hsp := List.pairwise_mergeSort (le := fun x y : List UInt8 => decide (x ≤ y)) (fun a b c h1 h2 => by simp at *; exact List.le_trans h1 h2) (fun a b => by simp; exact List.le_total a b) (unS l)
  have hpm := List.mergeSort_perm (unS l) (fun x y : List UInt8 => decide (x ≤ y))
  unfold compactS sortS
  rw [unS_mkS]
  generalize hz : (unS l).mergeSort (fun x y : List UInt8 => decide (x ≤ y)) = zs at hsp hpm ⊢
  have hs : ∀ i j, i ≤ j → j < zs.toArray.size → zs.toArray[i]! ≤ zs.toArray[j]! := by
    intro i j hij hj
    have hj' : j < zs.length := by simpa using hj
    rw [getElem!_pos _ i (by simp; omega), getElem!_pos _ j (by simpa using hj')]
    simp only [List.getElem_toArray]
    by_cases e : i = j
    · subst e; exact List.le_refl _
    · simpa using List.pairwise_iff_getElem.1 hsp i j (by omega) hj' (by omega)
  refine asc_ext ?_ (asc_puts l (by simp [Asc])) (fun x => ?_)
  · unfold Lib.compact mkS Asc
    rw [List.pairwise_map]
    refine (compactUpTo_asc zs.toArray hs zs.length (by simp)).imp fun {a b} h => ?_
    rw [ltB_iff]; simpa using h
  · rw [mem_puts]
    unfold Lib.compact mkS
    simp only [List.mem_map, compactUpTo_mem, List.not_mem_nil, or_false]
    constructor
    · rintro ⟨_, ⟨j, hj, rfl⟩, rfl⟩
      rw [getElem!_pos _ j (by simpa using hj)]
      have h1 : zs[j] ∈ unS l := hpm.mem_iff.1 (List.getElem_mem hj)
      unfold unS at h1
      obtain ⟨b, hb, e⟩ := List.mem_map.1 h1
      have : (⟨(zs.toArray[j]'(by simpa using hj)).toArray⟩ : ByteArray) = b := by
        simp only [List.getElem_toArray, ← e]
      rw [this]; exact hb
    · intro hx
      have h1 : x.data.toList ∈ zs := hpm.mem_iff.2 (List.mem_map.2 ⟨x, hx, rfl⟩)
      obtain ⟨j, hj, e⟩ := List.getElem_of_mem h1
      refine ⟨x.data.toList, ⟨j, hj, ?_⟩, rfl⟩
      rw [getElem!_pos _ j (by simpa using hj)]
      simpa using e
end Go.Proofs.Ytjlfolmjkppneaa.P

namespace Go.Proofs.Ytjlfolmjkppneaa.P
open Go.RowKit Go.Proofs.YtjlfolmjkppneaaW.PrintWords Go.Proofs.YtjlfolmjkppneaaL

def nameByte (c : Int) : Bool := (decide (97 ≤ c) && decide (c ≤ 122)) || (decide (48 ≤ c) && decide (c ≤ 57))
def nameB (s : ByteArray) : Bool := decide (1 ≤ s.size) && decide (s.size ≤ 10) && (decide (97 ≤ bt s 0) && decide (bt s 0 ≤ 122)) && (List.range s.size).all fun i => nameByte (bt s (i : Int))
theorem size_zero {s : ByteArray} : s.toList = ([] : List UInt8) ↔ s.size = 0 := by
  rw [ByteArray.toList_eq]
  constructor
  · intro h; have := congrArg List.length h; simpa using this
  · intro h
    apply List.eq_nil_of_length_eq_zero
    simpa using h
theorem l01Name_eq (s : ByteArray) {k : Nat} (hk : 20 ≤ k) : spec_l01Name.f k s = some (nameB s) := by
  obtain ⟨k, rfl⟩ : ∃ m, k = m + 1 := ⟨k - 1, by omega⟩
  unfold spec_l01Name.f nameB
  by_cases h0 : s.size = 0
  · rw [if_pos (size_zero.2 h0)]; simp [spec_l01Name.j0, h0]
  rw [if_neg (fun e => h0 (size_zero.1 e))]
  by_cases h1 : (s.size : Int) > 10
  · rw [if_pos h1]
    have : ¬ s.size ≤ 10 := by omega
    simp [spec_l01Name.j0, this]
  rw [if_neg h1, if_pos (by omega)]
  unfold spec_l01Small.f
  have h1' : s.size ≤ 10 := by omega
  have h0' : 1 ≤ s.size := by omega
  by_cases h2 : bt s 0 ≥ 97
  · rw [if_pos h2]; simp only [Option.bind_some, spec_l01Name.j0]
    by_cases h3 : bt s 0 ≤ 122
    · rw [if_neg (by simp [h3])]
      rw [all_loop (fun k i => spec_l01Name.l0 k s i) s.size (fun i => nameByte (bt s (i : Int))) true 1 (fun k i hi hB => ?_) (fun k _ => ?_) k (by omega)]
      · simp [h1', h0', h3, ge_iff_le.1 h2]
      · obtain ⟨k, rfl⟩ : ∃ m, k = m + 1 := ⟨k - 1, by omega⟩
        show spec_l01Name.l0 (k + 1 + 1) s (i : Int) = _
        rw [spec_l01Name.l0]
        rw [if_pos (by omega), if_pos (nn_cast i), wrap_succ hi (by omega)]
        unfold spec_l01Small.f spec_l01Digit.f nameByte
        by_cases e1 : bt s (i : Int) ≥ 97
        · rw [if_pos e1]
          by_cases e2 : bt s (i : Int) ≤ 122
          · simp [e2, ge_iff_le.1 e1]
          · have e3 : bt s (i : Int) ≥ 48 := by omega
            have e4 : ¬ bt s (i : Int) ≤ 57 := by omega
            simp [e2, e4, ge_iff_le.1 e3]
        · rw [if_neg e1]
          have e1' : ¬ 97 ≤ bt s (i : Int) := e1
          by_cases e2 : bt s (i : Int) ≥ 48
          · rw [if_pos e2]
            by_cases e3 : bt s (i : Int) ≤ 57
            · simp [e3, ge_iff_le.1 e2]
            · simp [e3, e1']
          · rw [if_neg e2]
            have e2' : ¬ 48 ≤ bt s (i : Int) := e2
            simp [e1', e2']
      · show spec_l01Name.l0 (_ + 1) s (s.size : Int) = _
        rw [spec_l01Name.l0, if_neg (nlt_cast _)]
    · rw [if_pos (by simp [h3])]; simp [h3]
  · rw [if_neg h2]; simp only [Option.bind_some, spec_l01Name.j0]
    have h2' : ¬ 97 ≤ bt s 0 := h2
    rw [if_pos (by rfl)]; simp [h2']

theorem IsName_eq (s : ByteArray) {k : Nat} (hk : 20 ≤ k) : impl_IsName.f k s = some (nameB s) := by
  unfold impl_IsName.f nameB
  by_cases h0 : (s.size : Int) < 1
  · rw [if_pos h0]
    have : ¬ 1 ≤ s.size := by omega
    simp [this]
  rw [if_neg h0]
  by_cases h1 : (s.size : Int) > 10
  · rw [if_pos h1]
    have : ¬ s.size ≤ 10 := by omega
    simp [this]
  rw [if_neg h1, if_pos (by omega)]
  have h1' : s.size ≤ 10 := by omega
  have h0' : 1 ≤ s.size := by omega
  by_cases h2 : bt s 0 < 97
  · rw [if_pos h2]
    have h2' : ¬ 97 ≤ bt s 0 := by omega
    simp [h2']
  rw [if_neg h2]
  by_cases h3 : bt s 0 > 122
  · rw [if_pos h3]
    have h3' : ¬ bt s 0 ≤ 122 := by omega
    simp [h3']
  rw [if_neg h3]
  have h2' : 97 ≤ bt s 0 := by omega
  have h3' : bt s 0 ≤ 122 := by omega
  unfold impl_onlyNameBytes.f
  rw [all_loop (fun k i => impl_onlyNameBytes.l0 k s (s.size : Int) i) s.size (fun i => nameByte (bt s (i : Int))) true 0 (fun k i hi hB => ?_) (fun k _ => ?_) k (by omega)]
  · simp [h1', h0', h3', h2']
  · show impl_onlyNameBytes.l0 (k + 1) s (s.size : Int) (i : Int) = _
    rw [impl_onlyNameBytes.l0]
    rw [if_pos (lt_cast hi), if_pos (nn_cast i), if_pos (lt_cast hi), wrap_succ hi (by omega)]
    unfold nameByte
    repeat' split
    all_goals first | rfl | (exfalso; simp_all; done) | (exfalso; simp_all; omega)
  · show impl_onlyNameBytes.l0 (k + 1) s (s.size : Int) (s.size : Int) = _
    rw [impl_onlyNameBytes.l0, if_neg (nlt_cast _)]

theorem in_eq (a b c : Int) : spec_l00In.f a b c = some (decide (b ≤ a) && decide (a ≤ c)) := by
  unfold spec_l00In.f
  by_cases h : a ≥ b
  · rw [if_pos h]; simp [ge_iff_le.1 h]
  · rw [if_neg h]
    have h' : ¬ b ≤ a := h
    simp [h']
theorem within_eq (a b c : Int) : impl_within.f a b c = some (decide (b ≤ a) && decide (a ≤ c)) := by
  unfold impl_within.f
  by_cases h : a ≥ b
  · rw [if_pos h]; simp [ge_iff_le.1 h]
  · rw [if_neg h]
    have h' : ¬ b ≤ a := h
    simp [h']
end Go.Proofs.Ytjlfolmjkppneaa.P

namespace Go.Proofs.Ytjlfolmjkppneaa.P
open Go.RowKit Go.Proofs.YtjlfolmjkppneaaW.PrintWords Go.Proofs.YtjlfolmjkppneaaL
def cmpI (a b : Int) : Int := if a < b then -1 else if a > b then 1 else 0
def cmpS (a b : ByteArray) : Int := if Op.bytesLess a.toList b.toList = true then -1 else if Op.bytesLess b.toList a.toList = true then 1 else 0
theorem Compare_int64_eq (a b : Int) : cmp_Compare_int64.f a b = some (cmpI a b) := by
  unfold cmp_Compare_int64.f cmp_isNaN_int64.f cmpI
  simp only [bne_self_eq_false, Option.bind_some]
  simp only [Bool.false_eq_true, if_false]
  split
  · rfl
  · split <;> rfl
theorem Compare_string_eq (a b : ByteArray) : cmp_Compare_string.f a b = some (cmpS a b) := by
  unfold cmp_Compare_string.f cmp_isNaN_string.f cmpS
  simp only [bne_self_eq_false, Option.bind_some]
  simp only [Bool.false_eq_true, if_false]
  split
  · rfl
  · split <;> rfl
theorem Or3_eq (x y z : Int) {k : Nat} (hk : 10 ≤ k) : cmp_Or_int.f k [x, y, z] = some (if x = 0 then if y = 0 then z else y else x) := by
  obtain ⟨k, rfl⟩ : ∃ m, k = m + 4 := ⟨k - 4, by omega⟩
  have w0 : wrap64 (0 + 1) = 1 := by unfold wrap64; omega
  have w1 : wrap64 (1 + 1) = 2 := by unfold wrap64; omega
  have w2 : wrap64 (2 + 1) = 3 := by unfold wrap64; omega
  unfold cmp_Or_int.f
  simp only [cmp_Or_int.l0, w0, w1, w2, rd]
  by_cases h0 : x = 0
  · by_cases h1 : y = 0
    · by_cases h2 : z = 0
      · simp [h0, h1, h2]
      · simp [h0, h1, h2]
    · simp [h0, h1]
  · simp [h0]
theorem less_irrefl (a : List UInt8) : Op.bytesLess a a = false := by
  induction a with
  | nil => rfl
  | cons x r ih => simp [Op.bytesLess, ih]
theorem less_total {a b : List UInt8} (h : Op.bytesLess a b = false) (hne : a ≠ b) : Op.bytesLess b a = true := by
  have := bytesLess_total a b
  rw [h, beq_eq_false_iff_ne.2 hne] at this
  simpa using this.symm
end Go.Proofs.Ytjlfolmjkppneaa.P

namespace Go.Proofs.Ytjlfolmjkppneaa.P
open Go.RowKit Go.Proofs.YtjlfolmjkppneaaW.PrintWords Go.Proofs.YtjlfolmjkppneaaL
set_option linter.unusedVariables false
set_option linter.unusedSimpArgs false

theorem ext_iAnswer {a b : S85} : a = b ↔ a.f0.toList = b.f0.toList ∧ a.f1.toList = b.f1.toList ∧ a.f2 = b.f2 := by
  simp only [bytes_eq]; cases a; cases b; simp
instance : DecidableEq S85 := fun _ _ => decidable_of_iff _ ext_iAnswer.symm
def cTurn (x : S61) : S62 := ⟨x.f0, x.f1, x.f2⟩
def smTurn (x : S61) : Prop := x.f0.size ≤ 1048576
theorem rd_lTurn {l : List S61} {i : Nat} (h : i < l.length) : rd_T61 l (i : Int) = l[i] := by
  simp [rd_T61, List.getD_eq_getElem?_getD, List.getElem?_eq_getElem h]
theorem rd_iTurn {l : List S62} {i : Nat} (h : i < l.length) : rd_T62 l (i : Int) = l[i] := by
  simp [rd_T62, List.getD_eq_getElem?_getD, List.getElem?_eq_getElem h]
theorem ext_iTurn {a b : S62} : a = b ↔ a.f0.toList = b.f0.toList ∧ a.f1 = b.f1 ∧ a.f2 = b.f2 := by
  simp only [bytes_eq]; cases a; cases b; simp
instance : DecidableEq S62 := fun _ _ => decidable_of_iff _ ext_iTurn.symm
theorem szTurn_some {x : S61} (hg : Go.Proofs.Ytjlfolmjkppneaa.g61 x) {a : Int} (ha0 : 0 ≤ a) (ha : a ≤ 1048576) : ∃ r, laws_szTurn.f x.f0 x.f1 x.f2 a = some r ∧ (r < 0 ∨ (0 ≤ r ∧ r ≤ a ∧ smTurn x)) := by
  unfold laws_szTurn.f smTurn
  have hs0 : x.f0.size ≤ 9223372036854775807 := by have := hg.1; simpa only [maxLen] using this
  rw [wrap_id (x := a - (x.f0.size : Int)) (by omega) (by omega)]
  by_cases h0 : a - (x.f0.size : Int) < 0
  · rw [if_pos h0]; exact ⟨-1, rfl, .inl (by omega)⟩
  rw [if_neg h0]
  exact ⟨_, rfl, .inr ⟨by omega, by omega, by omega⟩⟩
theorem szTurnS_some {l : List S61} (hl : l.length ≤ maxLen) (hg : ∀ y ∈ l, Go.Proofs.Ytjlfolmjkppneaa.g61 y) {a : Int} (ha0 : 0 ≤ a) (ha : a ≤ 1048576) {k : Nat} (hk : 1048600 ≤ k) : ∃ r, laws_szTurnS.f k l a = some r ∧ (r < 0 ∨ (0 ≤ r ∧ r ≤ a ∧ l.length ≤ 1048576 ∧ ∀ y ∈ l, smTurn y)) := by
  have hl' : l.length ≤ 9223372036854775807 := by simpa only [maxLen] using hl
  unfold laws_szTurnS.f
  rw [wrap_id (by omega) (by omega)]
  by_cases h0 : a - (l.length : Int) < 0
  · rw [if_pos h0]; exact ⟨-1, rfl, .inl (by omega)⟩
  · rw [if_neg h0]
    have main : ∀ (d k i : Nat) (s : Int), i + d = l.length → 0 + d < k → 0 ≤ s → s ≤ a - l.length → ∃ r, laws_szTurnS.l0 k l s (i : Int) = some r ∧ (r < 0 ∨ (0 ≤ r ∧ r ≤ s ∧ ∀ y ∈ l.drop i, smTurn y)) := by
      intro d
      induction d with
      | zero =>
        intro k i s hi hk h0 h1
        obtain ⟨k, rfl⟩ : ∃ m, k = m + 1 := ⟨k - 1, by omega⟩
        obtain rfl : i = l.length := by omega
        simp only [laws_szTurnS.l0]
        rw [if_neg (nlt_cast _)]
        exact ⟨s, rfl, .inr ⟨h0, by omega, by simp⟩⟩
      | succ d ih =>
        intro k i s hi hk h0 h1
        obtain ⟨k, rfl⟩ : ∃ m, k = m + 1 := ⟨k - 1, by omega⟩
        have hlt : i < l.length := by omega
        simp only [laws_szTurnS.l0]
        rw [if_pos (lt_cast hlt), if_pos (nn_cast i), rd_lTurn hlt, wrap_succ hlt (by omega)]
        obtain ⟨r1, hr1, e1⟩ := szTurn_some (hg l[i] (List.getElem_mem hlt)) (a := s) (by omega) (by omega)
        rw [hr1]; simp only [Option.bind_some]
        by_cases h2 : r1 < 0
        · rw [if_pos h2]
          exact ⟨-1, rfl, .inl (by omega)⟩
        · rw [if_neg h2]
          have e1' := e1.resolve_left h2
          obtain ⟨r, hr, h3⟩ := ih k (i + 1) r1 (by omega) (by omega) (by omega) (by omega)
          refine ⟨r, hr, h3.imp id fun h3 => ⟨h3.1, by omega, ?_⟩⟩
          rw [drop_cons hlt]
          intro y hy
          rcases List.mem_cons.1 hy with rfl | hy
          · exact e1'.2.2
          · exact h3.2.2 y hy
    obtain ⟨r, hr, h⟩ := main l.length k 0 (a - l.length) (by omega) (by omega) (by omega) (by omega)
    refine ⟨r, hr, h.imp id fun h => ⟨h.1, by omega, by omega, ?_⟩⟩
    simpa using h.2.2
theorem toTurn_eq {x : S61} (hs : smTurn x) : laws_toTurn.f x.f0 x.f1 x.f2 = some ((cTurn x).f0, (cTurn x).f1, (cTurn x).f2) := by
  unfold smTurn at hs
  unfold laws_toTurn.f
  rfl
theorem toTurnS_eq {l : List S61} (hl : l.length ≤ 1048576) (hs : ∀ y ∈ l, smTurn y) {k : Nat} (hk : 1048600 ≤ k) : laws_toTurnS.f k l = some (l.map cTurn) := by
  unfold laws_toTurnS.f
  rw [if_pos (nn_cast _), if_pos (by simp; omega)]
  refine set_loop (fun k acc i => laws_toTurnS.l0 k l acc i) l cTurn 0 (fun k i hi acc ha hB => ?_) (fun k acc => ?_) k _ (by omega) (by simp)
  · simp only [laws_toTurnS.l0]
    rw [if_pos (lt_cast hi), if_pos (nn_cast i), rd_lTurn hi, wrap_succ hi (by omega), toTurn_eq (hs _ (List.getElem_mem hi))]
    simp only [Option.bind_some]
    rw [if_pos (by omega)]
    rfl
  · simp only [laws_toTurnS.l0]
    rw [if_neg (nlt_cast _)]
def smiTurn (x : S62) : Prop := True
theorem eqTurn_eq {a b : S62} (hs : smiTurn a) : laws_eqTurn.f a.f0 a.f1 a.f2 b.f0 b.f1 b.f2 = some (decide (a = b)) := by
  unfold smiTurn at hs
  unfold laws_eqTurn.f
  by_cases e0 : a.f0.toList = b.f0.toList
  rotate_left
  · rw [if_neg e0]; have hne : ¬ a = b := fun e => e0 (ext_iTurn.1 e).1; simp [hne]
  rw [if_pos e0]
  by_cases e1 : a.f1 = b.f1
  rotate_left
  · rw [if_neg e1]; have hne : ¬ a = b := fun e => e1 (ext_iTurn.1 e).2.1; simp [hne]
  rw [if_pos e1]
  by_cases e2 : a.f2 = b.f2
  rotate_left
  · rw [if_neg e2]; have hne : ¬ a = b := fun e => e2 (ext_iTurn.1 e).2.2; simp [hne]
  rw [if_pos e2]
  rw [decide_eq_true (ext_iTurn.2 ⟨e0, e1, e2⟩)]
theorem eqTurnS_eq {a b : List S62} (hl : a.length ≤ 1048576) (hs : ∀ y ∈ a, smiTurn y) {k : Nat} (hk : 1048600 ≤ k) : laws_eqTurnS.f k a b = some (decide (a = b)) := by
  unfold laws_eqTurnS.f
  by_cases h : a.length = b.length
  · rw [if_pos (by omega)]
    refine eq_loop (fun k i => laws_eqTurnS.l0 k a b i) a b h 0 (fun k i h1 h2 hB => ?_) (fun k => ?_) k (by omega)
    · simp only [laws_eqTurnS.l0]
      rw [if_pos (lt_cast h1), if_pos (nn_cast i), if_pos (lt_cast h2), rd_iTurn h1, rd_iTurn h2, wrap_succ h1 (by omega), eqTurn_eq (hs _ (List.getElem_mem h1))]
      simp only [Option.bind_some, decide_eq_true_eq]
    · simp only [laws_eqTurnS.l0]
      rw [if_neg (nlt_cast _)]
  · rw [if_neg (by omega)]
    have : a ≠ b := fun e => h (by rw [e])
    simp [this]
end Go.Proofs.Ytjlfolmjkppneaa.P

namespace Go.Proofs.Ytjlfolmjkppneaa.P
open Go.RowKit Go.Proofs.YtjlfolmjkppneaaW.PrintWords Go.Proofs.YtjlfolmjkppneaaL
def turnB (x : S62) : Bool := nameB x.f0 && (decide (0 ≤ x.f1) && decide (x.f1 ≤ 10000)) && (decide (1 ≤ x.f2) && decide (x.f2 ≤ 10000))
def turnLess (a b : S62) : Bool := if a.f1 = b.f1 then (if a.f0.toList = b.f0.toList then decide (a.f2 < b.f2) else Op.bytesLess a.f0.toList b.f0.toList) else decide (a.f1 < b.f1)
def turnAt (l : List S62) (i : Nat) : Bool := turnB (rd_T62 l (i : Int)) && (decide (i = 0) || turnLess (rd_T62 l ((i - 1 : Nat) : Int)) (rd_T62 l (i : Int)))
def turnsB (l : List S62) : Bool := (List.range l.length).all (turnAt l) && decide (l.length ≤ 24)
def cmpT (a b : S62) : Int := if cmpI a.f1 b.f1 = 0 then (if cmpS a.f0 b.f0 = 0 then cmpI a.f2 b.f2 else cmpS a.f0 b.f0) else cmpI a.f1 b.f1

theorem l23One_e_eq (l : List S62) (i : Int) {k : Nat} (hk : 20 ≤ k) : spec_l23One_e.f k l i = some (turnB (rd_T62 l i)) := by
  unfold spec_l23One_e.f turnB
  rw [l01Name_eq _ hk]; simp only [Option.bind_some, in_eq]
  by_cases h : nameB (rd_T62 l i).f0 = true
  · rw [if_pos h, h]
    by_cases h2 : (decide (0 ≤ (rd_T62 l i).f1) && decide ((rd_T62 l i).f1 ≤ 10000)) = true
    · rw [if_pos h2, h2]; simp
    · rw [if_neg h2]; rw [Bool.not_eq_true] at h2; rw [h2]; simp
  · rw [if_neg h]; simp [h]
theorem l23Before_e_eq (l : List S62) (i j : Int) : spec_l23Before_e.f l i l j = some (turnLess (rd_T62 l i) (rd_T62 l j)) := by
  unfold spec_l23Before_e.f turnLess
  split
  · split <;> rfl
  · rfl
theorem Turn_valid_eq (x : S62) {k : Nat} (hk : 20 ≤ k) : impl_Turn_valid.f k x.f0 x.f1 x.f2 = some (turnB x) := by
  unfold impl_Turn_valid.f turnB
  rw [IsName_eq _ hk]; simp only [Option.bind_some, within_eq]
  by_cases h : nameB x.f0 = true
  · rw [if_pos h, h]
    by_cases h2 : (decide (0 ≤ x.f1) && decide (x.f1 ≤ 10000)) = true
    · rw [if_pos h2, h2]; simp
    · rw [if_neg h2]; rw [Bool.not_eq_true] at h2; rw [h2]; simp
  · rw [if_neg h]; simp [h]
theorem compareTurns_eq (a b : S62) {k : Nat} (hk : 10 ≤ k) : impl_compareTurns.f k a.f0 a.f1 a.f2 b.f0 b.f1 b.f2 = some (cmpT a b) := by
  unfold impl_compareTurns.f cmpT
  rw [Compare_int64_eq, Compare_string_eq, Compare_int64_eq]
  simp only [Option.bind_some]
  rw [Or3_eq _ _ _ hk]; rfl
theorem cmpI_zero {a b : Int} : cmpI a b = 0 ↔ a = b := by
  unfold cmpI; constructor
  · intro h; split at h
    · omega
    · split at h <;> omega
  · intro h; rw [if_neg (by omega), if_neg (by omega)]
theorem cmpS_zero {a b : ByteArray} : cmpS a b = 0 ↔ a.toList = b.toList := by
  unfold cmpS; constructor
  · intro h
    by_cases h1 : Op.bytesLess a.toList b.toList = true
    · rw [if_pos h1] at h; omega
    · rw [if_neg h1] at h
      by_cases h2 : Op.bytesLess b.toList a.toList = true
      · rw [if_pos h2] at h; omega
      · by_cases e : a.toList = b.toList
        · exact e
        · exact absurd (less_total (by simpa using h1) e) h2
  · intro h; rw [h, less_irrefl]; rfl
theorem cmpT_neg (a b : S62) : cmpT a b ≥ 0 ↔ turnLess a b = false := by
  unfold cmpT turnLess
  by_cases h1 : a.f1 = b.f1
  · rw [if_pos (cmpI_zero.2 h1), if_pos h1]
    by_cases h2 : a.f0.toList = b.f0.toList
    · rw [if_pos (cmpS_zero.2 h2), if_pos h2]
      unfold cmpI
      by_cases h3 : a.f2 < b.f2
      · rw [if_pos h3]; simp [h3]
      · rw [if_neg h3]; simp [h3]; split <;> omega
    · rw [if_neg (fun e => h2 (cmpS_zero.1 e)), if_neg h2]
      unfold cmpS
      by_cases h3 : Op.bytesLess a.f0.toList b.f0.toList = true
      · rw [if_pos h3]; simp [h3]
      · rw [if_neg h3, if_pos (less_total (by simpa using h3) h2)]; simp [h3]
  · rw [if_neg (fun e => h1 (cmpI_zero.1 e)), if_neg h1]
    unfold cmpI
    by_cases h3 : a.f1 < b.f1
    · rw [if_pos h3]; simp [h3]
    · rw [if_neg h3, if_pos (by omega)]; simp [h3]

theorem l23Ok_eq {l : List S62} (hl : l.length ≤ 1048576) {k : Nat} (hk : 1048600 ≤ k) : spec_l23Ok.f k l = some (turnsB l) := by
  unfold spec_l23Ok.f turnsB
  refine all_loop (fun k i => spec_l23Ok.l0 k l i) l.length (turnAt l) _ 20 (fun k i hi hB => ?_) (fun k _ => ?_) k (by omega)
  · simp only [spec_l23Ok.l0]
    rw [if_pos (lt_cast hi), if_pos (nn_cast i), l23One_e_eq _ _ hB, wrap_succ hi (by omega)]
    simp only [Option.bind_some, turnAt]
    by_cases h : turnB (rd_T62 l (i : Int)) = true
    · rw [if_pos h]
      by_cases h0 : i = 0
      · rw [if_neg (by omega)]; simp only [h, decide_eq_true h0, Bool.true_or, Bool.and_self, if_true]
      · rw [if_pos (by omega), pred_cast (by omega) hi (by omega), if_pos (nn_cast _), if_pos (by omega), l23Before_e_eq]
        simp [h, h0]
    · rw [if_neg h]; simp [h]
  · simp only [spec_l23Ok.l0]
    rw [if_neg (nlt_cast _)]
    congr 2
    exact propext (by omega)
theorem ValidTurns_eq {l : List S62} {k : Nat} (hk : 100 ≤ k) : impl_ValidTurns.f k l = some (turnsB l) := by
  unfold impl_ValidTurns.f turnsB
  by_cases h24 : (l.length : Int) > 24
  · rw [if_pos h24]
    have : ¬ l.length ≤ 24 := by omega
    simp [this]
  rw [if_neg h24]
  have h24' : l.length ≤ 24 := by omega
  rw [decide_eq_true h24']
  refine all_loop (fun k i => impl_ValidTurns.l0 k l l (l.length : Int) i) l.length (turnAt l) true 20 (fun k i hi hB => ?_) (fun k _ => ?_) k (by omega)
  · simp only [impl_ValidTurns.l0]
    rw [if_pos (lt_cast hi), if_pos (nn_cast i), if_pos (lt_cast hi), Turn_valid_eq _ hB, wrap_succ hi (by omega)]
    simp only [Option.bind_some, turnAt]
    by_cases h : turnB (rd_T62 l (i : Int)) = true
    · rw [if_pos h]
      by_cases h0 : i = 0
      · rw [if_neg (by omega)]; simp only [h, decide_eq_true h0, Bool.true_or, Bool.and_self, if_true]
      · rw [if_pos (by omega), pred_cast (by omega) hi (by omega), if_pos (nn_cast _), if_pos (by omega), compareTurns_eq _ _ (by omega)]
        simp only [Option.bind_some, cmpT_neg, h, decide_eq_false h0, Bool.false_or, Bool.true_and]
        by_cases h3 : turnLess (rd_T62 l ((i - 1 : Nat) : Int)) (rd_T62 l (i : Int)) = true
        · rw [if_neg (by simp [h3]), if_pos h3]
        · rw [if_pos (by simpa using h3), if_neg h3]
    · rw [if_neg h]; simp [h]
  · simp only [impl_ValidTurns.l0]
    rw [if_neg (nlt_cast _)]
theorem smi_turns (l : List S62) : ∀ y ∈ l, smiTurn y := fun _ _ => trivial
end Go.Proofs.Ytjlfolmjkppneaa.P

namespace Go.Proofs.Ytjlfolmjkppneaa.P
open Go.RowKit Go.Proofs.YtjlfolmjkppneaaW.PrintWords Go.Proofs.YtjlfolmjkppneaaL
def playsAt (t : Int) (x : S62) : Bool := decide (x.f1 ≤ t) && decide (t ≤ wrap64 (wrap64 (x.f1 + x.f2) - 1))
def playing (l : List S62) (t : Int) : List ByteArray := puts ((l.filter (playsAt t)).map (·.f0)) []
theorem turns_len {l : List S62} (h : turnsB l = true) : l.length ≤ 24 := by
  unfold turnsB at h
  simp only [Bool.and_eq_true, decide_eq_true_iff] at h
  exact h.2
theorem turns_each {l : List S62} (h : turnsB l = true) : ∀ x ∈ l, turnB x = true := by
  unfold turnsB at h
  simp only [Bool.and_eq_true, List.all_eq_true, List.mem_range] at h
  intro x hx
  obtain ⟨i, hi, rfl⟩ := List.getElem_of_mem hx
  have h2 := h.1 i hi
  unfold turnAt at h2
  rw [rd_iTurn hi, Bool.and_eq_true] at h2
  exact h2.1
theorem Sort_eq {l : List ByteArray} (hl : l.length ≤ 1048576) : slices_Sort_S_string.f l = some (sortS l) := by
  unfold slices_Sort_S_string.f; rw [if_pos (by omega)]
theorem playersAt_eq {l : List S62} (hl : l.length ≤ 1048576) (t : Int) {k : Nat} (hk : l.length + 10 ≤ k) : impl_playersAt.f k l t = some (playing l t) := by
  unfold impl_playersAt.f playing
  rw [← compactSort_eq]
  refine (list_loop (fun k s i => impl_playersAt.l0 k t s l (l.length : Int) i) l (fun r s => compactS (sortS (s ++ (r.filter (playsAt t)).map (·.f0)))) (fun i s => s.length ≤ i) 0 (fun k i hi s hI hB => ?_) (fun k s hI => ?_) k [] (by omega) (by simp)).trans ?_
  · right
    simp only [impl_playersAt.l0, impl_Turn_end.f]
    rw [if_pos (lt_cast hi), if_pos (nn_cast i), if_pos (lt_cast hi), rd_iTurn hi, wrap_succ hi (by omega)]
    simp only [Option.bind_some, within_eq]
    rw [List.filter_cons]
    by_cases h : playsAt t l[i] = true
    · have h' : (decide (l[i].f1 ≤ t) && decide (t ≤ wrap64 (wrap64 (l[i].f1 + l[i].f2) - 1))) = true := h
      rw [if_pos h, if_pos h', if_pos (show s.length < 8796093022208 by omega)]
      exact ⟨s ++ [l[i].f0], by simp; omega, by rw [List.map_cons, List.append_assoc]; rfl, rfl⟩
    · have h' : ¬ (decide (l[i].f1 ≤ t) && decide (t ≤ wrap64 (wrap64 (l[i].f1 + l[i].f2) - 1))) = true := h
      rw [if_neg h, if_neg h']
      exact ⟨s, by omega, rfl, rfl⟩
  · simp only [impl_playersAt.l0]
    rw [if_neg (nlt_cast _), Sort_eq (by omega)]
    simp [slices_Compact_S_string.f]
  · simp
def hasB (x : ByteArray) (l : List ByteArray) : Bool := l.any fun y => decide (y.toList = x.toList)
theorem hasB_iff {x : ByteArray} {l : List ByteArray} : hasB x l = true ↔ x ∈ l := by
  unfold hasB
  rw [List.any_eq_true]
  constructor
  · rintro ⟨y, hy, e⟩; rw [← toList_iff.1 (of_decide_eq_true e)]; exact hy
  · intro h; exact ⟨x, h, decide_eq_true rfl⟩
theorem l23Names_eq {l : List ByteArray} (hl : l.length ≤ 1048576) (x : ByteArray) {k : Nat} (hk : l.length + 2 ≤ k) : spec_l23Names.f k l x = some (hasB x l) := by
  unfold spec_l23Names.f
  refine list_loop0 (fun k i => spec_l23Names.l0 k l x i) l (fun r => hasB x r) 0 (fun k i hi _ => ?_) (fun k => ?_) k (by omega)
  · simp only [spec_l23Names.l0]
    rw [if_pos (lt_cast hi), if_pos (nn_cast i), rdOf_get hi, wrap_succ hi (by omega)]
    by_cases h : l[i].toList = x.toList
    · rw [if_pos h]; left
      unfold hasB; rw [List.any_cons, decide_eq_true h]; rfl
    · rw [if_neg h]; right
      refine ⟨?_, rfl⟩
      unfold hasB; rw [List.any_cons, decide_eq_false h]; rfl
  · simp only [spec_l23Names.l0]
    rw [if_neg (nlt_cast _)]; rfl
theorem putG_split (x : ByteArray) : ∀ (l : List ByteArray) (_ : x ∉ l) (n : Nat) (hn : n ≤ l.length), (∀ j, (h : j < n) → ltB (l[j]'(by omega)) x = true) → (∀ h : n < l.length, ltB l[n] x = false) → putG x l false = l.take n ++ [x] ++ l.drop n
  | [], _, n, hn, _, _ => by
    have : n = 0 := by simpa using hn
    subst this; simp [putG]
  | y :: r, hx, n, hn, h1, h2 => by
    have hr : x ∉ r := fun h => hx (List.mem_cons_of_mem _ h)
    have hyx : ¬ y.toList = x.toList := fun e => hx (by rw [toList_iff.1 e]; exact List.mem_cons_self)
    rw [putG, if_neg hyx]
    cases n with
    | zero =>
      have h0 : ltB y x = false := h2 (by simp)
      rw [h0]
      simp only [Bool.not_false, Bool.and_self, if_true, Bool.or_true, putG_true]
      have : r.filter (fun z => decide (z.toList ≠ x.toList)) = r := by
        rw [List.filter_eq_self]
        intro z hz
        exact decide_eq_true (fun e => hr (by rw [← toList_iff.1 e]; exact hz))
      rw [this]; simp
    | succ n =>
      have h0 : ltB y x = true := h1 0 (by omega)
      rw [h0]
      simp only [Bool.not_true, Bool.and_false, Bool.false_eq_true, if_false, List.nil_append, Bool.or_false, List.singleton_append]
      rw [putG_split x r hr n (by simpa using hn) (fun j hj => by simpa using h1 (j + 1) (by omega)) (fun h => by have h3 := h2 (by simpa using h); rwa [List.getElem_cons_succ] at h3)]
      simp
theorem At_l1 {l : List S62} {t : Int} {out : List ByteArray} {i : Int} (ho : out.length ≤ 1000) {x : ByteArray} (hx : x ∉ out) (a b : Int) : ∀ (d k j : Nat), j + d = out.length → d + 2 ≤ k → (∀ q, (h : q < j) → (hq : q < out.length) → ltB out[q] x = true) →
    ∃ k', k ≤ k' + d + 1 ∧ spec_l23At.l1 k l t out i (j : Int) x a b = spec_l23At.l0 k' l t (putG x out false) (wrap64 (i + 1)) := by
  intro d
  induction d with
  | zero =>
    intro k j hj hk hall
    obtain ⟨k, rfl⟩ : ∃ m, k = m + 1 := ⟨k - 1, by omega⟩
    obtain rfl : j = out.length := by omega
    refine ⟨k, by omega, ?_⟩
    simp only [spec_l23At.l1]
    rw [if_neg (nlt_cast _)]
    simp only [Option.bind_some]
    rw [if_pos (nn_cast _), if_pos (by omega)]
    simp only [Int.toNat_natCast, List.nil_append, List.length_nil]
    rw [if_pos (by simp; omega), if_pos (by simp; omega), if_pos (by simp; omega)]
    rw [putG_split x out hx out.length (Nat.le_refl _) (fun q h => hall q h (by omega)) (fun h => absurd h (by omega))]
  | succ d ih =>
    intro k j hj hk hall
    obtain ⟨k, rfl⟩ : ∃ m, k = m + 1 := ⟨k - 1, by omega⟩
    have hlt : j < out.length := by omega
    simp only [spec_l23At.l1]
    rw [if_pos (lt_cast hlt), if_pos (nn_cast j), rdOf_get hlt]
    by_cases h : Op.bytesLess out[j].toList x.toList = true
    · rw [if_pos h, wrap_succ hlt (by omega)]
      obtain ⟨k', h1, h2⟩ := ih k (j + 1) (by omega) (by omega) (fun q hq hq2 => by
        by_cases e : q = j
        · subst e; exact h
        · exact hall q (by omega) hq2)
      exact ⟨k', by omega, h2⟩
    · rw [if_neg h]
      refine ⟨k, by omega, ?_⟩
      simp only [Option.bind_some]
      rw [if_pos (by omega)]
      simp only [Int.toNat_natCast, List.nil_append, List.length_nil]
      rw [if_pos (by simp; omega), if_pos (by simp; omega), if_pos (by simp; omega)]
      rw [putG_split x out hx j (by omega) (fun q h => hall q h (by omega)) (fun _ => by rw [Bool.not_eq_true] at h; exact h)]
theorem putG_mem {x : ByteArray} {l : List ByteArray} (ha : Asc l) (hx : x ∈ l) : putG x l false = l :=
  asc_ext (asc_putG x ha) ha (fun z => by
    rw [mem_putG]
    exact ⟨fun h => h.elim (fun e => e ▸ hx) id, .inr⟩)
theorem l23At_eq {l : List S62} (hl : l.length ≤ 100) (t : Int) {k : Nat} (hk : 30000 ≤ k) : spec_l23At.f k l t = some (playing l t) := by
  unfold spec_l23At.f playing
  refine list_loopV (fun k s i => spec_l23At.l0 k l t s i) l (fun r s => puts ((r.filter (playsAt t)).map (·.f0)) s) (fun i s => s.length ≤ i ∧ Asc s) 300 200 (fun k i hi s hI hB => ?_) (fun k s hI hB => ?_) k [] (by omega) ⟨by simp, by simp [Asc]⟩
  · right
    obtain ⟨hI, hA⟩ := hI
    show ∃ s' k', _ ∧ _ ∧ _ ∧ spec_l23At.l0 (k + 199 + 1) l t s i = _
    simp only [spec_l23At.l0]
    rw [if_pos (lt_cast hi), if_pos (nn_cast i), rd_iTurn hi]
    simp only [Option.bind_some, in_eq]
    rw [List.filter_cons]
    by_cases h : playsAt t l[i] = true
    · have h' : (decide (l[i].f1 ≤ t) && decide (t ≤ wrap64 (wrap64 (l[i].f1 + l[i].f2) - 1))) = true := h
      rw [if_pos h, if_pos h', l23Names_eq (by omega) _ (by omega)]
      simp only [Option.bind_some]
      rw [show k + 199 = k + 198 + 1 by omega]
      simp only [spec_l23At.j1]
      by_cases hx : l[i].f0 ∈ s
      · rw [if_pos (hasB_iff.2 hx), wrap_succ hi (by omega)]
        refine ⟨s, k + 198, by omega, ⟨by omega, hA⟩, ?_, rfl⟩
        show puts _ (putG l[i].f0 s false) = _
        rw [putG_mem hA hx]
      · rw [if_neg (fun e => hx (hasB_iff.1 e))]
        obtain ⟨k', h1, h2⟩ := At_l1 (l := l) (t := t) (i := (i : Int)) (out := s) (by omega) hx l[i].f1 l[i].f2 s.length (k + 198) 0 (by omega) (by omega) (fun q hq _ => absurd hq (by omega))
        have h2' : spec_l23At.l1 (k + 198) l t s (i : Int) 0 l[i].f0 l[i].f1 l[i].f2 = spec_l23At.l0 k' l t (putG l[i].f0 s false) (wrap64 ((i : Int) + 1)) := h2
        rw [h2', wrap_succ hi (by omega)]
        have := putG_length l[i].f0 s false
        exact ⟨putG l[i].f0 s false, k', by omega, ⟨by omega, asc_putG _ hA⟩, rfl, rfl⟩
    · have h' : ¬ (decide (l[i].f1 ≤ t) && decide (t ≤ wrap64 (wrap64 (l[i].f1 + l[i].f2) - 1))) = true := h
      rw [if_neg h, if_neg h', show k + 199 = k + 198 + 1 by omega]
      simp only [spec_l23At.j1]
      rw [if_pos trivial, wrap_succ hi (by omega)]
      exact ⟨s, k + 198, by omega, ⟨by omega, hA⟩, rfl, rfl⟩
  · show spec_l23At.l0 (k + 199 + 1) l t s l.length = _
    simp only [spec_l23At.l0]
    rw [if_neg (nlt_cast _)]; rfl
end Go.Proofs.Ytjlfolmjkppneaa.P

namespace Go.Proofs.Ytjlfolmjkppneaa.P
open Go.RowKit Go.Proofs.YtjlfolmjkppneaaW.PrintWords Go.Proofs.YtjlfolmjkppneaaL
def scanF (c : Int → Int) (s : Int × Int) (t : Int) : Int × Int := if c t > s.2 then (t, c t) else s
theorem scan_spec (c : Int → Int) : ∀ (l : List Int) (_ : l.Pairwise (· ≤ ·)) (s : Int × Int), s.2 ≤ (l.foldl (scanF c) s).2 ∧ (∀ t ∈ l, c t ≤ (l.foldl (scanF c) s).2) ∧
    (l.foldl (scanF c) s = s ∨ ((l.foldl (scanF c) s).1 ∈ l ∧ c (l.foldl (scanF c) s).1 = (l.foldl (scanF c) s).2 ∧ s.2 < (l.foldl (scanF c) s).2 ∧ ∀ t ∈ l, c t = (l.foldl (scanF c) s).2 → (l.foldl (scanF c) s).1 ≤ t))
  | [], _, s => ⟨Int.le_refl _, by simp, .inl rfl⟩
  | x :: r, hp, s => by
    obtain ⟨hx, hr⟩ := List.pairwise_cons.1 hp
    obtain ⟨i1, i2, i3⟩ := scan_spec c r hr (scanF c s x)
    show s.2 ≤ (r.foldl (scanF c) (scanF c s x)).2 ∧ (∀ t ∈ x :: r, c t ≤ (r.foldl (scanF c) (scanF c s x)).2) ∧ _
    rw [List.foldl_cons]
    generalize r.foldl (scanF c) (scanF c s x) = w at i1 i2 i3 ⊢
    unfold scanF at i1 i3
    by_cases h : c x > s.2
    · rw [if_pos h] at i1 i3
      have i1' : c x ≤ w.2 := i1
      refine ⟨by omega, fun t ht => ?_, .inr ?_⟩
      · rcases List.mem_cons.1 ht with e | ht
        · rw [e]; exact i1
        · exact i2 t ht
      · rcases i3 with e | ⟨j1, j2, j3, j4⟩
        · rw [e]
          refine ⟨List.mem_cons_self, rfl, h, fun t ht _ => ?_⟩
          rcases List.mem_cons.1 ht with e | ht
          · rw [e]; exact Int.le_refl _
          · exact hx t ht
        · have j3' : c x < w.2 := j3
          refine ⟨List.mem_cons_of_mem _ j1, j2, by omega, fun t ht e => ?_⟩
          rcases List.mem_cons.1 ht with e2 | ht
          · rw [e2] at e; omega
          · exact j4 t ht e
    · rw [if_neg h] at i1 i3
      refine ⟨i1, fun t ht => ?_, ?_⟩
      · rcases List.mem_cons.1 ht with e | ht
        · rw [e]; omega
        · exact i2 t ht
      · rcases i3 with e | ⟨j1, j2, j3, j4⟩
        · exact .inl e
        · refine .inr ⟨List.mem_cons_of_mem _ j1, j2, j3, fun t ht e => ?_⟩
          rcases List.mem_cons.1 ht with e2 | ht
          · rw [e2] at e; omega
          · exact j4 t ht e
theorem scan_same (c : Int → Int) {E S : List Int} (hE : E.Pairwise (· ≤ ·)) (hS : S.Pairwise (· ≤ ·)) (hsub : ∀ s ∈ S, s ∈ E) (hdom : ∀ e ∈ E, ∃ s ∈ S, s ≤ e ∧ c e ≤ c s) : E.foldl (scanF c) (0, 0) = S.foldl (scanF c) (0, 0) := by
  obtain ⟨e1, e2, e3⟩ := scan_spec c E hE (0, 0)
  obtain ⟨s1, s2, s3⟩ := scan_spec c S hS (0, 0)
  generalize E.foldl (scanF c) (0, 0) = x at e1 e2 e3 ⊢
  generalize S.foldl (scanF c) (0, 0) = y at s1 s2 s3 ⊢
  simp only at e1 s1 e3 s3
  have hm : x.2 = y.2 := by
    apply Int.le_antisymm
    · rcases e3 with e | ⟨j1, j2, _⟩
      · rw [e]; exact s1
      · obtain ⟨s, hs, _, h⟩ := hdom _ j1
        have := s2 s hs; omega
    · rcases s3 with e | ⟨j1, j2, _⟩
      · rw [e]; exact e1
      · have := e2 _ (hsub _ j1); omega
  rcases e3 with e | ⟨j1, j2, j3, j4⟩
  · rcases s3 with e' | ⟨k1, k2, k3, k4⟩
    · rw [e, e']
    · rw [e] at hm; simp only at hm; omega
  · rcases s3 with e' | ⟨k1, k2, k3, k4⟩
    · rw [e'] at hm; simp only at hm; omega
    · obtain ⟨s, hs, hle, h⟩ := hdom _ j1
      have a1 := s2 s hs
      have a2 := k4 s hs (by omega)
      have a3 := j4 _ (hsub _ k1) (by omega)
      exact Prod.ext (by omega) hm
theorem asc_len : ∀ {b a : List ByteArray}, Asc a → Asc b → (∀ z ∈ a, z ∈ b) → a.length ≤ b.length
  | _, [], _, _, _ => by simp
  | [], x :: _, _, _, h => absurd (h x List.mem_cons_self) (by simp)
  | y :: s, x :: r, ha, hb, h => by
    obtain ⟨hx, hr⟩ := List.pairwise_cons.1 ha
    obtain ⟨hy, hs⟩ := List.pairwise_cons.1 hb
    by_cases e : x = y
    · subst e
      have := asc_len hr hs (fun z hz => by
        rcases List.mem_cons.1 (h z (List.mem_cons_of_mem _ hz)) with e2 | h2
        · rw [e2] at hz; exact absurd (hx x hz) (ltB_irrefl x)
        · exact h2)
      simp only [List.length_cons]; omega
    · have hxs : x ∈ s := (List.mem_cons.1 (h x List.mem_cons_self)).resolve_left e
      have := asc_len (a := x :: r) ha hs (fun z hz => by
        rcases List.mem_cons.1 (h z hz) with e2 | h2
        · rcases List.mem_cons.1 hz with e3 | h3
          · exact absurd (e3.symm.trans e2) e
          · have := ltB_trans (hy x hxs) (hx z h3)
            rw [e2] at this; exact absurd this (ltB_irrefl y)
        · exact h2)
      simp only [List.length_cons] at this ⊢; omega
theorem exists_max (e : Int) : ∀ (S : List Int), (∃ s ∈ S, s ≤ e) → ∃ s ∈ S, s ≤ e ∧ ∀ u ∈ S, u ≤ e → u ≤ s
  | [], h => by obtain ⟨s, hs, _⟩ := h; simp at hs
  | x :: r, h => by
    by_cases hr : ∃ s ∈ r, s ≤ e
    · obtain ⟨s, hs, h1, h2⟩ := exists_max e r hr
      by_cases hx : x ≤ e ∧ s ≤ x
      · exact ⟨x, List.mem_cons_self, hx.1, fun u hu hue => by
          rcases List.mem_cons.1 hu with e2 | hu
          · omega
          · have := h2 u hu hue; omega⟩
      · exact ⟨s, List.mem_cons_of_mem _ hs, h1, fun u hu hue => by
          rcases List.mem_cons.1 hu with e2 | hu
          · subst e2; omega
          · exact h2 u hu hue⟩
    · obtain ⟨s, hs, h1⟩ := h
      rcases List.mem_cons.1 hs with e2 | hs
      · subst e2
        exact ⟨s, List.mem_cons_self, h1, fun u hu hue => by
          rcases List.mem_cons.1 hu with e2 | hu
          · omega
          · exact absurd ⟨u, hu, hue⟩ hr⟩
      · exact absurd ⟨s, hs, h1⟩ hr
def endsF (acc : List Int) (x : S62) : List Int := putI (wrap64 (x.f1 + x.f2)) (putI x.f1 acc false) false
def ends (l : List S62) : List Int := l.foldl endsF []
theorem l23Ends_eq {l : List S62} (hl : l.length ≤ 100) {k : Nat} (hk : 1000 ≤ k) : spec_l23Ends.f k l = some (ends l) := by
  unfold spec_l23Ends.f ends
  refine list_loop (fun k s i => spec_l23Ends.l0 k l s i) l (fun r s => r.foldl endsF s) (fun i s => s.length ≤ 2 * i) 500 (fun k i hi s hI hB => ?_) (fun k s hI => ?_) k [] (by omega) (by simp)
  · right
    simp only [spec_l23Ends.l0]
    have a1 := putI_length l[i].f1 s
    have a2 := putI_length (wrap64 (l[i].f1 + l[i].f2)) (putI l[i].f1 s false)
    rw [if_pos (lt_cast hi), if_pos (nn_cast i), rd_iTurn hi, l00Put_eq (by omega) _ (by omega), wrap_succ hi (by omega)]
    simp only [Option.bind_some]
    rw [l00Put_eq (by omega) _ (by omega)]
    exact ⟨endsF s l[i], by unfold endsF; omega, rfl, rfl⟩
  · simp only [spec_l23Ends.l0]
    rw [if_neg (nlt_cast _)]; rfl
theorem mem_ends : ∀ (l : List S62) (acc : List Int) (z : Int), z ∈ l.foldl endsF acc ↔ (∃ x ∈ l, z = x.f1 ∨ z = wrap64 (x.f1 + x.f2)) ∨ z ∈ acc
  | [], acc, z => by simp
  | x :: r, acc, z => by
    rw [List.foldl_cons, mem_ends r]
    unfold endsF
    rw [mem_putI, mem_putI]
    constructor
    · rintro (⟨y, hy, h⟩ | h | h | h)
      · exact .inl ⟨y, List.mem_cons_of_mem _ hy, h⟩
      · exact .inl ⟨x, List.mem_cons_self, .inr h⟩
      · exact .inl ⟨x, List.mem_cons_self, .inl h⟩
      · exact .inr h
    · rintro (⟨y, hy, h⟩ | h)
      · rcases List.mem_cons.1 hy with e | hy
        · subst e; rcases h with h | h
          · exact .inr (.inr (.inl h))
          · exact .inr (.inl h)
        · exact .inl ⟨y, hy, h⟩
      · exact .inr (.inr (.inr h))
theorem asc_ends : ∀ (l : List S62) {acc : List Int}, AscI acc → AscI (l.foldl endsF acc)
  | [], _, h => h
  | _ :: r, _, h => asc_ends r (asc_putI _ (asc_putI _ h))
theorem turnLess_le {a b : S62} (h : turnLess a b = true) : a.f1 ≤ b.f1 := by
  unfold turnLess at h
  by_cases e : a.f1 = b.f1
  · omega
  · rw [if_neg e] at h; have := of_decide_eq_true h; omega
theorem starts_asc {l : List S62} (h : turnsB l = true) : (l.map (·.f1)).Pairwise (· ≤ ·) := by
  unfold turnsB at h
  simp only [Bool.and_eq_true, List.all_eq_true, List.mem_range] at h
  have step : ∀ i (hi : i + 1 < l.length), (l[i]'(by omega)).f1 ≤ l[i + 1].f1 := by
    intro i hi
    have h2 := h.1 (i + 1) hi
    unfold turnAt at h2
    rw [rd_iTurn hi, show i + 1 - 1 = i by omega, rd_iTurn (by omega : i < l.length), Bool.and_eq_true, decide_eq_false (by omega : ¬ i + 1 = 0), Bool.false_or] at h2
    exact turnLess_le h2.2
  rw [List.pairwise_map, List.pairwise_iff_getElem]
  intro i j hi hj hij
  have main : ∀ d, (hd : i + d < l.length) → (l[i]'(by omega)).f1 ≤ (l[i + d]'hd).f1 := by
    intro d
    induction d with
    | zero => intro _; exact Int.le_refl _
    | succ d ih => intro hd; exact Int.le_trans (ih (by omega)) (step (i + d) hd)
  have := main (j - i) (by omega)
  simpa [show i + (j - i) = j by omega] using this
theorem turn_end {x : S62} (h : turnB x = true) : wrap64 (x.f1 + x.f2) = x.f1 + x.f2 ∧ 1 ≤ x.f2 ∧ x.f2 ≤ 10000 ∧ 0 ≤ x.f1 ∧ x.f1 ≤ 10000 := by
  unfold turnB at h
  simp only [Bool.and_eq_true, decide_eq_true_iff] at h
  obtain ⟨⟨_, h1, h2⟩, h3, h4⟩ := h
  exact ⟨wrap_id (by omega) (by omega), h3, h4, h1, h2⟩
def playN (l : List S62) (t : Int) : Int := ((playing l t).length : Int)
theorem mem_playing {l : List S62} {t : Int} {z : ByteArray} : z ∈ playing l t ↔ ∃ x ∈ l, playsAt t x = true ∧ x.f0 = z := by
  unfold playing
  rw [mem_puts]
  simp only [List.mem_map, List.mem_filter, List.not_mem_nil, or_false]
  constructor
  · rintro ⟨x, ⟨h1, h2⟩, h3⟩; exact ⟨x, h1, h2, h3⟩
  · rintro ⟨x, h1, h2, h3⟩; exact ⟨x, ⟨h1, h2⟩, h3⟩
theorem asc_playing (l : List S62) (t : Int) : Asc (playing l t) := asc_puts _ (by simp [Asc])
theorem fullest {l : List S62} (hv : turnsB l = true) : (ends l).foldl (scanF (playN l)) (0, 0) = (l.map (·.f1)).foldl (scanF (playN l)) (0, 0) := by
  have hE : (ends l).Pairwise (· ≤ ·) := (asc_ends l (by simp [AscI] : AscI [])).imp fun h => Int.le_of_lt h
  have hmem : ∀ z, z ∈ ends l ↔ ∃ x ∈ l, z = x.f1 ∨ z = wrap64 (x.f1 + x.f2) := fun z => by unfold ends; rw [mem_ends]; simp
  refine scan_same (playN l) hE (starts_asc hv) (fun s hs => ?_) (fun e he => ?_)
  · obtain ⟨x, hx, rfl⟩ := List.mem_map.1 hs
    exact (hmem _).2 ⟨x, hx, .inl rfl⟩
  · obtain ⟨x, hx, hex⟩ := (hmem _).1 he
    have ht := turn_end (turns_each hv x hx)
    obtain ⟨s, hs, h1, h2⟩ := exists_max e (l.map (·.f1)) ⟨x.f1, List.mem_map.2 ⟨x, hx, rfl⟩, by rcases hex with h | h <;> omega⟩
    refine ⟨s, hs, h1, ?_⟩
    unfold playN
    have := asc_len (asc_playing l e) (asc_playing l s) (fun z hz => by
      obtain ⟨y, hy, hp, hz⟩ := mem_playing.1 hz
      refine mem_playing.2 ⟨y, hy, ?_, hz⟩
      unfold playsAt at hp ⊢
      simp only [Bool.and_eq_true, decide_eq_true_iff] at hp ⊢
      have := h2 y.f1 (List.mem_map.2 ⟨y, hy, rfl⟩) hp.1
      exact ⟨this, by omega⟩)
    omega
theorem FullestTime_spec {l : List S62} (hl : l.length ≤ 1048576) (h : turnsB l = true) (h0 : l.length ≠ 0) {k : Nat} (hk : 1048600 ≤ k) : spec_FullestTime.f k l = some (((ends l).foldl (scanF (playN l)) (0, 0)).1, ((ends l).foldl (scanF (playN l)) (0, 0)).2, 0) := by
  unfold spec_FullestTime.f
  have hl' := turns_len h
  rw [l23Ok_eq hl hk]; simp only [Option.bind_some, if_pos h]
  rw [if_neg (by omega), l23Ends_eq (by omega) (by omega)]; simp only [Option.bind_some]
  have hlen : (ends l).length ≤ 1000000 := by
    have : ∀ (r : List S62) (acc : List Int), (r.foldl endsF acc).length ≤ acc.length + 2 * r.length := by
      intro r
      induction r with
      | nil => intro acc; simp
      | cons x r ih =>
        intro acc
        have a1 := putI_length x.f1 acc
        have a2 := putI_length (wrap64 (x.f1 + x.f2)) (putI x.f1 acc false)
        have := ih (endsF acc x)
        unfold endsF at this
        rw [List.foldl_cons, List.length_cons]; unfold endsF; omega
    have := this l []
    unfold ends; simp at this; omega
  have main := list_loop (fun k (s : Int × Int) i => spec_FullestTime.l0 k l (ends l) s.1 s.2 i) (ends l) (fun r s => ((r.foldl (scanF (playN l)) s).1, (r.foldl (scanF (playN l)) s).2, (0 : Int))) (fun _ _ => True) 30000 (fun k i hi s hI hB => ?_) (fun k s hI => ?_) k (0, 0) (by omega) trivial
  · exact main
  · right
    simp only [spec_FullestTime.l0]
    rw [if_pos (lt_cast hi), if_pos (nn_cast i), rd_get hi, wrap_succ hi (by omega), l23At_eq (by omega) _ hB]
    simp only [Option.bind_some]
    refine ⟨scanF (playN l) s (ends l)[i], trivial, rfl, ?_⟩
    unfold scanF playN
    by_cases hc : ((playing l (ends l)[i]).length : Int) > s.2
    · rw [if_pos hc, if_pos hc]
    · rw [if_neg hc, if_neg hc]
  · simp only [spec_FullestTime.l0]
    rw [if_neg (nlt_cast _)]; rfl
theorem FullestTime_impl {l : List S62} (h : turnsB l = true) (h0 : l.length ≠ 0) {k : Nat} (hk : 1000 ≤ k) : impl_FullestTime.f k l = some (((l.map (·.f1)).foldl (scanF (playN l)) (0, 0)).1, ((l.map (·.f1)).foldl (scanF (playN l)) (0, 0)).2, 0) := by
  unfold impl_FullestTime.f
  have hl' := turns_len h
  rw [ValidTurns_eq (by omega)]; simp only [Option.bind_some, if_pos h]
  rw [if_neg (by omega)]
  have main := list_loop (fun k (s : Int × Int) i => impl_FullestTime.l0 k l s.1 s.2 l (l.length : Int) i) l (fun r s => (((r.map (·.f1)).foldl (scanF (playN l)) s).1, ((r.map (·.f1)).foldl (scanF (playN l)) s).2, (0 : Int))) (fun _ _ => True) 100 (fun k i hi s hI hB => ?_) (fun k s hI => ?_) k (0, 0) (by omega) trivial
  · exact main
  · right
    simp only [impl_FullestTime.l0]
    rw [if_pos (lt_cast hi), if_pos (nn_cast i), if_pos (lt_cast hi), rd_iTurn hi, wrap_succ hi (by omega), playersAt_eq (by omega) _ (by omega)]
    simp only [Option.bind_some]
    refine ⟨scanF (playN l) s l[i].f1, trivial, rfl, ?_⟩
    unfold scanF playN
    by_cases hc : ((playing l l[i].f1).length : Int) > s.2
    · rw [if_pos hc, if_pos hc]
    · rw [if_neg hc, if_neg hc]
  · simp only [impl_FullestTime.l0]
    rw [if_neg (nlt_cast _)]; rfl
end Go.Proofs.Ytjlfolmjkppneaa.P

namespace Go.Proofs.Ytjlfolmjkppneaa.Pure
open Go.RowKit Go.Proofs.YtjlfolmjkppneaaW.PrintWords Go.Proofs.YtjlfolmjkppneaaL Go.Proofs.Ytjlfolmjkppneaa.P
theorem FnExactFullestTime : ∀ (x0 : List (P.S61)), (x0.length ≤ maxLen ∧ ∀ y ∈ x0, g61 y) → ∃ k : Nat, P.laws_FnExactFullestTime.f k x0 = some true := by
  intro x0 ⟨hl0, hg0⟩
  refine ⟨2097200, ?_⟩
  unfold laws_FnExactFullestTime.f
  obtain ⟨r, hr, h⟩ := szTurnS_some hl0 hg0 (a := 1048576) (by omega) (by omega) (k := 2097200) (by omega)
  rw [hr]; simp only [Option.bind_some]
  by_cases h0 : r < 0
  · rw [if_pos h0]
  rw [if_neg h0]
  obtain ⟨_, _, z0, s0⟩ := h.resolve_left h0
  have hz : (x0.map cTurn).length ≤ 1048576 := by simpa using z0
  have hT : ∀ k, 1048600 ≤ k → laws_toTurnS.f k x0 = some (x0.map cTurn) := fun k hk => toTurnS_eq z0 s0 hk
  have hE : ∀ k, 1048600 ≤ k → laws_eqTurnS.f k (x0.map cTurn) (x0.map cTurn) = some true := fun k hk => by rw [eqTurnS_eq hz (smi_turns _) hk]; simp
  rw [hT _ (by omega)]
  simp only [Option.bind_some]
  generalize x0.map cTurn = l at hz hT hE ⊢
  obtain ⟨v, hS, hI⟩ : ∃ v, (∀ k, 2097000 ≤ k → spec_FullestTime.f k l = some v) ∧ (∀ k, 2097000 ≤ k → impl_FullestTime.f k l = some v) := by
    by_cases hv : turnsB l = true
    · by_cases hl : l.length = 0
      · refine ⟨(0, 0, 3), fun k hk => ?_, fun k hk => ?_⟩
        · unfold spec_FullestTime.f; rw [l23Ok_eq hz (by omega)]; simp [hv, hl]
        · unfold impl_FullestTime.f; rw [ValidTurns_eq (by omega)]; simp [hv, hl]
      · refine ⟨_, fun k hk => FullestTime_spec hz hv hl (by omega), fun k hk => ?_⟩
        rw [fullest hv]; exact FullestTime_impl hv hl (by omega)
    · refine ⟨(0, 0, 1), fun k hk => ?_, fun k hk => ?_⟩
      · unfold spec_FullestTime.f; rw [l23Ok_eq hz (by omega)]; simp [hv]
      · unfold impl_FullestTime.f; rw [ValidTurns_eq (by omega)]; simp [hv]
  rw [hS _ (by omega)]
  simp only [Option.bind_some]
  rw [hI _ (by omega)]
  simp only [Option.bind_some, if_true, laws_FnExactFullestTime.j0, bne_self_eq_false, Bool.false_eq_true, if_false]
  rw [hT _ (by omega)]; simp only [Option.bind_some]
  rw [hE _ (by omega)]; simp
end Go.Proofs.Ytjlfolmjkppneaa.Pure
