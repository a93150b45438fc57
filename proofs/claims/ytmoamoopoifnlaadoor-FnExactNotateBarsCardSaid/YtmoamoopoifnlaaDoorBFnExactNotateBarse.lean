/- Part e of what FnExactNotateBars stands on: functions of the program as Lean functions with their walks, and plain lemmas. -/
import Derived.Test.YtmoamoopoifnlaaDoorK
import Derived.Test.YtmoamoopoifnlaaDoorBFnExactNotateBarsa
import Derived.Test.YtmoamoopoifnlaaDoorBFnExactNotateBarsb
import Derived.Test.YtmoamoopoifnlaaDoorBFnExactNotateBarsd
import Derived.ChangeOld
import Derived.ChangeArms
import Derived.WideShapes
import Derived.Test.YtmoamoopoifnlaaDoorWWords
import Derived.KernelRfl
import Derived.Test.YtmoamoopoifnlaaDoorBFnExactNotateBarsc
namespace Go.Proofs.YtmoamoopoifnlaaDoor.P
open Go.RowKit Go.Proofs.YtmoamoopoifnlaaDoorW.PrintWords Go.Proofs.YtmoamoopoifnlaaDoorW.PrintLast Go.Proofs.YtmoamoopoifnlaaDoorW.PrintMore
attribute [local go_sem] max2_int min2_int max_two min_two max_three min_three max_four min_four str_leq str_gtr str_geq
set_option linter.unusedVariables false
set_option linter.unusedSimpArgs false

def laws_FnExactNotateBars.j0 : Nat → List (S46) → List (S44) → Bool → ByteArray → List Int → List Int → ByteArray → List Int → List Int → Option (Bool)
  | 0, _, _, _, _, _, _, _, _, _ => none
  | k + 1, x0, x10, x51, x102000, x102001, x102002, x127000, x127001, x127002 => if x51 = true then (some false) else ((laws_toNoteS.f k x0).bind fun t129 => ((laws_eqNoteS.f k x10 t129).bind fun t132 => (if t132 = true then ((laws_toTala.f k x102000 x102001 x102002).bind fun bt133 => ((laws_eqTala.f k x127000 x127001 x127002 bt133.1 bt133.2.1 bt133.2.2).bind fun t140 => (if t140 = true then (some true) else (some false)))) else (some false))))
def laws_FnExactNotateBars.f (k : Nat) (l0 : List (S46)) (a1_0 : ByteArray) (l1_1 : List Int) (l1_2 : List Int) (a2 : Int) : Option (Bool) := (laws_szNoteS.f l0 1048576).bind fun t102 => (if t102 < 0 then (some true) else ((laws_szTala.f a1_0 l1_1 l1_2 t102).bind fun t103 => (if t103 < 0 then (some true) else ((laws_toNoteS.f k l0).bind fun t104 => ((laws_toTala.f k a1_0 l1_1 l1_2).bind fun bt107 => ((spec_NotateBars.f k t104 bt107.1 bt107.2.1 bt107.2.2 a2).bind fun bt114 => ((laws_toNoteS.f k l0).bind fun t116 => ((laws_toTala.f k a1_0 l1_1 l1_2).bind fun bt119 => ((impl_NotateBars.f k t116 bt119.1 bt119.2.1 bt119.2.2 a2).bind fun bt127 => (if bt127.1.toList = bt114.1.toList then (laws_FnExactNotateBars.j0 k l0 t116 (bt127.2 != bt114.2) a1_0 l1_1 l1_2 bt119.1 bt119.2.1 bt119.2.2) else (laws_FnExactNotateBars.j0 k l0 t116 true a1_0 l1_1 l1_2 bt119.1 bt119.2.1 bt119.2.2)))))))))))
def laws_FnExactNotateBars.T8 : Bool × List (List Nat × List Nat) := (true, [([], []), ([0], [0]), ([], []), ([2, 1], [2]), ([], []), ([1, 3, 4, 3], [1, 3, 4]), ([5], [5]), ([6], [6]), ([6], [6]), ([7, 5, 0, 1, 2, 3, 4, 5, 6, 7], [7]), ([8, 9, 0, 1, 2, 3, 4, 5, 6, 7, 8, 9], [8])])
def laws_FnExactNotateBars.B8 : List Nat := [0, 1, 0, 7, 0, 31, 63, 127, 127, 255, 1023]
theorem laws_FnExactNotateBars.tab8 : rtab .any (opsOf Tryd.f3 8) = laws_FnExactNotateBars.T8 := by kernel_rfl
theorem laws_FnExactNotateBars.bits8 : waitsOk laws_FnExactNotateBars.T8.2 laws_FnExactNotateBars.B8 = true := by kernel_rfl
set_option maxHeartbeats 8000000 in
set_option maxRecDepth 100000 in
theorem laws_FnExactNotateBars.calls (k : Nat) (A0 : Option Addr) (c0 : Nat) (l0 : List (S46)) (a1_0 : ByteArray) (A1_1 : Option Addr) (c1_1 : Nat) (l1_1 : List Int) (A1_2 : Option Addr) (c1_2 : Nat) (l1_2 : List Int) (a2 : Int) (r : Bool) (w : World) (hD : Door1 w) (hr0 : Kd.C k46 w A0 l0.length l0) (hc0 : l0.length ≤ c0) (hr1_1 : Kd.C (Kd.int .i64) w A1_1 l1_1.length l1_1) (hc1_1 : l1_1.length ≤ c1_1) (hr1_2 : Kd.C (Kd.int .i64) w A1_2 l1_2.length l1_2) (hc1_2 : l1_2.length ≤ c1_2) (h : laws_FnExactNotateBars.f k l0 a1_0 l1_1 l1_2 a2 = some r) :
    Calls Tryd.prog 3 #[.slice A0 l0.length c0, .agg #[.string a1_0, .slice A1_1 l1_1.length c1_1, .slice A1_2 l1_2.length c1_2], .int .i64 a2] w fun e w' => e = .returned (.bool r) ∧ Below w.heap.size w w' := by
  have hu25 := Tryd.underlying25
  have hu32 := Tryd.underlying32
  have HD := Aside0.mk hD
  clear hD
  have HR0 := Aside0.mk hr0
  have HC0 := Aside0.mk hc0
  clear hr0 hc0
  have HR1_1 := Aside0.mk hr1_1
  have HC1_1 := Aside0.mk hc1_1
  clear hr1_1 hc1_1
  have HR1_2 := Aside0.mk hr1_2
  have HC1_2 := Aside0.mk hc1_2
  clear hr1_2 hc1_2
  have HB := Aside0.mk (Below.refl w.heap.size w)
  have H : ((laws_szNoteS.f l0 1048576).bind fun t102 => (if t102 < 0 then (some true) else ((laws_szTala.f a1_0 l1_1 l1_2 t102).bind fun t103 => (if t103 < 0 then (some true) else ((laws_toNoteS.f k l0).bind fun t104 => ((laws_toTala.f k a1_0 l1_1 l1_2).bind fun bt107 => ((spec_NotateBars.f k t104 bt107.1 bt107.2.1 bt107.2.2 a2).bind fun bt114 => ((laws_toNoteS.f k l0).bind fun t116 => ((laws_toTala.f k a1_0 l1_1 l1_2).bind fun bt119 => ((impl_NotateBars.f k t116 bt119.1 bt119.2.1 bt119.2.2 a2).bind fun bt127 => (if bt127.1.toList = bt114.1.toList then (laws_FnExactNotateBars.j0 k l0 t116 (bt127.2 != bt114.2) a1_0 l1_1 l1_2 bt119.1 bt119.2.1 bt119.2.2) else (laws_FnExactNotateBars.j0 k l0 t116 true a1_0 l1_1 l1_2 bt119.1 bt119.2.1 bt119.2.2)))))))))))) = some r := h
  clear h
  replace H := Option.bind_eq_some_iff.mp H
  obtain ⟨t102, A40, H⟩ := H
  replace H : (if t102 < 0 then (some true) else ((laws_szTala.f a1_0 l1_1 l1_2 t102).bind fun t103 => (if t103 < 0 then (some true) else ((laws_toNoteS.f k l0).bind fun t104 => ((laws_toTala.f k a1_0 l1_1 l1_2).bind fun bt107 => ((spec_NotateBars.f k t104 bt107.1 bt107.2.1 bt107.2.2 a2).bind fun bt114 => ((laws_toNoteS.f k l0).bind fun t116 => ((laws_toTala.f k a1_0 l1_1 l1_2).bind fun bt119 => ((impl_NotateBars.f k t116 bt119.1 bt119.2.1 bt119.2.2 a2).bind fun bt127 => (if bt127.1.toList = bt114.1.toList then (laws_FnExactNotateBars.j0 k l0 t116 (bt127.2 != bt114.2) a1_0 l1_1 l1_2 bt119.1 bt119.2.1 bt119.2.2) else (laws_FnExactNotateBars.j0 k l0 t116 true a1_0 l1_1 l1_2 bt119.1 bt119.2.1 bt119.2.2))))))))))) = some r := H
  have A4 := Aside0.mk A40
  clear A40
  by_cases c5 : t102 < 0
  · rw [if_pos c5] at H
    have c5b0 : decide (t102 < 0) = true := decide_eq_true c5
    clear c5
    obtain rfl := Option.some.inj H
    go_enter Tryd.func3, Tryd.ntmps3
    go_wp2_with (first | ((with_reducible refine gate_dst (N := 4) rfl ?_); refine box_event ?hg (N := 4) ?hd (cs := #[.string a1_0, .slice A1_1 l1_1.length c1_1, .slice A1_2 l1_2.length c1_2]) (t := 25) ?hr ?_; (case hd => rfl); (case hg => rfl); (case hr => first | (go_simp; done) | (go_simp; rfl)); intro gb101 hg w6 hbox hb; have n0_ := Aside0.mk (below_step (by repeat (first | (with_reducible first | exact HB.out | apply below_alloc | apply pw_below_drewN | apply below_drew1) | exact HB.out)) hb); have n1_ := Aside0.mk (hbox); have n2_ := Aside0.mk ((by rw [hg]; exact (below_size (by repeat (first | (with_reducible first | exact HB.out | apply below_alloc | apply pw_below_drewN | apply below_drew1) | exact HB.out))) : w.heap.size ≤ gb101)); have n3_ := Aside0.mk ((by rw [hg]; exact (below_size (by repeat (first | (with_reducible first | exact HB.out | apply below_alloc | apply pw_below_drewN | apply below_drew1) | exact HB.out))) : w.heap.size ≤ gb101)); clear HB; have HB := n0_; have BK101 := n1_; have GW101 := n2_; have GE101 := n3_; clear n0_ n1_ n2_ n3_; clear hb hbox hg) | ((with_reducible refine gate_callee (f := 4) rfl ?_); refine goesL_ (some 16) rfl rfl Tryd.func4 (by kernel_rfl) rfl #[.slice A0 l0.length c0, .int .i64 1048576] rfl (by (try simp only [List.map_toArray, List.map_cons, List.map_nil]); first | done | rfl | (simp only [List.length_drop, List.length_take]; rfl)) ?_; (with_reducible refine (laws_szNoteS.calls _ _ l0 1048576 t102 _ ?side1 ?side2 A4.out).mono ?_); (case side1 => repeat (first | exact (Kd.C_below HR0.out HB.out) | (with_reducible refine Kd.C_alloc ?_ _) | (with_reducible refine Kd.C_drewN ?_ _) | (with_reducible refine Kd.C_drew ?_))); (case side2 => exact HC0.out); rintro e w' ⟨rfl, ⟨nd, rfl⟩⟩; refine ⟨_, rfl, ?_⟩))
    go_ret
    exact ⟨by first | rfl | (simp [errW_none, errW_some] <;> rfl) | (simp [*, errW_none, errW_some] <;> rfl), by repeat (first | (with_reducible first | exact HB.out | apply below_alloc | apply pw_below_drewN | apply below_drew1 | refine below_set ?_ GE101.out) | exact HB.out)⟩
  · rw [if_neg c5] at H
    have c5b0 : decide (t102 < 0) = false := decide_eq_false c5
    clear c5
    replace H := Option.bind_eq_some_iff.mp H
    obtain ⟨t103, A70, H⟩ := H
    replace H : (if t103 < 0 then (some true) else ((laws_toNoteS.f k l0).bind fun t104 => ((laws_toTala.f k a1_0 l1_1 l1_2).bind fun bt107 => ((spec_NotateBars.f k t104 bt107.1 bt107.2.1 bt107.2.2 a2).bind fun bt114 => ((laws_toNoteS.f k l0).bind fun t116 => ((laws_toTala.f k a1_0 l1_1 l1_2).bind fun bt119 => ((impl_NotateBars.f k t116 bt119.1 bt119.2.1 bt119.2.2 a2).bind fun bt127 => (if bt127.1.toList = bt114.1.toList then (laws_FnExactNotateBars.j0 k l0 t116 (bt127.2 != bt114.2) a1_0 l1_1 l1_2 bt119.1 bt119.2.1 bt119.2.2) else (laws_FnExactNotateBars.j0 k l0 t116 true a1_0 l1_1 l1_2 bt119.1 bt119.2.1 bt119.2.2))))))))) = some r := H
    have A7 := Aside0.mk A70
    clear A70
    by_cases c8 : t103 < 0
    · rw [if_pos c8] at H
      have c8b0 : decide (t103 < 0) = true := decide_eq_true c8
      clear c8
      obtain rfl := Option.some.inj H
      go_enter Tryd.func3, Tryd.ntmps3
      go_wp2_with (first | ((with_reducible refine gate_dst (N := 4) rfl ?_); refine box_event ?hg (N := 4) ?hd (cs := #[.string a1_0, .slice A1_1 l1_1.length c1_1, .slice A1_2 l1_2.length c1_2]) (t := 25) ?hr ?_; (case hd => rfl); (case hg => rfl); (case hr => first | (go_simp; done) | (go_simp; rfl)); intro gb101 hg w9 hbox hb; have n0_ := Aside0.mk (below_step (by repeat (first | (with_reducible first | exact HB.out | apply below_alloc | apply pw_below_drewN | apply below_drew1) | exact HB.out)) hb); have n1_ := Aside0.mk (hbox); have n2_ := Aside0.mk ((by rw [hg]; exact (below_size (by repeat (first | (with_reducible first | exact HB.out | apply below_alloc | apply pw_below_drewN | apply below_drew1) | exact HB.out))) : w.heap.size ≤ gb101)); have n3_ := Aside0.mk ((by rw [hg]; exact (below_size (by repeat (first | (with_reducible first | exact HB.out | apply below_alloc | apply pw_below_drewN | apply below_drew1) | exact HB.out))) : w.heap.size ≤ gb101)); clear HB; have HB := n0_; have BK101 := n1_; have GW101 := n2_; have GE101 := n3_; clear n0_ n1_ n2_ n3_; clear hb hbox hg) | ((with_reducible refine gate_callee (f := 4) rfl ?_); refine goesL_ (some 16) rfl rfl Tryd.func4 (by kernel_rfl) rfl #[.slice A0 l0.length c0, .int .i64 1048576] rfl (by (try simp only [List.map_toArray, List.map_cons, List.map_nil]); first | done | rfl | (simp only [List.length_drop, List.length_take]; rfl)) ?_; (with_reducible refine (laws_szNoteS.calls _ _ l0 1048576 t102 _ ?side1 ?side2 A4.out).mono ?_); (case side1 => repeat (first | exact (Kd.C_below HR0.out HB.out) | (with_reducible refine Kd.C_alloc ?_ _) | (with_reducible refine Kd.C_drewN ?_ _) | (with_reducible refine Kd.C_drew ?_))); (case side2 => exact HC0.out); rintro e w' ⟨rfl, ⟨nd, rfl⟩⟩; refine ⟨_, rfl, ?_⟩; have hcz10_0 : w9.cell? ⟨gb101, 0, none⟩ = some (.string a1_0) := (blk_cell BK101.out 0).trans rfl; have hcz10_1 : w9.cell? ⟨gb101, 1, none⟩ = some (.slice A1_1 l1_1.length c1_1) := (blk_cell BK101.out 1).trans rfl; have hcz10_2 : w9.cell? ⟨gb101, 2, none⟩ = some (.slice A1_2 l1_2.length c1_2) := (blk_cell BK101.out 2).trans rfl; have hfz10_0 := blk_frozen BK101.out 0; have hfz10_1 := blk_frozen BK101.out 1; have hfz10_2 := blk_frozen BK101.out 2) | ((with_reducible refine gate_callee (f := 5) rfl ?_); refine goesL_ (some 21) rfl rfl Tryd.func5 (by kernel_rfl) rfl #[.agg #[.string a1_0, .slice A1_1 l1_1.length c1_1, .slice A1_2 l1_2.length c1_2], .int .i64 t102] rfl (by (try simp only [List.map_toArray, List.map_cons, List.map_nil]); first | done | rfl | (simp only [List.length_drop, List.length_take]; rfl)) ?_; (with_reducible refine (laws_szTala.calls a1_0 _ _ l1_1 _ _ l1_2 t102 t103 _ ?side1 ?side2 ?side3 ?side4 A7.out).mono ?_); (case side1 => repeat (first | exact (Kd.C_below HR1_1.out (by repeat (first | (with_reducible first | exact HB.out | apply below_alloc | apply pw_below_drewN | apply below_drew1 | refine below_set ?_ GE101.out) | exact HB.out))) | (with_reducible refine Kd.C_alloc ?_ _) | (with_reducible refine Kd.C_drewN ?_ _) | (with_reducible refine Kd.C_drew ?_))); (case side2 => exact HC1_1.out); (case side3 => repeat (first | exact (Kd.C_below HR1_2.out (by repeat (first | (with_reducible first | exact HB.out | apply below_alloc | apply pw_below_drewN | apply below_drew1 | refine below_set ?_ GE101.out) | exact HB.out))) | (with_reducible refine Kd.C_alloc ?_ _) | (with_reducible refine Kd.C_drewN ?_ _) | (with_reducible refine Kd.C_drew ?_))); (case side4 => exact HC1_2.out); rintro e w11 ⟨rfl, hb⟩; refine ⟨_, rfl, ?_⟩; have n0_ := Aside0.mk (blk_below (g := gb101) (o := .cells #[.string a1_0, .slice A1_1 l1_1.length c1_1, .slice A1_2 l1_2.length c1_2] 25 (0, 0)) (by (with_reducible repeat (first | refine blk_drewN ?_ _ | refine blk_drew ?_ | refine blk_alloc ?_ _)); exact BK101.out) hb); have n1_ := Aside0.mk (below_step (by repeat (first | (with_reducible first | exact HB.out | apply below_alloc | apply pw_below_drewN | apply below_drew1 | refine below_set ?_ GE101.out) | exact HB.out)) hb); clear BK101; clear HB; have BK101 := n0_; have HB := n1_; clear n0_ n1_; (try clear hb); (try clear hb2); (try clear hk); (try clear hi)))
      go_ret
      exact ⟨by first | rfl | (simp [errW_none, errW_some] <;> rfl) | (simp [*, errW_none, errW_some] <;> rfl), by repeat (first | (with_reducible first | exact HB.out | apply below_alloc | apply pw_below_drewN | apply below_drew1 | refine below_set ?_ GE101.out) | exact HB.out)⟩
    · rw [if_neg c8] at H
      have c8b0 : decide (t103 < 0) = false := decide_eq_false c8
      clear c8
      replace H := Option.bind_eq_some_iff.mp H
      obtain ⟨t104, A120, H⟩ := H
      replace H : ((laws_toTala.f k a1_0 l1_1 l1_2).bind fun bt107 => ((spec_NotateBars.f k t104 bt107.1 bt107.2.1 bt107.2.2 a2).bind fun bt114 => ((laws_toNoteS.f k l0).bind fun t116 => ((laws_toTala.f k a1_0 l1_1 l1_2).bind fun bt119 => ((impl_NotateBars.f k t116 bt119.1 bt119.2.1 bt119.2.2 a2).bind fun bt127 => (if bt127.1.toList = bt114.1.toList then (laws_FnExactNotateBars.j0 k l0 t116 (bt127.2 != bt114.2) a1_0 l1_1 l1_2 bt119.1 bt119.2.1 bt119.2.2) else (laws_FnExactNotateBars.j0 k l0 t116 true a1_0 l1_1 l1_2 bt119.1 bt119.2.1 bt119.2.2))))))) = some r := H
      have A12 := Aside0.mk A120
      clear A120
      replace H := Option.bind_eq_some_iff.mp H
      obtain ⟨⟨t107, t108, t111⟩, A130, H⟩ := H
      replace H : ((spec_NotateBars.f k t104 t107 t108 t111 a2).bind fun bt114 => ((laws_toNoteS.f k l0).bind fun t116 => ((laws_toTala.f k a1_0 l1_1 l1_2).bind fun bt119 => ((impl_NotateBars.f k t116 bt119.1 bt119.2.1 bt119.2.2 a2).bind fun bt127 => (if bt127.1.toList = bt114.1.toList then (laws_FnExactNotateBars.j0 k l0 t116 (bt127.2 != bt114.2) a1_0 l1_1 l1_2 bt119.1 bt119.2.1 bt119.2.2) else (laws_FnExactNotateBars.j0 k l0 t116 true a1_0 l1_1 l1_2 bt119.1 bt119.2.1 bt119.2.2)))))) = some r := H
      have A13 := Aside0.mk A130
      clear A130
      replace H := Option.bind_eq_some_iff.mp H
      obtain ⟨⟨t114, t115⟩, A140, H⟩ := H
      replace H : ((laws_toNoteS.f k l0).bind fun t116 => ((laws_toTala.f k a1_0 l1_1 l1_2).bind fun bt119 => ((impl_NotateBars.f k t116 bt119.1 bt119.2.1 bt119.2.2 a2).bind fun bt127 => (if bt127.1.toList = t114.toList then (laws_FnExactNotateBars.j0 k l0 t116 (bt127.2 != t115) a1_0 l1_1 l1_2 bt119.1 bt119.2.1 bt119.2.2) else (laws_FnExactNotateBars.j0 k l0 t116 true a1_0 l1_1 l1_2 bt119.1 bt119.2.1 bt119.2.2))))) = some r := H
      have A14 := Aside0.mk A140
      clear A140
      replace H := Option.bind_eq_some_iff.mp H
      obtain ⟨t116, A150, H⟩ := H
      replace H : ((laws_toTala.f k a1_0 l1_1 l1_2).bind fun bt119 => ((impl_NotateBars.f k t116 bt119.1 bt119.2.1 bt119.2.2 a2).bind fun bt127 => (if bt127.1.toList = t114.toList then (laws_FnExactNotateBars.j0 k l0 t116 (bt127.2 != t115) a1_0 l1_1 l1_2 bt119.1 bt119.2.1 bt119.2.2) else (laws_FnExactNotateBars.j0 k l0 t116 true a1_0 l1_1 l1_2 bt119.1 bt119.2.1 bt119.2.2)))) = some r := H
      have A15 := Aside0.mk A150
      clear A150
      replace H := Option.bind_eq_some_iff.mp H
      obtain ⟨⟨t119, t120, t123⟩, A160, H⟩ := H
      replace H : ((impl_NotateBars.f k t116 t119 t120 t123 a2).bind fun bt127 => (if bt127.1.toList = t114.toList then (laws_FnExactNotateBars.j0 k l0 t116 (bt127.2 != t115) a1_0 l1_1 l1_2 t119 t120 t123) else (laws_FnExactNotateBars.j0 k l0 t116 true a1_0 l1_1 l1_2 t119 t120 t123))) = some r := H
      have A16 := Aside0.mk A160
      clear A160
      replace H := Option.bind_eq_some_iff.mp H
      obtain ⟨⟨t127, t128⟩, A170, H⟩ := H
      replace H : (if t127.toList = t114.toList then (laws_FnExactNotateBars.j0 k l0 t116 (t128 != t115) a1_0 l1_1 l1_2 t119 t120 t123) else (laws_FnExactNotateBars.j0 k l0 t116 true a1_0 l1_1 l1_2 t119 t120 t123)) = some r := H
      have A17 := Aside0.mk A170
      clear A170
      have HC18 := Aside0.mk H
      clear H
      go_enter Tryd.func3, Tryd.ntmps3
      try go_wp2_with (first | ((with_reducible refine gate_dst (N := 4) rfl ?_); refine box_event ?hg (N := 4) ?hd (cs := #[.string a1_0, .slice A1_1 l1_1.length c1_1, .slice A1_2 l1_2.length c1_2]) (t := 25) ?hr ?_; (case hd => rfl); (case hg => rfl); (case hr => first | (go_simp; done) | (go_simp; rfl)); intro gb101 hg w19 hbox hb; have n0_ := Aside0.mk (below_step (by repeat (first | (with_reducible first | exact HB.out | apply below_alloc | apply pw_below_drewN | apply below_drew1) | exact HB.out)) hb); have n1_ := Aside0.mk (hbox); have n2_ := Aside0.mk ((by rw [hg]; exact (below_size (by repeat (first | (with_reducible first | exact HB.out | apply below_alloc | apply pw_below_drewN | apply below_drew1) | exact HB.out))) : w.heap.size ≤ gb101)); have n3_ := Aside0.mk ((by rw [hg]; exact (below_size (by repeat (first | (with_reducible first | exact HB.out | apply below_alloc | apply pw_below_drewN | apply below_drew1) | exact HB.out))) : w.heap.size ≤ gb101)); clear HB; have HB := n0_; have BK101 := n1_; have GW101 := n2_; have GE101 := n3_; clear n0_ n1_ n2_ n3_; clear hb hbox hg) | ((with_reducible refine gate_callee (f := 4) rfl ?_); refine goesL_ (some 16) rfl rfl Tryd.func4 (by kernel_rfl) rfl #[.slice A0 l0.length c0, .int .i64 1048576] rfl (by (try simp only [List.map_toArray, List.map_cons, List.map_nil]); first | done | rfl | (simp only [List.length_drop, List.length_take]; rfl)) ?_; (with_reducible refine (laws_szNoteS.calls _ _ l0 1048576 t102 _ ?side1 ?side2 A4.out).mono ?_); (case side1 => repeat (first | exact (Kd.C_below HR0.out HB.out) | (with_reducible refine Kd.C_alloc ?_ _) | (with_reducible refine Kd.C_drewN ?_ _) | (with_reducible refine Kd.C_drew ?_))); (case side2 => exact HC0.out); rintro e w' ⟨rfl, ⟨nd, rfl⟩⟩; refine ⟨_, rfl, ?_⟩; (try (rw [drewN_self w19]; generalize hq_ : World.drewN w19 _ = w19; have n0_ : Aside0 (w19.heap[gb101]? = some (.cells #[.string a1_0, .slice A1_1 l1_1.length c1_1, .slice A1_2 l1_2.length c1_2] 25 (0, 0))) := ⟨by rw [← hq_]; exact (by (with_reducible repeat (first | refine blk_drewN ?_ _ | refine blk_drew ?_ | refine blk_alloc ?_ _)); exact BK101.out)⟩; have n1_ : Aside0 (Below w.heap.size w w19) := ⟨by rw [← hq_]; exact (by repeat (first | (with_reducible first | exact HB.out | apply below_alloc | apply pw_below_drewN | apply below_drew1 | refine below_set ?_ GE101.out) | exact HB.out))⟩; clear BK101 HB hq_; have BK101 := n0_; have HB := n1_; clear n0_ n1_)); have hcz20_0 : w19.cell? ⟨gb101, 0, none⟩ = some (.string a1_0) := (blk_cell BK101.out 0).trans rfl; have hcz20_1 : w19.cell? ⟨gb101, 1, none⟩ = some (.slice A1_1 l1_1.length c1_1) := (blk_cell BK101.out 1).trans rfl; have hcz20_2 : w19.cell? ⟨gb101, 2, none⟩ = some (.slice A1_2 l1_2.length c1_2) := (blk_cell BK101.out 2).trans rfl; have hfz20_0 := blk_frozen BK101.out 0; have hfz20_1 := blk_frozen BK101.out 1; have hfz20_2 := blk_frozen BK101.out 2) | ((with_reducible refine gate_callee (f := 5) rfl ?_); refine goesL_ (some 21) rfl rfl Tryd.func5 (by kernel_rfl) rfl #[.agg #[.string a1_0, .slice A1_1 l1_1.length c1_1, .slice A1_2 l1_2.length c1_2], .int .i64 t102] rfl (by (try simp only [List.map_toArray, List.map_cons, List.map_nil]); first | done | rfl | (simp only [List.length_drop, List.length_take]; rfl)) ?_; (with_reducible refine (laws_szTala.calls a1_0 _ _ l1_1 _ _ l1_2 t102 t103 _ ?side1 ?side2 ?side3 ?side4 A7.out).mono ?_); (case side1 => repeat (first | exact (Kd.C_below HR1_1.out HB.out) | (with_reducible refine Kd.C_alloc ?_ _) | (with_reducible refine Kd.C_drewN ?_ _) | (with_reducible refine Kd.C_drew ?_))); (case side2 => exact HC1_1.out); (case side3 => repeat (first | exact (Kd.C_below HR1_2.out HB.out) | (with_reducible refine Kd.C_alloc ?_ _) | (with_reducible refine Kd.C_drewN ?_ _) | (with_reducible refine Kd.C_drew ?_))); (case side4 => exact HC1_2.out); rintro e w21 ⟨rfl, hb⟩; refine ⟨_, rfl, ?_⟩; have n0_ := Aside0.mk (blk_below (g := gb101) (o := .cells #[.string a1_0, .slice A1_1 l1_1.length c1_1, .slice A1_2 l1_2.length c1_2] 25 (0, 0)) (by (with_reducible repeat (first | refine blk_drewN ?_ _ | refine blk_drew ?_ | refine blk_alloc ?_ _)); exact BK101.out) hb); have n1_ := Aside0.mk (below_step (by repeat (first | (with_reducible first | exact HB.out | apply below_alloc | apply pw_below_drewN | apply below_drew1 | refine below_set ?_ GE101.out) | exact HB.out)) hb); clear BK101; clear HB; have BK101 := n0_; have HB := n1_; clear n0_ n1_; (try clear hb); (try clear hb2); (try clear hk); (try clear hi)))
      have n0_ := Aside0.mk (blk_drew BK101.out)
      have n1_ := Aside0.mk (below_drew1 HB.out)
      clear BK101
      clear HB
      have BK101 := n0_
      have HB := n1_
      clear n0_ n1_
      refine start_ (n := 11) (S := fun w' => w'.cell? ⟨gb101, 0, none⟩ = some (.string a1_0) ∧ w'.cell? ⟨gb101, 1, none⟩ = some (.slice A1_1 l1_1.length c1_1) ∧ w'.cell? ⟨gb101, 2, none⟩ = some (.slice A1_2 l1_2.length c1_2)) (ds := []) #[false, false, false, false, false, false, false, false, false, false, false] (by kernel_rfl) rfl rfl ⟨(blk_cell BK101.out 0).trans rfl, (blk_cell BK101.out 1).trans rfl, (blk_cell BK101.out 2).trans rfl⟩ (fun hHeld => ?_); refine with_tabW laws_FnExactNotateBars.tab8 laws_FnExactNotateBars.bits8 (fun HT_ HW_ => ?_)
      generalize w21.drew = w22 at BK101 HB hHeld ⊢
      refine pure_ (i := 0) (N := some 25) (v := ?_) (a' := ?_) #[true, false, false, false, false, false, false, false, false, false, false] rfl rfl (any_of HT_.out (by kernel_rfl)) (fun _ _ _ h => h) (Or.inl ⟨by rfl, ?_⟩) ?_ ?_
      rotate_left
      · intro w'
        go_simp
        with_reducible rfl
      rotate_left
      · simp only [Act.put, List.setIfInBounds_toArray, List.set_cons_zero, List.set_cons_succ, i64_w, i32_w]
        rfl
      refine pure_ (i := 4) (N := some 29) (v := ?_) (a' := ?_) #[true, false, false, false, true, false, false, false, false, false, false] rfl rfl (any_of HT_.out (by kernel_rfl)) (fun _ _ _ h => h) (Or.inl ⟨by rfl, ?_⟩) ?_ ?_
      rotate_left
      · intro w'
        go_simp
        with_reducible rfl
      rotate_left
      · simp only [Act.put, List.setIfInBounds_toArray, List.set_cons_zero, List.set_cons_succ, i64_w, i32_w]
        rfl
      refine take_ (i := 2) (N := some 27) (v := ?_) (a' := ?_) #[true, false, true, false, true, false, false, false, false, false, false] rfl rfl (take_ofW HT_.out HW_.out (by kernel_rfl)) (fun _ _ _ h => h) (Or.inl ⟨by rfl, ?_⟩) hHeld ?_ ?_
      rotate_left
      · rintro w' ⟨s0, s1, s2⟩
        go_simp
        with_reducible rfl
      rotate_left
      · simp only [Act.put, List.setIfInBounds_toArray, List.set_cons_zero, List.set_cons_succ, i64_w, i32_w]
        rfl
      refine one_ (i := 1) (N := some 26) #[true, true, true, false, true, false, false, false, false, false, false] rfl rfl (one_of HT_.out (by kernel_rfl)) (by decide) (fun K hK => ?_)
      refine goes_ Tryd.func7 (by kernel_rfl) rfl #[.slice A0 l0.length c0] (by rfl) rfl rfl (by (try simp only [List.map_toArray, List.map_cons, List.map_nil]); first | done | rfl | (simp only [List.length_drop, List.length_take]; rfl)) ?_
      with_reducible refine (laws_toNoteS.calls k _ _ l0 t104 _ ?side1 ?side2 A12.out).mono ?_
      (case side1 => repeat (first | exact (Kd.C_below HR0.out HB.out) | (with_reducible refine Kd.C_alloc ?_ _) | (with_reducible refine Kd.C_drewN ?_ _) | (with_reducible refine Kd.C_drew ?_)))
      (case side2 => exact HC0.out)
      rintro e w23 ⟨v105, rfl, ho0, hb⟩
      refine ⟨_, rfl, ?_⟩
      have n0_ := Aside0.mk (Kd.R_lower ho0 (below_size (by repeat (first | (with_reducible first | exact HB.out | apply below_alloc | apply pw_below_drewN | apply below_drew1 | refine below_set ?_ GE101.out) | exact HB.out))))
      have n1_ := Aside0.mk (blk_below (g := gb101) (o := .cells #[.string a1_0, .slice A1_1 l1_1.length c1_1, .slice A1_2 l1_2.length c1_2] 25 (0, 0)) (by (with_reducible repeat (first | refine blk_drewN ?_ _ | refine blk_drew ?_ | refine blk_alloc ?_ _)); exact BK101.out) hb)
      have n2_ := Aside0.mk (below_step (by repeat (first | (with_reducible first | exact HB.out | apply below_alloc | apply pw_below_drewN | apply below_drew1 | refine below_set ?_ GE101.out) | exact HB.out)) hb)
      clear BK101
      clear HB
      have HO106 := n0_
      have BK101 := n1_
      have HB := n2_
      clear n0_ n1_ n2_
      (try clear hb)
      (try clear hb2)
      (try clear hk)
      (try clear hi)
      (try clear ho0)
      refine hK.out _ _ ⟨(blk_cell BK101.out 0).trans rfl, (blk_cell BK101.out 1).trans rfl, (blk_cell BK101.out 2).trans rfl⟩ (fun hHeld => ?_)
      clear hK K
      refine norm_ (a' := ?_) ?_ ?_
      rotate_left
      · show Act.put _ (some 26) _ = _
        simp only [Act.put, List.setIfInBounds_toArray, List.set_cons_zero, List.set_cons_succ, i64_w, i32_w]
        rfl
      refine one_ (i := 3) (N := some 28) #[true, true, true, true, true, false, false, false, false, false, false] rfl rfl (one_of HT_.out (by kernel_rfl)) (by decide) (fun K hK => ?_)
      refine goes_ Tryd.func8 (by kernel_rfl) rfl #[.agg #[.string a1_0, .slice A1_1 l1_1.length c1_1, .slice A1_2 l1_2.length c1_2]] (by rfl) rfl rfl (by (try simp only [List.map_toArray, List.map_cons, List.map_nil]); first | done | rfl | (simp only [List.length_drop, List.length_take]; rfl)) ?_
      with_reducible refine (laws_toTala.calls k a1_0 _ _ l1_1 _ _ l1_2 t107 t108 t111 _ ?side1 ?side2 ?side3 ?side4 A13.out).mono ?_
      (case side1 => repeat (first | exact (Kd.C_below HR1_1.out HB.out) | (with_reducible refine Kd.C_alloc ?_ _) | (with_reducible refine Kd.C_drewN ?_ _) | (with_reducible refine Kd.C_drew ?_)))
      (case side2 => exact HC1_1.out)
      (case side3 => repeat (first | exact (Kd.C_below HR1_2.out HB.out) | (with_reducible refine Kd.C_alloc ?_ _) | (with_reducible refine Kd.C_drewN ?_ _) | (with_reducible refine Kd.C_drew ?_)))
      (case side4 => exact HC1_2.out)
      rintro e w24 ⟨v109, v112, rfl, ho0, ho1, hb⟩
      refine ⟨_, rfl, ?_⟩
      have n0_ := Aside0.mk (Kd.R_below (by (with_reducible repeat (first | apply Kd.R_alloc | apply Kd.R_drewN | apply Kd.R_drew)); exact HO106.out) hb)
      have n1_ := Aside0.mk (Kd.R_lower ho0 (below_size (by repeat (first | (with_reducible first | exact HB.out | apply below_alloc | apply pw_below_drewN | apply below_drew1 | refine below_set ?_ GE101.out) | exact HB.out))))
      have n2_ := Aside0.mk (Kd.R_lower ho1 (below_size (by repeat (first | (with_reducible first | exact HB.out | apply below_alloc | apply pw_below_drewN | apply below_drew1 | refine below_set ?_ GE101.out) | exact HB.out))))
      have n3_ := Aside0.mk (blk_below (g := gb101) (o := .cells #[.string a1_0, .slice A1_1 l1_1.length c1_1, .slice A1_2 l1_2.length c1_2] 25 (0, 0)) (by (with_reducible repeat (first | refine blk_drewN ?_ _ | refine blk_drew ?_ | refine blk_alloc ?_ _)); exact BK101.out) hb)
      have n4_ := Aside0.mk (below_step (by repeat (first | (with_reducible first | exact HB.out | apply below_alloc | apply pw_below_drewN | apply below_drew1 | refine below_set ?_ GE101.out) | exact HB.out)) hb)
      clear HO106
      clear BK101
      clear HB
      have HO106 := n0_
      have HO110 := n1_
      have HO113 := n2_
      have BK101 := n3_
      have HB := n4_
      clear n0_ n1_ n2_ n3_ n4_
      (try clear hb)
      (try clear hb2)
      (try clear hk)
      (try clear hi)
      (try clear ho0)
      (try clear ho1)
      obtain ⟨Ao25, co25, eo25⟩ := Kd.R_slice HO106.out
      (first | subst eo25 | (injection eo25 with f1_ f2_ f3_; have f4_ := f1_.symm; have f5_ := f3_.symm; clear f1_ f2_ f3_; subst f4_; subst f5_))
      obtain ⟨Ao26, co26, eo26⟩ := Kd.R_slice HO110.out
      (first | subst eo26 | (injection eo26 with f1_ f2_ f3_; have f4_ := f1_.symm; have f5_ := f3_.symm; clear f1_ f2_ f3_; subst f4_; subst f5_))
      obtain ⟨Ao27, co27, eo27⟩ := Kd.R_slice HO113.out
      (first | subst eo27 | (injection eo27 with f1_ f2_ f3_; have f4_ := f1_.symm; have f5_ := f3_.symm; clear f1_ f2_ f3_; subst f4_; subst f5_))
      refine hK.out _ _ ⟨(blk_cell BK101.out 0).trans rfl, (blk_cell BK101.out 1).trans rfl, (blk_cell BK101.out 2).trans rfl⟩ (fun hHeld => ?_)
      clear hK K
      refine norm_ (a' := ?_) ?_ ?_
      rotate_left
      · show Act.put _ (some 28) _ = _
        simp only [Act.put, List.setIfInBounds_toArray, List.set_cons_zero, List.set_cons_succ, i64_w, i32_w]
        rfl
      refine one_ (i := 5) (N := some 30) #[true, true, true, true, true, true, false, false, false, false, false] rfl rfl (one_of HT_.out (by kernel_rfl)) (by decide) (fun K hK => ?_)
      refine goes_ Tryd.func6 (by kernel_rfl) rfl #[.slice Ao25 t104.length co25, .agg #[.string t107, .slice Ao26 t108.length co26, .slice Ao27 t111.length co27], .int .i64 a2] (by rfl) rfl rfl (by (try simp only [List.map_toArray, List.map_cons, List.map_nil]); first | done | rfl | (simp only [List.length_drop, List.length_take]; rfl)) ?_
      with_reducible refine (spec_NotateBars.calls k _ _ t104 t107 _ _ t108 _ _ t111 a2 t114 t115 _ ?side1 ?side2 ?side3 ?side4 ?side5 ?side6 A14.out).mono ?_
      (case side1 => repeat (first | exact (Kd.R_reads' HO106.out).2.2 | (with_reducible refine Kd.C_alloc ?_ _) | (with_reducible refine Kd.C_drewN ?_ _) | (with_reducible refine Kd.C_drew ?_)))
      (case side2 => exact (Kd.R_reads' HO106.out).2.1)
      (case side3 => repeat (first | exact (Kd.R_reads' HO110.out).2.2 | (with_reducible refine Kd.C_alloc ?_ _) | (with_reducible refine Kd.C_drewN ?_ _) | (with_reducible refine Kd.C_drew ?_)))
      (case side4 => exact (Kd.R_reads' HO110.out).2.1)
      (case side5 => repeat (first | exact (Kd.R_reads' HO113.out).2.2 | (with_reducible refine Kd.C_alloc ?_ _) | (with_reducible refine Kd.C_drewN ?_ _) | (with_reducible refine Kd.C_drew ?_)))
      (case side6 => exact (Kd.R_reads' HO113.out).2.1)
      rintro e w28 ⟨rfl, hb⟩
      refine ⟨_, rfl, ?_⟩
      have n0_ := Aside0.mk (Kd.R_below (by (with_reducible repeat (first | apply Kd.R_alloc | apply Kd.R_drewN | apply Kd.R_drew)); exact HO106.out) hb)
      have n1_ := Aside0.mk (Kd.R_below (by (with_reducible repeat (first | apply Kd.R_alloc | apply Kd.R_drewN | apply Kd.R_drew)); exact HO110.out) hb)
      have n2_ := Aside0.mk (Kd.R_below (by (with_reducible repeat (first | apply Kd.R_alloc | apply Kd.R_drewN | apply Kd.R_drew)); exact HO113.out) hb)
      have n3_ := Aside0.mk (blk_below (g := gb101) (o := .cells #[.string a1_0, .slice A1_1 l1_1.length c1_1, .slice A1_2 l1_2.length c1_2] 25 (0, 0)) (by (with_reducible repeat (first | refine blk_drewN ?_ _ | refine blk_drew ?_ | refine blk_alloc ?_ _)); exact BK101.out) hb)
      have n4_ := Aside0.mk (below_step (by repeat (first | (with_reducible first | exact HB.out | apply below_alloc | apply pw_below_drewN | apply below_drew1 | refine below_set ?_ GE101.out) | exact HB.out)) hb)
      clear HO106
      clear HO110
      clear HO113
      clear BK101
      clear HB
      have HO106 := n0_
      have HO110 := n1_
      have HO113 := n2_
      have BK101 := n3_
      have HB := n4_
      clear n0_ n1_ n2_ n3_ n4_
      (try clear hb)
      (try clear hb2)
      (try clear hk)
      (try clear hi)
      refine hK.out _ _ ⟨(blk_cell BK101.out 0).trans rfl, (blk_cell BK101.out 1).trans rfl, (blk_cell BK101.out 2).trans rfl⟩ (fun hHeld => ?_)
      clear hK K
      refine norm_ (a' := ?_) ?_ ?_
      rotate_left
      · show Act.put _ (some 30) _ = _
        simp only [Act.put, List.setIfInBounds_toArray, List.set_cons_zero, List.set_cons_succ, i64_w, i32_w]
        rfl
      refine pure_ (i := 6) (N := some 24) (v := ?_) (a' := ?_) #[true, true, true, true, true, true, true, false, false, false, false] rfl rfl (any_of HT_.out (by kernel_rfl)) (fun _ _ _ h => h) (Or.inl ⟨by rfl, ?_⟩) ?_ ?_
      rotate_left
      · intro w'
        go_simp
        with_reducible rfl
      rotate_left
      · simp only [Act.put, List.setIfInBounds_toArray, List.set_cons_zero, List.set_cons_succ, i64_w, i32_w]
        rfl
      refine pure_ (i := 7) (N := some 31) (v := ?_) (a' := ?_) #[true, true, true, true, true, true, true, true, false, false, false] rfl rfl (any_of HT_.out (by kernel_rfl)) (fun _ _ _ h => h) (Or.inl ⟨by rfl, ?_⟩) ?_ ?_
      rotate_left
      · intro w'
        go_simp
        with_reducible rfl
      rotate_left
      · simp only [Act.put, List.setIfInBounds_toArray, List.set_cons_zero, List.set_cons_succ, i64_w, i32_w]
        rfl
      refine pure_ (i := 8) (N := some 32) (v := ?_) (a' := ?_) #[true, true, true, true, true, true, true, true, true, false, false] rfl rfl (any_of HT_.out (by kernel_rfl)) (fun _ _ _ h => h) (Or.inl ⟨by rfl, ?_⟩) ?_ ?_
      rotate_left
      · intro w'
        go_simp
        with_reducible rfl
      rotate_left
      · simp only [Act.put, List.setIfInBounds_toArray, List.set_cons_zero, List.set_cons_succ, i64_w, i32_w]
        rfl
      refine pure_ (i := 9) (N := some 8) (v := ?_) (a' := ?_) #[true, true, true, true, true, true, true, true, true, true, false] rfl rfl (any_of HT_.out (by kernel_rfl)) (fun _ _ _ h => h) (Or.inl ⟨by rfl, ?_⟩) ?_ ?_
      rotate_left
      · intro w'
        go_simp
        with_reducible rfl
      rotate_left
      · simp only [Act.put, List.setIfInBounds_toArray, List.set_cons_zero, List.set_cons_succ, i64_w, i32_w]
        rfl
      refine pure_ (i := 10) (N := some 9) (v := ?_) (a' := ?_) #[true, true, true, true, true, true, true, true, true, true, true] rfl rfl (any_of HT_.out (by kernel_rfl)) (fun _ _ _ h => h) (Or.inl ⟨by rfl, ?_⟩) ?_ ?_
      rotate_left
      · intro w'
        go_simp
        with_reducible rfl
      rotate_left
      · simp only [Act.put, List.setIfInBounds_toArray, List.set_cons_zero, List.set_cons_succ, i64_w, i32_w]
        rfl
      refine done_ (done_of HT_.out (by kernel_rfl)) ?_
      go_upto_region 12 with (first | ((with_reducible refine gate_callee (f := 7) rfl ?_); refine goesL_ (some 34) rfl rfl Tryd.func7 (by kernel_rfl) rfl #[.slice A0 l0.length c0] rfl (by (try simp only [List.map_toArray, List.map_cons, List.map_nil]); first | done | rfl | (simp only [List.length_drop, List.length_take]; rfl)) ?_; (with_reducible refine (laws_toNoteS.calls k _ _ l0 t116 _ ?side1 ?side2 A15.out).mono ?_); (case side1 => repeat (first | exact (Kd.C_below HR0.out HB.out) | (with_reducible refine Kd.C_alloc ?_ _) | (with_reducible refine Kd.C_drewN ?_ _) | (with_reducible refine Kd.C_drew ?_))); (case side2 => exact HC0.out); rintro e w29 ⟨v117, rfl, ho0, hb⟩; refine ⟨_, rfl, ?_⟩; have n0_ := Aside0.mk (Kd.R_elder' (by (with_reducible repeat (first | apply Kd.R_alloc | apply Kd.R_drewN | apply Kd.R_drew)); exact HO106.out) (Kd.R_base ho0) hb); have n1_ := Aside0.mk (Kd.R_below (by (with_reducible repeat (first | apply Kd.R_alloc | apply Kd.R_drewN | apply Kd.R_drew)); exact HO110.out) hb); have n2_ := Aside0.mk (Kd.R_below (by (with_reducible repeat (first | apply Kd.R_alloc | apply Kd.R_drewN | apply Kd.R_drew)); exact HO113.out) hb); have n3_ := Aside0.mk (Kd.R_lower (Kd.R_new' ho0 (Kd.R_lt (by (with_reducible repeat (first | apply Kd.R_alloc | apply Kd.R_drewN | apply Kd.R_drew)); exact HO106.out))) (below_size (by repeat (first | (with_reducible first | exact HB.out | apply below_alloc | apply pw_below_drewN | apply below_drew1 | refine below_set ?_ GE101.out) | exact HB.out)))); have n4_ := Aside0.mk (blk_below (g := gb101) (o := .cells #[.string a1_0, .slice A1_1 l1_1.length c1_1, .slice A1_2 l1_2.length c1_2] 25 (0, 0)) (by (with_reducible repeat (first | refine blk_drewN ?_ _ | refine blk_drew ?_ | refine blk_alloc ?_ _)); exact BK101.out) hb); have n5_ := Aside0.mk (below_step (by repeat (first | (with_reducible first | exact HB.out | apply below_alloc | apply pw_below_drewN | apply below_drew1 | refine below_set ?_ GE101.out) | exact HB.out)) hb); clear HO106; clear HO110; clear HO113; clear BK101; clear HB; have HO106 := n0_; have HO110 := n1_; have HO113 := n2_; have HO118 := n3_; have BK101 := n4_; have HB := n5_; clear n0_ n1_ n2_ n3_ n4_ n5_; (try clear hb); (try clear hb2); (try clear hk); (try clear hi); (try clear ho0); have hcz30_0 : w29.cell? ⟨gb101, 0, none⟩ = some (.string a1_0) := (blk_cell BK101.out 0).trans rfl; have hcz30_1 : w29.cell? ⟨gb101, 1, none⟩ = some (.slice A1_1 l1_1.length c1_1) := (blk_cell BK101.out 1).trans rfl; have hcz30_2 : w29.cell? ⟨gb101, 2, none⟩ = some (.slice A1_2 l1_2.length c1_2) := (blk_cell BK101.out 2).trans rfl; have hfz30_0 := blk_frozen BK101.out 0; have hfz30_1 := blk_frozen BK101.out 1; have hfz30_2 := blk_frozen BK101.out 2) | ((with_reducible refine gate_callee (f := 8) rfl ?_); refine goesL_ (some 36) rfl rfl Tryd.func8 (by kernel_rfl) rfl #[.agg #[.string a1_0, .slice A1_1 l1_1.length c1_1, .slice A1_2 l1_2.length c1_2]] rfl (by (try simp only [List.map_toArray, List.map_cons, List.map_nil]); first | done | rfl | (simp only [List.length_drop, List.length_take]; rfl)) ?_; (with_reducible refine (laws_toTala.calls k a1_0 _ _ l1_1 _ _ l1_2 t119 t120 t123 _ ?side1 ?side2 ?side3 ?side4 A16.out).mono ?_); (case side1 => repeat (first | exact (Kd.C_below HR1_1.out HB.out) | (with_reducible refine Kd.C_alloc ?_ _) | (with_reducible refine Kd.C_drewN ?_ _) | (with_reducible refine Kd.C_drew ?_))); (case side2 => exact HC1_1.out); (case side3 => repeat (first | exact (Kd.C_below HR1_2.out HB.out) | (with_reducible refine Kd.C_alloc ?_ _) | (with_reducible refine Kd.C_drewN ?_ _) | (with_reducible refine Kd.C_drew ?_))); (case side4 => exact HC1_2.out); rintro e w31 ⟨v121, v124, rfl, ho0, ho1, hb⟩; refine ⟨_, rfl, ?_⟩; have n0_ := Aside0.mk (Kd.R_below (by (with_reducible repeat (first | apply Kd.R_alloc | apply Kd.R_drewN | apply Kd.R_drew)); exact HO106.out) hb); have n1_ := Aside0.mk (Kd.R_mono (Kd.R_told (Kd.R_told (Kd.R_old (by (with_reducible repeat (first | apply Kd.R_alloc | apply Kd.R_drewN | apply Kd.R_drew)); exact HO110.out) hb) (Kd.R_base ho0)) (Kd.R_base ho1)) (fun _ h_ => h_.1)); have n2_ := Aside0.mk (Kd.R_mono (Kd.R_told (Kd.R_told (Kd.R_old (by (with_reducible repeat (first | apply Kd.R_alloc | apply Kd.R_drewN | apply Kd.R_drew)); exact HO113.out) hb) (Kd.R_base ho0)) (Kd.R_base ho1)) (fun _ h_ => h_.1)); have n3_ := Aside0.mk (Kd.R_below (by (with_reducible repeat (first | apply Kd.R_alloc | apply Kd.R_drewN | apply Kd.R_drew)); exact HO118.out) hb); have n4_ := Aside0.mk (Kd.R_lower (Kd.R_new' (Kd.R_new' ho0 (Kd.R_lt (by (with_reducible repeat (first | apply Kd.R_alloc | apply Kd.R_drewN | apply Kd.R_drew)); exact HO110.out))) (Kd.R_lt (by (with_reducible repeat (first | apply Kd.R_alloc | apply Kd.R_drewN | apply Kd.R_drew)); exact HO113.out))) (below_size (by repeat (first | (with_reducible first | exact HB.out | apply below_alloc | apply pw_below_drewN | apply below_drew1 | refine below_set ?_ GE101.out) | exact HB.out)))); have n5_ := Aside0.mk (Kd.R_lower (Kd.R_new' (Kd.R_new' ho1 (Kd.R_lt (by (with_reducible repeat (first | apply Kd.R_alloc | apply Kd.R_drewN | apply Kd.R_drew)); exact HO110.out))) (Kd.R_lt (by (with_reducible repeat (first | apply Kd.R_alloc | apply Kd.R_drewN | apply Kd.R_drew)); exact HO113.out))) (below_size (by repeat (first | (with_reducible first | exact HB.out | apply below_alloc | apply pw_below_drewN | apply below_drew1 | refine below_set ?_ GE101.out) | exact HB.out)))); have n6_ := Aside0.mk (blk_below (g := gb101) (o := .cells #[.string a1_0, .slice A1_1 l1_1.length c1_1, .slice A1_2 l1_2.length c1_2] 25 (0, 0)) (by (with_reducible repeat (first | refine blk_drewN ?_ _ | refine blk_drew ?_ | refine blk_alloc ?_ _)); exact BK101.out) hb); have n7_ := Aside0.mk (below_step (by repeat (first | (with_reducible first | exact HB.out | apply below_alloc | apply pw_below_drewN | apply below_drew1 | refine below_set ?_ GE101.out) | exact HB.out)) hb); clear HO106; clear HO110; clear HO113; clear HO118; clear BK101; clear HB; have HO106 := n0_; have HO110 := n1_; have HO113 := n2_; have HO118 := n3_; have HO122 := n4_; have HO125 := n5_; have BK101 := n6_; have HB := n7_; clear n0_ n1_ n2_ n3_ n4_ n5_ n6_ n7_; (try clear hb); (try clear hb2); (try clear hk); (try clear hi); (try clear ho0); (try clear ho1)) | ((with_reducible refine gate_dst (N := 11) rfl ?_); refine box_event ?hg (N := 11) ?hd (cs := #[.string (⟨#[]⟩ : ByteArray), .slice none 0 0, .slice none 0 0]) (t := 32) ?hr ?_; (case hd => rfl); (case hg => rfl); (case hr => first | (go_simp; done) | (go_simp; rfl)); intro gb126 hg w32 hbox hb; have n0_ := Aside0.mk (Kd.R_below (by (with_reducible repeat (first | apply Kd.R_alloc | apply Kd.R_drewN | apply Kd.R_drew)); exact HO106.out) hb); have n1_ := Aside0.mk (Kd.R_below (by (with_reducible repeat (first | apply Kd.R_alloc | apply Kd.R_drewN | apply Kd.R_drew)); exact HO110.out) hb); have n2_ := Aside0.mk (Kd.R_below (by (with_reducible repeat (first | apply Kd.R_alloc | apply Kd.R_drewN | apply Kd.R_drew)); exact HO113.out) hb); have n3_ := Aside0.mk (Kd.R_below (by (with_reducible repeat (first | apply Kd.R_alloc | apply Kd.R_drewN | apply Kd.R_drew)); exact HO118.out) hb); have n4_ := Aside0.mk (Kd.R_below (by (with_reducible repeat (first | apply Kd.R_alloc | apply Kd.R_drewN | apply Kd.R_drew)); exact HO122.out) hb); have n5_ := Aside0.mk (Kd.R_below (by (with_reducible repeat (first | apply Kd.R_alloc | apply Kd.R_drewN | apply Kd.R_drew)); exact HO125.out) hb); have n6_ := Aside0.mk (blk_below (g := gb101) (o := .cells #[.string a1_0, .slice A1_1 l1_1.length c1_1, .slice A1_2 l1_2.length c1_2] 25 (0, 0)) (by (with_reducible repeat (first | refine blk_drewN ?_ _ | refine blk_drew ?_ | refine blk_alloc ?_ _)); exact BK101.out) hb); have n7_ := Aside0.mk (below_step (by repeat (first | (with_reducible first | exact HB.out | apply below_alloc | apply pw_below_drewN | apply below_drew1 | refine below_set ?_ GE101.out) | exact HB.out)) hb); have n8_ := Aside0.mk (hbox); have n9_ := Aside0.mk ((by rw [hg]; exact (below_size (by repeat (first | (with_reducible first | exact HB.out | apply below_alloc | apply pw_below_drewN | apply below_drew1 | refine below_set ?_ GE101.out) | exact HB.out))) : w.heap.size ≤ gb126)); have n10_ := Aside0.mk ((by rw [hg]; exact (below_size (by repeat (first | (with_reducible first | exact HB.out | apply below_alloc | apply pw_below_drewN | apply below_drew1 | refine below_set ?_ GE101.out) | exact HB.out))) : w.heap.size ≤ gb126)); have n11_ := Aside0.mk ((by rw [hg]; exact Nat.ne_of_lt (blk_lt (g := gb101) (o := .cells #[.string a1_0, .slice A1_1 l1_1.length c1_1, .slice A1_2 l1_2.length c1_2] 25 (0, 0)) (by (with_reducible repeat (first | refine blk_drewN ?_ _ | refine blk_drew ?_ | refine blk_alloc ?_ _)); exact BK101.out)) : gb101 ≠ gb126)); have n12_ := Aside0.mk ((by rw [hg]; exact Nat.ne_of_gt (blk_lt (g := gb101) (o := .cells #[.string a1_0, .slice A1_1 l1_1.length c1_1, .slice A1_2 l1_2.length c1_2] 25 (0, 0)) (by (with_reducible repeat (first | refine blk_drewN ?_ _ | refine blk_drew ?_ | refine blk_alloc ?_ _)); exact BK101.out)) : gb126 ≠ gb101)); clear HO106; clear HO110; clear HO113; clear HO118; clear HO122; clear HO125; clear BK101; clear HB; have HO106 := n0_; have HO110 := n1_; have HO113 := n2_; have HO118 := n3_; have HO122 := n4_; have HO125 := n5_; have BK101 := n6_; have HB := n7_; have BK126 := n8_; have GW126 := n9_; have GE126 := n10_; have NB101_126 := n11_; have NB126_101 := n12_; clear n0_ n1_ n2_ n3_ n4_ n5_ n6_ n7_ n8_ n9_ n10_ n11_ n12_; clear hb hbox hg; have hnb33 := NB126_101.out; have hnc33 := NB101_126.out; have hcz34_0 : w32.cell? ⟨gb126, 0, none⟩ = some (.string (⟨#[]⟩ : ByteArray)) := (blk_cell BK126.out 0).trans rfl; have hcz34_1 : w32.cell? ⟨gb126, 1, none⟩ = some (.slice none 0 0) := (blk_cell BK126.out 1).trans rfl; have hcz34_2 : w32.cell? ⟨gb126, 2, none⟩ = some (.slice none 0 0) := (blk_cell BK126.out 2).trans rfl; have hfz34_0 := blk_frozen BK126.out 0; have hfz34_1 := blk_frozen BK126.out 1; have hfz34_2 := blk_frozen BK126.out 2; obtain ⟨Ao35, co35, eo35⟩ := Kd.R_slice HO122.out; subst eo35; obtain ⟨Ao36, co36, eo36⟩ := Kd.R_slice HO125.out; subst eo36; obtain ⟨Ao37, co37, eo37⟩ := Kd.R_slice HO118.out; subst eo37) | ((with_reducible refine gate_callee (f := 9) rfl ?_); refine goesL_ (some 41) rfl rfl Tryd.func9 (by kernel_rfl) rfl #[.slice Ao37 t116.length co37, .agg #[.string t119, .slice Ao35 t120.length co35, .slice Ao36 t123.length co36], .int .i64 a2] rfl (by (try simp only [List.map_toArray, List.map_cons, List.map_nil]); first | done | rfl | (simp only [List.length_drop, List.length_take]; rfl)) ?_; (with_reducible refine (impl_NotateBars.calls k _ _ t116 t119 _ _ t120 _ _ t123 a2 t127 t128 _ ?side7 ?side1 ?side2 ?side3 ?side4 ?side5 ?side6 A17.out).mono ?_); (case side1 => refine (Kd.R_reads' (e := 44) (base := w.heap.size) (ok := fun k_ => (True ∧ some k_ ≠ (.slice Ao25 t104.length co25 : Value).ownBlock)) (n := t116.length) (c := co37) ?_).2.2; exact (by (with_reducible repeat (first | apply Kd.R_alloc | apply Kd.R_drewN | apply Kd.R_drew)); exact (Kd.R_mono (Kd.R_far (p := ⟨gb126, 2, none⟩) (Kd.R_far (p := ⟨gb126, 1, none⟩) (Kd.R_far (p := ⟨gb126, 0, none⟩) (Kd.R_types HO118.out BK126.out (by decide)) (fun _ hk => hk.2) (.string t119)) (fun _ hk => hk.2) (.slice Ao35 t120.length co35)) (fun _ hk => hk.2) (.slice Ao36 t123.length co36)) (fun _ h_ => h_.1)))); (case side2 => exact (Kd.R_reads' HO118.out).2.1); (case side3 => refine (Kd.R_reads' (e := 2) (base := w.heap.size) (ok := fun k_ => ((some k_ ≠ (.slice Ao36 t123.length co36 : Value).ownBlock ∧ some k_ ≠ (.slice Ao26 t108.length co26 : Value).ownBlock) ∧ some k_ ≠ (.slice Ao27 t111.length co27 : Value).ownBlock)) (n := t120.length) (c := co35) ?_).2.2; exact (by (with_reducible repeat (first | apply Kd.R_alloc | apply Kd.R_drewN | apply Kd.R_drew)); exact (Kd.R_mono (Kd.R_far (p := ⟨gb126, 2, none⟩) (Kd.R_far (p := ⟨gb126, 1, none⟩) (Kd.R_far (p := ⟨gb126, 0, none⟩) (Kd.R_types HO122.out BK126.out (by decide)) (fun _ hk => hk.2) (.string t119)) (fun _ hk => hk.2) (.slice Ao35 t120.length co35)) (fun _ hk => hk.2) (.slice Ao36 t123.length co36)) (fun _ h_ => h_.1)))); (case side4 => exact (Kd.R_reads' HO122.out).2.1); (case side5 => refine (Kd.R_reads' (e := 2) (base := w.heap.size) (ok := fun k_ => ((some k_ ≠ (.slice Ao35 t120.length co35 : Value).ownBlock ∧ some k_ ≠ (.slice Ao26 t108.length co26 : Value).ownBlock) ∧ some k_ ≠ (.slice Ao27 t111.length co27 : Value).ownBlock)) (n := t123.length) (c := co36) ?_).2.2; exact (by (with_reducible repeat (first | apply Kd.R_alloc | apply Kd.R_drewN | apply Kd.R_drew)); exact (Kd.R_mono (Kd.R_far (p := ⟨gb126, 2, none⟩) (Kd.R_far (p := ⟨gb126, 1, none⟩) (Kd.R_far (p := ⟨gb126, 0, none⟩) (Kd.R_types HO125.out BK126.out (by decide)) (fun _ hk => hk.2) (.string t119)) (fun _ hk => hk.2) (.slice Ao35 t120.length co35)) (fun _ hk => hk.2) (.slice Ao36 t123.length co36)) (fun _ h_ => h_.1)))); (case side6 => exact (Kd.R_reads' HO125.out).2.1); (case side7 => exact Door1.at HD.out (by repeat (first | (with_reducible first | exact HB.out | apply below_alloc | apply pw_below_drewN | apply below_drew1 | refine below_set ?_ GE101.out | refine below_set ?_ GE126.out) | exact HB.out))); rintro e w38 ⟨rfl, hb⟩; refine ⟨_, rfl, ?_⟩; have n0_ := Aside0.mk (Kd.R_below (by (with_reducible repeat (first | apply Kd.R_alloc | apply Kd.R_drewN | apply Kd.R_drew)); exact (Kd.R_mono (Kd.R_far (p := ⟨gb126, 2, none⟩) (Kd.R_far (p := ⟨gb126, 1, none⟩) (Kd.R_far (p := ⟨gb126, 0, none⟩) (Kd.R_types HO106.out BK126.out (by decide)) (fun _ hk => hk.2) (.string t119)) (fun _ hk => hk.2) (.slice Ao35 t120.length co35)) (fun _ hk => hk.2) (.slice Ao36 t123.length co36)) (fun _ h_ => h_.1))) hb); have n1_ := Aside0.mk (Kd.R_below (by (with_reducible repeat (first | apply Kd.R_alloc | apply Kd.R_drewN | apply Kd.R_drew)); exact (Kd.R_mono (Kd.R_far (p := ⟨gb126, 2, none⟩) (Kd.R_far (p := ⟨gb126, 1, none⟩) (Kd.R_far (p := ⟨gb126, 0, none⟩) (Kd.R_types HO110.out BK126.out (by decide)) (fun _ hk => hk.2) (.string t119)) (fun _ hk => hk.2) (.slice Ao35 t120.length co35)) (fun _ hk => hk.2) (.slice Ao36 t123.length co36)) (fun _ h_ => h_.1))) hb); have n2_ := Aside0.mk (Kd.R_below (by (with_reducible repeat (first | apply Kd.R_alloc | apply Kd.R_drewN | apply Kd.R_drew)); exact (Kd.R_mono (Kd.R_far (p := ⟨gb126, 2, none⟩) (Kd.R_far (p := ⟨gb126, 1, none⟩) (Kd.R_far (p := ⟨gb126, 0, none⟩) (Kd.R_types HO113.out BK126.out (by decide)) (fun _ hk => hk.2) (.string t119)) (fun _ hk => hk.2) (.slice Ao35 t120.length co35)) (fun _ hk => hk.2) (.slice Ao36 t123.length co36)) (fun _ h_ => h_.1))) hb); have n3_ := Aside0.mk (Kd.R_below (by (with_reducible repeat (first | apply Kd.R_alloc | apply Kd.R_drewN | apply Kd.R_drew)); exact (Kd.R_mono (Kd.R_far (p := ⟨gb126, 2, none⟩) (Kd.R_far (p := ⟨gb126, 1, none⟩) (Kd.R_far (p := ⟨gb126, 0, none⟩) (Kd.R_types HO118.out BK126.out (by decide)) (fun _ hk => hk.2) (.string t119)) (fun _ hk => hk.2) (.slice Ao35 t120.length co35)) (fun _ hk => hk.2) (.slice Ao36 t123.length co36)) (fun _ h_ => h_.1))) hb); have n4_ := Aside0.mk (Kd.R_below (by (with_reducible repeat (first | apply Kd.R_alloc | apply Kd.R_drewN | apply Kd.R_drew)); exact (Kd.R_mono (Kd.R_far (p := ⟨gb126, 2, none⟩) (Kd.R_far (p := ⟨gb126, 1, none⟩) (Kd.R_far (p := ⟨gb126, 0, none⟩) (Kd.R_types HO122.out BK126.out (by decide)) (fun _ hk => hk.2) (.string t119)) (fun _ hk => hk.2) (.slice Ao35 t120.length co35)) (fun _ hk => hk.2) (.slice Ao36 t123.length co36)) (fun _ h_ => h_.1))) hb); have n5_ := Aside0.mk (Kd.R_below (by (with_reducible repeat (first | apply Kd.R_alloc | apply Kd.R_drewN | apply Kd.R_drew)); exact (Kd.R_mono (Kd.R_far (p := ⟨gb126, 2, none⟩) (Kd.R_far (p := ⟨gb126, 1, none⟩) (Kd.R_far (p := ⟨gb126, 0, none⟩) (Kd.R_types HO125.out BK126.out (by decide)) (fun _ hk => hk.2) (.string t119)) (fun _ hk => hk.2) (.slice Ao35 t120.length co35)) (fun _ hk => hk.2) (.slice Ao36 t123.length co36)) (fun _ h_ => h_.1))) hb); have n6_ := Aside0.mk (blk_below (g := gb101) (o := .cells #[.string a1_0, .slice A1_1 l1_1.length c1_1, .slice A1_2 l1_2.length c1_2] 25 (0, 0)) (by (with_reducible repeat (first | refine blk_drewN ?_ _ | refine blk_drew ?_ | refine blk_alloc ?_ _)); refine blk_far ?_ NB101_126.out _; (with_reducible repeat (first | refine blk_drewN ?_ _ | refine blk_drew ?_ | refine blk_alloc ?_ _)); refine blk_far ?_ NB101_126.out _; (with_reducible repeat (first | refine blk_drewN ?_ _ | refine blk_drew ?_ | refine blk_alloc ?_ _)); refine blk_far ?_ NB101_126.out _; (with_reducible repeat (first | refine blk_drewN ?_ _ | refine blk_drew ?_ | refine blk_alloc ?_ _)); exact BK101.out) hb); have n7_ := Aside0.mk (blk_below (g := gb126) (o := .cells #[.string t119, .slice Ao35 t120.length co35, .slice Ao36 t123.length co36] 32 (0, 0)) (by (with_reducible repeat (first | refine blk_drewN ?_ _ | refine blk_drew ?_ | refine blk_alloc ?_ _)); refine blk_put (cs := #[.string t119, .slice Ao35 t120.length co35, .slice none 0 0]) ?_ 2 _ rfl; (with_reducible repeat (first | refine blk_drewN ?_ _ | refine blk_drew ?_ | refine blk_alloc ?_ _)); refine blk_put (cs := #[.string t119, .slice none 0 0, .slice none 0 0]) ?_ 1 _ rfl; (with_reducible repeat (first | refine blk_drewN ?_ _ | refine blk_drew ?_ | refine blk_alloc ?_ _)); refine blk_put (cs := #[.string (⟨#[]⟩ : ByteArray), .slice none 0 0, .slice none 0 0]) ?_ 0 _ rfl; (with_reducible repeat (first | refine blk_drewN ?_ _ | refine blk_drew ?_ | refine blk_alloc ?_ _)); exact BK126.out) hb); have n8_ := Aside0.mk (below_step (by repeat (first | (with_reducible first | exact HB.out | apply below_alloc | apply pw_below_drewN | apply below_drew1 | refine below_set ?_ GE101.out | refine below_set ?_ GE126.out) | exact HB.out)) hb); clear HO106; clear HO110; clear HO113; clear HO118; clear HO122; clear HO125; clear BK101; clear BK126; clear HB; have HO106 := n0_; have HO110 := n1_; have HO113 := n2_; have HO118 := n3_; have HO122 := n4_; have HO125 := n5_; have BK101 := n6_; have BK126 := n7_; have HB := n8_; clear n0_ n1_ n2_ n3_ n4_ n5_ n6_ n7_ n8_; (try clear hb); (try clear hb2); (try clear hk); (try clear hi)))
      (try simp only [Act.put, List.setIfInBounds_toArray, List.set_cons_zero, List.set_cons_succ])
      go_cut [51] (fun v51 wc => ∃ (kq : Nat) (x51_17 : Bool), v51 = .bool x51_17 ∧ Aside0 (laws_FnExactNotateBars.j0 kq l0 t116 x51_17 a1_0 l1_1 l1_2 t119 t120 t123 = some r) ∧ Aside0 (kq ≤ k) ∧ Aside0 (Kd.R k44 44 wc w.heap.size (fun _ => True) (.slice Ao37 t116.length co37) t116) ∧ Aside0 (Kd.R (Kd.int .i64) 2 wc w.heap.size (fun k_ => some k_ ≠ ((.slice Ao36 t123.length co36) : Value).ownBlock) (.slice Ao35 t120.length co35) t120) ∧ Aside0 (Kd.R (Kd.int .i64) 2 wc w.heap.size (fun k_ => some k_ ≠ ((.slice Ao35 t120.length co35) : Value).ownBlock) (.slice Ao36 t123.length co36) t123) ∧ Aside0 (wc.heap[gb101]? = some (.cells #[.string a1_0, (.slice A1_1 l1_1.length c1_1), (.slice A1_2 l1_2.length c1_2)] 25 (0, 0))) ∧ Aside0 (wc.heap[gb126]? = some (.cells #[.string t119, (.slice Ao35 t120.length co35), (.slice Ao36 t123.length co36)] 32 (0, 0))) ∧ Aside0 (Below w.heap.size w wc))
      case first =>
        have H := HC18.out
        clear HC18
        by_cases c39 : t127.toList = t114.toList
        · rw [if_pos c39] at H
          have c39b0 : (t127.toList == t114.toList) = true := beq_iff_eq.mpr c39
          have c39b1 : (t127.toList != t114.toList) = false := bne_eq_false_iff_eq.mpr c39
          clear c39
          (first | rw [c39b0] | (simp only [i64_w, i32_w]; rw [c39b0]) | skip)
          have H' := Aside0.mk H
          clear H
          go_wp2
          go_meet
          case rel => exact ⟨_, ((t128 != t115)), (by first | rfl | (simp; done) | (simp [*]; done)), H', ⟨by first | omega | exact Nat.le_refl _⟩, ⟨by (with_reducible repeat (first | apply Kd.R_alloc | apply Kd.R_drewN | apply Kd.R_drew)); exact Kd.R_mono HO118.out (fun _ hk => trivial)⟩, ⟨by (with_reducible repeat (first | apply Kd.R_alloc | apply Kd.R_drewN | apply Kd.R_drew)); exact Kd.R_mono HO122.out (fun _ hk => hk.1.1)⟩, ⟨by (with_reducible repeat (first | apply Kd.R_alloc | apply Kd.R_drewN | apply Kd.R_drew)); exact Kd.R_mono HO125.out (fun _ hk => hk.1.1)⟩, ⟨by (with_reducible repeat (first | refine blk_drewN ?_ _ | refine blk_drew ?_ | refine blk_alloc ?_ _)); exact BK101.out⟩, ⟨by (with_reducible repeat (first | refine blk_drewN ?_ _ | refine blk_drew ?_ | refine blk_alloc ?_ _)); exact BK126.out⟩, ⟨by repeat (first | (with_reducible first | exact HB.out | apply below_alloc | apply pw_below_drewN | apply below_drew1 | refine below_set ?_ GE101.out | refine below_set ?_ GE126.out) | exact HB.out)⟩⟩
        · rw [if_neg c39] at H
          have c39b0 : (t127.toList == t114.toList) = false := beq_eq_false_iff_ne.mpr c39
          have c39b1 : (t127.toList != t114.toList) = true := bne_iff_ne.mpr c39
          (first | rw [c39b0] | (simp only [i64_w, i32_w]; rw [c39b0]) | skip)
          have H' := Aside0.mk H
          clear H
          go_wp2
          go_meet
          case rel => exact ⟨_, (true), (by first | rfl | (simp; done) | (simp [*]; done)), H', ⟨by first | omega | exact Nat.le_refl _⟩, ⟨by (with_reducible repeat (first | apply Kd.R_alloc | apply Kd.R_drewN | apply Kd.R_drew)); exact Kd.R_mono HO118.out (fun _ hk => trivial)⟩, ⟨by (with_reducible repeat (first | apply Kd.R_alloc | apply Kd.R_drewN | apply Kd.R_drew)); exact Kd.R_mono HO122.out (fun _ hk => hk.1.1)⟩, ⟨by (with_reducible repeat (first | apply Kd.R_alloc | apply Kd.R_drewN | apply Kd.R_drew)); exact Kd.R_mono HO125.out (fun _ hk => hk.1.1)⟩, ⟨by (with_reducible repeat (first | refine blk_drewN ?_ _ | refine blk_drew ?_ | refine blk_alloc ?_ _)); exact BK101.out⟩, ⟨by (with_reducible repeat (first | refine blk_drewN ?_ _ | refine blk_drew ?_ | refine blk_alloc ?_ _)); exact BK126.out⟩, ⟨by repeat (first | (with_reducible first | exact HB.out | apply below_alloc | apply pw_below_drewN | apply below_drew1 | refine below_set ?_ GE101.out | refine below_set ?_ GE126.out) | exact HB.out)⟩⟩
      case rest =>
        clear HC18
        try clear c1
        try clear p2
        try clear c3
        try clear c4
        try clear c5
        try clear c5b0
        try clear c6
        try clear c7
        try clear c8
        try clear c8b0
        try clear c9
        try clear c33
        try clear c39
        try clear c39b0
        try clear c39b1
        try clear hcz10_0
        try clear hcz10_1
        try clear hcz10_2
        try clear hcz20_0
        try clear hcz20_1
        try clear hcz20_2
        try clear hcz30_0
        try clear hcz30_1
        try clear hcz30_2
        try clear hcz34_0
        try clear hcz34_1
        try clear hcz34_2
        try clear hfz10_0
        try clear hfz10_1
        try clear hfz10_2
        try clear hfz20_0
        try clear hfz20_1
        try clear hfz20_2
        try clear hfz30_0
        try clear hfz30_1
        try clear hfz30_2
        try clear hfz34_0
        try clear hfz34_1
        try clear hfz34_2
        obtain ⟨kq, x51_17, rfl, HA, HJ17, HO_10, HO_127001, HO_127002, BK101, BK126, HB⟩ := hcut
        cases kq with
        | zero => exact absurd HA.out (by simp [laws_FnExactNotateBars.j0])
        | succ kj17 =>
          have H := HA.out
          clear HA
          simp only [laws_FnExactNotateBars.j0] at H
          by_cases c40 : x51_17 = true
          · subst c40
            have H1 : (some false) = some r := by rw [if_pos rfl] at H; exact H
            clear H
            have H := H1
            clear H1
            obtain rfl := Option.some.inj H
            go_wp2
            go_ret
            exact ⟨by first | rfl | (simp [errW_none, errW_some] <;> rfl) | (simp [*, errW_none, errW_some] <;> rfl), by repeat (first | (with_reducible first | exact HB.out | apply below_alloc | apply pw_below_drewN | apply below_drew1 | refine below_set ?_ GE101.out | refine below_set ?_ GE126.out) | exact HB.out)⟩
          · replace c40 := Bool.eq_false_iff.mpr c40
            subst c40
            have H1 : ((laws_toNoteS.f kj17 l0).bind fun t129 => ((laws_eqNoteS.f kj17 t116 t129).bind fun t132 => (if t132 = true then ((laws_toTala.f kj17 a1_0 l1_1 l1_2).bind fun bt133 => ((laws_eqTala.f kj17 t119 t120 t123 bt133.1 bt133.2.1 bt133.2.2).bind fun t140 => (if t140 = true then (some true) else (some false)))) else (some false)))) = some r := by rw [if_neg (show ¬ (false = true) by decide)] at H; exact H
            clear H
            have H := H1
            clear H1
            replace H := Option.bind_eq_some_iff.mp H
            obtain ⟨t129, A410, H⟩ := H
            replace H : ((laws_eqNoteS.f kj17 t116 t129).bind fun t132 => (if t132 = true then ((laws_toTala.f kj17 a1_0 l1_1 l1_2).bind fun bt133 => ((laws_eqTala.f kj17 t119 t120 t123 bt133.1 bt133.2.1 bt133.2.2).bind fun t140 => (if t140 = true then (some true) else (some false)))) else (some false))) = some r := H
            have A41 := Aside0.mk A410
            clear A410
            replace H := Option.bind_eq_some_iff.mp H
            obtain ⟨t132, A420, H⟩ := H
            replace H : (if t132 = true then ((laws_toTala.f kj17 a1_0 l1_1 l1_2).bind fun bt133 => ((laws_eqTala.f kj17 t119 t120 t123 bt133.1 bt133.2.1 bt133.2.2).bind fun t140 => (if t140 = true then (some true) else (some false)))) else (some false)) = some r := H
            have A42 := Aside0.mk A420
            clear A420
            by_cases c43 : t132 = true
            · subst c43
              have H1 : ((laws_toTala.f kj17 a1_0 l1_1 l1_2).bind fun bt133 => ((laws_eqTala.f kj17 t119 t120 t123 bt133.1 bt133.2.1 bt133.2.2).bind fun t140 => (if t140 = true then (some true) else (some false)))) = some r := by rw [if_pos rfl] at H; exact H
              clear H
              have H := H1
              clear H1
              replace H := Option.bind_eq_some_iff.mp H
              obtain ⟨⟨t133, t134, t137⟩, A440, H⟩ := H
              replace H : ((laws_eqTala.f kj17 t119 t120 t123 t133 t134 t137).bind fun t140 => (if t140 = true then (some true) else (some false))) = some r := H
              have A44 := Aside0.mk A440
              clear A440
              replace H := Option.bind_eq_some_iff.mp H
              obtain ⟨t140, A450, H⟩ := H
              replace H : (if t140 = true then (some true) else (some false)) = some r := H
              have A45 := Aside0.mk A450
              clear A450
              by_cases c46 : t140 = true
              · subst c46
                have H1 : (some true) = some r := by rw [if_pos rfl] at H; exact H
                clear H
                have H := H1
                clear H1
                obtain rfl := Option.some.inj H
                try go_wp2_with (first | ((with_reducible refine gate_callee (f := 7) rfl ?_); refine goesL_ (some 54) rfl rfl Tryd.func7 (by kernel_rfl) rfl #[.slice A0 l0.length c0] rfl (by (try simp only [List.map_toArray, List.map_cons, List.map_nil]); first | done | rfl | (simp only [List.length_drop, List.length_take]; rfl)) ?_; (with_reducible refine (laws_toNoteS.calls kj17 _ _ l0 t129 _ ?side1 ?side2 A41.out).mono ?_); (case side1 => repeat (first | exact (Kd.C_below HR0.out HB.out) | (with_reducible refine Kd.C_alloc ?_ _) | (with_reducible refine Kd.C_drewN ?_ _) | (with_reducible refine Kd.C_drew ?_))); (case side2 => exact HC0.out); rintro e w47 ⟨v130, rfl, ho0, hb⟩; refine ⟨_, rfl, ?_⟩; have n0_ := Aside0.mk (Kd.R_elder' (by (with_reducible repeat (first | apply Kd.R_alloc | apply Kd.R_drewN | apply Kd.R_drew)); exact HO_10.out) (Kd.R_base ho0) hb); have n1_ := Aside0.mk (Kd.R_below (by (with_reducible repeat (first | apply Kd.R_alloc | apply Kd.R_drewN | apply Kd.R_drew)); exact HO_127001.out) hb); have n2_ := Aside0.mk (Kd.R_below (by (with_reducible repeat (first | apply Kd.R_alloc | apply Kd.R_drewN | apply Kd.R_drew)); exact HO_127002.out) hb); have n3_ := Aside0.mk (Kd.R_lower (Kd.R_new' ho0 (Kd.R_lt (by (with_reducible repeat (first | apply Kd.R_alloc | apply Kd.R_drewN | apply Kd.R_drew)); exact HO_10.out))) (below_size (by repeat (first | (with_reducible first | exact HB.out | apply below_alloc | apply pw_below_drewN | apply below_drew1 | refine below_set ?_ GE101.out | refine below_set ?_ GE126.out) | exact HB.out)))); have n4_ := Aside0.mk (blk_below (g := gb101) (o := .cells #[.string a1_0, .slice A1_1 l1_1.length c1_1, .slice A1_2 l1_2.length c1_2] 25 (0, 0)) (by (with_reducible repeat (first | refine blk_drewN ?_ _ | refine blk_drew ?_ | refine blk_alloc ?_ _)); exact BK101.out) hb); have n5_ := Aside0.mk (blk_below (g := gb126) (o := .cells #[.string t119, .slice Ao35 t120.length co35, .slice Ao36 t123.length co36] 32 (0, 0)) (by (with_reducible repeat (first | refine blk_drewN ?_ _ | refine blk_drew ?_ | refine blk_alloc ?_ _)); exact BK126.out) hb); have n6_ := Aside0.mk (below_step (by repeat (first | (with_reducible first | exact HB.out | apply below_alloc | apply pw_below_drewN | apply below_drew1 | refine below_set ?_ GE101.out | refine below_set ?_ GE126.out) | exact HB.out)) hb); clear HO_10; clear HO_127001; clear HO_127002; clear BK101; clear BK126; clear HB; have HO_10 := n0_; have HO_127001 := n1_; have HO_127002 := n2_; have HO131 := n3_; have BK101 := n4_; have BK126 := n5_; have HB := n6_; clear n0_ n1_ n2_ n3_ n4_ n5_ n6_; (try clear hb); (try clear hb2); (try clear hk); (try clear hi); (try clear ho0); obtain ⟨Ao48, co48, eo48⟩ := Kd.R_slice HO131.out; subst eo48) | ((with_reducible refine gate_callee (f := 10) rfl ?_); refine goesL_ (some 55) rfl rfl Tryd.func10 (by kernel_rfl) rfl #[.slice Ao37 t116.length co37, .slice Ao48 t129.length co48] rfl (by (try simp only [List.map_toArray, List.map_cons, List.map_nil]); first | done | rfl | (simp only [List.length_drop, List.length_take]; rfl)) ?_; (with_reducible refine (laws_eqNoteS.calls kj17 _ _ t116 _ _ t129 true _ ?side1 ?side2 ?side3 ?side4 A42.out).mono ?_); (case side1 => repeat (first | exact (Kd.R_reads' HO_10.out).2.2 | (with_reducible refine Kd.C_alloc ?_ _) | (with_reducible refine Kd.C_drewN ?_ _) | (with_reducible refine Kd.C_drew ?_))); (case side2 => exact (Kd.R_reads' HO_10.out).2.1); (case side3 => repeat (first | exact (Kd.R_reads' HO131.out).2.2 | (with_reducible refine Kd.C_alloc ?_ _) | (with_reducible refine Kd.C_drewN ?_ _) | (with_reducible refine Kd.C_drew ?_))); (case side4 => exact (Kd.R_reads' HO131.out).2.1); rintro e w49 ⟨rfl, hb⟩; refine ⟨_, rfl, ?_⟩; have n0_ := Aside0.mk (Kd.R_below (by (with_reducible repeat (first | apply Kd.R_alloc | apply Kd.R_drewN | apply Kd.R_drew)); exact HO_10.out) hb); have n1_ := Aside0.mk (Kd.R_below (by (with_reducible repeat (first | apply Kd.R_alloc | apply Kd.R_drewN | apply Kd.R_drew)); exact HO_127001.out) hb); have n2_ := Aside0.mk (Kd.R_below (by (with_reducible repeat (first | apply Kd.R_alloc | apply Kd.R_drewN | apply Kd.R_drew)); exact HO_127002.out) hb); have n3_ := Aside0.mk (Kd.R_below (by (with_reducible repeat (first | apply Kd.R_alloc | apply Kd.R_drewN | apply Kd.R_drew)); exact HO131.out) hb); have n4_ := Aside0.mk (blk_below (g := gb101) (o := .cells #[.string a1_0, .slice A1_1 l1_1.length c1_1, .slice A1_2 l1_2.length c1_2] 25 (0, 0)) (by (with_reducible repeat (first | refine blk_drewN ?_ _ | refine blk_drew ?_ | refine blk_alloc ?_ _)); exact BK101.out) hb); have n5_ := Aside0.mk (blk_below (g := gb126) (o := .cells #[.string t119, .slice Ao35 t120.length co35, .slice Ao36 t123.length co36] 32 (0, 0)) (by (with_reducible repeat (first | refine blk_drewN ?_ _ | refine blk_drew ?_ | refine blk_alloc ?_ _)); exact BK126.out) hb); have n6_ := Aside0.mk (below_step (by repeat (first | (with_reducible first | exact HB.out | apply below_alloc | apply pw_below_drewN | apply below_drew1 | refine below_set ?_ GE101.out | refine below_set ?_ GE126.out) | exact HB.out)) hb); clear HO_10; clear HO_127001; clear HO_127002; clear HO131; clear BK101; clear BK126; clear HB; have HO_10 := n0_; have HO_127001 := n1_; have HO_127002 := n2_; have HO131 := n3_; have BK101 := n4_; have BK126 := n5_; have HB := n6_; clear n0_ n1_ n2_ n3_ n4_ n5_ n6_; (try clear hb); (try clear hb2); (try clear hk); (try clear hi)))
                have n0_ := Aside0.mk (Kd.R_drew HO_10.out)
                have n1_ := Aside0.mk (Kd.R_drew HO_127001.out)
                have n2_ := Aside0.mk (Kd.R_drew HO_127002.out)
                have n3_ := Aside0.mk (Kd.R_drew HO131.out)
                have n4_ := Aside0.mk (blk_drew BK101.out)
                have n5_ := Aside0.mk (blk_drew BK126.out)
                have n6_ := Aside0.mk (below_drew1 HB.out)
                clear HO_10
                clear HO_127001
                clear HO_127002
                clear HO131
                clear BK101
                clear BK126
                clear HB
                have HO_10 := n0_
                have HO_127001 := n1_
                have HO_127002 := n2_
                have HO131 := n3_
                have BK101 := n4_
                have BK126 := n5_
                have HB := n6_
                clear n0_ n1_ n2_ n3_ n4_ n5_ n6_
                refine start_ (n := 5) (S := fun w' => w'.cell? ⟨gb126, 0, none⟩ = some (.string t119) ∧ w'.cell? ⟨gb126, 1, none⟩ = some (.slice Ao35 t120.length co35) ∧ w'.cell? ⟨gb126, 2, none⟩ = some (.slice Ao36 t123.length co36) ∧ w'.cell? ⟨gb101, 0, none⟩ = some (.string a1_0) ∧ w'.cell? ⟨gb101, 1, none⟩ = some (.slice A1_1 l1_1.length c1_1) ∧ w'.cell? ⟨gb101, 2, none⟩ = some (.slice A1_2 l1_2.length c1_2)) (ds := []) #[false, false, false, false, false] (by kernel_rfl) rfl rfl ⟨(blk_cell BK126.out 0).trans rfl, (blk_cell BK126.out 1).trans rfl, (blk_cell BK126.out 2).trans rfl, (blk_cell BK101.out 0).trans rfl, (blk_cell BK101.out 1).trans rfl, (blk_cell BK101.out 2).trans rfl⟩ (fun hHeld => ?_)
                generalize w49.drew = w50 at HO_10 HO_127001 HO_127002 HO131 BK101 BK126 HB hHeld ⊢
                refine take_ (i := 0) (N := some 57) (v := ?_) (a' := ?_) #[true, false, false, false, false] rfl rfl (by kernel_rfl) (fun _ _ _ h => h) (Or.inl ⟨by rfl, ?_⟩) hHeld ?_ ?_
                rotate_left
                · rintro w' ⟨s0, s1, s2, s3, s4, s5⟩
                  go_simp
                  with_reducible rfl
                rotate_left
                · simp only [Act.put, List.setIfInBounds_toArray, List.set_cons_zero, List.set_cons_succ, i64_w, i32_w]
                  rfl
                refine take_ (i := 1) (N := some 58) (v := ?_) (a' := ?_) #[true, true, false, false, false] rfl rfl (by kernel_rfl) (fun _ _ _ h => h) (Or.inl ⟨by rfl, ?_⟩) hHeld ?_ ?_
                rotate_left
                · rintro w' ⟨s0, s1, s2, s3, s4, s5⟩
                  go_simp
                  with_reducible rfl
                rotate_left
                · simp only [Act.put, List.setIfInBounds_toArray, List.set_cons_zero, List.set_cons_succ, i64_w, i32_w]
                  rfl
                refine one_ (i := 2) (N := some 59) #[true, true, true, false, false] rfl rfl (by kernel_rfl) (by decide) (fun K hK => ?_)
                refine goes_ Tryd.func8 (by kernel_rfl) rfl #[.agg #[.string a1_0, .slice A1_1 l1_1.length c1_1, .slice A1_2 l1_2.length c1_2]] (by rfl) rfl rfl (by (try simp only [List.map_toArray, List.map_cons, List.map_nil]); first | done | rfl | (simp only [List.length_drop, List.length_take]; rfl)) ?_
                with_reducible refine (laws_toTala.calls kj17 a1_0 _ _ l1_1 _ _ l1_2 t133 t134 t137 _ ?side1 ?side2 ?side3 ?side4 A44.out).mono ?_
                (case side1 => repeat (first | exact (Kd.C_below HR1_1.out HB.out) | (with_reducible refine Kd.C_alloc ?_ _) | (with_reducible refine Kd.C_drewN ?_ _) | (with_reducible refine Kd.C_drew ?_)))
                (case side2 => exact HC1_1.out)
                (case side3 => repeat (first | exact (Kd.C_below HR1_2.out HB.out) | (with_reducible refine Kd.C_alloc ?_ _) | (with_reducible refine Kd.C_drewN ?_ _) | (with_reducible refine Kd.C_drew ?_)))
                (case side4 => exact HC1_2.out)
                rintro e w51 ⟨v135, v138, rfl, ho0, ho1, hb⟩
                refine ⟨_, rfl, ?_⟩
                have n0_ := Aside0.mk (Kd.R_below (by (with_reducible repeat (first | apply Kd.R_alloc | apply Kd.R_drewN | apply Kd.R_drew)); exact HO_10.out) hb)
                have n1_ := Aside0.mk (Kd.R_mono (Kd.R_told (Kd.R_told (Kd.R_old (by (with_reducible repeat (first | apply Kd.R_alloc | apply Kd.R_drewN | apply Kd.R_drew)); exact HO_127001.out) hb) (Kd.R_base ho0)) (Kd.R_base ho1)) (fun _ h_ => h_.1))
                have n2_ := Aside0.mk (Kd.R_mono (Kd.R_told (Kd.R_told (Kd.R_old (by (with_reducible repeat (first | apply Kd.R_alloc | apply Kd.R_drewN | apply Kd.R_drew)); exact HO_127002.out) hb) (Kd.R_base ho0)) (Kd.R_base ho1)) (fun _ h_ => h_.1))
                have n3_ := Aside0.mk (Kd.R_below (by (with_reducible repeat (first | apply Kd.R_alloc | apply Kd.R_drewN | apply Kd.R_drew)); exact HO131.out) hb)
                have n4_ := Aside0.mk (Kd.R_lower (Kd.R_new' (Kd.R_new' ho0 (Kd.R_lt (by (with_reducible repeat (first | apply Kd.R_alloc | apply Kd.R_drewN | apply Kd.R_drew)); exact HO_127001.out))) (Kd.R_lt (by (with_reducible repeat (first | apply Kd.R_alloc | apply Kd.R_drewN | apply Kd.R_drew)); exact HO_127002.out))) (below_size (by repeat (first | (with_reducible first | exact HB.out | apply below_alloc | apply pw_below_drewN | apply below_drew1 | refine below_set ?_ GE101.out | refine below_set ?_ GE126.out) | exact HB.out))))
                have n5_ := Aside0.mk (Kd.R_lower (Kd.R_new' (Kd.R_new' ho1 (Kd.R_lt (by (with_reducible repeat (first | apply Kd.R_alloc | apply Kd.R_drewN | apply Kd.R_drew)); exact HO_127001.out))) (Kd.R_lt (by (with_reducible repeat (first | apply Kd.R_alloc | apply Kd.R_drewN | apply Kd.R_drew)); exact HO_127002.out))) (below_size (by repeat (first | (with_reducible first | exact HB.out | apply below_alloc | apply pw_below_drewN | apply below_drew1 | refine below_set ?_ GE101.out | refine below_set ?_ GE126.out) | exact HB.out))))
                have n6_ := Aside0.mk (blk_below (g := gb101) (o := .cells #[.string a1_0, .slice A1_1 l1_1.length c1_1, .slice A1_2 l1_2.length c1_2] 25 (0, 0)) (by (with_reducible repeat (first | refine blk_drewN ?_ _ | refine blk_drew ?_ | refine blk_alloc ?_ _)); exact BK101.out) hb)
                have n7_ := Aside0.mk (blk_below (g := gb126) (o := .cells #[.string t119, .slice Ao35 t120.length co35, .slice Ao36 t123.length co36] 32 (0, 0)) (by (with_reducible repeat (first | refine blk_drewN ?_ _ | refine blk_drew ?_ | refine blk_alloc ?_ _)); exact BK126.out) hb)
                have n8_ := Aside0.mk (below_step (by repeat (first | (with_reducible first | exact HB.out | apply below_alloc | apply pw_below_drewN | apply below_drew1 | refine below_set ?_ GE101.out | refine below_set ?_ GE126.out) | exact HB.out)) hb)
                clear HO_10
                clear HO_127001
                clear HO_127002
                clear HO131
                clear BK101
                clear BK126
                clear HB
                have HO_10 := n0_
                have HO_127001 := n1_
                have HO_127002 := n2_
                have HO131 := n3_
                have HO136 := n4_
                have HO139 := n5_
                have BK101 := n6_
                have BK126 := n7_
                have HB := n8_
                clear n0_ n1_ n2_ n3_ n4_ n5_ n6_ n7_ n8_
                (try clear hb)
                (try clear hb2)
                (try clear hk)
                (try clear hi)
                (try clear ho0)
                (try clear ho1)
                obtain ⟨Ao52, co52, eo52⟩ := Kd.R_slice HO136.out
                (first | subst eo52 | (injection eo52 with f1_ f2_ f3_; have f4_ := f1_.symm; have f5_ := f3_.symm; clear f1_ f2_ f3_; subst f4_; subst f5_))
                obtain ⟨Ao53, co53, eo53⟩ := Kd.R_slice HO139.out
                (first | subst eo53 | (injection eo53 with f1_ f2_ f3_; have f4_ := f1_.symm; have f5_ := f3_.symm; clear f1_ f2_ f3_; subst f4_; subst f5_))
                refine hK.out _ _ ⟨(blk_cell BK126.out 0).trans rfl, (blk_cell BK126.out 1).trans rfl, (blk_cell BK126.out 2).trans rfl, (blk_cell BK101.out 0).trans rfl, (blk_cell BK101.out 1).trans rfl, (blk_cell BK101.out 2).trans rfl⟩ (fun hHeld => ?_)
                clear hK K
                refine norm_ (a' := ?_) ?_ ?_
                rotate_left
                · show Act.put _ (some 59) _ = _
                  simp only [Act.put, List.setIfInBounds_toArray, List.set_cons_zero, List.set_cons_succ, i64_w, i32_w]
                  rfl
                refine one_ (i := 3) (N := some 60) #[true, true, true, true, false] rfl rfl (by kernel_rfl) (by decide) (fun K hK => ?_)
                refine goes_ Tryd.func11 (by kernel_rfl) rfl #[.agg #[.string t119, .slice Ao35 t120.length co35, .slice Ao36 t123.length co36], .agg #[.string t133, .slice Ao52 t134.length co52, .slice Ao53 t137.length co53]] (by rfl) rfl rfl (by (try simp only [List.map_toArray, List.map_cons, List.map_nil]); first | done | rfl | (simp only [List.length_drop, List.length_take]; rfl)) ?_
                with_reducible refine (laws_eqTala.calls kj17 t119 _ _ t120 _ _ t123 t133 _ _ t134 _ _ t137 true _ ?side1 ?side2 ?side3 ?side4 ?side5 ?side6 ?side7 ?side8 A45.out).mono ?_
                (case side1 => repeat (first | exact (Kd.R_reads' HO_127001.out).2.2 | (with_reducible refine Kd.C_alloc ?_ _) | (with_reducible refine Kd.C_drewN ?_ _) | (with_reducible refine Kd.C_drew ?_)))
                (case side2 => exact (Kd.R_reads' HO_127001.out).2.1)
                (case side3 => repeat (first | exact (Kd.R_reads' HO_127002.out).2.2 | (with_reducible refine Kd.C_alloc ?_ _) | (with_reducible refine Kd.C_drewN ?_ _) | (with_reducible refine Kd.C_drew ?_)))
                (case side4 => exact (Kd.R_reads' HO_127002.out).2.1)
                (case side5 => repeat (first | exact (Kd.R_reads' HO136.out).2.2 | (with_reducible refine Kd.C_alloc ?_ _) | (with_reducible refine Kd.C_drewN ?_ _) | (with_reducible refine Kd.C_drew ?_)))
                (case side6 => exact (Kd.R_reads' HO136.out).2.1)
                (case side7 => repeat (first | exact (Kd.R_reads' HO139.out).2.2 | (with_reducible refine Kd.C_alloc ?_ _) | (with_reducible refine Kd.C_drewN ?_ _) | (with_reducible refine Kd.C_drew ?_)))
                (case side8 => exact (Kd.R_reads' HO139.out).2.1)
                rintro e w54 ⟨rfl, hb⟩
                refine ⟨_, rfl, ?_⟩
                have n0_ := Aside0.mk (Kd.R_below (by (with_reducible repeat (first | apply Kd.R_alloc | apply Kd.R_drewN | apply Kd.R_drew)); exact HO_10.out) hb)
                have n1_ := Aside0.mk (Kd.R_below (by (with_reducible repeat (first | apply Kd.R_alloc | apply Kd.R_drewN | apply Kd.R_drew)); exact HO_127001.out) hb)
                have n2_ := Aside0.mk (Kd.R_below (by (with_reducible repeat (first | apply Kd.R_alloc | apply Kd.R_drewN | apply Kd.R_drew)); exact HO_127002.out) hb)
                have n3_ := Aside0.mk (Kd.R_below (by (with_reducible repeat (first | apply Kd.R_alloc | apply Kd.R_drewN | apply Kd.R_drew)); exact HO131.out) hb)
                have n4_ := Aside0.mk (Kd.R_below (by (with_reducible repeat (first | apply Kd.R_alloc | apply Kd.R_drewN | apply Kd.R_drew)); exact HO136.out) hb)
                have n5_ := Aside0.mk (Kd.R_below (by (with_reducible repeat (first | apply Kd.R_alloc | apply Kd.R_drewN | apply Kd.R_drew)); exact HO139.out) hb)
                have n6_ := Aside0.mk (blk_below (g := gb101) (o := .cells #[.string a1_0, .slice A1_1 l1_1.length c1_1, .slice A1_2 l1_2.length c1_2] 25 (0, 0)) (by (with_reducible repeat (first | refine blk_drewN ?_ _ | refine blk_drew ?_ | refine blk_alloc ?_ _)); exact BK101.out) hb)
                have n7_ := Aside0.mk (blk_below (g := gb126) (o := .cells #[.string t119, .slice Ao35 t120.length co35, .slice Ao36 t123.length co36] 32 (0, 0)) (by (with_reducible repeat (first | refine blk_drewN ?_ _ | refine blk_drew ?_ | refine blk_alloc ?_ _)); exact BK126.out) hb)
                have n8_ := Aside0.mk (below_step (by repeat (first | (with_reducible first | exact HB.out | apply below_alloc | apply pw_below_drewN | apply below_drew1 | refine below_set ?_ GE101.out | refine below_set ?_ GE126.out) | exact HB.out)) hb)
                clear HO_10
                clear HO_127001
                clear HO_127002
                clear HO131
                clear HO136
                clear HO139
                clear BK101
                clear BK126
                clear HB
                have HO_10 := n0_
                have HO_127001 := n1_
                have HO_127002 := n2_
                have HO131 := n3_
                have HO136 := n4_
                have HO139 := n5_
                have BK101 := n6_
                have BK126 := n7_
                have HB := n8_
                clear n0_ n1_ n2_ n3_ n4_ n5_ n6_ n7_ n8_
                (try clear hb)
                (try clear hb2)
                (try clear hk)
                (try clear hi)
                refine hK.out _ _ ⟨(blk_cell BK126.out 0).trans rfl, (blk_cell BK126.out 1).trans rfl, (blk_cell BK126.out 2).trans rfl, (blk_cell BK101.out 0).trans rfl, (blk_cell BK101.out 1).trans rfl, (blk_cell BK101.out 2).trans rfl⟩ (fun hHeld => ?_)
                clear hK K
                refine norm_ (a' := ?_) ?_ ?_
                rotate_left
                · show Act.put _ (some 60) _ = _
                  simp only [Act.put, List.setIfInBounds_toArray, List.set_cons_zero, List.set_cons_succ, i64_w, i32_w]
                  rfl
                refine pure_ (i := 4) (N := some 61) (v := ?_) (a' := ?_) #[true, true, true, true, true] rfl rfl (by kernel_rfl) (fun _ _ _ h => h) (Or.inl ⟨by rfl, ?_⟩) ?_ ?_
                rotate_left
                · intro w'
                  go_simp
                  with_reducible rfl
                rotate_left
                · simp only [Act.put, List.setIfInBounds_toArray, List.set_cons_zero, List.set_cons_succ, i64_w, i32_w]
                  rfl
                refine done_ (by kernel_rfl) ?_
                try go_wp2
                go_ret
                exact ⟨by first | rfl | (simp [errW_none, errW_some] <;> rfl) | (simp [*, errW_none, errW_some] <;> rfl), by repeat (first | (with_reducible first | exact HB.out | apply below_alloc | apply pw_below_drewN | apply below_drew1 | refine below_set ?_ GE101.out | refine below_set ?_ GE126.out) | exact HB.out)⟩
              · replace c46 := Bool.eq_false_iff.mpr c46
                subst c46
                have H1 : (some false) = some r := by rw [if_neg (show ¬ (false = true) by decide)] at H; exact H
                clear H
                have H := H1
                clear H1
                obtain rfl := Option.some.inj H
                try go_wp2_with (first | ((with_reducible refine gate_callee (f := 7) rfl ?_); refine goesL_ (some 54) rfl rfl Tryd.func7 (by kernel_rfl) rfl #[.slice A0 l0.length c0] rfl (by (try simp only [List.map_toArray, List.map_cons, List.map_nil]); first | done | rfl | (simp only [List.length_drop, List.length_take]; rfl)) ?_; (with_reducible refine (laws_toNoteS.calls kj17 _ _ l0 t129 _ ?side1 ?side2 A41.out).mono ?_); (case side1 => repeat (first | exact (Kd.C_below HR0.out HB.out) | (with_reducible refine Kd.C_alloc ?_ _) | (with_reducible refine Kd.C_drewN ?_ _) | (with_reducible refine Kd.C_drew ?_))); (case side2 => exact HC0.out); rintro e w55 ⟨v130, rfl, ho0, hb⟩; refine ⟨_, rfl, ?_⟩; have n0_ := Aside0.mk (Kd.R_elder' (by (with_reducible repeat (first | apply Kd.R_alloc | apply Kd.R_drewN | apply Kd.R_drew)); exact HO_10.out) (Kd.R_base ho0) hb); have n1_ := Aside0.mk (Kd.R_below (by (with_reducible repeat (first | apply Kd.R_alloc | apply Kd.R_drewN | apply Kd.R_drew)); exact HO_127001.out) hb); have n2_ := Aside0.mk (Kd.R_below (by (with_reducible repeat (first | apply Kd.R_alloc | apply Kd.R_drewN | apply Kd.R_drew)); exact HO_127002.out) hb); have n3_ := Aside0.mk (Kd.R_lower (Kd.R_new' ho0 (Kd.R_lt (by (with_reducible repeat (first | apply Kd.R_alloc | apply Kd.R_drewN | apply Kd.R_drew)); exact HO_10.out))) (below_size (by repeat (first | (with_reducible first | exact HB.out | apply below_alloc | apply pw_below_drewN | apply below_drew1 | refine below_set ?_ GE101.out | refine below_set ?_ GE126.out) | exact HB.out)))); have n4_ := Aside0.mk (blk_below (g := gb101) (o := .cells #[.string a1_0, .slice A1_1 l1_1.length c1_1, .slice A1_2 l1_2.length c1_2] 25 (0, 0)) (by (with_reducible repeat (first | refine blk_drewN ?_ _ | refine blk_drew ?_ | refine blk_alloc ?_ _)); exact BK101.out) hb); have n5_ := Aside0.mk (blk_below (g := gb126) (o := .cells #[.string t119, .slice Ao35 t120.length co35, .slice Ao36 t123.length co36] 32 (0, 0)) (by (with_reducible repeat (first | refine blk_drewN ?_ _ | refine blk_drew ?_ | refine blk_alloc ?_ _)); exact BK126.out) hb); have n6_ := Aside0.mk (below_step (by repeat (first | (with_reducible first | exact HB.out | apply below_alloc | apply pw_below_drewN | apply below_drew1 | refine below_set ?_ GE101.out | refine below_set ?_ GE126.out) | exact HB.out)) hb); clear HO_10; clear HO_127001; clear HO_127002; clear BK101; clear BK126; clear HB; have HO_10 := n0_; have HO_127001 := n1_; have HO_127002 := n2_; have HO131 := n3_; have BK101 := n4_; have BK126 := n5_; have HB := n6_; clear n0_ n1_ n2_ n3_ n4_ n5_ n6_; (try clear hb); (try clear hb2); (try clear hk); (try clear hi); (try clear ho0); obtain ⟨Ao56, co56, eo56⟩ := Kd.R_slice HO131.out; subst eo56) | ((with_reducible refine gate_callee (f := 10) rfl ?_); refine goesL_ (some 55) rfl rfl Tryd.func10 (by kernel_rfl) rfl #[.slice Ao37 t116.length co37, .slice Ao56 t129.length co56] rfl (by (try simp only [List.map_toArray, List.map_cons, List.map_nil]); first | done | rfl | (simp only [List.length_drop, List.length_take]; rfl)) ?_; (with_reducible refine (laws_eqNoteS.calls kj17 _ _ t116 _ _ t129 true _ ?side1 ?side2 ?side3 ?side4 A42.out).mono ?_); (case side1 => repeat (first | exact (Kd.R_reads' HO_10.out).2.2 | (with_reducible refine Kd.C_alloc ?_ _) | (with_reducible refine Kd.C_drewN ?_ _) | (with_reducible refine Kd.C_drew ?_))); (case side2 => exact (Kd.R_reads' HO_10.out).2.1); (case side3 => repeat (first | exact (Kd.R_reads' HO131.out).2.2 | (with_reducible refine Kd.C_alloc ?_ _) | (with_reducible refine Kd.C_drewN ?_ _) | (with_reducible refine Kd.C_drew ?_))); (case side4 => exact (Kd.R_reads' HO131.out).2.1); rintro e w57 ⟨rfl, hb⟩; refine ⟨_, rfl, ?_⟩; have n0_ := Aside0.mk (Kd.R_below (by (with_reducible repeat (first | apply Kd.R_alloc | apply Kd.R_drewN | apply Kd.R_drew)); exact HO_10.out) hb); have n1_ := Aside0.mk (Kd.R_below (by (with_reducible repeat (first | apply Kd.R_alloc | apply Kd.R_drewN | apply Kd.R_drew)); exact HO_127001.out) hb); have n2_ := Aside0.mk (Kd.R_below (by (with_reducible repeat (first | apply Kd.R_alloc | apply Kd.R_drewN | apply Kd.R_drew)); exact HO_127002.out) hb); have n3_ := Aside0.mk (Kd.R_below (by (with_reducible repeat (first | apply Kd.R_alloc | apply Kd.R_drewN | apply Kd.R_drew)); exact HO131.out) hb); have n4_ := Aside0.mk (blk_below (g := gb101) (o := .cells #[.string a1_0, .slice A1_1 l1_1.length c1_1, .slice A1_2 l1_2.length c1_2] 25 (0, 0)) (by (with_reducible repeat (first | refine blk_drewN ?_ _ | refine blk_drew ?_ | refine blk_alloc ?_ _)); exact BK101.out) hb); have n5_ := Aside0.mk (blk_below (g := gb126) (o := .cells #[.string t119, .slice Ao35 t120.length co35, .slice Ao36 t123.length co36] 32 (0, 0)) (by (with_reducible repeat (first | refine blk_drewN ?_ _ | refine blk_drew ?_ | refine blk_alloc ?_ _)); exact BK126.out) hb); have n6_ := Aside0.mk (below_step (by repeat (first | (with_reducible first | exact HB.out | apply below_alloc | apply pw_below_drewN | apply below_drew1 | refine below_set ?_ GE101.out | refine below_set ?_ GE126.out) | exact HB.out)) hb); clear HO_10; clear HO_127001; clear HO_127002; clear HO131; clear BK101; clear BK126; clear HB; have HO_10 := n0_; have HO_127001 := n1_; have HO_127002 := n2_; have HO131 := n3_; have BK101 := n4_; have BK126 := n5_; have HB := n6_; clear n0_ n1_ n2_ n3_ n4_ n5_ n6_; (try clear hb); (try clear hb2); (try clear hk); (try clear hi)))
                have n0_ := Aside0.mk (Kd.R_drew HO_10.out)
                have n1_ := Aside0.mk (Kd.R_drew HO_127001.out)
                have n2_ := Aside0.mk (Kd.R_drew HO_127002.out)
                have n3_ := Aside0.mk (Kd.R_drew HO131.out)
                have n4_ := Aside0.mk (blk_drew BK101.out)
                have n5_ := Aside0.mk (blk_drew BK126.out)
                have n6_ := Aside0.mk (below_drew1 HB.out)
                clear HO_10
                clear HO_127001
                clear HO_127002
                clear HO131
                clear BK101
                clear BK126
                clear HB
                have HO_10 := n0_
                have HO_127001 := n1_
                have HO_127002 := n2_
                have HO131 := n3_
                have BK101 := n4_
                have BK126 := n5_
                have HB := n6_
                clear n0_ n1_ n2_ n3_ n4_ n5_ n6_
                refine start_ (n := 5) (S := fun w' => w'.cell? ⟨gb126, 0, none⟩ = some (.string t119) ∧ w'.cell? ⟨gb126, 1, none⟩ = some (.slice Ao35 t120.length co35) ∧ w'.cell? ⟨gb126, 2, none⟩ = some (.slice Ao36 t123.length co36) ∧ w'.cell? ⟨gb101, 0, none⟩ = some (.string a1_0) ∧ w'.cell? ⟨gb101, 1, none⟩ = some (.slice A1_1 l1_1.length c1_1) ∧ w'.cell? ⟨gb101, 2, none⟩ = some (.slice A1_2 l1_2.length c1_2)) (ds := []) #[false, false, false, false, false] (by kernel_rfl) rfl rfl ⟨(blk_cell BK126.out 0).trans rfl, (blk_cell BK126.out 1).trans rfl, (blk_cell BK126.out 2).trans rfl, (blk_cell BK101.out 0).trans rfl, (blk_cell BK101.out 1).trans rfl, (blk_cell BK101.out 2).trans rfl⟩ (fun hHeld => ?_)
                generalize w57.drew = w58 at HO_10 HO_127001 HO_127002 HO131 BK101 BK126 HB hHeld ⊢
                refine take_ (i := 0) (N := some 57) (v := ?_) (a' := ?_) #[true, false, false, false, false] rfl rfl (by kernel_rfl) (fun _ _ _ h => h) (Or.inl ⟨by rfl, ?_⟩) hHeld ?_ ?_
                rotate_left
                · rintro w' ⟨s0, s1, s2, s3, s4, s5⟩
                  go_simp
                  with_reducible rfl
                rotate_left
                · simp only [Act.put, List.setIfInBounds_toArray, List.set_cons_zero, List.set_cons_succ, i64_w, i32_w]
                  rfl
                refine take_ (i := 1) (N := some 58) (v := ?_) (a' := ?_) #[true, true, false, false, false] rfl rfl (by kernel_rfl) (fun _ _ _ h => h) (Or.inl ⟨by rfl, ?_⟩) hHeld ?_ ?_
                rotate_left
                · rintro w' ⟨s0, s1, s2, s3, s4, s5⟩
                  go_simp
                  with_reducible rfl
                rotate_left
                · simp only [Act.put, List.setIfInBounds_toArray, List.set_cons_zero, List.set_cons_succ, i64_w, i32_w]
                  rfl
                refine one_ (i := 2) (N := some 59) #[true, true, true, false, false] rfl rfl (by kernel_rfl) (by decide) (fun K hK => ?_)
                refine goes_ Tryd.func8 (by kernel_rfl) rfl #[.agg #[.string a1_0, .slice A1_1 l1_1.length c1_1, .slice A1_2 l1_2.length c1_2]] (by rfl) rfl rfl (by (try simp only [List.map_toArray, List.map_cons, List.map_nil]); first | done | rfl | (simp only [List.length_drop, List.length_take]; rfl)) ?_
                with_reducible refine (laws_toTala.calls kj17 a1_0 _ _ l1_1 _ _ l1_2 t133 t134 t137 _ ?side1 ?side2 ?side3 ?side4 A44.out).mono ?_
                (case side1 => repeat (first | exact (Kd.C_below HR1_1.out HB.out) | (with_reducible refine Kd.C_alloc ?_ _) | (with_reducible refine Kd.C_drewN ?_ _) | (with_reducible refine Kd.C_drew ?_)))
                (case side2 => exact HC1_1.out)
                (case side3 => repeat (first | exact (Kd.C_below HR1_2.out HB.out) | (with_reducible refine Kd.C_alloc ?_ _) | (with_reducible refine Kd.C_drewN ?_ _) | (with_reducible refine Kd.C_drew ?_)))
                (case side4 => exact HC1_2.out)
                rintro e w59 ⟨v135, v138, rfl, ho0, ho1, hb⟩
                refine ⟨_, rfl, ?_⟩
                have n0_ := Aside0.mk (Kd.R_below (by (with_reducible repeat (first | apply Kd.R_alloc | apply Kd.R_drewN | apply Kd.R_drew)); exact HO_10.out) hb)
                have n1_ := Aside0.mk (Kd.R_mono (Kd.R_told (Kd.R_told (Kd.R_old (by (with_reducible repeat (first | apply Kd.R_alloc | apply Kd.R_drewN | apply Kd.R_drew)); exact HO_127001.out) hb) (Kd.R_base ho0)) (Kd.R_base ho1)) (fun _ h_ => h_.1))
                have n2_ := Aside0.mk (Kd.R_mono (Kd.R_told (Kd.R_told (Kd.R_old (by (with_reducible repeat (first | apply Kd.R_alloc | apply Kd.R_drewN | apply Kd.R_drew)); exact HO_127002.out) hb) (Kd.R_base ho0)) (Kd.R_base ho1)) (fun _ h_ => h_.1))
                have n3_ := Aside0.mk (Kd.R_below (by (with_reducible repeat (first | apply Kd.R_alloc | apply Kd.R_drewN | apply Kd.R_drew)); exact HO131.out) hb)
                have n4_ := Aside0.mk (Kd.R_lower (Kd.R_new' (Kd.R_new' ho0 (Kd.R_lt (by (with_reducible repeat (first | apply Kd.R_alloc | apply Kd.R_drewN | apply Kd.R_drew)); exact HO_127001.out))) (Kd.R_lt (by (with_reducible repeat (first | apply Kd.R_alloc | apply Kd.R_drewN | apply Kd.R_drew)); exact HO_127002.out))) (below_size (by repeat (first | (with_reducible first | exact HB.out | apply below_alloc | apply pw_below_drewN | apply below_drew1 | refine below_set ?_ GE101.out | refine below_set ?_ GE126.out) | exact HB.out))))
                have n5_ := Aside0.mk (Kd.R_lower (Kd.R_new' (Kd.R_new' ho1 (Kd.R_lt (by (with_reducible repeat (first | apply Kd.R_alloc | apply Kd.R_drewN | apply Kd.R_drew)); exact HO_127001.out))) (Kd.R_lt (by (with_reducible repeat (first | apply Kd.R_alloc | apply Kd.R_drewN | apply Kd.R_drew)); exact HO_127002.out))) (below_size (by repeat (first | (with_reducible first | exact HB.out | apply below_alloc | apply pw_below_drewN | apply below_drew1 | refine below_set ?_ GE101.out | refine below_set ?_ GE126.out) | exact HB.out))))
                have n6_ := Aside0.mk (blk_below (g := gb101) (o := .cells #[.string a1_0, .slice A1_1 l1_1.length c1_1, .slice A1_2 l1_2.length c1_2] 25 (0, 0)) (by (with_reducible repeat (first | refine blk_drewN ?_ _ | refine blk_drew ?_ | refine blk_alloc ?_ _)); exact BK101.out) hb)
                have n7_ := Aside0.mk (blk_below (g := gb126) (o := .cells #[.string t119, .slice Ao35 t120.length co35, .slice Ao36 t123.length co36] 32 (0, 0)) (by (with_reducible repeat (first | refine blk_drewN ?_ _ | refine blk_drew ?_ | refine blk_alloc ?_ _)); exact BK126.out) hb)
                have n8_ := Aside0.mk (below_step (by repeat (first | (with_reducible first | exact HB.out | apply below_alloc | apply pw_below_drewN | apply below_drew1 | refine below_set ?_ GE101.out | refine below_set ?_ GE126.out) | exact HB.out)) hb)
                clear HO_10
                clear HO_127001
                clear HO_127002
                clear HO131
                clear BK101
                clear BK126
                clear HB
                have HO_10 := n0_
                have HO_127001 := n1_
                have HO_127002 := n2_
                have HO131 := n3_
                have HO136 := n4_
                have HO139 := n5_
                have BK101 := n6_
                have BK126 := n7_
                have HB := n8_
                clear n0_ n1_ n2_ n3_ n4_ n5_ n6_ n7_ n8_
                (try clear hb)
                (try clear hb2)
                (try clear hk)
                (try clear hi)
                (try clear ho0)
                (try clear ho1)
                obtain ⟨Ao60, co60, eo60⟩ := Kd.R_slice HO136.out
                (first | subst eo60 | (injection eo60 with f1_ f2_ f3_; have f4_ := f1_.symm; have f5_ := f3_.symm; clear f1_ f2_ f3_; subst f4_; subst f5_))
                obtain ⟨Ao61, co61, eo61⟩ := Kd.R_slice HO139.out
                (first | subst eo61 | (injection eo61 with f1_ f2_ f3_; have f4_ := f1_.symm; have f5_ := f3_.symm; clear f1_ f2_ f3_; subst f4_; subst f5_))
                refine hK.out _ _ ⟨(blk_cell BK126.out 0).trans rfl, (blk_cell BK126.out 1).trans rfl, (blk_cell BK126.out 2).trans rfl, (blk_cell BK101.out 0).trans rfl, (blk_cell BK101.out 1).trans rfl, (blk_cell BK101.out 2).trans rfl⟩ (fun hHeld => ?_)
                clear hK K
                refine norm_ (a' := ?_) ?_ ?_
                rotate_left
                · show Act.put _ (some 59) _ = _
                  simp only [Act.put, List.setIfInBounds_toArray, List.set_cons_zero, List.set_cons_succ, i64_w, i32_w]
                  rfl
                refine one_ (i := 3) (N := some 60) #[true, true, true, true, false] rfl rfl (by kernel_rfl) (by decide) (fun K hK => ?_)
                refine goes_ Tryd.func11 (by kernel_rfl) rfl #[.agg #[.string t119, .slice Ao35 t120.length co35, .slice Ao36 t123.length co36], .agg #[.string t133, .slice Ao60 t134.length co60, .slice Ao61 t137.length co61]] (by rfl) rfl rfl (by (try simp only [List.map_toArray, List.map_cons, List.map_nil]); first | done | rfl | (simp only [List.length_drop, List.length_take]; rfl)) ?_
                with_reducible refine (laws_eqTala.calls kj17 t119 _ _ t120 _ _ t123 t133 _ _ t134 _ _ t137 false _ ?side1 ?side2 ?side3 ?side4 ?side5 ?side6 ?side7 ?side8 A45.out).mono ?_
                (case side1 => repeat (first | exact (Kd.R_reads' HO_127001.out).2.2 | (with_reducible refine Kd.C_alloc ?_ _) | (with_reducible refine Kd.C_drewN ?_ _) | (with_reducible refine Kd.C_drew ?_)))
                (case side2 => exact (Kd.R_reads' HO_127001.out).2.1)
                (case side3 => repeat (first | exact (Kd.R_reads' HO_127002.out).2.2 | (with_reducible refine Kd.C_alloc ?_ _) | (with_reducible refine Kd.C_drewN ?_ _) | (with_reducible refine Kd.C_drew ?_)))
                (case side4 => exact (Kd.R_reads' HO_127002.out).2.1)
                (case side5 => repeat (first | exact (Kd.R_reads' HO136.out).2.2 | (with_reducible refine Kd.C_alloc ?_ _) | (with_reducible refine Kd.C_drewN ?_ _) | (with_reducible refine Kd.C_drew ?_)))
                (case side6 => exact (Kd.R_reads' HO136.out).2.1)
                (case side7 => repeat (first | exact (Kd.R_reads' HO139.out).2.2 | (with_reducible refine Kd.C_alloc ?_ _) | (with_reducible refine Kd.C_drewN ?_ _) | (with_reducible refine Kd.C_drew ?_)))
                (case side8 => exact (Kd.R_reads' HO139.out).2.1)
                rintro e w62 ⟨rfl, hb⟩
                refine ⟨_, rfl, ?_⟩
                have n0_ := Aside0.mk (Kd.R_below (by (with_reducible repeat (first | apply Kd.R_alloc | apply Kd.R_drewN | apply Kd.R_drew)); exact HO_10.out) hb)
                have n1_ := Aside0.mk (Kd.R_below (by (with_reducible repeat (first | apply Kd.R_alloc | apply Kd.R_drewN | apply Kd.R_drew)); exact HO_127001.out) hb)
                have n2_ := Aside0.mk (Kd.R_below (by (with_reducible repeat (first | apply Kd.R_alloc | apply Kd.R_drewN | apply Kd.R_drew)); exact HO_127002.out) hb)
                have n3_ := Aside0.mk (Kd.R_below (by (with_reducible repeat (first | apply Kd.R_alloc | apply Kd.R_drewN | apply Kd.R_drew)); exact HO131.out) hb)
                have n4_ := Aside0.mk (Kd.R_below (by (with_reducible repeat (first | apply Kd.R_alloc | apply Kd.R_drewN | apply Kd.R_drew)); exact HO136.out) hb)
                have n5_ := Aside0.mk (Kd.R_below (by (with_reducible repeat (first | apply Kd.R_alloc | apply Kd.R_drewN | apply Kd.R_drew)); exact HO139.out) hb)
                have n6_ := Aside0.mk (blk_below (g := gb101) (o := .cells #[.string a1_0, .slice A1_1 l1_1.length c1_1, .slice A1_2 l1_2.length c1_2] 25 (0, 0)) (by (with_reducible repeat (first | refine blk_drewN ?_ _ | refine blk_drew ?_ | refine blk_alloc ?_ _)); exact BK101.out) hb)
                have n7_ := Aside0.mk (blk_below (g := gb126) (o := .cells #[.string t119, .slice Ao35 t120.length co35, .slice Ao36 t123.length co36] 32 (0, 0)) (by (with_reducible repeat (first | refine blk_drewN ?_ _ | refine blk_drew ?_ | refine blk_alloc ?_ _)); exact BK126.out) hb)
                have n8_ := Aside0.mk (below_step (by repeat (first | (with_reducible first | exact HB.out | apply below_alloc | apply pw_below_drewN | apply below_drew1 | refine below_set ?_ GE101.out | refine below_set ?_ GE126.out) | exact HB.out)) hb)
                clear HO_10
                clear HO_127001
                clear HO_127002
                clear HO131
                clear HO136
                clear HO139
                clear BK101
                clear BK126
                clear HB
                have HO_10 := n0_
                have HO_127001 := n1_
                have HO_127002 := n2_
                have HO131 := n3_
                have HO136 := n4_
                have HO139 := n5_
                have BK101 := n6_
                have BK126 := n7_
                have HB := n8_
                clear n0_ n1_ n2_ n3_ n4_ n5_ n6_ n7_ n8_
                (try clear hb)
                (try clear hb2)
                (try clear hk)
                (try clear hi)
                refine hK.out _ _ ⟨(blk_cell BK126.out 0).trans rfl, (blk_cell BK126.out 1).trans rfl, (blk_cell BK126.out 2).trans rfl, (blk_cell BK101.out 0).trans rfl, (blk_cell BK101.out 1).trans rfl, (blk_cell BK101.out 2).trans rfl⟩ (fun hHeld => ?_)
                clear hK K
                refine norm_ (a' := ?_) ?_ ?_
                rotate_left
                · show Act.put _ (some 60) _ = _
                  simp only [Act.put, List.setIfInBounds_toArray, List.set_cons_zero, List.set_cons_succ, i64_w, i32_w]
                  rfl
                refine pure_ (i := 4) (N := some 61) (v := ?_) (a' := ?_) #[true, true, true, true, true] rfl rfl (by kernel_rfl) (fun _ _ _ h => h) (Or.inl ⟨by rfl, ?_⟩) ?_ ?_
                rotate_left
                · intro w'
                  go_simp
                  with_reducible rfl
                rotate_left
                · simp only [Act.put, List.setIfInBounds_toArray, List.set_cons_zero, List.set_cons_succ, i64_w, i32_w]
                  rfl
                refine done_ (by kernel_rfl) ?_
                try go_wp2
                go_ret
                exact ⟨by first | rfl | (simp [errW_none, errW_some] <;> rfl) | (simp [*, errW_none, errW_some] <;> rfl), by repeat (first | (with_reducible first | exact HB.out | apply below_alloc | apply pw_below_drewN | apply below_drew1 | refine below_set ?_ GE101.out | refine below_set ?_ GE126.out) | exact HB.out)⟩
            · replace c43 := Bool.eq_false_iff.mpr c43
              subst c43
              have H1 : (some false) = some r := by rw [if_neg (show ¬ (false = true) by decide)] at H; exact H
              clear H
              have H := H1
              clear H1
              obtain rfl := Option.some.inj H
              go_wp2_with (first | ((with_reducible refine gate_callee (f := 7) rfl ?_); refine goesL_ (some 54) rfl rfl Tryd.func7 (by kernel_rfl) rfl #[.slice A0 l0.length c0] rfl (by (try simp only [List.map_toArray, List.map_cons, List.map_nil]); first | done | rfl | (simp only [List.length_drop, List.length_take]; rfl)) ?_; (with_reducible refine (laws_toNoteS.calls kj17 _ _ l0 t129 _ ?side1 ?side2 A41.out).mono ?_); (case side1 => repeat (first | exact (Kd.C_below HR0.out HB.out) | (with_reducible refine Kd.C_alloc ?_ _) | (with_reducible refine Kd.C_drewN ?_ _) | (with_reducible refine Kd.C_drew ?_))); (case side2 => exact HC0.out); rintro e w63 ⟨v130, rfl, ho0, hb⟩; refine ⟨_, rfl, ?_⟩; have n0_ := Aside0.mk (Kd.R_elder' (by (with_reducible repeat (first | apply Kd.R_alloc | apply Kd.R_drewN | apply Kd.R_drew)); exact HO_10.out) (Kd.R_base ho0) hb); have n1_ := Aside0.mk (Kd.R_below (by (with_reducible repeat (first | apply Kd.R_alloc | apply Kd.R_drewN | apply Kd.R_drew)); exact HO_127001.out) hb); have n2_ := Aside0.mk (Kd.R_below (by (with_reducible repeat (first | apply Kd.R_alloc | apply Kd.R_drewN | apply Kd.R_drew)); exact HO_127002.out) hb); have n3_ := Aside0.mk (Kd.R_lower (Kd.R_new' ho0 (Kd.R_lt (by (with_reducible repeat (first | apply Kd.R_alloc | apply Kd.R_drewN | apply Kd.R_drew)); exact HO_10.out))) (below_size (by repeat (first | (with_reducible first | exact HB.out | apply below_alloc | apply pw_below_drewN | apply below_drew1 | refine below_set ?_ GE101.out | refine below_set ?_ GE126.out) | exact HB.out)))); have n4_ := Aside0.mk (blk_below (g := gb101) (o := .cells #[.string a1_0, .slice A1_1 l1_1.length c1_1, .slice A1_2 l1_2.length c1_2] 25 (0, 0)) (by (with_reducible repeat (first | refine blk_drewN ?_ _ | refine blk_drew ?_ | refine blk_alloc ?_ _)); exact BK101.out) hb); have n5_ := Aside0.mk (blk_below (g := gb126) (o := .cells #[.string t119, .slice Ao35 t120.length co35, .slice Ao36 t123.length co36] 32 (0, 0)) (by (with_reducible repeat (first | refine blk_drewN ?_ _ | refine blk_drew ?_ | refine blk_alloc ?_ _)); exact BK126.out) hb); have n6_ := Aside0.mk (below_step (by repeat (first | (with_reducible first | exact HB.out | apply below_alloc | apply pw_below_drewN | apply below_drew1 | refine below_set ?_ GE101.out | refine below_set ?_ GE126.out) | exact HB.out)) hb); clear HO_10; clear HO_127001; clear HO_127002; clear BK101; clear BK126; clear HB; have HO_10 := n0_; have HO_127001 := n1_; have HO_127002 := n2_; have HO131 := n3_; have BK101 := n4_; have BK126 := n5_; have HB := n6_; clear n0_ n1_ n2_ n3_ n4_ n5_ n6_; (try clear hb); (try clear hb2); (try clear hk); (try clear hi); (try clear ho0); obtain ⟨Ao64, co64, eo64⟩ := Kd.R_slice HO131.out; subst eo64) | ((with_reducible refine gate_callee (f := 10) rfl ?_); refine goesL_ (some 55) rfl rfl Tryd.func10 (by kernel_rfl) rfl #[.slice Ao37 t116.length co37, .slice Ao64 t129.length co64] rfl (by (try simp only [List.map_toArray, List.map_cons, List.map_nil]); first | done | rfl | (simp only [List.length_drop, List.length_take]; rfl)) ?_; (with_reducible refine (laws_eqNoteS.calls kj17 _ _ t116 _ _ t129 false _ ?side1 ?side2 ?side3 ?side4 A42.out).mono ?_); (case side1 => repeat (first | exact (Kd.R_reads' HO_10.out).2.2 | (with_reducible refine Kd.C_alloc ?_ _) | (with_reducible refine Kd.C_drewN ?_ _) | (with_reducible refine Kd.C_drew ?_))); (case side2 => exact (Kd.R_reads' HO_10.out).2.1); (case side3 => repeat (first | exact (Kd.R_reads' HO131.out).2.2 | (with_reducible refine Kd.C_alloc ?_ _) | (with_reducible refine Kd.C_drewN ?_ _) | (with_reducible refine Kd.C_drew ?_))); (case side4 => exact (Kd.R_reads' HO131.out).2.1); rintro e w65 ⟨rfl, hb⟩; refine ⟨_, rfl, ?_⟩; have n0_ := Aside0.mk (Kd.R_below (by (with_reducible repeat (first | apply Kd.R_alloc | apply Kd.R_drewN | apply Kd.R_drew)); exact HO_10.out) hb); have n1_ := Aside0.mk (Kd.R_below (by (with_reducible repeat (first | apply Kd.R_alloc | apply Kd.R_drewN | apply Kd.R_drew)); exact HO_127001.out) hb); have n2_ := Aside0.mk (Kd.R_below (by (with_reducible repeat (first | apply Kd.R_alloc | apply Kd.R_drewN | apply Kd.R_drew)); exact HO_127002.out) hb); have n3_ := Aside0.mk (Kd.R_below (by (with_reducible repeat (first | apply Kd.R_alloc | apply Kd.R_drewN | apply Kd.R_drew)); exact HO131.out) hb); have n4_ := Aside0.mk (blk_below (g := gb101) (o := .cells #[.string a1_0, .slice A1_1 l1_1.length c1_1, .slice A1_2 l1_2.length c1_2] 25 (0, 0)) (by (with_reducible repeat (first | refine blk_drewN ?_ _ | refine blk_drew ?_ | refine blk_alloc ?_ _)); exact BK101.out) hb); have n5_ := Aside0.mk (blk_below (g := gb126) (o := .cells #[.string t119, .slice Ao35 t120.length co35, .slice Ao36 t123.length co36] 32 (0, 0)) (by (with_reducible repeat (first | refine blk_drewN ?_ _ | refine blk_drew ?_ | refine blk_alloc ?_ _)); exact BK126.out) hb); have n6_ := Aside0.mk (below_step (by repeat (first | (with_reducible first | exact HB.out | apply below_alloc | apply pw_below_drewN | apply below_drew1 | refine below_set ?_ GE101.out | refine below_set ?_ GE126.out) | exact HB.out)) hb); clear HO_10; clear HO_127001; clear HO_127002; clear HO131; clear BK101; clear BK126; clear HB; have HO_10 := n0_; have HO_127001 := n1_; have HO_127002 := n2_; have HO131 := n3_; have BK101 := n4_; have BK126 := n5_; have HB := n6_; clear n0_ n1_ n2_ n3_ n4_ n5_ n6_; (try clear hb); (try clear hb2); (try clear hk); (try clear hi)))
              go_ret
              exact ⟨by first | rfl | (simp [errW_none, errW_some] <;> rfl) | (simp [*, errW_none, errW_some] <;> rfl), by repeat (first | (with_reducible first | exact HB.out | apply below_alloc | apply pw_below_drewN | apply below_drew1 | refine below_set ?_ GE101.out | refine below_set ?_ GE126.out) | exact HB.out)⟩

end Go.Proofs.YtmoamoopoifnlaaDoor.P

namespace Go.Proofs.YtmoamoopoifnlaaDoorO
open Go.RowKit Go.WideShapes Go.Proofs.YtmoamoopoifnlaaDoorW.PrintWords

theorem addr_add_add (a : Addr) (m i : Nat) : (a.add m).add i = a.add (m + i) := by
  unfold Addr.add
  by_cases h1 : m = 0
  · subst h1; simp
  · by_cases h2 : i = 0
    · subst h2; simp [h1]
    · have h3 : ¬ (m + i = 0) := by omega
      simp [h1, h2, Nat.add_assoc]

/-- Whatever the claim reads at this type is a value of this kind, of which G holds. -/
def Opens {α : Type} (P : Program) (t : TypeId) (d : Kd α) (G : α → Prop) : Prop :=
  ∀ (H : Type) (enc : TypeId × Value → H) (w : World) (base : Nat) (spare : Nat → Bool) (held : Bool) (fuel : Nat) (cs : List Value) (x : DataW H × List MemPlace),
    DataW.trod enc P w base spare held fuel t cs = some x → ∃ a : α, d.K w a cs ∧ G a

section
variable {α β : Type} {P : Program} {t e : TypeId} {d : Kd α} {G : α → Prop}

theorem opens_int {k : IntKind} (ht : P.underlying t = some (.int k)) : Opens P t (Kd.int k) (fun n => (Lit.int k n).wf = true) := by
  intro H enc w base spare held fuel cs x h
  obtain ⟨n, rfl, _, hw⟩ := DataW.trod_int ht h
  exact ⟨n, rfl, hw⟩
theorem opens_string (ht : P.underlying t = some .string) : Opens P t Kd.string (fun s => s.size ≤ maxLen) := by
  intro H enc w base spare held fuel cs x h
  obtain ⟨n, rfl, _, hs⟩ := DataW.trod_string ht h
  exact ⟨n, rfl, hs⟩

theorem list_of_each {p : Nat → α → Prop} : ∀ n : Nat, (∀ i, i < n → ∃ a, p i a) → ∃ l : List α, l.length = n ∧ ∀ i a, l[i]? = some a → p i a
  | 0, _ => ⟨[], rfl, fun i a h => by simp at h⟩
  | n + 1, h => by
    obtain ⟨l, hl, hp⟩ := list_of_each n (fun i hi => h i (by omega))
    obtain ⟨a, ha⟩ := h n (by omega)
    refine ⟨l ++ [a], by simp [hl], fun i b hb => ?_⟩
    by_cases hi : i < l.length
    · rw [List.getElem?_append_left hi] at hb
      exact hp i b hb
    · rw [List.getElem?_append_right (by omega)] at hb
      have h0 : i - l.length = 0 := by
        have := (List.getElem?_eq_some_iff.1 hb).1
        simp at this
        omega
      rw [h0] at hb
      have hi2 : i = n := by omega
      subst hi2
      simp at hb
      subst hb
      exact ha

theorem opens_slice (ht : P.underlying t = some (.slice e)) (hc : P.cellsOf e = d.sz) (hd : Opens P e d G) : Opens P t (Kd.slice e d) (fun l => l.length ≤ maxLen ∧ ∀ x ∈ l, G x) := by
  intro H enc w base spare held fuel cs x h
  rcases DataW.trod_slice ht h with ⟨rfl, _⟩ | ⟨a, len, cap, elems, rest, n, _, rfl, _, hb, hl, hm, hlen, hel, _, _⟩
  · exact ⟨[], ⟨none, 0, rfl, Nat.le_refl _, rfl, by simp, fun hp => by simp at hp⟩, by simp, by simp⟩
  · have each : ∀ i, i < len → ∃ x : α, G x ∧ ∃ c, c.length = d.sz ∧ d.K w x c ∧ ∀ j u, c[j]? = some u → w.cell? (a.add (i * d.sz + j)) = some u := by
      intro i hi
      have h1 := hel i hi
      have h2 : ∃ y, elems[i]? = some y := ⟨elems[i]'(by omega), List.getElem?_eq_getElem (by omega)⟩
      obtain ⟨y, hy⟩ := h2
      rw [hy, Option.bind_eq_some_iff] at h1
      obtain ⟨c, hcs, hy'⟩ := h1
      obtain ⟨x, hK, hG⟩ := hd H enc w base spare held n c y hy'
      refine ⟨x, hG, c, d.K_len hK, hK, fun j u hu => ?_⟩
      have hx := World.cells?_some hcs
      have hj : j < P.cellsOf e := by
        have := (List.getElem?_eq_some_iff.1 hu).1
        have := hx.2.1
        omega
      have hz := hx.2.2 j hj
      rw [addr_add_add, hc, hu] at hz
      exact hz
    obtain ⟨l, hll, hp⟩ := list_of_each len each
    refine ⟨l, ⟨some a, cap, by rw [hll], by omega, rfl, by simp only [maxLen] at hm; omega, fun _ => ⟨a, rfl, fun j p hj => ?_⟩⟩, by simp only [maxLen] at hm ⊢; omega, fun x hx => ?_⟩
    · exact (hp j p hj).2
    · obtain ⟨i, hi, hi2⟩ := List.getElem_of_mem hx
      exact (hp i x (by rw [List.getElem?_eq_getElem hi, hi2])).1

def OpensFs {α : Type} (P : Program) (fs : List Field) (o : Nat) (d : Kd α) (G : α → Prop) : Prop :=
  ∀ (H : Type) (enc : TypeId × Value → H) (w : World) (base : Nat) (spare : Nat → Bool) (held : Bool) (fuel : Nat) (cs : List Value),
    cs.length = o + d.sz → (∀ (i : Nat) (f : Field), fs[i]? = some f → ∃ x, DataW.trod enc P w base spare held fuel f.type ((cs.drop f.offset).take (P.cellsOf f.type)) = some x) → ∃ a : α, d.K w a (cs.drop o) ∧ G a
theorem opensFs_last {f : Field} {o : Nat} (ho : f.offset = o) (hc : P.cellsOf f.type = d.sz) (h : Opens P f.type d G) : OpensFs P [f] o d G := by
  intro H enc w base spare held fuel cs hl hx
  obtain ⟨x, hx⟩ := hx 0 f rfl
  rw [ho, hc, List.take_of_length_le (by rw [List.length_drop]; omega)] at hx
  exact h H enc w base spare held fuel _ x hx
theorem opensFs_cons {f : Field} {fs : List Field} {o : Nat} {d2 : Kd β} {G2 : β → Prop} (ho : f.offset = o) (hc : P.cellsOf f.type = d.sz) (h : Opens P f.type d G) (h2 : OpensFs P fs (o + d.sz) d2 G2) :
    OpensFs P (f :: fs) o (Kd.pair d d2) (fun x => G x.1 ∧ G2 x.2) := by
  intro H enc w base spare held fuel cs hl hx
  have hl' : cs.length = o + (d.sz + d2.sz) := hl
  obtain ⟨x, hx0⟩ := hx 0 f rfl
  rw [ho, hc] at hx0
  obtain ⟨a, hK, hG⟩ := h H enc w base spare held fuel _ x hx0
  obtain ⟨b, hK2, hG2⟩ := h2 H enc w base spare held fuel cs (by omega) (fun i f2 hf => hx (i + 1) f2 (by simpa using hf))
  refine ⟨(a, b), ⟨_, _, ?_, hK, hK2⟩, hG, hG2⟩
  rw [← List.drop_drop]
  exact (List.take_append_drop d.sz (cs.drop o)).symm
theorem opens_struct {fs : Array Field} (ht : P.underlying t = some (.struct fs)) (hc : P.cellsOf t = d.sz) (h : OpensFs P fs.toList 0 d G) : Opens P t d G := by
  intro H enc w base spare held fuel cs x hx
  obtain ⟨xs, n, _, _, hl, hxl, hf⟩ := DataW.trod_struct ht hx
  have := h H enc w base spare held n cs (by omega) (fun i f hif => by
    have hif' : fs[i]? = some f := by simpa using hif
    have hi : i < xs.length := by
      rw [hxl]
      exact (Array.getElem?_eq_some_iff.1 hif').1
    exact ⟨xs[i], by rw [hf i f hif', List.getElem?_eq_getElem hi]⟩)
  simpa using this
theorem opens_iso (f : β → α) (g : α → β) (hfg : ∀ a, f (g a) = a) (h : Opens P t d G) : Opens P t (Kd.iso d f) (fun b => G (f b)) := by
  intro H enc w base spare held fuel cs x hx
  obtain ⟨a, hK, hG⟩ := h H enc w base spare held fuel cs x hx
  exact ⟨g a, by show d.K w (f (g a)) cs; rw [hfg]; exact hK, by show G (f (g a)); rw [hfg]; exact hG⟩
end
end Go.Proofs.YtmoamoopoifnlaaDoorO

namespace Go.Proofs.YtmoamoopoifnlaaDoor
open Go.RowKit Go.Proofs.YtmoamoopoifnlaaDoorO Go.Proofs.YtmoamoopoifnlaaDoorW.PrintWords
def g46 (x : P.S46) : Prop := (Lit.int .i64 x.f0).wf = true ∧ (Lit.int .i64 x.f1).wf = true
theorem open46 : Opens Tryd.prog 46 P.k46 g46 :=
  opens_iso (fun x : P.S46 => (x.f0, x.f1)) (fun a => ⟨a.1, a.2⟩) (fun _ => rfl) (opens_struct Tryd.underlying46 (by kernel_rfl) (opensFs_cons (by rfl) (by kernel_rfl) (opens_int Tryd.underlying2) (opensFs_last (by rfl) (by kernel_rfl) (opens_int Tryd.underlying2))))
def g25 (x : P.S25) : Prop := x.f0.size ≤ maxLen ∧ (x.f1.length ≤ maxLen ∧ ∀ y ∈ x.f1, (Lit.int .i64 y).wf = true) ∧ (x.f2.length ≤ maxLen ∧ ∀ y ∈ x.f2, (Lit.int .i64 y).wf = true)
theorem open25 : Opens Tryd.prog 25 P.k25 g25 :=
  opens_iso (fun x : P.S25 => (x.f0, x.f1, x.f2)) (fun a => ⟨a.1, a.2.1, a.2.2⟩) (fun _ => rfl) (opens_struct Tryd.underlying25 (by kernel_rfl) (opensFs_cons (by rfl) (by kernel_rfl) (opens_string Tryd.underlying9) (opensFs_cons (by rfl) (by kernel_rfl) (opens_slice Tryd.underlying23 (by kernel_rfl) (opens_int Tryd.underlying2)) (opensFs_last (by rfl) (by kernel_rfl) (opens_slice Tryd.underlying23 (by kernel_rfl) (opens_int Tryd.underlying2))))))
end Go.Proofs.YtmoamoopoifnlaaDoor

namespace Go.Proofs.YtmoamoopoifnlaaDoorL
open Go.RowKit Go.Proofs.YtmoamoopoifnlaaDoorW.PrintWords

theorem wrap_id {x : Int} (h0 : -9223372036854775808 ≤ x) (h1 : x ≤ 9223372036854775807) : wrap64 x = x := by unfold wrap64; omega
theorem wrap_succ {i n : Nat} (h : i < n) (hn : n ≤ 4611686018427387904) : wrap64 ((i : Int) + 1) = ((i + 1 : Nat) : Int) := by
  rw [wrap_id (by omega) (by omega)]; omega
theorem lt_cast {i n : Nat} (h : i < n) : (i : Int) < (n : Int) := by omega
theorem nn_cast (i : Nat) : 0 ≤ (i : Int) := by omega
theorem nlt_cast (n : Nat) : ¬ ((n : Int) < (n : Int)) := by omega
theorem drop_cons {α : Type} {l : List α} {i : Nat} (h : i < l.length) : l.drop i = l[i] :: l.drop (i + 1) := List.drop_eq_getElem_cons h

/-- A loop over a list: at each element it answers, or it goes on behind it. G: what it answers from a rest on. -/
theorem list_loop {α σ ρ : Type} (L : Nat → σ → Int → Option ρ) (l : List α) (G : List α → σ → ρ) (Inv : Nat → σ → Prop) (B : Nat)
    (step : ∀ (k i : Nat) (hi : i < l.length) (s : σ), Inv i s → B ≤ k →
      L (k + 1) s (i : Int) = some (G (l[i] :: l.drop (i + 1)) s) ∨ ∃ s', Inv (i + 1) s' ∧ G (l[i] :: l.drop (i + 1)) s = G (l.drop (i + 1)) s' ∧ L (k + 1) s (i : Int) = L k s' ((i + 1 : Nat) : Int))
    (stop : ∀ (k : Nat) (s : σ), Inv l.length s → L (k + 1) s (l.length : Int) = some (G [] s)) :
    ∀ (k : Nat) (s : σ), B + l.length < k → Inv 0 s → L k s 0 = some (G l s) := by
  have main : ∀ (d k i : Nat) (s : σ), i + d = l.length → B + d < k → Inv i s → L k s (i : Int) = some (G (l.drop i) s) := by
    intro d
    induction d with
    | zero =>
      intro k i s hi hk hI
      obtain ⟨k, rfl⟩ : ∃ m, k = m + 1 := ⟨k - 1, by omega⟩
      have : i = l.length := by omega
      subst this
      rw [stop k s hI, List.drop_length]
    | succ d ih =>
      intro k i s hi hk hI
      obtain ⟨k, rfl⟩ : ∃ m, k = m + 1 := ⟨k - 1, by omega⟩
      have hlt : i < l.length := by omega
      rw [drop_cons hlt]
      rcases step k i hlt s hI (by omega) with h | ⟨s', hI', hG, hL⟩
      · exact h
      · rw [hL, hG]
        exact ih k (i + 1) s' (by omega) (by omega) hI'
  intro k s hk hI
  have := main l.length k 0 s (by omega) hk hI
  simpa using this

/-- The same without a state. -/
theorem list_loop0 {α ρ : Type} (L : Nat → Int → Option ρ) (l : List α) (G : List α → ρ) (B : Nat)
    (step : ∀ (k i : Nat) (hi : i < l.length), B ≤ k →
      L (k + 1) (i : Int) = some (G (l[i] :: l.drop (i + 1))) ∨ (G (l[i] :: l.drop (i + 1)) = G (l.drop (i + 1)) ∧ L (k + 1) (i : Int) = L k ((i + 1 : Nat) : Int)))
    (stop : ∀ (k : Nat), L (k + 1) (l.length : Int) = some (G [])) :
    ∀ (k : Nat), B + l.length < k → L k 0 = some (G l) := by
  intro k hk
  exact list_loop (σ := Unit) (fun k _ i => L k i) l (fun l _ => G l) (fun _ _ => True) B (fun k i hi s _ hB => by
    rcases step k i hi hB with h | ⟨h1, h2⟩
    · exact .inl h
    · exact .inr ⟨(), trivial, h1, h2⟩) (fun k _ _ => stop k) k () hk trivial

/-- A loop that fills a list that was made, place by place. -/
theorem set_loop {α β : Type} (L : Nat → List β → Int → Option (List β)) (l : List α) (g : α → β) (B : Nat)
    (step : ∀ (k i : Nat) (hi : i < l.length) (acc : List β), acc.length = l.length → B ≤ k → L (k + 1) acc (i : Int) = L k (acc.set i (g l[i])) ((i + 1 : Nat) : Int))
    (stop : ∀ (k : Nat) (acc : List β), L (k + 1) acc (l.length : Int) = some acc) :
    ∀ (k : Nat) (acc : List β), B + l.length < k → acc.length = l.length → L k acc 0 = some (l.map g) := by
  have main : ∀ (d k i : Nat) (acc : List β), i + d = l.length → B + d < k → acc.length = l.length → L k acc (i : Int) = some (acc.take i ++ (l.drop i).map g) := by
    intro d
    induction d with
    | zero =>
      intro k i acc hi hk ha
      obtain ⟨k, rfl⟩ : ∃ m, k = m + 1 := ⟨k - 1, by omega⟩
      have : i = l.length := by omega
      subst this
      rw [stop k acc, List.drop_length, List.take_of_length_le (by omega)]
      simp
    | succ d ih =>
      intro k i acc hi hk ha
      obtain ⟨k, rfl⟩ : ∃ m, k = m + 1 := ⟨k - 1, by omega⟩
      have hlt : i < l.length := by omega
      rw [step k i hlt acc ha (by omega), ih k (i + 1) _ (by omega) (by omega) (by simpa using ha), drop_cons hlt]
      have h2 : (acc.set i (g l[i])).take (i + 1) = acc.take i ++ [g l[i]] := by
        rw [List.take_succ_eq_append_getElem (by simp; omega)]
        have h3 : (acc.set i (g l[i])).take i = acc.take i := by
          apply List.ext_getElem
          · simp
          · intro j h1 h2
            simp at h1
            simp [List.getElem_set_ne (show i ≠ j by omega)]
        rw [h3]
        simp
      rw [h2]
      simp only [List.append_assoc, List.singleton_append, List.map_cons]
  intro k acc hk ha
  have := main l.length k 0 acc (by omega) hk ha
  simpa using this

/-- A loop that compares two lists of one length, place by place. -/
theorem eq_loop {α : Type} [DecidableEq α] (L : Nat → Int → Option Bool) (a b : List α) (hab : a.length = b.length) (B : Nat)
    (step : ∀ (k i : Nat) (h : i < a.length) (h2 : i < b.length), B ≤ k → L (k + 1) (i : Int) = if a[i] = b[i] then L k ((i + 1 : Nat) : Int) else some false)
    (stop : ∀ (k : Nat), L (k + 1) (a.length : Int) = some true) :
    ∀ (k : Nat), B + a.length < k → L k 0 = some (decide (a = b)) := by
  have main : ∀ (d k i : Nat), i + d = a.length → B + d < k → L k (i : Int) = some (decide (a.drop i = b.drop i)) := by
    intro d
    induction d with
    | zero =>
      intro k i hi hk
      obtain ⟨k, rfl⟩ : ∃ m, k = m + 1 := ⟨k - 1, by omega⟩
      obtain rfl : i = a.length := by omega
      rw [stop k, List.drop_length, hab, List.drop_length]
      rfl
    | succ d ih =>
      intro k i hi hk
      obtain ⟨k, rfl⟩ : ∃ m, k = m + 1 := ⟨k - 1, by omega⟩
      have h1 : i < a.length := by omega
      have h2 : i < b.length := by omega
      rw [step k i h1 h2 (by omega), ih k (i + 1) (by omega) (by omega)]
      rw [show (decide (a.drop i = b.drop i)) = decide (a[i] = b[i] ∧ a.drop (i + 1) = b.drop (i + 1)) from by
        congr 1; rw [drop_cons h1, drop_cons h2, List.cons.injEq]]
      by_cases e : a[i] = b[i]
      · rw [if_pos e]; simp [e]
      · rw [if_neg e]; simp [e]
  intro k hk
  have := main a.length k 0 (by omega) hk
  simpa using this

/-- A loop that asks each index below n and stops at the first that says no. -/
theorem all_loop (L : Nat → Int → Option Bool) (n : Nat) (p : Nat → Bool) (fin : Bool) (B : Nat)
    (step : ∀ (k i : Nat), i < n → B ≤ k → L (k + 1) (i : Int) = if p i = true then L k ((i + 1 : Nat) : Int) else some false)
    (stop : ∀ (k : Nat), B ≤ k → L (k + 1) (n : Int) = some fin) :
    ∀ (k : Nat), B + n < k → L k 0 = some ((List.range n).all p && fin) := by
  have main : ∀ (d k i : Nat), i + d = n → B + d < k → L k (i : Int) = some ((List.range' i d).all p && fin) := by
    intro d
    induction d with
    | zero =>
      intro k i hi hk
      obtain ⟨k, rfl⟩ : ∃ m, k = m + 1 := ⟨k - 1, by omega⟩
      obtain rfl : i = n := by omega
      rw [stop k (by omega)]; simp
    | succ d ih =>
      intro k i hi hk
      obtain ⟨k, rfl⟩ : ∃ m, k = m + 1 := ⟨k - 1, by omega⟩
      rw [step k i (by omega) (by omega), List.range'_succ, List.all_cons]
      by_cases h : p i = true
      · rw [if_pos h, ih k (i + 1) (by omega) (by omega), h]; simp
      · rw [if_neg h]; simp [h]
  intro k hk
  have := main n k 0 (by omega) hk
  rw [List.range_eq_range']
  exact this

theorem rd_get {l : List Int} {i : Nat} (h : i < l.length) : rd l (i : Int) = l[i] := by
  simp [rd, List.getD_eq_getElem?_getD, List.getElem?_eq_getElem h]
theorem bytes_eq {a b : ByteArray} : a.toList = b.toList ↔ a = b := by
  constructor
  · intro h
    have h2 : a.data.toList = b.data.toList := by
      have e : ∀ x : ByteArray, x.toList = x.data.toList := ByteArray.toList_eq
      rw [← e, ← e]; exact h
    cases a; cases b
    simp at h2
    rw [h2]
  · intro h; rw [h]
end Go.Proofs.YtmoamoopoifnlaaDoorL

namespace Go.Proofs.YtmoamoopoifnlaaDoor.P
open Go.RowKit Go.Proofs.YtmoamoopoifnlaaDoorW.PrintWords Go.Proofs.YtmoamoopoifnlaaDoorL
/-- The digits of a number from behind, as the reference lays them. -/
def rdig (u : Nat) : List Int := if h : u = 0 then [] else (48 + (u % 10 : Nat) : Int) :: rdig (u / 10)
termination_by u
decreasing_by omega
theorem rdig_zero : rdig 0 = [] := by rw [rdig, dif_pos rfl]
theorem rdig_pos {u : Nat} (h : u ≠ 0) : rdig u = (48 + (u % 10 : Nat) : Int) :: rdig (u / 10) := by rw [rdig, dif_neg h]
theorem rdig_dec : ∀ (n u : Nat), u ≤ n → u ≠ 0 → (rdig u).reverse.map (fun z => UInt8.ofNat z.toNat) = Lib.decDigits u := by
  intro n
  induction n with
  | zero => intro u h h0; omega
  | succ n ih =>
    intro u h h0
    rw [rdig_pos h0, List.reverse_cons, List.map_append, Lib.decDigits]
    by_cases h10 : u < 10
    · rw [dif_pos h10, show u / 10 = 0 by omega, rdig_zero]
      have : (48 + ((u % 10 : Nat) : Int)).toNat = 48 + u := by omega
      show [UInt8.ofNat (48 + ((u % 10 : Nat) : Int)).toNat] = _
      rw [this]
    · rw [dif_neg h10, ih (u / 10) (by omega) (by omega)]
      have : (48 + ((u % 10 : Nat) : Int)).toNat = 48 + u % 10 := by omega
      show _ ++ [UInt8.ofNat (48 + ((u % 10 : Nat) : Int)).toNat] = _
      rw [this]
theorem rdig_length : ∀ (n u : Nat), u < 10 ^ n → (rdig u).length ≤ n := by
  intro n
  induction n with
  | zero => intro u h; have : u = 0 := by simpa using h
            subst this; simp [rdig_zero]
  | succ n ih =>
    intro u h
    by_cases h0 : u = 0
    · subst h0; simp [rdig_zero]
    · rw [rdig_pos h0, List.length_cons]
      have := ih (u / 10) (by rw [Nat.pow_succ] at h; omega)
      omega
theorem dg_step {m : Int} (h0 : -9223372036854775808 ≤ m) (h1 : m ≤ 9223372036854775807) : (Int.tmod m 10 < 0 → (wrap64 (48 + wrap64 (-(Int.tmod m 10)))) % 256 = 48 + ((m.natAbs % 10 : Nat) : Int)) ∧ (¬ Int.tmod m 10 < 0 → (wrap64 (48 + Int.tmod m 10)) % 256 = 48 + ((m.natAbs % 10 : Nat) : Int)) ∧ (wrap64 (Int.tdiv m 10)).natAbs = m.natAbs / 10 ∧ -9223372036854775808 ≤ wrap64 (Int.tdiv m 10) ∧ wrap64 (Int.tdiv m 10) ≤ 9223372036854775807 := by
  rcases Int.le_total 0 m with h | h
  · have t1 : Int.tdiv m 10 = m / 10 := Int.tdiv_eq_ediv_of_nonneg h
    have t2 : Int.tmod m 10 = m % 10 := Int.tmod_eq_emod_of_nonneg h
    rw [t1, t2, wrap_id (x := m / 10) (by omega) (by omega), wrap_id (x := 48 + m % 10) (by omega) (by omega)]
    exact ⟨fun h => by omega, fun _ => by omega, by omega, by omega, by omega⟩
  · obtain ⟨a, ha, rfl⟩ : ∃ a : Int, 0 ≤ a ∧ m = -a := ⟨-m, by omega, by omega⟩
    have t1 : Int.tdiv (-a) 10 = -(a / 10) := by rw [Int.neg_tdiv, Int.tdiv_eq_ediv_of_nonneg ha]
    have t2 : Int.tmod (-a) 10 = -(a % 10) := by rw [Int.neg_tmod, Int.tmod_eq_emod_of_nonneg ha]
    rw [t1, t2, wrap_id (x := -(a / 10)) (by omega) (by omega), wrap_id (x := -(-(a % 10))) (by omega) (by omega), wrap_id (x := 48 + -(-(a % 10))) (by omega) (by omega), wrap_id (x := 48 + -(a % 10)) (by omega) (by omega)]
    exact ⟨fun _ => by omega, fun h => by omega, by omega, by omega, by omega⟩
theorem Dec_l1 {ds : List Int} (hl : ds.length ≤ 1000) : ∀ (d k : Nat) (acc : List Int), d ≤ ds.length → d + 1 ≤ k → acc.length + d ≤ 1000 → spec_l01Dec.l1 k ds acc ((d : Int) - 1) = some (strOfNums (acc ++ (ds.take d).reverse)) := by
  intro d
  induction d with
  | zero =>
    intro k acc hd hk ha
    obtain ⟨k, rfl⟩ : ∃ m, k = m + 1 := ⟨k - 1, by omega⟩
    simp only [spec_l01Dec.l1]
    rw [if_neg (by omega)]; simp
  | succ d ih =>
    intro k acc hd hk ha
    obtain ⟨k, rfl⟩ : ∃ m, k = m + 1 := ⟨k - 1, by omega⟩
    simp only [spec_l01Dec.l1]
    have e : ((d + 1 : Nat) : Int) - 1 = (d : Int) := by omega
    have hdl : d < ds.length := by omega
    rw [e, if_pos (by omega), if_pos (by omega), if_pos (lt_cast hdl), if_pos (by omega), rd_get hdl, wrap_id (by omega) (by omega), ih k _ (by omega) (by omega) (by simp; omega), List.take_succ_eq_append_getElem hdl, List.reverse_append]
    simp
theorem Dec_j1 {ds : List Int} (hl : ds.length ≤ 1000) {k : Nat} (hk : ds.length + 3 ≤ k) : spec_l01Dec.j1 k ds = some (strOfNums ds.reverse) := by
  obtain ⟨k, rfl⟩ : ∃ m, k = m + 1 := ⟨k - 1, by omega⟩
  simp only [spec_l01Dec.j1]
  rw [wrap_id (by omega) (by omega), Dec_l1 hl ds.length k [] (Nat.le_refl _) (by omega) (by simp; omega)]
  simp
theorem Dec_l0 (x0 : Int) : ∀ (n : Nat) (m : Int) (acc : List Int) (k : Nat), m.natAbs < 10 ^ n → -9223372036854775808 ≤ m → m ≤ 9223372036854775807 → acc.length + n ≤ 900 → n + 1000 ≤ k →
    spec_l01Dec.l0 k x0 acc m = some (strOfNums ((acc ++ rdig m.natAbs) ++ (if x0 < 0 then [45] else [])).reverse) := by
  intro n
  induction n with
  | zero =>
    intro m acc k hm h0 h1 ha hk
    obtain ⟨k, rfl⟩ : ∃ m, k = m + 1 := ⟨k - 1, by omega⟩
    have : m = 0 := by simp at hm; exact hm
    subst this
    simp only [spec_l01Dec.l0]
    rw [if_pos trivial]
    have e : rdig (Int.natAbs 0) = [] := rdig_zero
    rw [e, List.append_nil]
    by_cases hx : x0 < 0
    · rw [if_pos hx, if_pos hx, if_pos (by omega), Dec_j1 (by simp; omega) (by simp; omega)]
    · rw [if_neg hx, if_neg hx, Dec_j1 (by omega) (by omega), List.append_nil]
  | succ n ih =>
    intro m acc k hm h0 h1 ha hk
    obtain ⟨k, rfl⟩ : ∃ m, k = m + 1 := ⟨k - 1, by omega⟩
    by_cases hz : m = 0
    · subst hz
      simp only [spec_l01Dec.l0]
      rw [if_pos trivial]
      have e : rdig (Int.natAbs 0) = [] := rdig_zero
      rw [e, List.append_nil]
      by_cases hx : x0 < 0
      · rw [if_pos hx, if_pos hx, if_pos (by omega), Dec_j1 (by simp; omega) (by simp; omega)]
      · rw [if_neg hx, if_neg hx, Dec_j1 (by omega) (by omega), List.append_nil]
    · obtain ⟨d1, d2, d3, d4, d5⟩ := dg_step h0 h1
      have hr := rdig_pos (u := m.natAbs) (by omega)
      have hn : (wrap64 (Int.tdiv m 10)).natAbs < 10 ^ n := by rw [d3]; rw [Nat.pow_succ] at hm; omega
      have go := ih (wrap64 (Int.tdiv m 10)) (acc ++ [48 + ((m.natAbs % 10 : Nat) : Int)]) k hn d4 d5 (by simp; omega) (by omega)
      rw [d3] at go
      simp only [spec_l01Dec.l0]
      rw [if_neg hz, hr]
      have hlen : acc.length < 140737488355328 := by omega
      by_cases hs : Int.tmod m 10 < 0
      · rw [if_pos hs, if_pos hlen, d1 hs, go]; simp
      · rw [if_neg hs, if_pos hlen, d2 hs, go]; simp
theorem l01Dec_eq {n : Int} (h0 : -9223372036854775808 ≤ n) (h1 : n ≤ 9223372036854775807) {k : Nat} (hk : 2000 ≤ k) : spec_l01Dec.f k n = some (impl_Decimal.t n) := by
  unfold spec_l01Dec.f impl_Decimal.t
  by_cases hz : n = 0
  · subst hz
    rw [if_pos rfl]
    have : Lib.itoa 0 = [48] := by unfold Lib.itoa; rw [if_neg (by decide)]; exact Lib.decDigits_one (i := 0) (by decide)
    rw [this]
  · rw [if_neg hz, Dec_l0 n 20 n [] k (by omega) h0 h1 (by simp) (by omega), List.nil_append, List.reverse_append]
    congr 1
    unfold strOfNums Lib.itoa
    congr 2
    rw [List.map_append, rdig_dec n.natAbs n.natAbs (Nat.le_refl _) (by omega)]
    by_cases hx : n < 0
    · rw [if_pos hx, if_pos hx]; rfl
    · rw [if_neg hx, if_neg hx, show n.natAbs = n.toNat by omega]; rfl
theorem Decimal_eq {n : Int} (h0 : -9223372036854775808 ≤ n) (h1 : n ≤ 9223372036854775807) : impl_Decimal.f n = some (impl_Decimal.t n) := if_pos ⟨h0, h1⟩
theorem Decimal_size {n : Int} (h0 : -9223372036854775808 ≤ n) (h1 : n ≤ 9223372036854775807) : (impl_Decimal.t n).size ≤ 21 := by
  have hr := rdig_length 20 n.natAbs (by omega)
  have hs : (impl_Decimal.t n).size = (Lib.itoa n).length := by unfold impl_Decimal.t; show (Lib.itoa n).toArray.size = _; simp
  have hd : ∀ u : Nat, u ≠ 0 → u = n.natAbs → (Lib.decDigits u).length ≤ 20 := fun u hu e => by
    rw [← rdig_dec u u (Nat.le_refl _) hu, List.length_map, List.length_reverse, e]; exact hr
  rw [hs]
  unfold Lib.itoa
  by_cases hz : n = 0
  · subst hz
    have : Lib.decDigits (Int.toNat 0) = [48] := Lib.decDigits_one (i := 0) (by decide)
    rw [if_neg (by decide), this]; decide
  · by_cases hx : n < 0
    · rw [if_pos hx, List.length_cons]; have := hd n.natAbs (by omega) rfl; omega
    · rw [if_neg hx]; have := hd n.toNat (by omega) (by omega); omega
end Go.Proofs.YtmoamoopoifnlaaDoor.P

namespace Go.Proofs.YtmoamoopoifnlaaDoor.P
open Go.RowKit Go.Proofs.YtmoamoopoifnlaaDoorW.PrintWords Go.Proofs.YtmoamoopoifnlaaDoorL
theorem in_eq (a b c : Int) : spec_l00In.f a b c = some (decide (b ≤ a) && decide (a ≤ c)) := by
  unfold spec_l00In.f
  by_cases h : a ≥ b
  · rw [if_pos h]; simp [ge_iff_le.1 h]
  · rw [if_neg h]
    have h' : ¬ b ≤ a := h
    simp [h']
theorem within_eq (a b c : Int) : impl_within.f a b c = some (decide (b ≤ a) && decide (a ≤ c)) := by
  unfold impl_within.f
  by_cases h : a ≥ b
  · rw [if_pos h]; simp [ge_iff_le.1 h]
  · rw [if_neg h]
    have h' : ¬ b ≤ a := h
    simp [h']
def keyB (s k : Int) : Bool := decide (s = 1) && decide (k = 0)
theorem tone_eq {q : Int} (h0 : -1000 ≤ q) (h1 : q ≤ 1000) : Int.tmod (wrap64 (Int.tmod q 12 + 12)) 12 = q % 12 := by
  rcases Int.le_total 0 q with h | h
  · have t2 : Int.tmod q 12 = q % 12 := Int.tmod_eq_emod_of_nonneg h
    rw [t2, wrap_id (by omega) (by omega), Int.tmod_eq_emod_of_nonneg (by omega)]; omega
  · obtain ⟨a, ha, rfl⟩ : ∃ a : Int, 0 ≤ a ∧ q = -a := ⟨-q, by omega, by omega⟩
    have t2 : Int.tmod (-a) 12 = -(a % 12) := by rw [Int.neg_tmod, Int.tmod_eq_emod_of_nonneg ha]
    rw [t2, wrap_id (by omega) (by omega), Int.tmod_eq_emod_of_nonneg (by omega)]; omega
theorem ToneOf_eq {q : Int} (h0 : -1000 ≤ q) (h1 : q ≤ 1000) : impl_ToneOf.f q = some (q % 12) := by unfold impl_ToneOf.f; rw [tone_eq h0 h1]
theorem l03Tone_eq {q : Int} (h0 : -1000 ≤ q) (h1 : q ≤ 1000) : spec_l03Tone.f q = some (q % 12) := by unfold spec_l03Tone.f; rw [tone_eq h0 h1]
theorem floor_eq {q : Int} (h0 : -1000 ≤ q) (h1 : q ≤ 1000) : wrap64 (Int.tdiv (wrap64 (q - q % 12)) 12) = q / 12 := by
  rw [wrap_id (x := q - q % 12) (by omega) (by omega), show q - q % 12 = 12 * (q / 12) by omega, Int.mul_tdiv_cancel_left _ (by decide), wrap_id (by omega) (by omega)]
theorem octaveOf_eq {q : Int} (h0 : -1000 ≤ q) (h1 : q ≤ 1000) : impl_octaveOf.f q = some (q / 12) := by
  unfold impl_octaveOf.f; rw [ToneOf_eq h0 h1]; simp only [Option.bind_some]; rw [floor_eq h0 h1]
theorem l03Floor_eq {q : Int} (h0 : -1000 ≤ q) (h1 : q ≤ 1000) : spec_l03Floor.f q = some (q / 12) := by
  unfold spec_l03Floor.f; rw [l03Tone_eq h0 h1]; simp only [Option.bind_some]; rw [floor_eq h0 h1]
def nameT (t : Int) : ByteArray := (⟨#[83, 114, 82, 103, 71, 109, 77, 80, 100, 68, 110, 78]⟩ : ByteArray).extract t.toNat (wrap64 (t + 1)).toNat
def pt (_ _ p : Int) : ByteArray := if p / 12 < 0 then nameT (p % 12) ++ (⟨#[44]⟩ : ByteArray) else if p / 12 > 0 then nameT (p % 12) ++ (⟨#[39]⟩ : ByteArray) else nameT (p % 12)
theorem nameT_size {t : Int} (h0 : 0 ≤ t) (h1 : t < 12) : (nameT t).size ≤ 1 := by
  unfold nameT
  rw [ByteArray.size_extract, wrap_id (by omega) (by omega)]; omega
theorem pt_size {s k p : Int} (_ : keyB s k = true) (h0 : -12 ≤ p) (h1 : p ≤ 23) : (pt s k p).size ≤ 30 := by
  have z1 : (⟨#[44]⟩ : ByteArray).size = 1 := rfl
  have z2 : (⟨#[39]⟩ : ByteArray).size = 1 := rfl
  have n1 := nameT_size (t := p % 12) (by omega) (by omega)
  unfold pt
  repeat' split
  all_goals (try simp only [ByteArray.size_append])
  all_goals omega
theorem ba_nil (n : ByteArray) : n ++ (⟨#[]⟩ : ByteArray) = n := ByteArray.append_empty
theorem ToneName_eq {t : Int} (h0 : 0 ≤ t) (h1 : t < 12) : impl_ToneName.f t = some (nameT t) := by
  unfold impl_ToneName.f impl_toneOk.f nameT
  rw [within_eq, decide_eq_true h0, decide_eq_true (by omega : t ≤ 11)]
  simp only [Option.bind_some, Bool.and_true, if_true]
  rw [if_pos h0, wrap_id (by omega) (by omega), if_pos (by omega), if_pos (by omega)]
end Go.Proofs.YtmoamoopoifnlaaDoor.P

namespace Go.Proofs.YtmoamoopoifnlaaDoor.P
open Go.RowKit Go.Proofs.YtmoamoopoifnlaaDoorW.PrintWords Go.Proofs.YtmoamoopoifnlaaDoorL

def nameByte (c : Int) : Bool := (decide (97 ≤ c) && decide (c ≤ 122)) || (decide (48 ≤ c) && decide (c ≤ 57))
def nameB (s : ByteArray) : Bool := decide (1 ≤ s.size) && decide (s.size ≤ 10) && (decide (97 ≤ bt s 0) && decide (bt s 0 ≤ 122)) && (List.range s.size).all fun i => nameByte (bt s (i : Int))
theorem size_zero {s : ByteArray} : s.toList = ([] : List UInt8) ↔ s.size = 0 := by
  rw [ByteArray.toList_eq]
  constructor
  · intro h; have := congrArg List.length h; simpa using this
  · intro h
    apply List.eq_nil_of_length_eq_zero
    simpa using h
theorem l01Name_eq (s : ByteArray) {k : Nat} (hk : 20 ≤ k) : spec_l01Name.f k s = some (nameB s) := by
  obtain ⟨k, rfl⟩ : ∃ m, k = m + 1 := ⟨k - 1, by omega⟩
  unfold spec_l01Name.f nameB
  by_cases h0 : s.size = 0
  · rw [if_pos (size_zero.2 h0)]; simp [spec_l01Name.j0, h0]
  rw [if_neg (fun e => h0 (size_zero.1 e))]
  by_cases h1 : (s.size : Int) > 10
  · rw [if_pos h1]
    have : ¬ s.size ≤ 10 := by omega
    simp [spec_l01Name.j0, this]
  rw [if_neg h1, if_pos (by omega)]
  unfold spec_l01Small.f
  have h1' : s.size ≤ 10 := by omega
  have h0' : 1 ≤ s.size := by omega
  by_cases h2 : bt s 0 ≥ 97
  · rw [if_pos h2]; simp only [Option.bind_some, spec_l01Name.j0]
    by_cases h3 : bt s 0 ≤ 122
    · rw [if_neg (by simp [h3])]
      rw [all_loop (fun k i => spec_l01Name.l0 k s i) s.size (fun i => nameByte (bt s (i : Int))) true 1 (fun k i hi hB => ?_) (fun k _ => ?_) k (by omega)]
      · simp [h1', h0', h3, ge_iff_le.1 h2]
      · obtain ⟨k, rfl⟩ : ∃ m, k = m + 1 := ⟨k - 1, by omega⟩
        show spec_l01Name.l0 (k + 1 + 1) s (i : Int) = _
        rw [spec_l01Name.l0]
        rw [if_pos (by omega), if_pos (nn_cast i), wrap_succ hi (by omega)]
        unfold spec_l01Small.f spec_l01Digit.f nameByte
        by_cases e1 : bt s (i : Int) ≥ 97
        · rw [if_pos e1]
          by_cases e2 : bt s (i : Int) ≤ 122
          · simp [e2, ge_iff_le.1 e1]
          · have e3 : bt s (i : Int) ≥ 48 := by omega
            have e4 : ¬ bt s (i : Int) ≤ 57 := by omega
            simp [e2, e4, ge_iff_le.1 e3]
        · rw [if_neg e1]
          have e1' : ¬ 97 ≤ bt s (i : Int) := e1
          by_cases e2 : bt s (i : Int) ≥ 48
          · rw [if_pos e2]
            by_cases e3 : bt s (i : Int) ≤ 57
            · simp [e3, ge_iff_le.1 e2]
            · simp [e3, e1']
          · rw [if_neg e2]
            have e2' : ¬ 48 ≤ bt s (i : Int) := e2
            simp [e1', e2']
      · show spec_l01Name.l0 (_ + 1) s (s.size : Int) = _
        rw [spec_l01Name.l0, if_neg (nlt_cast _)]
    · rw [if_pos (by simp [h3])]; simp [h3]
  · rw [if_neg h2]; simp only [Option.bind_some, spec_l01Name.j0]
    have h2' : ¬ 97 ≤ bt s 0 := h2
    rw [if_pos (by rfl)]; simp [h2']

theorem IsName_eq (s : ByteArray) {k : Nat} (hk : 20 ≤ k) : impl_IsName.f k s = some (nameB s) := by
  unfold impl_IsName.f nameB
  by_cases h0 : (s.size : Int) < 1
  · rw [if_pos h0]
    have : ¬ 1 ≤ s.size := by omega
    simp [this]
  rw [if_neg h0]
  by_cases h1 : (s.size : Int) > 10
  · rw [if_pos h1]
    have : ¬ s.size ≤ 10 := by omega
    simp [this]
  rw [if_neg h1, if_pos (by omega)]
  have h1' : s.size ≤ 10 := by omega
  have h0' : 1 ≤ s.size := by omega
  by_cases h2 : bt s 0 < 97
  · rw [if_pos h2]
    have h2' : ¬ 97 ≤ bt s 0 := by omega
    simp [h2']
  rw [if_neg h2]
  by_cases h3 : bt s 0 > 122
  · rw [if_pos h3]
    have h3' : ¬ bt s 0 ≤ 122 := by omega
    simp [h3']
  rw [if_neg h3]
  have h2' : 97 ≤ bt s 0 := by omega
  have h3' : bt s 0 ≤ 122 := by omega
  unfold impl_onlyNameBytes.f
  rw [all_loop (fun k i => impl_onlyNameBytes.l0 k s (s.size : Int) i) s.size (fun i => nameByte (bt s (i : Int))) true 0 (fun k i hi hB => ?_) (fun k _ => ?_) k (by omega)]
  · simp [h1', h0', h3', h2']
  · show impl_onlyNameBytes.l0 (k + 1) s (s.size : Int) (i : Int) = _
    rw [impl_onlyNameBytes.l0]
    rw [if_pos (lt_cast hi), if_pos (nn_cast i), if_pos (lt_cast hi), wrap_succ hi (by omega)]
    unfold nameByte
    repeat' split
    all_goals first | rfl | (exfalso; simp_all; done) | (exfalso; simp_all; omega)
  · show impl_onlyNameBytes.l0 (k + 1) s (s.size : Int) (s.size : Int) = _
    rw [impl_onlyNameBytes.l0, if_neg (nlt_cast _)]

end Go.Proofs.YtmoamoopoifnlaaDoor.P

namespace Go.Proofs.YtmoamoopoifnlaaDoor.P
open Go.RowKit Go.Proofs.YtmoamoopoifnlaaDoorW.PrintWords Go.Proofs.YtmoamoopoifnlaaDoorL
def catS (acc : ByteArray) (r : List ByteArray) : ByteArray := r.foldl (fun s x => (s ++ (⟨#[32]⟩ : ByteArray)) ++ x) acc
theorem ba_mk {a b : ByteArray} (h : a.data.toList = b.data.toList) : a = b := ByteArray.ext (Array.toList_inj.1 h)
theorem ba_app (a b : ByteArray) : (a ++ b).data.toList = a.data.toList ++ b.data.toList := by rw [ByteArray.data_append, Array.toList_append]
theorem catS_data : ∀ (r : List ByteArray) (acc : ByteArray), (catS acc r).data.toList = acc.data.toList ++ Lib.joinTail [32] (r.map (·.data.toList))
  | [], acc => by simp [catS, Lib.joinTail]
  | x :: r, acc => by
    have ih := catS_data r ((acc ++ (⟨#[32]⟩ : ByteArray)) ++ x)
    show (catS ((acc ++ (⟨#[32]⟩ : ByteArray)) ++ x) r).data.toList = _
    rw [ih, ba_app, ba_app]
    simp [Lib.joinTail]
def joinT : List ByteArray → ByteArray | [] => ⟨#[]⟩ | x :: r => catS x r
theorem join_T (l : List ByteArray) : strings_Join.t l ⟨#[32]⟩ = joinT l := by
  cases l with
  | nil => rfl
  | cons x r =>
    refine ba_mk ?_
    unfold joinT
    rw [catS_data]
    unfold strings_Join.t
    show (Lib.join _ _ : List UInt8) = _
    rw [List.map_cons, Lib.join_cons]
theorem catS_size : ∀ (r : List ByteArray) (acc : ByteArray), (∀ x ∈ r, x.size ≤ 99) → (catS acc r).size ≤ acc.size + 100 * r.length
  | [], acc, _ => by simp [catS]
  | x :: r, acc, h => by
    have ih := catS_size r ((acc ++ (⟨#[32]⟩ : ByteArray)) ++ x) (fun y hy => h y (List.mem_cons_of_mem _ hy))
    have hx := h x List.mem_cons_self
    have e1 : (⟨#[32]⟩ : ByteArray).size = 1 := rfl
    rw [ByteArray.size_append, ByteArray.size_append] at ih
    show (catS ((acc ++ (⟨#[32]⟩ : ByteArray)) ++ x) r).size ≤ _
    rw [List.length_cons]; omega
theorem joinT_size {l : List ByteArray} (h : ∀ x ∈ l, x.size ≤ 99) : (joinT l).size ≤ 100 * l.length := by
  cases l with
  | nil => exact Nat.zero_le _
  | cons x r =>
    have h1 := catS_size r x (fun y hy => h y (List.mem_cons_of_mem _ hy))
    have h2 := h x List.mem_cons_self
    show (catS x r).size ≤ _
    rw [List.length_cons]; omega
theorem bnil (n : ByteArray) : (⟨#[]⟩ : ByteArray) ++ n = n := ByteArray.empty_append
end Go.Proofs.YtmoamoopoifnlaaDoor.P

namespace Go.Proofs.YtmoamoopoifnlaaDoor.P
open Go.RowKit Go.Proofs.YtmoamoopoifnlaaDoorW.PrintWords Go.Proofs.YtmoamoopoifnlaaDoorL
set_option linter.unusedVariables false
set_option linter.unusedSimpArgs false

theorem szInt64S_some {l : List Int} (hl : l.length ≤ maxLen) {a : Int} (ha0 : 0 ≤ a) (ha : a ≤ 1048576) : ∃ r, laws_szInt64S.f l a = some r ∧ (r < 0 ∨ (0 ≤ r ∧ r ≤ a ∧ l.length ≤ 1048576)) := by
  have hl' : l.length ≤ 9223372036854775807 := by simpa only [maxLen] using hl
  unfold laws_szInt64S.f
  rw [wrap_id (by omega) (by omega)]
  by_cases h0 : a - (l.length : Int) < 0
  · rw [if_pos h0]; exact ⟨-1, rfl, .inl (by omega)⟩
  · rw [if_neg h0]; exact ⟨_, rfl, .inr ⟨by omega, by omega, by omega⟩⟩
theorem toInt64S_eq {l : List Int} (hl : l.length ≤ 1048576) {k : Nat} (hk : 1048600 ≤ k) : laws_toInt64S.f k l = some l := by
  unfold laws_toInt64S.f
  rw [if_pos (nn_cast _), if_pos (by simp; omega)]
  rw [set_loop (fun k acc i => laws_toInt64S.l0 k l acc i) l (fun x => x) 0 (fun k i hi acc ha _ => ?_) (fun k acc => ?_) k _ (by omega) (by simp)]
  · simp
  · simp only [laws_toInt64S.l0]
    rw [if_pos (lt_cast hi), if_pos (nn_cast i), if_pos (by omega), rd_get hi, wrap_succ hi (by omega)]
    rfl
  · simp only [laws_toInt64S.l0]
    rw [if_neg (nlt_cast _)]
theorem eqInt64S_eq {a b : List Int} (hl : a.length ≤ 1048576) {k : Nat} (hk : 1048600 ≤ k) : laws_eqInt64S.f k a b = some (decide (a = b)) := by
  unfold laws_eqInt64S.f
  by_cases h : a.length = b.length
  · rw [if_pos (by omega)]
    refine eq_loop (fun k i => laws_eqInt64S.l0 k a b i) a b h 0 (fun k i h1 h2 _ => ?_) (fun k => ?_) k (by omega)
    · simp only [laws_eqInt64S.l0]
      rw [if_pos (lt_cast h1), if_pos (nn_cast i), if_pos (lt_cast h2), rd_get h1, rd_get h2, wrap_succ h1 (by omega)]

    · simp only [laws_eqInt64S.l0]
      rw [if_neg (nlt_cast _)]
  · rw [if_neg (by omega)]
    have : a ≠ b := fun e => h (by rw [e])
    simp [this]
def cNote (x : S46) : S44 := ⟨x.f0, x.f1⟩
def smNote (x : S46) : Prop := True
theorem rd_lNote {l : List S46} {i : Nat} (h : i < l.length) : rd_T46 l (i : Int) = l[i] := by
  simp [rd_T46, List.getD_eq_getElem?_getD, List.getElem?_eq_getElem h]
theorem rd_iNote {l : List S44} {i : Nat} (h : i < l.length) : rd_T44 l (i : Int) = l[i] := by
  simp [rd_T44, List.getD_eq_getElem?_getD, List.getElem?_eq_getElem h]
theorem ext_iNote {a b : S44} : a = b ↔ a.f0 = b.f0 ∧ a.f1 = b.f1 := by
  cases a; cases b; simp
instance : DecidableEq S44 := fun _ _ => decidable_of_iff _ ext_iNote.symm
theorem szNoteS_some {l : List S46} (hl : l.length ≤ maxLen) (hg : ∀ y ∈ l, Go.Proofs.YtmoamoopoifnlaaDoor.g46 y) {a : Int} (ha0 : 0 ≤ a) (ha : a ≤ 1048576) {k : Nat} (_hk : 1048600 ≤ k) : ∃ r, laws_szNoteS.f l a = some r ∧ (r < 0 ∨ (0 ≤ r ∧ r ≤ a ∧ l.length ≤ 1048576 ∧ ∀ y ∈ l, smNote y)) := by
  have hl' : l.length ≤ 9223372036854775807 := by simpa only [maxLen] using hl
  unfold laws_szNoteS.f
  rw [wrap_id (by omega) (by omega)]
  by_cases h0 : a - (l.length : Int) < 0
  · rw [if_pos h0]; exact ⟨-1, rfl, .inl (by omega)⟩
  · rw [if_neg h0]; exact ⟨_, rfl, .inr ⟨by omega, by omega, by omega, fun y hy => by unfold smNote; trivial⟩⟩
theorem toNote_eq {x : S46} (hs : smNote x) : laws_toNote.f x.f0 x.f1 = some ((cNote x).f0, (cNote x).f1) := by
  unfold smNote at hs
  unfold laws_toNote.f
  rfl
theorem toNoteS_eq {l : List S46} (hl : l.length ≤ 1048576) (hs : ∀ y ∈ l, smNote y) {k : Nat} (hk : 1048600 ≤ k) : laws_toNoteS.f k l = some (l.map cNote) := by
  unfold laws_toNoteS.f
  rw [if_pos (nn_cast _), if_pos (by simp; omega)]
  refine set_loop (fun k acc i => laws_toNoteS.l0 k l acc i) l cNote 0 (fun k i hi acc ha hB => ?_) (fun k acc => ?_) k _ (by omega) (by simp)
  · simp only [laws_toNoteS.l0]
    rw [if_pos (lt_cast hi), if_pos (nn_cast i), rd_lNote hi, wrap_succ hi (by omega), toNote_eq (hs _ (List.getElem_mem hi))]
    simp only [Option.bind_some]
    rw [if_pos (by omega)]
    rfl
  · simp only [laws_toNoteS.l0]
    rw [if_neg (nlt_cast _)]
def smiNote (x : S44) : Prop := True
theorem eqNote_eq {a b : S44} (hs : smiNote a) : laws_eqNote.f a.f0 a.f1 b.f0 b.f1 = some (decide (a = b)) := by
  unfold smiNote at hs
  unfold laws_eqNote.f
  by_cases e0 : a.f0 = b.f0
  rotate_left
  · rw [if_neg e0]; have hne : ¬ a = b := fun e => e0 (ext_iNote.1 e).1; simp [hne]
  rw [if_pos e0]
  by_cases e1 : a.f1 = b.f1
  rotate_left
  · rw [if_neg e1]; have hne : ¬ a = b := fun e => e1 (ext_iNote.1 e).2; simp [hne]
  rw [if_pos e1]
  rw [decide_eq_true (ext_iNote.2 ⟨e0, e1⟩)]
theorem eqNoteS_eq {a b : List S44} (hl : a.length ≤ 1048576) (hs : ∀ y ∈ a, smiNote y) {k : Nat} (hk : 1048600 ≤ k) : laws_eqNoteS.f k a b = some (decide (a = b)) := by
  unfold laws_eqNoteS.f
  by_cases h : a.length = b.length
  · rw [if_pos (by omega)]
    refine eq_loop (fun k i => laws_eqNoteS.l0 k a b i) a b h 0 (fun k i h1 h2 hB => ?_) (fun k => ?_) k (by omega)
    · simp only [laws_eqNoteS.l0]
      rw [if_pos (lt_cast h1), if_pos (nn_cast i), if_pos (lt_cast h2), rd_iNote h1, rd_iNote h2, wrap_succ h1 (by omega), eqNote_eq (hs _ (List.getElem_mem h1))]
      simp only [Option.bind_some, decide_eq_true_eq]
    · simp only [laws_eqNoteS.l0]
      rw [if_neg (nlt_cast _)]
  · rw [if_neg (by omega)]
    have : a ≠ b := fun e => h (by rw [e])
    simp [this]
def cTala (x : S25) : S32 := ⟨x.f0, x.f1, x.f2⟩
def smTala (x : S25) : Prop := x.f0.size ≤ 1048576 ∧ x.f1.length ≤ 1048576 ∧ x.f2.length ≤ 1048576
theorem ext_iTala {a b : S32} : a = b ↔ a.f0.toList = b.f0.toList ∧ a.f1 = b.f1 ∧ a.f2 = b.f2 := by
  simp only [bytes_eq]; cases a; cases b; simp
instance : DecidableEq S32 := fun _ _ => decidable_of_iff _ ext_iTala.symm
theorem szTala_some {x : S25} (hg : Go.Proofs.YtmoamoopoifnlaaDoor.g25 x) {a : Int} (ha0 : 0 ≤ a) (ha : a ≤ 1048576) : ∃ r, laws_szTala.f x.f0 x.f1 x.f2 a = some r ∧ (r < 0 ∨ (0 ≤ r ∧ r ≤ a ∧ smTala x)) := by
  unfold laws_szTala.f smTala
  have hs0 : x.f0.size ≤ 9223372036854775807 := by have := hg.1; simpa only [maxLen] using this
  rw [wrap_id (x := a - (x.f0.size : Int)) (by omega) (by omega)]
  by_cases h0 : a - (x.f0.size : Int) < 0
  · rw [if_pos h0]; exact ⟨-1, rfl, .inl (by omega)⟩
  rw [if_neg h0]
  obtain ⟨r1, hr1, e1⟩ := szInt64S_some (l := x.f1) hg.2.1.1 (a := (a - (x.f0.size : Int))) (by omega) (by omega)
  rw [hr1]; simp only [Option.bind_some]
  by_cases h1 : r1 < 0
  · rw [if_pos h1]; exact ⟨-1, rfl, .inl (by omega)⟩
  rw [if_neg h1]
  obtain ⟨r2, hr2, e2⟩ := szInt64S_some (l := x.f2) hg.2.2.1 (a := r1) (by omega) (by omega)
  rw [hr2]; simp only [Option.bind_some]
  by_cases h2 : r2 < 0
  · rw [if_pos h2]; exact ⟨-1, rfl, .inl (by omega)⟩
  rw [if_neg h2]
  exact ⟨_, rfl, .inr ⟨by omega, by omega, by omega, by omega, by omega⟩⟩
theorem toTala_eq {x : S25} (hs : smTala x) {k : Nat} (hk : 1048600 ≤ k) : laws_toTala.f k x.f0 x.f1 x.f2 = some ((cTala x).f0, (cTala x).f1, (cTala x).f2) := by
  unfold smTala at hs
  unfold laws_toTala.f
  rw [toInt64S_eq (by have := hs.2.1; omega) (by omega)]; simp only [Option.bind_some]
  rw [toInt64S_eq (by have := hs.2.2; omega) (by omega)]; simp only [Option.bind_some]
  rfl
def smiTala (x : S32) : Prop := x.f1.length ≤ 1048576 ∧ x.f2.length ≤ 1048576
theorem smi_cTala {x : S25} (hs : smTala x) : smiTala (cTala x) := by
  unfold smTala at hs
  unfold smiTala cTala
  exact ⟨hs.2.1, hs.2.2⟩
theorem eqTala_eq {a b : S32} (hs : smiTala a) {k : Nat} (hk : 1048600 ≤ k) : laws_eqTala.f k a.f0 a.f1 a.f2 b.f0 b.f1 b.f2 = some (decide (a = b)) := by
  unfold smiTala at hs
  unfold laws_eqTala.f
  by_cases e0 : a.f0.toList = b.f0.toList
  rotate_left
  · rw [if_neg e0]; have hne : ¬ a = b := fun e => e0 (ext_iTala.1 e).1; simp [hne]
  rw [if_pos e0]
  rw [eqInt64S_eq hs.1 (by omega)]; simp only [Option.bind_some]
  by_cases e1 : a.f1 = b.f1
  rotate_left
  · rw [if_neg (by simp [e1])]; have hne : ¬ a = b := fun e => e1 (ext_iTala.1 e).2.1; simp [hne]
  rw [if_pos (by simp [e1])]
  rw [eqInt64S_eq hs.2 (by omega)]; simp only [Option.bind_some]
  by_cases e2 : a.f2 = b.f2
  rotate_left
  · rw [if_neg (by simp [e2])]; have hne : ¬ a = b := fun e => e2 (ext_iTala.1 e).2.2; simp [hne]
  rw [if_pos (by simp [e2])]
  rw [decide_eq_true (ext_iTala.2 ⟨e0, e1, e2⟩)]
end Go.Proofs.YtmoamoopoifnlaaDoor.P

namespace Go.Proofs.YtmoamoopoifnlaaDoor.P
open Go.RowKit Go.Proofs.YtmoamoopoifnlaaDoorW.PrintWords Go.Proofs.YtmoamoopoifnlaaDoorL
theorem rdN_get {l : List S44} {i : Nat} (h : i < l.length) : rd_T44 l (i : Int) = l[i] := by
  simp [rd_T44, List.getD_eq_getElem?_getD, List.getElem?_eq_getElem h]
def noteB (x : S44) : Bool := (decide (-12 ≤ x.f0) && decide (x.f0 ≤ 23)) && (decide (1 ≤ x.f1) && decide (x.f1 ≤ 64))
def melB (l : List S44) : Bool := l.all noteB && decide (l.length ≤ 48)
theorem ValidMelody_eq {l : List S44} {k : Nat} (hk : 100 ≤ k) : impl_ValidMelody.f k l = some (melB l) := by
  unfold impl_ValidMelody.f melB
  by_cases hl : l.length ≤ 48
  rotate_left
  · rw [if_pos (by omega), decide_eq_false hl, Bool.and_false]
  rw [if_neg (by omega), decide_eq_true hl, Bool.and_true]
  refine list_loop0 (fun k i => impl_ValidMelody.l0 k l (l.length : Int) i) l (fun r => r.all noteB) 0 (fun k i hi _ => ?_) (fun k => ?_) k (by omega)
  · simp only [impl_ValidMelody.l0]
    rw [if_pos (lt_cast hi), if_pos (nn_cast i), if_pos (lt_cast hi), rdN_get hi, wrap_succ hi (by omega)]
    unfold impl_pitchOk.f impl_lengthOk.f
    rw [within_eq, within_eq]; simp only [Option.bind_some]
    rw [List.all_cons]
    change _ = some (((decide (-12 ≤ l[i].f0) && decide (l[i].f0 ≤ 23)) && (decide (1 ≤ l[i].f1) && decide (l[i].f1 ≤ 64))) && _) ∨ (((((decide (-12 ≤ l[i].f0) && decide (l[i].f0 ≤ 23)) && (decide (1 ≤ l[i].f1) && decide (l[i].f1 ≤ 64))) && _) = _) ∧ _)
    cases (decide (-12 ≤ l[i].f0) && decide (l[i].f0 ≤ 23))
    · left; rfl
    · cases (decide (1 ≤ l[i].f1) && decide (l[i].f1 ≤ 64))
      · left; rfl
      · right; exact ⟨rfl, rfl⟩
  · simp only [impl_ValidMelody.l0]
    rw [if_neg (nlt_cast _)]; rfl
theorem l09Ok_eq {l : List S44} (hl : l.length ≤ 2000000) {k : Nat} (hk : l.length + 100 ≤ k) : spec_l09Ok.f k l = some (melB l) := by
  unfold spec_l09Ok.f melB
  refine list_loop0 (fun k i => spec_l09Ok.l0 k l i) l (fun r => r.all noteB && decide (l.length ≤ 48)) 0 (fun k i hi _ => ?_) (fun k => ?_) k (by omega)
  · simp only [spec_l09Ok.l0]
    rw [if_pos (lt_cast hi), if_pos (nn_cast i), rdN_get hi, wrap_succ hi (by omega)]
    unfold spec_l03Pitch.f spec_l09Length.f
    rw [in_eq, in_eq]; simp only [Option.bind_some]
    rw [List.all_cons]
    change _ = some ((((decide (-12 ≤ l[i].f0) && decide (l[i].f0 ≤ 23)) && (decide (1 ≤ l[i].f1) && decide (l[i].f1 ≤ 64))) && _) && _) ∨ ((((((decide (-12 ≤ l[i].f0) && decide (l[i].f0 ≤ 23)) && (decide (1 ≤ l[i].f1) && decide (l[i].f1 ≤ 64))) && _) && _) = _) ∧ _)
    cases (decide (-12 ≤ l[i].f0) && decide (l[i].f0 ≤ 23))
    · left; rfl
    · cases (decide (1 ≤ l[i].f1) && decide (l[i].f1 ≤ 64))
      · left; rfl
      · right; exact ⟨rfl, rfl⟩
  · simp only [spec_l09Ok.l0]
    rw [if_neg (nlt_cast _)]
    simp
    omega
def okNote (x : S44) : Prop := (-12 ≤ x.f0 ∧ x.f0 ≤ 23) ∧ -1000000000000 ≤ x.f1 ∧ x.f1 ≤ 1000000000000
theorem melB_ok {l : List S44} (h : melB l = true) : l.length ≤ 48 ∧ ∀ x ∈ l, okNote x := by
  unfold melB at h
  rw [Bool.and_eq_true, decide_eq_true_iff] at h
  refine ⟨h.2, fun x hx => ?_⟩
  have := List.all_eq_true.1 h.1 x hx
  unfold noteB at this
  rw [Bool.and_eq_true, Bool.and_eq_true, Bool.and_eq_true, decide_eq_true_iff, decide_eq_true_iff, decide_eq_true_iff, decide_eq_true_iff] at this
  unfold okNote
  omega
end Go.Proofs.YtmoamoopoifnlaaDoor.P

namespace Go.Proofs.YtmoamoopoifnlaaDoor.P
open Go.RowKit Go.Proofs.YtmoamoopoifnlaaDoorW.PrintWords Go.Proofs.YtmoamoopoifnlaaDoorL
def wB (a b n : Int) : Bool := decide (a ≤ n) && decide (n ≤ b)
def sumW (acc : Int) : List Int → Int
  | [] => acc
  | x :: r => sumW (wrap64 (acc + x)) r
def markB : List Int → Bool
  | [] => true
  | m :: r => decide (m = 1) && r.all (wB 2 3)
def talaB (s : ByteArray) (S M : List Int) : Bool := nameB s && ((decide (1 ≤ S.length) && decide (S.length ≤ 8)) && (decide (M.length = S.length) && ((S.all (wB 1 16) && markB M) && decide (sumW 0 S ≤ 32))))
theorem allW_eq (l : List Int) (a b : Int) : impl_allWithin.f l a b = some (l.all (wB a b)) := by
  unfold impl_allWithin.f
  congr 1
  induction l with
  | nil => rfl
  | cons x r ih =>
    rw [List.any_cons, List.all_cons, Bool.not_or, ih]
    congr 1
    unfold impl_allWithin.p wB
    cases decide (a ≤ x) <;> cases decide (x ≤ b) <;> rfl
theorem l17Sum_l0 (S : List Int) (hS : S.length ≤ 1000) : ∀ (d K i : Nat) (acc : Int), i + d = S.length → d + 1 ≤ K → spec_l17Sum.l0 K S acc (i : Int) = some (sumW acc (S.drop i)) := by
  intro d
  induction d with
  | zero =>
    intro K i acc hi hK
    obtain ⟨K, rfl⟩ : ∃ m, K = m + 1 := ⟨K - 1, by omega⟩
    simp only [spec_l17Sum.l0]
    rw [if_neg (by omega), List.drop_eq_nil_of_le (by omega)]; rfl
  | succ d ih =>
    intro K i acc hi hK
    obtain ⟨K, rfl⟩ : ∃ m, K = m + 1 := ⟨K - 1, by omega⟩
    have hlt : i < S.length := by omega
    simp only [spec_l17Sum.l0]
    rw [if_pos (lt_cast hlt), if_pos (nn_cast i), rd_get hlt, wrap_succ hlt (by omega), ih K (i + 1) _ (by omega) (by omega), List.drop_eq_getElem_cons hlt]; rfl
theorem l17Sum_eq {S : List Int} (hS : S.length ≤ 1000) {K : Nat} (hK : 1001 ≤ K) : spec_l17Sum.f K S = some (sumW 0 S) := l17Sum_l0 S hS S.length K 0 0 (by omega) (by omega)
theorem sumOf_l0 (S : List Int) (hS : S.length ≤ 1000) : ∀ (d K i : Nat) (acc : Int), i + d = S.length → d + 1 ≤ K → impl_sumOf.l0 K acc S (S.length : Int) (i : Int) = some (sumW acc (S.drop i)) := by
  intro d
  induction d with
  | zero =>
    intro K i acc hi hK
    obtain ⟨K, rfl⟩ : ∃ m, K = m + 1 := ⟨K - 1, by omega⟩
    simp only [impl_sumOf.l0]
    rw [if_neg (by omega), List.drop_eq_nil_of_le (by omega)]; rfl
  | succ d ih =>
    intro K i acc hi hK
    obtain ⟨K, rfl⟩ : ∃ m, K = m + 1 := ⟨K - 1, by omega⟩
    have hlt : i < S.length := by omega
    simp only [impl_sumOf.l0]
    rw [if_pos (lt_cast hlt), if_pos (nn_cast i), if_pos (lt_cast hlt), rd_get hlt, wrap_succ hlt (by omega), ih K (i + 1) _ (by omega) (by omega), List.drop_eq_getElem_cons hlt]; rfl
theorem beats_eq (s : ByteArray) {S : List Int} (M : List Int) (hS : S.length ≤ 1000) {K : Nat} (hK : 1001 ≤ K) : impl_Tala_beats.f K s S M = some (sumW 0 S) := by
  unfold impl_Tala_beats.f impl_sumOf.f
  have := sumOf_l0 S hS S.length K 0 0 (by omega) (by omega)
  rw [List.drop_zero, show ((0 : Nat) : Int) = 0 from rfl] at this
  rw [this]; rfl
theorem ValidTala_eq (s : ByteArray) (S M : List Int) {K : Nat} (hK : 2000 ≤ K) : impl_ValidTala.f K s S M = some (talaB s S M) := by
  unfold impl_ValidTala.f talaB
  rw [IsName_eq s (by omega)]; simp only [Option.bind_some]
  cases hn : nameB s
  · rfl
  rw [if_pos rfl, Bool.true_and]
  by_cases h1 : 1 ≤ S.length
  rotate_left
  · rw [if_pos (by omega), decide_eq_false h1]; rfl
  rw [if_neg (by omega), decide_eq_true h1]
  by_cases h8 : S.length ≤ 8
  rotate_left
  · rw [if_pos (by omega), decide_eq_false h8]; rfl
  rw [if_neg (by omega), decide_eq_true h8, allW_eq]; simp only [Option.bind_some, Bool.true_and]
  cases hw : S.all (wB 1 16)
  · rw [if_neg (by decide), Bool.false_and, Bool.false_and, Bool.and_false]
  rw [if_pos rfl, beats_eq s M (by omega) (by omega)]; simp only [Option.bind_some, Bool.true_and]
  by_cases h32 : sumW 0 S ≤ 32
  rotate_left
  · rw [if_pos (by omega), decide_eq_false h32, Bool.and_false, Bool.and_false]
  rw [if_neg (by omega), decide_eq_true h32, Bool.and_true]
  by_cases hm : M.length = S.length
  rotate_left
  · rw [if_neg (by omega), decide_eq_false hm, Bool.false_and]
  rw [if_pos (by omega), decide_eq_true hm, if_pos (by omega), Bool.true_and]
  cases M with
  | nil => rw [List.length_nil] at hm; omega
  | cons m r =>
    show (if m = 1 then (if 1 ≤ (((m :: r).length : Nat) : Int) then ((impl_allWithin.f r 2 3).bind fun t => some t) else none) else some false) = some (decide (m = 1) && r.all (wB 2 3))
    rw [allW_eq]; simp only [Option.bind_some]
    by_cases h : m = 1
    · rw [if_pos h, if_pos (by rw [List.length_cons]; omega), decide_eq_true h, Bool.true_and]
    · rw [if_neg h, decide_eq_false h, Bool.false_and]
theorem l17Ok_l0 {s : ByteArray} {S M : List Int} (h8 : S.length ≤ 8) (hm : M.length = S.length) : ∀ (d K i : Nat), i + d = S.length → 1 ≤ i → d + 1500 ≤ K → spec_l17Ok_e.l0 K (S.length : Int) (i : Int) [(⟨s, S, M⟩ : S32)] 0 = some (((S.drop i).all (wB 1 16) && (M.drop i).all (wB 2 3)) && decide (sumW 0 S ≤ 32)) := by
  have hr : rd_T32 [(⟨s, S, M⟩ : S32)] 0 = ⟨s, S, M⟩ := rfl
  intro d
  induction d with
  | zero =>
    intro K i hi h1 hK
    obtain ⟨K, rfl⟩ : ∃ m, K = m + 1 := ⟨K - 1, by omega⟩
    simp only [spec_l17Ok_e.l0]
    rw [if_neg (by omega), List.drop_eq_nil_of_le (by omega), List.drop_eq_nil_of_le (by omega), hr]
    show ((spec_l17Sum.f K S).bind fun t => some (decide (t ≤ 32))) = _
    rw [l17Sum_eq (by omega) (by omega)]; rfl
  | succ d ih =>
    intro K i hi h1 hK
    obtain ⟨K, rfl⟩ : ∃ m, K = m + 1 := ⟨K - 1, by omega⟩
    have hlt : i < S.length := by omega
    have hlm : i < M.length := by omega
    simp only [spec_l17Ok_e.l0]
    rw [if_pos (lt_cast hlt), if_pos (nn_cast i), hr]
    dsimp only
    rw [if_pos (lt_cast hlt), rd_get hlt, in_eq]; simp only [Option.bind_some]
    rw [List.drop_eq_getElem_cons hlt, List.drop_eq_getElem_cons hlm, List.all_cons, List.all_cons]
    change (if wB 1 16 S[i] = true then _ else _) = some (((wB 1 16 S[i] && _) && (wB 2 3 M[i] && _)) && _)
    cases wB 1 16 S[i]
    · rfl
    rw [if_pos rfl, if_neg (by omega), if_pos (by omega), if_pos (lt_cast hlm), rd_get hlm, in_eq]; simp only [Option.bind_some]
    change (if wB 2 3 M[i] = true then _ else _) = _
    cases wB 2 3 M[i]
    · rw [if_neg (by decide)]; simp
    rw [if_pos rfl, wrap_succ hlt (by omega), ih K (i + 1) (by omega) (by omega) (by omega)]; simp
theorem l17Ok_eq (s : ByteArray) (S M : List Int) {K : Nat} (hK : 2000 ≤ K) : spec_l17Ok_e.f K [(⟨s, S, M⟩ : S32)] 0 = some (talaB s S M) := by
  have hr : rd_T32 [(⟨s, S, M⟩ : S32)] 0 = ⟨s, S, M⟩ := rfl
  obtain ⟨K, rfl⟩ : ∃ m, K = m + 2 := ⟨K - 2, by omega⟩
  unfold spec_l17Ok_e.f talaB
  rw [hr]
  dsimp only
  rw [l01Name_eq s (by omega)]; simp only [Option.bind_some]
  have hj : ∀ n : Int, spec_l17Ok_e.j0 (K + 2) n true [(⟨s, S, M⟩ : S32)] 0 = some false := fun n => by
    simp only [spec_l17Ok_e.j0]
    rw [if_pos trivial]
  cases hn : nameB s
  · rw [if_neg (by decide), hj]; rfl
  rw [if_pos rfl, in_eq, Bool.true_and]; simp only [Option.bind_some]
  have hc : (decide ((1 : Int) ≤ (S.length : Int)) && decide ((S.length : Int) ≤ 8)) = (decide (1 ≤ S.length) && decide (S.length ≤ 8)) := by
    congr 1
    · exact decide_eq_decide.2 (by omega)
    · exact decide_eq_decide.2 (by omega)
  rw [hc]
  by_cases hl : (decide (1 ≤ S.length) && decide (S.length ≤ 8)) = true
  rotate_left
  · rw [if_neg hl, hj, Bool.eq_false_iff.2 hl]; rfl
  rw [if_pos hl, hl, Bool.true_and]
  rw [Bool.and_eq_true, decide_eq_true_iff, decide_eq_true_iff] at hl
  obtain ⟨h1, h8⟩ := hl
  by_cases hm : M.length = S.length
  rotate_left
  · rw [bne_iff_ne.2 (by omega), hj, decide_eq_false hm]; rfl
  rw [decide_eq_true hm, Bool.true_and, show ((M.length : Int) != (S.length : Int)) = false by rw [hm]; simp]
  simp only [spec_l17Ok_e.j0, Bool.false_eq_true, if_false, spec_l17Ok_e.l0]
  rw [if_pos (by omega), if_pos (by decide), hr]
  dsimp only
  cases S with
  | nil => rw [List.length_nil] at h1; omega
  | cons x q =>
    cases M with
    | nil => rw [List.length_nil, List.length_cons] at hm; omega
    | cons m r =>
      have e1 : rd (x :: q) 0 = x := rd_get (l := x :: q) (i := 0) (by simp)
      have e2 : rd (m :: r) 0 = m := rd_get (l := m :: r) (i := 0) (by simp)
      rw [if_pos (by rw [List.length_cons]; omega), e1, e2, in_eq]; simp only [Option.bind_some]
      rw [List.all_cons]
      change (if wB 1 16 x = true then _ else _) = some (((wB 1 16 x && _) && (decide (m = 1) && r.all (wB 2 3))) && _)
      cases wB 1 16 x
      · rfl
      rw [if_pos rfl, if_pos (c := True) trivial, if_pos (by rw [List.length_cons]; omega)]
      by_cases h : m = 1
      rotate_left
      · rw [if_neg h, decide_eq_false h]; simp
      have hw : wrap64 (0 + 1) = ((1 : Nat) : Int) := by rw [wrap_id (by omega) (by omega)]; rfl
      rw [if_pos h, if_neg (by decide), decide_eq_true h, hw]
      have := l17Ok_l0 (s := s) h8 hm q.length K 1 (by rw [List.length_cons]; omega) (by omega) (by rw [List.length_cons] at h8; omega)
      rw [this]; simp
def codeB (l : List S44) (s : ByteArray) (S M : List Int) (v : Int) : Int := if (melB l && talaB s S M) = true then (if wB 1 8 v = true then 0 else 2) else 1
theorem l25Ask_eq {l : List S44} (hl : l.length ≤ 2000000) (s : ByteArray) (S M : List Int) (v : Int) {K : Nat} (hK : l.length + 3000 ≤ K) : spec_l25Ask_e.f K l [(⟨s, S, M⟩ : S32)] 0 v = some (codeB l s S M v) := by
  obtain ⟨K, rfl⟩ : ∃ m, K = m + 1 := ⟨K - 1, by omega⟩
  unfold spec_l25Ask_e.f codeB
  rw [l09Ok_eq hl (by omega)]; simp only [Option.bind_some]
  cases melB l
  · rfl
  rw [if_pos rfl, l17Ok_eq s S M (by omega), Bool.true_and]; simp only [Option.bind_some, spec_l25Ask_e.j0]
  cases talaB s S M
  · rfl
  rw [in_eq]; simp only [Option.bind_some]
  change (if (!true) = true then _ else (if wB 1 8 v = true then _ else _)) = _
  cases wB 1 8 v <;> rfl
theorem notationCode_eq (l : List S44) (s : ByteArray) (S M : List Int) (v : Int) {K : Nat} (hK : 3000 ≤ K) : impl_notationCode.f K l s S M v = some (codeB l s S M v) := by
  obtain ⟨K, rfl⟩ : ∃ m, K = m + 1 := ⟨K - 1, by omega⟩
  unfold impl_notationCode.f codeB
  rw [ValidMelody_eq (by omega)]; simp only [Option.bind_some]
  cases melB l
  · rfl
  rw [if_pos rfl, ValidTala_eq s S M (by omega), Bool.true_and]; simp only [Option.bind_some, impl_notationCode.j0]
  cases talaB s S M
  · rfl
  rw [within_eq]; simp only [Option.bind_some]
  change (if (!true) = true then _ else (if wB 1 8 v = true then _ else _)) = _
  cases wB 1 8 v <;> rfl
end Go.Proofs.YtmoamoopoifnlaaDoor.P

namespace Go.Proofs.YtmoamoopoifnlaaDoor.P
open Go.RowKit Go.Proofs.YtmoamoopoifnlaaDoorW.PrintWords Go.Proofs.YtmoamoopoifnlaaDoorL
def ps : List Int → Nat → Int
  | _, 0 => 0
  | [], _ + 1 => 0
  | x :: r, j + 1 => x + ps r j
def Lj (S : List Int) (v : Int) (j : Nat) : Int := rd S (j : Int) * v
def tot (S : List Int) (v : Int) : Int := ps S S.length * v
structure TG (S : List Int) (v : Int) : Prop where
  n1 : 1 ≤ S.length
  n8 : S.length ≤ 8
  sec : ∀ x ∈ S, 1 ≤ x ∧ x ≤ 16
  v1 : 1 ≤ v
  v8 : v ≤ 8
theorem TG_of {s : ByteArray} {S M : List Int} {v : Int} (h : talaB s S M = true) (hv : wB 1 8 v = true) : TG S v := by
  unfold talaB at h
  unfold wB at hv
  rw [Bool.and_eq_true, decide_eq_true_iff, decide_eq_true_iff] at hv
  rw [Bool.and_eq_true, Bool.and_eq_true, Bool.and_eq_true, decide_eq_true_iff, decide_eq_true_iff, Bool.and_eq_true, Bool.and_eq_true, Bool.and_eq_true] at h
  refine ⟨h.2.1.1, h.2.1.2, fun x hx => ?_, hv.1, hv.2⟩
  have := List.all_eq_true.1 h.2.2.2.1.1 x hx
  unfold wB at this
  rw [Bool.and_eq_true, decide_eq_true_iff, decide_eq_true_iff] at this
  exact this
theorem ps_succ : ∀ {S : List Int} {j : Nat} (h : j < S.length), ps S (j + 1) = ps S j + S[j]
  | [], j, h => by simp at h
  | x :: r, 0, _ => by show x + ps r 0 = 0 + x; cases r <;> simp [ps]
  | x :: r, j + 1, h => by
    have hj : j < r.length := by simpa using h
    have := ps_succ (S := r) (j := j) hj
    show x + ps r (j + 1) = (x + ps r j) + r[j]
    omega
theorem ps_bound {S : List Int} (hs : ∀ x ∈ S, 1 ≤ x ∧ x ≤ 16) : ∀ j, j ≤ S.length → 0 ≤ ps S j ∧ ps S j ≤ 16 * j := by
  intro j
  induction j with
  | zero => intro _; cases S <;> simp [ps]
  | succ j ih =>
    intro h
    have := ih (by omega)
    have h2 := hs S[j] (List.getElem_mem (by omega))
    rw [ps_succ (by omega)]
    omega
theorem ps_le {S : List Int} (hs : ∀ x ∈ S, 1 ≤ x ∧ x ≤ 16) {i : Nat} : ∀ d, i + d ≤ S.length → ps S i + d ≤ ps S (i + d) := by
  intro d
  induction d with
  | zero => intro _; simp
  | succ d ih =>
    intro h
    have := ih (by omega)
    have h2 := hs S[i + d] (List.getElem_mem (by omega))
    rw [← Nat.add_assoc, ps_succ (by omega)]
    omega
theorem sumW_ps : ∀ (S : List Int) (acc : Int), (∀ x ∈ S, 1 ≤ x ∧ x ≤ 16) → 0 ≤ acc → acc + 16 * S.length ≤ 1000000 → sumW acc S = acc + ps S S.length
  | [], acc, _, _, _ => by show acc = acc + 0; omega
  | x :: r, acc, hs, h0, h1 => by
    have hx := hs x List.mem_cons_self
    rw [List.length_cons] at h1
    show sumW (wrap64 (acc + x)) r = acc + (x + ps r r.length)
    rw [wrap_id (by omega) (by omega), sumW_ps r (acc + x) (fun y hy => hs y (List.mem_cons_of_mem _ hy)) (by omega) (by omega)]
    omega
theorem Lj_at {S : List Int} {v : Int} {j : Nat} (h : j < S.length) : Lj S v j = S[j] * v := by unfold Lj; rw [rd_get h]
theorem Lj_bound {S : List Int} {v : Int} (g : TG S v) {j : Nat} (h : j < S.length) : 1 ≤ Lj S v j ∧ Lj S v j ≤ 128 := by
  have h2 := g.sec S[j] (List.getElem_mem h)
  have h1 := g.v1
  have h8 := g.v8
  rw [Lj_at h]
  generalize S[j] = x at h2
  obtain rfl | rfl | rfl | rfl | rfl | rfl | rfl | rfl : v = 1 ∨ v = 2 ∨ v = 3 ∨ v = 4 ∨ v = 5 ∨ v = 6 ∨ v = 7 ∨ v = 8 := by omega
  all_goals omega
theorem pv_succ {S : List Int} {v : Int} {j : Nat} (h : j < S.length) : ps S (j + 1) * v = ps S j * v + Lj S v j := by rw [ps_succ h, Lj_at h, Int.add_mul]
theorem pv_bound {S : List Int} {v : Int} (g : TG S v) {j : Nat} (h : j ≤ S.length) : 0 ≤ ps S j * v ∧ ps S j * v ≤ 1024 := by
  have h2 := ps_bound g.sec j h
  have h1 := g.v1
  have h8 := g.v8
  have n8 := g.n8
  generalize ps S j = x at h2
  obtain rfl | rfl | rfl | rfl | rfl | rfl | rfl | rfl : v = 1 ∨ v = 2 ∨ v = 3 ∨ v = 4 ∨ v = 5 ∨ v = 6 ∨ v = 7 ∨ v = 8 := by omega
  all_goals omega
theorem pv_tot {S : List Int} {v : Int} (g : TG S v) {j : Nat} (h : j < S.length) : ps S j * v + Lj S v j ≤ tot S v ∧ (j + 1 < S.length → ps S j * v + Lj S v j < tot S v) := by
  have h2 := ps_le g.sec (i := j + 1) (S.length - (j + 1)) (by omega)
  rw [show j + 1 + (S.length - (j + 1)) = S.length by omega] at h2
  have h1 := g.v1
  have h8 := g.v8
  rw [← pv_succ h]
  unfold tot
  generalize ps S (j + 1) = x at h2
  generalize ps S S.length = y at h2
  obtain rfl | rfl | rfl | rfl | rfl | rfl | rfl | rfl : v = 1 ∨ v = 2 ∨ v = 3 ∨ v = 4 ∨ v = 5 ∨ v = 6 ∨ v = 7 ∨ v = 8 := by omega
  all_goals omega
theorem tot_pos {S : List Int} {v : Int} (g : TG S v) : 1 ≤ tot S v ∧ tot S v ≤ 1024 := by
  have h0 : 0 < S.length := by have := g.n1; omega
  have h1 := (pv_tot g h0).1
  have h2 := Lj_bound g h0
  have h3 := pv_bound g (j := 0) (by omega)
  exact ⟨by omega, (pv_bound g (Nat.le_refl _)).2⟩
/-- A time stands in section j, c units behind its beginning. -/
structure Pos (S : List Int) (v T : Int) (j : Nat) (c : Int) : Prop where
  t0 : 0 ≤ T
  t9 : T ≤ 1000000
  jl : j < S.length
  c0 : 0 ≤ c
  c9 : c < Lj S v j
  at_ : T % tot S v = ps S j * v + c
theorem units_eq (s : ByteArray) {S : List Int} (M : List Int) {v : Int} (g : TG S v) {K : Nat} (hK : 2000 ≤ K) : spec_l19Units_e.f K [(⟨s, S, M⟩ : S32)] 0 v = some (tot S v) := by
  have n8 := g.n8
  have ht := tot_pos g
  unfold spec_l19Units_e.f spec_l17Beats_e.f
  rw [show rd_T32 [(⟨s, S, M⟩ : S32)] 0 = ⟨s, S, M⟩ from rfl]
  dsimp only
  rw [l17Sum_eq (by omega) (by omega), sumW_ps S 0 g.sec (by omega) (by omega)]
  simp only [Option.bind_some]
  rw [Int.zero_add]
  show some (wrap64 (tot S v)) = _
  rw [wrap_id (by omega) (by omega)]
theorem At_l0 (s : ByteArray) {S : List Int} (M : List Int) (hs : ∀ x ∈ S, 1 ≤ x ∧ x ≤ 16) (hn : S.length ≤ 8) : ∀ (j i K : Nat) (b : Int) (h : i + j < S.length), 0 ≤ b → b < S[i + j] → j + 1 ≤ K → spec_l17At_e.l0 K (ps (S.drop i) j + b) (i : Int) [(⟨s, S, M⟩ : S32)] 0 = some (((i + j : Nat) : Int), b) := by
  have hr : rd_T32 [(⟨s, S, M⟩ : S32)] 0 = ⟨s, S, M⟩ := rfl
  intro j
  induction j with
  | zero =>
    intro i K b h h0 h1 hK
    obtain ⟨K, rfl⟩ : ∃ m, K = m + 1 := ⟨K - 1, by omega⟩
    have hlt : i < S.length := by omega
    have e0 : ps (S.drop i) 0 = 0 := by cases S.drop i <;> rfl
    simp only [spec_l17At_e.l0]
    rw [hr]
    dsimp only
    rw [if_pos (nn_cast i), if_pos (lt_cast hlt), rd_get hlt, e0, if_neg (by simp only [Nat.add_zero] at h1; omega), Int.zero_add]; rfl
  | succ j ih =>
    intro i K b h h0 h1 hK
    obtain ⟨K, rfl⟩ : ∃ m, K = m + 1 := ⟨K - 1, by omega⟩
    have hlt : i < S.length := by omega
    have e1 : ps (S.drop i) (j + 1) = S[i] + ps (S.drop (i + 1)) j := by rw [List.drop_eq_getElem_cons hlt]; rfl
    have hb := ps_bound (S := S.drop (i + 1)) (fun x hx => hs x (List.mem_of_mem_drop hx)) j (by rw [List.length_drop]; omega)
    have hx := hs S[i] (List.getElem_mem hlt)
    have hb2 := hs S[i + (j + 1)] (List.getElem_mem h)
    have h2 : b < S[i + 1 + j]'(by omega) := by
      have e : i + 1 + j = i + (j + 1) := by omega
      simp only [e]; exact h1
    simp only [spec_l17At_e.l0]
    rw [hr]
    dsimp only
    rw [if_pos (nn_cast i), if_pos (lt_cast hlt), rd_get hlt, e1, if_pos (by omega), wrap_id (by omega) (by omega), show S[i] + ps (S.drop (i + 1)) j + b - S[i] = ps (S.drop (i + 1)) j + b by omega, wrap_succ hlt (by omega), ih (i + 1) K b (by omega) h0 h2 (by omega)]
    congr 2
    omega
theorem place {S : List Int} {v T : Int} (g : TG S v) {j : Nat} {c : Int} (p : Pos S v T j c) : Int.tmod T (tot S v) = ps S j * v + c ∧ Int.tdiv (ps S j * v + c) v = ps S j + c / v ∧ Int.tmod (ps S j * v + c) v = c % v ∧ 0 ≤ c / v ∧ c / v < S[j]'p.jl := by
  have hp := pv_bound g (j := j) (by have := p.jl; omega)
  have h1 := g.v1
  have c0 := p.c0
  have c9 := p.c9
  rw [Lj_at p.jl] at c9
  refine ⟨by rw [Int.tmod_eq_emod_of_nonneg p.t0]; exact p.at_, ?_, ?_, Int.ediv_nonneg c0 (by omega), Int.ediv_lt_of_lt_mul (by omega) c9⟩
  · rw [Int.tdiv_eq_ediv_of_nonneg (by omega), Int.add_comm (ps S j * v) c, Int.add_mul_ediv_right _ _ (by omega)]; omega
  · rw [Int.tmod_eq_emod_of_nonneg (by omega), Int.add_comm (ps S j * v) c, Int.add_mul_emod_self_right]
theorem Left_eq (s : ByteArray) {S : List Int} (M : List Int) {v T : Int} (g : TG S v) {j : Nat} {c : Int} (p : Pos S v T j c) {K : Nat} (hK : 2000 ≤ K) : spec_l25Left_e.f K [(⟨s, S, M⟩ : S32)] 0 v T = some (Lj S v j - c) := by
  obtain ⟨e1, e2, e3, e4, e5⟩ := place g p
  have ht := tot_pos g
  have h1 := g.v1
  have jl := p.jl
  have hb := ps_bound g.sec j (by omega)
  have hx := g.sec S[j] (List.getElem_mem jl)
  have hL := Lj_bound g p.jl
  have n8 := g.n8
  have c0 := p.c0
  have c9 := p.c9
  have hq : 0 ≤ v * (c / v) := Int.mul_nonneg (by omega) e4
  have hA := At_l0 s M g.sec g.n8 j 0 K (c / v) (by omega) e4 (by simp only [Nat.zero_add]; exact e5) (by omega)
  rw [List.drop_zero, Nat.zero_add, show ((0 : Nat) : Int) = 0 from rfl] at hA
  have hm := Int.emod_add_mul_ediv c v
  have hm0 := Int.emod_nonneg c (show v ≠ 0 by omega)
  have hm1 := Int.emod_lt_of_pos c (show 0 < v by omega)
  have hd : (S[j] - c / v) * v = Lj S v j - v * (c / v) := by rw [Int.sub_mul, Lj_at p.jl, Int.mul_comm (c / v) v]
  unfold spec_l25Left_e.f spec_l17At_e.f
  rw [units_eq s M g (by omega)]
  simp only [Option.bind_some]
  rw [if_neg (by omega), if_neg (by omega), e1, e2, wrap_id (by omega) (by omega), hA]
  simp only [Option.bind_some]
  rw [if_pos (nn_cast j), show rd_T32 [(⟨s, S, M⟩ : S32)] 0 = ⟨s, S, M⟩ from rfl]
  dsimp only
  rw [if_pos (lt_cast p.jl), rd_get p.jl, e3, wrap_id (x := S[j] - c / v) (by omega) (by omega), hd, wrap_id (x := Lj S v j - v * (c / v)) (by omega) (by omega), wrap_id (by omega) (by omega)]
  congr 1
  omega
theorem Whole_eq (s : ByteArray) {S : List Int} (M : List Int) {v T : Int} (g : TG S v) {j : Nat} {c : Int} (p : Pos S v T j c) {K : Nat} (hK : 2000 ≤ K) : spec_l25Whole_e.f K [(⟨s, S, M⟩ : S32)] 0 v T = some (Lj S v j) := by
  obtain ⟨e1, e2, e3, e4, e5⟩ := place g p
  have ht := tot_pos g
  have h1 := g.v1
  have jl := p.jl
  have hb := ps_bound g.sec j (by omega)
  have hx := g.sec S[j] (List.getElem_mem jl)
  have hL := Lj_bound g p.jl
  have n8 := g.n8
  have hA := At_l0 s M g.sec g.n8 j 0 K (c / v) (by omega) e4 (by simp only [Nat.zero_add]; exact e5) (by omega)
  rw [List.drop_zero, Nat.zero_add, show ((0 : Nat) : Int) = 0 from rfl] at hA
  unfold spec_l25Whole_e.f spec_l17At_e.f
  rw [units_eq s M g (by omega)]
  simp only [Option.bind_some]
  rw [if_neg (by omega), if_neg (by omega), e1, e2, wrap_id (by omega) (by omega), hA]
  simp only [Option.bind_some]
  rw [if_pos (nn_cast j), show rd_T32 [(⟨s, S, M⟩ : S32)] 0 = ⟨s, S, M⟩ from rfl]
  dsimp only
  rw [if_pos (lt_cast p.jl)]
  show some (wrap64 (Lj S v j)) = _
  rw [wrap_id (by omega) (by omega)]
def nx (S : List Int) (v : Int) (j : Nat) (c : Int) : Nat × Int := if c = Lj S v j then ((j + 1) % S.length, 0) else (j, c)
theorem nx_st {S : List Int} {v : Int} (g : TG S v) {j : Nat} {c : Int} (h : j < S.length) (c0 : 0 ≤ c) (c9 : c ≤ Lj S v j) : (nx S v j c).1 < S.length ∧ 0 ≤ (nx S v j c).2 ∧ (nx S v j c).2 < Lj S v (nx S v j c).1 := by
  unfold nx
  by_cases hc : c = Lj S v j
  · rw [if_pos hc]
    have hm : (j + 1) % S.length < S.length := Nat.mod_lt _ (by omega)
    have := Lj_bound g hm
    exact ⟨hm, Int.le_refl _, by show (0 : Int) < Lj S v ((j + 1) % S.length); omega⟩
  · rw [if_neg hc]; exact ⟨h, c0, by show c < Lj S v j; omega⟩
theorem Pos_nx {S : List Int} {v T : Int} (g : TG S v) {j : Nat} {c n : Int} (p : Pos S v T j c) (n0 : 0 ≤ n) (n9 : c + n ≤ Lj S v j) (ht : T + n ≤ 1000000) : Pos S v (T + n) (nx S v j (c + n)).1 (nx S v j (c + n)).2 := by
  have t0 := p.t0
  have c0 := p.c0
  obtain ⟨a1, a2, a3⟩ := nx_st g p.jl (c := c + n) (by omega) n9
  refine ⟨by omega, ht, a1, a2, a3, ?_⟩
  have hU := tot_pos g
  obtain ⟨b1, b2⟩ := pv_tot g p.jl
  have hp := pv_bound g (j := j) (by have := p.jl; omega)
  rw [← Int.emod_add_emod, p.at_]
  unfold nx
  by_cases hc : c + n = Lj S v j
  · rw [if_pos hc]
    dsimp only
    by_cases hj : j + 1 < S.length
    · have := b2 hj
      rw [Nat.mod_eq_of_lt hj, pv_succ p.jl, Int.emod_eq_of_lt (by omega) (by omega)]; omega
    · have hj2 : j + 1 = S.length := by have := p.jl; omega
      have e : ps S j * v + c + n = tot S v := by
        unfold tot
        rw [← hj2, pv_succ p.jl]; omega
      have e0 : ps S 0 * v + 0 = 0 := by
        have : ps S 0 = 0 := by cases S <;> rfl
        rw [this]; omega
      rw [e, Int.emod_self, hj2, Nat.mod_self, e0]
  · rw [if_neg hc]
    dsimp only
    rw [Int.emod_eq_of_lt (by omega) (by omega)]; omega
def cutN (S : List Int) (v : Int) : Nat → Int → Bool → Int → Nat → Int → List S65 × Nat × Int
  | 0, _, _, _, j, c => ([], j, c)
  | f + 1, i, lt, x, j, c => if x > 0 then ((⟨i, mn x (Lj S v j - c), if c = 0 then (j : Int) else -1, lt⟩ : S65) :: (cutN S v f i true (x - mn x (Lj S v j - c)) (nx S v j (c + mn x (Lj S v j - c))).1 (nx S v j (c + mn x (Lj S v j - c))).2).1, (cutN S v f i true (x - mn x (Lj S v j - c)) (nx S v j (c + mn x (Lj S v j - c))).1 (nx S v j (c + mn x (Lj S v j - c))).2).2) else ([], j, c)
def segs (S : List Int) (v : Int) : List S44 → Int → Nat → Int → List S65
  | [], _, _, _ => []
  | x :: r, i, j, c => (cutN S v 64 i false x.f1 j c).1 ++ segs S v r (i + 1) (cutN S v 64 i false x.f1 j c).2.1 (cutN S v 64 i false x.f1 j c).2.2
theorem mn_le {a b : Int} : mn a b ≤ a ∧ mn a b ≤ b ∧ (mn a b = a ∨ mn a b = b) := by unfold mn; split <;> omega
theorem cutN_length (S : List Int) (v : Int) : ∀ (f : Nat) (i : Int) (lt : Bool) (x : Int) (j : Nat) (c : Int), (cutN S v f i lt x j c).1.length ≤ f := by
  intro f
  induction f with
  | zero => intros; exact Nat.le_refl _
  | succ f ih =>
    intro i lt x j c
    unfold cutN
    split
    · rw [List.length_cons]; have := ih i true (x - mn x (Lj S v j - c)) (nx S v j (c + mn x (Lj S v j - c))).1 (nx S v j (c + mn x (Lj S v j - c))).2; omega
    · exact Nat.zero_le _
theorem cutN_st {S : List Int} {v : Int} (g : TG S v) : ∀ (f : Nat) (i : Int) (lt : Bool) (x : Int) (j : Nat) (c : Int), j < S.length → 0 ≤ c → c < Lj S v j → (cutN S v f i lt x j c).2.1 < S.length ∧ 0 ≤ (cutN S v f i lt x j c).2.2 ∧ (cutN S v f i lt x j c).2.2 < Lj S v (cutN S v f i lt x j c).2.1 := by
  intro f
  induction f with
  | zero => intro i lt x j c h1 h2 h3; exact ⟨h1, h2, h3⟩
  | succ f ih =>
    intro i lt x j c h1 h2 h3
    unfold cutN
    by_cases hx : x > 0
    · rw [if_pos hx]
      obtain ⟨m1, m2, m3⟩ := @mn_le x (Lj S v j - c)
      obtain ⟨a1, a2, a3⟩ := nx_st g h1 (c := c + mn x (Lj S v j - c)) (by omega) (by omega)
      exact ih _ _ _ _ _ a1 a2 a3
    · rw [if_neg hx]; exact ⟨h1, h2, h3⟩
def RelS (S : List Int) (v sec left : Int) (j : Nat) (c : Int) : Prop := (c = 0 ∧ left = 0 ∧ -1 ≤ sec ∧ sec < (S.length : Int) ∧ Int.tmod (sec + 1) (S.length : Int) = (j : Int)) ∨ (0 < c ∧ left = Lj S v j - c ∧ sec = (j : Int))
theorem RelS_nx {S : List Int} {v : Int} {j : Nat} {c : Int} (h : j < S.length) (c0 : 0 < c) (c9 : c ≤ Lj S v j) : RelS S v (j : Int) (Lj S v j - c) (nx S v j c).1 (nx S v j c).2 := by
  unfold nx RelS
  by_cases hc : c = Lj S v j
  · rw [if_pos hc]
    left
    refine ⟨rfl, by omega, by omega, by omega, ?_⟩
    rw [Int.tmod_eq_emod_of_nonneg (by omega)]
    show ((j : Int) + 1) % (S.length : Int) = (((j + 1) % S.length : Nat) : Int)
    rw [Int.natCast_emod]; rfl
  · rw [if_neg hc]
    right
    exact ⟨c0, rfl, rfl⟩
theorem split_l1 {S : List Int} {v : Int} (g : TG S v) (s : ByteArray) (M : List Int) (m : List S44) (len q : Int) : ∀ (f : Nat) (x : Int) (lt : Bool) (j : Nat) (c sec left : Int) (K : Nat) (acc : List S65) (i : Int), 0 ≤ x → x ≤ f → x ≤ 64 → RelS S v sec left j c → j < S.length → 0 ≤ c → c < Lj S v j → acc.length + f ≤ 1000000 → f + 1 ≤ K →
    ∃ (K' : Nat) (sec' left' : Int), K ≤ K' + f + 1 ∧ RelS S v sec' left' (cutN S v f i lt x j c).2.1 (cutN S v f i lt x j c).2.2 ∧ impl_split.l1 K v acc sec left i lt x m len q s S M = impl_split.l0 K' v (acc ++ (cutN S v f i lt x j c).1) sec' left' m len (wrap64 (q + 1)) s S M := by
  have n8 := g.n8
  have n1 := g.n1
  intro f
  induction f with
  | zero =>
    intro x lt j c sec left K acc i x0 x1 x2 hR h1 h2 h3 ha hK
    obtain ⟨K, rfl⟩ : ∃ z, K = z + 1 := ⟨K - 1, by omega⟩
    refine ⟨K, sec, left, by omega, hR, ?_⟩
    simp only [impl_split.l1]
    rw [if_neg (by omega)]
    show _ = impl_split.l0 K v (acc ++ []) sec left m len (wrap64 (q + 1)) s S M
    rw [List.append_nil]
  | succ f ih =>
    intro x lt j c sec left K acc i x0 x1 x2 hR h1 h2 h3 ha hK
    obtain ⟨K, rfl⟩ : ∃ z, K = z + 1 := ⟨K - 1, by omega⟩
    by_cases hx : x > 0
    rotate_left
    · refine ⟨K, sec, left, by omega, ?_, ?_⟩
      · unfold cutN; rw [if_neg hx]; exact hR
      · simp only [impl_split.l1]
        unfold cutN
        rw [if_neg hx, if_neg hx]
        show _ = impl_split.l0 K v (acc ++ []) sec left m len (wrap64 (q + 1)) s S M
        rw [List.append_nil]
    have hL := Lj_bound g h1
    obtain ⟨m1, m2, m3⟩ := @mn_le x (Lj S v j - c)
    obtain ⟨a1, a2, a3⟩ := nx_st g h1 (c := c + mn x (Lj S v j - c)) (by omega) (by omega)
    have hR2 := RelS_nx (v := v) h1 (c := c + mn x (Lj S v j - c)) (by omega) (by omega)
    have hcut : cutN S v (f + 1) i lt x j c = ((⟨i, mn x (Lj S v j - c), if c = 0 then (j : Int) else -1, lt⟩ : S65) :: (cutN S v f i true (x - mn x (Lj S v j - c)) (nx S v j (c + mn x (Lj S v j - c))).1 (nx S v j (c + mn x (Lj S v j - c))).2).1, (cutN S v f i true (x - mn x (Lj S v j - c)) (nx S v j (c + mn x (Lj S v j - c))).1 (nx S v j (c + mn x (Lj S v j - c))).2).2) := by
      conv => lhs; unfold cutN
      rw [if_pos hx]
    obtain ⟨K', sec', left', k1, k2, k3⟩ := ih (x - mn x (Lj S v j - c)) true _ _ (j : Int) (Lj S v j - (c + mn x (Lj S v j - c))) K (acc ++ [(⟨i, mn x (Lj S v j - c), if c = 0 then (j : Int) else -1, lt⟩ : S65)]) i (by omega) (by omega) (by omega) hR2 a1 a2 a3 (by rw [List.length_append]; simp; omega) (by omega)
    rw [hcut]
    refine ⟨K', sec', left', by omega, k2, ?_⟩
    rw [List.append_assoc, List.singleton_append] at k3
    rw [← k3]
    simp only [impl_split.l1]
    rw [if_pos hx]
    rcases hR with ⟨r1, r2, r3, r4, r5⟩ | ⟨r1, r2, r3⟩
    · have hw : wrap64 (sec + 1) = sec + 1 := wrap_id (by omega) (by omega)
      have hl : wrap64 (rd S (j : Int) * v) = Lj S v j := by show wrap64 (Lj S v j) = _; exact wrap_id (by omega) (by omega)
      subst r1
      rw [if_pos r2, if_neg (by omega), hw, r5, if_pos (nn_cast j), if_pos (lt_cast h1), if_pos (by omega), hl, if_pos rfl]
      rw [Int.sub_zero] at m1 m2 m3 ⊢
      rw [wrap_id (x := Lj S v j - mn x (Lj S v j)) (by omega) (by omega), wrap_id (x := x - mn x (Lj S v j)) (by omega) (by omega), Int.zero_add]
    · have hc0 : ¬ c = 0 := by omega
      rw [if_neg (by omega), if_pos (by omega), r2, r3, if_neg hc0, wrap_id (x := Lj S v j - c - mn x (Lj S v j - c)) (by omega) (by omega), wrap_id (x := x - mn x (Lj S v j - c)) (by omega) (by omega), show Lj S v j - c - mn x (Lj S v j - c) = Lj S v j - (c + mn x (Lj S v j - c)) by omega]
theorem split_l0 {S : List Int} {v : Int} (g : TG S v) (s : ByteArray) (M : List Int) {m : List S44} (hm : m.length ≤ 48) (hn : ∀ y ∈ m, 1 ≤ y.f1 ∧ y.f1 ≤ 64) : ∀ (d K i : Nat) (acc : List S65) (j : Nat) (c sec left : Int), i + d = m.length → RelS S v sec left j c → j < S.length → 0 ≤ c → c < Lj S v j → acc.length ≤ 64 * i → 66 * d + 1 ≤ K → impl_split.l0 K v acc sec left m (m.length : Int) (i : Int) s S M = some (acc ++ segs S v (m.drop i) (i : Int) j c) := by
  intro d
  induction d with
  | zero =>
    intro K i acc j c sec left hi hR h1 h2 h3 ha hK
    obtain ⟨K, rfl⟩ : ∃ z, K = z + 1 := ⟨K - 1, by omega⟩
    simp only [impl_split.l0]
    rw [if_neg (by omega), List.drop_eq_nil_of_le (by omega)]
    show some acc = some (acc ++ [])
    rw [List.append_nil]
  | succ d ih =>
    intro K i acc j c sec left hi hR h1 h2 h3 ha hK
    obtain ⟨K, rfl⟩ : ∃ z, K = z + 1 := ⟨K - 1, by omega⟩
    have hlt : i < m.length := by omega
    have hx := hn m[i] (List.getElem_mem hlt)
    simp only [impl_split.l0]
    rw [if_pos (lt_cast hlt), if_pos (nn_cast i), if_pos (lt_cast hlt), rdN_get hlt]
    obtain ⟨K', sec', left', k1, k2, k3⟩ := split_l1 g s M m (m.length : Int) (i : Int) 64 m[i].f1 false j c sec left K acc (i : Int) (by omega) (by omega) (by omega) hR h1 h2 h3 (by omega) (by omega)
    obtain ⟨a1, a2, a3⟩ := cutN_st g 64 (i : Int) false m[i].f1 j c h1 h2 h3
    have hl := cutN_length S v 64 (i : Int) false m[i].f1 j c
    rw [k3, wrap_succ hlt (by omega), ih K' (i + 1) _ _ _ sec' left' (by omega) k2 a1 a2 a3 (by rw [List.length_append]; omega) (by omega), List.drop_eq_getElem_cons hlt, List.append_assoc]
    rfl
theorem split_eq {S : List Int} {v : Int} (g : TG S v) (s : ByteArray) (M : List Int) {m : List S44} (hm : melB m = true) {K : Nat} (hK : 4000 ≤ K) : impl_split.f K m s S M v = some (segs S v m 0 0 0) := by
  have hl := (melB_ok hm).1
  have hL := Lj_bound g (j := 0) (by have := g.n1; omega)
  have hn : ∀ y ∈ m, 1 ≤ y.f1 ∧ y.f1 ≤ 64 := fun y hy => by
    unfold melB at hm
    rw [Bool.and_eq_true] at hm
    have := List.all_eq_true.1 hm.1 y hy
    unfold noteB at this
    rw [Bool.and_eq_true, Bool.and_eq_true, Bool.and_eq_true, decide_eq_true_iff, decide_eq_true_iff, decide_eq_true_iff, decide_eq_true_iff] at this
    exact this.2
  have := split_l0 g s M hl hn m.length K 0 [] 0 0 (-1) 0 (by omega) (Or.inl ⟨rfl, rfl, by omega, by have := g.n1; omega, by rw [show (-1 : Int) + 1 = 0 by omega]; exact Int.zero_tmod _⟩) (by have := g.n1; omega) (by omega) (by omega) (by simp) (by omega)
  rw [List.drop_zero, List.nil_append] at this
  exact this
def pr (p : S65) : List Int := [p.f0, p.f1]
theorem min_eq (a b : Int) : spec_l00Min.f a b = some (mn a b) := by
  unfold spec_l00Min.f mn
  by_cases h : a < b
  · rw [if_pos h, if_neg (by omega)]
  · rw [if_neg h]
    by_cases h2 : b < a
    · rw [if_pos h2]
    · rw [if_neg h2, show b = a by omega]
theorem Split_l1 {S : List Int} {v : Int} (g : TG S v) (s : ByteArray) (M : List Int) (m : List S44) : ∀ (f : Nat) (x : Int) (lt : Bool) (j : Nat) (c T : Int) (K : Nat) (acc : List (List Int)) (i : Int), 0 ≤ x → x ≤ f → x ≤ 64 → Pos S v T j c → T + x ≤ 1000000 → acc.length + f ≤ 1000000 → f + 3000 ≤ K →
    ∃ K' : Nat, K ≤ K' + f + 1 ∧ Pos S v (T + x) (cutN S v f i lt x j c).2.1 (cutN S v f i lt x j c).2.2 ∧ spec_l25Split_e.l1 K m v acc T i x [(⟨s, S, M⟩ : S32)] 0 = spec_l25Split_e.l0 K' m v (acc ++ (cutN S v f i lt x j c).1.map pr) (T + x) (wrap64 (i + 1)) [(⟨s, S, M⟩ : S32)] 0 := by
  intro f
  induction f with
  | zero =>
    intro x lt j c T K acc i x0 x1 x2 hP ht ha hK
    obtain ⟨K, rfl⟩ : ∃ z, K = z + 1 := ⟨K - 1, by omega⟩
    obtain rfl : x = 0 := by omega
    refine ⟨K, by omega, by rw [Int.add_zero]; exact hP, ?_⟩
    simp only [spec_l25Split_e.l1]
    rw [if_neg (by omega), Int.add_zero]
    show _ = spec_l25Split_e.l0 K m v (acc ++ []) T (wrap64 (i + 1)) _ 0
    rw [List.append_nil]
  | succ f ih =>
    intro x lt j c T K acc i x0 x1 x2 hP ht ha hK
    obtain ⟨K, rfl⟩ : ∃ z, K = z + 1 := ⟨K - 1, by omega⟩
    by_cases hx : x > 0
    rotate_left
    · obtain rfl : x = 0 := by omega
      refine ⟨K, by omega, ?_, ?_⟩
      · unfold cutN; rw [if_neg hx, Int.add_zero]; exact hP
      · simp only [spec_l25Split_e.l1]
        unfold cutN
        rw [if_neg hx, if_neg hx, Int.add_zero]
        show _ = spec_l25Split_e.l0 K m v (acc ++ []) T (wrap64 (i + 1)) _ 0
        rw [List.append_nil]
    have hL := Lj_bound g hP.jl
    have h2 := hP.c0
    have h3 := hP.c9
    have t0 := hP.t0
    obtain ⟨m1, m2, m3⟩ := @mn_le x (Lj S v j - c)
    have hP2 := Pos_nx g hP (n := mn x (Lj S v j - c)) (by omega) (by omega) (by omega)
    have hcut : cutN S v (f + 1) i lt x j c = ((⟨i, mn x (Lj S v j - c), if c = 0 then (j : Int) else -1, lt⟩ : S65) :: (cutN S v f i true (x - mn x (Lj S v j - c)) (nx S v j (c + mn x (Lj S v j - c))).1 (nx S v j (c + mn x (Lj S v j - c))).2).1, (cutN S v f i true (x - mn x (Lj S v j - c)) (nx S v j (c + mn x (Lj S v j - c))).1 (nx S v j (c + mn x (Lj S v j - c))).2).2) := by
      conv => lhs; unfold cutN
      rw [if_pos hx]
    obtain ⟨K', k1, k2, k3⟩ := ih (x - mn x (Lj S v j - c)) true _ _ (T + mn x (Lj S v j - c)) K (acc ++ [[i, mn x (Lj S v j - c)]]) i (by omega) (by omega) (by omega) hP2 (by omega) (by rw [List.length_append]; simp; omega) (by omega)
    rw [hcut]
    rw [show T + mn x (Lj S v j - c) + (x - mn x (Lj S v j - c)) = T + x by omega] at k2 k3
    refine ⟨K', by omega, k2, ?_⟩
    rw [List.append_assoc, List.singleton_append] at k3
    rw [List.map_cons]
    show _ = spec_l25Split_e.l0 K' m v (acc ++ [i, mn x (Lj S v j - c)] :: _) (T + x) (wrap64 (i + 1)) _ 0
    rw [← k3]
    simp only [spec_l25Split_e.l1]
    rw [if_pos hx, Left_eq s M g hP (by omega)]
    simp only [Option.bind_some]
    rw [min_eq]
    simp only [Option.bind_some]
    rw [if_pos (by omega), wrap_id (x := T + mn x (Lj S v j - c)) (by omega) (by omega), wrap_id (x := x - mn x (Lj S v j - c)) (by omega) (by omega)]
theorem Split_l0' {S : List Int} {v : Int} (g : TG S v) (s : ByteArray) (M : List Int) {m : List S44} (hm : m.length ≤ 48) (hn : ∀ y ∈ m, 1 ≤ y.f1 ∧ y.f1 ≤ 64) : ∀ (d K i : Nat) (acc : List (List Int)) (j : Nat) (c T : Int), i + d = m.length → Pos S v T j c → T ≤ 64 * i → acc.length ≤ 64 * i → 66 * d + 4000 ≤ K → spec_l25Split_e.l0 K m v acc T (i : Int) [(⟨s, S, M⟩ : S32)] 0 = some (acc ++ (segs S v (m.drop i) (i : Int) j c).map pr) := by
  intro d
  induction d with
  | zero =>
    intro K i acc j c T hi hP ht ha hK
    obtain ⟨K, rfl⟩ : ∃ z, K = z + 1 := ⟨K - 1, by omega⟩
    simp only [spec_l25Split_e.l0]
    rw [if_neg (by omega), List.drop_eq_nil_of_le (by omega)]
    show some acc = some (acc ++ [])
    rw [List.append_nil]
  | succ d ih =>
    intro K i acc j c T hi hP ht ha hK
    obtain ⟨K, rfl⟩ : ∃ z, K = z + 1 := ⟨K - 1, by omega⟩
    have hlt : i < m.length := by omega
    have hx := hn m[i] (List.getElem_mem hlt)
    have hl := cutN_length S v 64 (i : Int) false m[i].f1 j c
    simp only [spec_l25Split_e.l0]
    rw [if_pos (lt_cast hlt), if_pos (nn_cast i), rdN_get hlt]
    obtain ⟨K', k1, k2, k3⟩ := Split_l1 g s M m 64 m[i].f1 false j c T K acc (i : Int) (by omega) (by omega) (by omega) hP (by omega) (by omega) (by omega)
    rw [k3, wrap_succ hlt (by omega), ih K' (i + 1) _ _ _ _ (by omega) k2 (by omega) (by rw [List.length_append, List.length_map]; omega) (by omega), List.drop_eq_getElem_cons hlt, List.append_assoc, ← List.map_append]
    rfl
theorem Pos_zero {S : List Int} {v : Int} (g : TG S v) : Pos S v 0 0 0 := by
  have n1 := g.n1
  have hL := Lj_bound g (j := 0) (by omega)
  refine ⟨by omega, by omega, by omega, by omega, by omega, ?_⟩
  have : ps S 0 = 0 := by cases S <;> rfl
  rw [this, Int.zero_emod]; omega
theorem mel_len {m : List S44} (hm : melB m = true) : ∀ y ∈ m, 1 ≤ y.f1 ∧ y.f1 ≤ 64 := fun y hy => by
  unfold melB at hm
  rw [Bool.and_eq_true] at hm
  have := List.all_eq_true.1 hm.1 y hy
  unfold noteB at this
  rw [Bool.and_eq_true, Bool.and_eq_true, Bool.and_eq_true, decide_eq_true_iff, decide_eq_true_iff, decide_eq_true_iff, decide_eq_true_iff] at this
  exact this.2
theorem Split_spec {S : List Int} {v : Int} (g : TG S v) (s : ByteArray) (M : List Int) {m : List S44} (hm : melB m = true) {K : Nat} (hK : 8000 ≤ K) : spec_l25Split_e.f K m [(⟨s, S, M⟩ : S32)] 0 v = some ((segs S v m 0 0 0).map pr) := by
  have hl := (melB_ok hm).1
  have := Split_l0' g s M hl (mel_len hm) m.length K 0 [] 0 0 0 (by omega) (Pos_zero g) (by omega) (by simp) (by omega)
  rw [List.drop_zero, List.nil_append] at this
  exact this
theorem code_ok {m : List S44} {s : ByteArray} {S M : List Int} {v : Int} (h : codeB m s S M v = 0) : melB m = true ∧ TG S v := by
  unfold codeB at h
  cases hm : melB m
  · rw [hm, Bool.false_and, if_neg (by decide)] at h; exact absurd h (by decide)
  cases ht : talaB s S M
  · rw [hm, ht, Bool.and_false, if_neg (by decide)] at h; exact absurd h (by decide)
  cases hv : wB 1 8 v
  · rw [hm, ht, hv] at h; exact absurd h (by decide)
  exact ⟨rfl, TG_of ht hv⟩
end Go.Proofs.YtmoamoopoifnlaaDoor.P

namespace Go.Proofs.YtmoamoopoifnlaaDoor.P
open Go.RowKit Go.Proofs.YtmoamoopoifnlaaDoorW.PrintWords Go.Proofs.YtmoamoopoifnlaaDoorL
def baL (l : List UInt8) : ByteArray := ⟨l.toArray⟩
theorem baL_data (l : List UInt8) : (baL l).data.toList = l := by unfold baL; simp
theorem data_baL (s : ByteArray) : baL s.data.toList = s := Lib.mk_data s
theorem baL_size (l : List UInt8) : (baL l).size = l.length := by unfold baL; show l.toArray.size = _; simp
theorem dec_list (n : Int) : (impl_Decimal.t n).data.toList = Lib.itoa n := by unfold impl_Decimal.t; simp
def p1 (p : Int) : List UInt8 := ([83, 114, 82, 103, 71, 109, 77, 80, 100, 68, 110, 78] : List UInt8).getD (p % 12).toNat 0 :: (if p / 12 < 0 then [44] else if p / 12 > 0 then [39] else [])
theorem name_tab : ∀ j : Fin 12, (nameT (j.val : Int)).data.toList = [([83, 114, 82, 103, 71, 109, 77, 80, 100, 68, 110, 78] : List UInt8).getD j.val 0] := by decide +kernel
theorem tab_at {α : Type} {g : Int → α} {h : Nat → α} (e : ∀ j : Fin 12, g (j.val : Int) = h j.val) (q : Int) : g (q % 12) = h (q % 12).toNat := by
  have := e ⟨(q % 12).toNat, by omega⟩
  simp only at this
  rw [show (((q % 12).toNat : Nat) : Int) = q % 12 by omega] at this
  exact this
def noteW (x : S44) : List UInt8 := p1 x.f0 ++ (if x.f1 = 1 then [] else Lib.itoa x.f1)
theorem key10 : keyB 1 0 = true := by decide
theorem pt1_data (p : Int) : (pt 1 0 p).data.toList = p1 p := by
  have hn := tab_at (g := fun t => (nameT t).data.toList) (h := fun j => [([83, 114, 82, 103, 71, 109, 77, 80, 100, 68, 110, 78] : List UInt8).getD j 0]) name_tab p
  (try simp only at hn)
  unfold pt p1
  split
  · rw [ba_app, hn]; rfl
  · split
    · rw [ba_app, hn]; rfl
    · exact hn
theorem pitchText_eq {p : Int} (h0 : -12 ≤ p) (h1 : p ≤ 23) : impl_pitchText.f p = some (pt 1 0 p) := by
  have n1 := nameT_size (t := p % 12) (by omega) (by omega)
  unfold impl_pitchText.f pt
  rw [ToneOf_eq (by omega) (by omega)]
  simp only [Option.bind_some]
  rw [ToneName_eq (by omega) (by omega)]
  simp only [Option.bind_some]
  rw [octaveOf_eq (by omega) (by omega)]
  simp only [Option.bind_some]
  rw [if_pos (by omega)]
  by_cases o1 : p / 12 = -1
  · rw [if_pos o1, if_pos (by omega)]
  rw [if_neg o1]
  by_cases o2 : p / 12 = 0
  · rw [if_pos o2, if_neg (by omega), if_neg (by omega), ba_nil]
  · rw [if_neg o2, if_pos (by omega), if_neg (by omega), if_pos (by omega)]
theorem noteB_iff {x : S44} : noteB x = true ↔ (-12 ≤ x.f0 ∧ x.f0 ≤ 23) ∧ 1 ≤ x.f1 ∧ x.f1 ≤ 64 := by
  unfold noteB
  rw [Bool.and_eq_true, Bool.and_eq_true, Bool.and_eq_true, decide_eq_true_iff, decide_eq_true_iff, decide_eq_true_iff, decide_eq_true_iff]
end Go.Proofs.YtmoamoopoifnlaaDoor.P

namespace Go.Proofs.YtmoamoopoifnlaaDoor.P
open Go.RowKit Go.Proofs.YtmoamoopoifnlaaDoorW.PrintWords Go.Proofs.YtmoamoopoifnlaaDoorL
def ntP (m : List S44) (p : S65) : ByteArray := baL (noteW ⟨(rd_T44 m p.f0).f0, p.f1⟩)
def wdP (m : List S44) (p : S65) : ByteArray := if p.f3 = true then (⟨#[126]⟩ : ByteArray) ++ ntP m p else ntP m p
def barP (b : Bool) (p : S65) : List ByteArray := if b = true then [] else if p.f2 < 0 then [] else if p.f2 = 0 then [(⟨#[124, 124]⟩ : ByteArray)] else [(⟨#[124]⟩ : ByteArray)]
def wds (m : List S44) : Bool → List S65 → List ByteArray
  | _, [] => []
  | b, p :: r => barP b p ++ wdP m p :: wds m false r
def okP (m : List S44) (p : S65) : Prop := (0 ≤ p.f0 ∧ p.f0 < (m.length : Int)) ∧ 1 ≤ p.f1 ∧ p.f1 ≤ 64
theorem noteText_eq {p n : Int} (h : noteB ⟨p, n⟩ = true) : impl_noteText.f p n = some (baL (noteW ⟨p, n⟩)) := by
  obtain ⟨⟨a1, a2⟩, b1, b2⟩ := noteB_iff.1 h
  dsimp only at a1 a2 b1 b2
  have hsz := pt_size key10 a1 a2
  have hd := Decimal_size (n := n) (by omega) (by omega)
  unfold impl_noteText.f
  rw [pitchText_eq a1 a2]
  simp only [Option.bind_some]
  by_cases h1 : n = 1
  · rw [if_pos h1]
    congr 1
    refine ba_mk ?_
    rw [pt1_data, baL_data]
    unfold noteW
    rw [if_pos h1, List.append_nil]
  · rw [if_neg h1, Decimal_eq (by omega) (by omega)]
    simp only [Option.bind_some]
    rw [if_pos (by omega)]
    congr 1
    refine ba_mk ?_
    rw [ba_app, pt1_data, dec_list, baL_data]
    unfold noteW
    rw [if_neg h1]
theorem noteW_size {p n : Int} (h : noteB ⟨p, n⟩ = true) : (baL (noteW ⟨p, n⟩)).size ≤ 51 := by
  obtain ⟨⟨a1, a2⟩, b1, b2⟩ := noteB_iff.1 h
  dsimp only at a1 a2 b1 b2
  have hsz := pt_size key10 a1 a2
  have hd := Decimal_size (n := n) (by omega) (by omega)
  rw [Lib.size_eq, pt1_data] at hsz
  rw [Lib.size_eq, dec_list] at hd
  rw [baL_size]
  unfold noteW
  rw [List.length_append]
  split
  · simp; omega
  · dsimp only; omega
theorem rd_in {m : List S44} {i : Int} (h0 : 0 ≤ i) (h1 : i < (m.length : Int)) : rd_T44 m i ∈ m := by
  obtain ⟨n, rfl⟩ : ∃ n : Nat, i = (n : Int) := ⟨i.toNat, by omega⟩
  rw [rdN_get (by omega)]; exact List.getElem_mem _
theorem piece_note {m : List S44} (hm : melB m = true) {p : S65} (h : okP m p) : noteB ⟨(rd_T44 m p.f0).f0, p.f1⟩ = true := by
  obtain ⟨⟨h0, h1⟩, h2, h3⟩ := h
  unfold melB at hm
  rw [Bool.and_eq_true] at hm
  have := List.all_eq_true.1 hm.1 _ (rd_in h0 h1)
  exact noteB_iff.2 ⟨(noteB_iff.1 this).1, h2, h3⟩
theorem ntP_size {m : List S44} (hm : melB m = true) {p : S65} (h : okP m p) : (ntP m p).size ≤ 51 := noteW_size (piece_note hm h)
theorem wdP_size {m : List S44} (hm : melB m = true) {p : S65} (h : okP m p) : (wdP m p).size ≤ 52 := by
  have := ntP_size hm h
  have e : (⟨#[126]⟩ : ByteArray).size = 1 := rfl
  unfold wdP
  split
  · rw [ByteArray.size_append]; omega
  · omega
theorem Join_eq2 {l : List ByteArray} (hl : l.length ≤ 100000) (h : ∀ x ∈ l, x.size ≤ 99) : strings_Join.f l (⟨#[32]⟩ : ByteArray) = some (joinT l) := by
  have hz := joinT_size h
  unfold strings_Join.f
  rw [join_T, if_pos ⟨by omega, by omega⟩]
theorem rdP_get {l : List S65} {i : Nat} (h : i < l.length) : rd_T65 l (i : Int) = l[i] := by
  simp [rd_T65, List.getD_eq_getElem?_getD, List.getElem?_eq_getElem h]
theorem barP_size {b : Bool} {p : S65} : ∀ x ∈ barP b p, x.size ≤ 99 := by
  unfold barP
  intro x hx
  split at hx
  · cases hx
  · split at hx
    · cases hx
    · split at hx
      · rw [List.mem_singleton] at hx; rw [hx]; decide
      · rw [List.mem_singleton] at hx; rw [hx]; decide
theorem notate_l0 {m : List S44} (hm : melB m = true) (q : List S65) {l : List S65} (hl : l.length ≤ 10000) (ho : ∀ p ∈ l, okP m p) : ∀ (d K i : Nat) (acc : List ByteArray), i + d = l.length → acc.length ≤ 2 * i → (∀ x ∈ acc, x.size ≤ 99) → 2 * d + 1 ≤ K → impl_notate.l0 K m q acc l (l.length : Int) (i : Int) = some (joinT (acc ++ wds m (decide (i = 0)) (l.drop i)), decide ((q.length : Int) ≤ 128)) := by
  intro d
  induction d with
  | zero =>
    intro K i acc hi ha hs hK
    obtain ⟨K, rfl⟩ : ∃ z, K = z + 1 := ⟨K - 1, by omega⟩
    simp only [impl_notate.l0]
    rw [if_neg (by omega), List.drop_eq_nil_of_le (by omega), Join_eq2 (by omega) hs]
    simp only [Option.bind_some]
    show _ = some (joinT (acc ++ []), _)
    rw [List.append_nil]
  | succ d ih =>
    intro K i acc hi ha hs hK
    obtain ⟨K, rfl⟩ : ∃ z, K = z + 2 := ⟨K - 2, by omega⟩
    have hlt : i < l.length := by omega
    have hp := ho l[i] (List.getElem_mem hlt)
    have hw := wdP_size hm hp
    have hnt := ntP_size hm hp
    have htx : impl_noteText.f (rd_T44 m l[i].f0).f0 l[i].f1 = some (ntP m l[i]) := noteText_eq (piece_note hm hp)
    have e126 : (⟨#[126]⟩ : ByteArray).size = 1 := rfl
    -- the round's end
    have fin : ∀ (B : List ByteArray), (∀ x ∈ B, x.size ≤ 99) → B.length ≤ 1 → B = barP (decide (i = 0)) l[i] → impl_notate.l0 K m q ((acc ++ B) ++ [wdP m l[i]]) l (l.length : Int) (wrap64 ((i : Int) + 1)) = some (joinT (acc ++ wds m (decide (i = 0)) (l.drop i)), decide ((q.length : Int) ≤ 128)) := fun B h1 h2 h3 => by
      rw [wrap_succ hlt (by omega), ih K (i + 1) _ (by omega) (by rw [List.length_append, List.length_append]; simp; omega) (fun x hx => by
        rcases List.mem_append.1 hx with hx | hx
        · rcases List.mem_append.1 hx with hx | hx
          · exact hs x hx
          · exact h1 x hx
        · rw [List.mem_singleton] at hx; rw [hx]; omega) (by omega), List.drop_eq_getElem_cons hlt]
      congr 3
      rw [decide_eq_false (by omega : ¬ i + 1 = 0), List.append_assoc, List.append_assoc, h3]
      rfl
    have hj : impl_notate.j1 (K + 1) m q acc l (l.length : Int) (i : Int) (decide (i = 0) || decide (l[i].f2 < 0)) l[i].f0 l[i].f1 l[i].f2 l[i].f3 = some (joinT (acc ++ wds m (decide (i = 0)) (l.drop i)), decide ((q.length : Int) ≤ 128)) := by
      simp only [impl_notate.j1]
      by_cases hc : (decide (i = 0) || decide (l[i].f2 < 0)) = true
      · have hB : barP (decide (i = 0)) l[i] = [] := by
          unfold barP
          by_cases h0 : i = 0
          · rw [if_pos (decide_eq_true h0)]
          · rw [decide_eq_false h0, Bool.false_or, decide_eq_true_iff] at hc
            rw [if_neg (by rw [decide_eq_false h0]; decide), if_pos hc]
        have f := fin [] (by simp) (by simp) hB.symm
        rw [List.append_nil] at f
        rw [if_pos hc, if_pos hp.1.1, if_pos hp.1.2, htx]
        simp only [Option.bind_some]
        rw [← f]
        unfold wdP
        by_cases h3 : l[i].f3 = true
        · rw [if_pos h3, if_pos h3, if_pos (by omega), if_pos (by omega)]
        · rw [if_neg h3, if_neg h3, if_pos (by omega)]
      · rw [if_neg hc]
        rw [Bool.or_eq_true, decide_eq_true_iff, decide_eq_true_iff] at hc
        have h0 : ¬ i = 0 := fun e => hc (Or.inl e)
        have h2 : ¬ l[i].f2 < 0 := fun e => hc (Or.inr e)
        by_cases hz : l[i].f2 = 0
        · have hB : barP (decide (i = 0)) l[i] = [(⟨#[124, 124]⟩ : ByteArray)] := by
            unfold barP
            rw [if_neg (by rw [decide_eq_false h0]; decide), if_neg h2, if_pos hz]
          have f := fin [(⟨#[124, 124]⟩ : ByteArray)] (by rw [← hB]; exact barP_size) (by simp) hB.symm
          rw [if_pos hz, if_pos (by omega)]
          simp only [Option.bind_some]
          rw [if_pos hp.1.1, if_pos hp.1.2, htx]
          simp only [Option.bind_some]
          have hal : (acc ++ [(⟨#[124, 124]⟩ : ByteArray)]).length < 8796093022208 := by rw [List.length_append]; simp; omega
          rw [← f]
          unfold wdP
          by_cases h3 : l[i].f3 = true
          · rw [if_pos h3, if_pos h3, if_pos (by omega), if_pos hal]
          · rw [if_neg h3, if_neg h3, if_pos hal]
        · have hB : barP (decide (i = 0)) l[i] = [(⟨#[124]⟩ : ByteArray)] := by
            unfold barP
            rw [if_neg (by rw [decide_eq_false h0]; decide), if_neg h2, if_neg hz]
          have f := fin [(⟨#[124]⟩ : ByteArray)] (by rw [← hB]; exact barP_size) (by simp) hB.symm
          rw [if_neg hz, if_pos (by omega)]
          simp only [Option.bind_some]
          rw [if_pos hp.1.1, if_pos hp.1.2, htx]
          simp only [Option.bind_some]
          have hal : (acc ++ [(⟨#[124]⟩ : ByteArray)]).length < 8796093022208 := by rw [List.length_append]; simp; omega
          rw [← f]
          unfold wdP
          by_cases h3 : l[i].f3 = true
          · rw [if_pos h3, if_pos h3, if_pos (by omega), if_pos hal]
          · rw [if_neg h3, if_neg h3, if_pos hal]
    simp only [impl_notate.l0]
    rw [if_pos (lt_cast hlt), if_pos (nn_cast i), if_pos (lt_cast hlt), rdP_get hlt, ← hj]
    by_cases h0 : i = 0
    · rw [if_pos (by omega), decide_eq_true h0, Bool.true_or]
    · rw [if_neg (by omega), decide_eq_false h0, Bool.false_or]
/-- What the pieces of a melody know of time, of sections and of the notes before them. -/
def GoodL (S : List Int) (v : Int) (n : Nat) : Int → Int → List S65 → Prop
  | _, _, [] => True
  | T, prev, p :: r => (∃ j c, Pos S v T j c ∧ p.f2 = (if c = 0 then (j : Int) else -1)) ∧ p.f3 = decide (prev = p.f0) ∧ ((0 ≤ p.f0 ∧ p.f0 < (n : Int)) ∧ 1 ≤ p.f1 ∧ p.f1 ≤ 64) ∧ GoodL S v n (T + p.f1) p.f0 r
theorem cut_pos {S : List Int} {v : Int} (g : TG S v) : ∀ (f : Nat) (x : Int) (lt : Bool) (j : Nat) (c T : Int) (i : Int), 0 ≤ x → x ≤ f → Pos S v T j c → T + x ≤ 1000000 → Pos S v (T + x) (cutN S v f i lt x j c).2.1 (cutN S v f i lt x j c).2.2 := by
  intro f
  induction f with
  | zero =>
    intro x lt j c T i x0 x1 hP ht
    obtain rfl : x = 0 := by omega
    rw [Int.add_zero]; exact hP
  | succ f ih =>
    intro x lt j c T i x0 x1 hP ht
    unfold cutN
    by_cases hx : x > 0
    · rw [if_pos hx]
      have hL := Lj_bound g hP.jl
      have h2 := hP.c0
      have h3 := hP.c9
      obtain ⟨m1, m2, m3⟩ := @mn_le x (Lj S v j - c)
      have := ih (x - mn x (Lj S v j - c)) true _ _ (T + mn x (Lj S v j - c)) i (by omega) (by omega) (Pos_nx g hP (n := mn x (Lj S v j - c)) (by omega) (by omega) (by omega)) (by omega)
      rw [show T + mn x (Lj S v j - c) + (x - mn x (Lj S v j - c)) = T + x by omega] at this
      exact this
    · obtain rfl : x = 0 := by omega
      rw [if_neg hx, Int.add_zero]; exact hP
theorem good_cut {S : List Int} {v : Int} (g : TG S v) (n : Nat) (i : Int) (i0 : 0 ≤ i) (i1 : i < (n : Int)) (tail : List S65) : ∀ (f : Nat) (x : Int) (lt : Bool) (j : Nat) (c T prev : Int), 0 ≤ x → x ≤ f → x ≤ 64 → Pos S v T j c → T + x ≤ 1000000 → lt = decide (prev = i) → GoodL S v n (T + x) (if x > 0 then i else prev) tail → GoodL S v n T prev ((cutN S v f i lt x j c).1 ++ tail) := by
  intro f
  induction f with
  | zero =>
    intro x lt j c T prev x0 x1 x2 hP ht hl hg
    obtain rfl : x = 0 := by omega
    rw [Int.add_zero, if_neg (by omega)] at hg
    exact hg
  | succ f ih =>
    intro x lt j c T prev x0 x1 x2 hP ht hl hg
    unfold cutN
    by_cases hx : x > 0
    · rw [if_pos hx] at hg ⊢
      have hL := Lj_bound g hP.jl
      have h2 := hP.c0
      have h3 := hP.c9
      obtain ⟨m1, m2, m3⟩ := @mn_le x (Lj S v j - c)
      refine ⟨⟨j, c, hP, rfl⟩, hl, ⟨⟨i0, i1⟩, by show 1 ≤ mn x (Lj S v j - c); omega, by show mn x (Lj S v j - c) ≤ 64; omega⟩, ?_⟩
      refine ih (x - mn x (Lj S v j - c)) true _ _ (T + mn x (Lj S v j - c)) i (by omega) (by omega) (by omega) (Pos_nx g hP (n := mn x (Lj S v j - c)) (by omega) (by omega) (by omega)) (by omega) (by simp) ?_
      rw [show T + mn x (Lj S v j - c) + (x - mn x (Lj S v j - c)) = T + x by omega, ite_self]
      exact hg
    · obtain rfl : x = 0 := by omega
      rw [if_neg hx, Int.add_zero] at hg
      rw [if_neg hx]
      exact hg
theorem good_segs {S : List Int} {v : Int} (g : TG S v) (n : Nat) : ∀ (m : List S44) (i : Int) (j : Nat) (c T prev : Int), Pos S v T j c → T + 64 * m.length ≤ 1000000 → prev < i → 0 ≤ i → i + m.length ≤ (n : Int) → (∀ y ∈ m, 1 ≤ y.f1 ∧ y.f1 ≤ 64) → GoodL S v n T prev (segs S v m i j c)
  | [], _, _, _, _, _, _, _, _, _, _, _ => trivial
  | x :: r, i, j, c, T, prev, hP, ht, hp, i0, i1, hy => by
    have hx := hy x List.mem_cons_self
    rw [List.length_cons] at ht i1
    have hP2 := cut_pos g 64 x.f1 false j c T i (by omega) (by omega) hP (by omega)
    have ih := good_segs g n r (i + 1) _ _ (T + x.f1) i hP2 (by omega) (by omega) (by omega) (by omega) (fun y h => hy y (List.mem_cons_of_mem _ h))
    show GoodL S v n T prev ((cutN S v 64 i false x.f1 j c).1 ++ _)
    refine good_cut g n i i0 (by omega) _ 64 x.f1 false j c T prev (by omega) (by omega) (by omega) hP (by omega) (by rw [decide_eq_false (by omega)]) ?_
    rw [if_pos (by omega)]
    exact ih
theorem good_ok {S : List Int} {v : Int} {n : Nat} : ∀ {l : List S65} {T prev : Int}, GoodL S v n T prev l → ∀ p ∈ l, (0 ≤ p.f0 ∧ p.f0 < (n : Int)) ∧ 1 ≤ p.f1 ∧ p.f1 ≤ 64
  | [], _, _, _, p, hp => by cases hp
  | q :: r, T, prev, h, p, hp => by
    rcases List.mem_cons.1 hp with rfl | hp
    · exact h.2.2.1
    · exact good_ok h.2.2.2 p hp
theorem l09Name_eq {p : Int} (h0 : -12 ≤ p) (h1 : p ≤ 23) : spec_l09Name.f p = some (pt 1 0 p) := by
  have n1 := nameT_size (t := p % 12) (by omega) (by omega)
  have hw : wrap64 (p % 12 + 1) = p % 12 + 1 := wrap_id (by omega) (by omega)
  unfold spec_l09Name.f spec_l03Names.f pt
  rw [l03Tone_eq (by omega) (by omega), l03Floor_eq (by omega) (by omega)]
  simp only [Option.bind_some]
  have hsz : (⟨#[83, 114, 82, 103, 71, 109, 77, 80, 100, 68, 110, 78]⟩ : ByteArray).size = 12 := rfl
  rw [if_pos (by omega), if_pos (by omega), hsz, if_pos (by omega)]
  change (if p / 12 = -1 then (if (nameT (p % 12)).size + 1 ≤ 9223372036854775807 then some (nameT (p % 12) ++ (⟨#[44]⟩ : ByteArray)) else none) else if p / 12 = 1 then (if (nameT (p % 12)).size + 1 ≤ 9223372036854775807 then some (nameT (p % 12) ++ (⟨#[39]⟩ : ByteArray)) else none) else some (nameT (p % 12))) = _
  by_cases o1 : p / 12 = -1
  · rw [if_pos o1, if_pos (by omega), if_pos (by omega)]
  rw [if_neg o1]
  by_cases o2 : p / 12 = 1
  · rw [if_pos o2, if_pos (by omega), if_neg (by omega), if_pos (by omega)]
  · rw [if_neg o2, if_neg (by omega), if_neg (by omega)]
theorem l09Text_one {p n : Int} (h : noteB ⟨p, n⟩ = true) {K : Nat} (hK : 3000 ≤ K) : spec_l09Text.f K [(⟨p, n⟩ : S44)] = some (baL (noteW ⟨p, n⟩)) := by
  obtain ⟨⟨a1, a2⟩, b1, b2⟩ := noteB_iff.1 h
  dsimp only at a1 a2 b1 b2
  have hsz := pt_size key10 a1 a2
  have hd := Decimal_size (n := n) (by omega) (by omega)
  have e0 : (⟨#[]⟩ : ByteArray).size = 0 := rfl
  obtain ⟨K, rfl⟩ : ∃ z, K = z + 3 := ⟨K - 3, by omega⟩
  have fin : ∀ y : ByteArray, y.data.toList = noteW ⟨p, n⟩ → spec_l09Text.l0 (K + 1) [(⟨p, n⟩ : S44)] y (wrap64 (0 + 1)) = some (baL (noteW ⟨p, n⟩)) := fun y hy => by
    have e1 : wrap64 (0 + 1) = 1 := by rw [wrap_id (by omega) (by omega)]; rfl
    simp only [spec_l09Text.l0]
    rw [e1, if_neg (by simp), ← hy, data_baL]
  unfold spec_l09Text.f
  rw [if_neg (by simp)]
  simp only [spec_l09Text.l0, spec_l09Text.j1]
  rw [if_pos (by simp), if_neg (by decide), if_pos (by decide), if_pos (by simp), show rd_T44 [(⟨p, n⟩ : S44)] 0 = ⟨p, n⟩ from rfl]
  dsimp only
  rw [l09Name_eq a1 a2]
  simp only [Option.bind_some]
  rw [if_pos (by omega), bnil]
  by_cases h1 : n = 1
  · rw [if_pos h1]
    refine fin _ ?_
    rw [pt1_data]
    unfold noteW
    rw [if_pos h1, List.append_nil]
  · rw [if_neg h1, l01Dec_eq (by omega) (by omega) (by omega)]
    simp only [Option.bind_some]
    rw [if_pos (by omega)]
    refine fin _ ?_
    rw [ba_app, pt1_data, dec_list]
    unfold noteW
    rw [if_neg h1]
theorem rdI_map {l : List S65} {i : Nat} (h : i < l.length) : rd_L4 (l.map pr) (i : Int) = pr l[i] := by
  simp [rd_L4, List.getD_eq_getElem?_getD, List.getElem?_eq_getElem h]
theorem rd_pr0 (p : S65) : rd (pr p) 0 = p.f0 := rd_get (l := pr p) (i := 0) (by simp [pr])
theorem rd_pr1 (p : S65) : rd (pr p) 1 = p.f1 := rd_get (l := pr p) (i := 1) (by simp [pr])
theorem catS_app (acc : ByteArray) (a b : List ByteArray) : catS acc (a ++ b) = catS (catS acc a) b := by unfold catS; rw [List.foldl_append]
theorem Text_l0 {S : List Int} {v : Int} (g : TG S v) (s : ByteArray) (M : List Int) {m : List S44} (hm : melB m = true) {l : List S65} (hl : l.length ≤ 1000) : ∀ (d K i : Nat) (acc : ByteArray) (T prev : Int), i + d = l.length → 1 ≤ i → (∀ h : i - 1 < l.length, prev = (l[i - 1]'h).f0) → GoodL S v m.length T prev (l.drop i) → acc.size ≤ 1000 * i → T ≤ 64 * i → 3 * d + 5000 ≤ K → spec_l25Text_e.l0 K m v (l.map pr) acc T (i : Int) [(⟨s, S, M⟩ : S32)] 0 = some (catS acc (wds m false (l.drop i))) := by
  intro d
  induction d with
  | zero =>
    intro K i acc T prev hi h1 hp hg ha ht hK
    obtain ⟨K, rfl⟩ : ∃ z, K = z + 1 := ⟨K - 1, by omega⟩
    simp only [spec_l25Text_e.l0]
    rw [if_neg (by rw [List.length_map]; omega), List.drop_eq_nil_of_le (by omega)]; rfl
  | succ d ih =>
    intro K i acc T prev hi h1 hp hg ha ht hK
    obtain ⟨K, rfl⟩ : ∃ z, K = z + 3 := ⟨K - 3, by omega⟩
    have hlt : i < l.length := by omega
    have hml : (i : Int) < ((l.map pr).length : Int) := by rw [List.length_map]; omega
    have hp1 := hp (by omega)
    rw [List.drop_eq_getElem_cons hlt] at hg
    obtain ⟨⟨j, c, hP, hf2⟩, hf3, hok, hg2⟩ := hg
    have hpn := piece_note hm hok
    have hnt := ntP_size hm hok
    have hwd := wdP_size hm hok
    have e1 : (⟨#[32]⟩ : ByteArray).size = 1 := rfl
    have e2 : (⟨#[124, 32]⟩ : ByteArray).size = 2 := rfl
    have e3 : (⟨#[124, 124, 32]⟩ : ByteArray).size = 3 := rfl
    have e4 : (⟨#[126]⟩ : ByteArray).size = 1 := rfl
    have hw1 : wrap64 ((i : Int) - 1) = ((i - 1 : Nat) : Int) := by rw [wrap_id (by omega) (by omega)]; omega
    have hi1 : i - 1 < l.length := by omega
    have hL := Lj_bound g hP.jl
    have htot := tot_pos g
    have hT0 := hP.t0
    have hT9 := hP.t9
    -- behind the bar
    have fin : ∀ (B : ByteArray), B.size ≤ 1000 * i + 10 → B ++ wdP m l[i] = catS acc (barP false l[i] ++ [wdP m l[i]]) → spec_l25Text_e.j1 (K + 2) m v (l.map pr) B T (i : Int) [(⟨s, S, M⟩ : S32)] 0 = some (catS acc (wds m false (l.drop i))) := fun B hB hcat => by
      have fin2 : ∀ (C : ByteArray), C.size ≤ 1000 * i + 20 → C ++ ntP m l[i] = B ++ wdP m l[i] → spec_l25Text_e.j2 (K + 1) m v (l.map pr) C T (i : Int) [(⟨s, S, M⟩ : S32)] 0 = some (catS acc (wds m false (l.drop i))) := fun C hC hC2 => by
        simp only [spec_l25Text_e.j2]
        rw [if_pos (nn_cast i), if_pos hml, rdI_map hlt, rd_pr0, rd_pr1]
        rw [if_pos (by simp [pr]), if_pos hok.1.1, if_pos hok.1.2, if_pos (by simp [pr]), l09Text_one hpn (by omega)]
        simp only [Option.bind_some]
        change (if C.size + (ntP m l[i]).size ≤ 9223372036854775807 then spec_l25Text_e.l0 K m v (l.map pr) (C ++ ntP m l[i]) (wrap64 (T + l[i].f1)) (wrap64 ((i : Int) + 1)) _ 0 else none) = _
        have hf1 := hok.2
        rw [if_pos (by omega), hC2, hcat, wrap_id (x := T + l[i].f1) (by omega) (by omega), wrap_succ hlt (by omega)]
        rw [ih K (i + 1) _ (T + l[i].f1) l[i].f0 (by omega) (by omega) (fun h => by simp) hg2 (by rw [← hcat, ByteArray.size_append]; omega) (by omega) (by omega)]
        rw [← catS_app, List.append_assoc, List.drop_eq_getElem_cons hlt]
        rfl
      simp only [spec_l25Text_e.j1]
      rw [if_pos (by omega), hw1, if_pos (by omega), if_pos (by rw [List.length_map]; omega), rdI_map hi1, rdI_map hlt, if_pos (by simp [pr]), if_pos (nn_cast i), if_pos hml, if_pos (by simp [pr]), rd_pr0, rd_pr0, ← hp1]
      by_cases ht3 : prev = l[i].f0
      · rw [if_pos ht3, if_pos (by omega)]
        refine fin2 _ (by rw [ByteArray.size_append]; omega) ?_
        unfold wdP
        rw [hf3, if_pos (decide_eq_true ht3), ByteArray.append_assoc]
      · rw [if_neg ht3]
        refine fin2 B (by omega) ?_
        unfold wdP
        rw [hf3, if_neg (by rw [decide_eq_false ht3]; decide)]
    simp only [spec_l25Text_e.l0]
    rw [if_pos hml, if_pos (by omega), if_pos (by omega), Left_eq s M g hP (by omega), Whole_eq s M g hP (by omega)]
    simp only [Option.bind_some]
    by_cases hc : c = 0
    · rw [if_pos (by omega), units_eq s M g (by omega)]
      simp only [Option.bind_some]
      rw [if_neg (by omega), (place g hP).1]
      rw [if_pos hc] at hf2
      have hps := ps_le g.sec (i := 0) j (by have := hP.jl; omega)
      rw [Nat.zero_add, show ps S 0 = 0 by cases S <;> rfl] at hps
      have hv1 := g.v1
      by_cases hj : j = 0
      · have hz : ps S j * v + c = 0 := by rw [hj, hc, show ps S 0 = 0 by cases S <;> rfl]; omega
        rw [if_pos hz, if_pos (by rw [ByteArray.size_append]; omega)]
        refine fin _ (by rw [ByteArray.size_append, ByteArray.size_append]; omega) ?_
        unfold barP
        rw [if_neg (by decide), if_neg (by omega), if_pos (by omega)]
        refine ba_mk ?_
        show _ = (catS acc [(⟨#[124, 124]⟩ : ByteArray), wdP m l[i]]).data.toList
        rw [catS_data]
        simp [ba_app, Lib.joinTail]
      · have hpos : 0 < ps S j * v := Int.mul_pos (by omega) (by omega)
        rw [if_neg (by omega), if_pos (by rw [ByteArray.size_append]; omega)]
        refine fin _ (by rw [ByteArray.size_append, ByteArray.size_append]; omega) ?_
        unfold barP
        rw [if_neg (by decide), if_neg (by omega), if_neg (by omega)]
        refine ba_mk ?_
        show _ = (catS acc [(⟨#[124]⟩ : ByteArray), wdP m l[i]]).data.toList
        rw [catS_data]
        simp [ba_app, Lib.joinTail]
    · rw [if_neg (by omega)]
      rw [if_neg hc] at hf2
      refine fin _ (by rw [ByteArray.size_append]; omega) ?_
      unfold barP
      rw [if_neg (by decide), if_pos (by omega)]
      rfl
theorem segs_nil_iff {S : List Int} {v : Int} {m : List S44} (hy : ∀ y ∈ m, 1 ≤ y.f1 ∧ y.f1 ≤ 64) {i : Int} {j : Nat} {c : Int} : segs S v m i j c = [] ↔ m = [] := by
  cases m with
  | nil => exact ⟨fun _ => rfl, fun _ => rfl⟩
  | cons x r =>
    have hx := hy x List.mem_cons_self
    constructor
    · intro h
      unfold segs at h
      have := (List.append_eq_nil_iff.1 h).1
      unfold cutN at this
      rw [if_pos (by omega)] at this
      cases this
    · intro h; cases h
theorem segs_length {S : List Int} {v : Int} : ∀ (m : List S44) (i : Int) (j : Nat) (c : Int), (segs S v m i j c).length ≤ 64 * m.length
  | [], _, _, _ => Nat.le_refl _
  | x :: r, i, j, c => by
    unfold segs
    have h1 := cutN_length S v 64 i false x.f1 j c
    have h2 := segs_length (S := S) (v := v) r (i + 1) (cutN S v 64 i false x.f1 j c).2.1 (cutN S v 64 i false x.f1 j c).2.2
    rw [List.length_append, List.length_cons]; omega
def notT (S : List Int) (v : Int) (m : List S44) : ByteArray := if m = [] then (⟨#[45]⟩ : ByteArray) else joinT (wds m true (segs S v m 0 0 0))
theorem notate_eq {S : List Int} {v : Int} (g : TG S v) (s : ByteArray) (M : List Int) {m : List S44} (hm : melB m = true) {K : Nat} (hK : 20000 ≤ K) : impl_notate.f K m s S M v = some (notT S v m, decide (((segs S v m 0 0 0).length : Int) ≤ 128)) := by
  have h48 := (melB_ok hm).1
  have hy := mel_len hm
  have hz := segs_length (S := S) (v := v) m 0 0 0
  unfold impl_notate.f notT
  by_cases h0 : m = []
  · subst h0; rfl
  have hp := List.length_pos_iff.2 h0
  have hgd := good_segs g m.length m 0 0 0 0 (-1) (Pos_zero g) (by omega) (by omega) (by omega) (by omega) hy
  rw [if_neg (by omega), if_neg h0, split_eq g s M hm (by omega)]
  simp only [Option.bind_some]
  have := notate_l0 hm (segs S v m 0 0 0) (l := segs S v m 0 0 0) (by omega) (good_ok hgd) (segs S v m 0 0 0).length K 0 [] (by omega) (by simp) (by simp) (by omega)
  rw [List.drop_zero, List.nil_append, decide_eq_true rfl] at this
  exact this
theorem Text_eq {S : List Int} {v : Int} (g : TG S v) (s : ByteArray) (M : List Int) {m : List S44} (hm : melB m = true) (h128 : (segs S v m 0 0 0).length ≤ 128) {K : Nat} (hK : 20000 ≤ K) : spec_l25Text_e.f K m [(⟨s, S, M⟩ : S32)] 0 v = some (notT S v m) := by
  have h48 := (melB_ok hm).1
  have hy := mel_len hm
  unfold spec_l25Text_e.f notT
  rw [Split_spec g s M hm (by omega)]
  simp only [Option.bind_some, List.length_map]
  have hgd := good_segs g m.length m 0 0 0 0 (-1) (Pos_zero g) (by omega) (by omega) (by omega) (by omega) hy
  by_cases h0 : m = []
  · subst h0; rfl
  have hne : ¬ segs S v m 0 0 0 = [] := fun e => h0 ((segs_nil_iff hy).1 e)
  rw [if_neg h0]
  cases hs : segs S v m 0 0 0 with
  | nil => exact absurd hs hne
  | cons p r =>
    rw [hs] at hgd h128
    obtain ⟨⟨j, c, hP, hf2⟩, hf3, hok, hg2⟩ := hgd
    rw [List.length_cons] at h128
    have hpn := piece_note hm hok
    have hnt := ntP_size hm hok
    have e0 : (⟨#[]⟩ : ByteArray).size = 0 := rfl
    obtain ⟨K, rfl⟩ : ∃ z, K = z + 2 := ⟨K - 2, by omega⟩
    rw [if_neg (by rw [List.length_cons]; omega)]
    have hw : wrap64 (0 + 1) = ((1 : Nat) : Int) := by rw [wrap_id (by omega) (by omega)]; rfl
    have hg0 : rd_L4 ((p :: r).map pr) 0 = pr p := rdI_map (l := p :: r) (i := 0) (by simp)
    simp only [spec_l25Text_e.l0, spec_l25Text_e.j1]
    rw [if_pos (by simp), if_neg (by decide), if_neg (by decide), if_pos (by decide), if_pos (by simp), hg0, rd_pr0, rd_pr1, if_pos (by simp [pr]), if_pos hok.1.1, if_pos hok.1.2, if_pos (by simp [pr]), l09Text_one hpn (by omega)]
    simp only [Option.bind_some]
    change (if (⟨#[]⟩ : ByteArray).size + (ntP m p).size ≤ 9223372036854775807 then spec_l25Text_e.l0 K m v ((p :: r).map pr) ((⟨#[]⟩ : ByteArray) ++ ntP m p) (wrap64 (0 + p.f1)) (wrap64 (0 + 1)) _ 0 else none) = _
    have hf1 := hok.2
    rw [if_pos (by omega), bnil, Int.zero_add, wrap_id (x := p.f1) (by omega) (by omega), hw]
    rw [Int.zero_add] at hg2
    rw [Text_l0 g s M hm (l := p :: r) (by rw [List.length_cons]; omega) r.length K 1 (ntP m p) p.f1 p.f0 (by rw [List.length_cons]; omega) (by omega) (fun h => rfl) hg2 (by omega) (by omega) (by omega)]
    have hwd : wdP m p = ntP m p := by
      unfold wdP
      rw [hf3, if_neg (by rw [decide_eq_false (by omega)]; decide)]
    show some (catS (ntP m p) (wds m false r)) = some (joinT (wdP m p :: wds m false r))
    rw [hwd]; rfl
end Go.Proofs.YtmoamoopoifnlaaDoor.P

namespace Go.Proofs.YtmoamoopoifnlaaDoor.Pure
open Go.RowKit Go.Proofs.YtmoamoopoifnlaaDoorW.PrintWords Go.Proofs.YtmoamoopoifnlaaDoorL Go.Proofs.YtmoamoopoifnlaaDoor.P
theorem NotateBars_both {m : List S44} (hm : m.length ≤ 1048576) (s : ByteArray) (S M : List Int) (v : Int) {K : Nat} (hK : 2000000 ≤ K) : ∃ r, spec_NotateBars.f K m s S M v = some r ∧ impl_NotateBars.f K m s S M v = some r := by
  unfold spec_NotateBars.f impl_NotateBars.f
  rw [l25Ask_eq (by omega) s S M v (by omega), notationCode_eq m s S M v (by omega)]; simp only [Option.bind_some]
  by_cases hc : codeB m s S M v = 0
  rotate_left
  · rw [if_neg hc, if_neg hc]; exact ⟨_, rfl, rfl⟩
  obtain ⟨h1, g⟩ := code_ok hc
  rw [if_pos hc, if_pos hc, Split_spec g s M h1 (by omega), notate_eq g s M h1 (by omega)]
  simp only [Option.bind_some, List.length_map]
  by_cases h2 : (segs S v m 0 0 0).length ≤ 128
  · rw [if_neg (by omega), Text_eq g s M h1 h2 (by omega)]
    simp only [Option.bind_some]
    rw [if_pos (decide_eq_true (by omega))]
    exact ⟨_, rfl, rfl⟩
  · rw [if_pos (by omega), if_neg (by rw [decide_eq_false (by omega)]; decide)]
    exact ⟨_, rfl, rfl⟩
theorem FnExactNotateBars : ∀ (x0 : List (P.S46)) (x1 : P.S25) (x2 : Int), (x0.length ≤ maxLen ∧ ∀ y ∈ x0, g46 y) → g25 x1 → (Lit.int .i64 x2).wf = true → ∃ k : Nat, P.laws_FnExactNotateBars.f k x0 (x1.f0) (x1.f1) (x1.f2) x2 = some true := by
  intro l x v ⟨hl, hgl⟩ hg _
  refine ⟨6000000, ?_⟩
  unfold laws_FnExactNotateBars.f
  obtain ⟨r, hr, h⟩ := szNoteS_some hl hgl (a := 1048576) (by omega) (by omega) (k := 6000000) (by omega)
  rw [hr]; simp only [Option.bind_some]
  by_cases h0 : r < 0
  · rw [if_pos h0]
  rw [if_neg h0]
  obtain ⟨r0, r9, z0, s0⟩ := h.resolve_left h0
  obtain ⟨r', hr', h'⟩ := szTala_some hg (a := r) (by omega) (by omega)
  rw [hr']; simp only [Option.bind_some]
  by_cases h0' : r' < 0
  · rw [if_pos h0']
  rw [if_neg h0']
  obtain ⟨_, _, hs⟩ := h'.resolve_left h0'
  have hT : ∀ K, 2000000 ≤ K → laws_toTala.f K x.f0 x.f1 x.f2 = some ((cTala x).f0, (cTala x).f1, (cTala x).f2) := fun K hK => toTala_eq hs (by omega)
  have hi := smi_cTala hs
  generalize cTala x = y at hT hi
  have hz : (l.map cNote).length ≤ 1048576 := by simpa using z0
  have hN : ∀ K, 2000000 ≤ K → laws_toNoteS.f K l = some (l.map cNote) := fun K hK => toNoteS_eq z0 s0 (by omega)
  have hEN : ∀ K, 2000000 ≤ K → laws_eqNoteS.f K (l.map cNote) (l.map cNote) = some true := fun K hK => by rw [eqNoteS_eq hz (fun _ _ => trivial) (by omega)]; simp
  generalize l.map cNote = m at hN hEN hz
  have hE : laws_eqTala.f 5999999 y.f0 y.f1 y.f2 y.f0 y.f1 y.f2 = some true := by rw [eqTala_eq hi (by omega)]; simp
  obtain ⟨q, e1, e2⟩ := NotateBars_both hz y.f0 y.f1 y.f2 v (K := 6000000) (by omega)
  rw [hN _ (by omega)]; simp only [Option.bind_some]
  rw [hT _ (by omega)]; simp only [Option.bind_some]
  rw [e1]; simp only [Option.bind_some]
  rw [e2]; simp only [Option.bind_some, if_true, bne_self_eq_false]
  show laws_FnExactNotateBars.j0 (5999999 + 1) l m false x.f0 x.f1 x.f2 y.f0 y.f1 y.f2 = _
  simp only [laws_FnExactNotateBars.j0, Bool.false_eq_true, if_false]
  rw [hN _ (by omega)]; simp only [Option.bind_some]
  rw [hEN _ (by omega)]; simp only [Option.bind_some, if_true]
  rw [hT _ (by omega)]; simp only [Option.bind_some]
  rw [hE]; rfl
end Go.Proofs.YtmoamoopoifnlaaDoor.Pure
