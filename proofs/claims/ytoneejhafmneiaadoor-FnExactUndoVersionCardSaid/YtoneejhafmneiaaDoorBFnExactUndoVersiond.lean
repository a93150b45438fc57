/- Part d of what FnExactUndoVersion stands on: functions of the program as Lean functions with their walks, and plain lemmas. -/
import Derived.Test.YtoneejhafmneiaaDoorK
import Derived.Test.YtoneejhafmneiaaDoorBFnExactUndoVersiona
import Derived.Test.YtoneejhafmneiaaDoorBFnExactUndoVersionb
import Derived.Test.YtoneejhafmneiaaDoorBFnExactUndoVersionc
import Derived.ChangeOld
import Derived.ChangeArms
import Derived.WideShapes
import Derived.Test.YtoneejhafmneiaaDoorWWords
import Derived.KernelRfl
namespace Go.Proofs.YtoneejhafmneiaaDoor.P
open Go.RowKit Go.Proofs.YtoneejhafmneiaaDoorW.PrintWords Go.Proofs.YtoneejhafmneiaaDoorW.PrintLast Go.Proofs.YtoneejhafmneiaaDoorW.PrintMore
attribute [local go_sem] max2_int min2_int max_two min_two max_three min_three max_four min_four str_leq str_gtr str_geq
set_option linter.unusedVariables false
set_option linter.unusedSimpArgs false

def laws_FnExactUndoVersion.g (k : Nat) (l0 : List S38) (a1 : Int) : Option Bool := (laws_toVersionS.f k l0).bind fun t3 => ((spec_UndoVersion.f k t3 a1).bind fun bt6 => ((laws_toVersionS.f k l0).bind fun t10 => ((impl_UndoVersion.f k t10 a1).bind fun bt13 => (if laws_eqVersionS.f k bt13.1 bt6.1 = some true then (if bt13.2 = bt6.2 then ((laws_toVersionS.f k l0).bind fun t19 => (if laws_eqVersionS.f k t10 t19 = some true then ((laws_markVersionS.f k t10 1).bind fun bt24 => (if bt24.1 < 0 then none else (if laws_eqVersionS.f k bt13.1 bt6.1 = some true then (if bt13.2 = bt6.2 then ((laws_markVersionS.f k bt13.1 1).bind fun bt29 => ((laws_heldVersionS.f k bt29.2 1).bind fun t32 => (if t32 < 0 then none else (if t32 = bt29.1 then ((laws_toVersionS.f k l0).bind fun t34 => ((impl_UndoVersion.f k t34 a1).bind fun bt37 => (if laws_eqVersionS.f k bt37.1 bt6.1 = some true then (if bt37.2 = bt6.2 then ((laws_heldVersionS.f k bt29.2 1).bind fun t43 => (if t43 < 0 then none else (if t43 = bt29.1 then (some true) else none))) else none) else none))) else none)))) else none) else none))) else none)) else none) else none))))
def laws_FnExactUndoVersion.f (k : Nat) (l0 : List S38) (a1 : Int) : Option Bool := (laws_szVersionS.f k l0 1048576).bind fun t1 => (if t1 < 0 then some true else (laws_FnExactUndoVersion.g k l0 a1))
set_option maxHeartbeats 8000000 in
set_option maxRecDepth 100000 in
theorem laws_FnExactUndoVersion.early0 (k : Nat) (A0 : Option Addr) (c0 : Nat) (l0 : List S38) (a1 : Int) (w : World) (hD : Door1 w) (hr0 : Kd.C k38 w A0 l0.length l0) (hc0 : l0.length ≤ c0) (t1 : Int) (Q2 : Aside0 (laws_szVersionS.f k l0 1048576 = some t1)) (ef : t1 < 0) :
    Calls Tryd.prog 7 #[.slice A0 l0.length c0, .int .i64 a1] w fun e w' => e = .returned (.bool true) ∧ Below w.heap.size w w' := by
  have efb : decide (t1 < 0) = true := decide_eq_true ef
  clear ef
  have HD := Aside0.mk hD
  clear hD
  have HR0 := Aside0.mk hr0
  have HC0 := Aside0.mk hc0
  clear hr0 hc0
  have HB := Aside0.mk (Below.refl w.heap.size w)
  go_enter Tryd.func7, Tryd.ntmps7
  go_wp2_with fail
  refine (laws_szVersionS.calls k _ _ l0 1048576 t1 _ (by exact Kd.C_below HR0.out (by repeat (first | (with_reducible first | exact HB.out | apply below_alloc | apply pw_below_drewN | apply below_drew1) | exact HB.out))) HC0.out Q2.out).mono ?_
  rintro e w1 ⟨rfl, hb⟩
  have n0_ := Aside0.mk (below_step (by repeat (first | (with_reducible first | exact HB.out | apply below_alloc | apply pw_below_drewN | apply below_drew1) | exact HB.out)) hb)
  clear HB hb
  have HB := n0_
  clear n0_
  go_wp2_with fail
  go_ret
  exact ⟨rfl, (by repeat (first | (with_reducible first | exact HB.out | apply below_alloc | apply pw_below_drewN | apply below_drew1) | exact HB.out))⟩
set_option maxHeartbeats 8000000 in
set_option maxRecDepth 100000 in
theorem laws_FnExactUndoVersion.main (k : Nat) (A0 : Option Addr) (c0 : Nat) (l0 : List S38) (a1 : Int) (w : World) (hD : Door1 w) (hr0 : Kd.C k38 w A0 l0.length l0) (hc0 : l0.length ≤ c0) (t1 : Int) (t3 : List (S43)) (t6 : List (S43)) (t7 : Int) (t10 : List (S43)) (t13 : List (S43)) (t14 : Int) (t19 : List (S43)) (t24 : Int) (t25 : List S43) (t29 : Int) (t30 : List S43) (t32 : Int) (t34 : List (S43)) (t37 : List (S43)) (t38 : Int) (t43 : Int) (Q2 : Aside0 (laws_szVersionS.f k l0 1048576 = some t1)) (e1 : ¬ t1 < 0) (Q4 : Aside0 (laws_toVersionS.f k l0 = some t3)) (Q8 : Aside0 (spec_UndoVersion.f k t3 a1 = some (t6, t7))) (Q11 : Aside0 (laws_toVersionS.f k l0 = some t10)) (Q15 : Aside0 (impl_UndoVersion.f k t10 a1 = some (t13, t14))) (Q18 : Aside0 (laws_eqVersionS.f k t13 t6 = some true)) (e7 : t14 = t7) (Q20 : Aside0 (laws_toVersionS.f k l0 = some t19)) (Q23 : Aside0 (laws_eqVersionS.f k t10 t19 = some true)) (Q26 : Aside0 (laws_markVersionS.f k t10 1 = some (t24, t25))) (e11 : ¬ t24 < 0) (Q28 : Aside0 (laws_eqVersionS.f k t13 t6 = some true)) (e13 : t14 = t7) (Q31 : Aside0 (laws_markVersionS.f k t13 1 = some (t29, t30))) (Q33 : Aside0 (laws_heldVersionS.f k t30 1 = some t32)) (e16 : ¬ t32 < 0) (e17 : t32 = t29) (Q35 : Aside0 (laws_toVersionS.f k l0 = some t34)) (Q39 : Aside0 (impl_UndoVersion.f k t34 a1 = some (t37, t38))) (Q42 : Aside0 (laws_eqVersionS.f k t37 t6 = some true)) (e21 : t38 = t7) (Q44 : Aside0 (laws_heldVersionS.f k t30 1 = some t43)) (e23 : ¬ t43 < 0) (e24 : t43 = t29) :
    Calls Tryd.prog 7 #[.slice A0 l0.length c0, .int .i64 a1] w fun e w' => e = .returned (.bool true) ∧ Below w.heap.size w w' := by
  have e1b : decide (t1 < 0) = false := decide_eq_false e1
  clear e1
  have e7b : (t14 == t7) = true := beq_iff_eq.mpr e7
  have e7c : (t14 != t7) = false := bne_eq_false_iff_eq.mpr e7
  clear e7
  have e11b : decide (t24 < 0) = false := decide_eq_false e11
  clear e11
  have e13b : (t14 == t7) = true := beq_iff_eq.mpr e13
  have e13c : (t14 != t7) = false := bne_eq_false_iff_eq.mpr e13
  clear e13
  have e16b : decide (t32 < 0) = false := decide_eq_false e16
  clear e16
  have e17b : (t32 == t29) = true := beq_iff_eq.mpr e17
  have e17c : (t32 != t29) = false := bne_eq_false_iff_eq.mpr e17
  clear e17
  have e21b : (t38 == t7) = true := beq_iff_eq.mpr e21
  have e21c : (t38 != t7) = false := bne_eq_false_iff_eq.mpr e21
  clear e21
  have e23b : decide (t43 < 0) = false := decide_eq_false e23
  clear e23
  have e24b : (t43 == t29) = true := beq_iff_eq.mpr e24
  have e24c : (t43 != t29) = false := bne_eq_false_iff_eq.mpr e24
  clear e24
  have HD := Aside0.mk hD
  clear hD
  have HR0 := Aside0.mk hr0
  have HC0 := Aside0.mk hc0
  clear hr0 hc0
  have HB := Aside0.mk (Below.refl w.heap.size w)
  go_enter Tryd.func7, Tryd.ntmps7
  go_wp2_with fail
  refine (laws_szVersionS.calls k _ _ l0 1048576 t1 _ (by exact Kd.C_below HR0.out (by repeat (first | (with_reducible first | exact HB.out | apply below_alloc | apply pw_below_drewN | apply below_drew1) | exact HB.out))) HC0.out Q2.out).mono ?_
  rintro e w1 ⟨rfl, hb⟩
  have n0_ := Aside0.mk (below_step (by repeat (first | (with_reducible first | exact HB.out | apply below_alloc | apply pw_below_drewN | apply below_drew1) | exact HB.out)) hb)
  clear HB hb
  have HB := n0_
  clear n0_
  go_wp2_with fail
  refine (laws_toVersionS.calls k _ _ l0 t3 _ (by exact Kd.C_below HR0.out (by repeat (first | (with_reducible first | exact HB.out | apply below_alloc | apply pw_below_drewN | apply below_drew1) | exact HB.out))) HC0.out Q4.out).mono ?_
  rintro e w2 ⟨v0, rfl, ho0, hb⟩
  have n0_ := Aside0.mk (Iv_S (lo := w.heap.size) (W := _) ho0 (below_size (by repeat (first | (with_reducible first | exact HB.out | apply below_alloc | apply pw_below_drewN | apply below_drew1) | exact HB.out))) (below_size (by repeat (first | (with_reducible first | exact HB.out | apply below_alloc | apply pw_below_drewN | apply below_drew1) | exact HB.out))))
  have n1_ := Aside0.mk (Nat.le_refl w2.heap.size)
  have n2_ := Aside0.mk (Nat.le_trans (below_size (by repeat (first | (with_reducible first | exact HB.out | apply below_alloc | apply pw_below_drewN | apply below_drew1) | exact HB.out))) hb.size)
  have n3_ := Aside0.mk (below_step (by repeat (first | (with_reducible first | exact HB.out | apply below_alloc | apply pw_below_drewN | apply below_drew1) | exact HB.out)) hb)
  clear HB hb ho0
  have HO_row5 := n0_
  have HS := n1_
  have M2 := n2_
  have HB := n3_
  clear n0_ n1_ n2_ n3_
  obtain ⟨A_row5, c_row5, rfl⟩ := Kd.S_slice HO_row5.out
  go_wp2_with fail
  refine (spec_UndoVersion.calls k (Iv w.heap.size w2.heap.size) _ _ t3 a1 t6 t7 _ (by exact Kd.S_V (by (with_reducible repeat (first | apply Kd.S_alloc | apply Kd.S_drewN | apply Kd.S_drew)); exact HO_row5.out)) Q8.out).mono ?_
  rintro e w3 ⟨v0, rfl, ho0, hb⟩
  have n0_ := Aside0.mk (Kd.S_below (by (with_reducible repeat (first | apply Kd.S_alloc | apply Kd.S_drewN | apply Kd.S_drew)); exact HO_row5.out) hb)
  have n1_ := Aside0.mk (Iv_NP (lo := w.heap.size) (W := _) ho0 (below_size (by repeat (first | (with_reducible first | exact HB.out | apply below_alloc | apply pw_below_drewN | apply below_drew1) | exact HB.out))) (below_size (by repeat (first | (with_reducible first | exact HB.out | apply below_alloc | apply pw_below_drewN | apply below_drew1) | exact HB.out))))
  have n2_ := Aside0.mk (Nat.le_refl w3.heap.size)
  have n3_ := Aside0.mk (Nat.le_trans (by repeat (first | (with_reducible first | exact HS.out | apply sz_alloc | apply sz_drewN | apply sz_drew) | exact HS.out)) hb.size)
  have n4_ := Aside0.mk (below_step (by repeat (first | (with_reducible first | exact HB.out | apply below_alloc | apply pw_below_drewN | apply below_drew1) | exact HB.out)) hb)
  clear HB HS HO_row5 hb ho0
  have HO_row5 := n0_
  have HO_row9 := n1_
  have HS := n2_
  have M3 := n3_
  have HB := n4_
  clear n0_ n1_ n2_ n3_ n4_
  obtain ⟨A_row9, c_row9, rfl⟩ := Kd.N_slice HO_row9.out
  go_wp2_with fail
  refine (laws_toVersionS.calls k _ _ l0 t10 _ (by exact Kd.C_below HR0.out (by repeat (first | (with_reducible first | exact HB.out | apply below_alloc | apply pw_below_drewN | apply below_drew1) | exact HB.out))) HC0.out Q11.out).mono ?_
  rintro e w4 ⟨v0, rfl, ho0, hb⟩
  have n0_ := Aside0.mk (Kd.S_below (by (with_reducible repeat (first | apply Kd.S_alloc | apply Kd.S_drewN | apply Kd.S_drew)); exact HO_row5.out) hb)
  have n1_ := Aside0.mk (Kd.N_below (by (with_reducible repeat (first | apply Kd.N_alloc | apply Kd.N_drewN | apply Kd.N_drew)); exact HO_row9.out) hb)
  have n2_ := Aside0.mk (Iv_S (lo := w3.heap.size) (W := _) ho0 (below_size (by repeat (first | (with_reducible first | exact HB.out | apply below_alloc | apply pw_below_drewN | apply below_drew1) | exact HB.out))) (by repeat (first | (with_reducible first | exact HS.out | apply sz_alloc | apply sz_drewN | apply sz_drew) | exact HS.out)))
  have n3_ := Aside0.mk (Nat.le_refl w4.heap.size)
  have n4_ := Aside0.mk (Nat.le_trans (by repeat (first | (with_reducible first | exact HS.out | apply sz_alloc | apply sz_drewN | apply sz_drew) | exact HS.out)) hb.size)
  have n5_ := Aside0.mk (below_step (by repeat (first | (with_reducible first | exact HB.out | apply below_alloc | apply pw_below_drewN | apply below_drew1) | exact HB.out)) hb)
  clear HB HS HO_row5 HO_row9 hb ho0
  have HO_row5 := n0_
  have HO_row9 := n1_
  have HO_row12 := n2_
  have HS := n3_
  have M4 := n4_
  have HB := n5_
  clear n0_ n1_ n2_ n3_ n4_ n5_
  obtain ⟨A_row12, c_row12, rfl⟩ := Kd.S_slice HO_row12.out
  go_wp2_with fail
  refine (impl_UndoVersion.calls k _ _ t10 a1 t13 t14 _ (Door1.at HD.out (by repeat (first | (with_reducible first | exact HB.out | apply below_alloc | apply pw_below_drewN | apply below_drew1) | exact HB.out))) (by exact (Kd.S_reads' (by (with_reducible repeat (first | apply Kd.S_alloc | apply Kd.S_drewN | apply Kd.S_drew)); exact HO_row12.out)).2.2) (by exact (Kd.S_reads' HO_row12.out).2.1) Q15.out).mono ?_
  rintro e w5 ⟨v0, rfl, ho0, hb⟩
  have n0_ := Aside0.mk (Kd.S_below (by (with_reducible repeat (first | apply Kd.S_alloc | apply Kd.S_drewN | apply Kd.S_drew)); exact HO_row5.out) hb)
  have n1_ := Aside0.mk (Kd.N_below (by (with_reducible repeat (first | apply Kd.N_alloc | apply Kd.N_drewN | apply Kd.N_drew)); exact HO_row9.out) hb)
  have n2_ := Aside0.mk (Kd.S_below (by (with_reducible repeat (first | apply Kd.S_alloc | apply Kd.S_drewN | apply Kd.S_drew)); exact HO_row12.out) hb)
  have n3_ := Aside0.mk (Iv_S (lo := w4.heap.size) (W := _) ho0 (below_size (by repeat (first | (with_reducible first | exact HB.out | apply below_alloc | apply pw_below_drewN | apply below_drew1) | exact HB.out))) (by repeat (first | (with_reducible first | exact HS.out | apply sz_alloc | apply sz_drewN | apply sz_drew) | exact HS.out)))
  have n4_ := Aside0.mk (Nat.le_refl w5.heap.size)
  have n5_ := Aside0.mk (Nat.le_trans (by repeat (first | (with_reducible first | exact HS.out | apply sz_alloc | apply sz_drewN | apply sz_drew) | exact HS.out)) hb.size)
  have n6_ := Aside0.mk (below_step (by repeat (first | (with_reducible first | exact HB.out | apply below_alloc | apply pw_below_drewN | apply below_drew1) | exact HB.out)) hb)
  clear HB HS HO_row5 HO_row9 HO_row12 hb ho0
  have HO_row5 := n0_
  have HO_row9 := n1_
  have HO_row12 := n2_
  have HO_row16 := n3_
  have HS := n4_
  have M5 := n5_
  have HB := n6_
  clear n0_ n1_ n2_ n3_ n4_ n5_ n6_
  obtain ⟨A_row16, c_row16, rfl⟩ := Kd.S_slice HO_row16.out
  go_wp2_with fail
  refine (laws_eqVersionS.calls k _ _ t13 _ _ t6 true _ (by exact (Kd.S_reads' (by (with_reducible repeat (first | apply Kd.S_alloc | apply Kd.S_drewN | apply Kd.S_drew)); exact HO_row16.out)).2.2) (by exact (Kd.S_reads' HO_row16.out).2.1) (by exact (Kd.N_reads' (by (with_reducible repeat (first | apply Kd.N_alloc | apply Kd.N_drewN | apply Kd.N_drew)); exact HO_row9.out)).2.2) (by exact (Kd.N_reads' HO_row9.out).2.1) Q18.out).mono ?_
  rintro e w6 ⟨rfl, hb⟩
  have n0_ := Aside0.mk (Kd.S_below (by (with_reducible repeat (first | apply Kd.S_alloc | apply Kd.S_drewN | apply Kd.S_drew)); exact HO_row5.out) hb)
  have n1_ := Aside0.mk (Kd.N_below (by (with_reducible repeat (first | apply Kd.N_alloc | apply Kd.N_drewN | apply Kd.N_drew)); exact HO_row9.out) hb)
  have n2_ := Aside0.mk (Kd.S_below (by (with_reducible repeat (first | apply Kd.S_alloc | apply Kd.S_drewN | apply Kd.S_drew)); exact HO_row12.out) hb)
  have n3_ := Aside0.mk (Kd.S_below (by (with_reducible repeat (first | apply Kd.S_alloc | apply Kd.S_drewN | apply Kd.S_drew)); exact HO_row16.out) hb)
  have n4_ := Aside0.mk (Nat.le_trans (by repeat (first | (with_reducible first | exact HS.out | apply sz_alloc | apply sz_drewN | apply sz_drew) | exact HS.out)) hb.size)
  have n5_ := Aside0.mk (below_step (by repeat (first | (with_reducible first | exact HB.out | apply below_alloc | apply pw_below_drewN | apply below_drew1) | exact HB.out)) hb)
  clear HB HS HO_row5 HO_row9 HO_row12 HO_row16 hb
  have HO_row5 := n0_
  have HO_row9 := n1_
  have HO_row12 := n2_
  have HO_row16 := n3_
  have HS := n4_
  have HB := n5_
  clear n0_ n1_ n2_ n3_ n4_ n5_
  go_wp2_with fail
  refine (laws_toVersionS.calls k _ _ l0 t19 _ (by exact Kd.C_below HR0.out (by repeat (first | (with_reducible first | exact HB.out | apply below_alloc | apply pw_below_drewN | apply below_drew1) | exact HB.out))) HC0.out Q20.out).mono ?_
  rintro e w7 ⟨v0, rfl, ho0, hb⟩
  have n0_ := Aside0.mk (Kd.S_below (by (with_reducible repeat (first | apply Kd.S_alloc | apply Kd.S_drewN | apply Kd.S_drew)); exact HO_row5.out) hb)
  have n1_ := Aside0.mk (Kd.N_below (by (with_reducible repeat (first | apply Kd.N_alloc | apply Kd.N_drewN | apply Kd.N_drew)); exact HO_row9.out) hb)
  have n2_ := Aside0.mk (Kd.S_below (by (with_reducible repeat (first | apply Kd.S_alloc | apply Kd.S_drewN | apply Kd.S_drew)); exact HO_row12.out) hb)
  have n3_ := Aside0.mk (Kd.S_below (by (with_reducible repeat (first | apply Kd.S_alloc | apply Kd.S_drewN | apply Kd.S_drew)); exact HO_row16.out) hb)
  have n4_ := Aside0.mk (Iv_S (lo := w5.heap.size) (W := _) ho0 (below_size (by repeat (first | (with_reducible first | exact HB.out | apply below_alloc | apply pw_below_drewN | apply below_drew1) | exact HB.out))) (by repeat (first | (with_reducible first | exact HS.out | apply sz_alloc | apply sz_drewN | apply sz_drew) | exact HS.out)))
  have n5_ := Aside0.mk (Nat.le_refl w7.heap.size)
  have n6_ := Aside0.mk (Nat.le_trans (by repeat (first | (with_reducible first | exact HS.out | apply sz_alloc | apply sz_drewN | apply sz_drew) | exact HS.out)) hb.size)
  have n7_ := Aside0.mk (below_step (by repeat (first | (with_reducible first | exact HB.out | apply below_alloc | apply pw_below_drewN | apply below_drew1) | exact HB.out)) hb)
  clear HB HS HO_row5 HO_row9 HO_row12 HO_row16 hb ho0
  have HO_row5 := n0_
  have HO_row9 := n1_
  have HO_row12 := n2_
  have HO_row16 := n3_
  have HO_row21 := n4_
  have HS := n5_
  have M7 := n6_
  have HB := n7_
  clear n0_ n1_ n2_ n3_ n4_ n5_ n6_ n7_
  obtain ⟨A_row21, c_row21, rfl⟩ := Kd.S_slice HO_row21.out
  go_wp2_with fail
  refine (laws_eqVersionS.calls k _ _ t10 _ _ t19 true _ (by exact (Kd.S_reads' (by (with_reducible repeat (first | apply Kd.S_alloc | apply Kd.S_drewN | apply Kd.S_drew)); exact HO_row12.out)).2.2) (by exact (Kd.S_reads' HO_row12.out).2.1) (by exact (Kd.S_reads' (by (with_reducible repeat (first | apply Kd.S_alloc | apply Kd.S_drewN | apply Kd.S_drew)); exact HO_row21.out)).2.2) (by exact (Kd.S_reads' HO_row21.out).2.1) Q23.out).mono ?_
  rintro e w8 ⟨rfl, hb⟩
  have n0_ := Aside0.mk (Kd.S_below (by (with_reducible repeat (first | apply Kd.S_alloc | apply Kd.S_drewN | apply Kd.S_drew)); exact HO_row5.out) hb)
  have n1_ := Aside0.mk (Kd.N_below (by (with_reducible repeat (first | apply Kd.N_alloc | apply Kd.N_drewN | apply Kd.N_drew)); exact HO_row9.out) hb)
  have n2_ := Aside0.mk (Kd.S_below (by (with_reducible repeat (first | apply Kd.S_alloc | apply Kd.S_drewN | apply Kd.S_drew)); exact HO_row12.out) hb)
  have n3_ := Aside0.mk (Kd.S_below (by (with_reducible repeat (first | apply Kd.S_alloc | apply Kd.S_drewN | apply Kd.S_drew)); exact HO_row16.out) hb)
  have n4_ := Aside0.mk (Kd.S_below (by (with_reducible repeat (first | apply Kd.S_alloc | apply Kd.S_drewN | apply Kd.S_drew)); exact HO_row21.out) hb)
  have n5_ := Aside0.mk (Nat.le_trans (by repeat (first | (with_reducible first | exact HS.out | apply sz_alloc | apply sz_drewN | apply sz_drew) | exact HS.out)) hb.size)
  have n6_ := Aside0.mk (below_step (by repeat (first | (with_reducible first | exact HB.out | apply below_alloc | apply pw_below_drewN | apply below_drew1) | exact HB.out)) hb)
  clear HB HS HO_row5 HO_row9 HO_row12 HO_row16 HO_row21 hb
  have HO_row5 := n0_
  have HO_row9 := n1_
  have HO_row12 := n2_
  have HO_row16 := n3_
  have HO_row21 := n4_
  have HS := n5_
  have HB := n6_
  clear n0_ n1_ n2_ n3_ n4_ n5_ n6_
  go_wp2_with fail
  refine (laws_markVersionS.calls k (Iv w3.heap.size w4.heap.size) _ t10 1 t24 t25 w _ (by repeat (first | (with_reducible first | exact HB.out | apply below_alloc | apply pw_below_drewN | apply below_drew1) | exact HB.out)) (by (with_reducible repeat (first | apply Kd.S_alloc | apply Kd.S_drewN | apply Kd.S_drew)); exact HO_row12.out) Q26.out).mono ?_
  rintro e w9 ⟨rfl, ho0, hb, hk⟩
  have n0_ := Aside0.mk (ho0)
  have n1_ := Aside0.mk (Kd.S_kept (by (with_reducible repeat (first | apply Kd.S_alloc | apply Kd.S_drewN | apply Kd.S_drew)); exact HO_row5.out) hk (fun k_ h1_ h2_ => by unfold Iv at h1_ h2_; have m2_ := M2.out; have m3_ := M3.out; have m4_ := M4.out; have m5_ := M5.out; have m7_ := M7.out; omega))
  have n2_ := Aside0.mk (Kd.N_kept (by (with_reducible repeat (first | apply Kd.N_alloc | apply Kd.N_drewN | apply Kd.N_drew)); exact HO_row9.out) hk (fun k_ h1_ h2_ => by unfold Iv at h1_ h2_; have m2_ := M2.out; have m3_ := M3.out; have m4_ := M4.out; have m5_ := M5.out; have m7_ := M7.out; omega))
  have n3_ := Aside0.mk (Kd.S_kept (by (with_reducible repeat (first | apply Kd.S_alloc | apply Kd.S_drewN | apply Kd.S_drew)); exact HO_row16.out) hk (fun k_ h1_ h2_ => by unfold Iv at h1_ h2_; have m2_ := M2.out; have m3_ := M3.out; have m4_ := M4.out; have m5_ := M5.out; have m7_ := M7.out; omega))
  have n4_ := Aside0.mk (Kd.S_kept (by (with_reducible repeat (first | apply Kd.S_alloc | apply Kd.S_drewN | apply Kd.S_drew)); exact HO_row21.out) hk (fun k_ h1_ h2_ => by unfold Iv at h1_ h2_; have m2_ := M2.out; have m3_ := M3.out; have m4_ := M4.out; have m5_ := M5.out; have m7_ := M7.out; omega))
  have n5_ := Aside0.mk (Nat.le_trans (by repeat (first | (with_reducible first | exact HS.out | apply sz_alloc | apply sz_drewN | apply sz_drew) | exact HS.out)) hk.1)
  have n6_ := Aside0.mk (hb)
  clear HB HS HO_row5 HO_row9 HO_row12 HO_row16 HO_row21 hb hk ho0
  have HO_row12 := n0_
  have HO_row5 := n1_
  have HO_row9 := n2_
  have HO_row16 := n3_
  have HO_row21 := n4_
  have HS := n5_
  have HB := n6_
  clear n0_ n1_ n2_ n3_ n4_ n5_ n6_
  have LN_row12 := Aside0.mk (Kd.S_reads' HO_row12.out).1
  go_wp2_with fail
  refine (laws_eqVersionS.calls k _ _ t13 _ _ t6 true _ (by exact (Kd.S_reads' (by (with_reducible repeat (first | apply Kd.S_alloc | apply Kd.S_drewN | apply Kd.S_drew)); exact HO_row16.out)).2.2) (by exact (Kd.S_reads' HO_row16.out).2.1) (by exact (Kd.N_reads' (by (with_reducible repeat (first | apply Kd.N_alloc | apply Kd.N_drewN | apply Kd.N_drew)); exact HO_row9.out)).2.2) (by exact (Kd.N_reads' HO_row9.out).2.1) Q28.out).mono ?_
  rintro e w10 ⟨rfl, hb⟩
  have n0_ := Aside0.mk (Kd.S_below (by (with_reducible repeat (first | apply Kd.S_alloc | apply Kd.S_drewN | apply Kd.S_drew)); exact HO_row5.out) hb)
  have n1_ := Aside0.mk (Kd.N_below (by (with_reducible repeat (first | apply Kd.N_alloc | apply Kd.N_drewN | apply Kd.N_drew)); exact HO_row9.out) hb)
  have n2_ := Aside0.mk (Kd.S_below (by (with_reducible repeat (first | apply Kd.S_alloc | apply Kd.S_drewN | apply Kd.S_drew)); exact HO_row12.out) hb)
  have n3_ := Aside0.mk (Kd.S_below (by (with_reducible repeat (first | apply Kd.S_alloc | apply Kd.S_drewN | apply Kd.S_drew)); exact HO_row16.out) hb)
  have n4_ := Aside0.mk (Kd.S_below (by (with_reducible repeat (first | apply Kd.S_alloc | apply Kd.S_drewN | apply Kd.S_drew)); exact HO_row21.out) hb)
  have n5_ := Aside0.mk (Nat.le_trans (by repeat (first | (with_reducible first | exact HS.out | apply sz_alloc | apply sz_drewN | apply sz_drew) | exact HS.out)) hb.size)
  have n6_ := Aside0.mk (below_step (by repeat (first | (with_reducible first | exact HB.out | apply below_alloc | apply pw_below_drewN | apply below_drew1) | exact HB.out)) hb)
  clear HB HS HO_row5 HO_row9 HO_row12 HO_row16 HO_row21 hb
  have HO_row5 := n0_
  have HO_row9 := n1_
  have HO_row12 := n2_
  have HO_row16 := n3_
  have HO_row21 := n4_
  have HS := n5_
  have HB := n6_
  clear n0_ n1_ n2_ n3_ n4_ n5_ n6_
  go_wp2_with fail
  refine (laws_markVersionS.calls k (Iv w4.heap.size w5.heap.size) _ t13 1 t29 t30 w _ (by repeat (first | (with_reducible first | exact HB.out | apply below_alloc | apply pw_below_drewN | apply below_drew1) | exact HB.out)) (by (with_reducible repeat (first | apply Kd.S_alloc | apply Kd.S_drewN | apply Kd.S_drew)); exact HO_row16.out) Q31.out).mono ?_
  rintro e w11 ⟨rfl, ho0, hb, hk⟩
  have n0_ := Aside0.mk (ho0)
  have n1_ := Aside0.mk (Kd.S_kept (by (with_reducible repeat (first | apply Kd.S_alloc | apply Kd.S_drewN | apply Kd.S_drew)); exact HO_row5.out) hk (fun k_ h1_ h2_ => by unfold Iv at h1_ h2_; have m2_ := M2.out; have m3_ := M3.out; have m4_ := M4.out; have m5_ := M5.out; have m7_ := M7.out; omega))
  have n2_ := Aside0.mk (Kd.N_kept (by (with_reducible repeat (first | apply Kd.N_alloc | apply Kd.N_drewN | apply Kd.N_drew)); exact HO_row9.out) hk (fun k_ h1_ h2_ => by unfold Iv at h1_ h2_; have m2_ := M2.out; have m3_ := M3.out; have m4_ := M4.out; have m5_ := M5.out; have m7_ := M7.out; omega))
  have n3_ := Aside0.mk (Kd.S_kept (by (with_reducible repeat (first | apply Kd.S_alloc | apply Kd.S_drewN | apply Kd.S_drew)); exact HO_row12.out) hk (fun k_ h1_ h2_ => by unfold Iv at h1_ h2_; have m2_ := M2.out; have m3_ := M3.out; have m4_ := M4.out; have m5_ := M5.out; have m7_ := M7.out; omega))
  have n4_ := Aside0.mk (Kd.S_kept (by (with_reducible repeat (first | apply Kd.S_alloc | apply Kd.S_drewN | apply Kd.S_drew)); exact HO_row21.out) hk (fun k_ h1_ h2_ => by unfold Iv at h1_ h2_; have m2_ := M2.out; have m3_ := M3.out; have m4_ := M4.out; have m5_ := M5.out; have m7_ := M7.out; omega))
  have n5_ := Aside0.mk (Nat.le_trans (by repeat (first | (with_reducible first | exact HS.out | apply sz_alloc | apply sz_drewN | apply sz_drew) | exact HS.out)) hk.1)
  have n6_ := Aside0.mk (hb)
  clear HB HS HO_row5 HO_row9 HO_row12 HO_row16 HO_row21 hb hk ho0
  have HO_row16 := n0_
  have HO_row5 := n1_
  have HO_row9 := n2_
  have HO_row12 := n3_
  have HO_row21 := n4_
  have HS := n5_
  have HB := n6_
  clear n0_ n1_ n2_ n3_ n4_ n5_ n6_
  have LN_row16 := Aside0.mk (Kd.S_reads' HO_row16.out).1
  go_wp2_with fail
  refine calls_of_args (args' := #[.slice _ t30.length _, _]) (by rw [← LN_row16.out]) ?_
  refine (laws_heldVersionS.calls k _ _ t30 1 t32 _ (by exact (Kd.S_reads' (by (with_reducible repeat (first | apply Kd.S_alloc | apply Kd.S_drewN | apply Kd.S_drew)); exact HO_row16.out)).2.2) (by rw [← LN_row16.out]; exact (Kd.S_reads' HO_row16.out).2.1) Q33.out).mono ?_
  rintro e w12 ⟨rfl, hb⟩
  have n0_ := Aside0.mk (Kd.S_below (by (with_reducible repeat (first | apply Kd.S_alloc | apply Kd.S_drewN | apply Kd.S_drew)); exact HO_row5.out) hb)
  have n1_ := Aside0.mk (Kd.N_below (by (with_reducible repeat (first | apply Kd.N_alloc | apply Kd.N_drewN | apply Kd.N_drew)); exact HO_row9.out) hb)
  have n2_ := Aside0.mk (Kd.S_below (by (with_reducible repeat (first | apply Kd.S_alloc | apply Kd.S_drewN | apply Kd.S_drew)); exact HO_row12.out) hb)
  have n3_ := Aside0.mk (Kd.S_below (by (with_reducible repeat (first | apply Kd.S_alloc | apply Kd.S_drewN | apply Kd.S_drew)); exact HO_row16.out) hb)
  have n4_ := Aside0.mk (Kd.S_below (by (with_reducible repeat (first | apply Kd.S_alloc | apply Kd.S_drewN | apply Kd.S_drew)); exact HO_row21.out) hb)
  have n5_ := Aside0.mk (Nat.le_trans (by repeat (first | (with_reducible first | exact HS.out | apply sz_alloc | apply sz_drewN | apply sz_drew) | exact HS.out)) hb.size)
  have n6_ := Aside0.mk (below_step (by repeat (first | (with_reducible first | exact HB.out | apply below_alloc | apply pw_below_drewN | apply below_drew1) | exact HB.out)) hb)
  clear HB HS HO_row5 HO_row9 HO_row12 HO_row16 HO_row21 hb
  have HO_row5 := n0_
  have HO_row9 := n1_
  have HO_row12 := n2_
  have HO_row16 := n3_
  have HO_row21 := n4_
  have HS := n5_
  have HB := n6_
  clear n0_ n1_ n2_ n3_ n4_ n5_ n6_
  go_wp2_with fail
  refine (laws_toVersionS.calls k _ _ l0 t34 _ (by exact Kd.C_below HR0.out (by repeat (first | (with_reducible first | exact HB.out | apply below_alloc | apply pw_below_drewN | apply below_drew1) | exact HB.out))) HC0.out Q35.out).mono ?_
  rintro e w13 ⟨v0, rfl, ho0, hb⟩
  have n0_ := Aside0.mk (Kd.S_below (by (with_reducible repeat (first | apply Kd.S_alloc | apply Kd.S_drewN | apply Kd.S_drew)); exact HO_row5.out) hb)
  have n1_ := Aside0.mk (Kd.N_below (by (with_reducible repeat (first | apply Kd.N_alloc | apply Kd.N_drewN | apply Kd.N_drew)); exact HO_row9.out) hb)
  have n2_ := Aside0.mk (Kd.S_below (by (with_reducible repeat (first | apply Kd.S_alloc | apply Kd.S_drewN | apply Kd.S_drew)); exact HO_row12.out) hb)
  have n3_ := Aside0.mk (Kd.S_below (by (with_reducible repeat (first | apply Kd.S_alloc | apply Kd.S_drewN | apply Kd.S_drew)); exact HO_row16.out) hb)
  have n4_ := Aside0.mk (Kd.S_below (by (with_reducible repeat (first | apply Kd.S_alloc | apply Kd.S_drewN | apply Kd.S_drew)); exact HO_row21.out) hb)
  have n5_ := Aside0.mk (Iv_S (lo := w7.heap.size) (W := _) ho0 (below_size (by repeat (first | (with_reducible first | exact HB.out | apply below_alloc | apply pw_below_drewN | apply below_drew1) | exact HB.out))) (by repeat (first | (with_reducible first | exact HS.out | apply sz_alloc | apply sz_drewN | apply sz_drew) | exact HS.out)))
  have n6_ := Aside0.mk (Nat.le_refl w13.heap.size)
  have n7_ := Aside0.mk (Nat.le_trans (by repeat (first | (with_reducible first | exact HS.out | apply sz_alloc | apply sz_drewN | apply sz_drew) | exact HS.out)) hb.size)
  have n8_ := Aside0.mk (below_step (by repeat (first | (with_reducible first | exact HB.out | apply below_alloc | apply pw_below_drewN | apply below_drew1) | exact HB.out)) hb)
  clear HB HS HO_row5 HO_row9 HO_row12 HO_row16 HO_row21 hb ho0
  have HO_row5 := n0_
  have HO_row9 := n1_
  have HO_row12 := n2_
  have HO_row16 := n3_
  have HO_row21 := n4_
  have HO_row36 := n5_
  have HS := n6_
  have M13 := n7_
  have HB := n8_
  clear n0_ n1_ n2_ n3_ n4_ n5_ n6_ n7_ n8_
  obtain ⟨A_row36, c_row36, rfl⟩ := Kd.S_slice HO_row36.out
  go_wp2_with fail
  refine (impl_UndoVersion.calls k _ _ t34 a1 t37 t38 _ (Door1.at HD.out (by repeat (first | (with_reducible first | exact HB.out | apply below_alloc | apply pw_below_drewN | apply below_drew1) | exact HB.out))) (by exact (Kd.S_reads' (by (with_reducible repeat (first | apply Kd.S_alloc | apply Kd.S_drewN | apply Kd.S_drew)); exact HO_row36.out)).2.2) (by exact (Kd.S_reads' HO_row36.out).2.1) Q39.out).mono ?_
  rintro e w14 ⟨v0, rfl, ho0, hb⟩
  have n0_ := Aside0.mk (Kd.S_below (by (with_reducible repeat (first | apply Kd.S_alloc | apply Kd.S_drewN | apply Kd.S_drew)); exact HO_row5.out) hb)
  have n1_ := Aside0.mk (Kd.N_below (by (with_reducible repeat (first | apply Kd.N_alloc | apply Kd.N_drewN | apply Kd.N_drew)); exact HO_row9.out) hb)
  have n2_ := Aside0.mk (Kd.S_below (by (with_reducible repeat (first | apply Kd.S_alloc | apply Kd.S_drewN | apply Kd.S_drew)); exact HO_row12.out) hb)
  have n3_ := Aside0.mk (Kd.S_below (by (with_reducible repeat (first | apply Kd.S_alloc | apply Kd.S_drewN | apply Kd.S_drew)); exact HO_row16.out) hb)
  have n4_ := Aside0.mk (Kd.S_below (by (with_reducible repeat (first | apply Kd.S_alloc | apply Kd.S_drewN | apply Kd.S_drew)); exact HO_row21.out) hb)
  have n5_ := Aside0.mk (Kd.S_below (by (with_reducible repeat (first | apply Kd.S_alloc | apply Kd.S_drewN | apply Kd.S_drew)); exact HO_row36.out) hb)
  have n6_ := Aside0.mk (Iv_S (lo := w13.heap.size) (W := _) ho0 (below_size (by repeat (first | (with_reducible first | exact HB.out | apply below_alloc | apply pw_below_drewN | apply below_drew1) | exact HB.out))) (by repeat (first | (with_reducible first | exact HS.out | apply sz_alloc | apply sz_drewN | apply sz_drew) | exact HS.out)))
  have n7_ := Aside0.mk (Nat.le_refl w14.heap.size)
  have n8_ := Aside0.mk (Nat.le_trans (by repeat (first | (with_reducible first | exact HS.out | apply sz_alloc | apply sz_drewN | apply sz_drew) | exact HS.out)) hb.size)
  have n9_ := Aside0.mk (below_step (by repeat (first | (with_reducible first | exact HB.out | apply below_alloc | apply pw_below_drewN | apply below_drew1) | exact HB.out)) hb)
  clear HB HS HO_row5 HO_row9 HO_row12 HO_row16 HO_row21 HO_row36 hb ho0
  have HO_row5 := n0_
  have HO_row9 := n1_
  have HO_row12 := n2_
  have HO_row16 := n3_
  have HO_row21 := n4_
  have HO_row36 := n5_
  have HO_row40 := n6_
  have HS := n7_
  have M14 := n8_
  have HB := n9_
  clear n0_ n1_ n2_ n3_ n4_ n5_ n6_ n7_ n8_ n9_
  obtain ⟨A_row40, c_row40, rfl⟩ := Kd.S_slice HO_row40.out
  go_wp2_with fail
  refine (laws_eqVersionS.calls k _ _ t37 _ _ t6 true _ (by exact (Kd.S_reads' (by (with_reducible repeat (first | apply Kd.S_alloc | apply Kd.S_drewN | apply Kd.S_drew)); exact HO_row40.out)).2.2) (by exact (Kd.S_reads' HO_row40.out).2.1) (by exact (Kd.N_reads' (by (with_reducible repeat (first | apply Kd.N_alloc | apply Kd.N_drewN | apply Kd.N_drew)); exact HO_row9.out)).2.2) (by exact (Kd.N_reads' HO_row9.out).2.1) Q42.out).mono ?_
  rintro e w15 ⟨rfl, hb⟩
  have n0_ := Aside0.mk (Kd.S_below (by (with_reducible repeat (first | apply Kd.S_alloc | apply Kd.S_drewN | apply Kd.S_drew)); exact HO_row5.out) hb)
  have n1_ := Aside0.mk (Kd.N_below (by (with_reducible repeat (first | apply Kd.N_alloc | apply Kd.N_drewN | apply Kd.N_drew)); exact HO_row9.out) hb)
  have n2_ := Aside0.mk (Kd.S_below (by (with_reducible repeat (first | apply Kd.S_alloc | apply Kd.S_drewN | apply Kd.S_drew)); exact HO_row12.out) hb)
  have n3_ := Aside0.mk (Kd.S_below (by (with_reducible repeat (first | apply Kd.S_alloc | apply Kd.S_drewN | apply Kd.S_drew)); exact HO_row16.out) hb)
  have n4_ := Aside0.mk (Kd.S_below (by (with_reducible repeat (first | apply Kd.S_alloc | apply Kd.S_drewN | apply Kd.S_drew)); exact HO_row21.out) hb)
  have n5_ := Aside0.mk (Kd.S_below (by (with_reducible repeat (first | apply Kd.S_alloc | apply Kd.S_drewN | apply Kd.S_drew)); exact HO_row36.out) hb)
  have n6_ := Aside0.mk (Kd.S_below (by (with_reducible repeat (first | apply Kd.S_alloc | apply Kd.S_drewN | apply Kd.S_drew)); exact HO_row40.out) hb)
  have n7_ := Aside0.mk (Nat.le_trans (by repeat (first | (with_reducible first | exact HS.out | apply sz_alloc | apply sz_drewN | apply sz_drew) | exact HS.out)) hb.size)
  have n8_ := Aside0.mk (below_step (by repeat (first | (with_reducible first | exact HB.out | apply below_alloc | apply pw_below_drewN | apply below_drew1) | exact HB.out)) hb)
  clear HB HS HO_row5 HO_row9 HO_row12 HO_row16 HO_row21 HO_row36 HO_row40 hb
  have HO_row5 := n0_
  have HO_row9 := n1_
  have HO_row12 := n2_
  have HO_row16 := n3_
  have HO_row21 := n4_
  have HO_row36 := n5_
  have HO_row40 := n6_
  have HS := n7_
  have HB := n8_
  clear n0_ n1_ n2_ n3_ n4_ n5_ n6_ n7_ n8_
  go_wp2_with fail
  refine calls_of_args (args' := #[.slice _ t30.length _, _]) (by rw [← LN_row16.out]) ?_
  refine (laws_heldVersionS.calls k _ _ t30 1 t43 _ (by exact (Kd.S_reads' (by (with_reducible repeat (first | apply Kd.S_alloc | apply Kd.S_drewN | apply Kd.S_drew)); exact HO_row16.out)).2.2) (by rw [← LN_row16.out]; exact (Kd.S_reads' HO_row16.out).2.1) Q44.out).mono ?_
  rintro e w16 ⟨rfl, hb⟩
  have n0_ := Aside0.mk (Kd.S_below (by (with_reducible repeat (first | apply Kd.S_alloc | apply Kd.S_drewN | apply Kd.S_drew)); exact HO_row5.out) hb)
  have n1_ := Aside0.mk (Kd.N_below (by (with_reducible repeat (first | apply Kd.N_alloc | apply Kd.N_drewN | apply Kd.N_drew)); exact HO_row9.out) hb)
  have n2_ := Aside0.mk (Kd.S_below (by (with_reducible repeat (first | apply Kd.S_alloc | apply Kd.S_drewN | apply Kd.S_drew)); exact HO_row12.out) hb)
  have n3_ := Aside0.mk (Kd.S_below (by (with_reducible repeat (first | apply Kd.S_alloc | apply Kd.S_drewN | apply Kd.S_drew)); exact HO_row16.out) hb)
  have n4_ := Aside0.mk (Kd.S_below (by (with_reducible repeat (first | apply Kd.S_alloc | apply Kd.S_drewN | apply Kd.S_drew)); exact HO_row21.out) hb)
  have n5_ := Aside0.mk (Kd.S_below (by (with_reducible repeat (first | apply Kd.S_alloc | apply Kd.S_drewN | apply Kd.S_drew)); exact HO_row36.out) hb)
  have n6_ := Aside0.mk (Kd.S_below (by (with_reducible repeat (first | apply Kd.S_alloc | apply Kd.S_drewN | apply Kd.S_drew)); exact HO_row40.out) hb)
  have n7_ := Aside0.mk (Nat.le_trans (by repeat (first | (with_reducible first | exact HS.out | apply sz_alloc | apply sz_drewN | apply sz_drew) | exact HS.out)) hb.size)
  have n8_ := Aside0.mk (below_step (by repeat (first | (with_reducible first | exact HB.out | apply below_alloc | apply pw_below_drewN | apply below_drew1) | exact HB.out)) hb)
  clear HB HS HO_row5 HO_row9 HO_row12 HO_row16 HO_row21 HO_row36 HO_row40 hb
  have HO_row5 := n0_
  have HO_row9 := n1_
  have HO_row12 := n2_
  have HO_row16 := n3_
  have HO_row21 := n4_
  have HO_row36 := n5_
  have HO_row40 := n6_
  have HS := n7_
  have HB := n8_
  clear n0_ n1_ n2_ n3_ n4_ n5_ n6_ n7_ n8_
  go_wp2_with fail
  go_ret
  exact ⟨rfl, (by repeat (first | (with_reducible first | exact HB.out | apply below_alloc | apply pw_below_drewN | apply below_drew1) | exact HB.out))⟩
theorem laws_FnExactUndoVersion.calls (k : Nat) (A0 : Option Addr) (c0 : Nat) (l0 : List S38) (a1 : Int) (r : Bool) (w : World) (hD : Door1 w) (hr0 : Kd.C k38 w A0 l0.length l0) (hc0 : l0.length ≤ c0) (h : laws_FnExactUndoVersion.f k l0 a1 = some r) :
    Calls Tryd.prog 7 #[.slice A0 l0.length c0, .int .i64 a1] w fun e w' => e = .returned (.bool r) ∧ Below w.heap.size w w' := by
  unfold laws_FnExactUndoVersion.f at h
  obtain ⟨t1, Q2, h⟩ := Option.bind_eq_some_iff.mp h
  by_cases e1 : t1 < 0
  · rw [if_pos e1] at h; obtain rfl := Option.some.inj h; exact laws_FnExactUndoVersion.early0 k A0 c0 l0 a1 w hD hr0 hc0 t1 ⟨Q2⟩ e1
  rw [if_neg e1] at h
  unfold laws_FnExactUndoVersion.g at h
  obtain ⟨t3, Q4, h⟩ := Option.bind_eq_some_iff.mp h
  obtain ⟨⟨t6, t7⟩, Q8, h⟩ := Option.bind_eq_some_iff.mp h
  dsimp only at h
  obtain ⟨t10, Q11, h⟩ := Option.bind_eq_some_iff.mp h
  obtain ⟨⟨t13, t14⟩, Q15, h⟩ := Option.bind_eq_some_iff.mp h
  dsimp only at h
  by_cases Q18 : laws_eqVersionS.f k t13 t6 = some true
  rotate_left
  · rw [if_neg Q18] at h; exact absurd h (by simp)
  rw [if_pos Q18] at h
  by_cases e7 : t14 = t7
  rotate_left
  · rw [if_neg e7] at h; exact absurd h (by simp)
  rw [if_pos e7] at h
  obtain ⟨t19, Q20, h⟩ := Option.bind_eq_some_iff.mp h
  by_cases Q23 : laws_eqVersionS.f k t10 t19 = some true
  rotate_left
  · rw [if_neg Q23] at h; exact absurd h (by simp)
  rw [if_pos Q23] at h
  obtain ⟨⟨t24, t25⟩, Q26, h⟩ := Option.bind_eq_some_iff.mp h
  dsimp only at h
  by_cases e11 : t24 < 0
  · rw [if_pos e11] at h; exact absurd h (by simp)
  rw [if_neg e11] at h
  by_cases Q28 : laws_eqVersionS.f k t13 t6 = some true
  rotate_left
  · rw [if_neg Q28] at h; exact absurd h (by simp)
  rw [if_pos Q28] at h
  by_cases e13 : t14 = t7
  rotate_left
  · rw [if_neg e13] at h; exact absurd h (by simp)
  rw [if_pos e13] at h
  obtain ⟨⟨t29, t30⟩, Q31, h⟩ := Option.bind_eq_some_iff.mp h
  dsimp only at h
  obtain ⟨t32, Q33, h⟩ := Option.bind_eq_some_iff.mp h
  by_cases e16 : t32 < 0
  · rw [if_pos e16] at h; exact absurd h (by simp)
  rw [if_neg e16] at h
  by_cases e17 : t32 = t29
  rotate_left
  · rw [if_neg e17] at h; exact absurd h (by simp)
  rw [if_pos e17] at h
  obtain ⟨t34, Q35, h⟩ := Option.bind_eq_some_iff.mp h
  obtain ⟨⟨t37, t38⟩, Q39, h⟩ := Option.bind_eq_some_iff.mp h
  dsimp only at h
  by_cases Q42 : laws_eqVersionS.f k t37 t6 = some true
  rotate_left
  · rw [if_neg Q42] at h; exact absurd h (by simp)
  rw [if_pos Q42] at h
  by_cases e21 : t38 = t7
  rotate_left
  · rw [if_neg e21] at h; exact absurd h (by simp)
  rw [if_pos e21] at h
  obtain ⟨t43, Q44, h⟩ := Option.bind_eq_some_iff.mp h
  by_cases e23 : t43 < 0
  · rw [if_pos e23] at h; exact absurd h (by simp)
  rw [if_neg e23] at h
  by_cases e24 : t43 = t29
  rotate_left
  · rw [if_neg e24] at h; exact absurd h (by simp)
  rw [if_pos e24] at h
  obtain rfl := Option.some.inj h
  exact laws_FnExactUndoVersion.main k A0 c0 l0 a1 w hD hr0 hc0 t1 t3 t6 t7 t10 t13 t14 t19 t24 t25 t29 t30 t32 t34 t37 t38 t43 ⟨Q2⟩ e1 ⟨Q4⟩ ⟨Q8⟩ ⟨Q11⟩ ⟨Q15⟩ ⟨Q18⟩ e7 ⟨Q20⟩ ⟨Q23⟩ ⟨Q26⟩ e11 ⟨Q28⟩ e13 ⟨Q31⟩ ⟨Q33⟩ e16 e17 ⟨Q35⟩ ⟨Q39⟩ ⟨Q42⟩ e21 ⟨Q44⟩ e23 e24

end Go.Proofs.YtoneejhafmneiaaDoor.P

namespace Go.Proofs.YtoneejhafmneiaaDoorO
open Go.RowKit Go.WideShapes Go.Proofs.YtoneejhafmneiaaDoorW.PrintWords

theorem addr_add_add (a : Addr) (m i : Nat) : (a.add m).add i = a.add (m + i) := by
  unfold Addr.add
  by_cases h1 : m = 0
  · subst h1; simp
  · by_cases h2 : i = 0
    · subst h2; simp [h1]
    · have h3 : ¬ (m + i = 0) := by omega
      simp [h1, h2, Nat.add_assoc]

/-- Whatever the claim reads at this type is a value of this kind, of which G holds. -/
def Opens {α : Type} (P : Program) (t : TypeId) (d : Kd α) (G : α → Prop) : Prop :=
  ∀ (H : Type) (enc : TypeId × Value → H) (w : World) (base : Nat) (spare : Nat → Bool) (held : Bool) (fuel : Nat) (cs : List Value) (x : DataW H × List MemPlace),
    DataW.trod enc P w base spare held fuel t cs = some x → ∃ a : α, d.K w a cs ∧ G a

section
variable {α β : Type} {P : Program} {t e : TypeId} {d : Kd α} {G : α → Prop}

theorem opens_int {k : IntKind} (ht : P.underlying t = some (.int k)) : Opens P t (Kd.int k) (fun n => (Lit.int k n).wf = true) := by
  intro H enc w base spare held fuel cs x h
  obtain ⟨n, rfl, _, hw⟩ := DataW.trod_int ht h
  exact ⟨n, rfl, hw⟩
theorem opens_string (ht : P.underlying t = some .string) : Opens P t Kd.string (fun s => s.size ≤ maxLen) := by
  intro H enc w base spare held fuel cs x h
  obtain ⟨n, rfl, _, hs⟩ := DataW.trod_string ht h
  exact ⟨n, rfl, hs⟩

theorem list_of_each {p : Nat → α → Prop} : ∀ n : Nat, (∀ i, i < n → ∃ a, p i a) → ∃ l : List α, l.length = n ∧ ∀ i a, l[i]? = some a → p i a
  | 0, _ => ⟨[], rfl, fun i a h => by simp at h⟩
  | n + 1, h => by
    obtain ⟨l, hl, hp⟩ := list_of_each n (fun i hi => h i (by omega))
    obtain ⟨a, ha⟩ := h n (by omega)
    refine ⟨l ++ [a], by simp [hl], fun i b hb => ?_⟩
    by_cases hi : i < l.length
    · rw [List.getElem?_append_left hi] at hb
      exact hp i b hb
    · rw [List.getElem?_append_right (by omega)] at hb
      have h0 : i - l.length = 0 := by
        have := (List.getElem?_eq_some_iff.1 hb).1
        simp at this
        omega
      rw [h0] at hb
      have hi2 : i = n := by omega
      subst hi2
      simp at hb
      subst hb
      exact ha

theorem opens_slice (ht : P.underlying t = some (.slice e)) (hc : P.cellsOf e = d.sz) (hd : Opens P e d G) : Opens P t (Kd.slice e d) (fun l => l.length ≤ maxLen ∧ ∀ x ∈ l, G x) := by
  intro H enc w base spare held fuel cs x h
  rcases DataW.trod_slice ht h with ⟨rfl, _⟩ | ⟨a, len, cap, elems, rest, n, _, rfl, _, hb, hl, hm, hlen, hel, _, _⟩
  · exact ⟨[], ⟨none, 0, rfl, Nat.le_refl _, rfl, by simp, fun hp => by simp at hp⟩, by simp, by simp⟩
  · have each : ∀ i, i < len → ∃ x : α, G x ∧ ∃ c, c.length = d.sz ∧ d.K w x c ∧ ∀ j u, c[j]? = some u → w.cell? (a.add (i * d.sz + j)) = some u := by
      intro i hi
      have h1 := hel i hi
      have h2 : ∃ y, elems[i]? = some y := ⟨elems[i]'(by omega), List.getElem?_eq_getElem (by omega)⟩
      obtain ⟨y, hy⟩ := h2
      rw [hy, Option.bind_eq_some_iff] at h1
      obtain ⟨c, hcs, hy'⟩ := h1
      obtain ⟨x, hK, hG⟩ := hd H enc w base spare held n c y hy'
      refine ⟨x, hG, c, d.K_len hK, hK, fun j u hu => ?_⟩
      have hx := World.cells?_some hcs
      have hj : j < P.cellsOf e := by
        have := (List.getElem?_eq_some_iff.1 hu).1
        have := hx.2.1
        omega
      have hz := hx.2.2 j hj
      rw [addr_add_add, hc, hu] at hz
      exact hz
    obtain ⟨l, hll, hp⟩ := list_of_each len each
    refine ⟨l, ⟨some a, cap, by rw [hll], by omega, rfl, by simp only [maxLen] at hm; omega, fun _ => ⟨a, rfl, fun j p hj => ?_⟩⟩, by simp only [maxLen] at hm ⊢; omega, fun x hx => ?_⟩
    · exact (hp j p hj).2
    · obtain ⟨i, hi, hi2⟩ := List.getElem_of_mem hx
      exact (hp i x (by rw [List.getElem?_eq_getElem hi, hi2])).1

def OpensFs {α : Type} (P : Program) (fs : List Field) (o : Nat) (d : Kd α) (G : α → Prop) : Prop :=
  ∀ (H : Type) (enc : TypeId × Value → H) (w : World) (base : Nat) (spare : Nat → Bool) (held : Bool) (fuel : Nat) (cs : List Value),
    cs.length = o + d.sz → (∀ (i : Nat) (f : Field), fs[i]? = some f → ∃ x, DataW.trod enc P w base spare held fuel f.type ((cs.drop f.offset).take (P.cellsOf f.type)) = some x) → ∃ a : α, d.K w a (cs.drop o) ∧ G a
theorem opensFs_last {f : Field} {o : Nat} (ho : f.offset = o) (hc : P.cellsOf f.type = d.sz) (h : Opens P f.type d G) : OpensFs P [f] o d G := by
  intro H enc w base spare held fuel cs hl hx
  obtain ⟨x, hx⟩ := hx 0 f rfl
  rw [ho, hc, List.take_of_length_le (by rw [List.length_drop]; omega)] at hx
  exact h H enc w base spare held fuel _ x hx
theorem opensFs_cons {f : Field} {fs : List Field} {o : Nat} {d2 : Kd β} {G2 : β → Prop} (ho : f.offset = o) (hc : P.cellsOf f.type = d.sz) (h : Opens P f.type d G) (h2 : OpensFs P fs (o + d.sz) d2 G2) :
    OpensFs P (f :: fs) o (Kd.pair d d2) (fun x => G x.1 ∧ G2 x.2) := by
  intro H enc w base spare held fuel cs hl hx
  have hl' : cs.length = o + (d.sz + d2.sz) := hl
  obtain ⟨x, hx0⟩ := hx 0 f rfl
  rw [ho, hc] at hx0
  obtain ⟨a, hK, hG⟩ := h H enc w base spare held fuel _ x hx0
  obtain ⟨b, hK2, hG2⟩ := h2 H enc w base spare held fuel cs (by omega) (fun i f2 hf => hx (i + 1) f2 (by simpa using hf))
  refine ⟨(a, b), ⟨_, _, ?_, hK, hK2⟩, hG, hG2⟩
  rw [← List.drop_drop]
  exact (List.take_append_drop d.sz (cs.drop o)).symm
theorem opens_struct {fs : Array Field} (ht : P.underlying t = some (.struct fs)) (hc : P.cellsOf t = d.sz) (h : OpensFs P fs.toList 0 d G) : Opens P t d G := by
  intro H enc w base spare held fuel cs x hx
  obtain ⟨xs, n, _, _, hl, hxl, hf⟩ := DataW.trod_struct ht hx
  have := h H enc w base spare held n cs (by omega) (fun i f hif => by
    have hif' : fs[i]? = some f := by simpa using hif
    have hi : i < xs.length := by
      rw [hxl]
      exact (Array.getElem?_eq_some_iff.1 hif').1
    exact ⟨xs[i], by rw [hf i f hif', List.getElem?_eq_getElem hi]⟩)
  simpa using this
theorem opens_iso (f : β → α) (g : α → β) (hfg : ∀ a, f (g a) = a) (h : Opens P t d G) : Opens P t (Kd.iso d f) (fun b => G (f b)) := by
  intro H enc w base spare held fuel cs x hx
  obtain ⟨a, hK, hG⟩ := h H enc w base spare held fuel cs x hx
  exact ⟨g a, by show d.K w (f (g a)) cs; rw [hfg]; exact hK, by show G (f (g a)); rw [hfg]; exact hG⟩
end
end Go.Proofs.YtoneejhafmneiaaDoorO

namespace Go.Proofs.YtoneejhafmneiaaDoor
open Go.RowKit Go.Proofs.YtoneejhafmneiaaDoorO Go.Proofs.YtoneejhafmneiaaDoorW.PrintWords
def g107 (x : P.S107) : Prop := x.f0.size ≤ maxLen ∧ (Lit.int .i64 x.f1).wf = true
theorem open107 : Opens Tryd.prog 107 P.k107 g107 :=
  opens_iso (fun x : P.S107 => (x.f0, x.f1)) (fun a => ⟨a.1, a.2⟩) (fun _ => rfl) (opens_struct Tryd.underlying107 (by kernel_rfl) (opensFs_cons (by rfl) (by kernel_rfl) (opens_string Tryd.underlying9) (opensFs_last (by rfl) (by kernel_rfl) (opens_int Tryd.underlying2))))
def g38 (x : P.S38) : Prop := (Lit.int .i64 x.f0).wf = true ∧ (Lit.int .i64 x.f1).wf = true ∧ x.f2.size ≤ maxLen ∧ (x.f3.length ≤ maxLen ∧ ∀ y ∈ x.f3, g107 y)
theorem open38 : Opens Tryd.prog 38 P.k38 g38 :=
  opens_iso (fun x : P.S38 => (x.f0, x.f1, x.f2, x.f3)) (fun a => ⟨a.1, a.2.1, a.2.2.1, a.2.2.2⟩) (fun _ => rfl) (opens_struct Tryd.underlying38 (by kernel_rfl) (opensFs_cons (by rfl) (by kernel_rfl) (opens_int Tryd.underlying2) (opensFs_cons (by rfl) (by kernel_rfl) (opens_int Tryd.underlying2) (opensFs_cons (by rfl) (by kernel_rfl) (opens_string Tryd.underlying9) (opensFs_last (by rfl) (by kernel_rfl) (opens_slice Tryd.underlying36 (by kernel_rfl) open107))))))
end Go.Proofs.YtoneejhafmneiaaDoor

namespace Go.Proofs.YtoneejhafmneiaaDoorL
open Go.RowKit Go.Proofs.YtoneejhafmneiaaDoorW.PrintWords

theorem wrap_id {x : Int} (h0 : -9223372036854775808 ≤ x) (h1 : x ≤ 9223372036854775807) : wrap64 x = x := by unfold wrap64; omega
theorem wrap_succ {i n : Nat} (h : i < n) (hn : n ≤ 4611686018427387904) : wrap64 ((i : Int) + 1) = ((i + 1 : Nat) : Int) := by
  rw [wrap_id (by omega) (by omega)]; omega
theorem lt_cast {i n : Nat} (h : i < n) : (i : Int) < (n : Int) := by omega
theorem nn_cast (i : Nat) : 0 ≤ (i : Int) := by omega
theorem nlt_cast (n : Nat) : ¬ ((n : Int) < (n : Int)) := by omega
theorem drop_cons {α : Type} {l : List α} {i : Nat} (h : i < l.length) : l.drop i = l[i] :: l.drop (i + 1) := List.drop_eq_getElem_cons h

/-- A loop that fills a list that was made, place by place. -/
theorem set_loop {α β : Type} (L : Nat → List β → Int → Option (List β)) (l : List α) (g : α → β) (B : Nat)
    (step : ∀ (k i : Nat) (hi : i < l.length) (acc : List β), acc.length = l.length → B ≤ k → L (k + 1) acc (i : Int) = L k (acc.set i (g l[i])) ((i + 1 : Nat) : Int))
    (stop : ∀ (k : Nat) (acc : List β), L (k + 1) acc (l.length : Int) = some acc) :
    ∀ (k : Nat) (acc : List β), B + l.length < k → acc.length = l.length → L k acc 0 = some (l.map g) := by
  have main : ∀ (d k i : Nat) (acc : List β), i + d = l.length → B + d < k → acc.length = l.length → L k acc (i : Int) = some (acc.take i ++ (l.drop i).map g) := by
    intro d
    induction d with
    | zero =>
      intro k i acc hi hk ha
      obtain ⟨k, rfl⟩ : ∃ m, k = m + 1 := ⟨k - 1, by omega⟩
      have : i = l.length := by omega
      subst this
      rw [stop k acc, List.drop_length, List.take_of_length_le (by omega)]
      simp
    | succ d ih =>
      intro k i acc hi hk ha
      obtain ⟨k, rfl⟩ : ∃ m, k = m + 1 := ⟨k - 1, by omega⟩
      have hlt : i < l.length := by omega
      rw [step k i hlt acc ha (by omega), ih k (i + 1) _ (by omega) (by omega) (by simpa using ha), drop_cons hlt]
      have h2 : (acc.set i (g l[i])).take (i + 1) = acc.take i ++ [g l[i]] := by
        rw [List.take_succ_eq_append_getElem (by simp; omega)]
        have h3 : (acc.set i (g l[i])).take i = acc.take i := by
          apply List.ext_getElem
          · simp
          · intro j h1 h2
            simp at h1
            simp [List.getElem_set_ne (show i ≠ j by omega)]
        rw [h3]
        simp
      rw [h2]
      simp only [List.append_assoc, List.singleton_append, List.map_cons]
  intro k acc hk ha
  have := main l.length k 0 acc (by omega) hk ha
  simpa using this

/-- A loop that compares two lists of one length, place by place. -/
theorem eq_loop {α : Type} [DecidableEq α] (L : Nat → Int → Option Bool) (a b : List α) (hab : a.length = b.length) (B : Nat)
    (step : ∀ (k i : Nat) (h : i < a.length) (h2 : i < b.length), B ≤ k → L (k + 1) (i : Int) = if a[i] = b[i] then L k ((i + 1 : Nat) : Int) else some false)
    (stop : ∀ (k : Nat), L (k + 1) (a.length : Int) = some true) :
    ∀ (k : Nat), B + a.length < k → L k 0 = some (decide (a = b)) := by
  have main : ∀ (d k i : Nat), i + d = a.length → B + d < k → L k (i : Int) = some (decide (a.drop i = b.drop i)) := by
    intro d
    induction d with
    | zero =>
      intro k i hi hk
      obtain ⟨k, rfl⟩ : ∃ m, k = m + 1 := ⟨k - 1, by omega⟩
      obtain rfl : i = a.length := by omega
      rw [stop k, List.drop_length, hab, List.drop_length]
      rfl
    | succ d ih =>
      intro k i hi hk
      obtain ⟨k, rfl⟩ : ∃ m, k = m + 1 := ⟨k - 1, by omega⟩
      have h1 : i < a.length := by omega
      have h2 : i < b.length := by omega
      rw [step k i h1 h2 (by omega), ih k (i + 1) (by omega) (by omega)]
      rw [show (decide (a.drop i = b.drop i)) = decide (a[i] = b[i] ∧ a.drop (i + 1) = b.drop (i + 1)) from by
        congr 1; rw [drop_cons h1, drop_cons h2, List.cons.injEq]]
      by_cases e : a[i] = b[i]
      · rw [if_pos e]; simp [e]
      · rw [if_neg e]; simp [e]
  intro k hk
  have := main a.length k 0 (by omega) hk
  simpa using this

/-- A loop that asks each index below n and stops at the first that says no. -/
theorem all_loop (L : Nat → Int → Option Bool) (n : Nat) (p : Nat → Bool) (fin : Bool) (B : Nat)
    (step : ∀ (k i : Nat), i < n → B ≤ k → L (k + 1) (i : Int) = if p i = true then L k ((i + 1 : Nat) : Int) else some false)
    (stop : ∀ (k : Nat), B ≤ k → L (k + 1) (n : Int) = some fin) :
    ∀ (k : Nat), B + n < k → L k 0 = some ((List.range n).all p && fin) := by
  have main : ∀ (d k i : Nat), i + d = n → B + d < k → L k (i : Int) = some ((List.range' i d).all p && fin) := by
    intro d
    induction d with
    | zero =>
      intro k i hi hk
      obtain ⟨k, rfl⟩ : ∃ m, k = m + 1 := ⟨k - 1, by omega⟩
      obtain rfl : i = n := by omega
      rw [stop k (by omega)]; simp
    | succ d ih =>
      intro k i hi hk
      obtain ⟨k, rfl⟩ : ∃ m, k = m + 1 := ⟨k - 1, by omega⟩
      rw [step k i (by omega) (by omega), List.range'_succ, List.all_cons]
      by_cases h : p i = true
      · rw [if_pos h, ih k (i + 1) (by omega) (by omega), h]; simp
      · rw [if_neg h]; simp [h]
  intro k hk
  have := main n k 0 (by omega) hk
  rw [List.range_eq_range']
  exact this

theorem pred_cast {i n : Nat} (h0 : 0 < i) (h : i < n) (hn : n ≤ 4611686018427387904) : wrap64 ((i : Int) - 1) = ((i - 1 : Nat) : Int) := by
  rw [wrap_id (by omega) (by omega)]; omega

theorem rd_get {l : List Int} {i : Nat} (h : i < l.length) : rd l (i : Int) = l[i] := by
  simp [rd, List.getD_eq_getElem?_getD, List.getElem?_eq_getElem h]
/-- A list marked with rising numbers from m on (each element takes c x of them), and the number behind. -/
def mkl {α : Type} (g : α → Int → α) (c : α → Int) : List α → Int → List α
  | [], _ => []
  | x :: r, m => g x m :: mkl g c r (m + c x)
def mtot {α : Type} (c : α → Int) : List α → Int → Int
  | [], m => m
  | x :: r, m => mtot c r (m + c x)
theorem mtot_ge {α : Type} {c : α → Int} (hc : ∀ x, 0 ≤ c x) : ∀ (l : List α) (m : Int), m ≤ mtot c l m
  | [], m => by simp [mtot]
  | x :: r, m => by
    have := mtot_ge hc r (m + c x)
    have := hc x
    simp only [mtot]; omega
theorem mtot_const {α : Type} (n : Int) : ∀ (l : List α) (m : Int), mtot (fun _ => n) l m = m + n * l.length
  | [], m => by simp [mtot]
  | x :: r, m => by
    simp only [mtot, mtot_const n r, List.length_cons]
    rw [show ((r.length + 1 : Nat) : Int) = (r.length : Int) + 1 from by omega, Int.mul_add]
    omega
theorem set_mid {α : Type} {pre rest : List α} {x v : α} : (pre ++ x :: rest).set ((pre.length : Int)).toNat v = pre ++ v :: rest := by simp

theorem bytes_eq {a b : ByteArray} : a.toList = b.toList ↔ a = b := by
  constructor
  · intro h
    have h2 : a.data.toList = b.data.toList := by
      have e : ∀ x : ByteArray, x.toList = x.data.toList := ByteArray.toList_eq
      rw [← e, ← e]; exact h
    cases a; cases b
    simp at h2
    rw [h2]
  · intro h; rw [h]
end Go.Proofs.YtoneejhafmneiaaDoorL

namespace Go.Proofs.YtoneejhafmneiaaDoor.P
open Go.RowKit Go.Proofs.YtoneejhafmneiaaDoorW.PrintWords Go.Proofs.YtoneejhafmneiaaDoorL

def nameByte (c : Int) : Bool := (decide (97 ≤ c) && decide (c ≤ 122)) || (decide (48 ≤ c) && decide (c ≤ 57))
def nameB (s : ByteArray) : Bool := decide (1 ≤ s.size) && decide (s.size ≤ 10) && (decide (97 ≤ bt s 0) && decide (bt s 0 ≤ 122)) && (List.range s.size).all fun i => nameByte (bt s (i : Int))
theorem size_zero {s : ByteArray} : s.toList = ([] : List UInt8) ↔ s.size = 0 := by
  rw [ByteArray.toList_eq]
  constructor
  · intro h; have := congrArg List.length h; simpa using this
  · intro h
    apply List.eq_nil_of_length_eq_zero
    simpa using h
theorem l01Name_eq (s : ByteArray) {k : Nat} (hk : 20 ≤ k) : spec_l01Name.f k s = some (nameB s) := by
  obtain ⟨k, rfl⟩ : ∃ m, k = m + 1 := ⟨k - 1, by omega⟩
  unfold spec_l01Name.f nameB
  by_cases h0 : s.size = 0
  · rw [if_pos (size_zero.2 h0)]; simp [spec_l01Name.j0, h0]
  rw [if_neg (fun e => h0 (size_zero.1 e))]
  by_cases h1 : (s.size : Int) > 10
  · rw [if_pos h1]
    have : ¬ s.size ≤ 10 := by omega
    simp [spec_l01Name.j0, this]
  rw [if_neg h1, if_pos (by omega)]
  unfold spec_l01Small.f
  have h1' : s.size ≤ 10 := by omega
  have h0' : 1 ≤ s.size := by omega
  by_cases h2 : bt s 0 ≥ 97
  · rw [if_pos h2]; simp only [Option.bind_some, spec_l01Name.j0]
    by_cases h3 : bt s 0 ≤ 122
    · rw [if_neg (by simp [h3])]
      rw [all_loop (fun k i => spec_l01Name.l0 k s i) s.size (fun i => nameByte (bt s (i : Int))) true 1 (fun k i hi hB => ?_) (fun k _ => ?_) k (by omega)]
      · simp [h1', h0', h3, ge_iff_le.1 h2]
      · obtain ⟨k, rfl⟩ : ∃ m, k = m + 1 := ⟨k - 1, by omega⟩
        show spec_l01Name.l0 (k + 1 + 1) s (i : Int) = _
        rw [spec_l01Name.l0]
        rw [if_pos (by omega), if_pos (nn_cast i), wrap_succ hi (by omega)]
        unfold spec_l01Small.f spec_l01Digit.f nameByte
        by_cases e1 : bt s (i : Int) ≥ 97
        · rw [if_pos e1]
          by_cases e2 : bt s (i : Int) ≤ 122
          · simp [e2, ge_iff_le.1 e1]
          · have e3 : bt s (i : Int) ≥ 48 := by omega
            have e4 : ¬ bt s (i : Int) ≤ 57 := by omega
            simp [e2, e4, ge_iff_le.1 e3]
        · rw [if_neg e1]
          have e1' : ¬ 97 ≤ bt s (i : Int) := e1
          by_cases e2 : bt s (i : Int) ≥ 48
          · rw [if_pos e2]
            by_cases e3 : bt s (i : Int) ≤ 57
            · simp [e3, ge_iff_le.1 e2]
            · simp [e3, e1']
          · rw [if_neg e2]
            have e2' : ¬ 48 ≤ bt s (i : Int) := e2
            simp [e1', e2']
      · show spec_l01Name.l0 (_ + 1) s (s.size : Int) = _
        rw [spec_l01Name.l0, if_neg (nlt_cast _)]
    · rw [if_pos (by simp [h3])]; simp [h3]
  · rw [if_neg h2]; simp only [Option.bind_some, spec_l01Name.j0]
    have h2' : ¬ 97 ≤ bt s 0 := h2
    rw [if_pos (by rfl)]; simp [h2']

theorem IsName_eq (s : ByteArray) {k : Nat} (hk : 20 ≤ k) : impl_IsName.f k s = some (nameB s) := by
  unfold impl_IsName.f nameB
  by_cases h0 : (s.size : Int) < 1
  · rw [if_pos h0]
    have : ¬ 1 ≤ s.size := by omega
    simp [this]
  rw [if_neg h0]
  by_cases h1 : (s.size : Int) > 10
  · rw [if_pos h1]
    have : ¬ s.size ≤ 10 := by omega
    simp [this]
  rw [if_neg h1, if_pos (by omega)]
  have h1' : s.size ≤ 10 := by omega
  have h0' : 1 ≤ s.size := by omega
  by_cases h2 : bt s 0 < 97
  · rw [if_pos h2]
    have h2' : ¬ 97 ≤ bt s 0 := by omega
    simp [h2']
  rw [if_neg h2]
  by_cases h3 : bt s 0 > 122
  · rw [if_pos h3]
    have h3' : ¬ bt s 0 ≤ 122 := by omega
    simp [h3']
  rw [if_neg h3]
  have h2' : 97 ≤ bt s 0 := by omega
  have h3' : bt s 0 ≤ 122 := by omega
  unfold impl_onlyNameBytes.f
  rw [all_loop (fun k i => impl_onlyNameBytes.l0 k s (s.size : Int) i) s.size (fun i => nameByte (bt s (i : Int))) true 0 (fun k i hi hB => ?_) (fun k _ => ?_) k (by omega)]
  · simp [h1', h0', h3', h2']
  · show impl_onlyNameBytes.l0 (k + 1) s (s.size : Int) (i : Int) = _
    rw [impl_onlyNameBytes.l0]
    rw [if_pos (lt_cast hi), if_pos (nn_cast i), if_pos (lt_cast hi), wrap_succ hi (by omega)]
    unfold nameByte
    repeat' split
    all_goals first | rfl | (exfalso; simp_all; done) | (exfalso; simp_all; omega)
  · show impl_onlyNameBytes.l0 (k + 1) s (s.size : Int) (s.size : Int) = _
    rw [impl_onlyNameBytes.l0, if_neg (nlt_cast _)]

theorem in_eq (a b c : Int) : spec_l00In.f a b c = some (decide (b ≤ a) && decide (a ≤ c)) := by
  unfold spec_l00In.f
  by_cases h : a ≥ b
  · rw [if_pos h]; simp [ge_iff_le.1 h]
  · rw [if_neg h]
    have h' : ¬ b ≤ a := h
    simp [h']
theorem within_eq (a b c : Int) : impl_within.f a b c = some (decide (b ≤ a) && decide (a ≤ c)) := by
  unfold impl_within.f
  by_cases h : a ≥ b
  · rw [if_pos h]; simp [ge_iff_le.1 h]
  · rw [if_neg h]
    have h' : ¬ b ≤ a := h
    simp [h']
end Go.Proofs.YtoneejhafmneiaaDoor.P

namespace Go.Proofs.YtoneejhafmneiaaDoor.P
open Go.RowKit Go.Proofs.YtoneejhafmneiaaDoorW.PrintWords Go.Proofs.YtoneejhafmneiaaDoorL
set_option linter.unusedVariables false
set_option linter.unusedSimpArgs false

def cSetting (x : S107) : S82 := ⟨x.f0, x.f1⟩
def smSetting (x : S107) : Prop := x.f0.size ≤ 1048576
theorem rd_lSetting {l : List S107} {i : Nat} (h : i < l.length) : rd_T107 l (i : Int) = l[i] := by
  simp [rd_T107, List.getD_eq_getElem?_getD, List.getElem?_eq_getElem h]
theorem rd_iSetting {l : List S82} {i : Nat} (h : i < l.length) : rd_T82 l (i : Int) = l[i] := by
  simp [rd_T82, List.getD_eq_getElem?_getD, List.getElem?_eq_getElem h]
theorem ext_iSetting {a b : S82} : a = b ↔ a.f0.toList = b.f0.toList ∧ a.f1 = b.f1 := by
  simp only [bytes_eq]; cases a; cases b; simp
instance : DecidableEq S82 := fun _ _ => decidable_of_iff _ ext_iSetting.symm
theorem szSetting_some {x : S107} (hg : Go.Proofs.YtoneejhafmneiaaDoor.g107 x) {a : Int} (ha0 : 0 ≤ a) (ha : a ≤ 1048576) : ∃ r, laws_szSetting.f x.f0 x.f1 a = some r ∧ (r < 0 ∨ (0 ≤ r ∧ r ≤ a ∧ smSetting x)) := by
  unfold laws_szSetting.f smSetting
  have hs0 : x.f0.size ≤ 9223372036854775807 := by have := hg.1; simpa only [maxLen] using this
  rw [wrap_id (x := a - (x.f0.size : Int)) (by omega) (by omega)]
  by_cases h0 : a - (x.f0.size : Int) < 0
  · rw [if_pos h0]; exact ⟨-1, rfl, .inl (by omega)⟩
  rw [if_neg h0]
  exact ⟨_, rfl, .inr ⟨by omega, by omega, by omega⟩⟩
theorem szSettingS_some {l : List S107} (hl : l.length ≤ maxLen) (hg : ∀ y ∈ l, Go.Proofs.YtoneejhafmneiaaDoor.g107 y) {a : Int} (ha0 : 0 ≤ a) (ha : a ≤ 1048576) {k : Nat} (hk : 1048600 ≤ k) : ∃ r, laws_szSettingS.f k l a = some r ∧ (r < 0 ∨ (0 ≤ r ∧ r ≤ a ∧ l.length ≤ 1048576 ∧ ∀ y ∈ l, smSetting y)) := by
  have hl' : l.length ≤ 9223372036854775807 := by simpa only [maxLen] using hl
  unfold laws_szSettingS.f
  rw [wrap_id (by omega) (by omega)]
  by_cases h0 : a - (l.length : Int) < 0
  · rw [if_pos h0]; exact ⟨-1, rfl, .inl (by omega)⟩
  · rw [if_neg h0]
    have main : ∀ (d k i : Nat) (s : Int), i + d = l.length → 0 + d < k → 0 ≤ s → s ≤ a - l.length → ∃ r, laws_szSettingS.l0 k l s (i : Int) = some r ∧ (r < 0 ∨ (0 ≤ r ∧ r ≤ s ∧ ∀ y ∈ l.drop i, smSetting y)) := by
      intro d
      induction d with
      | zero =>
        intro k i s hi hk h0 h1
        obtain ⟨k, rfl⟩ : ∃ m, k = m + 1 := ⟨k - 1, by omega⟩
        obtain rfl : i = l.length := by omega
        simp only [laws_szSettingS.l0]
        rw [if_neg (nlt_cast _)]
        exact ⟨s, rfl, .inr ⟨h0, by omega, by simp⟩⟩
      | succ d ih =>
        intro k i s hi hk h0 h1
        obtain ⟨k, rfl⟩ : ∃ m, k = m + 1 := ⟨k - 1, by omega⟩
        have hlt : i < l.length := by omega
        simp only [laws_szSettingS.l0]
        rw [if_pos (lt_cast hlt), if_pos (nn_cast i), rd_lSetting hlt, wrap_succ hlt (by omega)]
        obtain ⟨r1, hr1, e1⟩ := szSetting_some (hg l[i] (List.getElem_mem hlt)) (a := s) (by omega) (by omega)
        rw [hr1]; simp only [Option.bind_some]
        by_cases h2 : r1 < 0
        · rw [if_pos h2]
          exact ⟨-1, rfl, .inl (by omega)⟩
        · rw [if_neg h2]
          have e1' := e1.resolve_left h2
          obtain ⟨r, hr, h3⟩ := ih k (i + 1) r1 (by omega) (by omega) (by omega) (by omega)
          refine ⟨r, hr, h3.imp id fun h3 => ⟨h3.1, by omega, ?_⟩⟩
          rw [drop_cons hlt]
          intro y hy
          rcases List.mem_cons.1 hy with rfl | hy
          · exact e1'.2.2
          · exact h3.2.2 y hy
    obtain ⟨r, hr, h⟩ := main l.length k 0 (a - l.length) (by omega) (by omega) (by omega) (by omega)
    refine ⟨r, hr, h.imp id fun h => ⟨h.1, by omega, by omega, ?_⟩⟩
    simpa using h.2.2
theorem toSetting_eq {x : S107} (hs : smSetting x) : laws_toSetting.f x.f0 x.f1 = some ((cSetting x).f0, (cSetting x).f1) := by
  unfold smSetting at hs
  unfold laws_toSetting.f
  rfl
theorem toSettingS_eq {l : List S107} (hl : l.length ≤ 1048576) (hs : ∀ y ∈ l, smSetting y) {k : Nat} (hk : 1048600 ≤ k) : laws_toSettingS.f k l = some (l.map cSetting) := by
  unfold laws_toSettingS.f
  rw [if_pos (nn_cast _), if_pos (by simp; omega)]
  refine set_loop (fun k acc i => laws_toSettingS.l0 k l acc i) l cSetting 0 (fun k i hi acc ha hB => ?_) (fun k acc => ?_) k _ (by omega) (by simp)
  · simp only [laws_toSettingS.l0]
    rw [if_pos (lt_cast hi), if_pos (nn_cast i), rd_lSetting hi, wrap_succ hi (by omega), toSetting_eq (hs _ (List.getElem_mem hi))]
    simp only [Option.bind_some]
    rw [if_pos (by omega)]
    rfl
  · simp only [laws_toSettingS.l0]
    rw [if_neg (nlt_cast _)]
def smiSetting (x : S82) : Prop := True
theorem smi_cSetting {x : S107} (hs : smSetting x) : smiSetting (cSetting x) := by
  unfold smSetting at hs
  unfold smiSetting
  trivial
theorem eqSetting_eq {a b : S82} (hs : smiSetting a) : laws_eqSetting.f a.f0 a.f1 b.f0 b.f1 = some (decide (a = b)) := by
  unfold smiSetting at hs
  unfold laws_eqSetting.f
  by_cases e0 : a.f0.toList = b.f0.toList
  rotate_left
  · rw [if_neg e0]; have hne : ¬ a = b := fun e => e0 (ext_iSetting.1 e).1; simp [hne]
  rw [if_pos e0]
  by_cases e1 : a.f1 = b.f1
  rotate_left
  · rw [if_neg e1]; have hne : ¬ a = b := fun e => e1 (ext_iSetting.1 e).2; simp [hne]
  rw [if_pos e1]
  rw [decide_eq_true (ext_iSetting.2 ⟨e0, e1⟩)]
theorem eqSettingS_eq {a b : List S82} (hl : a.length ≤ 1048576) (hs : ∀ y ∈ a, smiSetting y) {k : Nat} (hk : 1048600 ≤ k) : laws_eqSettingS.f k a b = some (decide (a = b)) := by
  unfold laws_eqSettingS.f
  by_cases h : a.length = b.length
  · rw [if_pos (by omega)]
    refine eq_loop (fun k i => laws_eqSettingS.l0 k a b i) a b h 0 (fun k i h1 h2 hB => ?_) (fun k => ?_) k (by omega)
    · simp only [laws_eqSettingS.l0]
      rw [if_pos (lt_cast h1), if_pos (nn_cast i), if_pos (lt_cast h2), rd_iSetting h1, rd_iSetting h2, wrap_succ h1 (by omega), eqSetting_eq (hs _ (List.getElem_mem h1))]
      simp only [Option.bind_some, decide_eq_true_eq]
    · simp only [laws_eqSettingS.l0]
      rw [if_neg (nlt_cast _)]
  · rw [if_neg (by omega)]
    have : a ≠ b := fun e => h (by rw [e])
    simp [this]
def cVersion (x : S38) : S43 := ⟨x.f0, x.f1, x.f2, (x.f3.map cSetting)⟩
def smVersion (x : S38) : Prop := x.f2.size ≤ 1048576 ∧ (x.f3.length ≤ 1048576 ∧ ∀ y ∈ x.f3, smSetting y)
theorem rd_lVersion {l : List S38} {i : Nat} (h : i < l.length) : rd_T38 l (i : Int) = l[i] := by
  simp [rd_T38, List.getD_eq_getElem?_getD, List.getElem?_eq_getElem h]
theorem rd_iVersion {l : List S43} {i : Nat} (h : i < l.length) : rd_T43 l (i : Int) = l[i] := by
  simp [rd_T43, List.getD_eq_getElem?_getD, List.getElem?_eq_getElem h]
theorem ext_iVersion {a b : S43} : a = b ↔ a.f0 = b.f0 ∧ a.f1 = b.f1 ∧ a.f2.toList = b.f2.toList ∧ a.f3 = b.f3 := by
  simp only [bytes_eq]; cases a; cases b; simp
instance : DecidableEq S43 := fun _ _ => decidable_of_iff _ ext_iVersion.symm
theorem szVersion_some {x : S38} (hg : Go.Proofs.YtoneejhafmneiaaDoor.g38 x) {a : Int} (ha0 : 0 ≤ a) (ha : a ≤ 1048576) {k : Nat} (hk : 1048600 ≤ k) : ∃ r, laws_szVersion.f k x.f0 x.f1 x.f2 x.f3 a = some r ∧ (r < 0 ∨ (0 ≤ r ∧ r ≤ a ∧ smVersion x)) := by
  unfold laws_szVersion.f smVersion
  have hs2 : x.f2.size ≤ 9223372036854775807 := by have := hg.2.2.1; simpa only [maxLen] using this
  rw [wrap_id (x := a - (x.f2.size : Int)) (by omega) (by omega)]
  by_cases h2 : a - (x.f2.size : Int) < 0
  · rw [if_pos h2]; exact ⟨-1, rfl, .inl (by omega)⟩
  rw [if_neg h2]
  obtain ⟨r3, hr3, e3⟩ := szSettingS_some (l := x.f3) hg.2.2.2.1 hg.2.2.2.2 (a := (a - (x.f2.size : Int))) (by omega) (by omega) (k := k) (by omega)
  rw [hr3]; simp only [Option.bind_some]
  by_cases h3 : r3 < 0
  · rw [if_pos h3]; exact ⟨-1, rfl, .inl (by omega)⟩
  rw [if_neg h3]
  have e3' := e3.resolve_left h3
  exact ⟨_, rfl, .inr ⟨by omega, by omega, by omega, ⟨by omega, e3'.2.2.2⟩⟩⟩
theorem szVersionS_some {l : List S38} (hl : l.length ≤ maxLen) (hg : ∀ y ∈ l, Go.Proofs.YtoneejhafmneiaaDoor.g38 y) {a : Int} (ha0 : 0 ≤ a) (ha : a ≤ 1048576) {k : Nat} (hk : 2097200 ≤ k) : ∃ r, laws_szVersionS.f k l a = some r ∧ (r < 0 ∨ (0 ≤ r ∧ r ≤ a ∧ l.length ≤ 1048576 ∧ ∀ y ∈ l, smVersion y)) := by
  have hl' : l.length ≤ 9223372036854775807 := by simpa only [maxLen] using hl
  unfold laws_szVersionS.f
  rw [wrap_id (by omega) (by omega)]
  by_cases h0 : a - (l.length : Int) < 0
  · rw [if_pos h0]; exact ⟨-1, rfl, .inl (by omega)⟩
  · rw [if_neg h0]
    have main : ∀ (d k i : Nat) (s : Int), i + d = l.length → 1048600 + d < k → 0 ≤ s → s ≤ a - l.length → ∃ r, laws_szVersionS.l0 k l s (i : Int) = some r ∧ (r < 0 ∨ (0 ≤ r ∧ r ≤ s ∧ ∀ y ∈ l.drop i, smVersion y)) := by
      intro d
      induction d with
      | zero =>
        intro k i s hi hk h0 h1
        obtain ⟨k, rfl⟩ : ∃ m, k = m + 1 := ⟨k - 1, by omega⟩
        obtain rfl : i = l.length := by omega
        simp only [laws_szVersionS.l0]
        rw [if_neg (nlt_cast _)]
        exact ⟨s, rfl, .inr ⟨h0, by omega, by simp⟩⟩
      | succ d ih =>
        intro k i s hi hk h0 h1
        obtain ⟨k, rfl⟩ : ∃ m, k = m + 1 := ⟨k - 1, by omega⟩
        have hlt : i < l.length := by omega
        simp only [laws_szVersionS.l0]
        rw [if_pos (lt_cast hlt), if_pos (nn_cast i), rd_lVersion hlt, wrap_succ hlt (by omega)]
        obtain ⟨r1, hr1, e1⟩ := szVersion_some (hg l[i] (List.getElem_mem hlt)) (a := s) (by omega) (by omega) (k := k) (by omega)
        rw [hr1]; simp only [Option.bind_some]
        by_cases h2 : r1 < 0
        · rw [if_pos h2]
          exact ⟨-1, rfl, .inl (by omega)⟩
        · rw [if_neg h2]
          have e1' := e1.resolve_left h2
          obtain ⟨r, hr, h3⟩ := ih k (i + 1) r1 (by omega) (by omega) (by omega) (by omega)
          refine ⟨r, hr, h3.imp id fun h3 => ⟨h3.1, by omega, ?_⟩⟩
          rw [drop_cons hlt]
          intro y hy
          rcases List.mem_cons.1 hy with rfl | hy
          · exact e1'.2.2
          · exact h3.2.2 y hy
    obtain ⟨r, hr, h⟩ := main l.length k 0 (a - l.length) (by omega) (by omega) (by omega) (by omega)
    refine ⟨r, hr, h.imp id fun h => ⟨h.1, by omega, by omega, ?_⟩⟩
    simpa using h.2.2
theorem toVersion_eq {x : S38} (hs : smVersion x) {k : Nat} (hk : 1048600 ≤ k) : laws_toVersion.f k x.f0 x.f1 x.f2 x.f3 = some ((cVersion x).f0, (cVersion x).f1, (cVersion x).f2, (cVersion x).f3) := by
  unfold smVersion at hs
  unfold laws_toVersion.f
  rw [toSettingS_eq (hs.2).1 (hs.2).2 (by omega)]; simp only [Option.bind_some]
  rfl
theorem toVersionS_eq {l : List S38} (hl : l.length ≤ 1048576) (hs : ∀ y ∈ l, smVersion y) {k : Nat} (hk : 2097200 ≤ k) : laws_toVersionS.f k l = some (l.map cVersion) := by
  unfold laws_toVersionS.f
  rw [if_pos (nn_cast _), if_pos (by simp; omega)]
  refine set_loop (fun k acc i => laws_toVersionS.l0 k l acc i) l cVersion 1048600 (fun k i hi acc ha hB => ?_) (fun k acc => ?_) k _ (by omega) (by simp)
  · simp only [laws_toVersionS.l0]
    rw [if_pos (lt_cast hi), if_pos (nn_cast i), rd_lVersion hi, wrap_succ hi (by omega), toVersion_eq (hs _ (List.getElem_mem hi)) hB]
    simp only [Option.bind_some]
    rw [if_pos (by omega)]
    rfl
  · simp only [laws_toVersionS.l0]
    rw [if_neg (nlt_cast _)]
def smiVersion (x : S43) : Prop := (x.f3.length ≤ 1048576 ∧ ∀ y ∈ x.f3, smiSetting y)
theorem smi_cVersion {x : S38} (hs : smVersion x) : smiVersion (cVersion x) := by
  unfold smVersion at hs
  unfold smiVersion cVersion
  exact ⟨by simpa using (hs.2).1, fun y hy => by obtain ⟨z, hz, rfl⟩ := List.mem_map.1 hy; exact smi_cSetting ((hs.2).2 z hz)⟩
theorem eqVersion_eq {a b : S43} (hs : smiVersion a) {k : Nat} (hk : 1048600 ≤ k) : laws_eqVersion.f k a.f0 a.f1 a.f2 a.f3 b.f0 b.f1 b.f2 b.f3 = some (decide (a = b)) := by
  unfold smiVersion at hs
  unfold laws_eqVersion.f
  by_cases e0 : a.f0 = b.f0
  rotate_left
  · rw [if_neg e0]; have hne : ¬ a = b := fun e => e0 (ext_iVersion.1 e).1; simp [hne]
  rw [if_pos e0]
  by_cases e1 : a.f1 = b.f1
  rotate_left
  · rw [if_neg e1]; have hne : ¬ a = b := fun e => e1 (ext_iVersion.1 e).2.1; simp [hne]
  rw [if_pos e1]
  by_cases e2 : a.f2.toList = b.f2.toList
  rotate_left
  · rw [if_neg e2]; have hne : ¬ a = b := fun e => e2 (ext_iVersion.1 e).2.2.1; simp [hne]
  rw [if_pos e2]
  rw [eqSettingS_eq (hs).1 (hs).2 (by omega)]; simp only [Option.bind_some]
  by_cases e3 : a.f3 = b.f3
  rotate_left
  · rw [if_neg (by simp [e3])]; have hne : ¬ a = b := fun e => e3 (ext_iVersion.1 e).2.2.2; simp [hne]
  rw [if_pos (by simp [e3])]
  rw [decide_eq_true (ext_iVersion.2 ⟨e0, e1, e2, e3⟩)]
theorem eqVersionS_eq {a b : List S43} (hl : a.length ≤ 1048576) (hs : ∀ y ∈ a, smiVersion y) {k : Nat} (hk : 2097200 ≤ k) : laws_eqVersionS.f k a b = some (decide (a = b)) := by
  unfold laws_eqVersionS.f
  by_cases h : a.length = b.length
  · rw [if_pos (by omega)]
    refine eq_loop (fun k i => laws_eqVersionS.l0 k a b i) a b h 1048600 (fun k i h1 h2 hB => ?_) (fun k => ?_) k (by omega)
    · simp only [laws_eqVersionS.l0]
      rw [if_pos (lt_cast h1), if_pos (nn_cast i), if_pos (lt_cast h2), rd_iVersion h1, rd_iVersion h2, wrap_succ h1 (by omega), eqVersion_eq (hs _ (List.getElem_mem h1)) hB]
      simp only [Option.bind_some, decide_eq_true_eq]
    · simp only [laws_eqVersionS.l0]
      rw [if_neg (nlt_cast _)]
  · rw [if_neg (by omega)]
    have : a ≠ b := fun e => h (by rw [e])
    simp [this]
def mt (n : Int) : ByteArray := (laws_markText.f 100 n).getD ⟨#[]⟩
theorem strOf_one (x : Int) : (strOfNums [x]).size = 1 := rfl
theorem markText_some : ∀ (d k : Nat) (n : Int) (s : ByteArray), 0 ≤ n → n ≤ 9223372036854775807 → n < 10 ^ d → s.size + d ≤ 1000 → d < k → ∃ r, laws_markText.l0 k n s = some r := by
  intro d
  induction d with
  | zero =>
    intro k n s h0 hb h1 hs hk
    obtain ⟨k, rfl⟩ : ∃ m, k = m + 1 := ⟨k - 1, by omega⟩
    have : n = 0 := by simp at h1; omega
    subst this
    simp only [laws_markText.l0]
    rw [if_neg (by omega), if_pos (by omega)]
    exact ⟨_, rfl⟩
  | succ d ih =>
    intro k n s h0 hb h1 hs hk
    obtain ⟨k, rfl⟩ : ∃ m, k = m + 1 := ⟨k - 1, by omega⟩
    simp only [laws_markText.l0]
    by_cases h : n > 0
    · rw [if_pos h]
      simp only [Option.bind_some]
      rw [if_pos (by rw [strOf_one]; omega)]
      have e : wrap64 (n.tdiv 10) = n / 10 := by
        rw [Int.tdiv_eq_ediv_of_nonneg h0, wrap_id (by omega) (by omega)]
      rw [e]
      refine ih k _ _ (by omega) (by omega) ?_ ?_ (by omega)
      · have : (10 : Int) ^ (d + 1) = 10 ^ d * 10 := by rw [Int.pow_succ]
        rw [this] at h1
        exact Int.ediv_lt_of_lt_mul (by omega) h1
      · rw [ByteArray.size_append, strOf_one]; omega
    · rw [if_neg h, if_pos (by omega)]
      exact ⟨_, rfl⟩
def mkSettingS (l : List S82) (m : Int) : List S82 := mkl (fun (_ : S82) m => (⟨mt (m), m + 1⟩ : S82)) (fun _ => 2) l m
end Go.Proofs.YtoneejhafmneiaaDoor.P

namespace Go.Proofs.YtoneejhafmneiaaDoor.P
open Go.RowKit Go.Proofs.YtoneejhafmneiaaDoorW.PrintWords Go.Proofs.YtoneejhafmneiaaDoorL

def settingB (x : S82) : Bool := nameB x.f0 && (decide (0 ≤ x.f1) && decide (x.f1 ≤ 1000))
def stateAt (l : List S82) (i : Nat) : Bool := settingB (rd_T82 l (i : Int)) && (decide (i = 0) || Op.bytesLess (rd_T82 l ((i - 1 : Nat) : Int)).f0.toList (rd_T82 l (i : Int)).f0.toList)
def stateB (l : List S82) : Bool := (List.range l.length).all (stateAt l) && decide (l.length ≤ 24)

theorem l27Setting_e_eq (l : List S82) (i : Int) {k : Nat} (hk : 20 ≤ k) : spec_l27Setting_e.f k l i = some (settingB (rd_T82 l i)) := by
  unfold spec_l27Setting_e.f settingB
  rw [l01Name_eq _ hk]; simp only [Option.bind_some, in_eq]
  by_cases h : nameB (rd_T82 l i).f0 = true
  · rw [if_pos h]; simp [h]
  · rw [if_neg h]; simp [h]
theorem Setting_valid_eq (x : S82) {k : Nat} (hk : 20 ≤ k) : impl_Setting_valid.f k x.f0 x.f1 = some (settingB x) := by
  unfold impl_Setting_valid.f settingB
  rw [IsName_eq _ hk]; simp only [Option.bind_some, within_eq]
  by_cases h : nameB x.f0 = true
  · rw [if_pos h]; simp [h]
  · rw [if_neg h]; simp [h]

theorem l27State_eq {l : List S82} (hl : l.length ≤ 1048576) {k : Nat} (hk : 1048600 ≤ k) : spec_l27State.f k l = some (stateB l) := by
  unfold spec_l27State.f stateB
  refine all_loop (fun k i => spec_l27State.l0 k l i) l.length (stateAt l) (decide (l.length ≤ 24)) 20 (fun k i hi hB => ?_) (fun k _ => ?_) k (by omega)
  · simp only [spec_l27State.l0]
    rw [if_pos (lt_cast hi), if_pos (nn_cast i), l27Setting_e_eq _ _ hB, wrap_succ hi (by omega)]
    simp only [Option.bind_some, stateAt]
    by_cases h : settingB (rd_T82 l (i : Int)) = true
    · rw [if_pos h]
      by_cases h0 : i = 0
      · rw [if_neg (by omega)]; simp only [h, decide_eq_true h0, Bool.true_or, Bool.and_self, if_true]
      · rw [if_pos (by omega), pred_cast (by omega) hi (by omega), if_pos (nn_cast _), if_pos (by omega)]
        simp [h, h0]
    · rw [if_neg h]; simp [h]
  · simp only [spec_l27State.l0]
    rw [if_neg (nlt_cast _)]
    congr 2
    exact propext (by omega)
theorem ValidState_eq {l : List S82} (hl : l.length ≤ 1048576) {k : Nat} (hk : 1048600 ≤ k) : impl_ValidState.f k l = some (stateB l) := by
  unfold impl_ValidState.f stateB
  by_cases h24 : (l.length : Int) > 24
  · rw [if_pos h24]
    have : ¬ l.length ≤ 24 := by omega
    simp [this]
  · rw [if_neg h24]
    have h24' : l.length ≤ 24 := by omega
    rw [decide_eq_true h24']
    refine all_loop (fun k i => impl_ValidState.l0 k l l (l.length : Int) i) l.length (stateAt l) true 20 (fun k i hi hB => ?_) (fun k _ => ?_) k (by omega)
    · simp only [impl_ValidState.l0]
      rw [if_pos (lt_cast hi), if_pos (nn_cast i), if_pos (lt_cast hi), Setting_valid_eq _ hB, wrap_succ hi (by omega)]
      simp only [Option.bind_some, stateAt]
      by_cases h : settingB (rd_T82 l (i : Int)) = true
      · rw [if_pos h]
        by_cases h0 : i = 0
        · rw [if_neg (by omega)]; simp only [h, decide_eq_true h0, Bool.true_or, Bool.and_self, if_true]
        · rw [if_pos (by omega), pred_cast (by omega) hi (by omega), if_pos (nn_cast _), if_pos (by omega)]
          simp [h, h0]
      · rw [if_neg h]; simp [h]
    · simp only [impl_ValidState.l0]
      rw [if_neg (nlt_cast _)]
end Go.Proofs.YtoneejhafmneiaaDoor.P

namespace Go.Proofs.YtoneejhafmneiaaDoor.P
open Go.RowKit Go.Proofs.YtoneejhafmneiaaDoorW.PrintWords Go.Proofs.YtoneejhafmneiaaDoorL

def memoB (s : ByteArray) : Bool := (List.range s.size).all (fun i => decide (32 ≤ bt s (i : Int)) && decide (bt s (i : Int) ≤ 126)) && decide (s.size ≤ 20)
def versionAt (l : List S43) (i : Nat) : Bool := decide ((rd_T43 l (i : Int)).f0 = (i : Int) + 1) && (decide (0 ≤ (rd_T43 l (i : Int)).f1) && decide ((rd_T43 l (i : Int)).f1 ≤ (i : Int))) && memoB (rd_T43 l (i : Int)).f2 && stateB (rd_T43 l (i : Int)).f3
def historyB (l : List S43) : Bool := (List.range l.length).all (versionAt l) && decide (l.length ≤ 32)

theorem l27Memo_eq {s : ByteArray} (hs : s.size ≤ 1048576) {k : Nat} (hk : 1048600 ≤ k) : spec_l27Memo.f k s = some (memoB s) := by
  unfold spec_l27Memo.f memoB
  refine all_loop (fun k i => spec_l27Memo.l0 k s i) s.size _ _ 0 (fun k i hi hB => ?_) (fun k _ => ?_) k (by omega)
  · simp only [spec_l27Memo.l0]
    rw [if_pos (lt_cast hi), if_pos (nn_cast i), wrap_succ hi (by omega)]
    by_cases h1 : bt s (i : Int) < 32
    · have : ¬ 32 ≤ bt s (i : Int) := by omega
      rw [if_pos h1]; simp [this]
    · have h1' : 32 ≤ bt s (i : Int) := by omega
      rw [if_neg h1]
      by_cases h2 : bt s (i : Int) > 126
      · have : ¬ bt s (i : Int) ≤ 126 := by omega
        rw [if_pos h2]; simp [this]
      · have h2' : bt s (i : Int) ≤ 126 := by omega
        rw [if_neg h2]; simp [h1', h2']
  · simp only [spec_l27Memo.l0]
    rw [if_neg (nlt_cast _)]
    congr 2
    exact propext (by omega)
theorem memoValid_eq (s : ByteArray) {k : Nat} (hk : 1048600 ≤ k) : impl_memoValid.f k s = some (memoB s) := by
  unfold impl_memoValid.f memoB
  by_cases h : (s.size : Int) ≤ 20
  · rw [if_pos h]
    have h' : s.size ≤ 20 := by omega
    unfold impl_bytesWithin.f
    rw [all_loop (fun k i => impl_bytesWithin.l0 k s 32 126 (s.size : Int) i) s.size (fun i => decide (32 ≤ bt s (i : Int)) && decide (bt s (i : Int) ≤ 126)) true 0 (fun k i hi hB => ?_) (fun k _ => ?_) k (by omega)]
    · simp [h']
    · simp only [impl_bytesWithin.l0]
      rw [if_pos (lt_cast hi), if_pos (nn_cast i), if_pos (lt_cast hi), wrap_succ hi (by omega)]
      by_cases h1 : bt s (i : Int) < 32
      · have : ¬ 32 ≤ bt s (i : Int) := by omega
        rw [if_pos h1]; simp [this]
      · have h1' : 32 ≤ bt s (i : Int) := by omega
        rw [if_neg h1]
        by_cases h2 : bt s (i : Int) > 126
        · have : ¬ bt s (i : Int) ≤ 126 := by omega
          rw [if_pos h2]; simp [this]
        · have h2' : bt s (i : Int) ≤ 126 := by omega
          rw [if_neg h2]; simp [h1', h2']
    · simp only [impl_bytesWithin.l0]
      rw [if_neg (nlt_cast _)]
  · rw [if_neg h]
    have h' : ¬ s.size ≤ 20 := by omega
    simp [h']

/-- Within the sizes that the laws let in. -/
def okV (x : S43) : Prop := x.f2.size ≤ 1048576 ∧ x.f3.length ≤ 1048576
theorem versionAt_eq {l : List S43} {i : Nat} : versionAt l i = (decide ((rd_T43 l (i : Int)).f0 = (i : Int) + 1) && (decide (0 ≤ (rd_T43 l (i : Int)).f1) && decide ((rd_T43 l (i : Int)).f1 ≤ (i : Int))) && memoB (rd_T43 l (i : Int)).f2 && stateB (rd_T43 l (i : Int)).f3) := rfl
theorem l27Ok_eq {l : List S43} (hl : l.length ≤ 1048576) (hs : ∀ y ∈ l, okV y) {k : Nat} (hk : 2097200 ≤ k) : spec_l27Ok.f k l = some (historyB l) := by
  unfold spec_l27Ok.f historyB
  refine all_loop (fun k i => spec_l27Ok.l0 k l i) l.length (versionAt l) _ 1048600 (fun k i hi hB => ?_) (fun k _ => ?_) k (by omega)
  · have ho := hs l[i] (List.getElem_mem hi)
    have hr := rd_iVersion hi
    simp only [spec_l27Ok.l0, versionAt_eq, hr]
    rw [if_pos (lt_cast hi), if_pos (nn_cast i), wrap_succ hi (by omega)]
    rw [in_eq, l27Memo_eq ho.1 hB, l27State_eq ho.2 hB]
    simp only [Option.bind_some]
    by_cases h1 : l[i].f0 = ((i + 1 : Nat) : Int)
    · have h1' : l[i].f0 = (i : Int) + 1 := by omega
      rw [if_pos h1, decide_eq_true h1']
      by_cases h2 : (decide (0 ≤ l[i].f1) && decide (l[i].f1 ≤ (i : Int))) = true
      · rw [if_pos h2, h2]
        by_cases h3 : memoB l[i].f2 = true
        · rw [if_pos h3, h3]
          by_cases h4 : stateB l[i].f3 = true
          · rw [if_pos h4, h4]; simp
          · rw [if_neg h4]; simp [h4]
        · rw [if_neg h3]; simp [h3]
      · rw [if_neg h2]; rw [Bool.not_eq_true] at h2; rw [h2]; simp
    · have h1' : ¬ l[i].f0 = (i : Int) + 1 := by omega
      rw [if_neg h1, decide_eq_false h1']; simp
  · simp only [spec_l27Ok.l0]
    rw [if_neg (nlt_cast _)]
    congr 2
    exact propext (by omega)
theorem ValidHistory_eq {l : List S43} (hl : l.length ≤ 1048576) (hs : ∀ y ∈ l, okV y) {k : Nat} (hk : 2097200 ≤ k) : impl_ValidHistory.f k l = some (historyB l) := by
  unfold impl_ValidHistory.f historyB
  by_cases h32 : (l.length : Int) > 32
  · rw [if_pos h32]
    have : ¬ l.length ≤ 32 := by omega
    simp [this]
  rw [if_neg h32]
  have h32' : l.length ≤ 32 := by omega
  rw [decide_eq_true h32']
  refine all_loop (fun k i => impl_ValidHistory.l0 k l (l.length : Int) i) l.length (versionAt l) true 1048600 (fun k i hi hB => ?_) (fun k _ => ?_) k (by omega)
  · have ho := hs l[i] (List.getElem_mem hi)
    have hr := rd_iVersion hi
    simp only [impl_ValidHistory.l0, versionAt_eq, hr]
    rw [if_pos (lt_cast hi), if_pos (nn_cast i), if_pos (lt_cast hi), wrap_succ hi (by omega)]
    rw [within_eq, memoValid_eq _ hB, ValidState_eq ho.2 hB]
    simp only [Option.bind_some]
    by_cases h1 : l[i].f0 = ((i + 1 : Nat) : Int)
    · have h1' : l[i].f0 = (i : Int) + 1 := by omega
      rw [if_pos h1, decide_eq_true h1']
      by_cases h2 : (decide (0 ≤ l[i].f1) && decide (l[i].f1 ≤ (i : Int))) = true
      · rw [if_pos h2, h2]
        by_cases h3 : memoB l[i].f2 = true
        · rw [if_pos h3, h3]
          by_cases h4 : stateB l[i].f3 = true
          · rw [if_pos h4, h4]; simp
          · rw [if_neg h4]; simp [h4]
        · rw [if_neg h3]; simp [h3]
      · rw [if_neg h2]; rw [Bool.not_eq_true] at h2; rw [h2]; simp
    · have h1' : ¬ l[i].f0 = (i : Int) + 1 := by omega
      rw [if_neg h1, decide_eq_false h1']; simp
  · simp only [impl_ValidHistory.l0]
    rw [if_neg (nlt_cast _)]
theorem okV_c {l : List S38} (hs : ∀ y ∈ l, smVersion y) : ∀ y ∈ l.map cVersion, okV y := by
  intro y hy
  obtain ⟨z, hz, rfl⟩ := List.mem_map.1 hy
  have := hs z hz
  unfold smVersion at this
  exact ⟨this.1, by simpa [cVersion] using this.2.1⟩
end Go.Proofs.YtoneejhafmneiaaDoor.P

namespace Go.Proofs.YtoneejhafmneiaaDoor.P
open Go.RowKit Go.Proofs.YtoneejhafmneiaaDoorW.PrintWords Go.Proofs.YtoneejhafmneiaaDoorL
def par (l : List S43) (n : Int) : Int := (rd_T43 l (n - 1)).f1
theorem history_facts {l : List S43} (h : historyB l = true) : l.length ≤ 32 ∧ ∀ n : Int, 1 ≤ n → n ≤ l.length → 0 ≤ par l n ∧ par l n ≤ n - 1 := by
  unfold historyB at h
  simp only [Bool.and_eq_true, decide_eq_true_eq, List.all_eq_true, List.mem_range] at h
  refine ⟨h.2, fun n h1 h2 => ?_⟩
  have := h.1 (n - 1).toNat (by omega)
  unfold versionAt at this
  simp only [Bool.and_eq_true, decide_eq_true_eq] at this
  rw [Int.toNat_of_nonneg (by omega)] at this
  exact this.1.1.2
theorem l27Number_eq (l : List S43) (n : Int) : spec_l27Number.f l n = some (decide (1 ≤ n) && decide (n ≤ (l.length : Int))) := by
  unfold spec_l27Number.f; rw [in_eq]; rfl
theorem allWithin_eq (l : List Int) (a b : Int) : impl_allWithin.f l a b = some (l.all fun n => decide (a ≤ n) && decide (n ≤ b)) := by
  unfold impl_allWithin.f
  congr 1
  induction l with
  | nil => rfl
  | cons x r ih =>
    simp only [List.any_cons, List.all_cons, Bool.not_or, ih, impl_allWithin.p, Bool.not_not]
theorem versionsCode_eq {l : List S43} (hl : l.length ≤ 1048576) (hs : ∀ y ∈ l, okV y) (ns : List Int) {k : Nat} (hk : 2097200 ≤ k) :
    impl_versionsCode.f k l ns = some (if historyB l = true then (if (ns.all fun n => decide (1 ≤ n) && decide (n ≤ (l.length : Int))) = true then 0 else 3) else 1) := by
  unfold impl_versionsCode.f
  rw [ValidHistory_eq hl hs hk]
  simp only [Option.bind_some, allWithin_eq]
  split
  · split <;> rfl
  · rfl
end Go.Proofs.YtoneejhafmneiaaDoor.P

namespace Go.Proofs.YtoneejhafmneiaaDoor.P
open Go.RowKit Go.Proofs.YtoneejhafmneiaaDoorW.PrintWords Go.Proofs.YtoneejhafmneiaaDoorL
theorem Ev.le {α : Type} {g : Nat → Option α} {r : α} (K : Nat) (h : ∀ k, K ≤ k → g k = some r) : Ev g r := ⟨K, h⟩
theorem Ev.const {α : Type} {x : Option α} {r : α} (h : x = some r) : Ev (fun _ => x) r := ⟨0, fun _ _ => h⟩
theorem Ev.yes {α : Type} {c : Nat → Option Bool} {f : Nat → Option α} {r : α} (h : Ev c true) (k : Ev f r) : Ev (fun n => if c n = some true then f n else none) r := by
  obtain ⟨K, hK⟩ := h
  obtain ⟨K', hK'⟩ := k
  exact ⟨max K K', fun n hn => by
    show (if c n = some true then f n else none) = some r
    rw [if_pos (hK n (by omega))]; exact hK' n (by omega)⟩
theorem Ev.pos {α : Type} {c : Prop} [Decidable c] {f g : Nat → Option α} {r : α} (h : c) (k : Ev f r) : Ev (fun n => if c then f n else g n) r := Ev.congr (fun _ => if_pos h) k
theorem Ev.neg {α : Type} {c : Prop} [Decidable c] {f g : Nat → Option α} {r : α} (h : ¬ c) (k : Ev g r) : Ev (fun n => if c then f n else g n) r := Ev.congr (fun _ => if_neg h) k
theorem mtot_le {α : Type} {c : α → Int} {C : Int} {P : α → Prop} (hC : ∀ x, P x → c x ≤ C) : ∀ (l : List α) (m : Int), (∀ x ∈ l, P x) → mtot c l m ≤ m + (l.length : Int) * C
  | [], m, _ => by simp [mtot]
  | x :: r, m, h => by
    have h1 := mtot_le hC r (m + c x) (fun y hy => h y (List.mem_cons_of_mem _ hy))
    have h2 := hC x (h x List.mem_cons_self)
    simp only [mtot, List.length_cons]
    have e : ((r.length + 1 : Nat) : Int) * C = (r.length : Int) * C + C := by rw [Int.natCast_add, Int.add_mul]; simp
    omega
/-- A loop that marks each place of a list, element by element. -/
theorem mark_ev {α : Type} (L : Nat → List α → Int → Int → Option (Int × List α)) (g : α → Int → α) (c : α → Int) (M : Int) (hc : ∀ x, 0 ≤ c x) (P : α → Prop)
    (step : ∀ (pre : List α) (x : α) (rest : List α) (m : Int) (r : Int × List α), P x → pre.length + rest.length < 4611686018427387904 → 0 ≤ m → m + c x ≤ M → Ev (fun k => L k (pre ++ g x m :: rest) (m + c x) ((pre.length + 1 : Nat) : Int)) r → Ev (fun k => L k (pre ++ x :: rest) m (pre.length : Int)) r)
    (stop : ∀ (k : Nat) (l : List α) (m : Int), L (k + 1) l m (l.length : Int) = some (m, l)) (l : List α) (m : Int) (hp : ∀ x ∈ l, P x) (hl : l.length ≤ 4611686018427387904) (hm : 0 ≤ m) (hM : mtot c l m ≤ M) : Ev (fun k => L k l m 0) (mtot c l m, mkl g c l m) := by
  have main : ∀ (rest : List α) (pre : List α) (m : Int), (∀ x ∈ rest, P x) → pre.length + rest.length ≤ 4611686018427387904 → 0 ≤ m → mtot c rest m ≤ M → Ev (fun k => L k (pre ++ rest) m (pre.length : Int)) (mtot c rest m, pre ++ mkl g c rest m) := by
    intro rest
    induction rest with
    | nil =>
      intro pre m _ _ _ _
      refine Ev.step (f := fun _ => some (m, pre)) (fun k => ?_) ?_
      · rw [List.append_nil]; exact stop k pre m
      · simp only [mtot, mkl, List.append_nil]; exact Ev.now _
    | cons x rest ih =>
      intro pre m hp hl hm hM
      have h2 := mtot_ge hc rest (m + c x)
      have h3 := hc x
      simp only [mtot] at hM
      refine step pre x rest m _ (hp x List.mem_cons_self) (by simp at hl; omega) hm (by omega) ?_
      have := ih (pre ++ [g x m]) (m + c x) (fun y hy => hp y (List.mem_cons_of_mem _ hy)) (by simp at hl ⊢; omega) (by omega) hM
      simp only [List.append_assoc, List.singleton_append, List.length_append, List.length_singleton] at this
      simp only [mtot, mkl]
      exact this
  have := main l [] m hp (by simpa using hl) hm hM
  simpa using this
theorem held_ev {α : Type} (L : Nat → Int → Int → Option Int) (g : α → Int → α) (c : α → Int) (M : Int) (hc : ∀ x, 0 ≤ c x) (P : α → Prop) (l' : List α)
    (step : ∀ (pre : List α) (x : α) (rest : List α) (m : Int) (r : Int), l' = pre ++ g x m :: rest → P x → pre.length < 4611686018427387904 → 0 ≤ m → m + c x ≤ M → Ev (fun k => L k (m + c x) ((pre.length + 1 : Nat) : Int)) r → Ev (fun k => L k m (pre.length : Int)) r)
    (stop : ∀ (k : Nat) (m : Int), L (k + 1) m (l'.length : Int) = some m) (l : List α) (m : Int) (he : l' = mkl g c l m) (hp : ∀ x ∈ l, P x) (hl : l.length ≤ 4611686018427387904) (hm : 0 ≤ m) (hM : mtot c l m ≤ M) : Ev (fun k => L k m 0) (mtot c l m) := by
  have main : ∀ (rest : List α) (pre : List α) (m : Int), l' = pre ++ mkl g c rest m → (∀ x ∈ rest, P x) → pre.length + rest.length ≤ 4611686018427387904 → 0 ≤ m → mtot c rest m ≤ M → Ev (fun k => L k m (pre.length : Int)) (mtot c rest m) := by
    intro rest
    induction rest with
    | nil =>
      intro pre m he _ _ _ _
      simp only [mkl, List.append_nil] at he
      subst he
      simp only [mtot]
      exact Ev.step (f := fun _ => some m) (fun k => stop k m) (Ev.now _)
    | cons x rest ih =>
      intro pre m he hp hl hm hM
      have h2 := mtot_ge hc rest (m + c x)
      have h3 := hc x
      simp only [mtot] at hM
      simp only [mkl] at he
      refine step pre x _ m _ he (hp x List.mem_cons_self) (by simp at hl; omega) hm (by omega) ?_
      have := ih (pre ++ [g x m]) (m + c x) (by rw [he]; simp) (fun y hy => hp y (List.mem_cons_of_mem _ hy)) (by simp at hl ⊢; omega) (by omega) hM
      simp only [List.length_append, List.length_singleton] at this
      simp only [mtot]
      exact this
  have := main l [] m (by simpa using he) hp (by simpa using hl) hm hM
  simpa using this
end Go.Proofs.YtoneejhafmneiaaDoor.P

namespace Go.Proofs.YtoneejhafmneiaaDoor.P
open Go.RowKit Go.Proofs.YtoneejhafmneiaaDoorW.PrintWords Go.Proofs.YtoneejhafmneiaaDoorL
theorem own27_l0 {l : List S43} (hl : l.length ≤ 1048576) (hs : ∀ y ∈ l, smiVersion y) : ∀ (d i : Nat), i + d = l.length → Ev (fun k => spec_l27Own.l0 k l (l.take i) (i : Int)) l := by
  intro d
  induction d with
  | zero =>
    intro i hi
    obtain rfl : i = l.length := by omega
    refine Ev.step (f := fun _ => some l) (fun k => ?_) (Ev.now _)
    simp only [spec_l27Own.l0]
    rw [if_neg (nlt_cast _), List.take_length]
  | succ d ih =>
    intro i hi
    have hlt : i < l.length := by omega
    have hr : rd_T43 l (i : Int) = l[i] := rd_iVersion hlt
    have hsm := (hs l[i] (List.getElem_mem hlt)).1
    have WS := Aside0.mk (show wrap64 ((i : Int) + 1) = ((i + 1 : Nat) : Int) from wrap_succ (i := i) (n := i + 1) (by omega) (by omega))
    have ht : l.take i ++ [l[i]] = l.take (i + 1) := List.take_append_getElem hlt
    refine Ev.step (f := fun k => spec_l27Own.l0 k l (l.take (i + 1)) ((i + 1 : Nat) : Int)) (fun k => ?_) (ih (i + 1) (by omega))
    simp only [spec_l27Own.l0]
    rw [if_pos (by omega), if_pos (nn_cast _), Option.bind_some, hr, if_pos (by simp only [List.length_nil]; omega), if_pos (by rw [List.length_take]; omega), List.nil_append, WS.out, ht]
theorem own27_ev {l : List S43} (hl : l.length ≤ 1048576) (hs : ∀ y ∈ l, smiVersion y) : Ev (fun k => spec_l27Own.f k l) l := by
  unfold spec_l27Own.f
  exact own27_l0 hl hs l.length 0 (by omega)
theorem add27_ev {l : List S43} (h32 : l.length ≤ 32) (hs : ∀ y ∈ l, smiVersion y) (p : Int) (m : ByteArray) {s : List S82} (hsl : s.length ≤ 1048576) : ∃ v c, (v.length ≤ 1048576 ∧ ∀ y ∈ v, smiVersion y) ∧ Ev (fun k => spec_l27Add.f k l p m s) (v, c) ∧ impl_withVersion.f l p m s = some (v, c) := by
  unfold spec_l27Add.f impl_withVersion.f
  by_cases h : (l.length : Int) = 32
  · exact ⟨[], 5, ⟨by simp, fun y hy => by cases hy⟩, Ev.pos h (Ev.now _), if_pos h⟩
  have hnew : ∀ y ∈ l ++ [impl_withVersion.new l p m s], smiVersion y := by
    intro y hy
    rcases List.mem_append.1 hy with hy | hy
    · exact hs y hy
    · obtain rfl := List.mem_singleton.1 hy
      exact ⟨hsl, fun _ _ => trivial⟩
  refine ⟨l ++ [impl_withVersion.new l p m s], 0, ⟨by simp; omega, hnew⟩, Ev.neg h ?_, ?_⟩
  · have hw : wrap64 ((l.length : Int) + 1) = (l.length : Int) + 1 := wrap_id (by omega) (by omega)
    refine Ev.bind (a := []) (Ev.now _) ?_
    refine Ev.pos (by simp only [List.length_nil]; omega) ?_
    refine Ev.bind (own27_ev (by omega) hs) ?_
    refine Ev.bind (a := [impl_withVersion.new l p m s]) (Ev.const (by rw [hw]; rfl)) ?_
    exact Ev.pos (by simp only [List.length_singleton]; omega) (Ev.now _)
  · rw [if_neg h, if_pos (by omega), if_pos]
    rw [List.all_eq_true]
    intro y hy
    have := (hnew y hy).1
    exact decide_eq_true (by omega)
end Go.Proofs.YtoneejhafmneiaaDoor.P

namespace Go.Proofs.YtoneejhafmneiaaDoor.P
open Go.RowKit Go.Proofs.YtoneejhafmneiaaDoorW.PrintWords Go.Proofs.YtoneejhafmneiaaDoorL
/-- The digits of a number from behind, as the reference lays them. -/
def rdig (u : Nat) : List Int := if h : u = 0 then [] else (48 + (u % 10 : Nat) : Int) :: rdig (u / 10)
termination_by u
decreasing_by omega
theorem rdig_zero : rdig 0 = [] := by rw [rdig, dif_pos rfl]
theorem rdig_pos {u : Nat} (h : u ≠ 0) : rdig u = (48 + (u % 10 : Nat) : Int) :: rdig (u / 10) := by rw [rdig, dif_neg h]
theorem rdig_dec : ∀ (n u : Nat), u ≤ n → u ≠ 0 → (rdig u).reverse.map (fun z => UInt8.ofNat z.toNat) = Lib.decDigits u := by
  intro n
  induction n with
  | zero => intro u h h0; omega
  | succ n ih =>
    intro u h h0
    rw [rdig_pos h0, List.reverse_cons, List.map_append, Lib.decDigits]
    by_cases h10 : u < 10
    · rw [dif_pos h10, show u / 10 = 0 by omega, rdig_zero]
      have : (48 + ((u % 10 : Nat) : Int)).toNat = 48 + u := by omega
      show [UInt8.ofNat (48 + ((u % 10 : Nat) : Int)).toNat] = _
      rw [this]
    · rw [dif_neg h10, ih (u / 10) (by omega) (by omega)]
      have : (48 + ((u % 10 : Nat) : Int)).toNat = 48 + u % 10 := by omega
      show _ ++ [UInt8.ofNat (48 + ((u % 10 : Nat) : Int)).toNat] = _
      rw [this]
theorem rdig_length : ∀ (n u : Nat), u < 10 ^ n → (rdig u).length ≤ n := by
  intro n
  induction n with
  | zero => intro u h; have : u = 0 := by simpa using h
            subst this; simp [rdig_zero]
  | succ n ih =>
    intro u h
    by_cases h0 : u = 0
    · subst h0; simp [rdig_zero]
    · rw [rdig_pos h0, List.length_cons]
      have := ih (u / 10) (by rw [Nat.pow_succ] at h; omega)
      omega
theorem dg_step {m : Int} (h0 : -9223372036854775808 ≤ m) (h1 : m ≤ 9223372036854775807) : (Int.tmod m 10 < 0 → (wrap64 (48 + wrap64 (-(Int.tmod m 10)))) % 256 = 48 + ((m.natAbs % 10 : Nat) : Int)) ∧ (¬ Int.tmod m 10 < 0 → (wrap64 (48 + Int.tmod m 10)) % 256 = 48 + ((m.natAbs % 10 : Nat) : Int)) ∧ (wrap64 (Int.tdiv m 10)).natAbs = m.natAbs / 10 ∧ -9223372036854775808 ≤ wrap64 (Int.tdiv m 10) ∧ wrap64 (Int.tdiv m 10) ≤ 9223372036854775807 := by
  rcases Int.le_total 0 m with h | h
  · have t1 : Int.tdiv m 10 = m / 10 := Int.tdiv_eq_ediv_of_nonneg h
    have t2 : Int.tmod m 10 = m % 10 := Int.tmod_eq_emod_of_nonneg h
    rw [t1, t2, wrap_id (x := m / 10) (by omega) (by omega), wrap_id (x := 48 + m % 10) (by omega) (by omega)]
    exact ⟨fun h => by omega, fun _ => by omega, by omega, by omega, by omega⟩
  · obtain ⟨a, ha, rfl⟩ : ∃ a : Int, 0 ≤ a ∧ m = -a := ⟨-m, by omega, by omega⟩
    have t1 : Int.tdiv (-a) 10 = -(a / 10) := by rw [Int.neg_tdiv, Int.tdiv_eq_ediv_of_nonneg ha]
    have t2 : Int.tmod (-a) 10 = -(a % 10) := by rw [Int.neg_tmod, Int.tmod_eq_emod_of_nonneg ha]
    rw [t1, t2, wrap_id (x := -(a / 10)) (by omega) (by omega), wrap_id (x := -(-(a % 10))) (by omega) (by omega), wrap_id (x := 48 + -(-(a % 10))) (by omega) (by omega), wrap_id (x := 48 + -(a % 10)) (by omega) (by omega)]
    exact ⟨fun _ => by omega, fun h => by omega, by omega, by omega, by omega⟩
theorem Dec_l1 {ds : List Int} (hl : ds.length ≤ 1000) : ∀ (d k : Nat) (acc : List Int), d ≤ ds.length → d + 1 ≤ k → acc.length + d ≤ 1000 → spec_l01Dec.l1 k ds acc ((d : Int) - 1) = some (strOfNums (acc ++ (ds.take d).reverse)) := by
  intro d
  induction d with
  | zero =>
    intro k acc hd hk ha
    obtain ⟨k, rfl⟩ : ∃ m, k = m + 1 := ⟨k - 1, by omega⟩
    simp only [spec_l01Dec.l1]
    rw [if_neg (by omega)]; simp
  | succ d ih =>
    intro k acc hd hk ha
    obtain ⟨k, rfl⟩ : ∃ m, k = m + 1 := ⟨k - 1, by omega⟩
    simp only [spec_l01Dec.l1]
    have e : ((d + 1 : Nat) : Int) - 1 = (d : Int) := by omega
    have hdl : d < ds.length := by omega
    rw [e, if_pos (by omega), if_pos (by omega), if_pos (lt_cast hdl), if_pos (by omega), rd_get hdl, wrap_id (by omega) (by omega), ih k _ (by omega) (by omega) (by simp; omega), List.take_succ_eq_append_getElem hdl, List.reverse_append]
    simp
theorem Dec_j1 {ds : List Int} (hl : ds.length ≤ 1000) {k : Nat} (hk : ds.length + 3 ≤ k) : spec_l01Dec.j1 k ds = some (strOfNums ds.reverse) := by
  obtain ⟨k, rfl⟩ : ∃ m, k = m + 1 := ⟨k - 1, by omega⟩
  simp only [spec_l01Dec.j1]
  rw [wrap_id (by omega) (by omega), Dec_l1 hl ds.length k [] (Nat.le_refl _) (by omega) (by simp; omega)]
  simp
theorem Dec_l0 (x0 : Int) : ∀ (n : Nat) (m : Int) (acc : List Int) (k : Nat), m.natAbs < 10 ^ n → -9223372036854775808 ≤ m → m ≤ 9223372036854775807 → acc.length + n ≤ 900 → n + 1000 ≤ k →
    spec_l01Dec.l0 k x0 acc m = some (strOfNums ((acc ++ rdig m.natAbs) ++ (if x0 < 0 then [45] else [])).reverse) := by
  intro n
  induction n with
  | zero =>
    intro m acc k hm h0 h1 ha hk
    obtain ⟨k, rfl⟩ : ∃ m, k = m + 1 := ⟨k - 1, by omega⟩
    have : m = 0 := by simp at hm; exact hm
    subst this
    simp only [spec_l01Dec.l0]
    rw [if_pos trivial]
    have e : rdig (Int.natAbs 0) = [] := rdig_zero
    rw [e, List.append_nil]
    by_cases hx : x0 < 0
    · rw [if_pos hx, if_pos hx, if_pos (by omega), Dec_j1 (by simp; omega) (by simp; omega)]
    · rw [if_neg hx, if_neg hx, Dec_j1 (by omega) (by omega), List.append_nil]
  | succ n ih =>
    intro m acc k hm h0 h1 ha hk
    obtain ⟨k, rfl⟩ : ∃ m, k = m + 1 := ⟨k - 1, by omega⟩
    by_cases hz : m = 0
    · subst hz
      simp only [spec_l01Dec.l0]
      rw [if_pos trivial]
      have e : rdig (Int.natAbs 0) = [] := rdig_zero
      rw [e, List.append_nil]
      by_cases hx : x0 < 0
      · rw [if_pos hx, if_pos hx, if_pos (by omega), Dec_j1 (by simp; omega) (by simp; omega)]
      · rw [if_neg hx, if_neg hx, Dec_j1 (by omega) (by omega), List.append_nil]
    · obtain ⟨d1, d2, d3, d4, d5⟩ := dg_step h0 h1
      have hr := rdig_pos (u := m.natAbs) (by omega)
      have hn : (wrap64 (Int.tdiv m 10)).natAbs < 10 ^ n := by rw [d3]; rw [Nat.pow_succ] at hm; omega
      have go := ih (wrap64 (Int.tdiv m 10)) (acc ++ [48 + ((m.natAbs % 10 : Nat) : Int)]) k hn d4 d5 (by simp; omega) (by omega)
      rw [d3] at go
      simp only [spec_l01Dec.l0]
      rw [if_neg hz, hr]
      have hlen : acc.length < 140737488355328 := by omega
      by_cases hs : Int.tmod m 10 < 0
      · rw [if_pos hs, if_pos hlen, d1 hs, go]; simp
      · rw [if_neg hs, if_pos hlen, d2 hs, go]; simp
theorem l01Dec_eq {n : Int} (h0 : -9223372036854775808 ≤ n) (h1 : n ≤ 9223372036854775807) {k : Nat} (hk : 2000 ≤ k) : spec_l01Dec.f k n = some (impl_Decimal.t n) := by
  unfold spec_l01Dec.f impl_Decimal.t
  by_cases hz : n = 0
  · subst hz
    rw [if_pos rfl]
    have : Lib.itoa 0 = [48] := by unfold Lib.itoa; rw [if_neg (by decide)]; exact Lib.decDigits_one (i := 0) (by decide)
    rw [this]
  · rw [if_neg hz, Dec_l0 n 20 n [] k (by omega) h0 h1 (by simp) (by omega), List.nil_append, List.reverse_append]
    congr 1
    unfold strOfNums Lib.itoa
    congr 2
    rw [List.map_append, rdig_dec n.natAbs n.natAbs (Nat.le_refl _) (by omega)]
    by_cases hx : n < 0
    · rw [if_pos hx, if_pos hx]; rfl
    · rw [if_neg hx, if_neg hx, show n.natAbs = n.toNat by omega]; rfl
theorem Decimal_eq {n : Int} (h0 : -9223372036854775808 ≤ n) (h1 : n ≤ 9223372036854775807) : impl_Decimal.f n = some (impl_Decimal.t n) := if_pos ⟨h0, h1⟩
theorem Decimal_size {n : Int} (h0 : -9223372036854775808 ≤ n) (h1 : n ≤ 9223372036854775807) : (impl_Decimal.t n).size ≤ 21 := by
  have hr := rdig_length 20 n.natAbs (by omega)
  have hs : (impl_Decimal.t n).size = (Lib.itoa n).length := by unfold impl_Decimal.t; show (Lib.itoa n).toArray.size = _; simp
  have hd : ∀ u : Nat, u ≠ 0 → u = n.natAbs → (Lib.decDigits u).length ≤ 20 := fun u hu e => by
    rw [← rdig_dec u u (Nat.le_refl _) hu, List.length_map, List.length_reverse, e]; exact hr
  rw [hs]
  unfold Lib.itoa
  by_cases hz : n = 0
  · subst hz
    have : Lib.decDigits (Int.toNat 0) = [48] := Lib.decDigits_one (i := 0) (by decide)
    rw [if_neg (by decide), this]; decide
  · by_cases hx : n < 0
    · rw [if_pos hx, List.length_cons]; have := hd n.natAbs (by omega) rfl; omega
    · rw [if_neg hx]; have := hd n.toNat (by omega) (by omega); omega
end Go.Proofs.YtoneejhafmneiaaDoor.P

namespace Go.Proofs.YtoneejhafmneiaaDoor.P
open Go.RowKit Go.Proofs.YtoneejhafmneiaaDoorW.PrintWords Go.Proofs.YtoneejhafmneiaaDoorL
theorem core_UndoVersion {l : List S43} (hl : l.length ≤ 1048576) (hs : ∀ y ∈ l, smiVersion y) (hok : ∀ y ∈ l, okV y) (n : Int) : ∃ (v : List S43) (c : Int), (v.length ≤ 1048576 ∧ ∀ y ∈ v, smiVersion y) ∧ Ev (fun k => spec_UndoVersion.f k l n) (v, c) ∧ Ev (fun k => impl_UndoVersion.f k l n) (v, c) := by
  have e1 : Ev (fun k => spec_l27Ok.f k l) (historyB l) := Ev.le 2097200 (fun k hk => l27Ok_eq hl hok hk)
  have e2 := fun k hk => versionsCode_eq hl hok [n] (k := k) hk
  unfold spec_UndoVersion.f impl_UndoVersion.f
  by_cases h1 : historyB l = true
  rotate_left
  · have e3 : Ev (fun k => impl_versionsCode.f k l [n]) 1 := Ev.le 2097200 (fun k hk => by rw [e2 k hk, if_neg h1])
    exact ⟨[], 1, ⟨by simp, fun y hy => by cases hy⟩, Ev.bind e1 (Ev.neg h1 (Ev.now _)), Ev.bind e3 (Ev.neg (by decide) (Ev.now _))⟩
  by_cases h2 : 1 ≤ n ∧ n ≤ (l.length : Int)
  rotate_left
  · have e3 : Ev (fun k => impl_versionsCode.f k l [n]) 3 := Ev.le 2097200 (fun k hk => by
      rw [e2 k hk, if_pos h1, if_neg (by simp; omega)])
    exact ⟨[], 3, ⟨by simp, fun y hy => by cases hy⟩, Ev.bind e1 (Ev.pos h1 (Ev.bind (Ev.const (l27Number_eq l n)) (Ev.neg (by simp; omega) (Ev.now _)))), Ev.bind e3 (Ev.neg (by decide) (Ev.now _))⟩
  have e3 : Ev (fun k => impl_versionsCode.f k l [n]) 0 := Ev.le 2097200 (fun k hk => by
      rw [e2 k hk, if_pos h1, if_pos (by simp; omega)])
  obtain ⟨h32, hpar⟩ := history_facts h1
  have hp := hpar n h2.1 h2.2
  unfold par at hp
  obtain ⟨i, hi⟩ : ∃ i : Nat, n = (i : Int) + 1 := ⟨(n - 1).toNat, by omega⟩
  subst hi
  have hil : i < l.length := by omega
  have w1 : wrap64 ((i : Int) + 1 - 1) = (i : Int) := by rw [wrap_id (by omega) (by omega)]; omega
  rw [show (i : Int) + 1 - 1 = (i : Int) by omega] at hp
  have hD : ((impl_Decimal.t ((i : Int) + 1)).size ≤ 21) := Decimal_size (by omega) (by omega)
  have hst : ∃ s : List S82, s.length ≤ 1048576 ∧ spec_l27StateOf.f l ((rd_T43 l (i : Int)).f1) = some s ∧ impl_versionState.f l ((rd_T43 l (i : Int)).f1) = some s := by
    unfold spec_l27StateOf.f impl_versionState.f
    generalize (rd_T43 l (i : Int)).f1 = p at hp ⊢
    by_cases h0 : p = 0
    · exact ⟨[], by simp, if_pos h0, if_pos h0⟩
    · obtain ⟨q, hq⟩ : ∃ q : Nat, p = (q : Int) + 1 := ⟨(p - 1).toNat, by omega⟩
      subst hq
      have hql : q < l.length := by omega
      have w2 : wrap64 ((q : Int) + 1 - 1) = (q : Int) := by rw [wrap_id (by omega) (by omega)]; omega
      refine ⟨(rd_T43 l (q : Int)).f3, ?_, ?_, ?_⟩
      · rw [rd_iVersion hql]; exact (hs _ (List.getElem_mem hql)).1
      · rw [if_neg h0, w2, if_pos (nn_cast q), if_pos (lt_cast hql)]
      · rw [if_neg h0, w2, if_pos (nn_cast q), if_pos (lt_cast hql)]
  obtain ⟨s, hsl, hs1, hs2⟩ := hst
  obtain ⟨v, c, hv, hA, hW⟩ := add27_ev h32 hs ((i : Int) + 1) ((⟨#[117, 110, 100, 111, 32]⟩ : ByteArray) ++ impl_Decimal.t ((i : Int) + 1)) hsl
  have hd1 : Ev (fun k => spec_l01Dec.f k ((i : Int) + 1)) (impl_Decimal.t ((i : Int) + 1)) := Ev.le 2000 (fun k hk => l01Dec_eq (by omega) (by omega) hk)
  have hd2 : impl_Decimal.f ((i : Int) + 1) = some (impl_Decimal.t ((i : Int) + 1)) := Decimal_eq (by omega) (by omega)
  rw [w1]
  refine ⟨v, c, hv, ?_, ?_⟩
  · refine Ev.bind e1 (Ev.pos h1 (Ev.bind (Ev.const (l27Number_eq l _)) (Ev.pos (by simp; omega) (Ev.bind hd1 (Ev.pos (by omega) (Ev.pos (nn_cast i) (Ev.pos (lt_cast hil) (Ev.bind (Ev.const hs1) (Ev.bind hA (Ev.now _)))))))) ))
  · refine Ev.bind e3 (Ev.pos rfl (Ev.bind (Ev.const hd2) (Ev.pos (by omega) (Ev.pos (nn_cast i) (Ev.pos (lt_cast hil) (Ev.bind (Ev.const hs2) (Ev.const (by rw [hW]; rfl))))))))
end Go.Proofs.YtoneejhafmneiaaDoor.P

namespace Go.Proofs.YtoneejhafmneiaaDoor.P
open Go.RowKit Go.Proofs.YtoneejhafmneiaaDoorW.PrintWords Go.Proofs.YtoneejhafmneiaaDoorL
theorem markText_ev {n : Int} (h0 : 0 ≤ n) (h : n ≤ 4611686018427387904) : Ev (fun k => laws_markText.f k n) (mt n) := by
  have hs : ∃ r, laws_markText.f 100 n = some r := by
    unfold laws_markText.f
    by_cases h1 : n ≤ 0
    · rw [if_pos h1]; exact ⟨_, rfl⟩
    · rw [if_neg h1]
      exact markText_some 20 100 n _ h0 (by omega) (by omega) (by decide) (by omega)
  obtain ⟨r, hr⟩ := hs
  refine Ev.le 100 (fun k hk => ?_)
  have := at_rounds (fun k => laws_markText.mono n k) hk hr
  rw [this]
  unfold mt
  rw [hr]; rfl
/-- Marks of settings, however great. -/
theorem markSet_ev {l : List S82} (hl : l.length ≤ 1048576) {m : Int} (h0 : 0 ≤ m) (h1 : m ≤ 2305843009213693952) : Ev (fun k => laws_markSettingS.f k l m) (m + 2 * l.length, mkSettingS l m) := by
  have hc : ∀ x : S82, (0 : Int) ≤ (2 : Int) := fun _ => by omega
  have htot : mtot (fun _ : S82 => (2 : Int)) l m = m + 2 * l.length := mtot_const 2 l m
  unfold laws_markSettingS.f mkSettingS
  rw [← htot]
  refine mark_ev (fun k l m i => laws_markSettingS.l0 k l m i) _ (fun _ => 2) 4611686018427387000 hc (fun _ => True) (fun pre x rest m r hx hp hm hM hE => ?_) (fun k l m => ?_) l m (fun _ _ => trivial) (by omega) h0 (by omega)
  · have W1 := Aside0.mk (show wrap64 (m + 1) = m + 1 from wrap_id (by omega) (by omega))
    have W2 := Aside0.mk (show wrap64 (m + 1 + 1) = m + 2 from (wrap_id (by omega) (by omega)).trans (by omega))
    have WS := Aside0.mk (show wrap64 ((pre.length : Int) + 1) = ((pre.length + 1 : Nat) : Int) from wrap_succ (i := pre.length) (n := pre.length + 1) (by omega) (by omega))
    refine Ev.step (f := fun k => (laws_markText.f k m).bind fun t => laws_markSettingS.l0 k (pre ++ ⟨t, m + 1⟩ :: rest) (m + 2) ((pre.length + 1 : Nat) : Int)) (fun k => ?_) (Ev.bind (markText_ev hm (by omega)) hE)
    have hr : ∀ (y : S82), rd_T82 (pre ++ y :: rest) (pre.length : Int) = y := fun y => by simp [rd_T82]
    simp only [laws_markSettingS.l0]
    rw [if_pos (by simp; omega)]
    simp only [if_pos (nn_cast pre.length), hr, set_mid, W1.out, W2.out, WS.out, Option.bind_some]
  · simp only [laws_markSettingS.l0]
    rw [if_neg (nlt_cast _)]
end Go.Proofs.YtoneejhafmneiaaDoor.P

namespace Go.Proofs.YtoneejhafmneiaaDoor.P
open Go.RowKit Go.Proofs.YtoneejhafmneiaaDoorW.PrintWords Go.Proofs.YtoneejhafmneiaaDoorL
theorem heldSet_ev {l : List S82} (hl : l.length ≤ 1048576) {m : Int} (h0 : 0 ≤ m) (h1 : m ≤ 2305843009213693952) : Ev (fun k => laws_heldSettingS.f k (mkSettingS l m) m) (m + 2 * l.length) := by
  have hc : ∀ x : S82, (0 : Int) ≤ (2 : Int) := fun _ => by omega
  have htot : mtot (fun _ : S82 => (2 : Int)) l m = m + 2 * l.length := mtot_const 2 l m
  unfold laws_heldSettingS.f
  rw [← htot]
  obtain ⟨l', hl'⟩ : ∃ l', l' = mkSettingS l m := ⟨_, rfl⟩
  rw [← hl']
  unfold mkSettingS at hl'
  refine held_ev (fun k m i => laws_heldSettingS.l0 k l' m i) _ (fun _ => 2) 4611686018427387000 hc (fun _ => True) l' (fun pre x rest m r he hx hp hm hM hE => ?_) (fun k m => ?_) l m hl' (fun _ _ => trivial) (by omega) h0 (by omega)
  · have W1 := Aside0.mk (show wrap64 (m + 1) = m + 1 from wrap_id (by omega) (by omega))
    have W2 := Aside0.mk (show wrap64 (m + 1 + 1) = m + 2 from (wrap_id (by omega) (by omega)).trans (by omega))
    have WS := Aside0.mk (show wrap64 ((pre.length : Int) + 1) = ((pre.length + 1 : Nat) : Int) from wrap_succ (i := pre.length) (n := pre.length + 1) (by omega) (by omega))
    refine Ev.step (f := fun k => (laws_markText.f k m).bind fun t => if (mt m).toList = t.toList then (if m + 1 = m + 1 then laws_heldSettingS.l0 k l' (m + 2) ((pre.length + 1 : Nat) : Int) else some (-1)) else some (-1)) (fun k => ?_) (Ev.bind (markText_ev hm (by omega)) (Ev.pos rfl (Ev.pos rfl hE)))
    have hr : ∀ (y : S82), rd_T82 (pre ++ y :: rest) (pre.length : Int) = y := fun y => by simp [rd_T82]
    simp only [laws_heldSettingS.l0]
    rw [if_pos (by rw [he]; simp; omega)]
    simp only [if_pos (nn_cast pre.length), W1.out, W2.out, WS.out]
    simp only [he, hr]
  · simp only [laws_heldSettingS.l0]
    rw [if_neg (nlt_cast _)]
theorem markVersionS_held {l : List S43} (hl : l.length ≤ 1048576) (hs : ∀ y ∈ l, smiVersion y) {m : Int} (h0 : 0 ≤ m) (h1 : m ≤ 1152921504606846976) : ∃ (m' : Int) (l' : List S43), m ≤ m' ∧ m' ≤ m + 8796093022208 ∧ Ev (fun k => laws_markVersionS.f k l m) (m', l') ∧ Ev (fun k => laws_heldVersionS.f k l' m) m' := by
  have hc : ∀ x : S43, (0 : Int) ≤ 3 + 2 * (x.f3.length : Int) := fun x => by omega
  have htot : mtot (fun x : S43 => 3 + 2 * (x.f3.length : Int)) l m ≤ m + (l.length : Int) * 2097155 := mtot_le (P := fun e => e.f3.length ≤ 1048576) (fun x hx => by omega) l m (fun y hy => (hs y hy).1)
  have hge := mtot_ge hc l m
  refine ⟨mtot (fun x : S43 => 3 + 2 * (x.f3.length : Int)) l m, mkl (fun (x : S43) q => (⟨q, q + 1, mt (q + 1 + 1), mkSettingS x.f3 (q + 1 + 1 + 1)⟩ : S43)) (fun x => 3 + 2 * (x.f3.length : Int)) l m, hge, by omega, ?_, ?_⟩
  · unfold laws_markVersionS.f
    refine mark_ev (fun k l m i => laws_markVersionS.l0 k l m i) (fun (x : S43) q => (⟨q, q + 1, mt (q + 1 + 1), mkSettingS x.f3 (q + 1 + 1 + 1)⟩ : S43)) (fun x => 3 + 2 * (x.f3.length : Int)) 2305843009213693952 hc (fun e => e.f3.length ≤ 1048576) (fun pre x rest m r hx hp hm hM hE => ?_) (fun k l m => ?_) l m (fun y hy => (hs y hy).1) (by omega) h0 (by omega)
    · have W1 := Aside0.mk (show wrap64 (m + 1) = m + 1 from wrap_id (by omega) (by omega))
      have W2 := Aside0.mk (show wrap64 (m + 1 + 1) = m + 1 + 1 from wrap_id (by omega) (by omega))
      have W3 := Aside0.mk (show wrap64 (m + 1 + 1 + 1) = m + 1 + 1 + 1 from wrap_id (by omega) (by omega))
      have WS := Aside0.mk (show wrap64 ((pre.length : Int) + 1) = ((pre.length + 1 : Nat) : Int) from wrap_succ (i := pre.length) (n := pre.length + 1) (by omega) (by omega))
      have hr : rd_T43 (pre ++ x :: rest) (pre.length : Int) = x := by simp [rd_T43]
      have e3 : m + (3 + 2 * (x.f3.length : Int)) = m + 1 + 1 + 1 + 2 * (x.f3.length : Int) := by omega
      rw [e3] at hE
      refine Ev.step (f := fun k => (laws_markText.f k (m + 1 + 1)).bind fun t => (laws_markSettingS.f k x.f3 (m + 1 + 1 + 1)).bind fun t3 => laws_markVersionS.l0 k (pre ++ ⟨m, m + 1, t, t3.2⟩ :: rest) t3.1 ((pre.length + 1 : Nat) : Int)) (fun k => ?_) (Ev.bind (markText_ev (by omega) (by omega)) (Ev.bind (markSet_ev hx (by omega) (by omega)) hE))
      simp only [laws_markVersionS.l0]
      rw [if_pos (by simp; omega), if_pos (nn_cast _), W1.out, W2.out, W3.out, WS.out, hr]
      simp only [set_mid]
    · simp only [laws_markVersionS.l0]
      rw [if_neg (nlt_cast _)]
  · unfold laws_heldVersionS.f
    obtain ⟨l', hl'⟩ : ∃ l', l' = mkl (fun (x : S43) q => (⟨q, q + 1, mt (q + 1 + 1), mkSettingS x.f3 (q + 1 + 1 + 1)⟩ : S43)) (fun x => 3 + 2 * (x.f3.length : Int)) l m := ⟨_, rfl⟩
    rw [← hl']
    refine held_ev (fun k m i => laws_heldVersionS.l0 k l' m i) (fun (x : S43) q => (⟨q, q + 1, mt (q + 1 + 1), mkSettingS x.f3 (q + 1 + 1 + 1)⟩ : S43)) (fun x => 3 + 2 * (x.f3.length : Int)) 2305843009213693952 hc (fun e => e.f3.length ≤ 1048576) l' (fun pre x rest m r he hx hp hm hM hE => ?_) (fun k m => ?_) l m hl' (fun y hy => (hs y hy).1) (by omega) h0 (by omega)
    · have W1 := Aside0.mk (show wrap64 (m + 1) = m + 1 from wrap_id (by omega) (by omega))
      have W2 := Aside0.mk (show wrap64 (m + 1 + 1) = m + 1 + 1 from wrap_id (by omega) (by omega))
      have W3 := Aside0.mk (show wrap64 (m + 1 + 1 + 1) = m + 1 + 1 + 1 from wrap_id (by omega) (by omega))
      have WS := Aside0.mk (show wrap64 ((pre.length : Int) + 1) = ((pre.length + 1 : Nat) : Int) from wrap_succ (i := pre.length) (n := pre.length + 1) (by omega) (by omega))
      have hr : ∀ y : S43, rd_T43 (pre ++ y :: rest) (pre.length : Int) = y := fun y => by simp [rd_T43]
      have e3 : m + (3 + 2 * (x.f3.length : Int)) = m + 1 + 1 + 1 + 2 * (x.f3.length : Int) := by omega
      rw [e3] at hE
      refine Ev.step (f := fun k => if m = m then (if m + 1 = m + 1 then ((laws_markText.f k (m + 1 + 1)).bind fun t => if (mt (m + 1 + 1)).toList = t.toList then ((laws_heldSettingS.f k (mkSettingS x.f3 (m + 1 + 1 + 1)) (m + 1 + 1 + 1)).bind fun t3 => if t3 < 0 then some (-1) else laws_heldVersionS.l0 k l' t3 ((pre.length + 1 : Nat) : Int)) else some (-1)) else some (-1)) else some (-1)) (fun k => ?_) (Ev.pos rfl (Ev.pos rfl (Ev.bind (markText_ev (by omega) (by omega)) (Ev.pos rfl (Ev.bind (heldSet_ev hx (by omega) (by omega)) (Ev.neg (by omega) hE))))))
      simp only [laws_heldVersionS.l0]
      rw [if_pos (by rw [he]; simp; omega)]
      simp only [if_pos (nn_cast pre.length), W1.out, W2.out, W3.out, WS.out]
      simp only [he, hr]
    · simp only [laws_heldVersionS.l0]
      rw [if_neg (nlt_cast _)]
end Go.Proofs.YtoneejhafmneiaaDoor.P

namespace Go.Proofs.YtoneejhafmneiaaDoor.Pure
open Go.RowKit Go.Proofs.YtoneejhafmneiaaDoorW.PrintWords Go.Proofs.YtoneejhafmneiaaDoorL Go.Proofs.YtoneejhafmneiaaDoor.P
theorem FnExactUndoVersion : ∀ (x0 : List P.S38) (x1 : Int), (x0.length ≤ maxLen ∧ ∀ y ∈ x0, g38 y) → (Lit.int .i64 x1).wf = true → ∃ k : Nat, P.laws_FnExactUndoVersion.f k x0 x1 = some true := by
  intro x0 x1 ⟨hl0, hg0⟩ _
  refine Ev.rounds (g := fun k => P.laws_FnExactUndoVersion.f k x0 x1) ?_
  unfold laws_FnExactUndoVersion.f
  obtain ⟨r0, hr0, h0⟩ := szVersionS_some hl0 hg0 (a := 1048576) (by omega) (by omega) (k := 10000000) (by omega)
  refine Ev.bind (a := r0) (Ev.of (g := fun k => laws_szVersionS.f k x0 1048576) (fun k => laws_szVersionS.mono _ _ k) hr0) ?_
  try dsimp only
  by_cases g0 : r0 < 0
  · exact Ev.pos g0 (Ev.now _)
  refine Ev.neg g0 ?_
  obtain ⟨p0, q0, z0, s0⟩ := h0.resolve_left g0
  unfold laws_FnExactUndoVersion.g
  have hx0 : (x0.map cVersion).length ≤ 1048576 := by simpa using z0
  have hs0 : ∀ y ∈ x0.map cVersion, smiVersion y := fun y hy => by obtain ⟨x, hx, rfl⟩ := List.mem_map.1 hy; exact smi_cVersion (s0 x hx)
  have hT0 : Ev (fun k => laws_toVersionS.f k x0) (x0.map cVersion) := Ev.le 10000000 (fun k hk => toVersionS_eq z0 s0 (by omega))
  have hE0 : Ev (fun k => laws_eqVersionS.f k (x0.map cVersion) (x0.map cVersion)) true := Ev.le 10000000 (fun k hk => by rw [eqVersionS_eq hx0 hs0 (by omega)]; simp)
  have hok0 : ∀ y ∈ x0.map cVersion, okV y := okV_c s0
  generalize x0.map cVersion = l0 at hx0 hT0 hE0 hs0 hok0 ⊢
  refine Ev.bind hT0 ?_
  try dsimp only
  obtain ⟨v, c, hv, hS, hI⟩ := core_UndoVersion hx0 hs0 hok0 x1
  have hV : Ev (fun k => laws_eqVersionS.f k v v) true := Ev.le 10000000 (fun k hk => by rw [eqVersionS_eq hv.1 hv.2 (by omega)]; simp)
  refine Ev.bind hS ?_
  try dsimp only
  refine Ev.bind hT0 ?_
  try dsimp only
  refine Ev.bind hI ?_
  try dsimp only
  refine Ev.yes hV ?_
  refine Ev.pos rfl ?_
  refine Ev.bind hT0 ?_
  try dsimp only
  refine Ev.yes hE0 ?_
  obtain ⟨m0, y0, mb0, mc0, hM0, hH0⟩ := markVersionS_held hx0 hs0 (m := 1) (by omega) (by omega)
  refine Ev.bind hM0 ?_
  try dsimp only
  refine Ev.neg (by omega) ?_
  refine Ev.yes hV ?_
  refine Ev.pos rfl ?_
  obtain ⟨m1, y1, mb1, mc1, hM1, hH1⟩ := markVersionS_held hv.1 hv.2 (m := 1) (by omega) (by omega)
  refine Ev.bind hM1 ?_
  try dsimp only
  refine Ev.bind hH1 ?_
  try dsimp only
  refine Ev.neg (by omega) ?_
  refine Ev.pos rfl ?_
  refine Ev.bind hT0 ?_
  try dsimp only
  refine Ev.bind hI ?_
  try dsimp only
  refine Ev.yes hV ?_
  refine Ev.pos rfl ?_
  refine Ev.bind hH1 ?_
  try dsimp only
  refine Ev.neg (by omega) ?_
  refine Ev.pos rfl ?_
  exact Ev.now _
end Go.Proofs.YtoneejhafmneiaaDoor.Pure
