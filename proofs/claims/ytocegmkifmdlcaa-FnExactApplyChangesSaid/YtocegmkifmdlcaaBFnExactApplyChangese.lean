/- Part e of what FnExactApplyChanges stands on: functions of the program as Lean functions with their walks, and plain lemmas. -/
import Derived.Test.YtocegmkifmdlcaaK
import Derived.Test.YtocegmkifmdlcaaBFnExactApplyChangesa
import Derived.Test.YtocegmkifmdlcaaBFnExactApplyChangesb
import Derived.Test.YtocegmkifmdlcaaBFnExactApplyChangesd
import Derived.ChangeOld
import Derived.ChangeArms
import Derived.WideShapes
import Derived.Test.YtocegmkifmdlcaaWWords
import Derived.KernelRfl
import Derived.Shelf.Lays
import Derived.Test.YtocegmkifmdlcaaProg
import Derived.Lib.Hide
import Derived.Deep.RegionHeld3
import Derived.Shelf.Sort.Plain
import Derived.Shelf.Slices.In.SortNone
import Derived.Sort.Grow
import Derived.Sort.EncStr
import Derived.Lib.SlicesCompact
import Derived.Shelf.Slices.CompactS
import Derived.Test.YtocegmkifmdlcaaBFnExactApplyChangesc
namespace Go.Proofs.Ytocegmkifmdlcaa.P
open Go.RowKit Go.Proofs.YtocegmkifmdlcaaW.PrintWords Go.Proofs.YtocegmkifmdlcaaW.PrintLast Go.Proofs.YtocegmkifmdlcaaW.PrintMore
attribute [local go_sem] max2_int min2_int max_two min_two max_three min_three max_four min_four str_leq str_gtr str_geq
set_option linter.unusedVariables false
set_option linter.unusedSimpArgs false

def laws_FnExactApplyChanges.g (k : Nat) (l0 : List S74) (l1 : List S77) : Option Bool := (laws_toSettingS.f k l0).bind fun t5 => ((laws_toChangeS.f k l1).bind fun t8 => ((spec_ApplyChanges.f k t5 t8).bind fun bt11 => ((laws_toSettingS.f k l0).bind fun t15 => ((laws_toChangeS.f k l1).bind fun t18 => ((impl_ApplyChanges.f k t15 t18).bind fun bt21 => (if laws_eqSettingS.f k bt21.1 bt11.1 = some true then (if bt21.2 = bt11.2 then ((laws_toSettingS.f k l0).bind fun t27 => (if laws_eqSettingS.f k t15 t27 = some true then ((laws_toChangeS.f k l1).bind fun t32 => (if laws_eqChangeS.f k t18 t32 = some true then ((laws_markSettingS.f k t15 1).bind fun bt37 => ((laws_markChangeS.f k t18 bt37.1).bind fun bt40 => (if bt40.1 < 0 then none else (if laws_eqSettingS.f k bt21.1 bt11.1 = some true then (if bt21.2 = bt11.2 then ((laws_markSettingS.f k bt21.1 1).bind fun bt45 => ((laws_heldSettingS.f k bt45.2 1).bind fun t48 => (if t48 < 0 then none else (if t48 = bt45.1 then ((laws_toSettingS.f k l0).bind fun t50 => ((laws_toChangeS.f k l1).bind fun t53 => ((impl_ApplyChanges.f k t50 t53).bind fun bt56 => (if laws_eqSettingS.f k bt56.1 bt11.1 = some true then (if bt56.2 = bt11.2 then ((laws_heldSettingS.f k bt45.2 1).bind fun t62 => (if t62 < 0 then none else (if t62 = bt45.1 then (some true) else none))) else none) else none)))) else none)))) else none) else none)))) else none)) else none)) else none) else none))))))
def laws_FnExactApplyChanges.f (k : Nat) (l0 : List S74) (l1 : List S77) : Option Bool := (laws_szSettingS.f k l0 1048576).bind fun t1 => (if t1 < 0 then some true else ((laws_szChangeS.f k l1 t1).bind fun t3 => (if t3 < 0 then some true else (laws_FnExactApplyChanges.g k l0 l1))))
set_option maxHeartbeats 8000000 in
set_option maxRecDepth 100000 in
theorem laws_FnExactApplyChanges.early0 (k : Nat) (A0 : Option Addr) (c0 : Nat) (l0 : List S74) (A1 : Option Addr) (c1 : Nat) (l1 : List S77) (w : World) (hr0 : Kd.C k74 w A0 l0.length l0) (hc0 : l0.length ≤ c0) (hr1 : Kd.C k77 w A1 l1.length l1) (hc1 : l1.length ≤ c1) (t1 : Int) (Q2 : Aside0 (laws_szSettingS.f k l0 1048576 = some t1)) (ef : t1 < 0) :
    Calls Try.prog 3 #[.slice A0 l0.length c0, .slice A1 l1.length c1] w fun e w' => e = .returned (.bool true) ∧ Below w.heap.size w w' := by
  have efb : decide (t1 < 0) = true := decide_eq_true ef
  clear ef
  have HR0 := Aside0.mk hr0
  have HR1 := Aside0.mk hr1
  have HC0 := Aside0.mk hc0
  have HC1 := Aside0.mk hc1
  clear hr0 hc0 hr1 hc1
  have HB := Aside0.mk (Below.refl w.heap.size w)
  go_enter Try.func3, Try.ntmps3
  go_wp2_with fail
  refine (laws_szSettingS.calls k _ _ l0 1048576 t1 _ (by exact Kd.C_below HR0.out (by repeat (first | (with_reducible first | exact HB.out | apply below_alloc | apply pw_below_drewN | apply below_drew1) | exact HB.out))) HC0.out Q2.out).mono ?_
  rintro e w1 ⟨rfl, hb⟩
  have n0_ := Aside0.mk (below_step (by repeat (first | (with_reducible first | exact HB.out | apply below_alloc | apply pw_below_drewN | apply below_drew1) | exact HB.out)) hb)
  clear HB hb
  have HB := n0_
  clear n0_
  go_wp2_with fail
  go_ret
  exact ⟨rfl, (by repeat (first | (with_reducible first | exact HB.out | apply below_alloc | apply pw_below_drewN | apply below_drew1) | exact HB.out))⟩
set_option maxHeartbeats 8000000 in
set_option maxRecDepth 100000 in
theorem laws_FnExactApplyChanges.early1 (k : Nat) (A0 : Option Addr) (c0 : Nat) (l0 : List S74) (A1 : Option Addr) (c1 : Nat) (l1 : List S77) (w : World) (hr0 : Kd.C k74 w A0 l0.length l0) (hc0 : l0.length ≤ c0) (hr1 : Kd.C k77 w A1 l1.length l1) (hc1 : l1.length ≤ c1) (t1 : Int) (t3 : Int) (Q2 : Aside0 (laws_szSettingS.f k l0 1048576 = some t1)) (e1 : ¬ t1 < 0) (Q4 : Aside0 (laws_szChangeS.f k l1 t1 = some t3)) (ef : t3 < 0) :
    Calls Try.prog 3 #[.slice A0 l0.length c0, .slice A1 l1.length c1] w fun e w' => e = .returned (.bool true) ∧ Below w.heap.size w w' := by
  have e1b : decide (t1 < 0) = false := decide_eq_false e1
  clear e1
  have efb : decide (t3 < 0) = true := decide_eq_true ef
  clear ef
  have HR0 := Aside0.mk hr0
  have HR1 := Aside0.mk hr1
  have HC0 := Aside0.mk hc0
  have HC1 := Aside0.mk hc1
  clear hr0 hc0 hr1 hc1
  have HB := Aside0.mk (Below.refl w.heap.size w)
  go_enter Try.func3, Try.ntmps3
  go_wp2_with fail
  refine (laws_szSettingS.calls k _ _ l0 1048576 t1 _ (by exact Kd.C_below HR0.out (by repeat (first | (with_reducible first | exact HB.out | apply below_alloc | apply pw_below_drewN | apply below_drew1) | exact HB.out))) HC0.out Q2.out).mono ?_
  rintro e w1 ⟨rfl, hb⟩
  have n0_ := Aside0.mk (below_step (by repeat (first | (with_reducible first | exact HB.out | apply below_alloc | apply pw_below_drewN | apply below_drew1) | exact HB.out)) hb)
  clear HB hb
  have HB := n0_
  clear n0_
  go_wp2_with fail
  refine (laws_szChangeS.calls k _ _ l1 t1 t3 _ (by exact Kd.C_below HR1.out (by repeat (first | (with_reducible first | exact HB.out | apply below_alloc | apply pw_below_drewN | apply below_drew1) | exact HB.out))) HC1.out Q4.out).mono ?_
  rintro e w2 ⟨rfl, hb⟩
  have n0_ := Aside0.mk (below_step (by repeat (first | (with_reducible first | exact HB.out | apply below_alloc | apply pw_below_drewN | apply below_drew1) | exact HB.out)) hb)
  clear HB hb
  have HB := n0_
  clear n0_
  go_wp2_with fail
  go_ret
  exact ⟨rfl, (by repeat (first | (with_reducible first | exact HB.out | apply below_alloc | apply pw_below_drewN | apply below_drew1) | exact HB.out))⟩
set_option maxHeartbeats 8000000 in
set_option maxRecDepth 100000 in
theorem laws_FnExactApplyChanges.main (k : Nat) (A0 : Option Addr) (c0 : Nat) (l0 : List S74) (A1 : Option Addr) (c1 : Nat) (l1 : List S77) (w : World) (hr0 : Kd.C k74 w A0 l0.length l0) (hc0 : l0.length ≤ c0) (hr1 : Kd.C k77 w A1 l1.length l1) (hc1 : l1.length ≤ c1) (t1 : Int) (t3 : Int) (t5 : List (S80)) (t8 : List (S82)) (t11 : List (S80)) (t12 : Int) (t15 : List (S80)) (t18 : List (S82)) (t21 : List (S80)) (t22 : Int) (t27 : List (S80)) (t32 : List (S82)) (t37 : Int) (t38 : List (S80)) (t40 : Int) (t41 : List S82) (t45 : Int) (t46 : List (S80)) (t48 : Int) (t50 : List (S80)) (t53 : List (S82)) (t56 : List (S80)) (t57 : Int) (t62 : Int) (Q2 : Aside0 (laws_szSettingS.f k l0 1048576 = some t1)) (e1 : ¬ t1 < 0) (Q4 : Aside0 (laws_szChangeS.f k l1 t1 = some t3)) (e3 : ¬ t3 < 0) (Q6 : Aside0 (laws_toSettingS.f k l0 = some t5)) (Q9 : Aside0 (laws_toChangeS.f k l1 = some t8)) (Q13 : Aside0 (spec_ApplyChanges.f k t5 t8 = some (t11, t12))) (Q16 : Aside0 (laws_toSettingS.f k l0 = some t15)) (Q19 : Aside0 (laws_toChangeS.f k l1 = some t18)) (Q23 : Aside0 (impl_ApplyChanges.f k t15 t18 = some (t21, t22))) (Q26 : Aside0 (laws_eqSettingS.f k t21 t11 = some true)) (e11 : t22 = t12) (Q28 : Aside0 (laws_toSettingS.f k l0 = some t27)) (Q31 : Aside0 (laws_eqSettingS.f k t15 t27 = some true)) (Q33 : Aside0 (laws_toChangeS.f k l1 = some t32)) (Q36 : Aside0 (laws_eqChangeS.f k t18 t32 = some true)) (Q39 : Aside0 (laws_markSettingS.f k t15 1 = some (t37, t38))) (Q42 : Aside0 (laws_markChangeS.f k t18 t37 = some (t40, t41))) (e18 : ¬ t40 < 0) (Q44 : Aside0 (laws_eqSettingS.f k t21 t11 = some true)) (e20 : t22 = t12) (Q47 : Aside0 (laws_markSettingS.f k t21 1 = some (t45, t46))) (Q49 : Aside0 (laws_heldSettingS.f k t46 1 = some t48)) (e23 : ¬ t48 < 0) (e24 : t48 = t45) (Q51 : Aside0 (laws_toSettingS.f k l0 = some t50)) (Q54 : Aside0 (laws_toChangeS.f k l1 = some t53)) (Q58 : Aside0 (impl_ApplyChanges.f k t50 t53 = some (t56, t57))) (Q61 : Aside0 (laws_eqSettingS.f k t56 t11 = some true)) (e29 : t57 = t12) (Q63 : Aside0 (laws_heldSettingS.f k t46 1 = some t62)) (e31 : ¬ t62 < 0) (e32 : t62 = t45) :
    Calls Try.prog 3 #[.slice A0 l0.length c0, .slice A1 l1.length c1] w fun e w' => e = .returned (.bool true) ∧ Below w.heap.size w w' := by
  have e1b : decide (t1 < 0) = false := decide_eq_false e1
  clear e1
  have e3b : decide (t3 < 0) = false := decide_eq_false e3
  clear e3
  have e11b : (t22 == t12) = true := beq_iff_eq.mpr e11
  have e11c : (t22 != t12) = false := bne_eq_false_iff_eq.mpr e11
  clear e11
  have e18b : decide (t40 < 0) = false := decide_eq_false e18
  clear e18
  have e20b : (t22 == t12) = true := beq_iff_eq.mpr e20
  have e20c : (t22 != t12) = false := bne_eq_false_iff_eq.mpr e20
  clear e20
  have e23b : decide (t48 < 0) = false := decide_eq_false e23
  clear e23
  have e24b : (t48 == t45) = true := beq_iff_eq.mpr e24
  have e24c : (t48 != t45) = false := bne_eq_false_iff_eq.mpr e24
  clear e24
  have e29b : (t57 == t12) = true := beq_iff_eq.mpr e29
  have e29c : (t57 != t12) = false := bne_eq_false_iff_eq.mpr e29
  clear e29
  have e31b : decide (t62 < 0) = false := decide_eq_false e31
  clear e31
  have e32b : (t62 == t45) = true := beq_iff_eq.mpr e32
  have e32c : (t62 != t45) = false := bne_eq_false_iff_eq.mpr e32
  clear e32
  have HR0 := Aside0.mk hr0
  have HR1 := Aside0.mk hr1
  have HC0 := Aside0.mk hc0
  have HC1 := Aside0.mk hc1
  clear hr0 hc0 hr1 hc1
  have HB := Aside0.mk (Below.refl w.heap.size w)
  go_enter Try.func3, Try.ntmps3
  go_wp2_with fail
  refine (laws_szSettingS.calls k _ _ l0 1048576 t1 _ (by exact Kd.C_below HR0.out (by repeat (first | (with_reducible first | exact HB.out | apply below_alloc | apply pw_below_drewN | apply below_drew1) | exact HB.out))) HC0.out Q2.out).mono ?_
  rintro e w1 ⟨rfl, hb⟩
  have n0_ := Aside0.mk (below_step (by repeat (first | (with_reducible first | exact HB.out | apply below_alloc | apply pw_below_drewN | apply below_drew1) | exact HB.out)) hb)
  clear HB hb
  have HB := n0_
  clear n0_
  go_wp2_with fail
  refine (laws_szChangeS.calls k _ _ l1 t1 t3 _ (by exact Kd.C_below HR1.out (by repeat (first | (with_reducible first | exact HB.out | apply below_alloc | apply pw_below_drewN | apply below_drew1) | exact HB.out))) HC1.out Q4.out).mono ?_
  rintro e w2 ⟨rfl, hb⟩
  have n0_ := Aside0.mk (below_step (by repeat (first | (with_reducible first | exact HB.out | apply below_alloc | apply pw_below_drewN | apply below_drew1) | exact HB.out)) hb)
  clear HB hb
  have HB := n0_
  clear n0_
  go_wp2_with fail
  refine (laws_toSettingS.calls k _ _ l0 t5 _ (by exact Kd.C_below HR0.out (by repeat (first | (with_reducible first | exact HB.out | apply below_alloc | apply pw_below_drewN | apply below_drew1) | exact HB.out))) HC0.out Q6.out).mono ?_
  rintro e w3 ⟨v0, rfl, ho0, hb⟩
  have n0_ := Aside0.mk (Iv_R (lo := w.heap.size) (W := _) ho0 (below_size (by repeat (first | (with_reducible first | exact HB.out | apply below_alloc | apply pw_below_drewN | apply below_drew1) | exact HB.out))) (below_size (by repeat (first | (with_reducible first | exact HB.out | apply below_alloc | apply pw_below_drewN | apply below_drew1) | exact HB.out))))
  have n1_ := Aside0.mk (Nat.le_refl w3.heap.size)
  have n2_ := Aside0.mk (Nat.le_trans (below_size (by repeat (first | (with_reducible first | exact HB.out | apply below_alloc | apply pw_below_drewN | apply below_drew1) | exact HB.out))) hb.size)
  have n3_ := Aside0.mk (below_step (by repeat (first | (with_reducible first | exact HB.out | apply below_alloc | apply pw_below_drewN | apply below_drew1) | exact HB.out)) hb)
  clear HB hb ho0
  have HO_row7 := n0_
  have HS := n1_
  have M3 := n2_
  have HB := n3_
  clear n0_ n1_ n2_ n3_
  obtain ⟨A_row7, c_row7, rfl⟩ := Kd.R_slice HO_row7.out
  go_wp2_with fail
  refine (laws_toChangeS.calls k _ _ l1 t8 _ (by exact Kd.C_below HR1.out (by repeat (first | (with_reducible first | exact HB.out | apply below_alloc | apply pw_below_drewN | apply below_drew1) | exact HB.out))) HC1.out Q9.out).mono ?_
  rintro e w4 ⟨v0, rfl, ho0, hb⟩
  have n0_ := Aside0.mk (Kd.R_below (by (with_reducible repeat (first | apply Kd.R_alloc | apply Kd.R_drewN | apply Kd.R_drew)); exact HO_row7.out) hb)
  have n1_ := Aside0.mk (Iv_R (lo := w3.heap.size) (W := _) ho0 (below_size (by repeat (first | (with_reducible first | exact HB.out | apply below_alloc | apply pw_below_drewN | apply below_drew1) | exact HB.out))) (by repeat (first | (with_reducible first | exact HS.out | apply sz_alloc | apply sz_drewN | apply sz_drew) | exact HS.out)))
  have n2_ := Aside0.mk (Nat.le_refl w4.heap.size)
  have n3_ := Aside0.mk (Nat.le_trans (by repeat (first | (with_reducible first | exact HS.out | apply sz_alloc | apply sz_drewN | apply sz_drew) | exact HS.out)) hb.size)
  have n4_ := Aside0.mk (below_step (by repeat (first | (with_reducible first | exact HB.out | apply below_alloc | apply pw_below_drewN | apply below_drew1) | exact HB.out)) hb)
  clear HB HS HO_row7 hb ho0
  have HO_row7 := n0_
  have HO_row10 := n1_
  have HS := n2_
  have M4 := n3_
  have HB := n4_
  clear n0_ n1_ n2_ n3_ n4_
  obtain ⟨A_row10, c_row10, rfl⟩ := Kd.R_slice HO_row10.out
  go_wp2_with fail
  refine (spec_ApplyChanges.calls k _ _ t5 _ _ t8 t11 t12 _ (by exact (Kd.R_reads' (by (with_reducible repeat (first | apply Kd.R_alloc | apply Kd.R_drewN | apply Kd.R_drew)); exact HO_row7.out)).2.2) (by exact (Kd.R_reads' HO_row7.out).2.1) (by exact (Kd.R_reads' (by (with_reducible repeat (first | apply Kd.R_alloc | apply Kd.R_drewN | apply Kd.R_drew)); exact HO_row10.out)).2.2) (by exact (Kd.R_reads' HO_row10.out).2.1) Q13.out).mono ?_
  rintro e w5 ⟨v0, rfl, ho0, hb⟩
  have n0_ := Aside0.mk (Kd.R_below (by (with_reducible repeat (first | apply Kd.R_alloc | apply Kd.R_drewN | apply Kd.R_drew)); exact HO_row7.out) hb)
  have n1_ := Aside0.mk (Kd.R_below (by (with_reducible repeat (first | apply Kd.R_alloc | apply Kd.R_drewN | apply Kd.R_drew)); exact HO_row10.out) hb)
  have n2_ := Aside0.mk (Iv_R (lo := w4.heap.size) (W := _) ho0 (below_size (by repeat (first | (with_reducible first | exact HB.out | apply below_alloc | apply pw_below_drewN | apply below_drew1) | exact HB.out))) (by repeat (first | (with_reducible first | exact HS.out | apply sz_alloc | apply sz_drewN | apply sz_drew) | exact HS.out)))
  have n3_ := Aside0.mk (Nat.le_refl w5.heap.size)
  have n4_ := Aside0.mk (Nat.le_trans (by repeat (first | (with_reducible first | exact HS.out | apply sz_alloc | apply sz_drewN | apply sz_drew) | exact HS.out)) hb.size)
  have n5_ := Aside0.mk (below_step (by repeat (first | (with_reducible first | exact HB.out | apply below_alloc | apply pw_below_drewN | apply below_drew1) | exact HB.out)) hb)
  clear HB HS HO_row7 HO_row10 hb ho0
  have HO_row7 := n0_
  have HO_row10 := n1_
  have HO_row14 := n2_
  have HS := n3_
  have M5 := n4_
  have HB := n5_
  clear n0_ n1_ n2_ n3_ n4_ n5_
  obtain ⟨A_row14, c_row14, rfl⟩ := Kd.R_slice HO_row14.out
  go_wp2_with fail
  refine (laws_toSettingS.calls k _ _ l0 t15 _ (by exact Kd.C_below HR0.out (by repeat (first | (with_reducible first | exact HB.out | apply below_alloc | apply pw_below_drewN | apply below_drew1) | exact HB.out))) HC0.out Q16.out).mono ?_
  rintro e w6 ⟨v0, rfl, ho0, hb⟩
  have n0_ := Aside0.mk (Kd.R_below (by (with_reducible repeat (first | apply Kd.R_alloc | apply Kd.R_drewN | apply Kd.R_drew)); exact HO_row7.out) hb)
  have n1_ := Aside0.mk (Kd.R_below (by (with_reducible repeat (first | apply Kd.R_alloc | apply Kd.R_drewN | apply Kd.R_drew)); exact HO_row10.out) hb)
  have n2_ := Aside0.mk (Kd.R_below (by (with_reducible repeat (first | apply Kd.R_alloc | apply Kd.R_drewN | apply Kd.R_drew)); exact HO_row14.out) hb)
  have n3_ := Aside0.mk (Iv_R (lo := w5.heap.size) (W := _) ho0 (below_size (by repeat (first | (with_reducible first | exact HB.out | apply below_alloc | apply pw_below_drewN | apply below_drew1) | exact HB.out))) (by repeat (first | (with_reducible first | exact HS.out | apply sz_alloc | apply sz_drewN | apply sz_drew) | exact HS.out)))
  have n4_ := Aside0.mk (Nat.le_refl w6.heap.size)
  have n5_ := Aside0.mk (Nat.le_trans (by repeat (first | (with_reducible first | exact HS.out | apply sz_alloc | apply sz_drewN | apply sz_drew) | exact HS.out)) hb.size)
  have n6_ := Aside0.mk (below_step (by repeat (first | (with_reducible first | exact HB.out | apply below_alloc | apply pw_below_drewN | apply below_drew1) | exact HB.out)) hb)
  clear HB HS HO_row7 HO_row10 HO_row14 hb ho0
  have HO_row7 := n0_
  have HO_row10 := n1_
  have HO_row14 := n2_
  have HO_row17 := n3_
  have HS := n4_
  have M6 := n5_
  have HB := n6_
  clear n0_ n1_ n2_ n3_ n4_ n5_ n6_
  obtain ⟨A_row17, c_row17, rfl⟩ := Kd.R_slice HO_row17.out
  go_wp2_with fail
  refine (laws_toChangeS.calls k _ _ l1 t18 _ (by exact Kd.C_below HR1.out (by repeat (first | (with_reducible first | exact HB.out | apply below_alloc | apply pw_below_drewN | apply below_drew1) | exact HB.out))) HC1.out Q19.out).mono ?_
  rintro e w7 ⟨v0, rfl, ho0, hb⟩
  have n0_ := Aside0.mk (Kd.R_below (by (with_reducible repeat (first | apply Kd.R_alloc | apply Kd.R_drewN | apply Kd.R_drew)); exact HO_row7.out) hb)
  have n1_ := Aside0.mk (Kd.R_below (by (with_reducible repeat (first | apply Kd.R_alloc | apply Kd.R_drewN | apply Kd.R_drew)); exact HO_row10.out) hb)
  have n2_ := Aside0.mk (Kd.R_below (by (with_reducible repeat (first | apply Kd.R_alloc | apply Kd.R_drewN | apply Kd.R_drew)); exact HO_row14.out) hb)
  have n3_ := Aside0.mk (Kd.R_below (by (with_reducible repeat (first | apply Kd.R_alloc | apply Kd.R_drewN | apply Kd.R_drew)); exact HO_row17.out) hb)
  have n4_ := Aside0.mk (Iv_R (lo := w6.heap.size) (W := _) ho0 (below_size (by repeat (first | (with_reducible first | exact HB.out | apply below_alloc | apply pw_below_drewN | apply below_drew1) | exact HB.out))) (by repeat (first | (with_reducible first | exact HS.out | apply sz_alloc | apply sz_drewN | apply sz_drew) | exact HS.out)))
  have n5_ := Aside0.mk (Nat.le_refl w7.heap.size)
  have n6_ := Aside0.mk (Nat.le_trans (by repeat (first | (with_reducible first | exact HS.out | apply sz_alloc | apply sz_drewN | apply sz_drew) | exact HS.out)) hb.size)
  have n7_ := Aside0.mk (below_step (by repeat (first | (with_reducible first | exact HB.out | apply below_alloc | apply pw_below_drewN | apply below_drew1) | exact HB.out)) hb)
  clear HB HS HO_row7 HO_row10 HO_row14 HO_row17 hb ho0
  have HO_row7 := n0_
  have HO_row10 := n1_
  have HO_row14 := n2_
  have HO_row17 := n3_
  have HO_row20 := n4_
  have HS := n5_
  have M7 := n6_
  have HB := n7_
  clear n0_ n1_ n2_ n3_ n4_ n5_ n6_ n7_
  obtain ⟨A_row20, c_row20, rfl⟩ := Kd.R_slice HO_row20.out
  go_wp2_with fail
  refine (impl_ApplyChanges.calls k _ _ t15 _ _ t18 t21 t22 _ (by exact (Kd.R_reads' (by (with_reducible repeat (first | apply Kd.R_alloc | apply Kd.R_drewN | apply Kd.R_drew)); exact HO_row17.out)).2.2) (by exact (Kd.R_reads' HO_row17.out).2.1) (by exact (Kd.R_reads' (by (with_reducible repeat (first | apply Kd.R_alloc | apply Kd.R_drewN | apply Kd.R_drew)); exact HO_row20.out)).2.2) (by exact (Kd.R_reads' HO_row20.out).2.1) Q23.out).mono ?_
  rintro e w8 ⟨v0, rfl, ho0, hb⟩
  have n0_ := Aside0.mk (Kd.R_below (by (with_reducible repeat (first | apply Kd.R_alloc | apply Kd.R_drewN | apply Kd.R_drew)); exact HO_row7.out) hb)
  have n1_ := Aside0.mk (Kd.R_below (by (with_reducible repeat (first | apply Kd.R_alloc | apply Kd.R_drewN | apply Kd.R_drew)); exact HO_row10.out) hb)
  have n2_ := Aside0.mk (Kd.R_below (by (with_reducible repeat (first | apply Kd.R_alloc | apply Kd.R_drewN | apply Kd.R_drew)); exact HO_row14.out) hb)
  have n3_ := Aside0.mk (Kd.R_below (by (with_reducible repeat (first | apply Kd.R_alloc | apply Kd.R_drewN | apply Kd.R_drew)); exact HO_row17.out) hb)
  have n4_ := Aside0.mk (Kd.R_below (by (with_reducible repeat (first | apply Kd.R_alloc | apply Kd.R_drewN | apply Kd.R_drew)); exact HO_row20.out) hb)
  have n5_ := Aside0.mk (Iv_R (lo := w7.heap.size) (W := _) ho0 (below_size (by repeat (first | (with_reducible first | exact HB.out | apply below_alloc | apply pw_below_drewN | apply below_drew1) | exact HB.out))) (by repeat (first | (with_reducible first | exact HS.out | apply sz_alloc | apply sz_drewN | apply sz_drew) | exact HS.out)))
  have n6_ := Aside0.mk (Nat.le_refl w8.heap.size)
  have n7_ := Aside0.mk (Nat.le_trans (by repeat (first | (with_reducible first | exact HS.out | apply sz_alloc | apply sz_drewN | apply sz_drew) | exact HS.out)) hb.size)
  have n8_ := Aside0.mk (below_step (by repeat (first | (with_reducible first | exact HB.out | apply below_alloc | apply pw_below_drewN | apply below_drew1) | exact HB.out)) hb)
  clear HB HS HO_row7 HO_row10 HO_row14 HO_row17 HO_row20 hb ho0
  have HO_row7 := n0_
  have HO_row10 := n1_
  have HO_row14 := n2_
  have HO_row17 := n3_
  have HO_row20 := n4_
  have HO_row24 := n5_
  have HS := n6_
  have M8 := n7_
  have HB := n8_
  clear n0_ n1_ n2_ n3_ n4_ n5_ n6_ n7_ n8_
  obtain ⟨A_row24, c_row24, rfl⟩ := Kd.R_slice HO_row24.out
  go_wp2_with fail
  refine (laws_eqSettingS.calls k _ _ t21 _ _ t11 true _ (by exact (Kd.R_reads' (by (with_reducible repeat (first | apply Kd.R_alloc | apply Kd.R_drewN | apply Kd.R_drew)); exact HO_row24.out)).2.2) (by exact (Kd.R_reads' HO_row24.out).2.1) (by exact (Kd.R_reads' (by (with_reducible repeat (first | apply Kd.R_alloc | apply Kd.R_drewN | apply Kd.R_drew)); exact HO_row14.out)).2.2) (by exact (Kd.R_reads' HO_row14.out).2.1) Q26.out).mono ?_
  rintro e w9 ⟨rfl, hb⟩
  have n0_ := Aside0.mk (Kd.R_below (by (with_reducible repeat (first | apply Kd.R_alloc | apply Kd.R_drewN | apply Kd.R_drew)); exact HO_row7.out) hb)
  have n1_ := Aside0.mk (Kd.R_below (by (with_reducible repeat (first | apply Kd.R_alloc | apply Kd.R_drewN | apply Kd.R_drew)); exact HO_row10.out) hb)
  have n2_ := Aside0.mk (Kd.R_below (by (with_reducible repeat (first | apply Kd.R_alloc | apply Kd.R_drewN | apply Kd.R_drew)); exact HO_row14.out) hb)
  have n3_ := Aside0.mk (Kd.R_below (by (with_reducible repeat (first | apply Kd.R_alloc | apply Kd.R_drewN | apply Kd.R_drew)); exact HO_row17.out) hb)
  have n4_ := Aside0.mk (Kd.R_below (by (with_reducible repeat (first | apply Kd.R_alloc | apply Kd.R_drewN | apply Kd.R_drew)); exact HO_row20.out) hb)
  have n5_ := Aside0.mk (Kd.R_below (by (with_reducible repeat (first | apply Kd.R_alloc | apply Kd.R_drewN | apply Kd.R_drew)); exact HO_row24.out) hb)
  have n6_ := Aside0.mk (Nat.le_trans (by repeat (first | (with_reducible first | exact HS.out | apply sz_alloc | apply sz_drewN | apply sz_drew) | exact HS.out)) hb.size)
  have n7_ := Aside0.mk (below_step (by repeat (first | (with_reducible first | exact HB.out | apply below_alloc | apply pw_below_drewN | apply below_drew1) | exact HB.out)) hb)
  clear HB HS HO_row7 HO_row10 HO_row14 HO_row17 HO_row20 HO_row24 hb
  have HO_row7 := n0_
  have HO_row10 := n1_
  have HO_row14 := n2_
  have HO_row17 := n3_
  have HO_row20 := n4_
  have HO_row24 := n5_
  have HS := n6_
  have HB := n7_
  clear n0_ n1_ n2_ n3_ n4_ n5_ n6_ n7_
  go_wp2_with fail
  refine (laws_toSettingS.calls k _ _ l0 t27 _ (by exact Kd.C_below HR0.out (by repeat (first | (with_reducible first | exact HB.out | apply below_alloc | apply pw_below_drewN | apply below_drew1) | exact HB.out))) HC0.out Q28.out).mono ?_
  rintro e w10 ⟨v0, rfl, ho0, hb⟩
  have n0_ := Aside0.mk (Kd.R_below (by (with_reducible repeat (first | apply Kd.R_alloc | apply Kd.R_drewN | apply Kd.R_drew)); exact HO_row7.out) hb)
  have n1_ := Aside0.mk (Kd.R_below (by (with_reducible repeat (first | apply Kd.R_alloc | apply Kd.R_drewN | apply Kd.R_drew)); exact HO_row10.out) hb)
  have n2_ := Aside0.mk (Kd.R_below (by (with_reducible repeat (first | apply Kd.R_alloc | apply Kd.R_drewN | apply Kd.R_drew)); exact HO_row14.out) hb)
  have n3_ := Aside0.mk (Kd.R_below (by (with_reducible repeat (first | apply Kd.R_alloc | apply Kd.R_drewN | apply Kd.R_drew)); exact HO_row17.out) hb)
  have n4_ := Aside0.mk (Kd.R_below (by (with_reducible repeat (first | apply Kd.R_alloc | apply Kd.R_drewN | apply Kd.R_drew)); exact HO_row20.out) hb)
  have n5_ := Aside0.mk (Kd.R_below (by (with_reducible repeat (first | apply Kd.R_alloc | apply Kd.R_drewN | apply Kd.R_drew)); exact HO_row24.out) hb)
  have n6_ := Aside0.mk (Iv_R (lo := w8.heap.size) (W := _) ho0 (below_size (by repeat (first | (with_reducible first | exact HB.out | apply below_alloc | apply pw_below_drewN | apply below_drew1) | exact HB.out))) (by repeat (first | (with_reducible first | exact HS.out | apply sz_alloc | apply sz_drewN | apply sz_drew) | exact HS.out)))
  have n7_ := Aside0.mk (Nat.le_refl w10.heap.size)
  have n8_ := Aside0.mk (Nat.le_trans (by repeat (first | (with_reducible first | exact HS.out | apply sz_alloc | apply sz_drewN | apply sz_drew) | exact HS.out)) hb.size)
  have n9_ := Aside0.mk (below_step (by repeat (first | (with_reducible first | exact HB.out | apply below_alloc | apply pw_below_drewN | apply below_drew1) | exact HB.out)) hb)
  clear HB HS HO_row7 HO_row10 HO_row14 HO_row17 HO_row20 HO_row24 hb ho0
  have HO_row7 := n0_
  have HO_row10 := n1_
  have HO_row14 := n2_
  have HO_row17 := n3_
  have HO_row20 := n4_
  have HO_row24 := n5_
  have HO_row29 := n6_
  have HS := n7_
  have M10 := n8_
  have HB := n9_
  clear n0_ n1_ n2_ n3_ n4_ n5_ n6_ n7_ n8_ n9_
  obtain ⟨A_row29, c_row29, rfl⟩ := Kd.R_slice HO_row29.out
  go_wp2_with fail
  refine (laws_eqSettingS.calls k _ _ t15 _ _ t27 true _ (by exact (Kd.R_reads' (by (with_reducible repeat (first | apply Kd.R_alloc | apply Kd.R_drewN | apply Kd.R_drew)); exact HO_row17.out)).2.2) (by exact (Kd.R_reads' HO_row17.out).2.1) (by exact (Kd.R_reads' (by (with_reducible repeat (first | apply Kd.R_alloc | apply Kd.R_drewN | apply Kd.R_drew)); exact HO_row29.out)).2.2) (by exact (Kd.R_reads' HO_row29.out).2.1) Q31.out).mono ?_
  rintro e w11 ⟨rfl, hb⟩
  have n0_ := Aside0.mk (Kd.R_below (by (with_reducible repeat (first | apply Kd.R_alloc | apply Kd.R_drewN | apply Kd.R_drew)); exact HO_row7.out) hb)
  have n1_ := Aside0.mk (Kd.R_below (by (with_reducible repeat (first | apply Kd.R_alloc | apply Kd.R_drewN | apply Kd.R_drew)); exact HO_row10.out) hb)
  have n2_ := Aside0.mk (Kd.R_below (by (with_reducible repeat (first | apply Kd.R_alloc | apply Kd.R_drewN | apply Kd.R_drew)); exact HO_row14.out) hb)
  have n3_ := Aside0.mk (Kd.R_below (by (with_reducible repeat (first | apply Kd.R_alloc | apply Kd.R_drewN | apply Kd.R_drew)); exact HO_row17.out) hb)
  have n4_ := Aside0.mk (Kd.R_below (by (with_reducible repeat (first | apply Kd.R_alloc | apply Kd.R_drewN | apply Kd.R_drew)); exact HO_row20.out) hb)
  have n5_ := Aside0.mk (Kd.R_below (by (with_reducible repeat (first | apply Kd.R_alloc | apply Kd.R_drewN | apply Kd.R_drew)); exact HO_row24.out) hb)
  have n6_ := Aside0.mk (Kd.R_below (by (with_reducible repeat (first | apply Kd.R_alloc | apply Kd.R_drewN | apply Kd.R_drew)); exact HO_row29.out) hb)
  have n7_ := Aside0.mk (Nat.le_trans (by repeat (first | (with_reducible first | exact HS.out | apply sz_alloc | apply sz_drewN | apply sz_drew) | exact HS.out)) hb.size)
  have n8_ := Aside0.mk (below_step (by repeat (first | (with_reducible first | exact HB.out | apply below_alloc | apply pw_below_drewN | apply below_drew1) | exact HB.out)) hb)
  clear HB HS HO_row7 HO_row10 HO_row14 HO_row17 HO_row20 HO_row24 HO_row29 hb
  have HO_row7 := n0_
  have HO_row10 := n1_
  have HO_row14 := n2_
  have HO_row17 := n3_
  have HO_row20 := n4_
  have HO_row24 := n5_
  have HO_row29 := n6_
  have HS := n7_
  have HB := n8_
  clear n0_ n1_ n2_ n3_ n4_ n5_ n6_ n7_ n8_
  go_wp2_with fail
  refine (laws_toChangeS.calls k _ _ l1 t32 _ (by exact Kd.C_below HR1.out (by repeat (first | (with_reducible first | exact HB.out | apply below_alloc | apply pw_below_drewN | apply below_drew1) | exact HB.out))) HC1.out Q33.out).mono ?_
  rintro e w12 ⟨v0, rfl, ho0, hb⟩
  have n0_ := Aside0.mk (Kd.R_below (by (with_reducible repeat (first | apply Kd.R_alloc | apply Kd.R_drewN | apply Kd.R_drew)); exact HO_row7.out) hb)
  have n1_ := Aside0.mk (Kd.R_below (by (with_reducible repeat (first | apply Kd.R_alloc | apply Kd.R_drewN | apply Kd.R_drew)); exact HO_row10.out) hb)
  have n2_ := Aside0.mk (Kd.R_below (by (with_reducible repeat (first | apply Kd.R_alloc | apply Kd.R_drewN | apply Kd.R_drew)); exact HO_row14.out) hb)
  have n3_ := Aside0.mk (Kd.R_below (by (with_reducible repeat (first | apply Kd.R_alloc | apply Kd.R_drewN | apply Kd.R_drew)); exact HO_row17.out) hb)
  have n4_ := Aside0.mk (Kd.R_below (by (with_reducible repeat (first | apply Kd.R_alloc | apply Kd.R_drewN | apply Kd.R_drew)); exact HO_row20.out) hb)
  have n5_ := Aside0.mk (Kd.R_below (by (with_reducible repeat (first | apply Kd.R_alloc | apply Kd.R_drewN | apply Kd.R_drew)); exact HO_row24.out) hb)
  have n6_ := Aside0.mk (Kd.R_below (by (with_reducible repeat (first | apply Kd.R_alloc | apply Kd.R_drewN | apply Kd.R_drew)); exact HO_row29.out) hb)
  have n7_ := Aside0.mk (Iv_R (lo := w10.heap.size) (W := _) ho0 (below_size (by repeat (first | (with_reducible first | exact HB.out | apply below_alloc | apply pw_below_drewN | apply below_drew1) | exact HB.out))) (by repeat (first | (with_reducible first | exact HS.out | apply sz_alloc | apply sz_drewN | apply sz_drew) | exact HS.out)))
  have n8_ := Aside0.mk (Nat.le_refl w12.heap.size)
  have n9_ := Aside0.mk (Nat.le_trans (by repeat (first | (with_reducible first | exact HS.out | apply sz_alloc | apply sz_drewN | apply sz_drew) | exact HS.out)) hb.size)
  have n10_ := Aside0.mk (below_step (by repeat (first | (with_reducible first | exact HB.out | apply below_alloc | apply pw_below_drewN | apply below_drew1) | exact HB.out)) hb)
  clear HB HS HO_row7 HO_row10 HO_row14 HO_row17 HO_row20 HO_row24 HO_row29 hb ho0
  have HO_row7 := n0_
  have HO_row10 := n1_
  have HO_row14 := n2_
  have HO_row17 := n3_
  have HO_row20 := n4_
  have HO_row24 := n5_
  have HO_row29 := n6_
  have HO_row34 := n7_
  have HS := n8_
  have M12 := n9_
  have HB := n10_
  clear n0_ n1_ n2_ n3_ n4_ n5_ n6_ n7_ n8_ n9_ n10_
  obtain ⟨A_row34, c_row34, rfl⟩ := Kd.R_slice HO_row34.out
  go_wp2_with fail
  refine (laws_eqChangeS.calls k _ _ t18 _ _ t32 true _ (by exact (Kd.R_reads' (by (with_reducible repeat (first | apply Kd.R_alloc | apply Kd.R_drewN | apply Kd.R_drew)); exact HO_row20.out)).2.2) (by exact (Kd.R_reads' HO_row20.out).2.1) (by exact (Kd.R_reads' (by (with_reducible repeat (first | apply Kd.R_alloc | apply Kd.R_drewN | apply Kd.R_drew)); exact HO_row34.out)).2.2) (by exact (Kd.R_reads' HO_row34.out).2.1) Q36.out).mono ?_
  rintro e w13 ⟨rfl, hb⟩
  have n0_ := Aside0.mk (Kd.R_below (by (with_reducible repeat (first | apply Kd.R_alloc | apply Kd.R_drewN | apply Kd.R_drew)); exact HO_row7.out) hb)
  have n1_ := Aside0.mk (Kd.R_below (by (with_reducible repeat (first | apply Kd.R_alloc | apply Kd.R_drewN | apply Kd.R_drew)); exact HO_row10.out) hb)
  have n2_ := Aside0.mk (Kd.R_below (by (with_reducible repeat (first | apply Kd.R_alloc | apply Kd.R_drewN | apply Kd.R_drew)); exact HO_row14.out) hb)
  have n3_ := Aside0.mk (Kd.R_below (by (with_reducible repeat (first | apply Kd.R_alloc | apply Kd.R_drewN | apply Kd.R_drew)); exact HO_row17.out) hb)
  have n4_ := Aside0.mk (Kd.R_below (by (with_reducible repeat (first | apply Kd.R_alloc | apply Kd.R_drewN | apply Kd.R_drew)); exact HO_row20.out) hb)
  have n5_ := Aside0.mk (Kd.R_below (by (with_reducible repeat (first | apply Kd.R_alloc | apply Kd.R_drewN | apply Kd.R_drew)); exact HO_row24.out) hb)
  have n6_ := Aside0.mk (Kd.R_below (by (with_reducible repeat (first | apply Kd.R_alloc | apply Kd.R_drewN | apply Kd.R_drew)); exact HO_row29.out) hb)
  have n7_ := Aside0.mk (Kd.R_below (by (with_reducible repeat (first | apply Kd.R_alloc | apply Kd.R_drewN | apply Kd.R_drew)); exact HO_row34.out) hb)
  have n8_ := Aside0.mk (Nat.le_trans (by repeat (first | (with_reducible first | exact HS.out | apply sz_alloc | apply sz_drewN | apply sz_drew) | exact HS.out)) hb.size)
  have n9_ := Aside0.mk (below_step (by repeat (first | (with_reducible first | exact HB.out | apply below_alloc | apply pw_below_drewN | apply below_drew1) | exact HB.out)) hb)
  clear HB HS HO_row7 HO_row10 HO_row14 HO_row17 HO_row20 HO_row24 HO_row29 HO_row34 hb
  have HO_row7 := n0_
  have HO_row10 := n1_
  have HO_row14 := n2_
  have HO_row17 := n3_
  have HO_row20 := n4_
  have HO_row24 := n5_
  have HO_row29 := n6_
  have HO_row34 := n7_
  have HS := n8_
  have HB := n9_
  clear n0_ n1_ n2_ n3_ n4_ n5_ n6_ n7_ n8_ n9_
  go_wp2_with fail
  refine (laws_markSettingS.calls k (Iv w5.heap.size w6.heap.size) _ t15 1 t37 t38 w _ (by repeat (first | (with_reducible first | exact HB.out | apply below_alloc | apply pw_below_drewN | apply below_drew1) | exact HB.out)) (by (with_reducible repeat (first | apply Kd.R_alloc | apply Kd.R_drewN | apply Kd.R_drew)); exact HO_row17.out) Q39.out).mono ?_
  rintro e w14 ⟨rfl, ho0, hb, hk⟩
  have n0_ := Aside0.mk (Kd.R_mono (Kd.R_tight rfl ho0) (fun k_ hk_ => HO_row17.out.1 k_ hk_.symm))
  have n1_ := Aside0.mk (Kd.R_kept (by (with_reducible repeat (first | apply Kd.R_alloc | apply Kd.R_drewN | apply Kd.R_drew)); exact HO_row7.out) hk (fun k_ h1_ h2_ => by unfold Iv at h1_ h2_; have m3_ := M3.out; have m4_ := M4.out; have m5_ := M5.out; have m6_ := M6.out; have m7_ := M7.out; have m8_ := M8.out; have m10_ := M10.out; have m12_ := M12.out; omega))
  have n2_ := Aside0.mk (Kd.R_kept (by (with_reducible repeat (first | apply Kd.R_alloc | apply Kd.R_drewN | apply Kd.R_drew)); exact HO_row10.out) hk (fun k_ h1_ h2_ => by unfold Iv at h1_ h2_; have m3_ := M3.out; have m4_ := M4.out; have m5_ := M5.out; have m6_ := M6.out; have m7_ := M7.out; have m8_ := M8.out; have m10_ := M10.out; have m12_ := M12.out; omega))
  have n3_ := Aside0.mk (Kd.R_kept (by (with_reducible repeat (first | apply Kd.R_alloc | apply Kd.R_drewN | apply Kd.R_drew)); exact HO_row14.out) hk (fun k_ h1_ h2_ => by unfold Iv at h1_ h2_; have m3_ := M3.out; have m4_ := M4.out; have m5_ := M5.out; have m6_ := M6.out; have m7_ := M7.out; have m8_ := M8.out; have m10_ := M10.out; have m12_ := M12.out; omega))
  have n4_ := Aside0.mk (Kd.R_kept (by (with_reducible repeat (first | apply Kd.R_alloc | apply Kd.R_drewN | apply Kd.R_drew)); exact HO_row20.out) hk (fun k_ h1_ h2_ => by unfold Iv at h1_ h2_; have m3_ := M3.out; have m4_ := M4.out; have m5_ := M5.out; have m6_ := M6.out; have m7_ := M7.out; have m8_ := M8.out; have m10_ := M10.out; have m12_ := M12.out; omega))
  have n5_ := Aside0.mk (Kd.R_kept (by (with_reducible repeat (first | apply Kd.R_alloc | apply Kd.R_drewN | apply Kd.R_drew)); exact HO_row24.out) hk (fun k_ h1_ h2_ => by unfold Iv at h1_ h2_; have m3_ := M3.out; have m4_ := M4.out; have m5_ := M5.out; have m6_ := M6.out; have m7_ := M7.out; have m8_ := M8.out; have m10_ := M10.out; have m12_ := M12.out; omega))
  have n6_ := Aside0.mk (Kd.R_kept (by (with_reducible repeat (first | apply Kd.R_alloc | apply Kd.R_drewN | apply Kd.R_drew)); exact HO_row29.out) hk (fun k_ h1_ h2_ => by unfold Iv at h1_ h2_; have m3_ := M3.out; have m4_ := M4.out; have m5_ := M5.out; have m6_ := M6.out; have m7_ := M7.out; have m8_ := M8.out; have m10_ := M10.out; have m12_ := M12.out; omega))
  have n7_ := Aside0.mk (Kd.R_kept (by (with_reducible repeat (first | apply Kd.R_alloc | apply Kd.R_drewN | apply Kd.R_drew)); exact HO_row34.out) hk (fun k_ h1_ h2_ => by unfold Iv at h1_ h2_; have m3_ := M3.out; have m4_ := M4.out; have m5_ := M5.out; have m6_ := M6.out; have m7_ := M7.out; have m8_ := M8.out; have m10_ := M10.out; have m12_ := M12.out; omega))
  have n8_ := Aside0.mk (Nat.le_trans (by repeat (first | (with_reducible first | exact HS.out | apply sz_alloc | apply sz_drewN | apply sz_drew) | exact HS.out)) hk.1)
  have n9_ := Aside0.mk (hb)
  clear HB HS HO_row7 HO_row10 HO_row14 HO_row17 HO_row20 HO_row24 HO_row29 HO_row34 hb hk ho0
  have HO_row17 := n0_
  have HO_row7 := n1_
  have HO_row10 := n2_
  have HO_row14 := n3_
  have HO_row20 := n4_
  have HO_row24 := n5_
  have HO_row29 := n6_
  have HO_row34 := n7_
  have HS := n8_
  have HB := n9_
  clear n0_ n1_ n2_ n3_ n4_ n5_ n6_ n7_ n8_ n9_
  have LN_row17 := Aside0.mk (Kd.R_reads' HO_row17.out).1
  go_wp2_with fail
  refine (laws_markChangeS.calls k (Iv w6.heap.size w7.heap.size) _ t18 t37 t40 t41 w _ (by repeat (first | (with_reducible first | exact HB.out | apply below_alloc | apply pw_below_drewN | apply below_drew1) | exact HB.out)) (by (with_reducible repeat (first | apply Kd.R_alloc | apply Kd.R_drewN | apply Kd.R_drew)); exact HO_row20.out) Q42.out).mono ?_
  rintro e w15 ⟨rfl, ho0, hb, hk⟩
  have n0_ := Aside0.mk (ho0)
  have n1_ := Aside0.mk (Kd.R_kept (by (with_reducible repeat (first | apply Kd.R_alloc | apply Kd.R_drewN | apply Kd.R_drew)); exact HO_row7.out) hk (fun k_ h1_ h2_ => by unfold Iv at h1_ h2_; have m3_ := M3.out; have m4_ := M4.out; have m5_ := M5.out; have m6_ := M6.out; have m7_ := M7.out; have m8_ := M8.out; have m10_ := M10.out; have m12_ := M12.out; omega))
  have n2_ := Aside0.mk (Kd.R_kept (by (with_reducible repeat (first | apply Kd.R_alloc | apply Kd.R_drewN | apply Kd.R_drew)); exact HO_row10.out) hk (fun k_ h1_ h2_ => by unfold Iv at h1_ h2_; have m3_ := M3.out; have m4_ := M4.out; have m5_ := M5.out; have m6_ := M6.out; have m7_ := M7.out; have m8_ := M8.out; have m10_ := M10.out; have m12_ := M12.out; omega))
  have n3_ := Aside0.mk (Kd.R_kept (by (with_reducible repeat (first | apply Kd.R_alloc | apply Kd.R_drewN | apply Kd.R_drew)); exact HO_row14.out) hk (fun k_ h1_ h2_ => by unfold Iv at h1_ h2_; have m3_ := M3.out; have m4_ := M4.out; have m5_ := M5.out; have m6_ := M6.out; have m7_ := M7.out; have m8_ := M8.out; have m10_ := M10.out; have m12_ := M12.out; omega))
  have n4_ := Aside0.mk (Kd.R_kept (by (with_reducible repeat (first | apply Kd.R_alloc | apply Kd.R_drewN | apply Kd.R_drew)); exact HO_row17.out) hk (fun k_ h1_ h2_ => by unfold Iv at h1_ h2_; have m3_ := M3.out; have m4_ := M4.out; have m5_ := M5.out; have m6_ := M6.out; have m7_ := M7.out; have m8_ := M8.out; have m10_ := M10.out; have m12_ := M12.out; omega))
  have n5_ := Aside0.mk (Kd.R_kept (by (with_reducible repeat (first | apply Kd.R_alloc | apply Kd.R_drewN | apply Kd.R_drew)); exact HO_row24.out) hk (fun k_ h1_ h2_ => by unfold Iv at h1_ h2_; have m3_ := M3.out; have m4_ := M4.out; have m5_ := M5.out; have m6_ := M6.out; have m7_ := M7.out; have m8_ := M8.out; have m10_ := M10.out; have m12_ := M12.out; omega))
  have n6_ := Aside0.mk (Kd.R_kept (by (with_reducible repeat (first | apply Kd.R_alloc | apply Kd.R_drewN | apply Kd.R_drew)); exact HO_row29.out) hk (fun k_ h1_ h2_ => by unfold Iv at h1_ h2_; have m3_ := M3.out; have m4_ := M4.out; have m5_ := M5.out; have m6_ := M6.out; have m7_ := M7.out; have m8_ := M8.out; have m10_ := M10.out; have m12_ := M12.out; omega))
  have n7_ := Aside0.mk (Kd.R_kept (by (with_reducible repeat (first | apply Kd.R_alloc | apply Kd.R_drewN | apply Kd.R_drew)); exact HO_row34.out) hk (fun k_ h1_ h2_ => by unfold Iv at h1_ h2_; have m3_ := M3.out; have m4_ := M4.out; have m5_ := M5.out; have m6_ := M6.out; have m7_ := M7.out; have m8_ := M8.out; have m10_ := M10.out; have m12_ := M12.out; omega))
  have n8_ := Aside0.mk (Nat.le_trans (by repeat (first | (with_reducible first | exact HS.out | apply sz_alloc | apply sz_drewN | apply sz_drew) | exact HS.out)) hk.1)
  have n9_ := Aside0.mk (hb)
  clear HB HS HO_row7 HO_row10 HO_row14 HO_row17 HO_row20 HO_row24 HO_row29 HO_row34 hb hk ho0
  have HO_row20 := n0_
  have HO_row7 := n1_
  have HO_row10 := n2_
  have HO_row14 := n3_
  have HO_row17 := n4_
  have HO_row24 := n5_
  have HO_row29 := n6_
  have HO_row34 := n7_
  have HS := n8_
  have HB := n9_
  clear n0_ n1_ n2_ n3_ n4_ n5_ n6_ n7_ n8_ n9_
  have LN_row20 := Aside0.mk (Kd.R_reads' HO_row20.out).1
  go_wp2_with fail
  refine (laws_eqSettingS.calls k _ _ t21 _ _ t11 true _ (by exact (Kd.R_reads' (by (with_reducible repeat (first | apply Kd.R_alloc | apply Kd.R_drewN | apply Kd.R_drew)); exact HO_row24.out)).2.2) (by exact (Kd.R_reads' HO_row24.out).2.1) (by exact (Kd.R_reads' (by (with_reducible repeat (first | apply Kd.R_alloc | apply Kd.R_drewN | apply Kd.R_drew)); exact HO_row14.out)).2.2) (by exact (Kd.R_reads' HO_row14.out).2.1) Q44.out).mono ?_
  rintro e w16 ⟨rfl, hb⟩
  have n0_ := Aside0.mk (Kd.R_below (by (with_reducible repeat (first | apply Kd.R_alloc | apply Kd.R_drewN | apply Kd.R_drew)); exact HO_row7.out) hb)
  have n1_ := Aside0.mk (Kd.R_below (by (with_reducible repeat (first | apply Kd.R_alloc | apply Kd.R_drewN | apply Kd.R_drew)); exact HO_row10.out) hb)
  have n2_ := Aside0.mk (Kd.R_below (by (with_reducible repeat (first | apply Kd.R_alloc | apply Kd.R_drewN | apply Kd.R_drew)); exact HO_row14.out) hb)
  have n3_ := Aside0.mk (Kd.R_below (by (with_reducible repeat (first | apply Kd.R_alloc | apply Kd.R_drewN | apply Kd.R_drew)); exact HO_row17.out) hb)
  have n4_ := Aside0.mk (Kd.R_below (by (with_reducible repeat (first | apply Kd.R_alloc | apply Kd.R_drewN | apply Kd.R_drew)); exact HO_row20.out) hb)
  have n5_ := Aside0.mk (Kd.R_below (by (with_reducible repeat (first | apply Kd.R_alloc | apply Kd.R_drewN | apply Kd.R_drew)); exact HO_row24.out) hb)
  have n6_ := Aside0.mk (Kd.R_below (by (with_reducible repeat (first | apply Kd.R_alloc | apply Kd.R_drewN | apply Kd.R_drew)); exact HO_row29.out) hb)
  have n7_ := Aside0.mk (Kd.R_below (by (with_reducible repeat (first | apply Kd.R_alloc | apply Kd.R_drewN | apply Kd.R_drew)); exact HO_row34.out) hb)
  have n8_ := Aside0.mk (Nat.le_trans (by repeat (first | (with_reducible first | exact HS.out | apply sz_alloc | apply sz_drewN | apply sz_drew) | exact HS.out)) hb.size)
  have n9_ := Aside0.mk (below_step (by repeat (first | (with_reducible first | exact HB.out | apply below_alloc | apply pw_below_drewN | apply below_drew1) | exact HB.out)) hb)
  clear HB HS HO_row7 HO_row10 HO_row14 HO_row17 HO_row20 HO_row24 HO_row29 HO_row34 hb
  have HO_row7 := n0_
  have HO_row10 := n1_
  have HO_row14 := n2_
  have HO_row17 := n3_
  have HO_row20 := n4_
  have HO_row24 := n5_
  have HO_row29 := n6_
  have HO_row34 := n7_
  have HS := n8_
  have HB := n9_
  clear n0_ n1_ n2_ n3_ n4_ n5_ n6_ n7_ n8_ n9_
  go_wp2_with fail
  refine (laws_markSettingS.calls k (Iv w7.heap.size w8.heap.size) _ t21 1 t45 t46 w _ (by repeat (first | (with_reducible first | exact HB.out | apply below_alloc | apply pw_below_drewN | apply below_drew1) | exact HB.out)) (by (with_reducible repeat (first | apply Kd.R_alloc | apply Kd.R_drewN | apply Kd.R_drew)); exact HO_row24.out) Q47.out).mono ?_
  rintro e w17 ⟨rfl, ho0, hb, hk⟩
  have n0_ := Aside0.mk (Kd.R_mono (Kd.R_tight rfl ho0) (fun k_ hk_ => HO_row24.out.1 k_ hk_.symm))
  have n1_ := Aside0.mk (Kd.R_kept (by (with_reducible repeat (first | apply Kd.R_alloc | apply Kd.R_drewN | apply Kd.R_drew)); exact HO_row7.out) hk (fun k_ h1_ h2_ => by unfold Iv at h1_ h2_; have m3_ := M3.out; have m4_ := M4.out; have m5_ := M5.out; have m6_ := M6.out; have m7_ := M7.out; have m8_ := M8.out; have m10_ := M10.out; have m12_ := M12.out; omega))
  have n2_ := Aside0.mk (Kd.R_kept (by (with_reducible repeat (first | apply Kd.R_alloc | apply Kd.R_drewN | apply Kd.R_drew)); exact HO_row10.out) hk (fun k_ h1_ h2_ => by unfold Iv at h1_ h2_; have m3_ := M3.out; have m4_ := M4.out; have m5_ := M5.out; have m6_ := M6.out; have m7_ := M7.out; have m8_ := M8.out; have m10_ := M10.out; have m12_ := M12.out; omega))
  have n3_ := Aside0.mk (Kd.R_kept (by (with_reducible repeat (first | apply Kd.R_alloc | apply Kd.R_drewN | apply Kd.R_drew)); exact HO_row14.out) hk (fun k_ h1_ h2_ => by unfold Iv at h1_ h2_; have m3_ := M3.out; have m4_ := M4.out; have m5_ := M5.out; have m6_ := M6.out; have m7_ := M7.out; have m8_ := M8.out; have m10_ := M10.out; have m12_ := M12.out; omega))
  have n4_ := Aside0.mk (Kd.R_kept (by (with_reducible repeat (first | apply Kd.R_alloc | apply Kd.R_drewN | apply Kd.R_drew)); exact HO_row17.out) hk (fun k_ h1_ h2_ => by unfold Iv at h1_ h2_; have m3_ := M3.out; have m4_ := M4.out; have m5_ := M5.out; have m6_ := M6.out; have m7_ := M7.out; have m8_ := M8.out; have m10_ := M10.out; have m12_ := M12.out; omega))
  have n5_ := Aside0.mk (Kd.R_kept (by (with_reducible repeat (first | apply Kd.R_alloc | apply Kd.R_drewN | apply Kd.R_drew)); exact HO_row20.out) hk (fun k_ h1_ h2_ => by unfold Iv at h1_ h2_; have m3_ := M3.out; have m4_ := M4.out; have m5_ := M5.out; have m6_ := M6.out; have m7_ := M7.out; have m8_ := M8.out; have m10_ := M10.out; have m12_ := M12.out; omega))
  have n6_ := Aside0.mk (Kd.R_kept (by (with_reducible repeat (first | apply Kd.R_alloc | apply Kd.R_drewN | apply Kd.R_drew)); exact HO_row29.out) hk (fun k_ h1_ h2_ => by unfold Iv at h1_ h2_; have m3_ := M3.out; have m4_ := M4.out; have m5_ := M5.out; have m6_ := M6.out; have m7_ := M7.out; have m8_ := M8.out; have m10_ := M10.out; have m12_ := M12.out; omega))
  have n7_ := Aside0.mk (Kd.R_kept (by (with_reducible repeat (first | apply Kd.R_alloc | apply Kd.R_drewN | apply Kd.R_drew)); exact HO_row34.out) hk (fun k_ h1_ h2_ => by unfold Iv at h1_ h2_; have m3_ := M3.out; have m4_ := M4.out; have m5_ := M5.out; have m6_ := M6.out; have m7_ := M7.out; have m8_ := M8.out; have m10_ := M10.out; have m12_ := M12.out; omega))
  have n8_ := Aside0.mk (Nat.le_trans (by repeat (first | (with_reducible first | exact HS.out | apply sz_alloc | apply sz_drewN | apply sz_drew) | exact HS.out)) hk.1)
  have n9_ := Aside0.mk (hb)
  clear HB HS HO_row7 HO_row10 HO_row14 HO_row17 HO_row20 HO_row24 HO_row29 HO_row34 hb hk ho0
  have HO_row24 := n0_
  have HO_row7 := n1_
  have HO_row10 := n2_
  have HO_row14 := n3_
  have HO_row17 := n4_
  have HO_row20 := n5_
  have HO_row29 := n6_
  have HO_row34 := n7_
  have HS := n8_
  have HB := n9_
  clear n0_ n1_ n2_ n3_ n4_ n5_ n6_ n7_ n8_ n9_
  have LN_row24 := Aside0.mk (Kd.R_reads' HO_row24.out).1
  go_wp2_with fail
  refine calls_of_args (args' := #[.slice _ t46.length _, _]) (by rw [← LN_row24.out]) ?_
  refine (laws_heldSettingS.calls k _ _ t46 1 t48 _ (by exact (Kd.R_reads' (by (with_reducible repeat (first | apply Kd.R_alloc | apply Kd.R_drewN | apply Kd.R_drew)); exact HO_row24.out)).2.2) (by rw [← LN_row24.out]; exact (Kd.R_reads' HO_row24.out).2.1) Q49.out).mono ?_
  rintro e w18 ⟨rfl, hb⟩
  have n0_ := Aside0.mk (Kd.R_below (by (with_reducible repeat (first | apply Kd.R_alloc | apply Kd.R_drewN | apply Kd.R_drew)); exact HO_row7.out) hb)
  have n1_ := Aside0.mk (Kd.R_below (by (with_reducible repeat (first | apply Kd.R_alloc | apply Kd.R_drewN | apply Kd.R_drew)); exact HO_row10.out) hb)
  have n2_ := Aside0.mk (Kd.R_below (by (with_reducible repeat (first | apply Kd.R_alloc | apply Kd.R_drewN | apply Kd.R_drew)); exact HO_row14.out) hb)
  have n3_ := Aside0.mk (Kd.R_below (by (with_reducible repeat (first | apply Kd.R_alloc | apply Kd.R_drewN | apply Kd.R_drew)); exact HO_row17.out) hb)
  have n4_ := Aside0.mk (Kd.R_below (by (with_reducible repeat (first | apply Kd.R_alloc | apply Kd.R_drewN | apply Kd.R_drew)); exact HO_row20.out) hb)
  have n5_ := Aside0.mk (Kd.R_below (by (with_reducible repeat (first | apply Kd.R_alloc | apply Kd.R_drewN | apply Kd.R_drew)); exact HO_row24.out) hb)
  have n6_ := Aside0.mk (Kd.R_below (by (with_reducible repeat (first | apply Kd.R_alloc | apply Kd.R_drewN | apply Kd.R_drew)); exact HO_row29.out) hb)
  have n7_ := Aside0.mk (Kd.R_below (by (with_reducible repeat (first | apply Kd.R_alloc | apply Kd.R_drewN | apply Kd.R_drew)); exact HO_row34.out) hb)
  have n8_ := Aside0.mk (Nat.le_trans (by repeat (first | (with_reducible first | exact HS.out | apply sz_alloc | apply sz_drewN | apply sz_drew) | exact HS.out)) hb.size)
  have n9_ := Aside0.mk (below_step (by repeat (first | (with_reducible first | exact HB.out | apply below_alloc | apply pw_below_drewN | apply below_drew1) | exact HB.out)) hb)
  clear HB HS HO_row7 HO_row10 HO_row14 HO_row17 HO_row20 HO_row24 HO_row29 HO_row34 hb
  have HO_row7 := n0_
  have HO_row10 := n1_
  have HO_row14 := n2_
  have HO_row17 := n3_
  have HO_row20 := n4_
  have HO_row24 := n5_
  have HO_row29 := n6_
  have HO_row34 := n7_
  have HS := n8_
  have HB := n9_
  clear n0_ n1_ n2_ n3_ n4_ n5_ n6_ n7_ n8_ n9_
  go_wp2_with fail
  refine (laws_toSettingS.calls k _ _ l0 t50 _ (by exact Kd.C_below HR0.out (by repeat (first | (with_reducible first | exact HB.out | apply below_alloc | apply pw_below_drewN | apply below_drew1) | exact HB.out))) HC0.out Q51.out).mono ?_
  rintro e w19 ⟨v0, rfl, ho0, hb⟩
  have n0_ := Aside0.mk (Kd.R_below (by (with_reducible repeat (first | apply Kd.R_alloc | apply Kd.R_drewN | apply Kd.R_drew)); exact HO_row7.out) hb)
  have n1_ := Aside0.mk (Kd.R_below (by (with_reducible repeat (first | apply Kd.R_alloc | apply Kd.R_drewN | apply Kd.R_drew)); exact HO_row10.out) hb)
  have n2_ := Aside0.mk (Kd.R_below (by (with_reducible repeat (first | apply Kd.R_alloc | apply Kd.R_drewN | apply Kd.R_drew)); exact HO_row14.out) hb)
  have n3_ := Aside0.mk (Kd.R_below (by (with_reducible repeat (first | apply Kd.R_alloc | apply Kd.R_drewN | apply Kd.R_drew)); exact HO_row17.out) hb)
  have n4_ := Aside0.mk (Kd.R_below (by (with_reducible repeat (first | apply Kd.R_alloc | apply Kd.R_drewN | apply Kd.R_drew)); exact HO_row20.out) hb)
  have n5_ := Aside0.mk (Kd.R_below (by (with_reducible repeat (first | apply Kd.R_alloc | apply Kd.R_drewN | apply Kd.R_drew)); exact HO_row24.out) hb)
  have n6_ := Aside0.mk (Kd.R_below (by (with_reducible repeat (first | apply Kd.R_alloc | apply Kd.R_drewN | apply Kd.R_drew)); exact HO_row29.out) hb)
  have n7_ := Aside0.mk (Kd.R_below (by (with_reducible repeat (first | apply Kd.R_alloc | apply Kd.R_drewN | apply Kd.R_drew)); exact HO_row34.out) hb)
  have n8_ := Aside0.mk (Iv_R (lo := w12.heap.size) (W := _) ho0 (below_size (by repeat (first | (with_reducible first | exact HB.out | apply below_alloc | apply pw_below_drewN | apply below_drew1) | exact HB.out))) (by repeat (first | (with_reducible first | exact HS.out | apply sz_alloc | apply sz_drewN | apply sz_drew) | exact HS.out)))
  have n9_ := Aside0.mk (Nat.le_refl w19.heap.size)
  have n10_ := Aside0.mk (Nat.le_trans (by repeat (first | (with_reducible first | exact HS.out | apply sz_alloc | apply sz_drewN | apply sz_drew) | exact HS.out)) hb.size)
  have n11_ := Aside0.mk (below_step (by repeat (first | (with_reducible first | exact HB.out | apply below_alloc | apply pw_below_drewN | apply below_drew1) | exact HB.out)) hb)
  clear HB HS HO_row7 HO_row10 HO_row14 HO_row17 HO_row20 HO_row24 HO_row29 HO_row34 hb ho0
  have HO_row7 := n0_
  have HO_row10 := n1_
  have HO_row14 := n2_
  have HO_row17 := n3_
  have HO_row20 := n4_
  have HO_row24 := n5_
  have HO_row29 := n6_
  have HO_row34 := n7_
  have HO_row52 := n8_
  have HS := n9_
  have M19 := n10_
  have HB := n11_
  clear n0_ n1_ n2_ n3_ n4_ n5_ n6_ n7_ n8_ n9_ n10_ n11_
  obtain ⟨A_row52, c_row52, rfl⟩ := Kd.R_slice HO_row52.out
  go_wp2_with fail
  refine (laws_toChangeS.calls k _ _ l1 t53 _ (by exact Kd.C_below HR1.out (by repeat (first | (with_reducible first | exact HB.out | apply below_alloc | apply pw_below_drewN | apply below_drew1) | exact HB.out))) HC1.out Q54.out).mono ?_
  rintro e w20 ⟨v0, rfl, ho0, hb⟩
  have n0_ := Aside0.mk (Kd.R_below (by (with_reducible repeat (first | apply Kd.R_alloc | apply Kd.R_drewN | apply Kd.R_drew)); exact HO_row7.out) hb)
  have n1_ := Aside0.mk (Kd.R_below (by (with_reducible repeat (first | apply Kd.R_alloc | apply Kd.R_drewN | apply Kd.R_drew)); exact HO_row10.out) hb)
  have n2_ := Aside0.mk (Kd.R_below (by (with_reducible repeat (first | apply Kd.R_alloc | apply Kd.R_drewN | apply Kd.R_drew)); exact HO_row14.out) hb)
  have n3_ := Aside0.mk (Kd.R_below (by (with_reducible repeat (first | apply Kd.R_alloc | apply Kd.R_drewN | apply Kd.R_drew)); exact HO_row17.out) hb)
  have n4_ := Aside0.mk (Kd.R_below (by (with_reducible repeat (first | apply Kd.R_alloc | apply Kd.R_drewN | apply Kd.R_drew)); exact HO_row20.out) hb)
  have n5_ := Aside0.mk (Kd.R_below (by (with_reducible repeat (first | apply Kd.R_alloc | apply Kd.R_drewN | apply Kd.R_drew)); exact HO_row24.out) hb)
  have n6_ := Aside0.mk (Kd.R_below (by (with_reducible repeat (first | apply Kd.R_alloc | apply Kd.R_drewN | apply Kd.R_drew)); exact HO_row29.out) hb)
  have n7_ := Aside0.mk (Kd.R_below (by (with_reducible repeat (first | apply Kd.R_alloc | apply Kd.R_drewN | apply Kd.R_drew)); exact HO_row34.out) hb)
  have n8_ := Aside0.mk (Kd.R_below (by (with_reducible repeat (first | apply Kd.R_alloc | apply Kd.R_drewN | apply Kd.R_drew)); exact HO_row52.out) hb)
  have n9_ := Aside0.mk (Iv_R (lo := w19.heap.size) (W := _) ho0 (below_size (by repeat (first | (with_reducible first | exact HB.out | apply below_alloc | apply pw_below_drewN | apply below_drew1) | exact HB.out))) (by repeat (first | (with_reducible first | exact HS.out | apply sz_alloc | apply sz_drewN | apply sz_drew) | exact HS.out)))
  have n10_ := Aside0.mk (Nat.le_refl w20.heap.size)
  have n11_ := Aside0.mk (Nat.le_trans (by repeat (first | (with_reducible first | exact HS.out | apply sz_alloc | apply sz_drewN | apply sz_drew) | exact HS.out)) hb.size)
  have n12_ := Aside0.mk (below_step (by repeat (first | (with_reducible first | exact HB.out | apply below_alloc | apply pw_below_drewN | apply below_drew1) | exact HB.out)) hb)
  clear HB HS HO_row7 HO_row10 HO_row14 HO_row17 HO_row20 HO_row24 HO_row29 HO_row34 HO_row52 hb ho0
  have HO_row7 := n0_
  have HO_row10 := n1_
  have HO_row14 := n2_
  have HO_row17 := n3_
  have HO_row20 := n4_
  have HO_row24 := n5_
  have HO_row29 := n6_
  have HO_row34 := n7_
  have HO_row52 := n8_
  have HO_row55 := n9_
  have HS := n10_
  have M20 := n11_
  have HB := n12_
  clear n0_ n1_ n2_ n3_ n4_ n5_ n6_ n7_ n8_ n9_ n10_ n11_ n12_
  obtain ⟨A_row55, c_row55, rfl⟩ := Kd.R_slice HO_row55.out
  go_wp2_with fail
  refine (impl_ApplyChanges.calls k _ _ t50 _ _ t53 t56 t57 _ (by exact (Kd.R_reads' (by (with_reducible repeat (first | apply Kd.R_alloc | apply Kd.R_drewN | apply Kd.R_drew)); exact HO_row52.out)).2.2) (by exact (Kd.R_reads' HO_row52.out).2.1) (by exact (Kd.R_reads' (by (with_reducible repeat (first | apply Kd.R_alloc | apply Kd.R_drewN | apply Kd.R_drew)); exact HO_row55.out)).2.2) (by exact (Kd.R_reads' HO_row55.out).2.1) Q58.out).mono ?_
  rintro e w21 ⟨v0, rfl, ho0, hb⟩
  have n0_ := Aside0.mk (Kd.R_below (by (with_reducible repeat (first | apply Kd.R_alloc | apply Kd.R_drewN | apply Kd.R_drew)); exact HO_row7.out) hb)
  have n1_ := Aside0.mk (Kd.R_below (by (with_reducible repeat (first | apply Kd.R_alloc | apply Kd.R_drewN | apply Kd.R_drew)); exact HO_row10.out) hb)
  have n2_ := Aside0.mk (Kd.R_below (by (with_reducible repeat (first | apply Kd.R_alloc | apply Kd.R_drewN | apply Kd.R_drew)); exact HO_row14.out) hb)
  have n3_ := Aside0.mk (Kd.R_below (by (with_reducible repeat (first | apply Kd.R_alloc | apply Kd.R_drewN | apply Kd.R_drew)); exact HO_row17.out) hb)
  have n4_ := Aside0.mk (Kd.R_below (by (with_reducible repeat (first | apply Kd.R_alloc | apply Kd.R_drewN | apply Kd.R_drew)); exact HO_row20.out) hb)
  have n5_ := Aside0.mk (Kd.R_below (by (with_reducible repeat (first | apply Kd.R_alloc | apply Kd.R_drewN | apply Kd.R_drew)); exact HO_row24.out) hb)
  have n6_ := Aside0.mk (Kd.R_below (by (with_reducible repeat (first | apply Kd.R_alloc | apply Kd.R_drewN | apply Kd.R_drew)); exact HO_row29.out) hb)
  have n7_ := Aside0.mk (Kd.R_below (by (with_reducible repeat (first | apply Kd.R_alloc | apply Kd.R_drewN | apply Kd.R_drew)); exact HO_row34.out) hb)
  have n8_ := Aside0.mk (Kd.R_below (by (with_reducible repeat (first | apply Kd.R_alloc | apply Kd.R_drewN | apply Kd.R_drew)); exact HO_row52.out) hb)
  have n9_ := Aside0.mk (Kd.R_below (by (with_reducible repeat (first | apply Kd.R_alloc | apply Kd.R_drewN | apply Kd.R_drew)); exact HO_row55.out) hb)
  have n10_ := Aside0.mk (Iv_R (lo := w20.heap.size) (W := _) ho0 (below_size (by repeat (first | (with_reducible first | exact HB.out | apply below_alloc | apply pw_below_drewN | apply below_drew1) | exact HB.out))) (by repeat (first | (with_reducible first | exact HS.out | apply sz_alloc | apply sz_drewN | apply sz_drew) | exact HS.out)))
  have n11_ := Aside0.mk (Nat.le_refl w21.heap.size)
  have n12_ := Aside0.mk (Nat.le_trans (by repeat (first | (with_reducible first | exact HS.out | apply sz_alloc | apply sz_drewN | apply sz_drew) | exact HS.out)) hb.size)
  have n13_ := Aside0.mk (below_step (by repeat (first | (with_reducible first | exact HB.out | apply below_alloc | apply pw_below_drewN | apply below_drew1) | exact HB.out)) hb)
  clear HB HS HO_row7 HO_row10 HO_row14 HO_row17 HO_row20 HO_row24 HO_row29 HO_row34 HO_row52 HO_row55 hb ho0
  have HO_row7 := n0_
  have HO_row10 := n1_
  have HO_row14 := n2_
  have HO_row17 := n3_
  have HO_row20 := n4_
  have HO_row24 := n5_
  have HO_row29 := n6_
  have HO_row34 := n7_
  have HO_row52 := n8_
  have HO_row55 := n9_
  have HO_row59 := n10_
  have HS := n11_
  have M21 := n12_
  have HB := n13_
  clear n0_ n1_ n2_ n3_ n4_ n5_ n6_ n7_ n8_ n9_ n10_ n11_ n12_ n13_
  obtain ⟨A_row59, c_row59, rfl⟩ := Kd.R_slice HO_row59.out
  go_wp2_with fail
  refine (laws_eqSettingS.calls k _ _ t56 _ _ t11 true _ (by exact (Kd.R_reads' (by (with_reducible repeat (first | apply Kd.R_alloc | apply Kd.R_drewN | apply Kd.R_drew)); exact HO_row59.out)).2.2) (by exact (Kd.R_reads' HO_row59.out).2.1) (by exact (Kd.R_reads' (by (with_reducible repeat (first | apply Kd.R_alloc | apply Kd.R_drewN | apply Kd.R_drew)); exact HO_row14.out)).2.2) (by exact (Kd.R_reads' HO_row14.out).2.1) Q61.out).mono ?_
  rintro e w22 ⟨rfl, hb⟩
  have n0_ := Aside0.mk (Kd.R_below (by (with_reducible repeat (first | apply Kd.R_alloc | apply Kd.R_drewN | apply Kd.R_drew)); exact HO_row7.out) hb)
  have n1_ := Aside0.mk (Kd.R_below (by (with_reducible repeat (first | apply Kd.R_alloc | apply Kd.R_drewN | apply Kd.R_drew)); exact HO_row10.out) hb)
  have n2_ := Aside0.mk (Kd.R_below (by (with_reducible repeat (first | apply Kd.R_alloc | apply Kd.R_drewN | apply Kd.R_drew)); exact HO_row14.out) hb)
  have n3_ := Aside0.mk (Kd.R_below (by (with_reducible repeat (first | apply Kd.R_alloc | apply Kd.R_drewN | apply Kd.R_drew)); exact HO_row17.out) hb)
  have n4_ := Aside0.mk (Kd.R_below (by (with_reducible repeat (first | apply Kd.R_alloc | apply Kd.R_drewN | apply Kd.R_drew)); exact HO_row20.out) hb)
  have n5_ := Aside0.mk (Kd.R_below (by (with_reducible repeat (first | apply Kd.R_alloc | apply Kd.R_drewN | apply Kd.R_drew)); exact HO_row24.out) hb)
  have n6_ := Aside0.mk (Kd.R_below (by (with_reducible repeat (first | apply Kd.R_alloc | apply Kd.R_drewN | apply Kd.R_drew)); exact HO_row29.out) hb)
  have n7_ := Aside0.mk (Kd.R_below (by (with_reducible repeat (first | apply Kd.R_alloc | apply Kd.R_drewN | apply Kd.R_drew)); exact HO_row34.out) hb)
  have n8_ := Aside0.mk (Kd.R_below (by (with_reducible repeat (first | apply Kd.R_alloc | apply Kd.R_drewN | apply Kd.R_drew)); exact HO_row52.out) hb)
  have n9_ := Aside0.mk (Kd.R_below (by (with_reducible repeat (first | apply Kd.R_alloc | apply Kd.R_drewN | apply Kd.R_drew)); exact HO_row55.out) hb)
  have n10_ := Aside0.mk (Kd.R_below (by (with_reducible repeat (first | apply Kd.R_alloc | apply Kd.R_drewN | apply Kd.R_drew)); exact HO_row59.out) hb)
  have n11_ := Aside0.mk (Nat.le_trans (by repeat (first | (with_reducible first | exact HS.out | apply sz_alloc | apply sz_drewN | apply sz_drew) | exact HS.out)) hb.size)
  have n12_ := Aside0.mk (below_step (by repeat (first | (with_reducible first | exact HB.out | apply below_alloc | apply pw_below_drewN | apply below_drew1) | exact HB.out)) hb)
  clear HB HS HO_row7 HO_row10 HO_row14 HO_row17 HO_row20 HO_row24 HO_row29 HO_row34 HO_row52 HO_row55 HO_row59 hb
  have HO_row7 := n0_
  have HO_row10 := n1_
  have HO_row14 := n2_
  have HO_row17 := n3_
  have HO_row20 := n4_
  have HO_row24 := n5_
  have HO_row29 := n6_
  have HO_row34 := n7_
  have HO_row52 := n8_
  have HO_row55 := n9_
  have HO_row59 := n10_
  have HS := n11_
  have HB := n12_
  clear n0_ n1_ n2_ n3_ n4_ n5_ n6_ n7_ n8_ n9_ n10_ n11_ n12_
  go_wp2_with fail
  refine calls_of_args (args' := #[.slice _ t46.length _, _]) (by rw [← LN_row24.out]) ?_
  refine (laws_heldSettingS.calls k _ _ t46 1 t62 _ (by exact (Kd.R_reads' (by (with_reducible repeat (first | apply Kd.R_alloc | apply Kd.R_drewN | apply Kd.R_drew)); exact HO_row24.out)).2.2) (by rw [← LN_row24.out]; exact (Kd.R_reads' HO_row24.out).2.1) Q63.out).mono ?_
  rintro e w23 ⟨rfl, hb⟩
  have n0_ := Aside0.mk (Kd.R_below (by (with_reducible repeat (first | apply Kd.R_alloc | apply Kd.R_drewN | apply Kd.R_drew)); exact HO_row7.out) hb)
  have n1_ := Aside0.mk (Kd.R_below (by (with_reducible repeat (first | apply Kd.R_alloc | apply Kd.R_drewN | apply Kd.R_drew)); exact HO_row10.out) hb)
  have n2_ := Aside0.mk (Kd.R_below (by (with_reducible repeat (first | apply Kd.R_alloc | apply Kd.R_drewN | apply Kd.R_drew)); exact HO_row14.out) hb)
  have n3_ := Aside0.mk (Kd.R_below (by (with_reducible repeat (first | apply Kd.R_alloc | apply Kd.R_drewN | apply Kd.R_drew)); exact HO_row17.out) hb)
  have n4_ := Aside0.mk (Kd.R_below (by (with_reducible repeat (first | apply Kd.R_alloc | apply Kd.R_drewN | apply Kd.R_drew)); exact HO_row20.out) hb)
  have n5_ := Aside0.mk (Kd.R_below (by (with_reducible repeat (first | apply Kd.R_alloc | apply Kd.R_drewN | apply Kd.R_drew)); exact HO_row24.out) hb)
  have n6_ := Aside0.mk (Kd.R_below (by (with_reducible repeat (first | apply Kd.R_alloc | apply Kd.R_drewN | apply Kd.R_drew)); exact HO_row29.out) hb)
  have n7_ := Aside0.mk (Kd.R_below (by (with_reducible repeat (first | apply Kd.R_alloc | apply Kd.R_drewN | apply Kd.R_drew)); exact HO_row34.out) hb)
  have n8_ := Aside0.mk (Kd.R_below (by (with_reducible repeat (first | apply Kd.R_alloc | apply Kd.R_drewN | apply Kd.R_drew)); exact HO_row52.out) hb)
  have n9_ := Aside0.mk (Kd.R_below (by (with_reducible repeat (first | apply Kd.R_alloc | apply Kd.R_drewN | apply Kd.R_drew)); exact HO_row55.out) hb)
  have n10_ := Aside0.mk (Kd.R_below (by (with_reducible repeat (first | apply Kd.R_alloc | apply Kd.R_drewN | apply Kd.R_drew)); exact HO_row59.out) hb)
  have n11_ := Aside0.mk (Nat.le_trans (by repeat (first | (with_reducible first | exact HS.out | apply sz_alloc | apply sz_drewN | apply sz_drew) | exact HS.out)) hb.size)
  have n12_ := Aside0.mk (below_step (by repeat (first | (with_reducible first | exact HB.out | apply below_alloc | apply pw_below_drewN | apply below_drew1) | exact HB.out)) hb)
  clear HB HS HO_row7 HO_row10 HO_row14 HO_row17 HO_row20 HO_row24 HO_row29 HO_row34 HO_row52 HO_row55 HO_row59 hb
  have HO_row7 := n0_
  have HO_row10 := n1_
  have HO_row14 := n2_
  have HO_row17 := n3_
  have HO_row20 := n4_
  have HO_row24 := n5_
  have HO_row29 := n6_
  have HO_row34 := n7_
  have HO_row52 := n8_
  have HO_row55 := n9_
  have HO_row59 := n10_
  have HS := n11_
  have HB := n12_
  clear n0_ n1_ n2_ n3_ n4_ n5_ n6_ n7_ n8_ n9_ n10_ n11_ n12_
  go_wp2_with fail
  go_ret
  exact ⟨rfl, (by repeat (first | (with_reducible first | exact HB.out | apply below_alloc | apply pw_below_drewN | apply below_drew1) | exact HB.out))⟩
theorem laws_FnExactApplyChanges.calls (k : Nat) (A0 : Option Addr) (c0 : Nat) (l0 : List S74) (A1 : Option Addr) (c1 : Nat) (l1 : List S77) (r : Bool) (w : World) (hr0 : Kd.C k74 w A0 l0.length l0) (hc0 : l0.length ≤ c0) (hr1 : Kd.C k77 w A1 l1.length l1) (hc1 : l1.length ≤ c1) (h : laws_FnExactApplyChanges.f k l0 l1 = some r) :
    Calls Try.prog 3 #[.slice A0 l0.length c0, .slice A1 l1.length c1] w fun e w' => e = .returned (.bool r) ∧ Below w.heap.size w w' := by
  unfold laws_FnExactApplyChanges.f at h
  obtain ⟨t1, Q2, h⟩ := Option.bind_eq_some_iff.mp h
  by_cases e1 : t1 < 0
  · rw [if_pos e1] at h; obtain rfl := Option.some.inj h; exact laws_FnExactApplyChanges.early0 k A0 c0 l0 A1 c1 l1 w hr0 hc0 hr1 hc1 t1 ⟨Q2⟩ e1
  rw [if_neg e1] at h
  obtain ⟨t3, Q4, h⟩ := Option.bind_eq_some_iff.mp h
  by_cases e3 : t3 < 0
  · rw [if_pos e3] at h; obtain rfl := Option.some.inj h; exact laws_FnExactApplyChanges.early1 k A0 c0 l0 A1 c1 l1 w hr0 hc0 hr1 hc1 t1 t3 ⟨Q2⟩ e1 ⟨Q4⟩ e3
  rw [if_neg e3] at h
  unfold laws_FnExactApplyChanges.g at h
  obtain ⟨t5, Q6, h⟩ := Option.bind_eq_some_iff.mp h
  obtain ⟨t8, Q9, h⟩ := Option.bind_eq_some_iff.mp h
  obtain ⟨⟨t11, t12⟩, Q13, h⟩ := Option.bind_eq_some_iff.mp h
  dsimp only at h
  obtain ⟨t15, Q16, h⟩ := Option.bind_eq_some_iff.mp h
  obtain ⟨t18, Q19, h⟩ := Option.bind_eq_some_iff.mp h
  obtain ⟨⟨t21, t22⟩, Q23, h⟩ := Option.bind_eq_some_iff.mp h
  dsimp only at h
  by_cases Q26 : laws_eqSettingS.f k t21 t11 = some true
  rotate_left
  · rw [if_neg Q26] at h; exact absurd h (by simp)
  rw [if_pos Q26] at h
  by_cases e11 : t22 = t12
  rotate_left
  · rw [if_neg e11] at h; exact absurd h (by simp)
  rw [if_pos e11] at h
  obtain ⟨t27, Q28, h⟩ := Option.bind_eq_some_iff.mp h
  by_cases Q31 : laws_eqSettingS.f k t15 t27 = some true
  rotate_left
  · rw [if_neg Q31] at h; exact absurd h (by simp)
  rw [if_pos Q31] at h
  obtain ⟨t32, Q33, h⟩ := Option.bind_eq_some_iff.mp h
  by_cases Q36 : laws_eqChangeS.f k t18 t32 = some true
  rotate_left
  · rw [if_neg Q36] at h; exact absurd h (by simp)
  rw [if_pos Q36] at h
  obtain ⟨⟨t37, t38⟩, Q39, h⟩ := Option.bind_eq_some_iff.mp h
  dsimp only at h
  obtain ⟨⟨t40, t41⟩, Q42, h⟩ := Option.bind_eq_some_iff.mp h
  dsimp only at h
  by_cases e18 : t40 < 0
  · rw [if_pos e18] at h; exact absurd h (by simp)
  rw [if_neg e18] at h
  by_cases Q44 : laws_eqSettingS.f k t21 t11 = some true
  rotate_left
  · rw [if_neg Q44] at h; exact absurd h (by simp)
  rw [if_pos Q44] at h
  by_cases e20 : t22 = t12
  rotate_left
  · rw [if_neg e20] at h; exact absurd h (by simp)
  rw [if_pos e20] at h
  obtain ⟨⟨t45, t46⟩, Q47, h⟩ := Option.bind_eq_some_iff.mp h
  dsimp only at h
  obtain ⟨t48, Q49, h⟩ := Option.bind_eq_some_iff.mp h
  by_cases e23 : t48 < 0
  · rw [if_pos e23] at h; exact absurd h (by simp)
  rw [if_neg e23] at h
  by_cases e24 : t48 = t45
  rotate_left
  · rw [if_neg e24] at h; exact absurd h (by simp)
  rw [if_pos e24] at h
  obtain ⟨t50, Q51, h⟩ := Option.bind_eq_some_iff.mp h
  obtain ⟨t53, Q54, h⟩ := Option.bind_eq_some_iff.mp h
  obtain ⟨⟨t56, t57⟩, Q58, h⟩ := Option.bind_eq_some_iff.mp h
  dsimp only at h
  by_cases Q61 : laws_eqSettingS.f k t56 t11 = some true
  rotate_left
  · rw [if_neg Q61] at h; exact absurd h (by simp)
  rw [if_pos Q61] at h
  by_cases e29 : t57 = t12
  rotate_left
  · rw [if_neg e29] at h; exact absurd h (by simp)
  rw [if_pos e29] at h
  obtain ⟨t62, Q63, h⟩ := Option.bind_eq_some_iff.mp h
  by_cases e31 : t62 < 0
  · rw [if_pos e31] at h; exact absurd h (by simp)
  rw [if_neg e31] at h
  by_cases e32 : t62 = t45
  rotate_left
  · rw [if_neg e32] at h; exact absurd h (by simp)
  rw [if_pos e32] at h
  obtain rfl := Option.some.inj h
  exact laws_FnExactApplyChanges.main k A0 c0 l0 A1 c1 l1 w hr0 hc0 hr1 hc1 t1 t3 t5 t8 t11 t12 t15 t18 t21 t22 t27 t32 t37 t38 t40 t41 t45 t46 t48 t50 t53 t56 t57 t62 ⟨Q2⟩ e1 ⟨Q4⟩ e3 ⟨Q6⟩ ⟨Q9⟩ ⟨Q13⟩ ⟨Q16⟩ ⟨Q19⟩ ⟨Q23⟩ ⟨Q26⟩ e11 ⟨Q28⟩ ⟨Q31⟩ ⟨Q33⟩ ⟨Q36⟩ ⟨Q39⟩ ⟨Q42⟩ e18 ⟨Q44⟩ e20 ⟨Q47⟩ ⟨Q49⟩ e23 e24 ⟨Q51⟩ ⟨Q54⟩ ⟨Q58⟩ ⟨Q61⟩ e29 ⟨Q63⟩ e31 e32

end Go.Proofs.Ytocegmkifmdlcaa.P

namespace Go.Proofs.YtocegmkifmdlcaaO
open Go.RowKit Go.WideShapes Go.Proofs.YtocegmkifmdlcaaW.PrintWords
set_option linter.unusedVariables false
set_option linter.unusedSimpArgs false

theorem addr_add_add (a : Addr) (m i : Nat) : (a.add m).add i = a.add (m + i) := by
  unfold Addr.add
  by_cases h1 : m = 0
  · subst h1; simp
  · by_cases h2 : i = 0
    · subst h2; simp [h1]
    · have h3 : ¬ (m + i = 0) := by omega
      simp [h1, h2, Nat.add_assoc]

/-- Whatever the claim reads at this type is a value of this kind, of which G holds. -/
def Opens {α : Type} (P : Program) (t : TypeId) (d : Kd α) (G : α → Prop) : Prop :=
  ∀ (H : Type) (enc : TypeId × Value → H) (w : World) (base : Nat) (spare : Nat → Bool) (held : Bool) (fuel : Nat) (cs : List Value) (x : DataW H × List MemPlace),
    DataW.trod enc P w base spare held fuel t cs = some x → ∃ a : α, d.K w a cs ∧ G a

section
variable {α β : Type} {P : Program} {t e : TypeId} {d : Kd α} {G : α → Prop}

theorem opens_int {k : IntKind} (ht : P.underlying t = some (.int k)) : Opens P t (Kd.int k) (fun n => (Lit.int k n).wf = true) := by
  intro H enc w base spare held fuel cs x h
  obtain ⟨n, rfl, _, hw⟩ := DataW.trod_int ht h
  exact ⟨n, rfl, hw⟩
theorem opens_string (ht : P.underlying t = some .string) : Opens P t Kd.string (fun s => s.size ≤ maxLen) := by
  intro H enc w base spare held fuel cs x h
  obtain ⟨n, rfl, _, hs⟩ := DataW.trod_string ht h
  exact ⟨n, rfl, hs⟩

theorem list_of_each {p : Nat → α → Prop} : ∀ n : Nat, (∀ i, i < n → ∃ a, p i a) → ∃ l : List α, l.length = n ∧ ∀ i a, l[i]? = some a → p i a
  | 0, _ => ⟨[], rfl, fun i a h => by simp at h⟩
  | n + 1, h => by
    obtain ⟨l, hl, hp⟩ := list_of_each n (fun i hi => h i (by omega))
    obtain ⟨a, ha⟩ := h n (by omega)
    refine ⟨l ++ [a], by simp [hl], fun i b hb => ?_⟩
    by_cases hi : i < l.length
    · rw [List.getElem?_append_left hi] at hb
      exact hp i b hb
    · rw [List.getElem?_append_right (by omega)] at hb
      have h0 : i - l.length = 0 := by
        have := (List.getElem?_eq_some_iff.1 hb).1
        simp at this
        omega
      rw [h0] at hb
      have hi2 : i = n := by omega
      subst hi2
      simp at hb
      subst hb
      exact ha

theorem opens_slice (ht : P.underlying t = some (.slice e)) (hc : P.cellsOf e = d.sz) (hd : Opens P e d G) : Opens P t (Kd.slice e d) (fun l => l.length ≤ maxLen ∧ ∀ x ∈ l, G x) := by
  intro H enc w base spare held fuel cs x h
  rcases DataW.trod_slice ht h with ⟨rfl, _⟩ | ⟨a, len, cap, elems, rest, n, _, rfl, _, hb, hl, hm, hlen, hel, _, _⟩
  · exact ⟨[], ⟨none, 0, rfl, Nat.le_refl _, rfl, by simp, fun hp => by simp at hp⟩, by simp, by simp⟩
  · have each : ∀ i, i < len → ∃ x : α, G x ∧ ∃ c, c.length = d.sz ∧ d.K w x c ∧ ∀ j u, c[j]? = some u → w.cell? (a.add (i * d.sz + j)) = some u := by
      intro i hi
      have h1 := hel i hi
      have h2 : ∃ y, elems[i]? = some y := ⟨elems[i]'(by omega), List.getElem?_eq_getElem (by omega)⟩
      obtain ⟨y, hy⟩ := h2
      rw [hy, Option.bind_eq_some_iff] at h1
      obtain ⟨c, hcs, hy'⟩ := h1
      obtain ⟨x, hK, hG⟩ := hd H enc w base spare held n c y hy'
      refine ⟨x, hG, c, d.K_len hK, hK, fun j u hu => ?_⟩
      have hx := World.cells?_some hcs
      have hj : j < P.cellsOf e := by
        have := (List.getElem?_eq_some_iff.1 hu).1
        have := hx.2.1
        omega
      have hz := hx.2.2 j hj
      rw [addr_add_add, hc, hu] at hz
      exact hz
    obtain ⟨l, hll, hp⟩ := list_of_each len each
    refine ⟨l, ⟨some a, cap, by rw [hll], by omega, rfl, by simp only [maxLen] at hm; omega, fun _ => ⟨a, rfl, fun j p hj => ?_⟩⟩, by simp only [maxLen] at hm ⊢; omega, fun x hx => ?_⟩
    · exact (hp j p hj).2
    · obtain ⟨i, hi, hi2⟩ := List.getElem_of_mem hx
      exact (hp i x (by rw [List.getElem?_eq_getElem hi, hi2])).1

def OpensFs {α : Type} (P : Program) (fs : List Field) (o : Nat) (d : Kd α) (G : α → Prop) : Prop :=
  ∀ (H : Type) (enc : TypeId × Value → H) (w : World) (base : Nat) (spare : Nat → Bool) (held : Bool) (fuel : Nat) (cs : List Value),
    cs.length = o + d.sz → (∀ (i : Nat) (f : Field), fs[i]? = some f → ∃ x, DataW.trod enc P w base spare held fuel f.type ((cs.drop f.offset).take (P.cellsOf f.type)) = some x) → ∃ a : α, d.K w a (cs.drop o) ∧ G a
theorem opensFs_last {f : Field} {o : Nat} (ho : f.offset = o) (hc : P.cellsOf f.type = d.sz) (h : Opens P f.type d G) : OpensFs P [f] o d G := by
  intro H enc w base spare held fuel cs hl hx
  obtain ⟨x, hx⟩ := hx 0 f rfl
  rw [ho, hc, List.take_of_length_le (by rw [List.length_drop]; omega)] at hx
  exact h H enc w base spare held fuel _ x hx
theorem opensFs_cons {f : Field} {fs : List Field} {o : Nat} {d2 : Kd β} {G2 : β → Prop} (ho : f.offset = o) (hc : P.cellsOf f.type = d.sz) (h : Opens P f.type d G) (h2 : OpensFs P fs (o + d.sz) d2 G2) :
    OpensFs P (f :: fs) o (Kd.pair d d2) (fun x => G x.1 ∧ G2 x.2) := by
  intro H enc w base spare held fuel cs hl hx
  have hl' : cs.length = o + (d.sz + d2.sz) := hl
  obtain ⟨x, hx0⟩ := hx 0 f rfl
  rw [ho, hc] at hx0
  obtain ⟨a, hK, hG⟩ := h H enc w base spare held fuel _ x hx0
  obtain ⟨b, hK2, hG2⟩ := h2 H enc w base spare held fuel cs (by omega) (fun i f2 hf => hx (i + 1) f2 (by simpa using hf))
  refine ⟨(a, b), ⟨_, _, ?_, hK, hK2⟩, hG, hG2⟩
  rw [← List.drop_drop]
  exact (List.take_append_drop d.sz (cs.drop o)).symm
theorem opens_struct {fs : Array Field} (ht : P.underlying t = some (.struct fs)) (hc : P.cellsOf t = d.sz) (h : OpensFs P fs.toList 0 d G) : Opens P t d G := by
  intro H enc w base spare held fuel cs x hx
  obtain ⟨xs, n, _, _, hl, hxl, hf⟩ := DataW.trod_struct ht hx
  have := h H enc w base spare held n cs (by omega) (fun i f hif => by
    have hif' : fs[i]? = some f := by simpa using hif
    have hi : i < xs.length := by
      rw [hxl]
      exact (Array.getElem?_eq_some_iff.1 hif').1
    exact ⟨xs[i], by rw [hf i f hif', List.getElem?_eq_getElem hi]⟩)
  simpa using this
theorem opens_iso (f : β → α) (g : α → β) (hfg : ∀ a, f (g a) = a) (h : Opens P t d G) : Opens P t (Kd.iso d f) (fun b => G (f b)) := by
  intro H enc w base spare held fuel cs x hx
  obtain ⟨a, hK, hG⟩ := h H enc w base spare held fuel cs x hx
  exact ⟨g a, by show d.K w (f (g a)) cs; rw [hfg]; exact hK, by show G (f (g a)); rw [hfg]; exact hG⟩
end
end Go.Proofs.YtocegmkifmdlcaaO

namespace Go.Proofs.Ytocegmkifmdlcaa
open Go.RowKit Go.Proofs.YtocegmkifmdlcaaO Go.Proofs.YtocegmkifmdlcaaW.PrintWords
set_option linter.unusedVariables false
set_option linter.unusedSimpArgs false
def g74 (x : P.S74) : Prop := x.f0.size ≤ maxLen ∧ (Lit.int .i64 x.f1).wf = true
theorem open74 : Opens Try.prog 74 P.k74 g74 :=
  opens_iso (fun x : P.S74 => (x.f0, x.f1)) (fun a => ⟨a.1, a.2⟩) (fun _ => rfl) (opens_struct Try.underlying74 (by kernel_rfl) (opensFs_cons (by rfl) (by kernel_rfl) (opens_string Try.underlying9) (opensFs_last (by rfl) (by kernel_rfl) (opens_int Try.underlying2))))
def g77 (x : P.S77) : Prop := (Lit.int .i64 x.f0).wf = true ∧ g74 x.f1
theorem open77 : Opens Try.prog 77 P.k77 g77 :=
  opens_iso (fun x : P.S77 => (x.f0, x.f1)) (fun a => ⟨a.1, a.2⟩) (fun _ => rfl) (opens_struct Try.underlying77 (by kernel_rfl) (opensFs_cons (by rfl) (by kernel_rfl) (opens_int Try.underlying2) (opensFs_last (by rfl) (by kernel_rfl) open74)))
end Go.Proofs.Ytocegmkifmdlcaa

/- What the library's contracts ask of this program: its bodies, types and numbers, each held against the library's by the kernel. -/
namespace Go.Proofs.Ytocegmkifmdlcaa.P
open Go.Shelf
set_option linter.unusedVariables false
set_option linter.unusedSimpArgs false
def sh_SortS_ren : Go.Shelf.Ren := ⟨fun | 190 => 117 | 125 => 145 | 258 => 144 | 128 => 166 | 129 => 167 | 302 => 157 | 303 => 158 | 304 => 159 | 305 => 160 | 306 => 161 | 307 => 162 | 308 => 163 | 309 => 164 | 310 => 165 | 333 => 170 | 329 => 171 | 330 => 172 | 334 => 173 | 335 => 174 | 336 => 141 | 344 => 175 | n => n, fun | 31 => 37 | 9 => 9 | 3 => 3 | 46 => 144 | 0 => 0 | 51 => 194 | 53 => 154 | 4 => 4 | 183 => 187 | 182 => 186 | 131 => 91 | 5 => 5 | 218 => 198 | 222 => 202 | 228 => 204 | 229 => 205 | n => n, fun | n => n⟩
theorem sh_SortS : Lays.n190 Try.prog sh_SortS_ren := {
  mixed := by kernel_rfl
  f125 := Try.func145.trans (congrArg some (by kernel_rfl))
  f128 := Try.func166.trans (congrArg some (by kernel_rfl))
  f129 := Try.func167.trans (congrArg some (by kernel_rfl))
  f190 := Try.func117.trans (congrArg some (by kernel_rfl))
  f258 := Try.func144.trans (congrArg some (by kernel_rfl))
  f302 := Try.func157.trans (congrArg some (by kernel_rfl))
  f303 := Try.func158.trans (congrArg some (by kernel_rfl))
  f304 := Try.func159.trans (congrArg some (by kernel_rfl))
  f305 := Try.func160.trans (congrArg some (by kernel_rfl))
  f306 := Try.func161.trans (congrArg some (by kernel_rfl))
  f307 := Try.func162.trans (congrArg some (by kernel_rfl))
  f308 := Try.func163.trans (congrArg some (by kernel_rfl))
  f309 := Try.func164.trans (congrArg some (by kernel_rfl))
  f310 := Try.func165.trans (congrArg some (by kernel_rfl))
  f329 := Try.func171.trans (congrArg some (by kernel_rfl))
  f330 := Try.func172.trans (congrArg some (by kernel_rfl))
  f333 := Try.func170.trans (congrArg some (by kernel_rfl))
  f334 := Try.func173.trans (congrArg some (by kernel_rfl))
  f335 := Try.func174.trans (congrArg some (by kernel_rfl))
  f336 := Try.func141.trans (congrArg some (by kernel_rfl))
  f344 := Try.func175.trans (congrArg some (by kernel_rfl))
  t0 := Try.underlying0
  a0 := Try.isAgg0
  z0 := Try.sizeOf0
  v0 := Try.zeroValue0
  t3 := Try.underlying3
  a3 := Try.isAgg3
  z3 := Try.sizeOf3
  v3 := Try.zeroValue3
  t4 := Try.underlying4
  a4 := Try.isAgg4
  z4 := Try.sizeOf4
  v4 := Try.zeroValue4
  t5 := Try.underlying5
  a5 := Try.isAgg5
  z5 := Try.sizeOf5
  v5 := Try.zeroValue5
  t9 := Try.underlying9
  a9 := Try.isAgg9
  z9 := Try.sizeOf9
  v9 := Try.zeroValue9
  t31 := Try.underlying37
  a31 := Try.isAgg37
  z31 := Try.sizeOf37
  v31 := Try.zeroValue37
  t46 := Try.underlying144
  a46 := Try.isAgg144
  z46 := Try.sizeOf144
  v46 := Try.zeroValue144
  t51 := Try.underlying194
  a51 := Try.isAgg194
  z51 := Try.sizeOf194
  v51 := Try.zeroValue194
  t53 := Try.underlying154
  a53 := Try.isAgg154
  z53 := Try.sizeOf154
  v53 := Try.zeroValue154
  t131 := Try.underlying91
  a131 := Try.isAgg91
  z131 := Try.sizeOf91
  v131 := Try.zeroValue91
  t182 := Try.underlying186
  a182 := Try.isAgg186
  z182 := Try.sizeOf186
  v182 := Try.zeroValue186
  t183 := Try.underlying187
  a183 := Try.isAgg187
  z183 := Try.sizeOf187
  v183 := Try.zeroValue187
  t218 := Try.underlying198
  a218 := Try.isAgg198
  z218 := Try.sizeOf198
  v218 := Try.zeroValue198
  t222 := Try.underlying202
  a222 := Try.isAgg202
  z222 := Try.sizeOf202
  v222 := Try.zeroValue202
  t228 := Try.underlying204
  a228 := Try.isAgg204
  z228 := Try.sizeOf204
  v228 := Try.zeroValue204
  t229 := Try.underlying205
  a229 := Try.isAgg205
  z229 := Try.sizeOf205
  v229 := Try.zeroValue205 }
def sh_CompactS_ren : Go.Shelf.Ren := ⟨fun | 194 => 118 | n => n, fun | 31 => 37 | 9 => 9 | 3 => 3 | 4 => 4 | 0 => 0 | n => n, fun | n => n⟩
theorem sh_CompactS : Lays.n194 Try.prog sh_CompactS_ren := {
  mixed := by kernel_rfl
  f194 := Try.func118.trans (congrArg some (by kernel_rfl))
  t0 := Try.underlying0
  a0 := Try.isAgg0
  z0 := Try.sizeOf0
  v0 := Try.zeroValue0
  t3 := Try.underlying3
  a3 := Try.isAgg3
  z3 := Try.sizeOf3
  v3 := Try.zeroValue3
  t4 := Try.underlying4
  a4 := Try.isAgg4
  z4 := Try.sizeOf4
  v4 := Try.zeroValue4
  t9 := Try.underlying9
  a9 := Try.isAgg9
  z9 := Try.sizeOf9
  v9 := Try.zeroValue9
  t31 := Try.underlying37
  a31 := Try.isAgg37
  z31 := Try.sizeOf37
  v31 := Try.zeroValue37 }
end Go.Proofs.Ytocegmkifmdlcaa.P

namespace Go.Proofs.Ytocegmkifmdlcaa.P
open Go.RowKit Go.Proofs.YtocegmkifmdlcaaW.PrintWords Go.Proofs.YtocegmkifmdlcaaW.PrintLast Go.Proofs.YtocegmkifmdlcaaW.PrintMore
attribute [local go_sem] max2_int min2_int max_two min_two max_three min_three max_four min_four str_leq str_gtr str_geq
set_option linter.unusedVariables false
set_option linter.unusedSimpArgs false

set_option maxHeartbeats 8000000
set_option maxRecDepth 100000
theorem impl_conflictsOf.all {ops : Array Oper} {l : Array Bool} {i : Nat} {o : Oper} (hr : Region.ready .any ops l = []) (hs : i < l.size) (ho : ops[i]? = some o) (ha : (o.after.all fun e => !Region.binds .any e || l.getD e.on false) = true) : l.getD i false = true := by
  have hi : i < ops.size := by
    by_cases h : i < ops.size
    · exact h
    · rw [Array.getElem?_eq_none (by omega)] at ho; cases ho
  cases hx : l.getD i false
  · have h1 : l.getD i true = false := by
      rw [Array.getD_eq_getD_getElem?, Array.getElem?_eq_getElem hs] at hx ⊢
      exact hx
    have : i ∈ Region.ready .any ops l := by
      unfold Region.ready
      refine List.mem_filter.2 ⟨List.mem_range.2 hi, ?_⟩
      rw [h1, ho]
      simpa using ha
    rw [hr] at this
    cases this
  · rfl
def impl_conflictsOf.F (l : Array Bool) (j : Nat) (p : Prop) : Prop := l.getD j false = true → p
end Go.Proofs.Ytocegmkifmdlcaa.P

namespace Go.Proofs.Ytocegmkifmdlcaa.P
open Go.RowKit Go.Proofs.YtocegmkifmdlcaaW.PrintWords Go.Proofs.YtocegmkifmdlcaaL
set_option linter.unusedVariables false
set_option linter.unusedSimpArgs false

def nameByte (c : Int) : Bool := (decide (97 ≤ c) && decide (c ≤ 122)) || (decide (48 ≤ c) && decide (c ≤ 57))
def nameB (s : ByteArray) : Bool := decide (1 ≤ s.size) && decide (s.size ≤ 10) && (decide (97 ≤ bt s 0) && decide (bt s 0 ≤ 122)) && (List.range s.size).all fun i => nameByte (bt s (i : Int))
theorem size_zero {s : ByteArray} : s.toList = ([] : List UInt8) ↔ s.size = 0 := by
  rw [ByteArray.toList_eq]
  constructor
  · intro h; have := congrArg List.length h; simpa using this
  · intro h
    apply List.eq_nil_of_length_eq_zero
    simpa using h
theorem l01Name_eq (s : ByteArray) {k : Nat} (hk : 20 ≤ k) : spec_l01Name.f k s = some (nameB s) := by
  obtain ⟨k, rfl⟩ : ∃ m, k = m + 1 := ⟨k - 1, by omega⟩
  unfold spec_l01Name.f nameB
  by_cases h0 : s.size = 0
  · rw [if_pos (size_zero.2 h0)]; simp [spec_l01Name.j0, h0]
  rw [if_neg (fun e => h0 (size_zero.1 e))]
  by_cases h1 : (s.size : Int) > 10
  · rw [if_pos h1]
    have : ¬ s.size ≤ 10 := by omega
    simp [spec_l01Name.j0, this]
  rw [if_neg h1, if_pos (by omega)]
  unfold spec_l01Small.f
  have h1' : s.size ≤ 10 := by omega
  have h0' : 1 ≤ s.size := by omega
  by_cases h2 : bt s 0 ≥ 97
  · rw [if_pos h2]; simp only [Option.bind_some, spec_l01Name.j0]
    by_cases h3 : bt s 0 ≤ 122
    · rw [if_neg (by simp [h3])]
      rw [all_loop (fun k i => spec_l01Name.l0 k s i) s.size (fun i => nameByte (bt s (i : Int))) true 1 (fun k i hi hB => ?_) (fun k _ => ?_) k (by omega)]
      · simp [h1', h0', h3, ge_iff_le.1 h2]
      · obtain ⟨k, rfl⟩ : ∃ m, k = m + 1 := ⟨k - 1, by omega⟩
        show spec_l01Name.l0 (k + 1 + 1) s (i : Int) = _
        rw [spec_l01Name.l0]
        rw [if_pos (by omega), if_pos (nn_cast i), wrap_succ hi (by omega)]
        unfold spec_l01Small.f spec_l01Digit.f nameByte
        by_cases e1 : bt s (i : Int) ≥ 97
        · rw [if_pos e1]
          by_cases e2 : bt s (i : Int) ≤ 122
          · simp [e2, ge_iff_le.1 e1]
          · have e3 : bt s (i : Int) ≥ 48 := by omega
            have e4 : ¬ bt s (i : Int) ≤ 57 := by omega
            simp [e2, e4, ge_iff_le.1 e3]
        · rw [if_neg e1]
          have e1' : ¬ 97 ≤ bt s (i : Int) := e1
          by_cases e2 : bt s (i : Int) ≥ 48
          · rw [if_pos e2]
            by_cases e3 : bt s (i : Int) ≤ 57
            · simp [e3, ge_iff_le.1 e2]
            · simp [e3, e1']
          · rw [if_neg e2]
            have e2' : ¬ 48 ≤ bt s (i : Int) := e2
            simp [e1', e2']
      · show spec_l01Name.l0 (_ + 1) s (s.size : Int) = _
        rw [spec_l01Name.l0, if_neg (nlt_cast _)]
    · rw [if_pos (by simp [h3])]; simp [h3]
  · rw [if_neg h2]; simp only [Option.bind_some, spec_l01Name.j0]
    have h2' : ¬ 97 ≤ bt s 0 := h2
    rw [if_pos (by rfl)]; simp [h2']

theorem IsName_eq (s : ByteArray) {k : Nat} (hk : 20 ≤ k) : impl_IsName.f k s = some (nameB s) := by
  unfold impl_IsName.f nameB
  by_cases h0 : (s.size : Int) < 1
  · rw [if_pos h0]
    have : ¬ 1 ≤ s.size := by omega
    simp [this]
  rw [if_neg h0]
  by_cases h1 : (s.size : Int) > 10
  · rw [if_pos h1]
    have : ¬ s.size ≤ 10 := by omega
    simp [this]
  rw [if_neg h1, if_pos (by omega)]
  have h1' : s.size ≤ 10 := by omega
  have h0' : 1 ≤ s.size := by omega
  by_cases h2 : bt s 0 < 97
  · rw [if_pos h2]
    have h2' : ¬ 97 ≤ bt s 0 := by omega
    simp [h2']
  rw [if_neg h2]
  by_cases h3 : bt s 0 > 122
  · rw [if_pos h3]
    have h3' : ¬ bt s 0 ≤ 122 := by omega
    simp [h3']
  rw [if_neg h3]
  have h2' : 97 ≤ bt s 0 := by omega
  have h3' : bt s 0 ≤ 122 := by omega
  unfold impl_onlyNameBytes.f
  rw [all_loop (fun k i => impl_onlyNameBytes.l0 k s (s.size : Int) i) s.size (fun i => nameByte (bt s (i : Int))) true 0 (fun k i hi hB => ?_) (fun k _ => ?_) k (by omega)]
  · simp [h1', h0', h3', h2']
  · show impl_onlyNameBytes.l0 (k + 1) s (s.size : Int) (i : Int) = _
    rw [impl_onlyNameBytes.l0]
    rw [if_pos (lt_cast hi), if_pos (nn_cast i), if_pos (lt_cast hi), wrap_succ hi (by omega)]
    unfold nameByte
    repeat' split
    all_goals first | rfl | (exfalso; simp_all; done) | (exfalso; simp_all; omega)
  · show impl_onlyNameBytes.l0 (k + 1) s (s.size : Int) (s.size : Int) = _
    rw [impl_onlyNameBytes.l0, if_neg (nlt_cast _)]

theorem in_eq (a b c : Int) : spec_l00In.f a b c = some (decide (b ≤ a) && decide (a ≤ c)) := by
  unfold spec_l00In.f
  by_cases h : a ≥ b
  · rw [if_pos h]; simp [ge_iff_le.1 h]
  · rw [if_neg h]
    have h' : ¬ b ≤ a := h
    simp [h']
theorem within_eq (a b c : Int) : impl_within.f a b c = some (decide (b ≤ a) && decide (a ≤ c)) := by
  unfold impl_within.f
  by_cases h : a ≥ b
  · rw [if_pos h]; simp [ge_iff_le.1 h]
  · rw [if_neg h]
    have h' : ¬ b ≤ a := h
    simp [h']

theorem ext_iAnswer {a b : S125} : a = b ↔ a.f0.toList = b.f0.toList ∧ a.f1.toList = b.f1.toList ∧ a.f2 = b.f2 := by
  simp only [bytes_eq]; cases a; cases b; simp
instance : DecidableEq S125 := fun _ _ => decidable_of_iff _ ext_iAnswer.symm
-- Change: fields of other kinds
def cSetting (x : S74) : S80 := ⟨x.f0, x.f1⟩
def smSetting (x : S74) : Prop := x.f0.size ≤ 1048576
theorem rd_lSetting {l : List S74} {i : Nat} (h : i < l.length) : rd_T74 l (i : Int) = l[i] := by
  simp [rd_T74, List.getD_eq_getElem?_getD, List.getElem?_eq_getElem h]
theorem rd_iSetting {l : List S80} {i : Nat} (h : i < l.length) : rd_T80 l (i : Int) = l[i] := by
  simp [rd_T80, List.getD_eq_getElem?_getD, List.getElem?_eq_getElem h]
theorem ext_iSetting {a b : S80} : a = b ↔ a.f0.toList = b.f0.toList ∧ a.f1 = b.f1 := by
  simp only [bytes_eq]; cases a; cases b; simp
instance : DecidableEq S80 := fun _ _ => decidable_of_iff _ ext_iSetting.symm
theorem szSetting_some {x : S74} (hg : Go.Proofs.Ytocegmkifmdlcaa.g74 x) {a : Int} (ha0 : 0 ≤ a) (ha : a ≤ 1048576) : ∃ r, laws_szSetting.f x.f0 x.f1 a = some r ∧ (r < 0 ∨ (0 ≤ r ∧ r ≤ a ∧ smSetting x)) := by
  unfold laws_szSetting.f smSetting
  have hs0 : x.f0.size ≤ 9223372036854775807 := by have := hg.1; simpa only [maxLen] using this
  rw [wrap_id (x := a - (x.f0.size : Int)) (by omega) (by omega)]
  by_cases h0 : a - (x.f0.size : Int) < 0
  · rw [if_pos h0]; exact ⟨-1, rfl, .inl (by omega)⟩
  rw [if_neg h0]
  exact ⟨_, rfl, .inr ⟨by omega, by omega, by omega⟩⟩
theorem szSettingS_some {l : List S74} (hl : l.length ≤ maxLen) (hg : ∀ y ∈ l, Go.Proofs.Ytocegmkifmdlcaa.g74 y) {a : Int} (ha0 : 0 ≤ a) (ha : a ≤ 1048576) {k : Nat} (hk : 1048600 ≤ k) : ∃ r, laws_szSettingS.f k l a = some r ∧ (r < 0 ∨ (0 ≤ r ∧ r ≤ a ∧ l.length ≤ 1048576 ∧ ∀ y ∈ l, smSetting y)) := by
  have hl' : l.length ≤ 9223372036854775807 := by simpa only [maxLen] using hl
  unfold laws_szSettingS.f
  rw [wrap_id (by omega) (by omega)]
  by_cases h0 : a - (l.length : Int) < 0
  · rw [if_pos h0]; exact ⟨-1, rfl, .inl (by omega)⟩
  · rw [if_neg h0]
    have main : ∀ (d k i : Nat) (s : Int), i + d = l.length → 0 + d < k → 0 ≤ s → s ≤ a - l.length → ∃ r, laws_szSettingS.l0 k l s (i : Int) = some r ∧ (r < 0 ∨ (0 ≤ r ∧ r ≤ s ∧ ∀ y ∈ l.drop i, smSetting y)) := by
      intro d
      induction d with
      | zero =>
        intro k i s hi hk h0 h1
        obtain ⟨k, rfl⟩ : ∃ m, k = m + 1 := ⟨k - 1, by omega⟩
        obtain rfl : i = l.length := by omega
        simp only [laws_szSettingS.l0]
        rw [if_neg (nlt_cast _)]
        exact ⟨s, rfl, .inr ⟨h0, by omega, by simp⟩⟩
      | succ d ih =>
        intro k i s hi hk h0 h1
        obtain ⟨k, rfl⟩ : ∃ m, k = m + 1 := ⟨k - 1, by omega⟩
        have hlt : i < l.length := by omega
        simp only [laws_szSettingS.l0]
        rw [if_pos (lt_cast hlt), if_pos (nn_cast i), rd_lSetting hlt, wrap_succ hlt (by omega)]
        obtain ⟨r1, hr1, e1⟩ := szSetting_some (hg l[i] (List.getElem_mem hlt)) (a := s) (by omega) (by omega)
        rw [hr1]; simp only [Option.bind_some]
        by_cases h2 : r1 < 0
        · rw [if_pos h2]
          exact ⟨-1, rfl, .inl (by omega)⟩
        · rw [if_neg h2]
          have e1' := e1.resolve_left h2
          obtain ⟨r, hr, h3⟩ := ih k (i + 1) r1 (by omega) (by omega) (by omega) (by omega)
          refine ⟨r, hr, h3.imp id fun h3 => ⟨h3.1, by omega, ?_⟩⟩
          rw [drop_cons hlt]
          intro y hy
          rcases List.mem_cons.1 hy with rfl | hy
          · exact e1'.2.2
          · exact h3.2.2 y hy
    obtain ⟨r, hr, h⟩ := main l.length k 0 (a - l.length) (by omega) (by omega) (by omega) (by omega)
    refine ⟨r, hr, h.imp id fun h => ⟨h.1, by omega, by omega, ?_⟩⟩
    simpa using h.2.2
theorem toSetting_eq {x : S74} (hs : smSetting x) : laws_toSetting.f x.f0 x.f1 = some ((cSetting x).f0, (cSetting x).f1) := by
  unfold smSetting at hs
  unfold laws_toSetting.f
  rfl
theorem toSettingS_eq {l : List S74} (hl : l.length ≤ 1048576) (hs : ∀ y ∈ l, smSetting y) {k : Nat} (hk : 1048600 ≤ k) : laws_toSettingS.f k l = some (l.map cSetting) := by
  unfold laws_toSettingS.f
  rw [if_pos (nn_cast _), if_pos (by simp; omega)]
  refine set_loop (fun k acc i => laws_toSettingS.l0 k l acc i) l cSetting 0 (fun k i hi acc ha hB => ?_) (fun k acc => ?_) k _ (by omega) (by simp)
  · simp only [laws_toSettingS.l0]
    rw [if_pos (lt_cast hi), if_pos (nn_cast i), rd_lSetting hi, wrap_succ hi (by omega), toSetting_eq (hs _ (List.getElem_mem hi))]
    simp only [Option.bind_some]
    rw [if_pos (by omega)]
    rfl
  · simp only [laws_toSettingS.l0]
    rw [if_neg (nlt_cast _)]
def smiSetting (x : S80) : Prop := True
theorem smi_cSetting {x : S74} (hs : smSetting x) : smiSetting (cSetting x) := by
  unfold smSetting at hs
  unfold smiSetting
  trivial
theorem eqSetting_eq {a b : S80} (hs : smiSetting a) : laws_eqSetting.f a.f0 a.f1 b.f0 b.f1 = some (decide (a = b)) := by
  unfold smiSetting at hs
  unfold laws_eqSetting.f
  by_cases e0 : a.f0.toList = b.f0.toList
  rotate_left
  · rw [if_neg e0]; have hne : ¬ a = b := fun e => e0 (ext_iSetting.1 e).1; simp [hne]
  rw [if_pos e0]
  by_cases e1 : a.f1 = b.f1
  rotate_left
  · rw [if_neg e1]; have hne : ¬ a = b := fun e => e1 (ext_iSetting.1 e).2; simp [hne]
  rw [if_pos e1]
  rw [decide_eq_true (ext_iSetting.2 ⟨e0, e1⟩)]
theorem eqSettingS_eq {a b : List S80} (hl : a.length ≤ 1048576) (hs : ∀ y ∈ a, smiSetting y) {k : Nat} (hk : 1048600 ≤ k) : laws_eqSettingS.f k a b = some (decide (a = b)) := by
  unfold laws_eqSettingS.f
  by_cases h : a.length = b.length
  · rw [if_pos (by omega)]
    refine eq_loop (fun k i => laws_eqSettingS.l0 k a b i) a b h 0 (fun k i h1 h2 hB => ?_) (fun k => ?_) k (by omega)
    · simp only [laws_eqSettingS.l0]
      rw [if_pos (lt_cast h1), if_pos (nn_cast i), if_pos (lt_cast h2), rd_iSetting h1, rd_iSetting h2, wrap_succ h1 (by omega), eqSetting_eq (hs _ (List.getElem_mem h1))]
      simp only [Option.bind_some, decide_eq_true_eq]
    · simp only [laws_eqSettingS.l0]
      rw [if_neg (nlt_cast _)]
  · rw [if_neg (by omega)]
    have : a ≠ b := fun e => h (by rw [e])
    simp [this]
theorem ext_iTurn {a b : S127} : a = b ↔ a.f0.toList = b.f0.toList ∧ a.f1 = b.f1 ∧ a.f2 = b.f2 := by
  simp only [bytes_eq]; cases a; cases b; simp
instance : DecidableEq S127 := fun _ _ => decidable_of_iff _ ext_iTurn.symm
def mt (n : Int) : ByteArray := (laws_markText.f 100 n).getD ⟨#[]⟩
theorem strOf_one (x : Int) : (strOfNums [x]).size = 1 := rfl
theorem markText_some : ∀ (d k : Nat) (n : Int) (s : ByteArray), 0 ≤ n → n ≤ 9223372036854775807 → n < 10 ^ d → s.size + d ≤ 1000 → d < k → ∃ r, laws_markText.l0 k n s = some r := by
  intro d
  induction d with
  | zero =>
    intro k n s h0 hb h1 hs hk
    obtain ⟨k, rfl⟩ : ∃ m, k = m + 1 := ⟨k - 1, by omega⟩
    have : n = 0 := by simp at h1; omega
    subst this
    simp only [laws_markText.l0]
    rw [if_neg (by omega), if_pos (by omega)]
    exact ⟨_, rfl⟩
  | succ d ih =>
    intro k n s h0 hb h1 hs hk
    obtain ⟨k, rfl⟩ : ∃ m, k = m + 1 := ⟨k - 1, by omega⟩
    simp only [laws_markText.l0]
    by_cases h : n > 0
    · rw [if_pos h]
      simp only [Option.bind_some]
      rw [if_pos (by rw [strOf_one]; omega)]
      have e : wrap64 (n.tdiv 10) = n / 10 := by
        rw [Int.tdiv_eq_ediv_of_nonneg h0, wrap_id (by omega) (by omega)]
      rw [e]
      refine ih k _ _ (by omega) (by omega) ?_ ?_ (by omega)
      · have : (10 : Int) ^ (d + 1) = 10 ^ d * 10 := by rw [Int.pow_succ]
        rw [this] at h1
        exact Int.ediv_lt_of_lt_mul (by omega) h1
      · rw [ByteArray.size_append, strOf_one]; omega
    · rw [if_neg h, if_pos (by omega)]
      exact ⟨_, rfl⟩
theorem markText_eq {n : Int} (h0 : 0 ≤ n) (h : n ≤ 1073741824) {k : Nat} (hk : 100 ≤ k) : laws_markText.f k n = some (mt n) := by
  have hs : ∃ r, laws_markText.f 100 n = some r := by
    unfold laws_markText.f
    by_cases h1 : n ≤ 0
    · rw [if_pos h1]; exact ⟨_, rfl⟩
    · rw [if_neg h1]
      exact markText_some 12 100 n _ h0 (by omega) (by omega) (by decide) (by omega)
  obtain ⟨r, hr⟩ := hs
  have := at_rounds (fun k => laws_markText.mono n k) hk hr
  rw [this]
  unfold mt
  rw [hr]; rfl
theorem rdm_iSetting {pre rest : List S80} {x : S80} : rd_T80 (pre ++ x :: rest) (pre.length : Int) = x := by simp [rd_T80]
def mkSettingS (l : List S80) (m : Int) : List S80 := mkl (fun (_ : S80) m => (⟨mt (m), m + 1⟩ : S80)) (fun _ => 2) l m
theorem markSettingS_eq {l : List S80} {m : Int} (hm : 0 ≤ m) (hb : m + 2 * l.length ≤ 1073741824) {k : Nat} (hk : 200 + l.length ≤ k) : laws_markSettingS.f k l m = some (m + 2 * l.length, mkSettingS l m) := by
  unfold laws_markSettingS.f mkSettingS
  have h := mark_loop (fun k l m i => laws_markSettingS.l0 k l m i) (fun (_ : S80) m => (⟨mt (m), m + 1⟩ : S80)) (fun _ => 2) 1073741824 100 (fun _ => by omega) (fun k pre x rest m hB hp hm hM => ?_) (fun k l m => ?_) k l m (by omega) (by omega) hm (by rw [mtot_const]; omega)
  · rw [mtot_const] at h
    exact h
  · simp only [laws_markSettingS.l0]
    have w1 : wrap64 (m + 1) = m + 1 := wrap_id (by omega) (by omega)
    have w2 : wrap64 ((m + 1) + 1) = m + 1 + 1 := wrap_id (by omega) (by omega)
    have t0 := fun k (hB : 100 ≤ k) => markText_eq (n := m) (by omega) (by omega) hB
    rw [if_pos (by simp; omega)]
    simp only [Option.bind_some, w1, w2, t0 _ hB]
    (try rw [if_pos (nn_cast _)])
    simp only [Option.bind_some, rdm_iSetting, set_mid, w1, w2, t0 _ hB]
    (try rw [if_pos (nn_cast _)])
    (try simp only [Option.bind_some, rdm_iSetting, set_mid, w1, w2])
    rw [wrap_succ (i := pre.length) (n := pre.length + 1) (by omega) (by omega), show m + (2 : Int) = m + 1 + 1 from by omega]
  · simp only [laws_markSettingS.l0]
    rw [if_neg (nlt_cast _)]
theorem heldSettingS_mk {l : List S80} {m0 : Int} (hm : 0 ≤ m0) (hb : m0 + 2 * l.length ≤ 1073741824) {k : Nat} (hk : 200 + l.length ≤ k) : laws_heldSettingS.f k (mkSettingS l m0) m0 = some (m0 + 2 * l.length) := by
  unfold laws_heldSettingS.f
  have h := held_loop (fun k m i => laws_heldSettingS.l0 k (mkSettingS l m0) m i) (fun (_ : S80) m => (⟨mt (m), m + 1⟩ : S80)) (fun _ => 2) 1073741824 100 (fun _ => by omega) (mkSettingS l m0) (fun k pre x rest m he hB hp hm hM => ?_) (fun k m => ?_) k l m0 rfl (by omega) (by omega) hm (by rw [mtot_const]; omega)
  · rw [mtot_const] at h
    exact h
  · simp only [laws_heldSettingS.l0]
    have w1 : wrap64 (m + 1) = m + 1 := wrap_id (by omega) (by omega)
    have w2 : wrap64 ((m + 1) + 1) = m + 1 + 1 := wrap_id (by omega) (by omega)
    have t0 := fun k (hB : 100 ≤ k) => markText_eq (n := m) (by omega) (by omega) hB
    rw [if_pos (by rw [he]; simp; omega), if_pos (nn_cast _)]
    simp only [he, rdm_iSetting, Option.bind_some, w1, w2, t0 _ hB, if_true]
    rw [wrap_succ (i := pre.length) (n := pre.length + 1) (by omega) (by omega), show m + (2 : Int) = m + 1 + 1 from by omega]
  · simp only [laws_heldSettingS.l0]
    rw [if_neg (nlt_cast _)]

def settingB (x : S80) : Bool := nameB x.f0 && (decide (0 ≤ x.f1) && decide (x.f1 ≤ 1000))
def stateAt (l : List S80) (i : Nat) : Bool := settingB (rd_T80 l (i : Int)) && (decide (i = 0) || Op.bytesLess (rd_T80 l ((i - 1 : Nat) : Int)).f0.toList (rd_T80 l (i : Int)).f0.toList)
def stateB (l : List S80) : Bool := (List.range l.length).all (stateAt l) && decide (l.length ≤ 24)

theorem l27Setting_e_eq (l : List S80) (i : Int) {k : Nat} (hk : 20 ≤ k) : spec_l27Setting_e.f k l i = some (settingB (rd_T80 l i)) := by
  unfold spec_l27Setting_e.f settingB
  rw [l01Name_eq _ hk]; simp only [Option.bind_some, in_eq]
  by_cases h : nameB (rd_T80 l i).f0 = true
  · rw [if_pos h]; simp [h]
  · rw [if_neg h]; simp [h]
theorem Setting_valid_eq (x : S80) {k : Nat} (hk : 20 ≤ k) : impl_Setting_valid.f k x.f0 x.f1 = some (settingB x) := by
  unfold impl_Setting_valid.f settingB
  rw [IsName_eq _ hk]; simp only [Option.bind_some, within_eq]
  by_cases h : nameB x.f0 = true
  · rw [if_pos h]; simp [h]
  · rw [if_neg h]; simp [h]

theorem l27State_eq {l : List S80} (hl : l.length ≤ 1048576) {k : Nat} (hk : 1048600 ≤ k) : spec_l27State.f k l = some (stateB l) := by
  unfold spec_l27State.f stateB
  refine all_loop (fun k i => spec_l27State.l0 k l i) l.length (stateAt l) (decide (l.length ≤ 24)) 20 (fun k i hi hB => ?_) (fun k _ => ?_) k (by omega)
  · simp only [spec_l27State.l0]
    rw [if_pos (lt_cast hi), if_pos (nn_cast i), l27Setting_e_eq _ _ hB, wrap_succ hi (by omega)]
    simp only [Option.bind_some, stateAt]
    by_cases h : settingB (rd_T80 l (i : Int)) = true
    · rw [if_pos h]
      by_cases h0 : i = 0
      · rw [if_neg (by omega)]; simp only [h, decide_eq_true h0, Bool.true_or, Bool.and_self, if_true]
      · rw [if_pos (by omega), pred_cast (by omega) hi (by omega), if_pos (nn_cast _), if_pos (by omega)]
        simp [h, h0]
    · rw [if_neg h]; simp [h]
  · simp only [spec_l27State.l0]
    rw [if_neg (nlt_cast _)]
    congr 2
    exact propext (by omega)
theorem ValidState_eq {l : List S80} (hl : l.length ≤ 1048576) {k : Nat} (hk : 1048600 ≤ k) : impl_ValidState.f k l = some (stateB l) := by
  unfold impl_ValidState.f stateB
  by_cases h24 : (l.length : Int) > 24
  · rw [if_pos h24]
    have : ¬ l.length ≤ 24 := by omega
    simp [this]
  · rw [if_neg h24]
    have h24' : l.length ≤ 24 := by omega
    rw [decide_eq_true h24']
    refine all_loop (fun k i => impl_ValidState.l0 k l l (l.length : Int) i) l.length (stateAt l) true 20 (fun k i hi hB => ?_) (fun k _ => ?_) k (by omega)
    · simp only [impl_ValidState.l0]
      rw [if_pos (lt_cast hi), if_pos (nn_cast i), if_pos (lt_cast hi), Setting_valid_eq _ hB, wrap_succ hi (by omega)]
      simp only [Option.bind_some, stateAt]
      by_cases h : settingB (rd_T80 l (i : Int)) = true
      · rw [if_pos h]
        by_cases h0 : i = 0
        · rw [if_neg (by omega)]; simp only [h, decide_eq_true h0, Bool.true_or, Bool.and_self, if_true]
        · rw [if_pos (by omega), pred_cast (by omega) hi (by omega), if_pos (nn_cast _), if_pos (by omega)]
          simp [h, h0]
      · rw [if_neg h]; simp [h]
    · simp only [impl_ValidState.l0]
      rw [if_neg (nlt_cast _)]

theorem Ev.le {α : Type} {g : Nat → Option α} {r : α} (K : Nat) (h : ∀ k, K ≤ k → g k = some r) : Ev g r := ⟨K, h⟩
theorem Ev.yes {α : Type} {c : Nat → Option Bool} {f : Nat → Option α} {r : α} (h : Ev c true) (k : Ev f r) : Ev (fun n => if c n = some true then f n else none) r := by
  obtain ⟨K, hK⟩ := h
  obtain ⟨K', hK'⟩ := k
  exact ⟨max K K', fun n hn => by
    show (if c n = some true then f n else none) = some r
    rw [if_pos (hK n (by omega))]; exact hK' n (by omega)⟩
theorem Ev.pos {α : Type} {c : Prop} [Decidable c] {f g : Nat → Option α} {r : α} (h : c) (k : Ev f r) : Ev (fun n => if c then f n else g n) r := Ev.congr (fun _ => if_pos h) k
theorem Ev.neg {α : Type} {c : Prop} [Decidable c] {f g : Nat → Option α} {r : α} (h : ¬ c) (k : Ev g r) : Ev (fun n => if c then f n else g n) r := Ev.congr (fun _ => if_neg h) k
/-- A loop that marks each place of a list, element by element. -/
theorem mark_ev {α : Type} (L : Nat → List α → Int → Int → Option (Int × List α)) (g : α → Int → α) (c : α → Int) (M : Int) (hc : ∀ x, 0 ≤ c x) (P : α → Prop)
    (step : ∀ (pre : List α) (x : α) (rest : List α) (m : Int) (r : Int × List α), P x → pre.length + rest.length < 4611686018427387904 → 0 ≤ m → m + c x ≤ M → Ev (fun k => L k (pre ++ g x m :: rest) (m + c x) ((pre.length + 1 : Nat) : Int)) r → Ev (fun k => L k (pre ++ x :: rest) m (pre.length : Int)) r)
    (stop : ∀ (k : Nat) (l : List α) (m : Int), L (k + 1) l m (l.length : Int) = some (m, l)) (l : List α) (m : Int) (hp : ∀ x ∈ l, P x) (hl : l.length ≤ 4611686018427387904) (hm : 0 ≤ m) (hM : mtot c l m ≤ M) : Ev (fun k => L k l m 0) (mtot c l m, mkl g c l m) := by
  have main : ∀ (rest : List α) (pre : List α) (m : Int), (∀ x ∈ rest, P x) → pre.length + rest.length ≤ 4611686018427387904 → 0 ≤ m → mtot c rest m ≤ M → Ev (fun k => L k (pre ++ rest) m (pre.length : Int)) (mtot c rest m, pre ++ mkl g c rest m) := by
    intro rest
    induction rest with
    | nil =>
      intro pre m _ _ _ _
      refine Ev.step (f := fun _ => some (m, pre)) (fun k => ?_) ?_
      · rw [List.append_nil]; exact stop k pre m
      · simp only [mtot, mkl, List.append_nil]; exact Ev.now _
    | cons x rest ih =>
      intro pre m hp hl hm hM
      have h2 := mtot_ge hc rest (m + c x)
      have h3 := hc x
      simp only [mtot] at hM
      refine step pre x rest m _ (hp x List.mem_cons_self) (by simp at hl; omega) hm (by omega) ?_
      have := ih (pre ++ [g x m]) (m + c x) (fun y hy => hp y (List.mem_cons_of_mem _ hy)) (by simp at hl ⊢; omega) (by omega) hM
      simp only [List.append_assoc, List.singleton_append, List.length_append, List.length_singleton] at this
      simp only [mtot, mkl]
      exact this
  have := main l [] m hp (by simpa using hl) hm hM
  simpa using this

theorem rd_set27 {l : List S80} {i : Nat} (h : i < l.length) : rd_T80 l (i : Int) = l[i] := by simp [rd_T80, List.getD_eq_getElem?_getD, List.getElem?_eq_getElem h]
def at27 (nm : ByteArray) : Nat → List S80 → Int
  | _, [] => -1
  | n, x :: r => if x.f0.toList = nm.toList then (n : Int) else at27 nm (n + 1) r
theorem at27_ev {l : List S80} (hl : l.length ≤ 1048576) (nm : ByteArray) : Ev (fun k => spec_l27At.f k l nm) (at27 nm 0 l) := by
  unfold spec_l27At.f
  have main : ∀ (d i : Nat), i + d = l.length → Ev (fun k => spec_l27At.l0 k l nm (i : Int)) (at27 nm i (l.drop i)) := by
    intro d
    induction d with
    | zero =>
      intro i hi
      obtain rfl : i = l.length := by omega
      refine Ev.step (f := fun _ => some (-1)) (fun k => ?_) ?_
      · simp only [spec_l27At.l0]; rw [if_neg (nlt_cast _)]
      · rw [List.drop_length]; exact Ev.now _
    | succ d ih =>
      intro i hi
      have hlt : i < l.length := by omega
      rw [drop_cons hlt, at27]
      by_cases h1 : l[i].f0.toList = nm.toList
      · rw [if_pos h1]
        refine Ev.step (f := fun _ => some (i : Int)) (fun k => ?_) (Ev.now _)
        simp only [spec_l27At.l0]
        rw [if_pos (lt_cast hlt), if_pos (nn_cast i), rd_set27 hlt, if_pos h1]
      · rw [if_neg h1]
        refine Ev.step (fun k => ?_) (ih (i + 1) (by omega))
        simp only [spec_l27At.l0]
        rw [if_pos (lt_cast hlt), if_pos (nn_cast i), rd_set27 hlt, if_neg h1, wrap_succ hlt (by omega)]
  have := main l.length 0 (by omega)
  simpa using this
theorem State_spec_ev {l : List S80} (hl : l.length ≤ 1048576) : Ev (fun k => spec_l27State.f k l) (stateB l) := Ev.le 1048600 (fun k hk => l27State_eq hl hk)
theorem State_impl_ev {l : List S80} (hl : l.length ≤ 1048576) : Ev (fun k => impl_ValidState.f k l) (stateB l) := Ev.le 1048600 (fun k hk => ValidState_eq hl hk)
theorem state_len {l : List S80} (h : stateB l = true) : l.length ≤ 24 := by
  unfold stateB at h; simp only [Bool.and_eq_true, decide_eq_true_iff] at h; exact h.2
end Go.Proofs.Ytocegmkifmdlcaa.P

namespace Go.Proofs.Ytocegmkifmdlcaa.P
open Go.RowKit Go.Sort Go.Proofs.YtocegmkifmdlcaaW.PrintWords
set_option linter.unusedVariables false
set_option linter.unusedSimpArgs false
def ltB (a b : ByteArray) : Bool := Op.bytesLess a.toList b.toList
theorem bytesLess_eq' : ∀ (x y : List UInt8), Op.bytesLess x y = decide (x < y)
  | [], [] => by simp [Op.bytesLess]
  | _ :: _, [] => by simp [Op.bytesLess]
  | [], _ :: _ => by simp [Op.bytesLess]
  | a :: x, b :: y => by
    rw [Op.bytesLess, bytesLess_eq' x y]
    simp only [List.cons_lt_cons_iff]
    by_cases h1 : a < b <;> by_cases h2 : a = b <;> by_cases h3 : x < y <;> simp [h1, h2, h3]
theorem toList_data' (b : ByteArray) : b.toList = b.data.toList := by simp [ByteArray.toList_eq]
theorem ltB_iff {a b : ByteArray} : ltB a b = true ↔ a.data.toList < b.data.toList := by
  unfold ltB; rw [bytesLess_eq', toList_data', toList_data']; simp
theorem ba_ext {a b : ByteArray} : a.data.toList = b.data.toList ↔ a = b := by
  rw [← toList_data', ← toList_data']
  constructor
  · intro h
    have h2 : a.data.toList = b.data.toList := by rw [← toList_data', ← toList_data']; exact h
    have h3 : a.data = b.data := Array.ext' h2
    cases a; cases b; simp at h3; rw [h3]
  · intro h; rw [h]
theorem ltB_irrefl (a : ByteArray) : ¬ ltB a a = true := by rw [ltB_iff]; exact List.lt_irrefl _
theorem ltB_trans {a b c : ByteArray} (h : ltB a b = true) (h2 : ltB b c = true) : ltB a c = true := by rw [ltB_iff] at *; exact List.lt_trans h h2
theorem lt_of_le_ne {a b : List UInt8} (h : a ≤ b) (hne : a ≠ b) : a < b := Classical.byContradiction fun hn => hne (List.le_antisymm h (List.not_lt.1 hn))
theorem ltB_total {a b : ByteArray} (h : ¬ ltB a b = true) (hne : a ≠ b) : ltB b a = true := by
  rw [ltB_iff] at *
  rcases List.le_total a.data.toList b.data.toList with h1 | h1
  · exact absurd (lt_of_le_ne h1 (fun e => hne (ba_ext.1 e))) h
  · exact lt_of_le_ne h1 (fun e => hne (ba_ext.1 e).symm)
/-- Ascending, nothing twice. -/
def Asc (l : List ByteArray) : Prop := l.Pairwise fun a b => ltB a b = true
theorem toList_iff {a b : ByteArray} : a.toList = b.toList ↔ a = b := by rw [toList_data', toList_data']; exact ba_ext
end Go.Proofs.Ytocegmkifmdlcaa.P

namespace Go.Proofs.Ytocegmkifmdlcaa.P
open Go.RowKit Go.Proofs.YtocegmkifmdlcaaW.PrintWords Go.Proofs.YtocegmkifmdlcaaL
set_option linter.unusedVariables false
set_option linter.unusedSimpArgs false
def setG (n : ByteArray) (v : Int) : List S80 → Bool → List S80
  | [], d => if d = true then [] else [⟨n, v⟩]
  | y :: r, d => (if (!d && !ltB y.f0 n) = true then [⟨n, v⟩] else []) ++ ((if y.f0.toList = n.toList then [] else [y]) ++ setG n v r (d || !ltB y.f0 n))
theorem set_main {l : List S80} (hl : l.length ≤ 1048576) (n : ByteArray) (v : Int) : ∀ (e i : Nat) (out : List S80) (d : Bool), i + e = l.length → out.length ≤ 2 * i → Ev (fun k => spec_l27Set.l0 k l out d (i : Int) n v) (out ++ setG n v (l.drop i) d) := by
  intro e
  induction e with
  | zero =>
    intro i out d hi ho
    obtain rfl : i = l.length := by omega
    rw [List.drop_length]
    cases d with
    | true => exact Ev.step (f := fun _ => some out) (fun k => by simp only [spec_l27Set.l0]; rw [if_neg (nlt_cast _), if_pos trivial]) (by simp only [setG, if_true, List.append_nil]; exact Ev.now _)
    | false => exact Ev.step (f := fun _ => some (out ++ [(⟨n, v⟩ : S80)])) (fun k => by simp only [spec_l27Set.l0]; rw [if_neg (nlt_cast _), if_neg (by decide), if_pos (by omega)]) (by simp only [setG, Bool.false_eq_true, if_false]; exact Ev.now _)
  | succ e ih =>
    intro i out d hi ho
    have hlt : i < l.length := by omega
    have hw := wrap_succ hlt (by omega)
    rw [drop_cons hlt, setG]
    have j1f : ∀ d', Ev (fun k => spec_l27Set.j1 k l out d' (i : Int) false n v) (out ++ ((if l[i].f0.toList = n.toList then [] else [l[i]]) ++ setG n v (l.drop (i + 1)) d')) := by
      intro d'
      by_cases he : l[i].f0.toList = n.toList
      · rw [if_pos he, List.nil_append]
        refine Ev.step (fun k => ?_) (ih (i + 1) out d' (by omega) (by omega))
        simp only [spec_l27Set.j1]
        rw [if_neg (by decide), if_pos (nn_cast i), if_pos (lt_cast hlt), rd_set27 hlt, if_pos he, hw]
      · rw [if_neg he]
        have := ih (i + 1) (out ++ [l[i]]) d' (by omega) (by simp; omega)
        rw [List.append_assoc] at this
        refine Ev.step (fun k => ?_) this
        simp only [spec_l27Set.j1]
        rw [if_neg (by decide), if_pos (nn_cast i), if_pos (lt_cast hlt), rd_set27 hlt, if_neg he, if_pos (by omega), hw]
    cases d with
    | true =>
      refine Ev.step (f := fun k => spec_l27Set.j1 k l out true (i : Int) false n v) (fun k => by simp only [spec_l27Set.l0]; rw [if_pos (lt_cast hlt), if_pos trivial]) ?_
      simpa using j1f true
    | false =>
      refine Ev.step (f := fun k => spec_l27Set.j1 k l out false (i : Int) (!(ltB l[i].f0 n)) n v) (fun k => by simp only [spec_l27Set.l0]; rw [if_pos (lt_cast hlt), if_neg (by decide), if_pos (nn_cast i), rd_set27 hlt]; rfl) ?_
      cases hb : ltB l[i].f0 n with
      | true => simpa using j1f false
      | false =>
        show Ev (fun k => spec_l27Set.j1 k l out false (i : Int) true n v) (out ++ ([⟨n, v⟩] ++ ((if l[i].f0.toList = n.toList then [] else [l[i]]) ++ setG n v (l.drop (i + 1)) true)))
        rw [← List.append_assoc]
        by_cases he : l[i].f0.toList = n.toList
        · rw [if_pos he, List.nil_append]
          refine Ev.step (fun k => ?_) (ih (i + 1) (out ++ [⟨n, v⟩]) true (by omega) (by simp; omega))
          simp only [spec_l27Set.j1]
          rw [if_pos trivial, if_pos (by omega), Option.bind_some, if_pos (nn_cast i), if_pos (lt_cast hlt), rd_set27 hlt, if_pos he, hw]
        · rw [if_neg he]
          have := ih (i + 1) (out ++ [⟨n, v⟩] ++ [l[i]]) true (by omega) (by simp; omega)
          rw [List.append_assoc (out ++ [(⟨n, v⟩ : S80)]) [l[i]]] at this
          refine Ev.step (fun k => ?_) this
          simp only [spec_l27Set.j1]
          rw [if_pos trivial, if_pos (by omega), Option.bind_some, if_pos (nn_cast i), if_pos (lt_cast hlt), rd_set27 hlt, if_neg he, if_pos (by simp; omega), hw]
theorem set_ev {l : List S80} (hl : l.length ≤ 1048576) (n : ByteArray) (v : Int) : Ev (fun k => spec_l27Set.f k l n v) (setG n v l false) := by
  have := set_main hl n v l.length 0 [] false (by omega) (by simp)
  rw [List.nil_append, List.drop_zero] at this
  exact this

def cmpS (a b : ByteArray) : Int := if Op.bytesLess a.toList b.toList = true then -1 else if Op.bytesLess b.toList a.toList = true then 1 else 0
theorem Compare_string_eq (a b : ByteArray) : cmp_Compare_string.f a b = some (cmpS a b) := by
  unfold cmp_Compare_string.f cmp_isNaN_string.f cmpS
  simp only [bne_self_eq_false, Option.bind_some]
  simp only [Bool.false_eq_true, if_false]
  split
  · rfl
  · split <;> rfl
theorem less_irrefl (a : List UInt8) : Op.bytesLess a a = false := by
  induction a with
  | nil => rfl
  | cons x r ih => simp [Op.bytesLess, ih]

theorem Ev.from {α : Type} {g f : Nat → Option α} {r : α} (c K0 : Nat) (h : ∀ k, K0 ≤ k → g (k + c) = f k) (hf : Ev f r) : Ev g r := by
  obtain ⟨K, hK⟩ := hf
  refine ⟨max K K0 + c, fun n hn => ?_⟩
  obtain ⟨m, rfl⟩ : ∃ m, n = m + c := ⟨n - c, by omega⟩
  show g (m + c) = some r
  rw [h m (by omega)]; exact hK m (by omega)
theorem rd_chg {l : List S82} {i : Nat} (h : i < l.length) : rd_T82 l (i : Int) = l[i] := by simp [rd_T82, List.getD_eq_getElem?_getD, List.getElem?_eq_getElem h]
def changeB (x : S82) : Bool := (decide (1 ≤ x.f0) && decide (x.f0 ≤ 2)) && settingB x.f1
theorem l27Change_e_eq {l : List S82} {i : Nat} (hi : i < l.length) {k : Nat} (hk : 20 ≤ k) : spec_l27Change_e.f k l (i : Int) = some (changeB l[i]) := by
  unfold spec_l27Change_e.f changeB
  rw [rd_chg hi, in_eq, Option.bind_some, l27Setting_e_eq _ _ hk, show rd_T80 [l[i].f1] 0 = l[i].f1 from rfl]
  by_cases h : (decide (1 ≤ l[i].f0) && decide (l[i].f0 ≤ 2)) = true
  · rw [if_pos h, h, Bool.true_and]
  · rw [if_neg h]; rw [Bool.not_eq_true] at h; rw [h, Bool.false_and]
theorem wrong_eq (x : S82) {k : Nat} (hk : 20 ≤ k) : impl_ApplyChanges_1.f k x.f0 x.f1.f0 x.f1.f1 = some (!changeB x) := by
  unfold impl_ApplyChanges_1.f changeB
  rw [Setting_valid_eq x.f1 hk, Option.bind_some]
  by_cases h1 : x.f0 = 1
  · rw [if_pos h1, h1]; rfl
  · rw [if_neg h1]
    by_cases h2 : x.f0 = 2
    · rw [if_pos h2, h2]; rfl
    · rw [if_neg h2, show (decide (1 ≤ x.f0) && decide (x.f0 ≤ 2)) = false by
        rw [Bool.and_eq_false_iff, decide_eq_false_iff_not, decide_eq_false_iff_not]; omega]; rfl
theorem ContainsC_ev (l : List S82) : Ev (fun k => slices_ContainsFunc_S_impl_Change.f k l 0) (!(l.all changeB)) := Ev.le 20 fun k hk => by
  unfold slices_ContainsFunc_S_impl_Change.f
  rw [if_pos rfl, anyO_some (q := fun x => !changeB x) (fun x _ => wrong_eq x hk)]
  congr 1
  induction l with
  | nil => rfl
  | cons x r ih => rw [List.any_cons, List.all_cons, ih, Bool.not_and]
/-- The reference asks each change. -/
theorem ask_all {l : List S80} (hl : l.length ≤ 24) {cs : List S82} (hc : cs.length ≤ 1048576) (ha : cs.all changeB = true) {r : List S80 × Int} (L : Ev (fun k => spec_ApplyChanges.l1 k cs l 0) r) : Ev (fun k => spec_ApplyChanges.l0 k l cs 0) r := by
  have main : ∀ (d i : Nat), i + d = cs.length → Ev (fun k => spec_ApplyChanges.l0 k l cs (i : Int)) r := by
    intro d
    induction d with
    | zero =>
      intro i hi
      obtain rfl : i = cs.length := by omega
      refine Ev.step (fun k => ?_) L
      simp only [spec_ApplyChanges.l0]; rw [if_neg (nlt_cast _)]
      simp only [Option.bind_some, List.nil_append, List.length_nil, Nat.zero_add]
      rw [if_pos (by omega)]
    | succ d ih =>
      intro i hi
      have hlt : i < cs.length := by omega
      have hb : changeB cs[i] = true := List.all_eq_true.1 ha _ (List.getElem_mem hlt)
      refine Ev.from 1 20 (fun k hk => ?_) (ih (i + 1) (by omega))
      simp only [spec_ApplyChanges.l0]
      rw [if_pos (lt_cast hlt), if_pos (nn_cast i), l27Change_e_eq hlt hk, hb, Option.bind_some, if_pos rfl, wrap_succ hlt (by omega)]
  exact main cs.length 0 (by omega)
theorem ask_not {l : List S80} {cs : List S82} (hc : cs.length ≤ 1048576) (ha : cs.all changeB = false) : Ev (fun k => spec_ApplyChanges.l0 k l cs 0) (([] : List S80), (1 : Int)) := by
  have main : ∀ (d i : Nat), i + d = cs.length → (cs.drop i).all changeB = false → Ev (fun k => spec_ApplyChanges.l0 k l cs (i : Int)) (([] : List S80), (1 : Int)) := by
    intro d
    induction d with
    | zero =>
      intro i hi h
      obtain rfl : i = cs.length := by omega
      rw [List.drop_length] at h; cases h
    | succ d ih =>
      intro i hi h
      have hlt : i < cs.length := by omega
      rw [drop_cons hlt, List.all_cons] at h
      cases hb : changeB cs[i] with
      | true =>
        rw [hb, Bool.true_and] at h
        refine Ev.from 1 20 (fun k hk => ?_) (ih (i + 1) (by omega) h)
        simp only [spec_ApplyChanges.l0]
        rw [if_pos (lt_cast hlt), if_pos (nn_cast i), l27Change_e_eq hlt hk, hb, Option.bind_some, if_pos rfl, wrap_succ hlt (by omega)]
      | false =>
        refine Ev.from 1 20 (fun k hk => ?_) (Ev.now _)
        simp only [spec_ApplyChanges.l0]
        rw [if_pos (lt_cast hlt), if_pos (nn_cast i), l27Change_e_eq hlt hk, hb, Option.bind_some, if_neg (by decide)]
  exact main cs.length 0 (by omega) ha
/-- A state in order, at a name. -/
theorem split27 (n : ByteArray) : ∀ {l : List S80}, Asc (l.map (·.f0)) → ∃ a b, l = a ++ b ∧ (∀ x ∈ a, ltB x.f0 n = true) ∧ ((∃ y c, b = y :: c ∧ y.f0 = n ∧ ∀ z ∈ c, ltB n z.f0 = true) ∨ ∀ z ∈ b, ltB n z.f0 = true)
  | [], _ => ⟨[], [], rfl, by simp, .inr (by simp)⟩
  | y :: r, h => by
    obtain ⟨h1, h2⟩ := List.pairwise_cons.1 h
    have h1' : ∀ z ∈ r, ltB y.f0 z.f0 = true := fun z hz => h1 z.f0 (List.mem_map.2 ⟨z, hz, rfl⟩)
    by_cases hy : ltB y.f0 n = true
    · obtain ⟨a, b, e, ha, hb⟩ := split27 n h2
      refine ⟨y :: a, b, by rw [e]; rfl, fun x hx => ?_, hb⟩
      rcases List.mem_cons.1 hx with rfl | hx
      · exact hy
      · exact ha x hx
    · by_cases he : y.f0 = n
      · exact ⟨[], y :: r, rfl, by simp, .inl ⟨y, r, rfl, he, fun z hz => by rw [← he]; exact h1' z hz⟩⟩
      · have hn := ltB_total hy he
        refine ⟨[], y :: r, rfl, by simp, .inr fun z hz => ?_⟩
        rcases List.mem_cons.1 hz with rfl | hz
        · exact hn
        · exact ltB_trans hn (h1' z hz)
theorem ne_lt {x : S80} {n : ByteArray} (h : ltB x.f0 n = true) : ¬ x.f0.toList = n.toList := fun e => by rw [toList_iff.1 e] at h; exact ltB_irrefl n h
theorem ne_gt {x : S80} {n : ByteArray} (h : ltB n x.f0 = true) : ¬ x.f0.toList = n.toList := fun e => by rw [toList_iff.1 e] at h; exact ltB_irrefl n h
theorem setG_ahead (n : ByteArray) (v : Int) : ∀ (a b : List S80), (∀ x ∈ a, ltB x.f0 n = true) → setG n v (a ++ b) false = a ++ setG n v b false
  | [], _, _ => rfl
  | x :: r, b, h => by
    have hx := h x List.mem_cons_self
    rw [List.cons_append, setG, hx, if_neg (ne_lt hx)]
    show [] ++ ([x] ++ setG n v (r ++ b) false) = _
    rw [setG_ahead n v r b (fun y hy => h y (List.mem_cons_of_mem _ hy))]; rfl
theorem setG_past (n : ByteArray) (v : Int) : ∀ (c : List S80), (∀ x ∈ c, ltB n x.f0 = true) → setG n v c true = c
  | [], _ => rfl
  | x :: r, h => by
    rw [setG, if_neg (ne_gt (h x List.mem_cons_self))]
    show [] ++ ([x] ++ setG n v r true) = _
    rw [setG_past n v r (fun y hy => h y (List.mem_cons_of_mem _ hy))]; rfl
theorem setG_found {n : ByteArray} (v : Int) {a c : List S80} {y : S80} (ha : ∀ x ∈ a, ltB x.f0 n = true) (hy : y.f0 = n) (hc : ∀ z ∈ c, ltB n z.f0 = true) : setG n v (a ++ y :: c) false = a ++ ⟨n, v⟩ :: c := by
  have h0 : ltB y.f0 n = false := by rw [hy]; exact Bool.eq_false_iff.2 (ltB_irrefl n)
  rw [setG_ahead n v _ _ ha, setG, h0, if_pos (toList_iff.2 hy)]
  show a ++ ([⟨n, v⟩] ++ ([] ++ setG n v c true)) = _
  rw [setG_past n v c hc]; rfl
theorem not_lt_of {n m : ByteArray} (h : ltB n m = true) : ltB m n = false := Bool.eq_false_iff.2 (fun h2 => ltB_irrefl n (ltB_trans h h2))
theorem setG_new {n : ByteArray} (v : Int) {a b : List S80} (ha : ∀ x ∈ a, ltB x.f0 n = true) (hb : ∀ z ∈ b, ltB n z.f0 = true) : setG n v (a ++ b) false = a ++ ⟨n, v⟩ :: b := by
  rw [setG_ahead n v _ _ ha]
  cases b with
  | nil => rfl
  | cons z r =>
    have hz := hb z List.mem_cons_self
    rw [setG, not_lt_of hz, if_neg (ne_gt hz)]
    show a ++ ([⟨n, v⟩] ++ ([z] ++ setG n v r true)) = _
    rw [setG_past n v r (fun y hy => hb y (List.mem_cons_of_mem _ hy))]; rfl
theorem at27_ahead (n : ByteArray) : ∀ (a b : List S80) (i : Nat), (∀ x ∈ a, ltB x.f0 n = true) → at27 n i (a ++ b) = at27 n (i + a.length) b
  | [], _, _, _ => rfl
  | x :: r, b, i, h => by
    rw [List.cons_append, at27, if_neg (ne_lt (h x List.mem_cons_self)), at27_ahead n r b (i + 1) (fun y hy => h y (List.mem_cons_of_mem _ hy)), List.length_cons]
    congr 1; omega
theorem at27_none (n : ByteArray) : ∀ (b : List S80) (i : Nat), (∀ x ∈ b, ltB n x.f0 = true) → at27 n i b = -1
  | [], _, _ => rfl
  | x :: r, i, h => by
    rw [at27, if_neg (ne_gt (h x List.mem_cons_self)), at27_none n r (i + 1) (fun y hy => h y (List.mem_cons_of_mem _ hy))]
/-- The program halves. -/
theorem half_w {a b : Nat} (h : a + b ≤ 3000) : wrap64 ((IntKind.u64.wrap (wrap64 ((a : Int) + (b : Int)))) / 2) = (((a + b) / 2 : Nat) : Int) := by
  rw [wrap_id (x := (a : Int) + (b : Int)) (by omega) (by omega), IntKind.wrap_u64, wrap_id (by omega) (by omega)]; omega
theorem compareS_eq (x : ByteArray) (v : Int) (y : ByteArray) (u : Int) : impl_compareSettings.f x v y u = some (cmpS x y) := by
  unfold impl_compareSettings.f
  rw [Compare_string_eq]; rfl
theorem cmpS_neg (x y : ByteArray) : cmpS x y < 0 ↔ ltB x y = true := by
  unfold cmpS ltB
  by_cases h : Op.bytesLess x.toList y.toList = true
  · rw [if_pos h, h]; decide
  · rw [if_neg h]
    constructor
    · intro h2; split at h2 <;> omega
    · intro h2; exact absurd h2 h
theorem SearchS_l0 {l : List S80} (hl : l.length ≤ 1000) (n : ByteArray) (v : Int) {p : Nat} (h2 : ∀ j (h : j < l.length), j < p → ltB l[j].f0 n = true) (h3 : ∀ j (h : j < l.length), p ≤ j → ltB l[j].f0 n = false) {fl : Bool} (hf : ∀ h : p < l.length, (cmpS l[p].f0 n == 0) = fl) (hg : ¬ p < l.length → fl = false) : ∀ (m a b K : Nat), b - a ≤ m → a ≤ p → p ≤ b → b ≤ l.length → m + 20 ≤ K → slices_BinarySearchFunc_S_impl_Setting.l0 K l (l.length : Int) (a : Int) (b : Int) n v = some ((p : Int), fl) := by
  intro m
  induction m with
  | zero =>
    intro a b K hm ha hb hbl hK
    obtain ⟨K, rfl⟩ : ∃ q, K = q + 1 := ⟨K - 1, by omega⟩
    obtain rfl : a = p := by omega
    simp only [slices_BinarySearchFunc_S_impl_Setting.l0]
    rw [if_neg (by omega)]
    by_cases hlt : a < l.length
    · rw [if_pos (by omega), if_pos (nn_cast _), if_pos (by omega), compareS_eq, rd_set27 hlt, Option.bind_some, hf hlt]
    · rw [if_neg (by omega), hg hlt]
  | succ m ih =>
    intro a b K hm ha hb hbl hK
    by_cases hab : a < b
    rotate_left
    · exact ih a b K (by omega) ha hb hbl (by omega)
    obtain ⟨K, rfl⟩ : ∃ q, K = q + 1 := ⟨K - 1, by omega⟩
    have hh := half_w (a := a) (b := b) (by omega)
    have hml : (a + b) / 2 < l.length := by omega
    simp only [slices_BinarySearchFunc_S_impl_Setting.l0]
    rw [if_pos (by omega), hh, if_pos (nn_cast _), if_pos (by omega), compareS_eq, rd_set27 hml, Option.bind_some]
    by_cases hc : cmpS l[(a + b) / 2].f0 n < 0
    · rw [if_pos hc, wrap_id (x := (((a + b) / 2 : Nat) : Int) + 1) (by omega) (by omega)]
      have hp : (a + b) / 2 < p := by
        rcases Nat.lt_or_ge ((a + b) / 2) p with q | q
        · exact q
        · have h4 := h3 _ hml q
          rw [(cmpS_neg _ _).1 hc] at h4; cases h4
      exact ih ((a + b) / 2 + 1) b K (by omega) (by omega) hb hbl (by omega)
    · rw [if_neg hc]
      have hp : p ≤ (a + b) / 2 := by
        rcases Nat.lt_or_ge ((a + b) / 2) p with q | q
        · exact absurd ((cmpS_neg _ _).2 (h2 _ hml q)) hc
        · exact q
      exact ih a ((a + b) / 2) K (by omega) ha hp (by omega) (by omega)
theorem SearchS_eq {l a b : List S80} (hl : l.length ≤ 1000) (n : ByteArray) (v : Int) (e : l = a ++ b) (ha : ∀ x ∈ a, ltB x.f0 n = true) (hb : ∀ z ∈ b, ltB z.f0 n = false) {fl : Bool} (hf : ∀ y c, b = y :: c → (cmpS y.f0 n == 0) = fl) (hg : b = [] → fl = false) {K : Nat} (hK : 2000 ≤ K) : slices_BinarySearchFunc_S_impl_Setting.f K l n v 0 = some ((a.length : Int), fl) := by
  subst e
  have hlen : (a ++ b).length = a.length + b.length := List.length_append
  refine SearchS_l0 hl n v (fun j h hj => ?_) (fun j h hj => ?_) (fun h => ?_) (fun h => ?_) (a ++ b).length 0 (a ++ b).length K (by omega) (by omega) (by omega) (by omega) (by omega)
  · rw [List.getElem_append_left hj]; exact ha _ (List.getElem_mem _)
  · rw [List.getElem_append_right hj]; exact hb _ (List.getElem_mem _)
  · cases b with
    | nil => rw [List.append_nil] at h; omega
    | cons y c =>
      have : (a ++ y :: c)[a.length] = y := by rw [List.getElem_append_right (Nat.le_refl _)]; simp
      rw [this]; exact hf y c rfl
  · exact hg (List.eq_nil_of_length_eq_zero (by omega))
theorem InsS_eq {a b : List S80} (hl : (a ++ b).length ≤ 1000) (x : S80) : slices_Insert_S_impl_Setting.f (a ++ b) (a.length : Int) [x] = some (a ++ x :: b) := by
  have hlen : (a ++ b).length = a.length + b.length := List.length_append
  unfold slices_Insert_S_impl_Setting.f
  rw [if_pos ⟨⟨rfl, by omega⟩, by omega, by omega⟩, Int.toNat_natCast, List.take_left' rfl, List.drop_left' rfl, List.append_assoc]; rfl
theorem DelS_eq {a c : List S80} {y : S80} (hl : (a ++ y :: c).length ≤ 1000) : slices_Delete_S_impl_Setting.f (a ++ y :: c) (a.length : Int) ((a.length : Int) + 1) = some (a ++ c) := by
  have hlen : (a ++ y :: c).length = a.length + (c.length + 1) := by rw [List.length_append, List.length_cons]
  unfold slices_Delete_S_impl_Setting.f
  rw [if_pos ⟨⟨rfl, by omega⟩, by omega, by omega⟩, Int.toNat_natCast, List.take_left' rfl, show a.length + 1 = (a ++ [y]).length by simp, show a ++ y :: c = (a ++ [y]) ++ c by simp, List.drop_left' rfl]
theorem apply_loop {cs : List S82} (hc : cs.length ≤ 1048576) : ∀ (d i : Nat) (o : List S80), i + d = cs.length → o.length ≤ 24 → Asc (o.map (·.f0)) → ∃ v c, v.length ≤ 1048576 ∧ Ev (fun k => spec_ApplyChanges.l1 k cs o (i : Int)) (v, c) ∧ Ev (fun k => impl_ApplyChanges.l0 k o cs (cs.length : Int) (i : Int)) (v, c) := by
  intro d
  induction d with
  | zero =>
    intro i o hi ho _
    refine ⟨o, 0, by omega, Ev.from 1 0 (fun k _ => ?_) (Ev.now _), Ev.from 1 0 (fun k _ => ?_) (Ev.now _)⟩
    · simp only [spec_ApplyChanges.l1]; rw [if_neg (by omega)]
    · simp only [impl_ApplyChanges.l0]; rw [if_neg (by omega)]
  | succ d ih =>
    intro i o hi ho hs
    have hlt : i < cs.length := by omega
    have hw := wrap_succ hlt (by omega)
    obtain ⟨x, hx⟩ : ∃ x, x = cs[i] := ⟨_, rfl⟩
    have hr : rd_T82 cs (i : Int) = x := by rw [rd_chg hlt, hx]
    obtain ⟨KS, hKS⟩ := set_ev (l := o) (by omega) x.f1.f0 x.f1.f1
    obtain ⟨KA, hKA⟩ := at27_ev (l := o) (by omega) x.f1.f0
    -- the reference's round
    have st : ∀ k, max KS KA ≤ k → spec_ApplyChanges.l1 (k + 1) cs o (i : Int) = (if x.f0 = 1 then (if ((setG x.f1.f0 x.f1.f1 o false).length : Int) > 24 then some ([], 5) else spec_ApplyChanges.l1 k cs (setG x.f1.f0 x.f1.f1 o false) ((i + 1 : Nat) : Int)) else (if at27 x.f1.f0 0 o < 0 then some ([], 3) else (if 0 ≤ at27 x.f1.f0 0 o then (if at27 x.f1.f0 0 o < (o.length : Int) then (if (!((rd_T80 o (at27 x.f1.f0 0 o)).f0.toList == x.f1.f0.toList) || (!((rd_T80 o (at27 x.f1.f0 0 o)).f1 == x.f1.f1))) = true then some ([], 6) else (if at27 x.f1.f0 0 o ≤ (o.length : Int) then (if 0 ≤ wrap64 (at27 x.f1.f0 0 o + 1) then (if wrap64 (at27 x.f1.f0 0 o + 1) ≤ (o.length : Int) then spec_ApplyChanges.l1 k cs (o.take (at27 x.f1.f0 0 o).toNat ++ o.drop (wrap64 (at27 x.f1.f0 0 o + 1)).toNat) ((i + 1 : Nat) : Int) else none) else none) else none)) else none) else none))) := by
      intro k hk
      have e1 : spec_l27Set.f k o x.f1.f0 x.f1.f1 = some (setG x.f1.f0 x.f1.f1 o false) := hKS k (by omega)
      have e2 : spec_l27At.f k o x.f1.f0 = some (at27 x.f1.f0 0 o) := hKA k (by omega)
      simp only [spec_ApplyChanges.l1]
      rw [if_pos (lt_cast hlt), if_pos (nn_cast i), hr, hw, e1, e2, Option.bind_some, Option.bind_some]
      by_cases h1 : x.f0 = 1
      · rw [if_pos h1, if_pos h1]
      · rw [if_neg h1, if_neg h1]
        generalize at27 x.f1.f0 0 o = t
        have z1 : (o.take t.toNat).length ≤ 24 := by rw [List.length_take]; omega
        have z2 : (o.drop (wrap64 (t + 1)).toNat).length ≤ 24 := by rw [List.length_drop]; omega
        simp only [Option.bind_some, List.nil_append, List.length_nil, Nat.zero_add]
        rw [if_pos (show (o.take t.toNat).length < 5864062014805 by omega), if_pos (show (o.take t.toNat).length + (o.drop (wrap64 (t + 1)).toNat).length < 5864062014805 by omega)]
    -- the program's round
    have su : ∀ k (p : Int) (fl : Bool), slices_BinarySearchFunc_S_impl_Setting.f (k + 2) o x.f1.f0 x.f1.f1 0 = some (p, fl) → impl_ApplyChanges.l0 (k + 3) o cs (cs.length : Int) (i : Int) = (if x.f0 = 1 then (if fl = true then impl_ApplyChanges.j2 (k + 2) o p fl cs (cs.length : Int) (i : Int) true x.f0 x.f1.f0 x.f1.f1 else (if ((o.length : Int) == 24) = true then some ([], 5) else (slices_Insert_S_impl_Setting.f o p [(⟨x.f1.f0, x.f1.f1⟩ : S80)]).bind fun t => impl_ApplyChanges.l0 k t cs (cs.length : Int) ((i + 1 : Nat) : Int))) else (if fl = true then (if 0 ≤ p then (if p < (o.length : Int) then (if (!((rd_T80 o p).f0.toList == x.f1.f0.toList) || (!((rd_T80 o p).f1 == x.f1.f1))) = true then some ([], 6) else (slices_Delete_S_impl_Setting.f o p (wrap64 (p + 1))).bind fun t => impl_ApplyChanges.l0 k t cs (cs.length : Int) ((i + 1 : Nat) : Int)) else none) else none) else some ([], 3))) := by
      intro k p fl hS
      simp only [impl_ApplyChanges.l0]
      rw [if_pos (lt_cast hlt), if_pos (nn_cast i), if_pos (lt_cast hlt), hr, hS, Option.bind_some]
      by_cases h1 : x.f0 = 1
      · rw [if_pos h1, if_pos h1]
        cases fl with
        | true => rw [if_pos rfl]
        | false =>
          rw [if_neg (by decide)]
          simp only [impl_ApplyChanges.j2]
          rw [if_neg (by decide), if_pos h1]
          simp only [impl_ApplyChanges.j3]
          rw [if_pos h1, hw]
      · rw [if_neg h1, if_neg h1]
        simp only [impl_ApplyChanges.j2]
        rw [if_neg (by decide), if_neg h1]
        simp only [impl_ApplyChanges.j3]
        rw [if_neg (by decide), if_neg h1, hw]
    have sv : ∀ k (p : Int) (fl : Bool), impl_ApplyChanges.j2 (k + 1) o p fl cs (cs.length : Int) (i : Int) true x.f0 x.f1.f0 x.f1.f1 = (if 0 ≤ p then (if p < (o.length : Int) then impl_ApplyChanges.l0 k (o.set p.toNat ⟨x.f1.f0, x.f1.f1⟩) cs (cs.length : Int) ((i + 1 : Nat) : Int) else none) else none) := by
      intro k p fl
      simp only [impl_ApplyChanges.j2]
      rw [if_pos trivial, hw]
    obtain ⟨a, b, e, ha, hb⟩ := split27 x.f1.f0 hs
    have hs' := hs
    rw [e, List.map_append] at hs'
    obtain ⟨q1, q2, q3⟩ := List.pairwise_append.1 hs'
    have hlen : o.length = a.length + b.length := by rw [e, List.length_append]
    rcases hb with ⟨y, c, rfl, hy, hcc⟩ | hb
    · -- the name is there
      have hS : ∀ k, 2000 ≤ k → slices_BinarySearchFunc_S_impl_Setting.f k o x.f1.f0 x.f1.f1 0 = some ((a.length : Int), true) := fun k hk => SearchS_eq (by omega) _ _ e ha (fun z hz => by
          rcases List.mem_cons.1 hz with rfl | hz
          · rw [hy]; exact Bool.eq_false_iff.2 (ltB_irrefl _)
          · exact not_lt_of (hcc z hz)) (fun y' c' e' => by
          obtain ⟨rfl, _⟩ := List.cons.inj e'
          rw [hy]
          have hn : Op.bytesLess x.f1.f0.toList x.f1.f0.toList = false := less_irrefl _
          unfold cmpS; rw [hn]; rfl) (fun e' => by cases e') hk
      have hlc : (y :: c).length = c.length + 1 := rfl
      have hat : at27 x.f1.f0 0 o = (a.length : Int) := by
        rw [e, at27_ahead _ _ _ _ ha, at27, if_pos (toList_iff.2 hy), Nat.zero_add]
      have hry : rd_T80 o (a.length : Int) = y := by
        rw [rd_set27 (by omega)]
        simp only [e]
        rw [List.getElem_append_right (Nat.le_refl _)]; simp
      by_cases h1 : x.f0 = 1
      · have hset : setG x.f1.f0 x.f1.f1 o false = a ++ ⟨x.f1.f0, x.f1.f1⟩ :: c := by rw [e]; exact setG_found _ ha hy hcc
        have hset2 : o.set a.length ⟨x.f1.f0, x.f1.f1⟩ = a ++ ⟨x.f1.f0, x.f1.f1⟩ :: c := by
          rw [e, List.set_append_right _ _ (Nat.le_refl _), Nat.sub_self]; rfl
        have hl2 : (a ++ (⟨x.f1.f0, x.f1.f1⟩ : S80) :: c).length = o.length := by rw [List.length_append, List.length_cons]; omega
        obtain ⟨v, w, hv, k1, k2⟩ := ih (i + 1) (a ++ ⟨x.f1.f0, x.f1.f1⟩ :: c) (by omega) (by omega) (by
          rw [e] at hs
          rw [List.map_append, List.map_cons] at hs ⊢
          rw [hy] at hs
          exact hs)
        refine ⟨v, w, hv, Ev.from 1 (max KS KA) (fun k hk => ?_) k1, Ev.from 2 2000 (fun k hk => ?_) k2⟩
        · rw [st k hk, if_pos h1, hset, if_neg (by omega)]
        · obtain ⟨k, rfl⟩ : ∃ q, k = q + 1 := ⟨k - 1, by omega⟩
          rw [su k _ _ (hS (k + 2) (by omega)), if_pos h1, if_pos rfl, sv (k + 1), if_pos (by omega), if_pos (by omega), Int.toNat_natCast, hset2]
      · by_cases h6 : (!(y.f0.toList == x.f1.f0.toList) || (!(y.f1 == x.f1.f1))) = true
        · refine ⟨[], 6, by simp, Ev.from 1 (max KS KA) (fun k hk => ?_) (Ev.now _), Ev.from 3 2000 (fun k hk => ?_) (Ev.now _)⟩
          · rw [st k hk, if_neg h1, hat, if_neg (by omega), if_pos (by omega), if_pos (by omega), hry, if_pos h6]
          · rw [su k _ _ (hS (k + 2) (by omega)), if_neg h1, if_pos rfl, if_pos (by omega), if_pos (by omega), hry, if_pos h6]
        · have hwp : wrap64 ((a.length : Int) + 1) = (a.length : Int) + 1 := wrap_id (by omega) (by omega)
          have hl2 : (a ++ c).length ≤ 24 := by rw [List.length_append]; omega
          obtain ⟨v, w, hv, k1, k2⟩ := ih (i + 1) (a ++ c) (by omega) hl2 (by
            rw [List.map_append]
            refine List.pairwise_append.2 ⟨q1, (List.pairwise_cons.1 q2).2, fun u hu z hz => q3 u hu z (List.mem_cons_of_mem _ hz)⟩)
          refine ⟨v, w, hv, Ev.from 1 (max KS KA) (fun k hk => ?_) k1, Ev.from 3 2000 (fun k hk => ?_) k2⟩
          · rw [st k hk, if_neg h1, hat, if_neg (by omega), if_pos (by omega), if_pos (by omega), hry, if_neg h6, hwp, if_pos (by omega), if_pos (by omega), if_pos (by omega), Int.toNat_natCast, show ((a.length : Int) + 1).toNat = (a ++ [y]).length by simp]
            have e3 : o.take a.length = a := by rw [e]; exact List.take_left' rfl
            have e4 : o.drop (a ++ [y]).length = c := by rw [e, show a ++ y :: c = (a ++ [y]) ++ c by simp]; exact List.drop_left' rfl
            rw [e3, e4]
          · rw [su k _ _ (hS (k + 2) (by omega)), if_neg h1, if_pos rfl, if_pos (by omega), if_pos (by omega), hry, if_neg h6, hwp, e, DelS_eq (by rw [← e]; omega), Option.bind_some]
    · -- it is not
      have hS : ∀ k, 2000 ≤ k → slices_BinarySearchFunc_S_impl_Setting.f k o x.f1.f0 x.f1.f1 0 = some ((a.length : Int), false) := fun k hk => SearchS_eq (by omega) _ _ e ha (fun z hz => not_lt_of (hb z hz)) (fun y' c' e' => by
          have hz := hb y' (by rw [e']; exact List.mem_cons_self)
          have h1 : Op.bytesLess y'.f0.toList x.f1.f0.toList = false := not_lt_of hz
          have h2 : Op.bytesLess x.f1.f0.toList y'.f0.toList = true := hz
          unfold cmpS; rw [h1, h2]; rfl) (fun _ => rfl) hk
      have hat : at27 x.f1.f0 0 o = -1 := by rw [e, at27_ahead _ _ _ _ ha, at27_none _ _ _ hb]
      by_cases h1 : x.f0 = 1
      · have hset : setG x.f1.f0 x.f1.f1 o false = a ++ ⟨x.f1.f0, x.f1.f1⟩ :: b := by rw [e]; exact setG_new _ ha hb
        have hl2 : (a ++ (⟨x.f1.f0, x.f1.f1⟩ : S80) :: b).length = o.length + 1 := by rw [List.length_append, List.length_cons]; omega
        by_cases h24 : o.length = 24
        · refine ⟨[], 5, by simp, Ev.from 1 (max KS KA) (fun k hk => ?_) (Ev.now _), Ev.from 3 2000 (fun k hk => ?_) (Ev.now _)⟩
          · rw [st k hk, if_pos h1, hset, if_pos (by omega)]
          · rw [su k _ _ (hS (k + 2) (by omega)), if_pos h1, if_neg (by decide), if_pos (by rw [h24]; rfl)]
        · obtain ⟨v, w, hv, k1, k2⟩ := ih (i + 1) (a ++ ⟨x.f1.f0, x.f1.f1⟩ :: b) (by omega) (by omega) (by
            rw [List.map_append, List.map_cons]
            refine List.pairwise_append.2 ⟨q1, List.pairwise_cons.2 ⟨fun z hz => ?_, q2⟩, fun u hu z hz => ?_⟩
            · obtain ⟨s, hs1, rfl⟩ := List.mem_map.1 hz
              exact hb s hs1
            · rcases List.mem_cons.1 hz with rfl | hz
              · obtain ⟨s, hs1, rfl⟩ := List.mem_map.1 hu
                exact ha s hs1
              · exact q3 u hu z hz)
          refine ⟨v, w, hv, Ev.from 1 (max KS KA) (fun k hk => ?_) k1, Ev.from 3 2000 (fun k hk => ?_) k2⟩
          · rw [st k hk, if_pos h1, hset, if_neg (by omega)]
          · rw [su k _ _ (hS (k + 2) (by omega)), if_pos h1, if_neg (by decide), if_neg (by rw [beq_iff_eq]; omega), e, InsS_eq (by rw [← e]; omega), Option.bind_some]
      · refine ⟨[], 3, by simp, Ev.from 1 (max KS KA) (fun k hk => ?_) (Ev.now _), Ev.from 3 2000 (fun k hk => ?_) (Ev.now _)⟩
        · rw [st k hk, if_neg h1, hat, if_pos (by decide)]
        · rw [su k _ _ (hS (k + 2) (by omega)), if_neg h1, if_neg (by decide)]
theorem state_ascA {l : List S80} (h : stateB l = true) : Asc (l.map (·.f0)) := by
  unfold stateB at h
  simp only [Bool.and_eq_true, List.all_eq_true, List.mem_range, decide_eq_true_iff] at h
  have step : ∀ i, (hi : i + 1 < l.length) → ltB l[i].f0 l[i + 1].f0 = true := fun i hi => by
    have := h.1 (i + 1) hi
    unfold stateAt at this
    rw [Bool.and_eq_true, Bool.or_eq_true, decide_eq_true_iff] at this
    rcases this.2 with h0 | h0
    · omega
    · rw [show i + 1 - 1 = i by omega, rd_set27 (by omega), rd_set27 hi] at h0; exact h0
  have main : ∀ d i, (hi : i + d + 1 < l.length) → ltB (l[i]'(by omega)).f0 l[i + d + 1].f0 = true := by
    intro d
    induction d with
    | zero => intro i hi; exact step i hi
    | succ d ih => intro i hi; exact ltB_trans (ih i (by omega)) (step (i + d + 1) (by omega))
  unfold Asc
  rw [List.pairwise_map, List.pairwise_iff_getElem]
  intro i j hi hj hij
  have := main (j - i - 1) i (by omega)
  simp only [show i + (j - i - 1) + 1 = j by omega] at this
  exact this
theorem core_ApplyChanges {l : List S80} (hl : l.length ≤ 1048576) {cs : List S82} (hc : cs.length ≤ 1048576) : ∃ (v : List S80) (c : Int), (v.length ≤ 1048576 ∧ ∀ y ∈ v, smiSetting y) ∧ Ev (fun k => spec_ApplyChanges.f k l cs) (v, c) ∧ Ev (fun k => impl_ApplyChanges.f k l cs) (v, c) := by
  unfold spec_ApplyChanges.f impl_ApplyChanges.f
  have j1 : Ev (fun k => impl_ApplyChanges.j0 k l cs true) (([] : List S80), (1 : Int)) := Ev.step (f := fun _ => some (([] : List (S80)), (1 : Int))) (fun k => by simp only [impl_ApplyChanges.j0, if_true]) (Ev.now _)
  by_cases h : stateB l = true
  rotate_left
  · exact ⟨[], 1, ⟨by simp, by simp⟩, Ev.bind (State_spec_ev hl) (Ev.neg h (Ev.now _)), Ev.bind (State_impl_ev hl) (Ev.neg h j1)⟩
  have hlen := state_len h
  have hC := ContainsC_ev cs
  by_cases h2 : cs.all changeB = true
  · obtain ⟨v, c, hv, k1, k2⟩ := apply_loop hc cs.length 0 l (by omega) hlen (state_ascA h)
    rw [h2] at hC
    refine ⟨v, c, ⟨hv, fun _ _ => trivial⟩, Ev.bind (State_spec_ev hl) (Ev.pos h (ask_all hlen hc h2 k1)), Ev.bind (State_impl_ev hl) (Ev.pos h (Ev.bind hC ?_))⟩
    refine Ev.step (f := fun k => impl_ApplyChanges.l0 k l cs (cs.length : Int) 0) (fun k => ?_) k2
    have hcl : slices_Clone_S_impl_Setting.f l = some l := by
      unfold slices_Clone_S_impl_Setting.f
      first | rfl | (rw [if_pos (by omega)])
    simp only [impl_ApplyChanges.j0]
    rw [if_neg (by decide), hcl, Option.bind_some]
  · rw [Bool.not_eq_true] at h2
    rw [h2] at hC
    exact ⟨[], 1, ⟨by simp, by simp⟩, Ev.bind (State_spec_ev hl) (Ev.pos h (ask_not hc h2)), Ev.bind (State_impl_ev hl) (Ev.pos h (Ev.bind hC j1))⟩

theorem markSettingS_all {l : List S80} (hl : l.length ≤ 1048576) (_ : ∀ y ∈ l, smiSetting y) {m : Int} (h0 : 0 ≤ m) (h1 : m ≤ 536870912) : ∃ (m' : Int) (l' : List S80), m ≤ m' ∧ m' ≤ m + 8388608 ∧ Ev (fun k => laws_markSettingS.f k l m) (m', l') ∧ Ev (fun k => laws_heldSettingS.f k l' m) m' :=
  ⟨m + 2 * l.length, mkSettingS l m, by omega, by omega, Ev.le 10000000 (fun k hk => markSettingS_eq h0 (by omega) (by omega)), Ev.le 10000000 (fun k hk => heldSettingS_mk h0 (by omega) (by omega))⟩

def cChange (x : S77) : S82 := ⟨x.f0, cSetting x.f1⟩
def smChange (x : S77) : Prop := smSetting x.f1
theorem rd_lChange {l : List S77} {i : Nat} (h : i < l.length) : rd_T77 l (i : Int) = l[i] := by
  simp [rd_T77, List.getD_eq_getElem?_getD, List.getElem?_eq_getElem h]
theorem rd_iChange {l : List S82} {i : Nat} (h : i < l.length) : rd_T82 l (i : Int) = l[i] := by
  simp [rd_T82, List.getD_eq_getElem?_getD, List.getElem?_eq_getElem h]
theorem ext_iChange {a b : S82} : a = b ↔ a.f0 = b.f0 ∧ a.f1 = b.f1 := by
  cases a; cases b; simp
instance : DecidableEq S82 := fun _ _ => decidable_of_iff _ ext_iChange.symm
theorem szChange_some {x : S77} (hg : Go.Proofs.Ytocegmkifmdlcaa.g77 x) {a : Int} (ha0 : 0 ≤ a) (ha : a ≤ 1048576) : ∃ r, laws_szChange.f x.f0 x.f1.f0 x.f1.f1 a = some r ∧ (r < 0 ∨ (0 ≤ r ∧ r ≤ a ∧ smChange x)) := by
  unfold laws_szChange.f smChange
  obtain ⟨r, hr, h⟩ := szSetting_some hg.2 ha0 ha
  rw [hr, Option.bind_some]
  by_cases h0 : r < 0
  · rw [if_pos h0]; exact ⟨-1, rfl, .inl (by omega)⟩
  · rw [if_neg h0]; exact ⟨r, rfl, h⟩
theorem szChangeS_some {l : List S77} (hl : l.length ≤ maxLen) (hg : ∀ y ∈ l, Go.Proofs.Ytocegmkifmdlcaa.g77 y) {a : Int} (ha0 : 0 ≤ a) (ha : a ≤ 1048576) {k : Nat} (hk : 1048600 ≤ k) : ∃ r, laws_szChangeS.f k l a = some r ∧ (r < 0 ∨ (0 ≤ r ∧ r ≤ a ∧ l.length ≤ 1048576 ∧ ∀ y ∈ l, smChange y)) := by
  have hl' : l.length ≤ 9223372036854775807 := by simpa only [maxLen] using hl
  unfold laws_szChangeS.f
  rw [wrap_id (by omega) (by omega)]
  by_cases h0 : a - (l.length : Int) < 0
  · rw [if_pos h0]; exact ⟨-1, rfl, .inl (by omega)⟩
  · rw [if_neg h0]
    have main : ∀ (d k i : Nat) (s : Int), i + d = l.length → 0 + d < k → 0 ≤ s → s ≤ a - l.length → ∃ r, laws_szChangeS.l0 k l s (i : Int) = some r ∧ (r < 0 ∨ (0 ≤ r ∧ r ≤ s ∧ ∀ y ∈ l.drop i, smChange y)) := by
      intro d
      induction d with
      | zero =>
        intro k i s hi hk h0 h1
        obtain ⟨k, rfl⟩ : ∃ m, k = m + 1 := ⟨k - 1, by omega⟩
        obtain rfl : i = l.length := by omega
        simp only [laws_szChangeS.l0]
        rw [if_neg (nlt_cast _)]
        exact ⟨s, rfl, .inr ⟨h0, by omega, by simp⟩⟩
      | succ d ih =>
        intro k i s hi hk h0 h1
        obtain ⟨k, rfl⟩ : ∃ m, k = m + 1 := ⟨k - 1, by omega⟩
        have hlt : i < l.length := by omega
        simp only [laws_szChangeS.l0]
        rw [if_pos (lt_cast hlt), if_pos (nn_cast i), rd_lChange hlt, wrap_succ hlt (by omega)]
        obtain ⟨r1, hr1, e1⟩ := szChange_some (hg l[i] (List.getElem_mem hlt)) (a := s) (by omega) (by omega)
        rw [hr1]; simp only [Option.bind_some]
        by_cases h2 : r1 < 0
        · rw [if_pos h2]
          exact ⟨-1, rfl, .inl (by omega)⟩
        · rw [if_neg h2]
          have e1' := e1.resolve_left h2
          obtain ⟨r, hr, h3⟩ := ih k (i + 1) r1 (by omega) (by omega) (by omega) (by omega)
          refine ⟨r, hr, h3.imp id fun h3 => ⟨h3.1, by omega, ?_⟩⟩
          rw [drop_cons hlt]
          intro y hy
          rcases List.mem_cons.1 hy with rfl | hy
          · exact e1'.2.2
          · exact h3.2.2 y hy
    obtain ⟨r, hr, h⟩ := main l.length k 0 (a - l.length) (by omega) (by omega) (by omega) (by omega)
    refine ⟨r, hr, h.imp id fun h => ⟨h.1, by omega, by omega, ?_⟩⟩
    simpa using h.2.2
theorem toChange_eq {x : S77} (hs : smChange x) : laws_toChange.f x.f0 x.f1.f0 x.f1.f1 = some ((cChange x).f0, (cChange x).f1.f0, (cChange x).f1.f1) := by
  unfold laws_toChange.f
  rw [toSetting_eq hs]; rfl
theorem toChangeS_eq {l : List S77} (hl : l.length ≤ 1048576) (hs : ∀ y ∈ l, smChange y) {k : Nat} (hk : 1048600 ≤ k) : laws_toChangeS.f k l = some (l.map cChange) := by
  unfold laws_toChangeS.f
  rw [if_pos (nn_cast _), if_pos (by simp; omega)]
  refine set_loop (fun k acc i => laws_toChangeS.l0 k l acc i) l cChange 0 (fun k i hi acc ha hB => ?_) (fun k acc => ?_) k _ (by omega) (by simp)
  · simp only [laws_toChangeS.l0]
    rw [if_pos (lt_cast hi), if_pos (nn_cast i), rd_lChange hi, wrap_succ hi (by omega), toChange_eq (hs _ (List.getElem_mem hi))]
    simp only [Option.bind_some]
    rw [if_pos (by omega)]
    rfl
  · simp only [laws_toChangeS.l0]
    rw [if_neg (nlt_cast _)]
def smiChange (x : S82) : Prop := True
theorem smi_cChange {x : S77} (hs : smChange x) : smiChange (cChange x) := by
  unfold smiChange
  trivial
theorem eqChange_eq {a b : S82} (hs : smiChange a) : laws_eqChange.f a.f0 a.f1.f0 a.f1.f1 b.f0 b.f1.f0 b.f1.f1 = some (decide (a = b)) := by
  unfold laws_eqChange.f
  by_cases e0 : a.f0 = b.f0
  rotate_left
  · rw [if_neg e0]; have hne : ¬ a = b := fun e => e0 (ext_iChange.1 e).1; simp [hne]
  rw [if_pos e0, eqSetting_eq trivial, Option.bind_some]
  by_cases e1 : a.f1 = b.f1
  · rw [decide_eq_true e1, decide_eq_true (ext_iChange.2 ⟨e0, e1⟩), if_pos rfl]
  · have hne : ¬ a = b := fun e => e1 (ext_iChange.1 e).2
    rw [decide_eq_false e1, decide_eq_false hne, if_neg (by decide)]
theorem eqChangeS_eq {a b : List S82} (hl : a.length ≤ 1048576) (hs : ∀ y ∈ a, smiChange y) {k : Nat} (hk : 1048600 ≤ k) : laws_eqChangeS.f k a b = some (decide (a = b)) := by
  unfold laws_eqChangeS.f
  by_cases h : a.length = b.length
  · rw [if_pos (by omega)]
    refine eq_loop (fun k i => laws_eqChangeS.l0 k a b i) a b h 0 (fun k i h1 h2 hB => ?_) (fun k => ?_) k (by omega)
    · simp only [laws_eqChangeS.l0]
      rw [if_pos (lt_cast h1), if_pos (nn_cast i), if_pos (lt_cast h2), rd_iChange h1, rd_iChange h2, wrap_succ h1 (by omega), eqChange_eq (hs _ (List.getElem_mem h1))]
      simp only [Option.bind_some, decide_eq_true_eq]
    · simp only [laws_eqChangeS.l0]
      rw [if_neg (nlt_cast _)]
  · rw [if_neg (by omega)]
    have : a ≠ b := fun e => h (by rw [e])
    simp [this]
theorem markChangeS_all {l : List S82} (hl : l.length ≤ 1048576) (_ : ∀ y ∈ l, smiChange y) {m : Int} (h0 : 0 ≤ m) (h1 : m ≤ 536870912) : ∃ (m' : Int) (l' : List S82), m ≤ m' ∧ m' ≤ m + 8388608 ∧ Ev (fun k => laws_markChangeS.f k l m) (m', l') ∧ True := by
  have hc : ∀ x : S82, (0 : Int) ≤ (3 : Int) := fun _ => by omega
  have htot : mtot (fun _ : S82 => (3 : Int)) l m = m + 3 * l.length := mtot_const 3 l m
  refine ⟨mtot (fun _ : S82 => (3 : Int)) l m, mkl (fun (_ : S82) q => (⟨q, ⟨mt (q + 1), q + 1 + 1⟩⟩ : S82)) (fun _ => 3) l m, by omega, by omega, ?_, trivial⟩
  · unfold laws_markChangeS.f
    refine mark_ev (fun k l m i => laws_markChangeS.l0 k l m i) (fun (_ : S82) q => (⟨q, ⟨mt (q + 1), q + 1 + 1⟩⟩ : S82)) (fun _ => 3) 1073741824 hc (fun _ => True) (fun pre x rest m r hx hp hm hM hE => ?_) (fun k l m => ?_) l m (fun _ _ => trivial) (by omega) h0 (by omega)
    · have W1 := Aside0.mk (show wrap64 (m + 1) = m + 1 from wrap_id (by omega) (by omega))
      have W2 := Aside0.mk (show wrap64 (m + 1 + 1) = m + 1 + 1 from wrap_id (by omega) (by omega))
      have W3 := Aside0.mk (show wrap64 (m + 1 + 1 + 1) = m + 3 from (wrap_id (by omega) (by omega)).trans (by omega))
      have WS := Aside0.mk (show wrap64 ((pre.length : Int) + 1) = ((pre.length + 1 : Nat) : Int) from wrap_succ (i := pre.length) (n := pre.length + 1) (by omega) (by omega))
      refine Ev.step (f := fun k => (laws_markText.f k (m + 1)).bind fun t => laws_markChangeS.l0 k (pre ++ ⟨m, ⟨t, m + 1 + 1⟩⟩ :: rest) (m + 3) ((pre.length + 1 : Nat) : Int)) (fun k => ?_) (Ev.bind (Ev.le 100 (fun k hk => markText_eq (n := m + 1) (by omega) (by omega) hk)) hE)
      simp only [laws_markChangeS.l0]
      rw [if_pos (by simp; omega), if_pos (nn_cast _), W1.out, W2.out, W3.out, WS.out]
      simp only [set_mid]
    · simp only [laws_markChangeS.l0]
      rw [if_neg (nlt_cast _)]
end Go.Proofs.Ytocegmkifmdlcaa.P

namespace Go.Proofs.Ytocegmkifmdlcaa.Pure
open Go.RowKit Go.Proofs.YtocegmkifmdlcaaW.PrintWords Go.Proofs.YtocegmkifmdlcaaL Go.Proofs.Ytocegmkifmdlcaa.P
set_option linter.unusedVariables false
set_option linter.unusedSimpArgs false
theorem FnExactApplyChanges : ∀ (x0 : List P.S74) (x1 : List P.S77), (x0.length ≤ maxLen ∧ ∀ y ∈ x0, g74 y) → (x1.length ≤ maxLen ∧ ∀ y ∈ x1, g77 y) → ∃ k : Nat, P.laws_FnExactApplyChanges.f k x0 x1 = some true := by
  intro x0 x1 ⟨hl0, hg0⟩ ⟨hl1, hg1⟩
  refine Ev.rounds (g := fun k => P.laws_FnExactApplyChanges.f k x0 x1) ?_
  unfold laws_FnExactApplyChanges.f
  obtain ⟨r0, hr0, h0⟩ := szSettingS_some hl0 hg0 (a := 1048576) (by omega) (by omega) (k := 10000000) (by omega)
  refine Ev.bind (a := r0) (Ev.of (g := fun k => laws_szSettingS.f k x0 1048576) (fun k => laws_szSettingS.mono _ _ k) hr0) ?_
  try dsimp only
  by_cases g0 : r0 < 0
  · exact Ev.pos g0 (Ev.now _)
  refine Ev.neg g0 ?_
  obtain ⟨p0, q0, z0, s0⟩ := h0.resolve_left g0
  obtain ⟨r1, hr1, h1⟩ := szChangeS_some hl1 hg1 (a := r0) (by omega) (by omega) (k := 10000000) (by omega)
  refine Ev.bind (a := r1) (Ev.of (g := fun k => laws_szChangeS.f k x1 r0) (fun k => laws_szChangeS.mono _ _ k) hr1) ?_
  try dsimp only
  by_cases g1 : r1 < 0
  · exact Ev.pos g1 (Ev.now _)
  refine Ev.neg g1 ?_
  obtain ⟨p1, q1, z1, s1⟩ := h1.resolve_left g1
  unfold laws_FnExactApplyChanges.g
  have hx0 : (x0.map cSetting).length ≤ 1048576 := by simpa using z0
  have hs0 : ∀ y ∈ x0.map cSetting, smiSetting y := fun y hy => by obtain ⟨x, hx, rfl⟩ := List.mem_map.1 hy; exact smi_cSetting (s0 x hx)
  have hT0 : Ev (fun k => laws_toSettingS.f k x0) (x0.map cSetting) := Ev.le 10000000 (fun k hk => toSettingS_eq z0 s0 (by omega))
  have hE0 : Ev (fun k => laws_eqSettingS.f k (x0.map cSetting) (x0.map cSetting)) true := Ev.le 10000000 (fun k hk => by rw [eqSettingS_eq hx0 hs0 (by omega)]; simp)
  have hx1 : (x1.map cChange).length ≤ 1048576 := by simpa using z1
  have hs1 : ∀ y ∈ x1.map cChange, smiChange y := fun y hy => by obtain ⟨x, hx, rfl⟩ := List.mem_map.1 hy; exact smi_cChange (s1 x hx)
  have hT1 : Ev (fun k => laws_toChangeS.f k x1) (x1.map cChange) := Ev.le 10000000 (fun k hk => toChangeS_eq z1 s1 (by omega))
  have hE1 : Ev (fun k => laws_eqChangeS.f k (x1.map cChange) (x1.map cChange)) true := Ev.le 10000000 (fun k hk => by rw [eqChangeS_eq hx1 hs1 (by omega)]; simp)
  generalize x0.map cSetting = l0 at hx0 hT0 hE0 hs0 ⊢
  generalize x1.map cChange = l1 at hx1 hT1 hE1 hs1 ⊢
  refine Ev.bind hT0 ?_
  try dsimp only
  refine Ev.bind hT1 ?_
  try dsimp only
  obtain ⟨v, c, hv, hS, hI⟩ := core_ApplyChanges hx0 hx1
  have hV : Ev (fun k => laws_eqSettingS.f k v v) true := Ev.le 10000000 (fun k hk => by rw [eqSettingS_eq hv.1 hv.2 (by omega)]; simp)
  refine Ev.bind hS ?_
  try dsimp only
  refine Ev.bind hT0 ?_
  try dsimp only
  refine Ev.bind hT1 ?_
  try dsimp only
  refine Ev.bind hI ?_
  try dsimp only
  refine Ev.yes hV ?_
  refine Ev.pos rfl ?_
  refine Ev.bind hT0 ?_
  try dsimp only
  refine Ev.yes hE0 ?_
  refine Ev.bind hT1 ?_
  try dsimp only
  refine Ev.yes hE1 ?_
  obtain ⟨m0, y0, mb0, mc0, hM0, hH0⟩ := markSettingS_all hx0 hs0 (m := 1) (by omega) (by omega)
  refine Ev.bind hM0 ?_
  try dsimp only
  obtain ⟨m1, y1, mb1, mc1, hM1, hH1⟩ := markChangeS_all hx1 hs1 (m := m0) (by omega) (by omega)
  refine Ev.bind hM1 ?_
  try dsimp only
  refine Ev.neg (by omega) ?_
  refine Ev.yes hV ?_
  refine Ev.pos rfl ?_
  obtain ⟨m2, y2, mb2, mc2, hM2, hH2⟩ := markSettingS_all hv.1 hv.2 (m := 1) (by omega) (by omega)
  refine Ev.bind hM2 ?_
  try dsimp only
  refine Ev.bind hH2 ?_
  try dsimp only
  refine Ev.neg (by omega) ?_
  refine Ev.pos rfl ?_
  refine Ev.bind hT0 ?_
  try dsimp only
  refine Ev.bind hT1 ?_
  try dsimp only
  refine Ev.bind hI ?_
  try dsimp only
  refine Ev.yes hV ?_
  refine Ev.pos rfl ?_
  refine Ev.bind hH2 ?_
  try dsimp only
  refine Ev.neg (by omega) ?_
  refine Ev.pos rfl ?_
  exact Ev.now _
end Go.Proofs.Ytocegmkifmdlcaa.Pure
