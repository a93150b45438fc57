/- Part e of what FnExactAddAnswers stands on: functions of the program as Lean functions with their walks, and plain lemmas. -/
import Derived.Test.YtocegmkifmdlcaaBFnExactAddAnswersa
import Derived.Test.YtocegmkifmdlcaaK
import Derived.Test.YtocegmkifmdlcaaBFnExactAddAnswersb
import Derived.Test.YtocegmkifmdlcaaBFnExactAddAnswersd
import Derived.ChangeOld
import Derived.ChangeArms
import Derived.WideShapes
import Derived.Test.YtocegmkifmdlcaaWWords
import Derived.KernelRfl
import Derived.Test.YtocegmkifmdlcaaBFnExactAddAnswersc
namespace Go.Proofs.Ytocegmkifmdlcaa.P
open Go.RowKit Go.Proofs.YtocegmkifmdlcaaW.PrintWords Go.Proofs.YtocegmkifmdlcaaW.PrintLast Go.Proofs.YtocegmkifmdlcaaW.PrintMore
attribute [local go_sem] max2_int min2_int max_two min_two max_three min_three max_four min_four str_leq str_gtr str_geq
set_option linter.unusedVariables false
set_option linter.unusedSimpArgs false
def laws_eqTurn.f (a0_0:ByteArray) (a0_1:Int) (a0_2:Int) (a1_0:ByteArray) (a1_1:Int) (a1_2:Int):Option (Bool):=if a0_0.toList=a1_0.toList then (if a0_1=a1_1 then (if a0_2=a1_2 then (some true) else (some false)) else (some false)) else (some false)
set_option maxHeartbeats 8000000 in
set_option maxRecDepth 100000 in
theorem laws_eqTurn.calls (a0_0:ByteArray) (a0_1:Int) (a0_2:Int) (a1_0:ByteArray) (a1_1:Int) (a1_2:Int) (r:Bool) (w:World) (h:laws_eqTurn.f a0_0 a0_1 a0_2 a1_0 a1_1 a1_2=some r) :
 Calls Try.prog 105 #[.agg #[.string a0_0,.int .i64 a0_1,.int .i64 a0_2],.agg #[.string a1_0,.int .i64 a1_1,.int .i64 a1_2]] w fun e w'=>e = .returned (.bool r)∧Below w.heap.size w w':=by
 have hu127:=Try.underlying127
 have HB:=Aside0.mk (Below.refl w.heap.size w)
 have H:(if a0_0.toList=a1_0.toList then (if a0_1=a1_1 then (if a0_2=a1_2 then (some true) else (some false)) else (some false)) else (some false))=some r:=h
 clear h
 by_cases c3:a0_0.toList=a1_0.toList
 ·rw [if_pos c3] at H
  have c3b0:(a0_0.toList == a1_0.toList)=true:=beq_iff_eq.mpr c3
  have c3b1:(a0_0.toList != a1_0.toList)=false:=bne_eq_false_iff_eq.mpr c3
  clear c3
  by_cases c4:a0_1=a1_1
  ·rw [if_pos c4] at H
   have c4b0:(a0_1 == a1_1)=true:=beq_iff_eq.mpr c4
   have c4b1:(a0_1 != a1_1)=false:=bne_eq_false_iff_eq.mpr c4
   clear c4
   by_cases c5:a0_2=a1_2
   ·rw [if_pos c5] at H
    have c5b0:(a0_2 == a1_2)=true:=beq_iff_eq.mpr c5
    have c5b1:(a0_2 != a1_2)=false:=bne_eq_false_iff_eq.mpr c5
    clear c5
    obtain rfl:=Option.some.inj H
    go_enter Try.func105,Try.ntmps105
    go_wp2_with (first|((with_reducible refine gate_dst (N:=2) rfl ?_);refine box_event ?hg (N:=2) ?hd (cs:=#[.string a0_0,.int .i64 a0_1,.int .i64 a0_2]) (t:=127) ?hr ?_;(case hd=>rfl);(case hg=>rfl);(case hr=>exact zt);intro gb101 hg w6 hbox hb;have n0_:=Aside0.mk (below_step za hb);have n1_:=Aside0.mk (hbox);have n2_:=Aside0.mk ((by rw [hg];exact (below_size za):w.heap.size≤gb101));have n3_:=Aside0.mk ((by rw [hg];exact (below_size za):w.heap.size≤gb101));clear HB;have HB:=n0_;have BK101:=n1_;have GW101:=n2_;have GE101:=n3_;clear n0_ n1_ n2_ n3_;clear hb hbox hg)|((with_reducible refine gate_dst (N:=3) rfl ?_);refine box_event ?hg (N:=3) ?hd (cs:=#[.string a1_0,.int .i64 a1_1,.int .i64 a1_2]) (t:=127) ?hr ?_;(case hd=>rfl);(case hg=>rfl);(case hr=>exact zt);intro gb102 hg w7 hbox hb;have n0_:=Aside0.mk (blk_below (g:=gb101) (o:=.cells #[.string a0_0,.int .i64 a0_1,.int .i64 a0_2] 127 (0,0)) ze hb);have n1_:=Aside0.mk (below_step zd hb);have n2_:=Aside0.mk (hbox);have n3_:=Aside0.mk ((by rw [hg];exact (below_size zd):w.heap.size≤gb102));have n4_:=Aside0.mk ((by rw [hg];exact (below_size zd):w.heap.size≤gb102));have n5_:=Aside0.mk ((by rw [hg];exact Nat.ne_of_lt (blk_lt (g:=gb101) (o:=.cells #[.string a0_0,.int .i64 a0_1,.int .i64 a0_2] 127 (0,0)) ze):gb101≠gb102));have n6_:=Aside0.mk ((by rw [hg];exact Nat.ne_of_gt (blk_lt (g:=gb101) (o:=.cells #[.string a0_0,.int .i64 a0_1,.int .i64 a0_2] 127 (0,0)) ze):gb102≠gb101));clear BK101;clear HB;have BK101:=n0_;have HB:=n1_;have BK102:=n2_;have GW102:=n3_;have GE102:=n4_;have NB101_102:=n5_;have NB102_101:=n6_;clear n0_ n1_ n2_ n3_ n4_ n5_ n6_;clear hb hbox hg;have hnb8:=NB101_102.out;have hnc8:=NB102_101.out;have hcz9_0:w7.cell? ⟨gb101,0,none⟩=some (.string a0_0):=(blk_cell BK101.out 0).trans rfl;have hcz9_1:w7.cell? ⟨gb101,1,none⟩=some (.int .i64 a0_1):=(blk_cell BK101.out 1).trans rfl;have hcz9_2:w7.cell? ⟨gb101,2,none⟩=some (.int .i64 a0_2):=(blk_cell BK101.out 2).trans rfl;have hfz9_0:=blk_frozen BK101.out 0;have hfz9_1:=blk_frozen BK101.out 1;have hfz9_2:=blk_frozen BK101.out 2;have hcz10_0:w7.cell? ⟨gb102,0,none⟩=some (.string a1_0):=(blk_cell BK102.out 0).trans rfl;have hcz10_1:w7.cell? ⟨gb102,1,none⟩=some (.int .i64 a1_1):=(blk_cell BK102.out 1).trans rfl;have hcz10_2:w7.cell? ⟨gb102,2,none⟩=some (.int .i64 a1_2):=(blk_cell BK102.out 2).trans rfl;have hfz10_0:=blk_frozen BK102.out 0;have hfz10_1:=blk_frozen BK102.out 1;have hfz10_2:=blk_frozen BK102.out 2))
    go_ret
    exact ⟨zk,zah⟩
   ·rw [if_neg c5] at H
    have c5b0:(a0_2 == a1_2)=false:=beq_eq_false_iff_ne.mpr c5
    have c5b1:(a0_2 != a1_2)=true:=bne_iff_ne.mpr c5
    obtain rfl:=Option.some.inj H
    go_enter Try.func105,Try.ntmps105
    go_wp2_with (first|((with_reducible refine gate_dst (N:=2) rfl ?_);refine box_event ?hg (N:=2) ?hd (cs:=#[.string a0_0,.int .i64 a0_1,.int .i64 a0_2]) (t:=127) ?hr ?_;(case hd=>rfl);(case hg=>rfl);(case hr=>exact zt);intro gb101 hg w11 hbox hb;have n0_:=Aside0.mk (below_step za hb);have n1_:=Aside0.mk (hbox);have n2_:=Aside0.mk ((by rw [hg];exact (below_size za):w.heap.size≤gb101));have n3_:=Aside0.mk ((by rw [hg];exact (below_size za):w.heap.size≤gb101));clear HB;have HB:=n0_;have BK101:=n1_;have GW101:=n2_;have GE101:=n3_;clear n0_ n1_ n2_ n3_;clear hb hbox hg)|((with_reducible refine gate_dst (N:=3) rfl ?_);refine box_event ?hg (N:=3) ?hd (cs:=#[.string a1_0,.int .i64 a1_1,.int .i64 a1_2]) (t:=127) ?hr ?_;(case hd=>rfl);(case hg=>rfl);(case hr=>exact zt);intro gb102 hg w12 hbox hb;have n0_:=Aside0.mk (blk_below (g:=gb101) (o:=.cells #[.string a0_0,.int .i64 a0_1,.int .i64 a0_2] 127 (0,0)) ze hb);have n1_:=Aside0.mk (below_step zd hb);have n2_:=Aside0.mk (hbox);have n3_:=Aside0.mk ((by rw [hg];exact (below_size zd):w.heap.size≤gb102));have n4_:=Aside0.mk ((by rw [hg];exact (below_size zd):w.heap.size≤gb102));have n5_:=Aside0.mk ((by rw [hg];exact Nat.ne_of_lt (blk_lt (g:=gb101) (o:=.cells #[.string a0_0,.int .i64 a0_1,.int .i64 a0_2] 127 (0,0)) ze):gb101≠gb102));have n6_:=Aside0.mk ((by rw [hg];exact Nat.ne_of_gt (blk_lt (g:=gb101) (o:=.cells #[.string a0_0,.int .i64 a0_1,.int .i64 a0_2] 127 (0,0)) ze):gb102≠gb101));clear BK101;clear HB;have BK101:=n0_;have HB:=n1_;have BK102:=n2_;have GW102:=n3_;have GE102:=n4_;have NB101_102:=n5_;have NB102_101:=n6_;clear n0_ n1_ n2_ n3_ n4_ n5_ n6_;clear hb hbox hg;have hnb13:=NB101_102.out;have hnc13:=NB102_101.out;have hcz14_0:w12.cell? ⟨gb101,0,none⟩=some (.string a0_0):=(blk_cell BK101.out 0).trans rfl;have hcz14_1:w12.cell? ⟨gb101,1,none⟩=some (.int .i64 a0_1):=(blk_cell BK101.out 1).trans rfl;have hcz14_2:w12.cell? ⟨gb101,2,none⟩=some (.int .i64 a0_2):=(blk_cell BK101.out 2).trans rfl;have hfz14_0:=blk_frozen BK101.out 0;have hfz14_1:=blk_frozen BK101.out 1;have hfz14_2:=blk_frozen BK101.out 2;have hcz15_0:w12.cell? ⟨gb102,0,none⟩=some (.string a1_0):=(blk_cell BK102.out 0).trans rfl;have hcz15_1:w12.cell? ⟨gb102,1,none⟩=some (.int .i64 a1_1):=(blk_cell BK102.out 1).trans rfl;have hcz15_2:w12.cell? ⟨gb102,2,none⟩=some (.int .i64 a1_2):=(blk_cell BK102.out 2).trans rfl;have hfz15_0:=blk_frozen BK102.out 0;have hfz15_1:=blk_frozen BK102.out 1;have hfz15_2:=blk_frozen BK102.out 2))
    go_ret
    exact ⟨zk,zah⟩
  ·rw [if_neg c4] at H
   have c4b0:(a0_1 == a1_1)=false:=beq_eq_false_iff_ne.mpr c4
   have c4b1:(a0_1 != a1_1)=true:=bne_iff_ne.mpr c4
   obtain rfl:=Option.some.inj H
   go_enter Try.func105,Try.ntmps105
   go_wp2_with (first|((with_reducible refine gate_dst (N:=2) rfl ?_);refine box_event ?hg (N:=2) ?hd (cs:=#[.string a0_0,.int .i64 a0_1,.int .i64 a0_2]) (t:=127) ?hr ?_;(case hd=>rfl);(case hg=>rfl);(case hr=>exact zt);intro gb101 hg w16 hbox hb;have n0_:=Aside0.mk (below_step za hb);have n1_:=Aside0.mk (hbox);have n2_:=Aside0.mk ((by rw [hg];exact (below_size za):w.heap.size≤gb101));have n3_:=Aside0.mk ((by rw [hg];exact (below_size za):w.heap.size≤gb101));clear HB;have HB:=n0_;have BK101:=n1_;have GW101:=n2_;have GE101:=n3_;clear n0_ n1_ n2_ n3_;clear hb hbox hg)|((with_reducible refine gate_dst (N:=3) rfl ?_);refine box_event ?hg (N:=3) ?hd (cs:=#[.string a1_0,.int .i64 a1_1,.int .i64 a1_2]) (t:=127) ?hr ?_;(case hd=>rfl);(case hg=>rfl);(case hr=>exact zt);intro gb102 hg w17 hbox hb;have n0_:=Aside0.mk (blk_below (g:=gb101) (o:=.cells #[.string a0_0,.int .i64 a0_1,.int .i64 a0_2] 127 (0,0)) ze hb);have n1_:=Aside0.mk (below_step zd hb);have n2_:=Aside0.mk (hbox);have n3_:=Aside0.mk ((by rw [hg];exact (below_size zd):w.heap.size≤gb102));have n4_:=Aside0.mk ((by rw [hg];exact (below_size zd):w.heap.size≤gb102));have n5_:=Aside0.mk ((by rw [hg];exact Nat.ne_of_lt (blk_lt (g:=gb101) (o:=.cells #[.string a0_0,.int .i64 a0_1,.int .i64 a0_2] 127 (0,0)) ze):gb101≠gb102));have n6_:=Aside0.mk ((by rw [hg];exact Nat.ne_of_gt (blk_lt (g:=gb101) (o:=.cells #[.string a0_0,.int .i64 a0_1,.int .i64 a0_2] 127 (0,0)) ze):gb102≠gb101));clear BK101;clear HB;have BK101:=n0_;have HB:=n1_;have BK102:=n2_;have GW102:=n3_;have GE102:=n4_;have NB101_102:=n5_;have NB102_101:=n6_;clear n0_ n1_ n2_ n3_ n4_ n5_ n6_;clear hb hbox hg;have hnb18:=NB101_102.out;have hnc18:=NB102_101.out;have hcz19_0:w17.cell? ⟨gb101,0,none⟩=some (.string a0_0):=(blk_cell BK101.out 0).trans rfl;have hcz19_1:w17.cell? ⟨gb101,1,none⟩=some (.int .i64 a0_1):=(blk_cell BK101.out 1).trans rfl;have hcz19_2:w17.cell? ⟨gb101,2,none⟩=some (.int .i64 a0_2):=(blk_cell BK101.out 2).trans rfl;have hfz19_0:=blk_frozen BK101.out 0;have hfz19_1:=blk_frozen BK101.out 1;have hfz19_2:=blk_frozen BK101.out 2;have hcz20_0:w17.cell? ⟨gb102,0,none⟩=some (.string a1_0):=(blk_cell BK102.out 0).trans rfl;have hcz20_1:w17.cell? ⟨gb102,1,none⟩=some (.int .i64 a1_1):=(blk_cell BK102.out 1).trans rfl;have hcz20_2:w17.cell? ⟨gb102,2,none⟩=some (.int .i64 a1_2):=(blk_cell BK102.out 2).trans rfl;have hfz20_0:=blk_frozen BK102.out 0;have hfz20_1:=blk_frozen BK102.out 1;have hfz20_2:=blk_frozen BK102.out 2))
   go_ret
   exact ⟨zk,zah⟩
 ·rw [if_neg c3] at H
  have c3b0:(a0_0.toList == a1_0.toList)=false:=beq_eq_false_iff_ne.mpr c3
  have c3b1:(a0_0.toList != a1_0.toList)=true:=bne_iff_ne.mpr c3
  obtain rfl:=Option.some.inj H
  go_enter Try.func105,Try.ntmps105
  go_wp2_with (first|((with_reducible refine gate_dst (N:=2) rfl ?_);refine box_event ?hg (N:=2) ?hd (cs:=#[.string a0_0,.int .i64 a0_1,.int .i64 a0_2]) (t:=127) ?hr ?_;(case hd=>rfl);(case hg=>rfl);(case hr=>exact zt);intro gb101 hg w21 hbox hb;have n0_:=Aside0.mk (below_step za hb);have n1_:=Aside0.mk (hbox);have n2_:=Aside0.mk ((by rw [hg];exact (below_size za):w.heap.size≤gb101));have n3_:=Aside0.mk ((by rw [hg];exact (below_size za):w.heap.size≤gb101));clear HB;have HB:=n0_;have BK101:=n1_;have GW101:=n2_;have GE101:=n3_;clear n0_ n1_ n2_ n3_;clear hb hbox hg)|((with_reducible refine gate_dst (N:=3) rfl ?_);refine box_event ?hg (N:=3) ?hd (cs:=#[.string a1_0,.int .i64 a1_1,.int .i64 a1_2]) (t:=127) ?hr ?_;(case hd=>rfl);(case hg=>rfl);(case hr=>exact zt);intro gb102 hg w22 hbox hb;have n0_:=Aside0.mk (blk_below (g:=gb101) (o:=.cells #[.string a0_0,.int .i64 a0_1,.int .i64 a0_2] 127 (0,0)) ze hb);have n1_:=Aside0.mk (below_step zd hb);have n2_:=Aside0.mk (hbox);have n3_:=Aside0.mk ((by rw [hg];exact (below_size zd):w.heap.size≤gb102));have n4_:=Aside0.mk ((by rw [hg];exact (below_size zd):w.heap.size≤gb102));have n5_:=Aside0.mk ((by rw [hg];exact Nat.ne_of_lt (blk_lt (g:=gb101) (o:=.cells #[.string a0_0,.int .i64 a0_1,.int .i64 a0_2] 127 (0,0)) ze):gb101≠gb102));have n6_:=Aside0.mk ((by rw [hg];exact Nat.ne_of_gt (blk_lt (g:=gb101) (o:=.cells #[.string a0_0,.int .i64 a0_1,.int .i64 a0_2] 127 (0,0)) ze):gb102≠gb101));clear BK101;clear HB;have BK101:=n0_;have HB:=n1_;have BK102:=n2_;have GW102:=n3_;have GE102:=n4_;have NB101_102:=n5_;have NB102_101:=n6_;clear n0_ n1_ n2_ n3_ n4_ n5_ n6_;clear hb hbox hg;have hnb23:=NB101_102.out;have hnc23:=NB102_101.out;have hcz24_0:w22.cell? ⟨gb101,0,none⟩=some (.string a0_0):=(blk_cell BK101.out 0).trans rfl;have hcz24_1:w22.cell? ⟨gb101,1,none⟩=some (.int .i64 a0_1):=(blk_cell BK101.out 1).trans rfl;have hcz24_2:w22.cell? ⟨gb101,2,none⟩=some (.int .i64 a0_2):=(blk_cell BK101.out 2).trans rfl;have hfz24_0:=blk_frozen BK101.out 0;have hfz24_1:=blk_frozen BK101.out 1;have hfz24_2:=blk_frozen BK101.out 2;have hcz25_0:w22.cell? ⟨gb102,0,none⟩=some (.string a1_0):=(blk_cell BK102.out 0).trans rfl;have hcz25_1:w22.cell? ⟨gb102,1,none⟩=some (.int .i64 a1_1):=(blk_cell BK102.out 1).trans rfl;have hcz25_2:w22.cell? ⟨gb102,2,none⟩=some (.int .i64 a1_2):=(blk_cell BK102.out 2).trans rfl;have hfz25_0:=blk_frozen BK102.out 0;have hfz25_1:=blk_frozen BK102.out 1;have hfz25_2:=blk_frozen BK102.out 2))
  go_ret
  exact ⟨zk,zah⟩

def laws_eqTurnS.l0:Nat→List (S127)→List (S127)→Int→Option (Bool)
 | 0,_,_,_=>none
 | k+1,x0,x1,x5=>if x5<(x0.length:Int) then (if 0≤x5 then (if x5<(x1.length:Int) then ((laws_eqTurn.f ((rd_T127 x0 x5).f0) ((rd_T127 x0 x5).f1) ((rd_T127 x0 x5).f2) ((rd_T127 x1 x5).f0) ((rd_T127 x1 x5).f1) ((rd_T127 x1 x5).f2)).bind fun t103=>(if t103=true then (laws_eqTurnS.l0 k x0 x1 (wrap64 (x5+1))) else (some false))) else (none)) else (none)) else (some true)
def laws_eqTurnS.f (k:Nat) (l0:List (S127)) (l1:List (S127)):Option (Bool):=if (l0.length:Int)=(l1.length:Int) then (laws_eqTurnS.l0 k l0 l1 0) else (some false)
def laws_eqTurnS.T6:Bool × List (List Nat × List Nat):=(true,[([],[]),([],[]),([0,1],[0,1]),([2],[2]),([],[]),([],[]),([4,5],[4,5]),([6],[6]),([3,7],[3,7]),([8],[8])])
def laws_eqTurnS.B6:List Nat:=[0,0,3,7,0,0,48,112,255,511]
theorem laws_eqTurnS.tab6:rtab .any (opsOf Try.f42 6)=laws_eqTurnS.T6:=by kernel_rfl
theorem laws_eqTurnS.bits6:waitsOk laws_eqTurnS.T6.2 laws_eqTurnS.B6=true:=by kernel_rfl
set_option maxHeartbeats 8000000 in
set_option maxRecDepth 100000 in
theorem laws_eqTurnS.calls (k:Nat) (A0:Option Addr) (c0:Nat) (l0:List (S127)) (A1:Option Addr) (c1:Nat) (l1:List (S127)) (r:Bool) (w:World) (hr0:Kd.C k127 w A0 l0.length l0) (hc0:l0.length≤c0) (hr1:Kd.C k127 w A1 l1.length l1) (hc1:l1.length≤c1) (h:laws_eqTurnS.f k l0 l1=some r) :
 Calls Try.prog 42 #[.slice A0 l0.length c0,.slice A1 l1.length c1] w fun e w'=>e = .returned (.bool r)∧Below w.heap.size w w':=by
 have hu127:=Try.underlying127
 have HR0:=Aside0.mk hr0
 have HC0:=Aside0.mk hc0
 clear hr0 hc0
 have HR1:=Aside0.mk hr1
 have HC1:=Aside0.mk hc1
 clear hr1 hc1
 have HB:=Aside0.mk (Below.refl w.heap.size w)
 have H:(if (l0.length:Int)=(l1.length:Int) then (laws_eqTurnS.l0 k l0 l1 0) else (some false))=some r:=h
 clear h
 by_cases c3:(l0.length:Int)=(l1.length:Int)
 ·rw [if_pos c3] at H
  have c3b0:((l0.length:Int) == (l1.length:Int))=true:=beq_iff_eq.mpr c3
  have c3b1:((l0.length:Int) != (l1.length:Int))=false:=bne_eq_false_iff_eq.mpr c3
  have c3b2:(l0.length == l1.length)=true:=by first|simpa using c3|(simp at c3 ⊢;omega)
  clear c3
  have H':=Aside0.mk H
  clear H
  go_enter Try.func42,Try.ntmps42
  go_wp2
  go_loopg [5] k (fun kq v5 w'=>∃(x5_1:Int),v5 = .int .i64 x5_1∧Aside0 (laws_eqTurnS.l0 kq l0 l1 x5_1=some r)∧Aside0 (kq≤k)∧Aside0 (Below w.heap.size w w'))
  case atStart=>exact ⟨(0),zm,H',⟨Nat.le_refl _⟩,⟨za⟩⟩
  case round=>
   clear H'
   try clear c1
   try clear p2
   try clear c3
   try clear c3b0
   try clear c3b1
   try clear c3b2
   obtain ⟨x5_1,rfl,HA,HK1,HB⟩:=hrel
   cases gk with
   | zero=>exact absurd HA.out (by simp [laws_eqTurnS.l0])
   | succ k1=>
    have H:=HA.out
    clear HA
    simp only [laws_eqTurnS.l0] at H
    by_cases c4:x5_1<(l0.length:Int)
    ·rw [if_pos c4] at H
     have c4b0:decide (x5_1<(l0.length:Int))=true:=decide_eq_true c4
     clear c4
     by_cases c5:0≤x5_1
     ·rw [if_pos c5] at H
      have c5b0:decide (0≤x5_1)=true:=decide_eq_true c5
      clear c5
      by_cases c6:x5_1<(l1.length:Int)
      ·rw [if_pos c6] at H
       have c6b0:decide (x5_1<(l1.length:Int))=true:=decide_eq_true c6
       clear c6
       replace H:=Option.bind_eq_some_iff.mp H
       obtain ⟨t103,A70,H⟩:=H
       replace H:(if t103=true then (laws_eqTurnS.l0 k1 l0 l1 (wrap64 (x5_1+1))) else (some false))=some r:=H
       have A7:=Aside0.mk A70
       clear A70
       by_cases c8:t103=true
       ·subst c8
        have H1:(laws_eqTurnS.l0 k1 l0 l1 (wrap64 (x5_1+1)))=some r:=by rw [if_pos rfl] at H;exact H
        clear H
        have H:=H1
        clear H1
        have H':=Aside0.mk H
        clear H
        try go_wp2
        replace HB:=Aside0.mk (below_drew1 HB.out)
        have p101:0≤(x5_1:Int):=of_decide_eq_true zb
        have q101:x5_1<(l0.length:Int):=of_decide_eq_true zb
        obtain ⟨ad101,e101,hx101_0,hx101_1,hx101_2⟩:=at_T127 HR0.out x5_1 p101 q101
        have hw101_2:=hx101_2
        have hw101_1:=hx101_1
        have hw101_0:=hx101_0
        cases e101
        replace hx101_0:=(HB.out.cell (World.block_lt_of_cell? w _ hx101_0)).trans hx101_0
        replace hx101_1:=(HB.out.cell (World.block_lt_of_cell? w _ hx101_1)).trans hx101_1
        replace hx101_2:=(HB.out.cell (World.block_lt_of_cell? w _ hx101_2)).trans hx101_2
        replace p101:=eq_true p101
        replace q101:=eq_true q101
        have p102:0≤(x5_1:Int):=of_decide_eq_true zb
        have q102:x5_1<(l1.length:Int):=of_decide_eq_true zb
        obtain ⟨ad102,e102,hx102_0,hx102_1,hx102_2⟩:=at_T127 HR1.out x5_1 p102 q102
        have hw102_2:=hx102_2
        have hw102_1:=hx102_1
        have hw102_0:=hx102_0
        cases e102
        replace hx102_0:=(HB.out.cell (World.block_lt_of_cell? w _ hx102_0)).trans hx102_0
        replace hx102_1:=(HB.out.cell (World.block_lt_of_cell? w _ hx102_1)).trans hx102_1
        replace hx102_2:=(HB.out.cell (World.block_lt_of_cell? w _ hx102_2)).trans hx102_2
        replace p102:=eq_true p102
        replace q102:=eq_true q102
        refine start_ (n:=10) (S:=fun w'=>w'.cell? (ad101.add ((x5_1).toNat*3))=some (.string ((rd_T127 l0 x5_1).f0))∧w'.cell? ⟨(ad101.add ((x5_1).toNat*3)).block,(ad101.add ((x5_1).toNat*3)).off+1,none⟩=some (.int .i64 ((rd_T127 l0 x5_1).f1))∧w'.cell? ⟨(ad101.add ((x5_1).toNat*3)).block,(ad101.add ((x5_1).toNat*3)).off+2,none⟩=some (.int .i64 ((rd_T127 l0 x5_1).f2))∧w'.cell? (ad102.add ((x5_1).toNat*3))=some (.string ((rd_T127 l1 x5_1).f0))∧w'.cell? ⟨(ad102.add ((x5_1).toNat*3)).block,(ad102.add ((x5_1).toNat*3)).off+1,none⟩=some (.int .i64 ((rd_T127 l1 x5_1).f1))∧w'.cell? ⟨(ad102.add ((x5_1).toNat*3)).block,(ad102.add ((x5_1).toNat*3)).off+2,none⟩=some (.int .i64 ((rd_T127 l1 x5_1).f2))) (ds:=[]) #[false,false,false,false,false,false,false,false,false,false] zbk rfl rfl ⟨((HB.out.cell (World.block_lt_of_cell? w _ hw101_0)).trans hw101_0),((HB.out.cell (World.block_lt_of_cell? w _ hw101_1)).trans hw101_1),((HB.out.cell (World.block_lt_of_cell? w _ hw101_2)).trans hw101_2),((HB.out.cell (World.block_lt_of_cell? w _ hw102_0)).trans hw102_0),((HB.out.cell (World.block_lt_of_cell? w _ hw102_1)).trans hw102_1),((HB.out.cell (World.block_lt_of_cell? w _ hw102_2)).trans hw102_2)⟩ (fun hHeld=>?_);refine with_tabW laws_eqTurnS.tab6 laws_eqTurnS.bits6 (fun HT_ HW_=>?_)
        generalize wr.drew=w9 at HB hx101_0 hx101_1 hx101_2 hx102_0 hx102_1 hx102_2 hHeld ⊢
        refine pA 0 17 ?_
        refine pA 1 18 ?_
        refine pA 2 19 ?_
        refine pA 4 21 ?_
        refine pA 5 22 ?_
        refine pA 6 23 ?_
        refine pT 3 20 rfl zao ?_
        refine pT 7 24 rfl zao ?_
        refine one_ (i:=8) (N:=some 25) #[true,true,true,true,true,true,true,true,true,false] rfl rfl (one_of HT_.out zbk) zbq (fun K hK=>?_)
        refine goes_ Try.func105 zbk rfl #[.agg #[.string ((rd_T127 l0 x5_1).f0),.int .i64 ((rd_T127 l0 x5_1).f1),.int .i64 ((rd_T127 l0 x5_1).f2)],.agg #[.string ((rd_T127 l1 x5_1).f0),.int .i64 ((rd_T127 l1 x5_1).f1),.int .i64 ((rd_T127 l1 x5_1).f2)]] (by rfl) rfl rfl zc ?_
        with_reducible refine (laws_eqTurn.calls ((rd_T127 l0 x5_1).f0) ((rd_T127 l0 x5_1).f1) ((rd_T127 l0 x5_1).f2) ((rd_T127 l1 x5_1).f0) ((rd_T127 l1 x5_1).f1) ((rd_T127 l1 x5_1).f2) true _ A7.out).mono ?_
        rintro e w10 ⟨rfl,hb⟩
        refine ⟨_,rfl,?_⟩
        replace HB:=Aside0.mk (below_step za hb)
        (try clear hb)
        (try clear hb2)
        (try clear hk)
        (try clear hi)
        refine hK.out _ _ ⟨((HB.out.cell (World.block_lt_of_cell? w _ hw101_0)).trans hw101_0),((HB.out.cell (World.block_lt_of_cell? w _ hw101_1)).trans hw101_1),((HB.out.cell (World.block_lt_of_cell? w _ hw101_2)).trans hw101_2),((HB.out.cell (World.block_lt_of_cell? w _ hw102_0)).trans hw102_0),((HB.out.cell (World.block_lt_of_cell? w _ hw102_1)).trans hw102_1),((HB.out.cell (World.block_lt_of_cell? w _ hw102_2)).trans hw102_2)⟩ (fun hHeld=>?_)
        clear hK K
        refine pN 25 ?_
        refine pA 9 26 ?_
        refine done_ (done_of HT_.out zbk) ?_
        try go_wp2
        go_roundg k1
        case measure=>have:=HK1.out;omega
        case rel=>exact ⟨(wrap64 (x5_1+1)),zm,H',⟨zdn⟩,⟨za⟩⟩
       ·replace c8:=Bool.eq_false_iff.mpr c8
        subst c8
        have H1:(some false)=some r:=by rw [if_neg (show ¬ (false=true) by decide)] at H;exact H
        clear H
        have H:=H1
        clear H1
        obtain rfl:=Option.some.inj H
        try go_wp2
        replace HB:=Aside0.mk (below_drew1 HB.out)
        have p101:0≤(x5_1:Int):=of_decide_eq_true zb
        have q101:x5_1<(l0.length:Int):=of_decide_eq_true zb
        obtain ⟨ad101,e101,hx101_0,hx101_1,hx101_2⟩:=at_T127 HR0.out x5_1 p101 q101
        have hw101_2:=hx101_2
        have hw101_1:=hx101_1
        have hw101_0:=hx101_0
        cases e101
        replace hx101_0:=(HB.out.cell (World.block_lt_of_cell? w _ hx101_0)).trans hx101_0
        replace hx101_1:=(HB.out.cell (World.block_lt_of_cell? w _ hx101_1)).trans hx101_1
        replace hx101_2:=(HB.out.cell (World.block_lt_of_cell? w _ hx101_2)).trans hx101_2
        replace p101:=eq_true p101
        replace q101:=eq_true q101
        have p102:0≤(x5_1:Int):=of_decide_eq_true zb
        have q102:x5_1<(l1.length:Int):=of_decide_eq_true zb
        obtain ⟨ad102,e102,hx102_0,hx102_1,hx102_2⟩:=at_T127 HR1.out x5_1 p102 q102
        have hw102_2:=hx102_2
        have hw102_1:=hx102_1
        have hw102_0:=hx102_0
        cases e102
        replace hx102_0:=(HB.out.cell (World.block_lt_of_cell? w _ hx102_0)).trans hx102_0
        replace hx102_1:=(HB.out.cell (World.block_lt_of_cell? w _ hx102_1)).trans hx102_1
        replace hx102_2:=(HB.out.cell (World.block_lt_of_cell? w _ hx102_2)).trans hx102_2
        replace p102:=eq_true p102
        replace q102:=eq_true q102
        refine start_ (n:=10) (S:=fun w'=>w'.cell? (ad101.add ((x5_1).toNat*3))=some (.string ((rd_T127 l0 x5_1).f0))∧w'.cell? ⟨(ad101.add ((x5_1).toNat*3)).block,(ad101.add ((x5_1).toNat*3)).off+1,none⟩=some (.int .i64 ((rd_T127 l0 x5_1).f1))∧w'.cell? ⟨(ad101.add ((x5_1).toNat*3)).block,(ad101.add ((x5_1).toNat*3)).off+2,none⟩=some (.int .i64 ((rd_T127 l0 x5_1).f2))∧w'.cell? (ad102.add ((x5_1).toNat*3))=some (.string ((rd_T127 l1 x5_1).f0))∧w'.cell? ⟨(ad102.add ((x5_1).toNat*3)).block,(ad102.add ((x5_1).toNat*3)).off+1,none⟩=some (.int .i64 ((rd_T127 l1 x5_1).f1))∧w'.cell? ⟨(ad102.add ((x5_1).toNat*3)).block,(ad102.add ((x5_1).toNat*3)).off+2,none⟩=some (.int .i64 ((rd_T127 l1 x5_1).f2))) (ds:=[]) #[false,false,false,false,false,false,false,false,false,false] zbk rfl rfl ⟨((HB.out.cell (World.block_lt_of_cell? w _ hw101_0)).trans hw101_0),((HB.out.cell (World.block_lt_of_cell? w _ hw101_1)).trans hw101_1),((HB.out.cell (World.block_lt_of_cell? w _ hw101_2)).trans hw101_2),((HB.out.cell (World.block_lt_of_cell? w _ hw102_0)).trans hw102_0),((HB.out.cell (World.block_lt_of_cell? w _ hw102_1)).trans hw102_1),((HB.out.cell (World.block_lt_of_cell? w _ hw102_2)).trans hw102_2)⟩ (fun hHeld=>?_);refine with_tabW laws_eqTurnS.tab6 laws_eqTurnS.bits6 (fun HT_ HW_=>?_)
        generalize wr.drew=w11 at HB hx101_0 hx101_1 hx101_2 hx102_0 hx102_1 hx102_2 hHeld ⊢
        refine pA 0 17 ?_
        refine pA 1 18 ?_
        refine pA 2 19 ?_
        refine pA 4 21 ?_
        refine pA 5 22 ?_
        refine pA 6 23 ?_
        refine pT 3 20 rfl zao ?_
        refine pT 7 24 rfl zao ?_
        refine one_ (i:=8) (N:=some 25) #[true,true,true,true,true,true,true,true,true,false] rfl rfl (one_of HT_.out zbk) zbq (fun K hK=>?_)
        refine goes_ Try.func105 zbk rfl #[.agg #[.string ((rd_T127 l0 x5_1).f0),.int .i64 ((rd_T127 l0 x5_1).f1),.int .i64 ((rd_T127 l0 x5_1).f2)],.agg #[.string ((rd_T127 l1 x5_1).f0),.int .i64 ((rd_T127 l1 x5_1).f1),.int .i64 ((rd_T127 l1 x5_1).f2)]] (by rfl) rfl rfl zc ?_
        with_reducible refine (laws_eqTurn.calls ((rd_T127 l0 x5_1).f0) ((rd_T127 l0 x5_1).f1) ((rd_T127 l0 x5_1).f2) ((rd_T127 l1 x5_1).f0) ((rd_T127 l1 x5_1).f1) ((rd_T127 l1 x5_1).f2) false _ A7.out).mono ?_
        rintro e w12 ⟨rfl,hb⟩
        refine ⟨_,rfl,?_⟩
        replace HB:=Aside0.mk (below_step za hb)
        (try clear hb)
        (try clear hb2)
        (try clear hk)
        (try clear hi)
        refine hK.out _ _ ⟨((HB.out.cell (World.block_lt_of_cell? w _ hw101_0)).trans hw101_0),((HB.out.cell (World.block_lt_of_cell? w _ hw101_1)).trans hw101_1),((HB.out.cell (World.block_lt_of_cell? w _ hw101_2)).trans hw101_2),((HB.out.cell (World.block_lt_of_cell? w _ hw102_0)).trans hw102_0),((HB.out.cell (World.block_lt_of_cell? w _ hw102_1)).trans hw102_1),((HB.out.cell (World.block_lt_of_cell? w _ hw102_2)).trans hw102_2)⟩ (fun hHeld=>?_)
        clear hK K
        refine pN 25 ?_
        refine pA 9 26 ?_
        refine done_ (done_of HT_.out zbk) ?_
        try go_wp2
        go_ret
        exact ⟨zk,za⟩
      ·rw [if_neg c6] at H
       exact absurd H zdd
     ·rw [if_neg c5] at H
      exact absurd H zdd
    ·rw [if_neg c4] at H
     have c4b0:decide (x5_1<(l0.length:Int))=false:=decide_eq_false c4
     clear c4
     obtain rfl:=Option.some.inj H
     go_wp2
     go_ret
     exact ⟨zk,za⟩
 ·rw [if_neg c3] at H
  have c3b0:((l0.length:Int) == (l1.length:Int))=false:=beq_eq_false_iff_ne.mpr c3
  have c3b1:((l0.length:Int) != (l1.length:Int))=true:=bne_iff_ne.mpr c3
  have c3b2:(l0.length == l1.length)=false:=by first|simpa using c3|(simp at c3 ⊢;omega)
  obtain rfl:=Option.some.inj H
  go_enter Try.func42,Try.ntmps42
  go_wp2
  go_ret
  exact ⟨zk,za⟩

def laws_eqAnswer.f (a0_0:ByteArray) (a0_1:ByteArray) (a0_2:Int) (a1_0:ByteArray) (a1_1:ByteArray) (a1_2:Int):Option (Bool):=if a0_0.toList=a1_0.toList then (if a0_1.toList=a1_1.toList then (if a0_2=a1_2 then (some true) else (some false)) else (some false)) else (some false)
set_option maxHeartbeats 8000000 in
set_option maxRecDepth 100000 in
theorem laws_eqAnswer.calls (a0_0:ByteArray) (a0_1:ByteArray) (a0_2:Int) (a1_0:ByteArray) (a1_1:ByteArray) (a1_2:Int) (r:Bool) (w:World) (h:laws_eqAnswer.f a0_0 a0_1 a0_2 a1_0 a1_1 a1_2=some r) :
 Calls Try.prog 106 #[.agg #[.string a0_0,.string a0_1,.int .i64 a0_2],.agg #[.string a1_0,.string a1_1,.int .i64 a1_2]] w fun e w'=>e = .returned (.bool r)∧Below w.heap.size w w':=by
 have hu125:=Try.underlying125
 have HB:=Aside0.mk (Below.refl w.heap.size w)
 have H:(if a0_0.toList=a1_0.toList then (if a0_1.toList=a1_1.toList then (if a0_2=a1_2 then (some true) else (some false)) else (some false)) else (some false))=some r:=h
 clear h
 by_cases c3:a0_0.toList=a1_0.toList
 ·rw [if_pos c3] at H
  have c3b0:(a0_0.toList == a1_0.toList)=true:=beq_iff_eq.mpr c3
  have c3b1:(a0_0.toList != a1_0.toList)=false:=bne_eq_false_iff_eq.mpr c3
  clear c3
  by_cases c4:a0_1.toList=a1_1.toList
  ·rw [if_pos c4] at H
   have c4b0:(a0_1.toList == a1_1.toList)=true:=beq_iff_eq.mpr c4
   have c4b1:(a0_1.toList != a1_1.toList)=false:=bne_eq_false_iff_eq.mpr c4
   clear c4
   by_cases c5:a0_2=a1_2
   ·rw [if_pos c5] at H
    have c5b0:(a0_2 == a1_2)=true:=beq_iff_eq.mpr c5
    have c5b1:(a0_2 != a1_2)=false:=bne_eq_false_iff_eq.mpr c5
    clear c5
    obtain rfl:=Option.some.inj H
    go_enter Try.func106,Try.ntmps106
    go_wp2_with (first|((with_reducible refine gate_dst (N:=2) rfl ?_);refine box_event ?hg (N:=2) ?hd (cs:=#[.string a0_0,.string a0_1,.int .i64 a0_2]) (t:=125) ?hr ?_;(case hd=>rfl);(case hg=>rfl);(case hr=>exact zt);intro gb101 hg w6 hbox hb;have n0_:=Aside0.mk (below_step za hb);have n1_:=Aside0.mk (hbox);have n2_:=Aside0.mk ((by rw [hg];exact (below_size za):w.heap.size≤gb101));have n3_:=Aside0.mk ((by rw [hg];exact (below_size za):w.heap.size≤gb101));clear HB;have HB:=n0_;have BK101:=n1_;have GW101:=n2_;have GE101:=n3_;clear n0_ n1_ n2_ n3_;clear hb hbox hg)|((with_reducible refine gate_dst (N:=3) rfl ?_);refine box_event ?hg (N:=3) ?hd (cs:=#[.string a1_0,.string a1_1,.int .i64 a1_2]) (t:=125) ?hr ?_;(case hd=>rfl);(case hg=>rfl);(case hr=>exact zt);intro gb102 hg w7 hbox hb;have n0_:=Aside0.mk (blk_below (g:=gb101) (o:=.cells #[.string a0_0,.string a0_1,.int .i64 a0_2] 125 (0,0)) ze hb);have n1_:=Aside0.mk (below_step zd hb);have n2_:=Aside0.mk (hbox);have n3_:=Aside0.mk ((by rw [hg];exact (below_size zd):w.heap.size≤gb102));have n4_:=Aside0.mk ((by rw [hg];exact (below_size zd):w.heap.size≤gb102));have n5_:=Aside0.mk ((by rw [hg];exact Nat.ne_of_lt (blk_lt (g:=gb101) (o:=.cells #[.string a0_0,.string a0_1,.int .i64 a0_2] 125 (0,0)) ze):gb101≠gb102));have n6_:=Aside0.mk ((by rw [hg];exact Nat.ne_of_gt (blk_lt (g:=gb101) (o:=.cells #[.string a0_0,.string a0_1,.int .i64 a0_2] 125 (0,0)) ze):gb102≠gb101));clear BK101;clear HB;have BK101:=n0_;have HB:=n1_;have BK102:=n2_;have GW102:=n3_;have GE102:=n4_;have NB101_102:=n5_;have NB102_101:=n6_;clear n0_ n1_ n2_ n3_ n4_ n5_ n6_;clear hb hbox hg;have hnb8:=NB101_102.out;have hnc8:=NB102_101.out;have hcz9_0:w7.cell? ⟨gb101,0,none⟩=some (.string a0_0):=(blk_cell BK101.out 0).trans rfl;have hcz9_1:w7.cell? ⟨gb101,1,none⟩=some (.string a0_1):=(blk_cell BK101.out 1).trans rfl;have hcz9_2:w7.cell? ⟨gb101,2,none⟩=some (.int .i64 a0_2):=(blk_cell BK101.out 2).trans rfl;have hfz9_0:=blk_frozen BK101.out 0;have hfz9_1:=blk_frozen BK101.out 1;have hfz9_2:=blk_frozen BK101.out 2;have hcz10_0:w7.cell? ⟨gb102,0,none⟩=some (.string a1_0):=(blk_cell BK102.out 0).trans rfl;have hcz10_1:w7.cell? ⟨gb102,1,none⟩=some (.string a1_1):=(blk_cell BK102.out 1).trans rfl;have hcz10_2:w7.cell? ⟨gb102,2,none⟩=some (.int .i64 a1_2):=(blk_cell BK102.out 2).trans rfl;have hfz10_0:=blk_frozen BK102.out 0;have hfz10_1:=blk_frozen BK102.out 1;have hfz10_2:=blk_frozen BK102.out 2))
    go_ret
    exact ⟨zk,zah⟩
   ·rw [if_neg c5] at H
    have c5b0:(a0_2 == a1_2)=false:=beq_eq_false_iff_ne.mpr c5
    have c5b1:(a0_2 != a1_2)=true:=bne_iff_ne.mpr c5
    obtain rfl:=Option.some.inj H
    go_enter Try.func106,Try.ntmps106
    go_wp2_with (first|((with_reducible refine gate_dst (N:=2) rfl ?_);refine box_event ?hg (N:=2) ?hd (cs:=#[.string a0_0,.string a0_1,.int .i64 a0_2]) (t:=125) ?hr ?_;(case hd=>rfl);(case hg=>rfl);(case hr=>exact zt);intro gb101 hg w11 hbox hb;have n0_:=Aside0.mk (below_step za hb);have n1_:=Aside0.mk (hbox);have n2_:=Aside0.mk ((by rw [hg];exact (below_size za):w.heap.size≤gb101));have n3_:=Aside0.mk ((by rw [hg];exact (below_size za):w.heap.size≤gb101));clear HB;have HB:=n0_;have BK101:=n1_;have GW101:=n2_;have GE101:=n3_;clear n0_ n1_ n2_ n3_;clear hb hbox hg)|((with_reducible refine gate_dst (N:=3) rfl ?_);refine box_event ?hg (N:=3) ?hd (cs:=#[.string a1_0,.string a1_1,.int .i64 a1_2]) (t:=125) ?hr ?_;(case hd=>rfl);(case hg=>rfl);(case hr=>exact zt);intro gb102 hg w12 hbox hb;have n0_:=Aside0.mk (blk_below (g:=gb101) (o:=.cells #[.string a0_0,.string a0_1,.int .i64 a0_2] 125 (0,0)) ze hb);have n1_:=Aside0.mk (below_step zd hb);have n2_:=Aside0.mk (hbox);have n3_:=Aside0.mk ((by rw [hg];exact (below_size zd):w.heap.size≤gb102));have n4_:=Aside0.mk ((by rw [hg];exact (below_size zd):w.heap.size≤gb102));have n5_:=Aside0.mk ((by rw [hg];exact Nat.ne_of_lt (blk_lt (g:=gb101) (o:=.cells #[.string a0_0,.string a0_1,.int .i64 a0_2] 125 (0,0)) ze):gb101≠gb102));have n6_:=Aside0.mk ((by rw [hg];exact Nat.ne_of_gt (blk_lt (g:=gb101) (o:=.cells #[.string a0_0,.string a0_1,.int .i64 a0_2] 125 (0,0)) ze):gb102≠gb101));clear BK101;clear HB;have BK101:=n0_;have HB:=n1_;have BK102:=n2_;have GW102:=n3_;have GE102:=n4_;have NB101_102:=n5_;have NB102_101:=n6_;clear n0_ n1_ n2_ n3_ n4_ n5_ n6_;clear hb hbox hg;have hnb13:=NB101_102.out;have hnc13:=NB102_101.out;have hcz14_0:w12.cell? ⟨gb101,0,none⟩=some (.string a0_0):=(blk_cell BK101.out 0).trans rfl;have hcz14_1:w12.cell? ⟨gb101,1,none⟩=some (.string a0_1):=(blk_cell BK101.out 1).trans rfl;have hcz14_2:w12.cell? ⟨gb101,2,none⟩=some (.int .i64 a0_2):=(blk_cell BK101.out 2).trans rfl;have hfz14_0:=blk_frozen BK101.out 0;have hfz14_1:=blk_frozen BK101.out 1;have hfz14_2:=blk_frozen BK101.out 2;have hcz15_0:w12.cell? ⟨gb102,0,none⟩=some (.string a1_0):=(blk_cell BK102.out 0).trans rfl;have hcz15_1:w12.cell? ⟨gb102,1,none⟩=some (.string a1_1):=(blk_cell BK102.out 1).trans rfl;have hcz15_2:w12.cell? ⟨gb102,2,none⟩=some (.int .i64 a1_2):=(blk_cell BK102.out 2).trans rfl;have hfz15_0:=blk_frozen BK102.out 0;have hfz15_1:=blk_frozen BK102.out 1;have hfz15_2:=blk_frozen BK102.out 2))
    go_ret
    exact ⟨zk,zah⟩
  ·rw [if_neg c4] at H
   have c4b0:(a0_1.toList == a1_1.toList)=false:=beq_eq_false_iff_ne.mpr c4
   have c4b1:(a0_1.toList != a1_1.toList)=true:=bne_iff_ne.mpr c4
   obtain rfl:=Option.some.inj H
   go_enter Try.func106,Try.ntmps106
   go_wp2_with (first|((with_reducible refine gate_dst (N:=2) rfl ?_);refine box_event ?hg (N:=2) ?hd (cs:=#[.string a0_0,.string a0_1,.int .i64 a0_2]) (t:=125) ?hr ?_;(case hd=>rfl);(case hg=>rfl);(case hr=>exact zt);intro gb101 hg w16 hbox hb;have n0_:=Aside0.mk (below_step za hb);have n1_:=Aside0.mk (hbox);have n2_:=Aside0.mk ((by rw [hg];exact (below_size za):w.heap.size≤gb101));have n3_:=Aside0.mk ((by rw [hg];exact (below_size za):w.heap.size≤gb101));clear HB;have HB:=n0_;have BK101:=n1_;have GW101:=n2_;have GE101:=n3_;clear n0_ n1_ n2_ n3_;clear hb hbox hg)|((with_reducible refine gate_dst (N:=3) rfl ?_);refine box_event ?hg (N:=3) ?hd (cs:=#[.string a1_0,.string a1_1,.int .i64 a1_2]) (t:=125) ?hr ?_;(case hd=>rfl);(case hg=>rfl);(case hr=>exact zt);intro gb102 hg w17 hbox hb;have n0_:=Aside0.mk (blk_below (g:=gb101) (o:=.cells #[.string a0_0,.string a0_1,.int .i64 a0_2] 125 (0,0)) ze hb);have n1_:=Aside0.mk (below_step zd hb);have n2_:=Aside0.mk (hbox);have n3_:=Aside0.mk ((by rw [hg];exact (below_size zd):w.heap.size≤gb102));have n4_:=Aside0.mk ((by rw [hg];exact (below_size zd):w.heap.size≤gb102));have n5_:=Aside0.mk ((by rw [hg];exact Nat.ne_of_lt (blk_lt (g:=gb101) (o:=.cells #[.string a0_0,.string a0_1,.int .i64 a0_2] 125 (0,0)) ze):gb101≠gb102));have n6_:=Aside0.mk ((by rw [hg];exact Nat.ne_of_gt (blk_lt (g:=gb101) (o:=.cells #[.string a0_0,.string a0_1,.int .i64 a0_2] 125 (0,0)) ze):gb102≠gb101));clear BK101;clear HB;have BK101:=n0_;have HB:=n1_;have BK102:=n2_;have GW102:=n3_;have GE102:=n4_;have NB101_102:=n5_;have NB102_101:=n6_;clear n0_ n1_ n2_ n3_ n4_ n5_ n6_;clear hb hbox hg;have hnb18:=NB101_102.out;have hnc18:=NB102_101.out;have hcz19_0:w17.cell? ⟨gb101,0,none⟩=some (.string a0_0):=(blk_cell BK101.out 0).trans rfl;have hcz19_1:w17.cell? ⟨gb101,1,none⟩=some (.string a0_1):=(blk_cell BK101.out 1).trans rfl;have hcz19_2:w17.cell? ⟨gb101,2,none⟩=some (.int .i64 a0_2):=(blk_cell BK101.out 2).trans rfl;have hfz19_0:=blk_frozen BK101.out 0;have hfz19_1:=blk_frozen BK101.out 1;have hfz19_2:=blk_frozen BK101.out 2;have hcz20_0:w17.cell? ⟨gb102,0,none⟩=some (.string a1_0):=(blk_cell BK102.out 0).trans rfl;have hcz20_1:w17.cell? ⟨gb102,1,none⟩=some (.string a1_1):=(blk_cell BK102.out 1).trans rfl;have hcz20_2:w17.cell? ⟨gb102,2,none⟩=some (.int .i64 a1_2):=(blk_cell BK102.out 2).trans rfl;have hfz20_0:=blk_frozen BK102.out 0;have hfz20_1:=blk_frozen BK102.out 1;have hfz20_2:=blk_frozen BK102.out 2))
   go_ret
   exact ⟨zk,zah⟩
 ·rw [if_neg c3] at H
  have c3b0:(a0_0.toList == a1_0.toList)=false:=beq_eq_false_iff_ne.mpr c3
  have c3b1:(a0_0.toList != a1_0.toList)=true:=bne_iff_ne.mpr c3
  obtain rfl:=Option.some.inj H
  go_enter Try.func106,Try.ntmps106
  go_wp2_with (first|((with_reducible refine gate_dst (N:=2) rfl ?_);refine box_event ?hg (N:=2) ?hd (cs:=#[.string a0_0,.string a0_1,.int .i64 a0_2]) (t:=125) ?hr ?_;(case hd=>rfl);(case hg=>rfl);(case hr=>exact zt);intro gb101 hg w21 hbox hb;have n0_:=Aside0.mk (below_step za hb);have n1_:=Aside0.mk (hbox);have n2_:=Aside0.mk ((by rw [hg];exact (below_size za):w.heap.size≤gb101));have n3_:=Aside0.mk ((by rw [hg];exact (below_size za):w.heap.size≤gb101));clear HB;have HB:=n0_;have BK101:=n1_;have GW101:=n2_;have GE101:=n3_;clear n0_ n1_ n2_ n3_;clear hb hbox hg)|((with_reducible refine gate_dst (N:=3) rfl ?_);refine box_event ?hg (N:=3) ?hd (cs:=#[.string a1_0,.string a1_1,.int .i64 a1_2]) (t:=125) ?hr ?_;(case hd=>rfl);(case hg=>rfl);(case hr=>exact zt);intro gb102 hg w22 hbox hb;have n0_:=Aside0.mk (blk_below (g:=gb101) (o:=.cells #[.string a0_0,.string a0_1,.int .i64 a0_2] 125 (0,0)) ze hb);have n1_:=Aside0.mk (below_step zd hb);have n2_:=Aside0.mk (hbox);have n3_:=Aside0.mk ((by rw [hg];exact (below_size zd):w.heap.size≤gb102));have n4_:=Aside0.mk ((by rw [hg];exact (below_size zd):w.heap.size≤gb102));have n5_:=Aside0.mk ((by rw [hg];exact Nat.ne_of_lt (blk_lt (g:=gb101) (o:=.cells #[.string a0_0,.string a0_1,.int .i64 a0_2] 125 (0,0)) ze):gb101≠gb102));have n6_:=Aside0.mk ((by rw [hg];exact Nat.ne_of_gt (blk_lt (g:=gb101) (o:=.cells #[.string a0_0,.string a0_1,.int .i64 a0_2] 125 (0,0)) ze):gb102≠gb101));clear BK101;clear HB;have BK101:=n0_;have HB:=n1_;have BK102:=n2_;have GW102:=n3_;have GE102:=n4_;have NB101_102:=n5_;have NB102_101:=n6_;clear n0_ n1_ n2_ n3_ n4_ n5_ n6_;clear hb hbox hg;have hnb23:=NB101_102.out;have hnc23:=NB102_101.out;have hcz24_0:w22.cell? ⟨gb101,0,none⟩=some (.string a0_0):=(blk_cell BK101.out 0).trans rfl;have hcz24_1:w22.cell? ⟨gb101,1,none⟩=some (.string a0_1):=(blk_cell BK101.out 1).trans rfl;have hcz24_2:w22.cell? ⟨gb101,2,none⟩=some (.int .i64 a0_2):=(blk_cell BK101.out 2).trans rfl;have hfz24_0:=blk_frozen BK101.out 0;have hfz24_1:=blk_frozen BK101.out 1;have hfz24_2:=blk_frozen BK101.out 2;have hcz25_0:w22.cell? ⟨gb102,0,none⟩=some (.string a1_0):=(blk_cell BK102.out 0).trans rfl;have hcz25_1:w22.cell? ⟨gb102,1,none⟩=some (.string a1_1):=(blk_cell BK102.out 1).trans rfl;have hcz25_2:w22.cell? ⟨gb102,2,none⟩=some (.int .i64 a1_2):=(blk_cell BK102.out 2).trans rfl;have hfz25_0:=blk_frozen BK102.out 0;have hfz25_1:=blk_frozen BK102.out 1;have hfz25_2:=blk_frozen BK102.out 2))
  go_ret
  exact ⟨zk,zah⟩

def laws_eqAnswerS.l0:Nat→List (S125)→List (S125)→Int→Option (Bool)
 | 0,_,_,_=>none
 | k+1,x0,x1,x5=>if x5<(x0.length:Int) then (if 0≤x5 then (if x5<(x1.length:Int) then ((laws_eqAnswer.f ((rd_T125 x0 x5).f0) ((rd_T125 x0 x5).f1) ((rd_T125 x0 x5).f2) ((rd_T125 x1 x5).f0) ((rd_T125 x1 x5).f1) ((rd_T125 x1 x5).f2)).bind fun t103=>(if t103=true then (laws_eqAnswerS.l0 k x0 x1 (wrap64 (x5+1))) else (some false))) else (none)) else (none)) else (some true)
def laws_eqAnswerS.f (k:Nat) (l0:List (S125)) (l1:List (S125)):Option (Bool):=if (l0.length:Int)=(l1.length:Int) then (laws_eqAnswerS.l0 k l0 l1 0) else (some false)
def laws_eqAnswerS.T6:Bool × List (List Nat × List Nat):=(true,[([],[]),([],[]),([0,1],[0,1]),([2],[2]),([],[]),([],[]),([4,5],[4,5]),([6],[6]),([3,7],[3,7]),([8],[8])])
def laws_eqAnswerS.B6:List Nat:=[0,0,3,7,0,0,48,112,255,511]
theorem laws_eqAnswerS.tab6:rtab .any (opsOf Try.f43 6)=laws_eqAnswerS.T6:=by kernel_rfl
theorem laws_eqAnswerS.bits6:waitsOk laws_eqAnswerS.T6.2 laws_eqAnswerS.B6=true:=by kernel_rfl
set_option maxHeartbeats 8000000 in
set_option maxRecDepth 100000 in
theorem laws_eqAnswerS.calls (k:Nat) (A0:Option Addr) (c0:Nat) (l0:List (S125)) (A1:Option Addr) (c1:Nat) (l1:List (S125)) (r:Bool) (w:World) (hr0:Kd.C k125 w A0 l0.length l0) (hc0:l0.length≤c0) (hr1:Kd.C k125 w A1 l1.length l1) (hc1:l1.length≤c1) (h:laws_eqAnswerS.f k l0 l1=some r) :
 Calls Try.prog 43 #[.slice A0 l0.length c0,.slice A1 l1.length c1] w fun e w'=>e = .returned (.bool r)∧Below w.heap.size w w':=by
 have hu125:=Try.underlying125
 have HR0:=Aside0.mk hr0
 have HC0:=Aside0.mk hc0
 clear hr0 hc0
 have HR1:=Aside0.mk hr1
 have HC1:=Aside0.mk hc1
 clear hr1 hc1
 have HB:=Aside0.mk (Below.refl w.heap.size w)
 have H:(if (l0.length:Int)=(l1.length:Int) then (laws_eqAnswerS.l0 k l0 l1 0) else (some false))=some r:=h
 clear h
 by_cases c3:(l0.length:Int)=(l1.length:Int)
 ·rw [if_pos c3] at H
  have c3b0:((l0.length:Int) == (l1.length:Int))=true:=beq_iff_eq.mpr c3
  have c3b1:((l0.length:Int) != (l1.length:Int))=false:=bne_eq_false_iff_eq.mpr c3
  have c3b2:(l0.length == l1.length)=true:=by first|simpa using c3|(simp at c3 ⊢;omega)
  clear c3
  have H':=Aside0.mk H
  clear H
  go_enter Try.func43,Try.ntmps43
  go_wp2
  go_loopg [5] k (fun kq v5 w'=>∃(x5_1:Int),v5 = .int .i64 x5_1∧Aside0 (laws_eqAnswerS.l0 kq l0 l1 x5_1=some r)∧Aside0 (kq≤k)∧Aside0 (Below w.heap.size w w'))
  case atStart=>exact ⟨(0),zm,H',⟨Nat.le_refl _⟩,⟨za⟩⟩
  case round=>
   clear H'
   try clear c1
   try clear p2
   try clear c3
   try clear c3b0
   try clear c3b1
   try clear c3b2
   obtain ⟨x5_1,rfl,HA,HK1,HB⟩:=hrel
   cases gk with
   | zero=>exact absurd HA.out (by simp [laws_eqAnswerS.l0])
   | succ k1=>
    have H:=HA.out
    clear HA
    simp only [laws_eqAnswerS.l0] at H
    by_cases c4:x5_1<(l0.length:Int)
    ·rw [if_pos c4] at H
     have c4b0:decide (x5_1<(l0.length:Int))=true:=decide_eq_true c4
     clear c4
     by_cases c5:0≤x5_1
     ·rw [if_pos c5] at H
      have c5b0:decide (0≤x5_1)=true:=decide_eq_true c5
      clear c5
      by_cases c6:x5_1<(l1.length:Int)
      ·rw [if_pos c6] at H
       have c6b0:decide (x5_1<(l1.length:Int))=true:=decide_eq_true c6
       clear c6
       replace H:=Option.bind_eq_some_iff.mp H
       obtain ⟨t103,A70,H⟩:=H
       replace H:(if t103=true then (laws_eqAnswerS.l0 k1 l0 l1 (wrap64 (x5_1+1))) else (some false))=some r:=H
       have A7:=Aside0.mk A70
       clear A70
       by_cases c8:t103=true
       ·subst c8
        have H1:(laws_eqAnswerS.l0 k1 l0 l1 (wrap64 (x5_1+1)))=some r:=by rw [if_pos rfl] at H;exact H
        clear H
        have H:=H1
        clear H1
        have H':=Aside0.mk H
        clear H
        try go_wp2
        replace HB:=Aside0.mk (below_drew1 HB.out)
        have p101:0≤(x5_1:Int):=of_decide_eq_true zb
        have q101:x5_1<(l0.length:Int):=of_decide_eq_true zb
        obtain ⟨ad101,e101,hx101_0,hx101_1,hx101_2⟩:=at_T125 HR0.out x5_1 p101 q101
        have hw101_2:=hx101_2
        have hw101_1:=hx101_1
        have hw101_0:=hx101_0
        cases e101
        replace hx101_0:=(HB.out.cell (World.block_lt_of_cell? w _ hx101_0)).trans hx101_0
        replace hx101_1:=(HB.out.cell (World.block_lt_of_cell? w _ hx101_1)).trans hx101_1
        replace hx101_2:=(HB.out.cell (World.block_lt_of_cell? w _ hx101_2)).trans hx101_2
        replace p101:=eq_true p101
        replace q101:=eq_true q101
        have p102:0≤(x5_1:Int):=of_decide_eq_true zb
        have q102:x5_1<(l1.length:Int):=of_decide_eq_true zb
        obtain ⟨ad102,e102,hx102_0,hx102_1,hx102_2⟩:=at_T125 HR1.out x5_1 p102 q102
        have hw102_2:=hx102_2
        have hw102_1:=hx102_1
        have hw102_0:=hx102_0
        cases e102
        replace hx102_0:=(HB.out.cell (World.block_lt_of_cell? w _ hx102_0)).trans hx102_0
        replace hx102_1:=(HB.out.cell (World.block_lt_of_cell? w _ hx102_1)).trans hx102_1
        replace hx102_2:=(HB.out.cell (World.block_lt_of_cell? w _ hx102_2)).trans hx102_2
        replace p102:=eq_true p102
        replace q102:=eq_true q102
        refine start_ (n:=10) (S:=fun w'=>w'.cell? (ad101.add ((x5_1).toNat*3))=some (.string ((rd_T125 l0 x5_1).f0))∧w'.cell? ⟨(ad101.add ((x5_1).toNat*3)).block,(ad101.add ((x5_1).toNat*3)).off+1,none⟩=some (.string ((rd_T125 l0 x5_1).f1))∧w'.cell? ⟨(ad101.add ((x5_1).toNat*3)).block,(ad101.add ((x5_1).toNat*3)).off+2,none⟩=some (.int .i64 ((rd_T125 l0 x5_1).f2))∧w'.cell? (ad102.add ((x5_1).toNat*3))=some (.string ((rd_T125 l1 x5_1).f0))∧w'.cell? ⟨(ad102.add ((x5_1).toNat*3)).block,(ad102.add ((x5_1).toNat*3)).off+1,none⟩=some (.string ((rd_T125 l1 x5_1).f1))∧w'.cell? ⟨(ad102.add ((x5_1).toNat*3)).block,(ad102.add ((x5_1).toNat*3)).off+2,none⟩=some (.int .i64 ((rd_T125 l1 x5_1).f2))) (ds:=[]) #[false,false,false,false,false,false,false,false,false,false] zbk rfl rfl ⟨((HB.out.cell (World.block_lt_of_cell? w _ hw101_0)).trans hw101_0),((HB.out.cell (World.block_lt_of_cell? w _ hw101_1)).trans hw101_1),((HB.out.cell (World.block_lt_of_cell? w _ hw101_2)).trans hw101_2),((HB.out.cell (World.block_lt_of_cell? w _ hw102_0)).trans hw102_0),((HB.out.cell (World.block_lt_of_cell? w _ hw102_1)).trans hw102_1),((HB.out.cell (World.block_lt_of_cell? w _ hw102_2)).trans hw102_2)⟩ (fun hHeld=>?_);refine with_tabW laws_eqAnswerS.tab6 laws_eqAnswerS.bits6 (fun HT_ HW_=>?_)
        generalize wr.drew=w9 at HB hx101_0 hx101_1 hx101_2 hx102_0 hx102_1 hx102_2 hHeld ⊢
        refine pA 0 17 ?_
        refine pA 1 18 ?_
        refine pA 2 19 ?_
        refine pA 4 21 ?_
        refine pA 5 22 ?_
        refine pA 6 23 ?_
        refine pT 3 20 rfl zao ?_
        refine pT 7 24 rfl zao ?_
        refine one_ (i:=8) (N:=some 25) #[true,true,true,true,true,true,true,true,true,false] rfl rfl (one_of HT_.out zbk) zbq (fun K hK=>?_)
        refine goes_ Try.func106 zbk rfl #[.agg #[.string ((rd_T125 l0 x5_1).f0),.string ((rd_T125 l0 x5_1).f1),.int .i64 ((rd_T125 l0 x5_1).f2)],.agg #[.string ((rd_T125 l1 x5_1).f0),.string ((rd_T125 l1 x5_1).f1),.int .i64 ((rd_T125 l1 x5_1).f2)]] (by rfl) rfl rfl zc ?_
        with_reducible refine (laws_eqAnswer.calls ((rd_T125 l0 x5_1).f0) ((rd_T125 l0 x5_1).f1) ((rd_T125 l0 x5_1).f2) ((rd_T125 l1 x5_1).f0) ((rd_T125 l1 x5_1).f1) ((rd_T125 l1 x5_1).f2) true _ A7.out).mono ?_
        rintro e w10 ⟨rfl,hb⟩
        refine ⟨_,rfl,?_⟩
        replace HB:=Aside0.mk (below_step za hb)
        (try clear hb)
        (try clear hb2)
        (try clear hk)
        (try clear hi)
        refine hK.out _ _ ⟨((HB.out.cell (World.block_lt_of_cell? w _ hw101_0)).trans hw101_0),((HB.out.cell (World.block_lt_of_cell? w _ hw101_1)).trans hw101_1),((HB.out.cell (World.block_lt_of_cell? w _ hw101_2)).trans hw101_2),((HB.out.cell (World.block_lt_of_cell? w _ hw102_0)).trans hw102_0),((HB.out.cell (World.block_lt_of_cell? w _ hw102_1)).trans hw102_1),((HB.out.cell (World.block_lt_of_cell? w _ hw102_2)).trans hw102_2)⟩ (fun hHeld=>?_)
        clear hK K
        refine pN 25 ?_
        refine pA 9 26 ?_
        refine done_ (done_of HT_.out zbk) ?_
        try go_wp2
        go_roundg k1
        case measure=>have:=HK1.out;omega
        case rel=>exact ⟨(wrap64 (x5_1+1)),zm,H',⟨zdn⟩,⟨za⟩⟩
       ·replace c8:=Bool.eq_false_iff.mpr c8
        subst c8
        have H1:(some false)=some r:=by rw [if_neg (show ¬ (false=true) by decide)] at H;exact H
        clear H
        have H:=H1
        clear H1
        obtain rfl:=Option.some.inj H
        try go_wp2
        replace HB:=Aside0.mk (below_drew1 HB.out)
        have p101:0≤(x5_1:Int):=of_decide_eq_true zb
        have q101:x5_1<(l0.length:Int):=of_decide_eq_true zb
        obtain ⟨ad101,e101,hx101_0,hx101_1,hx101_2⟩:=at_T125 HR0.out x5_1 p101 q101
        have hw101_2:=hx101_2
        have hw101_1:=hx101_1
        have hw101_0:=hx101_0
        cases e101
        replace hx101_0:=(HB.out.cell (World.block_lt_of_cell? w _ hx101_0)).trans hx101_0
        replace hx101_1:=(HB.out.cell (World.block_lt_of_cell? w _ hx101_1)).trans hx101_1
        replace hx101_2:=(HB.out.cell (World.block_lt_of_cell? w _ hx101_2)).trans hx101_2
        replace p101:=eq_true p101
        replace q101:=eq_true q101
        have p102:0≤(x5_1:Int):=of_decide_eq_true zb
        have q102:x5_1<(l1.length:Int):=of_decide_eq_true zb
        obtain ⟨ad102,e102,hx102_0,hx102_1,hx102_2⟩:=at_T125 HR1.out x5_1 p102 q102
        have hw102_2:=hx102_2
        have hw102_1:=hx102_1
        have hw102_0:=hx102_0
        cases e102
        replace hx102_0:=(HB.out.cell (World.block_lt_of_cell? w _ hx102_0)).trans hx102_0
        replace hx102_1:=(HB.out.cell (World.block_lt_of_cell? w _ hx102_1)).trans hx102_1
        replace hx102_2:=(HB.out.cell (World.block_lt_of_cell? w _ hx102_2)).trans hx102_2
        replace p102:=eq_true p102
        replace q102:=eq_true q102
        refine start_ (n:=10) (S:=fun w'=>w'.cell? (ad101.add ((x5_1).toNat*3))=some (.string ((rd_T125 l0 x5_1).f0))∧w'.cell? ⟨(ad101.add ((x5_1).toNat*3)).block,(ad101.add ((x5_1).toNat*3)).off+1,none⟩=some (.string ((rd_T125 l0 x5_1).f1))∧w'.cell? ⟨(ad101.add ((x5_1).toNat*3)).block,(ad101.add ((x5_1).toNat*3)).off+2,none⟩=some (.int .i64 ((rd_T125 l0 x5_1).f2))∧w'.cell? (ad102.add ((x5_1).toNat*3))=some (.string ((rd_T125 l1 x5_1).f0))∧w'.cell? ⟨(ad102.add ((x5_1).toNat*3)).block,(ad102.add ((x5_1).toNat*3)).off+1,none⟩=some (.string ((rd_T125 l1 x5_1).f1))∧w'.cell? ⟨(ad102.add ((x5_1).toNat*3)).block,(ad102.add ((x5_1).toNat*3)).off+2,none⟩=some (.int .i64 ((rd_T125 l1 x5_1).f2))) (ds:=[]) #[false,false,false,false,false,false,false,false,false,false] zbk rfl rfl ⟨((HB.out.cell (World.block_lt_of_cell? w _ hw101_0)).trans hw101_0),((HB.out.cell (World.block_lt_of_cell? w _ hw101_1)).trans hw101_1),((HB.out.cell (World.block_lt_of_cell? w _ hw101_2)).trans hw101_2),((HB.out.cell (World.block_lt_of_cell? w _ hw102_0)).trans hw102_0),((HB.out.cell (World.block_lt_of_cell? w _ hw102_1)).trans hw102_1),((HB.out.cell (World.block_lt_of_cell? w _ hw102_2)).trans hw102_2)⟩ (fun hHeld=>?_);refine with_tabW laws_eqAnswerS.tab6 laws_eqAnswerS.bits6 (fun HT_ HW_=>?_)
        generalize wr.drew=w11 at HB hx101_0 hx101_1 hx101_2 hx102_0 hx102_1 hx102_2 hHeld ⊢
        refine pA 0 17 ?_
        refine pA 1 18 ?_
        refine pA 2 19 ?_
        refine pA 4 21 ?_
        refine pA 5 22 ?_
        refine pA 6 23 ?_
        refine pT 3 20 rfl zao ?_
        refine pT 7 24 rfl zao ?_
        refine one_ (i:=8) (N:=some 25) #[true,true,true,true,true,true,true,true,true,false] rfl rfl (one_of HT_.out zbk) zbq (fun K hK=>?_)
        refine goes_ Try.func106 zbk rfl #[.agg #[.string ((rd_T125 l0 x5_1).f0),.string ((rd_T125 l0 x5_1).f1),.int .i64 ((rd_T125 l0 x5_1).f2)],.agg #[.string ((rd_T125 l1 x5_1).f0),.string ((rd_T125 l1 x5_1).f1),.int .i64 ((rd_T125 l1 x5_1).f2)]] (by rfl) rfl rfl zc ?_
        with_reducible refine (laws_eqAnswer.calls ((rd_T125 l0 x5_1).f0) ((rd_T125 l0 x5_1).f1) ((rd_T125 l0 x5_1).f2) ((rd_T125 l1 x5_1).f0) ((rd_T125 l1 x5_1).f1) ((rd_T125 l1 x5_1).f2) false _ A7.out).mono ?_
        rintro e w12 ⟨rfl,hb⟩
        refine ⟨_,rfl,?_⟩
        replace HB:=Aside0.mk (below_step za hb)
        (try clear hb)
        (try clear hb2)
        (try clear hk)
        (try clear hi)
        refine hK.out _ _ ⟨((HB.out.cell (World.block_lt_of_cell? w _ hw101_0)).trans hw101_0),((HB.out.cell (World.block_lt_of_cell? w _ hw101_1)).trans hw101_1),((HB.out.cell (World.block_lt_of_cell? w _ hw101_2)).trans hw101_2),((HB.out.cell (World.block_lt_of_cell? w _ hw102_0)).trans hw102_0),((HB.out.cell (World.block_lt_of_cell? w _ hw102_1)).trans hw102_1),((HB.out.cell (World.block_lt_of_cell? w _ hw102_2)).trans hw102_2)⟩ (fun hHeld=>?_)
        clear hK K
        refine pN 25 ?_
        refine pA 9 26 ?_
        refine done_ (done_of HT_.out zbk) ?_
        try go_wp2
        go_ret
        exact ⟨zk,za⟩
      ·rw [if_neg c6] at H
       exact absurd H zdd
     ·rw [if_neg c5] at H
      exact absurd H zdd
    ·rw [if_neg c4] at H
     have c4b0:decide (x5_1<(l0.length:Int))=false:=decide_eq_false c4
     clear c4
     obtain rfl:=Option.some.inj H
     go_wp2
     go_ret
     exact ⟨zk,za⟩
 ·rw [if_neg c3] at H
  have c3b0:((l0.length:Int) == (l1.length:Int))=false:=beq_eq_false_iff_ne.mpr c3
  have c3b1:((l0.length:Int) != (l1.length:Int))=true:=bne_iff_ne.mpr c3
  have c3b2:(l0.length == l1.length)=false:=by first|simpa using c3|(simp at c3 ⊢;omega)
  obtain rfl:=Option.some.inj H
  go_enter Try.func43,Try.ntmps43
  go_wp2
  go_ret
  exact ⟨zk,za⟩

def laws_markText.l0:Nat→Int→ByteArray→Option (ByteArray)
 | 0,_,_=>none
 | k+1,x0,x3=>if x0 > 0 then ((some (([(wrap64 (48+(Int.tmod x0 10)))%256]:List Int):List Int)).bind fun y101=>(if (strOfNums y101).size+x3.size≤9223372036854775807 then (laws_markText.l0 k (wrap64 (Int.tdiv x0 10)) ((strOfNums y101)++x3)) else (none))) else (if 1+x3.size≤9223372036854775807 then (some ((⟨#[109]⟩:ByteArray)++x3)) else (none))
def laws_markText.f (k:Nat) (a0:Int):Option (ByteArray):=if a0≤0 then (some (⟨#[109,48]⟩:ByteArray)) else (laws_markText.l0 k a0 (⟨#[]⟩:ByteArray))
theorem laws_markText.mono_l:∀k,(∀y0 y1,LeO (laws_markText.l0 k y0 y1) (laws_markText.l0 (k+1) y0 y1))
 | 0=>fun _ _ r h=>by simp [laws_markText.l0] at h
 | k+1=>by
  have ih0:=laws_markText.mono_l k
  ·intro y0 y1
   unfold laws_markText.l0
   repeat' first
   | (with_reducible exact ih0 _ _)
   | (with_reducible exact LeO.refl _)
   | (with_reducible exact LeO.none _)
   | (with_reducible refine LeO.ite ?_ ?_)
   | (with_reducible refine LeO.bind ?_ (fun _=>?_))
   | exact ih0 _ _
   | exact LeO.none _
   | refine LeO.ite ?_ ?_
   | refine LeO.bind ?_ (fun _=>?_)
theorem laws_markText.mono:∀a0 k,LeO (laws_markText.f k a0) (laws_markText.f (k+1) a0):=by
 intro a0 k
 have ih0:=laws_markText.mono_l k
 unfold laws_markText.f
 repeat' first
  | (with_reducible exact ih0 _ _)
  | (with_reducible exact LeO.refl _)
  | (with_reducible exact LeO.none _)
  | (with_reducible refine LeO.ite ?_ ?_)
  | (with_reducible refine LeO.bind ?_ (fun _=>?_))
  | exact ih0 _ _
  | exact LeO.none _
  | refine LeO.ite ?_ ?_
  | refine LeO.bind ?_ (fun _=>?_)
set_option maxHeartbeats 8000000 in
set_option maxRecDepth 100000 in
theorem laws_markText.calls (k:Nat) (a0:Int) (r:ByteArray) (w:World) (h:laws_markText.f k a0=some r) :
 Calls Try.prog 66 #[.int .i64 a0] w fun e w'=>e = .returned (.string r)∧Below w.heap.size w w':=by
 have HB:=Aside0.mk (Below.refl w.heap.size w)
 have H:(if a0≤0 then (some (⟨#[109,48]⟩:ByteArray)) else (laws_markText.l0 k a0 (⟨#[]⟩:ByteArray)))=some r:=h
 clear h
 by_cases c2:a0≤0
 ·rw [if_pos c2] at H
  have c2b0:decide (a0≤0)=true:=decide_eq_true c2
  clear c2
  obtain rfl:=Option.some.inj H
  go_enter Try.func66,Try.ntmps66
  go_wp2
  go_ret
  exact ⟨zk,za⟩
 ·rw [if_neg c2] at H
  have c2b0:decide (a0≤0)=false:=decide_eq_false c2
  clear c2
  have H':=Aside0.mk H
  clear H
  go_enter Try.func66,Try.ntmps66
  go_wp2
  go_loopg [0,3] k (fun kq v0 v3 w'=>∃(x0_1:Int) (x3_1:ByteArray),v0 = .int .i64 x0_1∧v3 = .string x3_1∧Aside0 (laws_markText.l0 kq x0_1 x3_1=some r)∧Aside0 (kq≤k)∧Aside0 (Below w.heap.size w w'))
  case atStart=>exact ⟨(a0),((⟨#[]⟩:ByteArray)),zm,zm,H',⟨Nat.le_refl _⟩,⟨za⟩⟩
  case round=>
   clear H'
   try clear c2
   try clear c2b0
   try clear p2
   obtain ⟨x0_1,x3_1,rfl,rfl,HA,HK1,HB⟩:=hrel
   cases gk with
   | zero=>exact absurd HA.out (by simp [laws_markText.l0])
   | succ k1=>
    have H:=HA.out
    clear HA
    simp only [laws_markText.l0] at H
    by_cases c3:x0_1 > 0
    ·rw [if_pos c3] at H
     have c3b0:decide (0<x0_1)=true:=decide_eq_true c3
     clear c3
     obtain ⟨y101,hy101⟩:∃y_:List Int,y_=(([(wrap64 (48+(Int.tmod x0_1 10)))%256]:List Int)):=⟨_,rfl⟩
     replace H:(if (strOfNums y101).size+x3_1.size≤9223372036854775807 then (laws_markText.l0 k1 (wrap64 (Int.tdiv x0_1 10)) ((strOfNums y101)++x3_1)) else (none))=some r:=by first|(rw [hy101];with_reducible exact H)|(have H2_:=(Option.bind_some _ _).symm.trans H;rw [hy101];with_reducible exact H2_)|(have H2_:=(Option.bind_some _ _).symm.trans H;with_reducible exact H2_)|with_reducible exact H|(rw [hy101];exact H)|exact H
     have Ny101:=Aside0.mk hy101
     clear hy101
     by_cases c4:(strOfNums y101).size+x3_1.size≤9223372036854775807
     ·rw [if_pos c4] at H
      have c4b0:=eq_true c4
      have c4b1:decide ((strOfNums y101).size+x3_1.size≤9223372036854775807)=true:=decide_eq_true c4
      try have c4b2:(9223372036854775807<(strOfNums y101).size+x3_1.size)=False:=eq_false (Nat.not_lt.2 c4)
      have H':=Aside0.mk H
      clear H
      go_wp2_with (first|((with_reducible refine gate_dst (N:=12) rfl ?_);refine Kd.R_lit (Kd.int .u8) _ 5 ?hg (N:=12) ?hd (xs:=([(wrap64 (48+(Int.tmod x0_1 10)))%256]:List Int)) (inner:=[.int .u8 ((wrap64 (48+(Int.tmod x0_1 10)))%256)]) (ok:=fun _=>True) (okp:=fun _=>True) ?hr ?hp (fun _ hk=>hk) trivial (Below.refl _ _) (Nat.le_refl _) zdd ?_;(case hd=>rfl);(case hg=>rfl);(case hr=>exact zt);(case hp=>exact (Reps.one (show Kd.M (Kd.int .u8) _ _ _ ((wrap64 (48+(Int.tmod x0_1 10)))%256) [.int .u8 ((wrap64 (48+(Int.tmod x0_1 10)))%256)] from rfl) (Reps.none _ _)));intro v102 w5 ho6 hb hg_ hnew_;clear hg_ hnew_;(first|rw [←Ny101.out] at ho6|(simp only [Int.reduceToNat] at ho6;rw [←Ny101.out] at ho6));have HO103:=Aside0.mk (Kd.R_lower ho6 (below_size za));replace HB:=Aside0.mk (below_step za hb);clear hb ho6;have hcv7:=own_string (P:=Try.prog) Try.underlying44 Try.underlying5 Try.underlying9 (Kd.own_of_R HO103.out)))
      go_roundg k1
      case measure=>have:=HK1.out;omega
      case rel=>exact ⟨(wrap64 (Int.tdiv x0_1 10)),((strOfNums y101)++x3_1),zm,zm,H',⟨zdn⟩,⟨za⟩⟩
     ·rw [if_neg c4] at H
      exact absurd H zdd
    ·rw [if_neg c3] at H
     have c3b0:decide (0<x0_1)=false:=decide_eq_false c3
     clear c3
     by_cases c8:1+x3_1.size≤9223372036854775807
     ·rw [if_pos c8] at H
      have c8b0:=eq_true c8
      have c8b1:decide (1+x3_1.size≤9223372036854775807)=true:=decide_eq_true c8
      try have c8b2:(9223372036854775807<1+x3_1.size)=False:=eq_false (Nat.not_lt.2 c8)
      obtain rfl:=Option.some.inj H
      go_wp2
      go_ret
      exact ⟨zk,za⟩
     ·rw [if_neg c8] at H
      exact absurd H zdd

def laws_markTurnS.l0:Nat→List (S127)→Int→Int→Option (Int × (List (S127)))
 | 0,_,_,_=>none
 | k+1,x0,x1,x5=>if x5<(x0.length:Int) then ((laws_markText.f k x1).bind fun t101=>(if 0≤x5 then ((some (x0.set (x5:Int).toNat (⟨t101,(rd_T127 x0 x5).f1,(rd_T127 x0 x5).f2⟩:S127):List (S127))).bind fun y102=>((some (y102.set (x5:Int).toNat (⟨(rd_T127 y102 x5).f0,wrap64 (x1+1),(rd_T127 y102 x5).f2⟩:S127):List (S127))).bind fun y103=>(laws_markTurnS.l0 k (y103.set (x5:Int).toNat (⟨(rd_T127 y103 x5).f0,(rd_T127 y103 x5).f1,wrap64 ((wrap64 (x1+1))+1)⟩:S127)) (wrap64 ((wrap64 ((wrap64 (x1+1))+1))+1)) (wrap64 (x5+1))))) else (none))) else (some (x1,x0))
def laws_markTurnS.f (k:Nat) (l0:List (S127)) (a1:Int):Option (Int × (List (S127))):=laws_markTurnS.l0 k l0 a1 0
set_option maxHeartbeats 8000000 in
set_option maxRecDepth 100000 in
theorem laws_markTurnS.calls (k:Nat) (P0_:Nat→Prop) (u9000_:Value) (l0:List (S127)) (a1:Int) (r1:Int) (r2:List (S127)) (w0 w:World) (hB:Below w0.heap.size w0 w) (ho0:Kd.R k127 127 w w0.heap.size P0_ u9000_ l0) (h:laws_markTurnS.f k l0 a1=some (r1,r2)) :
 Calls Try.prog 44 #[u9000_,.int .i64 a1] w fun e w'=>e = .returned (.int .i64 r1)∧Kd.R k127 127 w' w0.heap.size (fun k_=>(P0_ k_∨w.heap.size≤k_)) u9000_ r2∧Below w0.heap.size w0 w'∧Kept w w' (fun k_=>P0_ k_):=by
 have HO0:=Aside0.mk (show Kd.R k127 127 w w0.heap.size (fun k_=>(P0_ k_∨w.heap.size≤k_)) u9000_ l0 from Kd.R_mono ho0 (fun k_ hk=>(.inl hk)))
 have HK:=Aside0.mk (Kept.refl w (fun k_=>P0_ k_))
 have HW0:=Aside0.mk hB.size
 have HB:=Aside0.mk hB
 clear hB
 have H:(laws_markTurnS.l0 k l0 a1 0)=some (r1,r2):=h
 clear h
 have H':=Aside0.mk H
 clear H
 go_enter Try.func44,Try.ntmps44
 go_wp2
 go_loopg [1,5] k (fun kq v1 v5 w'=>∃(x0_1:List (S127)) (x1_1:Int) (x5_1:Int),v1 = .int .i64 x1_1∧v5 = .int .i64 x5_1∧Aside0 (laws_markTurnS.l0 kq x0_1 x1_1 x5_1=some (r1,r2))∧Aside0 (kq≤k)∧Aside0 (Kd.R k127 127 w' w0.heap.size (fun k_=>(P0_ k_∨w.heap.size≤k_)) u9000_ x0_1)∧Aside0 (Kept w w' (fun k_=>P0_ k_))∧Aside0 (Below w0.heap.size w0 w'))
 case atStart=>exact ⟨(l0),(a1),(0),zm,zm,H',⟨Nat.le_refl _⟩,⟨by (with_reducible repeat (first|apply Kd.R_alloc|apply Kd.R_drewN|apply Kd.R_drew));exact HO0.out⟩,⟨zbo⟩,⟨za⟩⟩
 case round=>
  clear H'
  try clear p2
  obtain ⟨x0_1,x1_1,x5_1,rfl,rfl,HA,HK1,HO_0,HK,HB⟩:=hrel
  cases gk with
  | zero=>exact absurd HA.out (by simp [laws_markTurnS.l0])
  | succ k1=>
   have H:=HA.out
   clear HA
   simp only [laws_markTurnS.l0] at H
   by_cases c3:x5_1<(x0_1.length:Int)
   ·rw [if_pos c3] at H
    have c3b0:decide (x5_1<(x0_1.length:Int))=true:=decide_eq_true c3
    clear c3
    replace H:=Option.bind_eq_some_iff.mp H
    obtain ⟨t101,A40,H⟩:=H
    replace H:(if 0≤x5_1 then ((some (x0_1.set (x5_1:Int).toNat (⟨t101,(rd_T127 x0_1 x5_1).f1,(rd_T127 x0_1 x5_1).f2⟩:S127):List (S127))).bind fun y102=>((some (y102.set (x5_1:Int).toNat (⟨(rd_T127 y102 x5_1).f0,wrap64 (x1_1+1),(rd_T127 y102 x5_1).f2⟩:S127):List (S127))).bind fun y103=>(laws_markTurnS.l0 k1 (y103.set (x5_1:Int).toNat (⟨(rd_T127 y103 x5_1).f0,(rd_T127 y103 x5_1).f1,wrap64 ((wrap64 (x1_1+1))+1)⟩:S127)) (wrap64 ((wrap64 ((wrap64 (x1_1+1))+1))+1)) (wrap64 (x5_1+1))))) else (none))=some (r1,r2):=H
    have A4:=Aside0.mk A40
    clear A40
    by_cases c5:0≤x5_1
    ·rw [if_pos c5] at H
     have c5b0:decide (0≤x5_1)=true:=decide_eq_true c5
     clear c5
     obtain ⟨y102,hy102⟩:∃y_:List (S127),y_=(x0_1.set (x5_1:Int).toNat (⟨t101,(rd_T127 x0_1 x5_1).f1,(rd_T127 x0_1 x5_1).f2⟩:S127)):=⟨_,rfl⟩
     replace H:((some (y102.set (x5_1:Int).toNat (⟨(rd_T127 y102 x5_1).f0,wrap64 (x1_1+1),(rd_T127 y102 x5_1).f2⟩:S127):List (S127))).bind fun y103=>(laws_markTurnS.l0 k1 (y103.set (x5_1:Int).toNat (⟨(rd_T127 y103 x5_1).f0,(rd_T127 y103 x5_1).f1,wrap64 ((wrap64 (x1_1+1))+1)⟩:S127)) (wrap64 ((wrap64 ((wrap64 (x1_1+1))+1))+1)) (wrap64 (x5_1+1))))=some (r1,r2):=by first|(rw [hy102];with_reducible exact H)|(have H2_:=(Option.bind_some _ _).symm.trans H;rw [hy102];with_reducible exact H2_)|(have H2_:=(Option.bind_some _ _).symm.trans H;with_reducible exact H2_)|with_reducible exact H|(rw [hy102];exact H)|exact H
     have Ny102:=Aside0.mk hy102
     clear hy102
     obtain ⟨y103,hy103⟩:∃y_:List (S127),y_=(y102.set (x5_1:Int).toNat (⟨(rd_T127 y102 x5_1).f0,wrap64 (x1_1+1),(rd_T127 y102 x5_1).f2⟩:S127)):=⟨_,rfl⟩
     replace H:(laws_markTurnS.l0 k1 (y103.set (x5_1:Int).toNat (⟨(rd_T127 y103 x5_1).f0,(rd_T127 y103 x5_1).f1,wrap64 ((wrap64 (x1_1+1))+1)⟩:S127)) (wrap64 ((wrap64 ((wrap64 (x1_1+1))+1))+1)) (wrap64 (x5_1+1)))=some (r1,r2):=by first|(rw [hy103];with_reducible exact H)|(have H2_:=(Option.bind_some _ _).symm.trans H;rw [hy103];with_reducible exact H2_)|(have H2_:=(Option.bind_some _ _).symm.trans H;with_reducible exact H2_)|with_reducible exact H|(rw [hy103];exact H)|exact H
     have Ny103:=Aside0.mk hy103
     clear hy103
     obtain ⟨y104,hy104⟩:∃y_:List (S127),y_=(y103.set (x5_1:Int).toNat (⟨(rd_T127 y103 x5_1).f0,(rd_T127 y103 x5_1).f1,wrap64 ((wrap64 (x1_1+1))+1)⟩:S127)):=⟨_,rfl⟩
     replace H:(laws_markTurnS.l0 k1 y104 (wrap64 ((wrap64 ((wrap64 (x1_1+1))+1))+1)) (wrap64 (x5_1+1)))=some (r1,r2):=by first|(rw [hy104];with_reducible exact H)|(have H2_:=(Option.bind_some _ _).symm.trans H;rw [hy104];with_reducible exact H2_)|(have H2_:=(Option.bind_some _ _).symm.trans H;with_reducible exact H2_)|with_reducible exact H|(rw [hy104];exact H)|exact H
     have Ny104:=Aside0.mk hy104
     clear hy104
     have H':=Aside0.mk H
     clear H
     obtain ⟨Ao9,co9,eo9⟩:=Kd.R_slice HO_0.out
     subst eo9
     go_wp2_with (first|((with_reducible refine gate_callee (f:=66) rfl ?_);refine goesL_ (some 15) rfl rfl Try.func66 zbk rfl #[.int .i64 x1_1] rfl zc ?_;(with_reducible refine (laws_markText.calls k1 x1_1 t101 _ A4.out).mono ?_);rintro e w10 ⟨rfl,hb⟩;refine ⟨_,rfl,?_⟩;replace HO_0:=Aside0.mk (Kd.R_below zck hb);replace HK:=Aside0.mk (Kept.below (S:=(fun k_=>P0_ k_)) zbo hb);replace HB:=Aside0.mk (below_step za hb);(try clear hb);(try clear hb2);(try clear hk);(try clear hi);have p6:0≤(x5_1:Int):=of_decide_eq_true zb;have q6:(x5_1:Int)<((x0_1.length:Int):Int):=of_decide_eq_true zb;obtain ⟨go6,co6,eo6,gb6,gl6,cl6,HG6⟩:=Kd.R_form HO_0.out zbt;(first|cases eo6|(injection eo6 with ea_ en_ ec_;(first|subst ea_|(injection ea_ with ea_;subst ea_));subst ec_;clear en_));have GB6:=Aside0.mk gb6;have GG6:=Aside0.mk HG6;clear gb6 gl6 HG6;have HMgo6:=Aside0.mk (show (P0_ go6∨w.heap.size≤go6) from (HO_0.out.1 _ rfl));obtain ⟨ce6,hcl6,hM6,hcc6,hfr6⟩:=Kd.R_elem HO_0.out z127 (x5_1:Int) p6 q6;obtain rfl:=k127_openM hM6;have hx6_0:w10.cell? ⟨go6,(x5_1:Int).toNat*3,none⟩=some (.string ((rd_T127 x0_1 x5_1).f0)):=hcc6 0 _ rfl;have hx6_1:w10.cell? ⟨go6,(x5_1:Int).toNat*3+1,none⟩=some (.int .i64 ((rd_T127 x0_1 x5_1).f1)):=hcc6 1 _ rfl;have hx6_2:w10.cell? ⟨go6,(x5_1:Int).toNat*3+2,none⟩=some (.int .i64 ((rd_T127 x0_1 x5_1).f2)):=hcc6 2 _ rfl;have hf6_0:w10.frozen? ⟨go6,(x5_1:Int).toNat*3,none⟩=false:=hfr6 0;have hf6_1:w10.frozen? ⟨go6,(x5_1:Int).toNat*3+1,none⟩=false:=hfr6 1;have hf6_2:w10.frozen? ⟨go6,(x5_1:Int).toNat*3+2,none⟩=false:=hfr6 2;clear hcl6 hcc6 hfr6 hM6;replace p6:=eq_true p6;replace q6:=eq_true q6;have HX11:=Aside0.mk (show Kd.R k127 127 w10 w0.heap.size (fun k_=>(P0_ k_∨w.heap.size≤k_)) (.slice (some ⟨go6,0,none⟩) x0_1.length co9) x0_1 from zck);obtain ⟨ce11,hcl11,hM11,hcc11,hfr11⟩:=Kd.R_elem HX11.out z127 (x5_1:Int) (of_decide_eq_true zb) (by have h_:(x5_1:Int)<((x0_1.length:Int):Int):=of_decide_eq_true zb;first|exact h_|(have e_:=(Kd.R_reads' HO_0.out).1;omega)|simpa using h_);obtain rfl:=k127_openM hM11;have HP11:=Kd.R_seg HX11.out (x5_1:Int) (of_decide_eq_true zb) (by have h_:(x5_1:Int)<((x0_1.length:Int):Int):=of_decide_eq_true zb;first|exact h_|(have e_:=(Kd.R_reads' HO_0.out).1;omega)|simpa using h_) (seg:=[.string t101]) (j:=0) hcl11 hcc11 (show 1≤3 from by decide) (x':=(⟨t101,(rd_T127 x0_1 x5_1).f1,(rd_T127 x0_1 x5_1).f2⟩:S127)) (k127_mkM _ _ _ (⟨t101,(rd_T127 x0_1 x5_1).f1,(rd_T127 x0_1 x5_1).f2⟩:S127)) (fun _ hk=>hk);have hx11_0:=hcc11 0 _ rfl;(try simp only [show (k127).sz=3 from rfl,Nat.mul_one,Nat.add_zero] at hx11_0);have hf11_0:=hfr11 0;(try simp only [show (k127).sz=3 from rfl,Nat.mul_one,Nat.add_zero] at hf11_0);clear hcl11 hcc11 hfr11 hM11)|((with_reducible refine gate_store (t:=9) (p:=17) rfl ?_);refine store_event (t:=9) (p:=17) (v:=?vo_w12) (w1:=(w10.setCell ⟨go6,(x5_1:Int).toNat*3,none⟩ (.string t101))) ?hg ?ho ?hn ?hr ?_;(case ho=>rfl);(case hg=>rfl);(case hn=>rfl);(case hr=>exact zt);intro w12 hw;have hg:w10.grownBy w12 (some go6):=(by rw [hw];exact HP11.2);have hp_:Kd.R k127 127 w12 w0.heap.size (fun k_=>(P0_ k_∨w.heap.size≤k_)) (.slice (some ⟨go6,0,none⟩) x0_1.length co9) y102:=(by rw [hw,Ny102.out];exact HP11.1);clear HP11;have n0_:=Aside0.mk (hp_);have n1_:=Aside0.mk ((by rw [hw];exact below_set (HB.out) GB6.out:Below w0.heap.size w0 w12));have n2_:=Aside0.mk (Kept.of_grown (S:=(fun k_=>P0_ k_)) hg zbo (fun k_ e_=>(HO_0.out.1 k_ e_)));clear HO_0;clear HB;clear HK;have HO_0:=n0_;have HB:=n1_;have HK:=n2_;clear n0_ n1_ n2_;clear hg hw hp_;have p7:0≤(x5_1:Int):=of_decide_eq_true zb;have q7:(x5_1:Int)<((x0_1.length:Int):Int):=of_decide_eq_true zb;obtain ⟨ce7,hcl7,hM7,hcc7,hfr7⟩:=Kd.R_elem HO_0.out z127 (x5_1:Int) p7 q7;obtain rfl:=k127_openM hM7;have hx7_0:w12.cell? ⟨go6,(x5_1:Int).toNat*3,none⟩=some (.string ((rd_T127 y102 x5_1).f0)):=hcc7 0 _ rfl;have hx7_1:w12.cell? ⟨go6,(x5_1:Int).toNat*3+1,none⟩=some (.int .i64 ((rd_T127 y102 x5_1).f1)):=hcc7 1 _ rfl;have hx7_2:w12.cell? ⟨go6,(x5_1:Int).toNat*3+2,none⟩=some (.int .i64 ((rd_T127 y102 x5_1).f2)):=hcc7 2 _ rfl;have hf7_0:w12.frozen? ⟨go6,(x5_1:Int).toNat*3,none⟩=false:=hfr7 0;have hf7_1:w12.frozen? ⟨go6,(x5_1:Int).toNat*3+1,none⟩=false:=hfr7 1;have hf7_2:w12.frozen? ⟨go6,(x5_1:Int).toNat*3+2,none⟩=false:=hfr7 2;clear hcl7 hcc7 hfr7 hM7;replace p7:=eq_true p7;replace q7:=eq_true q7;have HX13:=Aside0.mk (show Kd.R k127 127 w12 w0.heap.size (fun k_=>(P0_ k_∨w.heap.size≤k_)) (.slice (some ⟨go6,0,none⟩) x0_1.length co9) y102 from zck);obtain ⟨ce13,hcl13,hM13,hcc13,hfr13⟩:=Kd.R_elem HX13.out z127 (x5_1:Int) (of_decide_eq_true zb) (by have h_:(x5_1:Int)<((x0_1.length:Int):Int):=of_decide_eq_true zb;first|exact h_|(have e_:=(Kd.R_reads' HO_0.out).1;omega)|simpa using h_);obtain rfl:=k127_openM hM13;have HP13:=Kd.R_seg HX13.out (x5_1:Int) (of_decide_eq_true zb) (by have h_:(x5_1:Int)<((x0_1.length:Int):Int):=of_decide_eq_true zb;first|exact h_|(have e_:=(Kd.R_reads' HO_0.out).1;omega)|simpa using h_) (seg:=[.int .i64 (wrap64 (x1_1+1))]) (j:=1) hcl13 hcc13 (show 2≤3 from by decide) (x':=(⟨(rd_T127 y102 x5_1).f0,wrap64 (x1_1+1),(rd_T127 y102 x5_1).f2⟩:S127)) (k127_mkM _ _ _ (⟨(rd_T127 y102 x5_1).f0,wrap64 (x1_1+1),(rd_T127 y102 x5_1).f2⟩:S127)) (fun _ hk=>hk);have hx13_1:=hcc13 1 _ rfl;(try simp only [show (k127).sz=3 from rfl,Nat.mul_one,Nat.add_zero] at hx13_1);have hf13_1:=hfr13 1;(try simp only [show (k127).sz=3 from rfl,Nat.mul_one,Nat.add_zero] at hf13_1);clear hcl13 hcc13 hfr13 hM13)|((with_reducible refine gate_store (t:=2) (p:=24) rfl ?_);refine store_event (t:=2) (p:=24) (v:=?vo_w14) (w1:=(w12.setCell ⟨go6,(x5_1:Int).toNat*3+1,none⟩ (.int .i64 (wrap64 (x1_1+1))))) ?hg ?ho ?hn ?hr ?_;(case ho=>rfl);(case hg=>rfl);(case hn=>rfl);(case hr=>exact zt);intro w14 hw;have hg:w12.grownBy w14 (some go6):=(by rw [hw];exact HP13.2);have hp_:Kd.R k127 127 w14 w0.heap.size (fun k_=>(P0_ k_∨w.heap.size≤k_)) (.slice (some ⟨go6,0,none⟩) x0_1.length co9) y103:=(by rw [hw,Ny103.out];exact HP13.1);clear HP13;have n0_:=Aside0.mk (hp_);have n1_:=Aside0.mk ((by rw [hw];exact below_set (HB.out) GB6.out:Below w0.heap.size w0 w14));have n2_:=Aside0.mk (Kept.of_grown (S:=(fun k_=>P0_ k_)) hg zbo (fun k_ e_=>(HO_0.out.1 k_ e_)));clear HO_0;clear HB;clear HK;have HO_0:=n0_;have HB:=n1_;have HK:=n2_;clear n0_ n1_ n2_;clear hg hw hp_;have p8:0≤(x5_1:Int):=of_decide_eq_true zb;have q8:(x5_1:Int)<((x0_1.length:Int):Int):=of_decide_eq_true zb;obtain ⟨ce8,hcl8,hM8,hcc8,hfr8⟩:=Kd.R_elem HO_0.out z127 (x5_1:Int) p8 q8;obtain rfl:=k127_openM hM8;have hx8_0:w14.cell? ⟨go6,(x5_1:Int).toNat*3,none⟩=some (.string ((rd_T127 y103 x5_1).f0)):=hcc8 0 _ rfl;have hx8_1:w14.cell? ⟨go6,(x5_1:Int).toNat*3+1,none⟩=some (.int .i64 ((rd_T127 y103 x5_1).f1)):=hcc8 1 _ rfl;have hx8_2:w14.cell? ⟨go6,(x5_1:Int).toNat*3+2,none⟩=some (.int .i64 ((rd_T127 y103 x5_1).f2)):=hcc8 2 _ rfl;have hf8_0:w14.frozen? ⟨go6,(x5_1:Int).toNat*3,none⟩=false:=hfr8 0;have hf8_1:w14.frozen? ⟨go6,(x5_1:Int).toNat*3+1,none⟩=false:=hfr8 1;have hf8_2:w14.frozen? ⟨go6,(x5_1:Int).toNat*3+2,none⟩=false:=hfr8 2;clear hcl8 hcc8 hfr8 hM8;replace p8:=eq_true p8;replace q8:=eq_true q8;have HX15:=Aside0.mk (show Kd.R k127 127 w14 w0.heap.size (fun k_=>(P0_ k_∨w.heap.size≤k_)) (.slice (some ⟨go6,0,none⟩) x0_1.length co9) y103 from zck);obtain ⟨ce15,hcl15,hM15,hcc15,hfr15⟩:=Kd.R_elem HX15.out z127 (x5_1:Int) (of_decide_eq_true zb) (by have h_:(x5_1:Int)<((x0_1.length:Int):Int):=of_decide_eq_true zb;first|exact h_|(have e_:=(Kd.R_reads' HO_0.out).1;omega)|simpa using h_);obtain rfl:=k127_openM hM15;have HP15:=Kd.R_seg HX15.out (x5_1:Int) (of_decide_eq_true zb) (by have h_:(x5_1:Int)<((x0_1.length:Int):Int):=of_decide_eq_true zb;first|exact h_|(have e_:=(Kd.R_reads' HO_0.out).1;omega)|simpa using h_) (seg:=[.int .i64 (wrap64 ((wrap64 (x1_1+1))+1))]) (j:=2) hcl15 hcc15 (show 3≤3 from by decide) (x':=(⟨(rd_T127 y103 x5_1).f0,(rd_T127 y103 x5_1).f1,wrap64 ((wrap64 (x1_1+1))+1)⟩:S127)) (k127_mkM _ _ _ (⟨(rd_T127 y103 x5_1).f0,(rd_T127 y103 x5_1).f1,wrap64 ((wrap64 (x1_1+1))+1)⟩:S127)) (fun _ hk=>hk);have hx15_2:=hcc15 2 _ rfl;(try simp only [show (k127).sz=3 from rfl,Nat.mul_one,Nat.add_zero] at hx15_2);have hf15_2:=hfr15 2;(try simp only [show (k127).sz=3 from rfl,Nat.mul_one,Nat.add_zero] at hf15_2);clear hcl15 hcc15 hfr15 hM15)|((with_reducible refine gate_store (t:=2) (p:=31) rfl ?_);refine store_event (t:=2) (p:=31) (v:=?vo_w16) (w1:=(w14.setCell ⟨go6,(x5_1:Int).toNat*3+2,none⟩ (.int .i64 (wrap64 ((wrap64 (x1_1+1))+1))))) ?hg ?ho ?hn ?hr ?_;(case ho=>rfl);(case hg=>rfl);(case hn=>rfl);(case hr=>exact zt);intro w16 hw;have hg:w14.grownBy w16 (some go6):=(by rw [hw];exact HP15.2);have hp_:Kd.R k127 127 w16 w0.heap.size (fun k_=>(P0_ k_∨w.heap.size≤k_)) (.slice (some ⟨go6,0,none⟩) x0_1.length co9) y104:=(by rw [hw,Ny104.out];exact HP15.1);clear HP15;have n0_:=Aside0.mk (hp_);have n1_:=Aside0.mk ((by rw [hw];exact below_set (HB.out) GB6.out:Below w0.heap.size w0 w16));have n2_:=Aside0.mk (Kept.of_grown (S:=(fun k_=>P0_ k_)) hg zbo (fun k_ e_=>(HO_0.out.1 k_ e_)));clear HO_0;clear HB;clear HK;have HO_0:=n0_;have HB:=n1_;have HK:=n2_;clear n0_ n1_ n2_;clear hg hw hp_))
     go_roundg k1
     case measure=>have:=HK1.out;omega
     case rel=>exact ⟨(y104),(wrap64 ((wrap64 ((wrap64 (x1_1+1))+1))+1)),(wrap64 (x5_1+1)),zm,zm,H',⟨zdn⟩,⟨zck⟩,⟨zbo⟩,⟨za⟩⟩
    ·rw [if_neg c5] at H
     exact absurd H zdd
   ·rw [if_neg c3] at H
    have c3b0:decide (x5_1<(x0_1.length:Int))=false:=decide_eq_false c3
    clear c3
    simp only [Option.some.injEq,Prod.mk.injEq] at H
    obtain ⟨rfl,rfl⟩:=H
    obtain ⟨Ao17,co17,eo17⟩:=Kd.R_slice HO_0.out
    subst eo17
    go_wp2
    go_ret
    exact ⟨zk,zck,za,zbo⟩

def laws_markAnswerS.l0:Nat→List (S125)→Int→Int→Option (Int × (List (S125)))
 | 0,_,_,_=>none
 | k+1,x0,x1,x5=>if x5<(x0.length:Int) then ((laws_markText.f k x1).bind fun t101=>(if 0≤x5 then ((some (x0.set (x5:Int).toNat (⟨t101,(rd_T125 x0 x5).f1,(rd_T125 x0 x5).f2⟩:S125):List (S125))).bind fun y102=>((laws_markText.f k (wrap64 (x1+1))).bind fun t103=>((some (y102.set (x5:Int).toNat (⟨(rd_T125 y102 x5).f0,t103,(rd_T125 y102 x5).f2⟩:S125):List (S125))).bind fun y104=>(laws_markAnswerS.l0 k (y104.set (x5:Int).toNat (⟨(rd_T125 y104 x5).f0,(rd_T125 y104 x5).f1,wrap64 ((wrap64 (x1+1))+1)⟩:S125)) (wrap64 ((wrap64 ((wrap64 (x1+1))+1))+1)) (wrap64 (x5+1)))))) else (none))) else (some (x1,x0))
def laws_markAnswerS.f (k:Nat) (l0:List (S125)) (a1:Int):Option (Int × (List (S125))):=laws_markAnswerS.l0 k l0 a1 0
set_option maxHeartbeats 8000000 in
set_option maxRecDepth 100000 in
theorem laws_markAnswerS.calls (k:Nat) (P0_:Nat→Prop) (u9000_:Value) (l0:List (S125)) (a1:Int) (r1:Int) (r2:List (S125)) (w0 w:World) (hB:Below w0.heap.size w0 w) (ho0:Kd.R k125 125 w w0.heap.size P0_ u9000_ l0) (h:laws_markAnswerS.f k l0 a1=some (r1,r2)) :
 Calls Try.prog 45 #[u9000_,.int .i64 a1] w fun e w'=>e = .returned (.int .i64 r1)∧Kd.R k125 125 w' w0.heap.size (fun k_=>(P0_ k_∨w.heap.size≤k_)) u9000_ r2∧Below w0.heap.size w0 w'∧Kept w w' (fun k_=>P0_ k_):=by
 have HO0:=Aside0.mk (show Kd.R k125 125 w w0.heap.size (fun k_=>(P0_ k_∨w.heap.size≤k_)) u9000_ l0 from Kd.R_mono ho0 (fun k_ hk=>(.inl hk)))
 have HK:=Aside0.mk (Kept.refl w (fun k_=>P0_ k_))
 have HW0:=Aside0.mk hB.size
 have HB:=Aside0.mk hB
 clear hB
 have H:(laws_markAnswerS.l0 k l0 a1 0)=some (r1,r2):=h
 clear h
 have H':=Aside0.mk H
 clear H
 go_enter Try.func45,Try.ntmps45
 go_wp2
 go_loopg [1,5] k (fun kq v1 v5 w'=>∃(x0_1:List (S125)) (x1_1:Int) (x5_1:Int),v1 = .int .i64 x1_1∧v5 = .int .i64 x5_1∧Aside0 (laws_markAnswerS.l0 kq x0_1 x1_1 x5_1=some (r1,r2))∧Aside0 (kq≤k)∧Aside0 (Kd.R k125 125 w' w0.heap.size (fun k_=>(P0_ k_∨w.heap.size≤k_)) u9000_ x0_1)∧Aside0 (Kept w w' (fun k_=>P0_ k_))∧Aside0 (Below w0.heap.size w0 w'))
 case atStart=>exact ⟨(l0),(a1),(0),zm,zm,H',⟨Nat.le_refl _⟩,⟨by (with_reducible repeat (first|apply Kd.R_alloc|apply Kd.R_drewN|apply Kd.R_drew));exact HO0.out⟩,⟨zbo⟩,⟨za⟩⟩
 case round=>
  clear H'
  try clear p2
  obtain ⟨x0_1,x1_1,x5_1,rfl,rfl,HA,HK1,HO_0,HK,HB⟩:=hrel
  cases gk with
  | zero=>exact absurd HA.out (by simp [laws_markAnswerS.l0])
  | succ k1=>
   have H:=HA.out
   clear HA
   simp only [laws_markAnswerS.l0] at H
   by_cases c3:x5_1<(x0_1.length:Int)
   ·rw [if_pos c3] at H
    have c3b0:decide (x5_1<(x0_1.length:Int))=true:=decide_eq_true c3
    clear c3
    replace H:=Option.bind_eq_some_iff.mp H
    obtain ⟨t101,A40,H⟩:=H
    replace H:(if 0≤x5_1 then ((some (x0_1.set (x5_1:Int).toNat (⟨t101,(rd_T125 x0_1 x5_1).f1,(rd_T125 x0_1 x5_1).f2⟩:S125):List (S125))).bind fun y102=>((laws_markText.f k1 (wrap64 (x1_1+1))).bind fun t103=>((some (y102.set (x5_1:Int).toNat (⟨(rd_T125 y102 x5_1).f0,t103,(rd_T125 y102 x5_1).f2⟩:S125):List (S125))).bind fun y104=>(laws_markAnswerS.l0 k1 (y104.set (x5_1:Int).toNat (⟨(rd_T125 y104 x5_1).f0,(rd_T125 y104 x5_1).f1,wrap64 ((wrap64 (x1_1+1))+1)⟩:S125)) (wrap64 ((wrap64 ((wrap64 (x1_1+1))+1))+1)) (wrap64 (x5_1+1)))))) else (none))=some (r1,r2):=H
    have A4:=Aside0.mk A40
    clear A40
    by_cases c5:0≤x5_1
    ·rw [if_pos c5] at H
     have c5b0:decide (0≤x5_1)=true:=decide_eq_true c5
     clear c5
     obtain ⟨y102,hy102⟩:∃y_:List (S125),y_=(x0_1.set (x5_1:Int).toNat (⟨t101,(rd_T125 x0_1 x5_1).f1,(rd_T125 x0_1 x5_1).f2⟩:S125)):=⟨_,rfl⟩
     replace H:((laws_markText.f k1 (wrap64 (x1_1+1))).bind fun t103=>((some (y102.set (x5_1:Int).toNat (⟨(rd_T125 y102 x5_1).f0,t103,(rd_T125 y102 x5_1).f2⟩:S125):List (S125))).bind fun y104=>(laws_markAnswerS.l0 k1 (y104.set (x5_1:Int).toNat (⟨(rd_T125 y104 x5_1).f0,(rd_T125 y104 x5_1).f1,wrap64 ((wrap64 (x1_1+1))+1)⟩:S125)) (wrap64 ((wrap64 ((wrap64 (x1_1+1))+1))+1)) (wrap64 (x5_1+1)))))=some (r1,r2):=by first|(rw [hy102];with_reducible exact H)|(have H2_:=(Option.bind_some _ _).symm.trans H;rw [hy102];with_reducible exact H2_)|(have H2_:=(Option.bind_some _ _).symm.trans H;with_reducible exact H2_)|with_reducible exact H|(rw [hy102];exact H)|exact H
     have Ny102:=Aside0.mk hy102
     clear hy102
     replace H:=Option.bind_eq_some_iff.mp H
     obtain ⟨t103,A70,H⟩:=H
     replace H:((some (y102.set (x5_1:Int).toNat (⟨(rd_T125 y102 x5_1).f0,t103,(rd_T125 y102 x5_1).f2⟩:S125):List (S125))).bind fun y104=>(laws_markAnswerS.l0 k1 (y104.set (x5_1:Int).toNat (⟨(rd_T125 y104 x5_1).f0,(rd_T125 y104 x5_1).f1,wrap64 ((wrap64 (x1_1+1))+1)⟩:S125)) (wrap64 ((wrap64 ((wrap64 (x1_1+1))+1))+1)) (wrap64 (x5_1+1))))=some (r1,r2):=H
     have A7:=Aside0.mk A70
     clear A70
     obtain ⟨y104,hy104⟩:∃y_:List (S125),y_=(y102.set (x5_1:Int).toNat (⟨(rd_T125 y102 x5_1).f0,t103,(rd_T125 y102 x5_1).f2⟩:S125)):=⟨_,rfl⟩
     replace H:(laws_markAnswerS.l0 k1 (y104.set (x5_1:Int).toNat (⟨(rd_T125 y104 x5_1).f0,(rd_T125 y104 x5_1).f1,wrap64 ((wrap64 (x1_1+1))+1)⟩:S125)) (wrap64 ((wrap64 ((wrap64 (x1_1+1))+1))+1)) (wrap64 (x5_1+1)))=some (r1,r2):=by first|(rw [hy104];with_reducible exact H)|(have H2_:=(Option.bind_some _ _).symm.trans H;rw [hy104];with_reducible exact H2_)|(have H2_:=(Option.bind_some _ _).symm.trans H;with_reducible exact H2_)|with_reducible exact H|(rw [hy104];exact H)|exact H
     have Ny104:=Aside0.mk hy104
     clear hy104
     obtain ⟨y105,hy105⟩:∃y_:List (S125),y_=(y104.set (x5_1:Int).toNat (⟨(rd_T125 y104 x5_1).f0,(rd_T125 y104 x5_1).f1,wrap64 ((wrap64 (x1_1+1))+1)⟩:S125)):=⟨_,rfl⟩
     replace H:(laws_markAnswerS.l0 k1 y105 (wrap64 ((wrap64 ((wrap64 (x1_1+1))+1))+1)) (wrap64 (x5_1+1)))=some (r1,r2):=by first|(rw [hy105];with_reducible exact H)|(have H2_:=(Option.bind_some _ _).symm.trans H;rw [hy105];with_reducible exact H2_)|(have H2_:=(Option.bind_some _ _).symm.trans H;with_reducible exact H2_)|with_reducible exact H|(rw [hy105];exact H)|exact H
     have Ny105:=Aside0.mk hy105
     clear hy105
     have H':=Aside0.mk H
     clear H
     obtain ⟨Ao10,co10,eo10⟩:=Kd.R_slice HO_0.out
     subst eo10
     go_wp2_with (first|((with_reducible refine gate_callee (f:=66) rfl ?_);refine goesL_ (some 15) rfl rfl Try.func66 zbk rfl #[.int .i64 x1_1] rfl zc ?_;(with_reducible refine (laws_markText.calls k1 x1_1 t101 _ A4.out).mono ?_);rintro e w11 ⟨rfl,hb⟩;refine ⟨_,rfl,?_⟩;replace HO_0:=Aside0.mk (Kd.R_below zck hb);replace HK:=Aside0.mk (Kept.below (S:=(fun k_=>P0_ k_)) zbo hb);replace HB:=Aside0.mk (below_step za hb);(try clear hb);(try clear hb2);(try clear hk);(try clear hi);have p6:0≤(x5_1:Int):=of_decide_eq_true zb;have q6:(x5_1:Int)<((x0_1.length:Int):Int):=of_decide_eq_true zb;obtain ⟨go6,co6,eo6,gb6,gl6,cl6,HG6⟩:=Kd.R_form HO_0.out zbt;(first|cases eo6|(injection eo6 with ea_ en_ ec_;(first|subst ea_|(injection ea_ with ea_;subst ea_));subst ec_;clear en_));have GB6:=Aside0.mk gb6;have GG6:=Aside0.mk HG6;clear gb6 gl6 HG6;have HMgo6:=Aside0.mk (show (P0_ go6∨w.heap.size≤go6) from (HO_0.out.1 _ rfl));obtain ⟨ce6,hcl6,hM6,hcc6,hfr6⟩:=Kd.R_elem HO_0.out z125 (x5_1:Int) p6 q6;obtain rfl:=k125_openM hM6;have hx6_0:w11.cell? ⟨go6,(x5_1:Int).toNat*3,none⟩=some (.string ((rd_T125 x0_1 x5_1).f0)):=hcc6 0 _ rfl;have hx6_1:w11.cell? ⟨go6,(x5_1:Int).toNat*3+1,none⟩=some (.string ((rd_T125 x0_1 x5_1).f1)):=hcc6 1 _ rfl;have hx6_2:w11.cell? ⟨go6,(x5_1:Int).toNat*3+2,none⟩=some (.int .i64 ((rd_T125 x0_1 x5_1).f2)):=hcc6 2 _ rfl;have hf6_0:w11.frozen? ⟨go6,(x5_1:Int).toNat*3,none⟩=false:=hfr6 0;have hf6_1:w11.frozen? ⟨go6,(x5_1:Int).toNat*3+1,none⟩=false:=hfr6 1;have hf6_2:w11.frozen? ⟨go6,(x5_1:Int).toNat*3+2,none⟩=false:=hfr6 2;clear hcl6 hcc6 hfr6 hM6;replace p6:=eq_true p6;replace q6:=eq_true q6;have HX12:=Aside0.mk (show Kd.R k125 125 w11 w0.heap.size (fun k_=>(P0_ k_∨w.heap.size≤k_)) (.slice (some ⟨go6,0,none⟩) x0_1.length co10) x0_1 from zck);obtain ⟨ce12,hcl12,hM12,hcc12,hfr12⟩:=Kd.R_elem HX12.out z125 (x5_1:Int) (of_decide_eq_true zb) (by have h_:(x5_1:Int)<((x0_1.length:Int):Int):=of_decide_eq_true zb;first|exact h_|(have e_:=(Kd.R_reads' HO_0.out).1;omega)|simpa using h_);obtain rfl:=k125_openM hM12;have HP12:=Kd.R_seg HX12.out (x5_1:Int) (of_decide_eq_true zb) (by have h_:(x5_1:Int)<((x0_1.length:Int):Int):=of_decide_eq_true zb;first|exact h_|(have e_:=(Kd.R_reads' HO_0.out).1;omega)|simpa using h_) (seg:=[.string t101]) (j:=0) hcl12 hcc12 (show 1≤3 from by decide) (x':=(⟨t101,(rd_T125 x0_1 x5_1).f1,(rd_T125 x0_1 x5_1).f2⟩:S125)) (k125_mkM _ _ _ (⟨t101,(rd_T125 x0_1 x5_1).f1,(rd_T125 x0_1 x5_1).f2⟩:S125)) (fun _ hk=>hk);have hx12_0:=hcc12 0 _ rfl;(try simp only [show (k125).sz=3 from rfl,Nat.mul_one,Nat.add_zero] at hx12_0);have hf12_0:=hfr12 0;(try simp only [show (k125).sz=3 from rfl,Nat.mul_one,Nat.add_zero] at hf12_0);clear hcl12 hcc12 hfr12 hM12)|((with_reducible refine gate_store (t:=9) (p:=17) rfl ?_);refine store_event (t:=9) (p:=17) (v:=?vo_w13) (w1:=(w11.setCell ⟨go6,(x5_1:Int).toNat*3,none⟩ (.string t101))) ?hg ?ho ?hn ?hr ?_;(case ho=>rfl);(case hg=>rfl);(case hn=>rfl);(case hr=>exact zt);intro w13 hw;have hg:w11.grownBy w13 (some go6):=(by rw [hw];exact HP12.2);have hp_:Kd.R k125 125 w13 w0.heap.size (fun k_=>(P0_ k_∨w.heap.size≤k_)) (.slice (some ⟨go6,0,none⟩) x0_1.length co10) y102:=(by rw [hw,Ny102.out];exact HP12.1);clear HP12;have n0_:=Aside0.mk (hp_);have n1_:=Aside0.mk ((by rw [hw];exact below_set (HB.out) GB6.out:Below w0.heap.size w0 w13));have n2_:=Aside0.mk (Kept.of_grown (S:=(fun k_=>P0_ k_)) hg zbo (fun k_ e_=>(HO_0.out.1 k_ e_)));clear HO_0;clear HB;clear HK;have HO_0:=n0_;have HB:=n1_;have HK:=n2_;clear n0_ n1_ n2_;clear hg hw hp_)|((with_reducible refine gate_callee (f:=66) rfl ?_);refine goesL_ (some 23) rfl rfl Try.func66 zbk rfl #[.int .i64 (wrap64 (x1_1+1))] rfl zc ?_;(with_reducible refine (laws_markText.calls k1 (wrap64 (x1_1+1)) t103 _ A7.out).mono ?_);rintro e w14 ⟨rfl,hb⟩;refine ⟨_,rfl,?_⟩;replace HO_0:=Aside0.mk (Kd.R_below zck hb);replace HK:=Aside0.mk (Kept.below (S:=(fun k_=>P0_ k_)) zbo hb);replace HB:=Aside0.mk (below_step za hb);(try clear hb);(try clear hb2);(try clear hk);(try clear hi);have p8:0≤(x5_1:Int):=of_decide_eq_true zb;have q8:(x5_1:Int)<((x0_1.length:Int):Int):=of_decide_eq_true zb;obtain ⟨ce8,hcl8,hM8,hcc8,hfr8⟩:=Kd.R_elem HO_0.out z125 (x5_1:Int) p8 q8;obtain rfl:=k125_openM hM8;have hx8_0:w14.cell? ⟨go6,(x5_1:Int).toNat*3,none⟩=some (.string ((rd_T125 y102 x5_1).f0)):=hcc8 0 _ rfl;have hx8_1:w14.cell? ⟨go6,(x5_1:Int).toNat*3+1,none⟩=some (.string ((rd_T125 y102 x5_1).f1)):=hcc8 1 _ rfl;have hx8_2:w14.cell? ⟨go6,(x5_1:Int).toNat*3+2,none⟩=some (.int .i64 ((rd_T125 y102 x5_1).f2)):=hcc8 2 _ rfl;have hf8_0:w14.frozen? ⟨go6,(x5_1:Int).toNat*3,none⟩=false:=hfr8 0;have hf8_1:w14.frozen? ⟨go6,(x5_1:Int).toNat*3+1,none⟩=false:=hfr8 1;have hf8_2:w14.frozen? ⟨go6,(x5_1:Int).toNat*3+2,none⟩=false:=hfr8 2;clear hcl8 hcc8 hfr8 hM8;replace p8:=eq_true p8;replace q8:=eq_true q8;have HX15:=Aside0.mk (show Kd.R k125 125 w14 w0.heap.size (fun k_=>(P0_ k_∨w.heap.size≤k_)) (.slice (some ⟨go6,0,none⟩) x0_1.length co10) y102 from zck);obtain ⟨ce15,hcl15,hM15,hcc15,hfr15⟩:=Kd.R_elem HX15.out z125 (x5_1:Int) (of_decide_eq_true zb) (by have h_:(x5_1:Int)<((x0_1.length:Int):Int):=of_decide_eq_true zb;first|exact h_|(have e_:=(Kd.R_reads' HO_0.out).1;omega)|simpa using h_);obtain rfl:=k125_openM hM15;have HP15:=Kd.R_seg HX15.out (x5_1:Int) (of_decide_eq_true zb) (by have h_:(x5_1:Int)<((x0_1.length:Int):Int):=of_decide_eq_true zb;first|exact h_|(have e_:=(Kd.R_reads' HO_0.out).1;omega)|simpa using h_) (seg:=[.string t103]) (j:=1) hcl15 hcc15 (show 2≤3 from by decide) (x':=(⟨(rd_T125 y102 x5_1).f0,t103,(rd_T125 y102 x5_1).f2⟩:S125)) (k125_mkM _ _ _ (⟨(rd_T125 y102 x5_1).f0,t103,(rd_T125 y102 x5_1).f2⟩:S125)) (fun _ hk=>hk);have hx15_1:=hcc15 1 _ rfl;(try simp only [show (k125).sz=3 from rfl,Nat.mul_one,Nat.add_zero] at hx15_1);have hf15_1:=hfr15 1;(try simp only [show (k125).sz=3 from rfl,Nat.mul_one,Nat.add_zero] at hf15_1);clear hcl15 hcc15 hfr15 hM15)|((with_reducible refine gate_store (t:=9) (p:=25) rfl ?_);refine store_event (t:=9) (p:=25) (v:=?vo_w16) (w1:=(w14.setCell ⟨go6,(x5_1:Int).toNat*3+1,none⟩ (.string t103))) ?hg ?ho ?hn ?hr ?_;(case ho=>rfl);(case hg=>rfl);(case hn=>rfl);(case hr=>exact zt);intro w16 hw;have hg:w14.grownBy w16 (some go6):=(by rw [hw];exact HP15.2);have hp_:Kd.R k125 125 w16 w0.heap.size (fun k_=>(P0_ k_∨w.heap.size≤k_)) (.slice (some ⟨go6,0,none⟩) x0_1.length co10) y104:=(by rw [hw,Ny104.out];exact HP15.1);clear HP15;have n0_:=Aside0.mk (hp_);have n1_:=Aside0.mk ((by rw [hw];exact below_set (HB.out) GB6.out:Below w0.heap.size w0 w16));have n2_:=Aside0.mk (Kept.of_grown (S:=(fun k_=>P0_ k_)) hg zbo (fun k_ e_=>(HO_0.out.1 k_ e_)));clear HO_0;clear HB;clear HK;have HO_0:=n0_;have HB:=n1_;have HK:=n2_;clear n0_ n1_ n2_;clear hg hw hp_;have p9:0≤(x5_1:Int):=of_decide_eq_true zb;have q9:(x5_1:Int)<((x0_1.length:Int):Int):=of_decide_eq_true zb;obtain ⟨ce9,hcl9,hM9,hcc9,hfr9⟩:=Kd.R_elem HO_0.out z125 (x5_1:Int) p9 q9;obtain rfl:=k125_openM hM9;have hx9_0:w16.cell? ⟨go6,(x5_1:Int).toNat*3,none⟩=some (.string ((rd_T125 y104 x5_1).f0)):=hcc9 0 _ rfl;have hx9_1:w16.cell? ⟨go6,(x5_1:Int).toNat*3+1,none⟩=some (.string ((rd_T125 y104 x5_1).f1)):=hcc9 1 _ rfl;have hx9_2:w16.cell? ⟨go6,(x5_1:Int).toNat*3+2,none⟩=some (.int .i64 ((rd_T125 y104 x5_1).f2)):=hcc9 2 _ rfl;have hf9_0:w16.frozen? ⟨go6,(x5_1:Int).toNat*3,none⟩=false:=hfr9 0;have hf9_1:w16.frozen? ⟨go6,(x5_1:Int).toNat*3+1,none⟩=false:=hfr9 1;have hf9_2:w16.frozen? ⟨go6,(x5_1:Int).toNat*3+2,none⟩=false:=hfr9 2;clear hcl9 hcc9 hfr9 hM9;replace p9:=eq_true p9;replace q9:=eq_true q9;have HX17:=Aside0.mk (show Kd.R k125 125 w16 w0.heap.size (fun k_=>(P0_ k_∨w.heap.size≤k_)) (.slice (some ⟨go6,0,none⟩) x0_1.length co10) y104 from zck);obtain ⟨ce17,hcl17,hM17,hcc17,hfr17⟩:=Kd.R_elem HX17.out z125 (x5_1:Int) (of_decide_eq_true zb) (by have h_:(x5_1:Int)<((x0_1.length:Int):Int):=of_decide_eq_true zb;first|exact h_|(have e_:=(Kd.R_reads' HO_0.out).1;omega)|simpa using h_);obtain rfl:=k125_openM hM17;have HP17:=Kd.R_seg HX17.out (x5_1:Int) (of_decide_eq_true zb) (by have h_:(x5_1:Int)<((x0_1.length:Int):Int):=of_decide_eq_true zb;first|exact h_|(have e_:=(Kd.R_reads' HO_0.out).1;omega)|simpa using h_) (seg:=[.int .i64 (wrap64 ((wrap64 (x1_1+1))+1))]) (j:=2) hcl17 hcc17 (show 3≤3 from by decide) (x':=(⟨(rd_T125 y104 x5_1).f0,(rd_T125 y104 x5_1).f1,wrap64 ((wrap64 (x1_1+1))+1)⟩:S125)) (k125_mkM _ _ _ (⟨(rd_T125 y104 x5_1).f0,(rd_T125 y104 x5_1).f1,wrap64 ((wrap64 (x1_1+1))+1)⟩:S125)) (fun _ hk=>hk);have hx17_2:=hcc17 2 _ rfl;(try simp only [show (k125).sz=3 from rfl,Nat.mul_one,Nat.add_zero] at hx17_2);have hf17_2:=hfr17 2;(try simp only [show (k125).sz=3 from rfl,Nat.mul_one,Nat.add_zero] at hf17_2);clear hcl17 hcc17 hfr17 hM17)|((with_reducible refine gate_store (t:=2) (p:=32) rfl ?_);refine store_event (t:=2) (p:=32) (v:=?vo_w18) (w1:=(w16.setCell ⟨go6,(x5_1:Int).toNat*3+2,none⟩ (.int .i64 (wrap64 ((wrap64 (x1_1+1))+1))))) ?hg ?ho ?hn ?hr ?_;(case ho=>rfl);(case hg=>rfl);(case hn=>rfl);(case hr=>exact zt);intro w18 hw;have hg:w16.grownBy w18 (some go6):=(by rw [hw];exact HP17.2);have hp_:Kd.R k125 125 w18 w0.heap.size (fun k_=>(P0_ k_∨w.heap.size≤k_)) (.slice (some ⟨go6,0,none⟩) x0_1.length co10) y105:=(by rw [hw,Ny105.out];exact HP17.1);clear HP17;have n0_:=Aside0.mk (hp_);have n1_:=Aside0.mk ((by rw [hw];exact below_set (HB.out) GB6.out:Below w0.heap.size w0 w18));have n2_:=Aside0.mk (Kept.of_grown (S:=(fun k_=>P0_ k_)) hg zbo (fun k_ e_=>(HO_0.out.1 k_ e_)));clear HO_0;clear HB;clear HK;have HO_0:=n0_;have HB:=n1_;have HK:=n2_;clear n0_ n1_ n2_;clear hg hw hp_))
     go_roundg k1
     case measure=>have:=HK1.out;omega
     case rel=>exact ⟨(y105),(wrap64 ((wrap64 ((wrap64 (x1_1+1))+1))+1)),(wrap64 (x5_1+1)),zm,zm,H',⟨zdn⟩,⟨zck⟩,⟨zbo⟩,⟨za⟩⟩
    ·rw [if_neg c5] at H
     exact absurd H zdd
   ·rw [if_neg c3] at H
    have c3b0:decide (x5_1<(x0_1.length:Int))=false:=decide_eq_false c3
    clear c3
    simp only [Option.some.injEq,Prod.mk.injEq] at H
    obtain ⟨rfl,rfl⟩:=H
    obtain ⟨Ao19,co19,eo19⟩:=Kd.R_slice HO_0.out
    subst eo19
    go_wp2
    go_ret
    exact ⟨zk,zck,za,zbo⟩

def laws_heldTurnS.l0:Nat→List (S127)→Int→Int→Option (Int)
 | 0,_,_,_=>none
 | k+1,x0,x1,x5=>if x5<(x0.length:Int) then (if 0≤x5 then ((laws_markText.f k x1).bind fun t102=>(if ((rd_T127 x0 x5).f0).toList=t102.toList then (if ((rd_T127 x0 x5).f1)=(wrap64 (x1+1)) then (if ((rd_T127 x0 x5).f2)=(wrap64 ((wrap64 (x1+1))+1)) then (laws_heldTurnS.l0 k x0 (wrap64 ((wrap64 ((wrap64 (x1+1))+1))+1)) (wrap64 (x5+1))) else (some (-1))) else (some (-1))) else (some (-1)))) else (none)) else (some x1)
def laws_heldTurnS.f (k:Nat) (l0:List (S127)) (a1:Int):Option (Int):=laws_heldTurnS.l0 k l0 a1 0
def laws_heldTurnS.T4:Bool × List (List Nat × List Nat):=(true,[([],[]),([],[]),([0,1],[0,1]),([2],[2]),([3],[3]),([],[]),([5],[5]),([4,6],[4,6])])
def laws_heldTurnS.B4:List Nat:=[0,0,3,7,15,0,32,127]
theorem laws_heldTurnS.tab4:rtab .any (opsOf Try.f46 4)=laws_heldTurnS.T4:=by kernel_rfl
theorem laws_heldTurnS.bits4:waitsOk laws_heldTurnS.T4.2 laws_heldTurnS.B4=true:=by kernel_rfl
set_option maxHeartbeats 8000000 in
set_option maxRecDepth 100000 in
theorem laws_heldTurnS.calls (k:Nat) (A0:Option Addr) (c0:Nat) (l0:List (S127)) (a1:Int) (r:Int) (w:World) (hr0:Kd.C k127 w A0 l0.length l0) (hc0:l0.length≤c0) (h:laws_heldTurnS.f k l0 a1=some r) :
 Calls Try.prog 46 #[.slice A0 l0.length c0,.int .i64 a1] w fun e w'=>e = .returned (.int .i64 r)∧Below w.heap.size w w':=by
 have HR0:=Aside0.mk hr0
 have HC0:=Aside0.mk hc0
 clear hr0 hc0
 have HB:=Aside0.mk (Below.refl w.heap.size w)
 have H:(laws_heldTurnS.l0 k l0 a1 0)=some r:=h
 clear h
 have H':=Aside0.mk H
 clear H
 go_enter Try.func46,Try.ntmps46
 go_wp2
 go_loopg [1,5] k (fun kq v1 v5 w'=>∃(x1_1:Int) (x5_1:Int),v1 = .int .i64 x1_1∧v5 = .int .i64 x5_1∧Aside0 (laws_heldTurnS.l0 kq l0 x1_1 x5_1=some r)∧Aside0 (kq≤k)∧Aside0 (Below w.heap.size w w'))
 case atStart=>exact ⟨(a1),(0),zm,zm,H',⟨Nat.le_refl _⟩,⟨za⟩⟩
 case round=>
  clear H'
  try clear p2
  obtain ⟨x1_1,x5_1,rfl,rfl,HA,HK1,HB⟩:=hrel
  cases gk with
  | zero=>exact absurd HA.out (by simp [laws_heldTurnS.l0])
  | succ k1=>
   have H:=HA.out
   clear HA
   simp only [laws_heldTurnS.l0] at H
   by_cases c3:x5_1<(l0.length:Int)
   ·rw [if_pos c3] at H
    have c3b0:decide (x5_1<(l0.length:Int))=true:=decide_eq_true c3
    clear c3
    by_cases c4:0≤x5_1
    ·rw [if_pos c4] at H
     have c4b0:decide (0≤x5_1)=true:=decide_eq_true c4
     clear c4
     replace H:=Option.bind_eq_some_iff.mp H
     obtain ⟨t102,A50,H⟩:=H
     replace H:(if ((rd_T127 l0 x5_1).f0).toList=t102.toList then (if ((rd_T127 l0 x5_1).f1)=(wrap64 (x1_1+1)) then (if ((rd_T127 l0 x5_1).f2)=(wrap64 ((wrap64 (x1_1+1))+1)) then (laws_heldTurnS.l0 k1 l0 (wrap64 ((wrap64 ((wrap64 (x1_1+1))+1))+1)) (wrap64 (x5_1+1))) else (some (-1))) else (some (-1))) else (some (-1)))=some r:=H
     have A5:=Aside0.mk A50
     clear A50
     by_cases c6:((rd_T127 l0 x5_1).f0).toList=t102.toList
     ·rw [if_pos c6] at H
      have c6b0:(((rd_T127 l0 x5_1).f0).toList == t102.toList)=true:=beq_iff_eq.mpr c6
      have c6b1:(((rd_T127 l0 x5_1).f0).toList != t102.toList)=false:=bne_eq_false_iff_eq.mpr c6
      clear c6
      by_cases c7:((rd_T127 l0 x5_1).f1)=(wrap64 (x1_1+1))
      ·rw [if_pos c7] at H
       have c7b0:(((rd_T127 l0 x5_1).f1) == (wrap64 (x1_1+1)))=true:=beq_iff_eq.mpr c7
       have c7b1:(((rd_T127 l0 x5_1).f1) != (wrap64 (x1_1+1)))=false:=bne_eq_false_iff_eq.mpr c7
       clear c7
       by_cases c8:((rd_T127 l0 x5_1).f2)=(wrap64 ((wrap64 (x1_1+1))+1))
       ·rw [if_pos c8] at H
        have c8b0:(((rd_T127 l0 x5_1).f2) == (wrap64 ((wrap64 (x1_1+1))+1)))=true:=beq_iff_eq.mpr c8
        have c8b1:(((rd_T127 l0 x5_1).f2) != (wrap64 ((wrap64 (x1_1+1))+1)))=false:=bne_eq_false_iff_eq.mpr c8
        clear c8
        have H':=Aside0.mk H
        clear H
        try go_wp2
        replace HB:=Aside0.mk (below_drew1 HB.out)
        have p101:0≤(x5_1:Int):=of_decide_eq_true zb
        have q101:x5_1<(l0.length:Int):=of_decide_eq_true zb
        obtain ⟨ad101,e101,hx101_0,hx101_1,hx101_2⟩:=at_T127 HR0.out x5_1 p101 q101
        have hw101_2:=hx101_2
        have hw101_1:=hx101_1
        have hw101_0:=hx101_0
        cases e101
        replace hx101_0:=(HB.out.cell (World.block_lt_of_cell? w _ hx101_0)).trans hx101_0
        replace hx101_1:=(HB.out.cell (World.block_lt_of_cell? w _ hx101_1)).trans hx101_1
        replace hx101_2:=(HB.out.cell (World.block_lt_of_cell? w _ hx101_2)).trans hx101_2
        replace p101:=eq_true p101
        replace q101:=eq_true q101
        refine start_ (n:=8) (S:=fun w'=>w'.cell? (ad101.add ((x5_1).toNat*3))=some (.string ((rd_T127 l0 x5_1).f0))∧w'.cell? ⟨(ad101.add ((x5_1).toNat*3)).block,(ad101.add ((x5_1).toNat*3)).off+1,none⟩=some (.int .i64 ((rd_T127 l0 x5_1).f1))∧w'.cell? ⟨(ad101.add ((x5_1).toNat*3)).block,(ad101.add ((x5_1).toNat*3)).off+2,none⟩=some (.int .i64 ((rd_T127 l0 x5_1).f2))) (ds:=[]) #[false,false,false,false,false,false,false,false] zbk rfl rfl ⟨((HB.out.cell (World.block_lt_of_cell? w _ hw101_0)).trans hw101_0),((HB.out.cell (World.block_lt_of_cell? w _ hw101_1)).trans hw101_1),((HB.out.cell (World.block_lt_of_cell? w _ hw101_2)).trans hw101_2)⟩ (fun hHeld=>?_);refine with_tabW laws_heldTurnS.tab4 laws_heldTurnS.bits4 (fun HT_ HW_=>?_)
        generalize wr.drew=w9 at HB hx101_0 hx101_1 hx101_2 hHeld ⊢
        refine pA 0 12 ?_
        refine pA 1 13 ?_
        refine pA 2 14 ?_
        refine pA 3 15 ?_
        refine pA 5 17 ?_
        refine pT 4 16 rfl (by rintro w' ⟨s0,s1,s2⟩;go_simp;with_reducible rfl) ?_
        refine one_ (i:=6) (N:=some 18) #[true,true,true,true,true,true,true,false] rfl rfl (one_of HT_.out zbk) zbq (fun K hK=>?_)
        refine goes_ Try.func66 zbk rfl #[.int .i64 x1_1] (by rfl) rfl rfl zc ?_
        with_reducible refine (laws_markText.calls k1 x1_1 t102 _ A5.out).mono ?_
        rintro e w10 ⟨rfl,hb⟩
        refine ⟨_,rfl,?_⟩
        replace HB:=Aside0.mk (below_step za hb)
        (try clear hb)
        (try clear hb2)
        (try clear hk)
        (try clear hi)
        refine hK.out _ _ ⟨((HB.out.cell (World.block_lt_of_cell? w _ hw101_0)).trans hw101_0),((HB.out.cell (World.block_lt_of_cell? w _ hw101_1)).trans hw101_1),((HB.out.cell (World.block_lt_of_cell? w _ hw101_2)).trans hw101_2)⟩ (fun hHeld=>?_)
        clear hK K
        refine pN 18 ?_
        refine pA 7 19 ?_
        refine done_ (done_of HT_.out zbk) ?_
        have p103:0≤(x5_1:Int):=of_decide_eq_true zb
        have q103:x5_1<(l0.length:Int):=of_decide_eq_true zb
        obtain ⟨ad103,e103,hx103_0,hx103_1,hx103_2⟩:=at_T127 HR0.out x5_1 p103 q103
        obtain rfl:ad101=ad103:=(by injection e103)
        replace hx103_0:=(HB.out.cell (World.block_lt_of_cell? w _ hx103_0)).trans hx103_0
        replace hx103_1:=(HB.out.cell (World.block_lt_of_cell? w _ hx103_1)).trans hx103_1
        replace hx103_2:=(HB.out.cell (World.block_lt_of_cell? w _ hx103_2)).trans hx103_2
        replace p103:=eq_true p103
        replace q103:=eq_true q103
        have p104:0≤(x5_1:Int):=of_decide_eq_true zb
        have q104:x5_1<(l0.length:Int):=of_decide_eq_true zb
        obtain ⟨ad104,e104,hx104_0,hx104_1,hx104_2⟩:=at_T127 HR0.out x5_1 p104 q104
        obtain rfl:ad101=ad104:=(by injection e104)
        replace hx104_0:=(HB.out.cell (World.block_lt_of_cell? w _ hx104_0)).trans hx104_0
        replace hx104_1:=(HB.out.cell (World.block_lt_of_cell? w _ hx104_1)).trans hx104_1
        replace hx104_2:=(HB.out.cell (World.block_lt_of_cell? w _ hx104_2)).trans hx104_2
        replace p104:=eq_true p104
        replace q104:=eq_true q104
        try go_wp2
        go_roundg k1
        case measure=>have:=HK1.out;omega
        case rel=>exact ⟨(wrap64 ((wrap64 ((wrap64 (x1_1+1))+1))+1)),(wrap64 (x5_1+1)),zm,zm,H',⟨zdn⟩,⟨za⟩⟩
       ·rw [if_neg c8] at H
        have c8b0:(((rd_T127 l0 x5_1).f2) == (wrap64 ((wrap64 (x1_1+1))+1)))=false:=beq_eq_false_iff_ne.mpr c8
        have c8b1:(((rd_T127 l0 x5_1).f2) != (wrap64 ((wrap64 (x1_1+1))+1)))=true:=bne_iff_ne.mpr c8
        obtain rfl:=Option.some.inj H
        try go_wp2
        replace HB:=Aside0.mk (below_drew1 HB.out)
        have p101:0≤(x5_1:Int):=of_decide_eq_true zb
        have q101:x5_1<(l0.length:Int):=of_decide_eq_true zb
        obtain ⟨ad101,e101,hx101_0,hx101_1,hx101_2⟩:=at_T127 HR0.out x5_1 p101 q101
        have hw101_2:=hx101_2
        have hw101_1:=hx101_1
        have hw101_0:=hx101_0
        cases e101
        replace hx101_0:=(HB.out.cell (World.block_lt_of_cell? w _ hx101_0)).trans hx101_0
        replace hx101_1:=(HB.out.cell (World.block_lt_of_cell? w _ hx101_1)).trans hx101_1
        replace hx101_2:=(HB.out.cell (World.block_lt_of_cell? w _ hx101_2)).trans hx101_2
        replace p101:=eq_true p101
        replace q101:=eq_true q101
        refine start_ (n:=8) (S:=fun w'=>w'.cell? (ad101.add ((x5_1).toNat*3))=some (.string ((rd_T127 l0 x5_1).f0))∧w'.cell? ⟨(ad101.add ((x5_1).toNat*3)).block,(ad101.add ((x5_1).toNat*3)).off+1,none⟩=some (.int .i64 ((rd_T127 l0 x5_1).f1))∧w'.cell? ⟨(ad101.add ((x5_1).toNat*3)).block,(ad101.add ((x5_1).toNat*3)).off+2,none⟩=some (.int .i64 ((rd_T127 l0 x5_1).f2))) (ds:=[]) #[false,false,false,false,false,false,false,false] zbk rfl rfl ⟨((HB.out.cell (World.block_lt_of_cell? w _ hw101_0)).trans hw101_0),((HB.out.cell (World.block_lt_of_cell? w _ hw101_1)).trans hw101_1),((HB.out.cell (World.block_lt_of_cell? w _ hw101_2)).trans hw101_2)⟩ (fun hHeld=>?_);refine with_tabW laws_heldTurnS.tab4 laws_heldTurnS.bits4 (fun HT_ HW_=>?_)
        generalize wr.drew=w11 at HB hx101_0 hx101_1 hx101_2 hHeld ⊢
        refine pA 0 12 ?_
        refine pA 1 13 ?_
        refine pA 2 14 ?_
        refine pA 3 15 ?_
        refine pA 5 17 ?_
        refine pT 4 16 rfl (by rintro w' ⟨s0,s1,s2⟩;go_simp;with_reducible rfl) ?_
        refine one_ (i:=6) (N:=some 18) #[true,true,true,true,true,true,true,false] rfl rfl (one_of HT_.out zbk) zbq (fun K hK=>?_)
        refine goes_ Try.func66 zbk rfl #[.int .i64 x1_1] (by rfl) rfl rfl zc ?_
        with_reducible refine (laws_markText.calls k1 x1_1 t102 _ A5.out).mono ?_
        rintro e w12 ⟨rfl,hb⟩
        refine ⟨_,rfl,?_⟩
        replace HB:=Aside0.mk (below_step za hb)
        (try clear hb)
        (try clear hb2)
        (try clear hk)
        (try clear hi)
        refine hK.out _ _ ⟨((HB.out.cell (World.block_lt_of_cell? w _ hw101_0)).trans hw101_0),((HB.out.cell (World.block_lt_of_cell? w _ hw101_1)).trans hw101_1),((HB.out.cell (World.block_lt_of_cell? w _ hw101_2)).trans hw101_2)⟩ (fun hHeld=>?_)
        clear hK K
        refine pN 18 ?_
        refine pA 7 19 ?_
        refine done_ (done_of HT_.out zbk) ?_
        have p103:0≤(x5_1:Int):=of_decide_eq_true zb
        have q103:x5_1<(l0.length:Int):=of_decide_eq_true zb
        obtain ⟨ad103,e103,hx103_0,hx103_1,hx103_2⟩:=at_T127 HR0.out x5_1 p103 q103
        obtain rfl:ad101=ad103:=(by injection e103)
        replace hx103_0:=(HB.out.cell (World.block_lt_of_cell? w _ hx103_0)).trans hx103_0
        replace hx103_1:=(HB.out.cell (World.block_lt_of_cell? w _ hx103_1)).trans hx103_1
        replace hx103_2:=(HB.out.cell (World.block_lt_of_cell? w _ hx103_2)).trans hx103_2
        replace p103:=eq_true p103
        replace q103:=eq_true q103
        have p104:0≤(x5_1:Int):=of_decide_eq_true zb
        have q104:x5_1<(l0.length:Int):=of_decide_eq_true zb
        obtain ⟨ad104,e104,hx104_0,hx104_1,hx104_2⟩:=at_T127 HR0.out x5_1 p104 q104
        obtain rfl:ad101=ad104:=(by injection e104)
        replace hx104_0:=(HB.out.cell (World.block_lt_of_cell? w _ hx104_0)).trans hx104_0
        replace hx104_1:=(HB.out.cell (World.block_lt_of_cell? w _ hx104_1)).trans hx104_1
        replace hx104_2:=(HB.out.cell (World.block_lt_of_cell? w _ hx104_2)).trans hx104_2
        replace p104:=eq_true p104
        replace q104:=eq_true q104
        try go_wp2
        go_ret
        exact ⟨zk,za⟩
      ·rw [if_neg c7] at H
       have c7b0:(((rd_T127 l0 x5_1).f1) == (wrap64 (x1_1+1)))=false:=beq_eq_false_iff_ne.mpr c7
       have c7b1:(((rd_T127 l0 x5_1).f1) != (wrap64 (x1_1+1)))=true:=bne_iff_ne.mpr c7
       obtain rfl:=Option.some.inj H
       try go_wp2
       replace HB:=Aside0.mk (below_drew1 HB.out)
       have p101:0≤(x5_1:Int):=of_decide_eq_true zb
       have q101:x5_1<(l0.length:Int):=of_decide_eq_true zb
       obtain ⟨ad101,e101,hx101_0,hx101_1,hx101_2⟩:=at_T127 HR0.out x5_1 p101 q101
       have hw101_2:=hx101_2
       have hw101_1:=hx101_1
       have hw101_0:=hx101_0
       cases e101
       replace hx101_0:=(HB.out.cell (World.block_lt_of_cell? w _ hx101_0)).trans hx101_0
       replace hx101_1:=(HB.out.cell (World.block_lt_of_cell? w _ hx101_1)).trans hx101_1
       replace hx101_2:=(HB.out.cell (World.block_lt_of_cell? w _ hx101_2)).trans hx101_2
       replace p101:=eq_true p101
       replace q101:=eq_true q101
       refine start_ (n:=8) (S:=fun w'=>w'.cell? (ad101.add ((x5_1).toNat*3))=some (.string ((rd_T127 l0 x5_1).f0))∧w'.cell? ⟨(ad101.add ((x5_1).toNat*3)).block,(ad101.add ((x5_1).toNat*3)).off+1,none⟩=some (.int .i64 ((rd_T127 l0 x5_1).f1))∧w'.cell? ⟨(ad101.add ((x5_1).toNat*3)).block,(ad101.add ((x5_1).toNat*3)).off+2,none⟩=some (.int .i64 ((rd_T127 l0 x5_1).f2))) (ds:=[]) #[false,false,false,false,false,false,false,false] zbk rfl rfl ⟨((HB.out.cell (World.block_lt_of_cell? w _ hw101_0)).trans hw101_0),((HB.out.cell (World.block_lt_of_cell? w _ hw101_1)).trans hw101_1),((HB.out.cell (World.block_lt_of_cell? w _ hw101_2)).trans hw101_2)⟩ (fun hHeld=>?_);refine with_tabW laws_heldTurnS.tab4 laws_heldTurnS.bits4 (fun HT_ HW_=>?_)
       generalize wr.drew=w13 at HB hx101_0 hx101_1 hx101_2 hHeld ⊢
       refine pA 0 12 ?_
       refine pA 1 13 ?_
       refine pA 2 14 ?_
       refine pA 3 15 ?_
       refine pA 5 17 ?_
       refine pT 4 16 rfl (by rintro w' ⟨s0,s1,s2⟩;go_simp;with_reducible rfl) ?_
       refine one_ (i:=6) (N:=some 18) #[true,true,true,true,true,true,true,false] rfl rfl (one_of HT_.out zbk) zbq (fun K hK=>?_)
       refine goes_ Try.func66 zbk rfl #[.int .i64 x1_1] (by rfl) rfl rfl zc ?_
       with_reducible refine (laws_markText.calls k1 x1_1 t102 _ A5.out).mono ?_
       rintro e w14 ⟨rfl,hb⟩
       refine ⟨_,rfl,?_⟩
       replace HB:=Aside0.mk (below_step za hb)
       (try clear hb)
       (try clear hb2)
       (try clear hk)
       (try clear hi)
       refine hK.out _ _ ⟨((HB.out.cell (World.block_lt_of_cell? w _ hw101_0)).trans hw101_0),((HB.out.cell (World.block_lt_of_cell? w _ hw101_1)).trans hw101_1),((HB.out.cell (World.block_lt_of_cell? w _ hw101_2)).trans hw101_2)⟩ (fun hHeld=>?_)
       clear hK K
       refine pN 18 ?_
       refine pA 7 19 ?_
       refine done_ (done_of HT_.out zbk) ?_
       have p103:0≤(x5_1:Int):=of_decide_eq_true zb
       have q103:x5_1<(l0.length:Int):=of_decide_eq_true zb
       obtain ⟨ad103,e103,hx103_0,hx103_1,hx103_2⟩:=at_T127 HR0.out x5_1 p103 q103
       obtain rfl:ad101=ad103:=(by injection e103)
       replace hx103_0:=(HB.out.cell (World.block_lt_of_cell? w _ hx103_0)).trans hx103_0
       replace hx103_1:=(HB.out.cell (World.block_lt_of_cell? w _ hx103_1)).trans hx103_1
       replace hx103_2:=(HB.out.cell (World.block_lt_of_cell? w _ hx103_2)).trans hx103_2
       replace p103:=eq_true p103
       replace q103:=eq_true q103
       try go_wp2
       go_ret
       exact ⟨zk,za⟩
     ·rw [if_neg c6] at H
      have c6b0:(((rd_T127 l0 x5_1).f0).toList == t102.toList)=false:=beq_eq_false_iff_ne.mpr c6
      have c6b1:(((rd_T127 l0 x5_1).f0).toList != t102.toList)=true:=bne_iff_ne.mpr c6
      obtain rfl:=Option.some.inj H
      try go_wp2
      replace HB:=Aside0.mk (below_drew1 HB.out)
      have p101:0≤(x5_1:Int):=of_decide_eq_true zb
      have q101:x5_1<(l0.length:Int):=of_decide_eq_true zb
      obtain ⟨ad101,e101,hx101_0,hx101_1,hx101_2⟩:=at_T127 HR0.out x5_1 p101 q101
      have hw101_2:=hx101_2
      have hw101_1:=hx101_1
      have hw101_0:=hx101_0
      cases e101
      replace hx101_0:=(HB.out.cell (World.block_lt_of_cell? w _ hx101_0)).trans hx101_0
      replace hx101_1:=(HB.out.cell (World.block_lt_of_cell? w _ hx101_1)).trans hx101_1
      replace hx101_2:=(HB.out.cell (World.block_lt_of_cell? w _ hx101_2)).trans hx101_2
      replace p101:=eq_true p101
      replace q101:=eq_true q101
      refine start_ (n:=8) (S:=fun w'=>w'.cell? (ad101.add ((x5_1).toNat*3))=some (.string ((rd_T127 l0 x5_1).f0))∧w'.cell? ⟨(ad101.add ((x5_1).toNat*3)).block,(ad101.add ((x5_1).toNat*3)).off+1,none⟩=some (.int .i64 ((rd_T127 l0 x5_1).f1))∧w'.cell? ⟨(ad101.add ((x5_1).toNat*3)).block,(ad101.add ((x5_1).toNat*3)).off+2,none⟩=some (.int .i64 ((rd_T127 l0 x5_1).f2))) (ds:=[]) #[false,false,false,false,false,false,false,false] zbk rfl rfl ⟨((HB.out.cell (World.block_lt_of_cell? w _ hw101_0)).trans hw101_0),((HB.out.cell (World.block_lt_of_cell? w _ hw101_1)).trans hw101_1),((HB.out.cell (World.block_lt_of_cell? w _ hw101_2)).trans hw101_2)⟩ (fun hHeld=>?_);refine with_tabW laws_heldTurnS.tab4 laws_heldTurnS.bits4 (fun HT_ HW_=>?_)
      generalize wr.drew=w15 at HB hx101_0 hx101_1 hx101_2 hHeld ⊢
      refine pA 0 12 ?_
      refine pA 1 13 ?_
      refine pA 2 14 ?_
      refine pA 3 15 ?_
      refine pA 5 17 ?_
      refine pT 4 16 rfl (by rintro w' ⟨s0,s1,s2⟩;go_simp;with_reducible rfl) ?_
      refine one_ (i:=6) (N:=some 18) #[true,true,true,true,true,true,true,false] rfl rfl (one_of HT_.out zbk) zbq (fun K hK=>?_)
      refine goes_ Try.func66 zbk rfl #[.int .i64 x1_1] (by rfl) rfl rfl zc ?_
      with_reducible refine (laws_markText.calls k1 x1_1 t102 _ A5.out).mono ?_
      rintro e w16 ⟨rfl,hb⟩
      refine ⟨_,rfl,?_⟩
      replace HB:=Aside0.mk (below_step za hb)
      (try clear hb)
      (try clear hb2)
      (try clear hk)
      (try clear hi)
      refine hK.out _ _ ⟨((HB.out.cell (World.block_lt_of_cell? w _ hw101_0)).trans hw101_0),((HB.out.cell (World.block_lt_of_cell? w _ hw101_1)).trans hw101_1),((HB.out.cell (World.block_lt_of_cell? w _ hw101_2)).trans hw101_2)⟩ (fun hHeld=>?_)
      clear hK K
      refine pN 18 ?_
      refine pA 7 19 ?_
      refine done_ (done_of HT_.out zbk) ?_
      try go_wp2
      go_ret
      exact ⟨zk,za⟩
    ·rw [if_neg c4] at H
     exact absurd H zdd
   ·rw [if_neg c3] at H
    have c3b0:decide (x5_1<(l0.length:Int))=false:=decide_eq_false c3
    clear c3
    obtain rfl:=Option.some.inj H
    go_wp2
    go_ret
    exact ⟨zk,za⟩
end Go.Proofs.Ytocegmkifmdlcaa.P

namespace Go.Proofs.Ytocegmkifmdlcaa.P
open Go.RowKit Go.Proofs.YtocegmkifmdlcaaW.PrintWords Go.Proofs.YtocegmkifmdlcaaW.PrintLast Go.Proofs.YtocegmkifmdlcaaW.PrintMore
set_option linter.unusedVariables false
set_option linter.unusedSimpArgs false
def Iv (lo hi : Nat) : Nat → Prop := fun k => lo ≤ k ∧ k < hi
theorem sz_alloc {n : Nat} {W : World} (h : n ≤ W.heap.size) (o : Obj) : n ≤ (W.alloc o).heap.size := Nat.le_trans h (below_alloc (Below.refl _ _) o).size
theorem sz_drewN {n : Nat} {W : World} (h : n ≤ W.heap.size) (m : Nat) : n ≤ (W.drewN m).heap.size := h
theorem sz_drew {n : Nat} {W : World} (h : n ≤ W.heap.size) : n ≤ W.drew.heap.size := h
section
variable {α : Type} {d : Kd α} {e base lo : Nat} {ok : Nat → Prop} {W W1 : World} {v : Value} {xs : List α}
theorem Iv_R (h : d.R e W1 W.heap.size ok v xs) (hb : base ≤ W.heap.size) (hl : lo ≤ W.heap.size) : d.R e W1 base (Iv lo W1.heap.size) v xs :=
  Kd.R_mono (Kd.R_lower (Kd.R_bound h) hb) (fun _ hk => ⟨Nat.le_trans hl hk.2.1, hk.2.2.1⟩)
end
end Go.Proofs.Ytocegmkifmdlcaa.P

namespace Go.Proofs.Ytocegmkifmdlcaa.P
open Go.RowKit Go.Proofs.YtocegmkifmdlcaaW.PrintWords Go.Proofs.YtocegmkifmdlcaaW.PrintLast Go.Proofs.YtocegmkifmdlcaaW.PrintMore
attribute [local go_sem] max2_int min2_int max_two min_two max_three min_three max_four min_four str_leq str_gtr str_geq
set_option linter.unusedVariables false
set_option linter.unusedSimpArgs false
def laws_FnExactAddAnswers.g (k:Nat) (l0:List S116) (l1:List S119) (a2:Int):Option Bool:=(laws_toTurnS.f k l0).bind fun t5=>((laws_toAnswerS.f k l1).bind fun t8=>((spec_AddAnswers.f k t5 t8 a2).bind fun bt11=>((laws_toTurnS.f k l0).bind fun t15=>((laws_toAnswerS.f k l1).bind fun t18=>((impl_AddAnswers.f k t15 t18 a2).bind fun bt21=>(if laws_eqTurnS.f k bt21.1 bt11.1=some true then (if bt21.2=bt11.2 then ((laws_toTurnS.f k l0).bind fun t27=>(if laws_eqTurnS.f k t15 t27=some true then ((laws_toAnswerS.f k l1).bind fun t32=>(if laws_eqAnswerS.f k t18 t32=some true then ((laws_markTurnS.f k t15 1).bind fun bt37=>((laws_markAnswerS.f k t18 bt37.1).bind fun bt40=>(if bt40.1<0 then none else (if laws_eqTurnS.f k bt21.1 bt11.1=some true then (if bt21.2=bt11.2 then ((laws_markTurnS.f k bt21.1 1).bind fun bt45=>((laws_heldTurnS.f k bt45.2 1).bind fun t48=>(if t48<0 then none else (if t48=bt45.1 then ((laws_toTurnS.f k l0).bind fun t50=>((laws_toAnswerS.f k l1).bind fun t53=>((impl_AddAnswers.f k t50 t53 a2).bind fun bt56=>(if laws_eqTurnS.f k bt56.1 bt11.1=some true then (if bt56.2=bt11.2 then ((laws_heldTurnS.f k bt45.2 1).bind fun t62=>(if t62<0 then none else (if t62=bt45.1 then (some true) else none))) else none) else none)))) else none)))) else none) else none)))) else none)) else none)) else none) else none))))))
def laws_FnExactAddAnswers.f (k:Nat) (l0:List S116) (l1:List S119) (a2:Int):Option Bool:=(laws_szTurnS.f k l0 1048576).bind fun t1=>(if t1<0 then some true else ((laws_szAnswerS.f k l1 t1).bind fun t3=>(if t3<0 then some true else (laws_FnExactAddAnswers.g k l0 l1 a2))))
set_option maxHeartbeats 8000000 in
set_option maxRecDepth 100000 in
theorem laws_FnExactAddAnswers.early0 (k:Nat) (A0:Option Addr) (c0:Nat) (l0:List S116) (A1:Option Addr) (c1:Nat) (l1:List S119) (a2:Int) (w:World) (hr0:Kd.C k116 w A0 l0.length l0) (hc0:l0.length≤c0) (hr1:Kd.C k119 w A1 l1.length l1) (hc1:l1.length≤c1) (t1:Int) (Q2:Aside0 (laws_szTurnS.f k l0 1048576=some t1)) (ef:t1<0) :
 Calls Try.prog 7 #[.slice A0 l0.length c0,.slice A1 l1.length c1,.int .i64 a2] w fun e w'=>e = .returned (.bool true)∧Below w.heap.size w w':=by
 have efb:decide (t1<0)=true:=decide_eq_true ef
 clear ef
 have HR0:=Aside0.mk hr0
 have HR1:=Aside0.mk hr1
 have HC0:=Aside0.mk hc0
 have HC1:=Aside0.mk hc1
 clear hr0 hc0 hr1 hc1
 have HB:=Aside0.mk (Below.refl w.heap.size w)
 go_enter Try.func7,Try.ntmps7
 go_wp2_with fail
 refine (laws_szTurnS.calls k _ _ l0 1048576 t1 _ zcr HC0.out Q2.out).mono ?_
 rintro e w1 ⟨rfl,hb⟩
 replace HB:=Aside0.mk (below_step za hb)
 clear hb
 go_wp2_with fail
 go_ret
 exact ⟨rfl,za⟩
set_option maxHeartbeats 8000000 in
set_option maxRecDepth 100000 in
theorem laws_FnExactAddAnswers.early1 (k:Nat) (A0:Option Addr) (c0:Nat) (l0:List S116) (A1:Option Addr) (c1:Nat) (l1:List S119) (a2:Int) (w:World) (hr0:Kd.C k116 w A0 l0.length l0) (hc0:l0.length≤c0) (hr1:Kd.C k119 w A1 l1.length l1) (hc1:l1.length≤c1) (t1:Int) (t3:Int) (Q2:Aside0 (laws_szTurnS.f k l0 1048576=some t1)) (e1:¬ t1<0) (Q4:Aside0 (laws_szAnswerS.f k l1 t1=some t3)) (ef:t3<0) :
 Calls Try.prog 7 #[.slice A0 l0.length c0,.slice A1 l1.length c1,.int .i64 a2] w fun e w'=>e = .returned (.bool true)∧Below w.heap.size w w':=by
 have e1b:decide (t1<0)=false:=decide_eq_false e1
 clear e1
 have efb:decide (t3<0)=true:=decide_eq_true ef
 clear ef
 have HR0:=Aside0.mk hr0
 have HR1:=Aside0.mk hr1
 have HC0:=Aside0.mk hc0
 have HC1:=Aside0.mk hc1
 clear hr0 hc0 hr1 hc1
 have HB:=Aside0.mk (Below.refl w.heap.size w)
 go_enter Try.func7,Try.ntmps7
 go_wp2_with fail
 refine (laws_szTurnS.calls k _ _ l0 1048576 t1 _ zcr HC0.out Q2.out).mono ?_
 rintro e w1 ⟨rfl,hb⟩
 replace HB:=Aside0.mk (below_step za hb)
 clear hb
 go_wp2_with fail
 refine (laws_szAnswerS.calls k _ _ l1 t1 t3 _ zcu HC1.out Q4.out).mono ?_
 rintro e w2 ⟨rfl,hb⟩
 replace HB:=Aside0.mk (below_step za hb)
 clear hb
 go_wp2_with fail
 go_ret
 exact ⟨rfl,za⟩
set_option maxHeartbeats 8000000 in
set_option maxRecDepth 100000 in
theorem laws_FnExactAddAnswers.main (k:Nat) (A0:Option Addr) (c0:Nat) (l0:List S116) (A1:Option Addr) (c1:Nat) (l1:List S119) (a2:Int) (w:World) (hr0:Kd.C k116 w A0 l0.length l0) (hc0:l0.length≤c0) (hr1:Kd.C k119 w A1 l1.length l1) (hc1:l1.length≤c1) (t1:Int) (t3:Int) (t5:List (S127)) (t8:List (S125)) (t11:List (S127)) (t12:Int) (t15:List (S127)) (t18:List (S125)) (t21:List (S127)) (t22:Int) (t27:List (S127)) (t32:List (S125)) (t37:Int) (t38:List (S127)) (t40:Int) (t41:List (S125)) (t45:Int) (t46:List (S127)) (t48:Int) (t50:List (S127)) (t53:List (S125)) (t56:List (S127)) (t57:Int) (t62:Int) (Q2:Aside0 (laws_szTurnS.f k l0 1048576=some t1)) (e1:¬ t1<0) (Q4:Aside0 (laws_szAnswerS.f k l1 t1=some t3)) (e3:¬ t3<0) (Q6:Aside0 (laws_toTurnS.f k l0=some t5)) (Q9:Aside0 (laws_toAnswerS.f k l1=some t8)) (Q13:Aside0 (spec_AddAnswers.f k t5 t8 a2=some (t11,t12))) (Q16:Aside0 (laws_toTurnS.f k l0=some t15)) (Q19:Aside0 (laws_toAnswerS.f k l1=some t18)) (Q23:Aside0 (impl_AddAnswers.f k t15 t18 a2=some (t21,t22))) (Q26:Aside0 (laws_eqTurnS.f k t21 t11=some true)) (e11:t22=t12) (Q28:Aside0 (laws_toTurnS.f k l0=some t27)) (Q31:Aside0 (laws_eqTurnS.f k t15 t27=some true)) (Q33:Aside0 (laws_toAnswerS.f k l1=some t32)) (Q36:Aside0 (laws_eqAnswerS.f k t18 t32=some true)) (Q39:Aside0 (laws_markTurnS.f k t15 1=some (t37,t38))) (Q42:Aside0 (laws_markAnswerS.f k t18 t37=some (t40,t41))) (e18:¬ t40<0) (Q44:Aside0 (laws_eqTurnS.f k t21 t11=some true)) (e20:t22=t12) (Q47:Aside0 (laws_markTurnS.f k t21 1=some (t45,t46))) (Q49:Aside0 (laws_heldTurnS.f k t46 1=some t48)) (e23:¬ t48<0) (e24:t48=t45) (Q51:Aside0 (laws_toTurnS.f k l0=some t50)) (Q54:Aside0 (laws_toAnswerS.f k l1=some t53)) (Q58:Aside0 (impl_AddAnswers.f k t50 t53 a2=some (t56,t57))) (Q61:Aside0 (laws_eqTurnS.f k t56 t11=some true)) (e29:t57=t12) (Q63:Aside0 (laws_heldTurnS.f k t46 1=some t62)) (e31:¬ t62<0) (e32:t62=t45) :
 Calls Try.prog 7 #[.slice A0 l0.length c0,.slice A1 l1.length c1,.int .i64 a2] w fun e w'=>e = .returned (.bool true)∧Below w.heap.size w w':=by
 have e1b:decide (t1<0)=false:=decide_eq_false e1
 clear e1
 have e3b:decide (t3<0)=false:=decide_eq_false e3
 clear e3
 have e11b:(t22 == t12)=true:=beq_iff_eq.mpr e11
 have e11c:(t22 != t12)=false:=bne_eq_false_iff_eq.mpr e11
 clear e11
 have e18b:decide (t40<0)=false:=decide_eq_false e18
 clear e18
 have e20b:(t22 == t12)=true:=beq_iff_eq.mpr e20
 have e20c:(t22 != t12)=false:=bne_eq_false_iff_eq.mpr e20
 clear e20
 have e23b:decide (t48<0)=false:=decide_eq_false e23
 clear e23
 have e24b:(t48 == t45)=true:=beq_iff_eq.mpr e24
 have e24c:(t48 != t45)=false:=bne_eq_false_iff_eq.mpr e24
 clear e24
 have e29b:(t57 == t12)=true:=beq_iff_eq.mpr e29
 have e29c:(t57 != t12)=false:=bne_eq_false_iff_eq.mpr e29
 clear e29
 have e31b:decide (t62<0)=false:=decide_eq_false e31
 clear e31
 have e32b:(t62 == t45)=true:=beq_iff_eq.mpr e32
 have e32c:(t62 != t45)=false:=bne_eq_false_iff_eq.mpr e32
 clear e32
 have HR0:=Aside0.mk hr0
 have HR1:=Aside0.mk hr1
 have HC0:=Aside0.mk hc0
 have HC1:=Aside0.mk hc1
 clear hr0 hc0 hr1 hc1
 have HB:=Aside0.mk (Below.refl w.heap.size w)
 go_enter Try.func7,Try.ntmps7
 go_wp2_with fail
 refine (laws_szTurnS.calls k _ _ l0 1048576 t1 _ zcr HC0.out Q2.out).mono ?_
 rintro e w1 ⟨rfl,hb⟩
 replace HB:=Aside0.mk (below_step za hb)
 clear hb
 go_wp2_with fail
 refine (laws_szAnswerS.calls k _ _ l1 t1 t3 _ zcu HC1.out Q4.out).mono ?_
 rintro e w2 ⟨rfl,hb⟩
 replace HB:=Aside0.mk (below_step za hb)
 clear hb
 go_wp2_with fail
 refine (laws_toTurnS.calls k _ _ l0 t5 _ zcr HC0.out Q6.out).mono ?_
 rintro e w3 ⟨v0,rfl,ho0,hb⟩
 have HO_row7:=Aside0.mk (Iv_R (lo:=w.heap.size) (W:=_) ho0 (below_size za) (below_size za))
 have HS:=Aside0.mk (Nat.le_refl w3.heap.size)
 have M3:=Aside0.mk (Nat.le_trans (below_size za) hb.size)
 replace HB:=Aside0.mk (below_step za hb)
 clear hb ho0
 obtain ⟨A_row7,c_row7,rfl⟩:=Kd.R_slice HO_row7.out
 go_wp2_with fail
 refine (laws_toAnswerS.calls k _ _ l1 t8 _ zcu HC1.out Q9.out).mono ?_
 rintro e w4 ⟨v0,rfl,ho0,hb⟩
 have n0_:=Aside0.mk (Kd.R_below zba hb)
 have n1_:=Aside0.mk (Iv_R (lo:=w3.heap.size) (W:=_) ho0 (below_size za) zad)
 have n2_:=Aside0.mk (Nat.le_refl w4.heap.size)
 have n3_:=Aside0.mk (Nat.le_trans zad hb.size)
 have n4_:=Aside0.mk (below_step za hb)
 clear HB HS HO_row7 hb ho0
 have HO_row7:=n0_
 have HO_row10:=n1_
 have HS:=n2_
 have M4:=n3_
 have HB:=n4_
 clear n0_ n1_ n2_ n3_ n4_
 obtain ⟨A_row10,c_row10,rfl⟩:=Kd.R_slice HO_row10.out
 go_wp2_with fail
 refine (spec_AddAnswers.calls k _ _ t5 _ _ t8 a2 t11 t12 _ (by exact (Kd.R_reads' zba).2.2) (by exact (Kd.R_reads' HO_row7.out).2.1) (by exact (Kd.R_reads' zbj).2.2) (by exact (Kd.R_reads' HO_row10.out).2.1) Q13.out).mono ?_
 rintro e w5 ⟨v0,rfl,ho0,hb⟩
 have n0_:=Aside0.mk (Kd.R_below zba hb)
 have n1_:=Aside0.mk (Kd.R_below zbj hb)
 have n2_:=Aside0.mk (Iv_R (lo:=w4.heap.size) (W:=_) ho0 (below_size za) zad)
 have n3_:=Aside0.mk (Nat.le_refl w5.heap.size)
 have n4_:=Aside0.mk (Nat.le_trans zad hb.size)
 have n5_:=Aside0.mk (below_step za hb)
 clear HB HS HO_row7 HO_row10 hb ho0
 have HO_row7:=n0_
 have HO_row10:=n1_
 have HO_row14:=n2_
 have HS:=n3_
 have M5:=n4_
 have HB:=n5_
 clear n0_ n1_ n2_ n3_ n4_ n5_
 obtain ⟨A_row14,c_row14,rfl⟩:=Kd.R_slice HO_row14.out
 go_wp2_with fail
 refine (laws_toTurnS.calls k _ _ l0 t15 _ zcr HC0.out Q16.out).mono ?_
 rintro e w6 ⟨v0,rfl,ho0,hb⟩
 have n0_:=Aside0.mk (Kd.R_below zba hb)
 have n1_:=Aside0.mk (Kd.R_below zbj hb)
 have n2_:=Aside0.mk (Kd.R_below zaz hb)
 have n3_:=Aside0.mk (Iv_R (lo:=w5.heap.size) (W:=_) ho0 (below_size za) zad)
 have n4_:=Aside0.mk (Nat.le_refl w6.heap.size)
 have n5_:=Aside0.mk (Nat.le_trans zad hb.size)
 have n6_:=Aside0.mk (below_step za hb)
 clear HB HS HO_row7 HO_row10 HO_row14 hb ho0
 have HO_row7:=n0_
 have HO_row10:=n1_
 have HO_row14:=n2_
 have HO_row17:=n3_
 have HS:=n4_
 have M6:=n5_
 have HB:=n6_
 clear n0_ n1_ n2_ n3_ n4_ n5_ n6_
 obtain ⟨A_row17,c_row17,rfl⟩:=Kd.R_slice HO_row17.out
 go_wp2_with fail
 refine (laws_toAnswerS.calls k _ _ l1 t18 _ zcu HC1.out Q19.out).mono ?_
 rintro e w7 ⟨v0,rfl,ho0,hb⟩
 have n0_:=Aside0.mk (Kd.R_below zba hb)
 have n1_:=Aside0.mk (Kd.R_below zbj hb)
 have n2_:=Aside0.mk (Kd.R_below zaz hb)
 have n3_:=Aside0.mk (Kd.R_below zbl hb)
 have n4_:=Aside0.mk (Iv_R (lo:=w6.heap.size) (W:=_) ho0 (below_size za) zad)
 have n5_:=Aside0.mk (Nat.le_refl w7.heap.size)
 have n6_:=Aside0.mk (Nat.le_trans zad hb.size)
 have n7_:=Aside0.mk (below_step za hb)
 clear HB HS HO_row7 HO_row10 HO_row14 HO_row17 hb ho0
 have HO_row7:=n0_
 have HO_row10:=n1_
 have HO_row14:=n2_
 have HO_row17:=n3_
 have HO_row20:=n4_
 have HS:=n5_
 have M7:=n6_
 have HB:=n7_
 clear n0_ n1_ n2_ n3_ n4_ n5_ n6_ n7_
 obtain ⟨A_row20,c_row20,rfl⟩:=Kd.R_slice HO_row20.out
 go_wp2_with fail
 refine (impl_AddAnswers.calls k _ _ t15 _ _ t18 a2 t21 t22 _ (by exact (Kd.R_reads' zbl).2.2) (by exact (Kd.R_reads' HO_row17.out).2.1) (by exact (Kd.R_reads' zbn).2.2) (by exact (Kd.R_reads' HO_row20.out).2.1) Q23.out).mono ?_
 rintro e w8 ⟨v0,rfl,ho0,hb⟩
 have n0_:=Aside0.mk (Kd.R_below zba hb)
 have n1_:=Aside0.mk (Kd.R_below zbj hb)
 have n2_:=Aside0.mk (Kd.R_below zaz hb)
 have n3_:=Aside0.mk (Kd.R_below zbl hb)
 have n4_:=Aside0.mk (Kd.R_below zbn hb)
 have n5_:=Aside0.mk (Iv_R (lo:=w7.heap.size) (W:=_) ho0 (below_size za) zad)
 have n6_:=Aside0.mk (Nat.le_refl w8.heap.size)
 have n7_:=Aside0.mk (Nat.le_trans zad hb.size)
 have n8_:=Aside0.mk (below_step za hb)
 clear HB HS HO_row7 HO_row10 HO_row14 HO_row17 HO_row20 hb ho0
 have HO_row7:=n0_
 have HO_row10:=n1_
 have HO_row14:=n2_
 have HO_row17:=n3_
 have HO_row20:=n4_
 have HO_row24:=n5_
 have HS:=n6_
 have M8:=n7_
 have HB:=n8_
 clear n0_ n1_ n2_ n3_ n4_ n5_ n6_ n7_ n8_
 obtain ⟨A_row24,c_row24,rfl⟩:=Kd.R_slice HO_row24.out
 go_wp2_with fail
 refine (laws_eqTurnS.calls k _ _ t21 _ _ t11 true _ zdl (by exact (Kd.R_reads' HO_row24.out).2.1) (by exact (Kd.R_reads' zaz).2.2) (by exact (Kd.R_reads' HO_row14.out).2.1) Q26.out).mono ?_
 rintro e w9 ⟨rfl,hb⟩
 replace HO_row7:=Aside0.mk (Kd.R_below zba hb)
 replace HO_row10:=Aside0.mk (Kd.R_below zbj hb)
 replace HO_row14:=Aside0.mk (Kd.R_below zaz hb)
 replace HO_row17:=Aside0.mk (Kd.R_below zbl hb)
 replace HO_row20:=Aside0.mk (Kd.R_below zbn hb)
 replace HO_row24:=Aside0.mk (Kd.R_below zbm hb)
 replace HS:=Aside0.mk (Nat.le_trans zad hb.size)
 replace HB:=Aside0.mk (below_step za hb)
 clear hb
 go_wp2_with fail
 refine (laws_toTurnS.calls k _ _ l0 t27 _ zcr HC0.out Q28.out).mono ?_
 rintro e w10 ⟨v0,rfl,ho0,hb⟩
 have n0_:=Aside0.mk (Kd.R_below zba hb)
 have n1_:=Aside0.mk (Kd.R_below zbj hb)
 have n2_:=Aside0.mk (Kd.R_below zaz hb)
 have n3_:=Aside0.mk (Kd.R_below zbl hb)
 have n4_:=Aside0.mk (Kd.R_below zbn hb)
 have n5_:=Aside0.mk (Kd.R_below zbm hb)
 have n6_:=Aside0.mk (Iv_R (lo:=w8.heap.size) (W:=_) ho0 (below_size za) zad)
 have n7_:=Aside0.mk (Nat.le_refl w10.heap.size)
 have n8_:=Aside0.mk (Nat.le_trans zad hb.size)
 have n9_:=Aside0.mk (below_step za hb)
 clear HB HS HO_row7 HO_row10 HO_row14 HO_row17 HO_row20 HO_row24 hb ho0
 have HO_row7:=n0_
 have HO_row10:=n1_
 have HO_row14:=n2_
 have HO_row17:=n3_
 have HO_row20:=n4_
 have HO_row24:=n5_
 have HO_row29:=n6_
 have HS:=n7_
 have M10:=n8_
 have HB:=n9_
 clear n0_ n1_ n2_ n3_ n4_ n5_ n6_ n7_ n8_ n9_
 obtain ⟨A_row29,c_row29,rfl⟩:=Kd.R_slice HO_row29.out
 go_wp2_with fail
 refine (laws_eqTurnS.calls k _ _ t15 _ _ t27 true _ (by exact (Kd.R_reads' zbl).2.2) (by exact (Kd.R_reads' HO_row17.out).2.1) (by exact (Kd.R_reads' zcc).2.2) (by exact (Kd.R_reads' HO_row29.out).2.1) Q31.out).mono ?_
 rintro e w11 ⟨rfl,hb⟩
 replace HO_row7:=Aside0.mk (Kd.R_below zba hb)
 replace HO_row10:=Aside0.mk (Kd.R_below zbj hb)
 replace HO_row14:=Aside0.mk (Kd.R_below zaz hb)
 replace HO_row17:=Aside0.mk (Kd.R_below zbl hb)
 replace HO_row20:=Aside0.mk (Kd.R_below zbn hb)
 replace HO_row24:=Aside0.mk (Kd.R_below zbm hb)
 replace HO_row29:=Aside0.mk (Kd.R_below zcc hb)
 replace HS:=Aside0.mk (Nat.le_trans zad hb.size)
 replace HB:=Aside0.mk (below_step za hb)
 clear hb
 go_wp2_with fail
 refine (laws_toAnswerS.calls k _ _ l1 t32 _ zcu HC1.out Q33.out).mono ?_
 rintro e w12 ⟨v0,rfl,ho0,hb⟩
 have n0_:=Aside0.mk (Kd.R_below zba hb)
 have n1_:=Aside0.mk (Kd.R_below zbj hb)
 have n2_:=Aside0.mk (Kd.R_below zaz hb)
 have n3_:=Aside0.mk (Kd.R_below zbl hb)
 have n4_:=Aside0.mk (Kd.R_below zbn hb)
 have n5_:=Aside0.mk (Kd.R_below zbm hb)
 have n6_:=Aside0.mk (Kd.R_below zcc hb)
 have n7_:=Aside0.mk (Iv_R (lo:=w10.heap.size) (W:=_) ho0 (below_size za) zad)
 have n8_:=Aside0.mk (Nat.le_refl w12.heap.size)
 have n9_:=Aside0.mk (Nat.le_trans zad hb.size)
 have n10_:=Aside0.mk (below_step za hb)
 clear HB HS HO_row7 HO_row10 HO_row14 HO_row17 HO_row20 HO_row24 HO_row29 hb ho0
 have HO_row7:=n0_
 have HO_row10:=n1_
 have HO_row14:=n2_
 have HO_row17:=n3_
 have HO_row20:=n4_
 have HO_row24:=n5_
 have HO_row29:=n6_
 have HO_row34:=n7_
 have HS:=n8_
 have M12:=n9_
 have HB:=n10_
 clear n0_ n1_ n2_ n3_ n4_ n5_ n6_ n7_ n8_ n9_ n10_
 obtain ⟨A_row34,c_row34,rfl⟩:=Kd.R_slice HO_row34.out
 go_wp2_with fail
 refine (laws_eqAnswerS.calls k _ _ t18 _ _ t32 true _ (by exact (Kd.R_reads' zbn).2.2) (by exact (Kd.R_reads' HO_row20.out).2.1) (by exact (Kd.R_reads' zcn).2.2) (by exact (Kd.R_reads' HO_row34.out).2.1) Q36.out).mono ?_
 rintro e w13 ⟨rfl,hb⟩
 replace HO_row7:=Aside0.mk (Kd.R_below zba hb)
 replace HO_row10:=Aside0.mk (Kd.R_below zbj hb)
 replace HO_row14:=Aside0.mk (Kd.R_below zaz hb)
 replace HO_row17:=Aside0.mk (Kd.R_below zbl hb)
 replace HO_row20:=Aside0.mk (Kd.R_below zbn hb)
 replace HO_row24:=Aside0.mk (Kd.R_below zbm hb)
 replace HO_row29:=Aside0.mk (Kd.R_below zcc hb)
 replace HO_row34:=Aside0.mk (Kd.R_below zcn hb)
 replace HS:=Aside0.mk (Nat.le_trans zad hb.size)
 replace HB:=Aside0.mk (below_step za hb)
 clear hb
 go_wp2_with fail
 refine (laws_markTurnS.calls k (Iv w5.heap.size w6.heap.size) _ t15 1 t37 t38 w _ za zbl Q39.out).mono ?_
 rintro e w14 ⟨rfl,ho0,hb,hk⟩
 replace HO_row17:=Aside0.mk (Kd.R_mono (Kd.R_tight rfl ho0) (fun k_ hk_=>HO_row17.out.1 k_ hk_.symm))
 replace HO_row7:=Aside0.mk (Kd.R_kept zba hk (fun k_ h1_ h2_=>by unfold Iv at h1_ h2_;have m3_:=M3.out;have m4_:=M4.out;have m5_:=M5.out;have m6_:=M6.out;have m7_:=M7.out;have m8_:=M8.out;have m10_:=M10.out;have m12_:=M12.out;omega))
 replace HO_row10:=Aside0.mk (Kd.R_kept zbj hk (fun k_ h1_ h2_=>by unfold Iv at h1_ h2_;have m3_:=M3.out;have m4_:=M4.out;have m5_:=M5.out;have m6_:=M6.out;have m7_:=M7.out;have m8_:=M8.out;have m10_:=M10.out;have m12_:=M12.out;omega))
 replace HO_row14:=Aside0.mk (Kd.R_kept zaz hk (fun k_ h1_ h2_=>by unfold Iv at h1_ h2_;have m3_:=M3.out;have m4_:=M4.out;have m5_:=M5.out;have m6_:=M6.out;have m7_:=M7.out;have m8_:=M8.out;have m10_:=M10.out;have m12_:=M12.out;omega))
 replace HO_row20:=Aside0.mk (Kd.R_kept zbn hk (fun k_ h1_ h2_=>by unfold Iv at h1_ h2_;have m3_:=M3.out;have m4_:=M4.out;have m5_:=M5.out;have m6_:=M6.out;have m7_:=M7.out;have m8_:=M8.out;have m10_:=M10.out;have m12_:=M12.out;omega))
 replace HO_row24:=Aside0.mk (Kd.R_kept zbm hk (fun k_ h1_ h2_=>by unfold Iv at h1_ h2_;have m3_:=M3.out;have m4_:=M4.out;have m5_:=M5.out;have m6_:=M6.out;have m7_:=M7.out;have m8_:=M8.out;have m10_:=M10.out;have m12_:=M12.out;omega))
 replace HO_row29:=Aside0.mk (Kd.R_kept zcc hk (fun k_ h1_ h2_=>by unfold Iv at h1_ h2_;have m3_:=M3.out;have m4_:=M4.out;have m5_:=M5.out;have m6_:=M6.out;have m7_:=M7.out;have m8_:=M8.out;have m10_:=M10.out;have m12_:=M12.out;omega))
 replace HO_row34:=Aside0.mk (Kd.R_kept zcn hk (fun k_ h1_ h2_=>by unfold Iv at h1_ h2_;have m3_:=M3.out;have m4_:=M4.out;have m5_:=M5.out;have m6_:=M6.out;have m7_:=M7.out;have m8_:=M8.out;have m10_:=M10.out;have m12_:=M12.out;omega))
 replace HS:=Aside0.mk (Nat.le_trans zad hk.1)
 replace HB:=Aside0.mk (hb)
 clear hb hk ho0
 have LN_row17:=Aside0.mk (Kd.R_reads' HO_row17.out).1
 go_wp2_with fail
 refine (laws_markAnswerS.calls k (Iv w6.heap.size w7.heap.size) _ t18 t37 t40 t41 w _ za zbn Q42.out).mono ?_
 rintro e w15 ⟨rfl,ho0,hb,hk⟩
 replace HO_row20:=Aside0.mk (Kd.R_mono (Kd.R_tight rfl ho0) (fun k_ hk_=>HO_row20.out.1 k_ hk_.symm))
 replace HO_row7:=Aside0.mk (Kd.R_kept zba hk (fun k_ h1_ h2_=>by unfold Iv at h1_ h2_;have m3_:=M3.out;have m4_:=M4.out;have m5_:=M5.out;have m6_:=M6.out;have m7_:=M7.out;have m8_:=M8.out;have m10_:=M10.out;have m12_:=M12.out;omega))
 replace HO_row10:=Aside0.mk (Kd.R_kept zbj hk (fun k_ h1_ h2_=>by unfold Iv at h1_ h2_;have m3_:=M3.out;have m4_:=M4.out;have m5_:=M5.out;have m6_:=M6.out;have m7_:=M7.out;have m8_:=M8.out;have m10_:=M10.out;have m12_:=M12.out;omega))
 replace HO_row14:=Aside0.mk (Kd.R_kept zaz hk (fun k_ h1_ h2_=>by unfold Iv at h1_ h2_;have m3_:=M3.out;have m4_:=M4.out;have m5_:=M5.out;have m6_:=M6.out;have m7_:=M7.out;have m8_:=M8.out;have m10_:=M10.out;have m12_:=M12.out;omega))
 replace HO_row17:=Aside0.mk (Kd.R_kept zbl hk (fun k_ h1_ h2_=>by unfold Iv at h1_ h2_;have m3_:=M3.out;have m4_:=M4.out;have m5_:=M5.out;have m6_:=M6.out;have m7_:=M7.out;have m8_:=M8.out;have m10_:=M10.out;have m12_:=M12.out;omega))
 replace HO_row24:=Aside0.mk (Kd.R_kept zbm hk (fun k_ h1_ h2_=>by unfold Iv at h1_ h2_;have m3_:=M3.out;have m4_:=M4.out;have m5_:=M5.out;have m6_:=M6.out;have m7_:=M7.out;have m8_:=M8.out;have m10_:=M10.out;have m12_:=M12.out;omega))
 replace HO_row29:=Aside0.mk (Kd.R_kept zcc hk (fun k_ h1_ h2_=>by unfold Iv at h1_ h2_;have m3_:=M3.out;have m4_:=M4.out;have m5_:=M5.out;have m6_:=M6.out;have m7_:=M7.out;have m8_:=M8.out;have m10_:=M10.out;have m12_:=M12.out;omega))
 replace HO_row34:=Aside0.mk (Kd.R_kept zcn hk (fun k_ h1_ h2_=>by unfold Iv at h1_ h2_;have m3_:=M3.out;have m4_:=M4.out;have m5_:=M5.out;have m6_:=M6.out;have m7_:=M7.out;have m8_:=M8.out;have m10_:=M10.out;have m12_:=M12.out;omega))
 replace HS:=Aside0.mk (Nat.le_trans zad hk.1)
 replace HB:=Aside0.mk (hb)
 clear hb hk ho0
 have LN_row20:=Aside0.mk (Kd.R_reads' HO_row20.out).1
 go_wp2_with fail
 refine (laws_eqTurnS.calls k _ _ t21 _ _ t11 true _ zdl (by exact (Kd.R_reads' HO_row24.out).2.1) (by exact (Kd.R_reads' zaz).2.2) (by exact (Kd.R_reads' HO_row14.out).2.1) Q44.out).mono ?_
 rintro e w16 ⟨rfl,hb⟩
 replace HO_row7:=Aside0.mk (Kd.R_below zba hb)
 replace HO_row10:=Aside0.mk (Kd.R_below zbj hb)
 replace HO_row14:=Aside0.mk (Kd.R_below zaz hb)
 replace HO_row17:=Aside0.mk (Kd.R_below zbl hb)
 replace HO_row20:=Aside0.mk (Kd.R_below zbn hb)
 replace HO_row24:=Aside0.mk (Kd.R_below zbm hb)
 replace HO_row29:=Aside0.mk (Kd.R_below zcc hb)
 replace HO_row34:=Aside0.mk (Kd.R_below zcn hb)
 replace HS:=Aside0.mk (Nat.le_trans zad hb.size)
 replace HB:=Aside0.mk (below_step za hb)
 clear hb
 go_wp2_with fail
 refine (laws_markTurnS.calls k (Iv w7.heap.size w8.heap.size) _ t21 1 t45 t46 w _ za zbm Q47.out).mono ?_
 rintro e w17 ⟨rfl,ho0,hb,hk⟩
 replace HO_row24:=Aside0.mk (Kd.R_mono (Kd.R_tight rfl ho0) (fun k_ hk_=>HO_row24.out.1 k_ hk_.symm))
 replace HO_row7:=Aside0.mk (Kd.R_kept zba hk (fun k_ h1_ h2_=>by unfold Iv at h1_ h2_;have m3_:=M3.out;have m4_:=M4.out;have m5_:=M5.out;have m6_:=M6.out;have m7_:=M7.out;have m8_:=M8.out;have m10_:=M10.out;have m12_:=M12.out;omega))
 replace HO_row10:=Aside0.mk (Kd.R_kept zbj hk (fun k_ h1_ h2_=>by unfold Iv at h1_ h2_;have m3_:=M3.out;have m4_:=M4.out;have m5_:=M5.out;have m6_:=M6.out;have m7_:=M7.out;have m8_:=M8.out;have m10_:=M10.out;have m12_:=M12.out;omega))
 replace HO_row14:=Aside0.mk (Kd.R_kept zaz hk (fun k_ h1_ h2_=>by unfold Iv at h1_ h2_;have m3_:=M3.out;have m4_:=M4.out;have m5_:=M5.out;have m6_:=M6.out;have m7_:=M7.out;have m8_:=M8.out;have m10_:=M10.out;have m12_:=M12.out;omega))
 replace HO_row17:=Aside0.mk (Kd.R_kept zbl hk (fun k_ h1_ h2_=>by unfold Iv at h1_ h2_;have m3_:=M3.out;have m4_:=M4.out;have m5_:=M5.out;have m6_:=M6.out;have m7_:=M7.out;have m8_:=M8.out;have m10_:=M10.out;have m12_:=M12.out;omega))
 replace HO_row20:=Aside0.mk (Kd.R_kept zbn hk (fun k_ h1_ h2_=>by unfold Iv at h1_ h2_;have m3_:=M3.out;have m4_:=M4.out;have m5_:=M5.out;have m6_:=M6.out;have m7_:=M7.out;have m8_:=M8.out;have m10_:=M10.out;have m12_:=M12.out;omega))
 replace HO_row29:=Aside0.mk (Kd.R_kept zcc hk (fun k_ h1_ h2_=>by unfold Iv at h1_ h2_;have m3_:=M3.out;have m4_:=M4.out;have m5_:=M5.out;have m6_:=M6.out;have m7_:=M7.out;have m8_:=M8.out;have m10_:=M10.out;have m12_:=M12.out;omega))
 replace HO_row34:=Aside0.mk (Kd.R_kept zcn hk (fun k_ h1_ h2_=>by unfold Iv at h1_ h2_;have m3_:=M3.out;have m4_:=M4.out;have m5_:=M5.out;have m6_:=M6.out;have m7_:=M7.out;have m8_:=M8.out;have m10_:=M10.out;have m12_:=M12.out;omega))
 replace HS:=Aside0.mk (Nat.le_trans zad hk.1)
 replace HB:=Aside0.mk (hb)
 clear hb hk ho0
 have LN_row24:=Aside0.mk (Kd.R_reads' HO_row24.out).1
 go_wp2_with fail
 refine calls_of_args (args':=#[.slice _ t46.length _,_]) (by rw [←LN_row24.out]) ?_
 refine (laws_heldTurnS.calls k _ _ t46 1 t48 _ zdl (by rw [←LN_row24.out];exact (Kd.R_reads' HO_row24.out).2.1) Q49.out).mono ?_
 rintro e w18 ⟨rfl,hb⟩
 replace HO_row7:=Aside0.mk (Kd.R_below zba hb)
 replace HO_row10:=Aside0.mk (Kd.R_below zbj hb)
 replace HO_row14:=Aside0.mk (Kd.R_below zaz hb)
 replace HO_row17:=Aside0.mk (Kd.R_below zbl hb)
 replace HO_row20:=Aside0.mk (Kd.R_below zbn hb)
 replace HO_row24:=Aside0.mk (Kd.R_below zbm hb)
 replace HO_row29:=Aside0.mk (Kd.R_below zcc hb)
 replace HO_row34:=Aside0.mk (Kd.R_below zcn hb)
 replace HS:=Aside0.mk (Nat.le_trans zad hb.size)
 replace HB:=Aside0.mk (below_step za hb)
 clear hb
 go_wp2_with fail
 refine (laws_toTurnS.calls k _ _ l0 t50 _ zcr HC0.out Q51.out).mono ?_
 rintro e w19 ⟨v0,rfl,ho0,hb⟩
 have n0_:=Aside0.mk (Kd.R_below zba hb)
 have n1_:=Aside0.mk (Kd.R_below zbj hb)
 have n2_:=Aside0.mk (Kd.R_below zaz hb)
 have n3_:=Aside0.mk (Kd.R_below zbl hb)
 have n4_:=Aside0.mk (Kd.R_below zbn hb)
 have n5_:=Aside0.mk (Kd.R_below zbm hb)
 have n6_:=Aside0.mk (Kd.R_below zcc hb)
 have n7_:=Aside0.mk (Kd.R_below zcn hb)
 have n8_:=Aside0.mk (Iv_R (lo:=w12.heap.size) (W:=_) ho0 (below_size za) zad)
 have n9_:=Aside0.mk (Nat.le_refl w19.heap.size)
 have n10_:=Aside0.mk (Nat.le_trans zad hb.size)
 have n11_:=Aside0.mk (below_step za hb)
 clear HB HS HO_row7 HO_row10 HO_row14 HO_row17 HO_row20 HO_row24 HO_row29 HO_row34 hb ho0
 have HO_row7:=n0_
 have HO_row10:=n1_
 have HO_row14:=n2_
 have HO_row17:=n3_
 have HO_row20:=n4_
 have HO_row24:=n5_
 have HO_row29:=n6_
 have HO_row34:=n7_
 have HO_row52:=n8_
 have HS:=n9_
 have M19:=n10_
 have HB:=n11_
 clear n0_ n1_ n2_ n3_ n4_ n5_ n6_ n7_ n8_ n9_ n10_ n11_
 obtain ⟨A_row52,c_row52,rfl⟩:=Kd.R_slice HO_row52.out
 go_wp2_with fail
 refine (laws_toAnswerS.calls k _ _ l1 t53 _ zcu HC1.out Q54.out).mono ?_
 rintro e w20 ⟨v0,rfl,ho0,hb⟩
 have n0_:=Aside0.mk (Kd.R_below zba hb)
 have n1_:=Aside0.mk (Kd.R_below zbj hb)
 have n2_:=Aside0.mk (Kd.R_below zaz hb)
 have n3_:=Aside0.mk (Kd.R_below zbl hb)
 have n4_:=Aside0.mk (Kd.R_below zbn hb)
 have n5_:=Aside0.mk (Kd.R_below zbm hb)
 have n6_:=Aside0.mk (Kd.R_below zcc hb)
 have n7_:=Aside0.mk (Kd.R_below zcn hb)
 have n8_:=Aside0.mk (Kd.R_below zdm hb)
 have n9_:=Aside0.mk (Iv_R (lo:=w19.heap.size) (W:=_) ho0 (below_size za) zad)
 have n10_:=Aside0.mk (Nat.le_refl w20.heap.size)
 have n11_:=Aside0.mk (Nat.le_trans zad hb.size)
 have n12_:=Aside0.mk (below_step za hb)
 clear HB HS HO_row7 HO_row10 HO_row14 HO_row17 HO_row20 HO_row24 HO_row29 HO_row34 HO_row52 hb ho0
 have HO_row7:=n0_
 have HO_row10:=n1_
 have HO_row14:=n2_
 have HO_row17:=n3_
 have HO_row20:=n4_
 have HO_row24:=n5_
 have HO_row29:=n6_
 have HO_row34:=n7_
 have HO_row52:=n8_
 have HO_row55:=n9_
 have HS:=n10_
 have M20:=n11_
 have HB:=n12_
 clear n0_ n1_ n2_ n3_ n4_ n5_ n6_ n7_ n8_ n9_ n10_ n11_ n12_
 obtain ⟨A_row55,c_row55,rfl⟩:=Kd.R_slice HO_row55.out
 go_wp2_with fail
 refine (impl_AddAnswers.calls k _ _ t50 _ _ t53 a2 t56 t57 _ (by exact (Kd.R_reads' zdm).2.2) (by exact (Kd.R_reads' HO_row52.out).2.1) (by exact (Kd.R_reads' zdp).2.2) (by exact (Kd.R_reads' HO_row55.out).2.1) Q58.out).mono ?_
 rintro e w21 ⟨v0,rfl,ho0,hb⟩
 have n0_:=Aside0.mk (Kd.R_below zba hb)
 have n1_:=Aside0.mk (Kd.R_below zbj hb)
 have n2_:=Aside0.mk (Kd.R_below zaz hb)
 have n3_:=Aside0.mk (Kd.R_below zbl hb)
 have n4_:=Aside0.mk (Kd.R_below zbn hb)
 have n5_:=Aside0.mk (Kd.R_below zbm hb)
 have n6_:=Aside0.mk (Kd.R_below zcc hb)
 have n7_:=Aside0.mk (Kd.R_below zcn hb)
 have n8_:=Aside0.mk (Kd.R_below zdm hb)
 have n9_:=Aside0.mk (Kd.R_below zdp hb)
 have n10_:=Aside0.mk (Iv_R (lo:=w20.heap.size) (W:=_) ho0 (below_size za) zad)
 have n11_:=Aside0.mk (Nat.le_refl w21.heap.size)
 have n12_:=Aside0.mk (Nat.le_trans zad hb.size)
 have n13_:=Aside0.mk (below_step za hb)
 clear HB HS HO_row7 HO_row10 HO_row14 HO_row17 HO_row20 HO_row24 HO_row29 HO_row34 HO_row52 HO_row55 hb ho0
 have HO_row7:=n0_
 have HO_row10:=n1_
 have HO_row14:=n2_
 have HO_row17:=n3_
 have HO_row20:=n4_
 have HO_row24:=n5_
 have HO_row29:=n6_
 have HO_row34:=n7_
 have HO_row52:=n8_
 have HO_row55:=n9_
 have HO_row59:=n10_
 have HS:=n11_
 have M21:=n12_
 have HB:=n13_
 clear n0_ n1_ n2_ n3_ n4_ n5_ n6_ n7_ n8_ n9_ n10_ n11_ n12_ n13_
 obtain ⟨A_row59,c_row59,rfl⟩:=Kd.R_slice HO_row59.out
 go_wp2_with fail
 refine (laws_eqTurnS.calls k _ _ t56 _ _ t11 true _ (by exact (Kd.R_reads' (by (with_reducible repeat (first|apply Kd.R_alloc|apply Kd.R_drewN|apply Kd.R_drew));exact HO_row59.out)).2.2) (by exact (Kd.R_reads' HO_row59.out).2.1) (by exact (Kd.R_reads' zaz).2.2) (by exact (Kd.R_reads' HO_row14.out).2.1) Q61.out).mono ?_
 rintro e w22 ⟨rfl,hb⟩
 replace HO_row7:=Aside0.mk (Kd.R_below zba hb)
 replace HO_row10:=Aside0.mk (Kd.R_below zbj hb)
 replace HO_row14:=Aside0.mk (Kd.R_below zaz hb)
 replace HO_row17:=Aside0.mk (Kd.R_below zbl hb)
 replace HO_row20:=Aside0.mk (Kd.R_below zbn hb)
 replace HO_row24:=Aside0.mk (Kd.R_below zbm hb)
 replace HO_row29:=Aside0.mk (Kd.R_below zcc hb)
 replace HO_row34:=Aside0.mk (Kd.R_below zcn hb)
 replace HO_row52:=Aside0.mk (Kd.R_below zdm hb)
 replace HO_row55:=Aside0.mk (Kd.R_below zdp hb)
 replace HO_row59:=Aside0.mk (Kd.R_below (by (with_reducible repeat (first|apply Kd.R_alloc|apply Kd.R_drewN|apply Kd.R_drew));exact HO_row59.out) hb)
 replace HS:=Aside0.mk (Nat.le_trans zad hb.size)
 replace HB:=Aside0.mk (below_step za hb)
 clear hb
 go_wp2_with fail
 refine calls_of_args (args':=#[.slice _ t46.length _,_]) (by rw [←LN_row24.out]) ?_
 refine (laws_heldTurnS.calls k _ _ t46 1 t62 _ zdl (by rw [←LN_row24.out];exact (Kd.R_reads' HO_row24.out).2.1) Q63.out).mono ?_
 rintro e w23 ⟨rfl,hb⟩
 replace HO_row7:=Aside0.mk (Kd.R_below zba hb)
 replace HO_row10:=Aside0.mk (Kd.R_below zbj hb)
 replace HO_row14:=Aside0.mk (Kd.R_below zaz hb)
 replace HO_row17:=Aside0.mk (Kd.R_below zbl hb)
 replace HO_row20:=Aside0.mk (Kd.R_below zbn hb)
 replace HO_row24:=Aside0.mk (Kd.R_below zbm hb)
 replace HO_row29:=Aside0.mk (Kd.R_below zcc hb)
 replace HO_row34:=Aside0.mk (Kd.R_below zcn hb)
 replace HO_row52:=Aside0.mk (Kd.R_below zdm hb)
 replace HO_row55:=Aside0.mk (Kd.R_below zdp hb)
 replace HO_row59:=Aside0.mk (Kd.R_below (by (with_reducible repeat (first|apply Kd.R_alloc|apply Kd.R_drewN|apply Kd.R_drew));exact HO_row59.out) hb)
 replace HS:=Aside0.mk (Nat.le_trans zad hb.size)
 replace HB:=Aside0.mk (below_step za hb)
 clear hb
 go_wp2_with fail
 go_ret
 exact ⟨rfl,za⟩
theorem laws_FnExactAddAnswers.calls (k:Nat) (A0:Option Addr) (c0:Nat) (l0:List S116) (A1:Option Addr) (c1:Nat) (l1:List S119) (a2:Int) (r:Bool) (w:World) (hr0:Kd.C k116 w A0 l0.length l0) (hc0:l0.length≤c0) (hr1:Kd.C k119 w A1 l1.length l1) (hc1:l1.length≤c1) (h:laws_FnExactAddAnswers.f k l0 l1 a2=some r) :
 Calls Try.prog 7 #[.slice A0 l0.length c0,.slice A1 l1.length c1,.int .i64 a2] w fun e w'=>e = .returned (.bool r)∧Below w.heap.size w w':=by
 unfold laws_FnExactAddAnswers.f at h
 obtain ⟨t1,Q2,h⟩:=Option.bind_eq_some_iff.mp h
 by_cases e1:t1<0
 ·rw [if_pos e1] at h;obtain rfl:=Option.some.inj h;exact laws_FnExactAddAnswers.early0 k A0 c0 l0 A1 c1 l1 a2 w hr0 hc0 hr1 hc1 t1 ⟨Q2⟩ e1
 rw [if_neg e1] at h
 obtain ⟨t3,Q4,h⟩:=Option.bind_eq_some_iff.mp h
 by_cases e3:t3<0
 ·rw [if_pos e3] at h;obtain rfl:=Option.some.inj h;exact laws_FnExactAddAnswers.early1 k A0 c0 l0 A1 c1 l1 a2 w hr0 hc0 hr1 hc1 t1 t3 ⟨Q2⟩ e1 ⟨Q4⟩ e3
 rw [if_neg e3] at h
 unfold laws_FnExactAddAnswers.g at h
 obtain ⟨t5,Q6,h⟩:=Option.bind_eq_some_iff.mp h
 obtain ⟨t8,Q9,h⟩:=Option.bind_eq_some_iff.mp h
 obtain ⟨⟨t11,t12⟩,Q13,h⟩:=Option.bind_eq_some_iff.mp h
 dsimp only at h
 obtain ⟨t15,Q16,h⟩:=Option.bind_eq_some_iff.mp h
 obtain ⟨t18,Q19,h⟩:=Option.bind_eq_some_iff.mp h
 obtain ⟨⟨t21,t22⟩,Q23,h⟩:=Option.bind_eq_some_iff.mp h
 dsimp only at h
 by_cases Q26:laws_eqTurnS.f k t21 t11=some true
 rotate_left
 ·rw [if_neg Q26] at h;exact absurd h zdd
 rw [if_pos Q26] at h
 by_cases e11:t22=t12
 rotate_left
 ·rw [if_neg e11] at h;exact absurd h zdd
 rw [if_pos e11] at h
 obtain ⟨t27,Q28,h⟩:=Option.bind_eq_some_iff.mp h
 by_cases Q31:laws_eqTurnS.f k t15 t27=some true
 rotate_left
 ·rw [if_neg Q31] at h;exact absurd h zdd
 rw [if_pos Q31] at h
 obtain ⟨t32,Q33,h⟩:=Option.bind_eq_some_iff.mp h
 by_cases Q36:laws_eqAnswerS.f k t18 t32=some true
 rotate_left
 ·rw [if_neg Q36] at h;exact absurd h zdd
 rw [if_pos Q36] at h
 obtain ⟨⟨t37,t38⟩,Q39,h⟩:=Option.bind_eq_some_iff.mp h
 dsimp only at h
 obtain ⟨⟨t40,t41⟩,Q42,h⟩:=Option.bind_eq_some_iff.mp h
 dsimp only at h
 by_cases e18:t40<0
 ·rw [if_pos e18] at h;exact absurd h zdd
 rw [if_neg e18] at h
 by_cases Q44:laws_eqTurnS.f k t21 t11=some true
 rotate_left
 ·rw [if_neg Q44] at h;exact absurd h zdd
 rw [if_pos Q44] at h
 by_cases e20:t22=t12
 rotate_left
 ·rw [if_neg e20] at h;exact absurd h zdd
 rw [if_pos e20] at h
 obtain ⟨⟨t45,t46⟩,Q47,h⟩:=Option.bind_eq_some_iff.mp h
 dsimp only at h
 obtain ⟨t48,Q49,h⟩:=Option.bind_eq_some_iff.mp h
 by_cases e23:t48<0
 ·rw [if_pos e23] at h;exact absurd h zdd
 rw [if_neg e23] at h
 by_cases e24:t48=t45
 rotate_left
 ·rw [if_neg e24] at h;exact absurd h zdd
 rw [if_pos e24] at h
 obtain ⟨t50,Q51,h⟩:=Option.bind_eq_some_iff.mp h
 obtain ⟨t53,Q54,h⟩:=Option.bind_eq_some_iff.mp h
 obtain ⟨⟨t56,t57⟩,Q58,h⟩:=Option.bind_eq_some_iff.mp h
 dsimp only at h
 by_cases Q61:laws_eqTurnS.f k t56 t11=some true
 rotate_left
 ·rw [if_neg Q61] at h;exact absurd h zdd
 rw [if_pos Q61] at h
 by_cases e29:t57=t12
 rotate_left
 ·rw [if_neg e29] at h;exact absurd h zdd
 rw [if_pos e29] at h
 obtain ⟨t62,Q63,h⟩:=Option.bind_eq_some_iff.mp h
 by_cases e31:t62<0
 ·rw [if_pos e31] at h;exact absurd h zdd
 rw [if_neg e31] at h
 by_cases e32:t62=t45
 rotate_left
 ·rw [if_neg e32] at h;exact absurd h zdd
 rw [if_pos e32] at h
 obtain rfl:=Option.some.inj h
 exact laws_FnExactAddAnswers.main k A0 c0 l0 A1 c1 l1 a2 w hr0 hc0 hr1 hc1 t1 t3 t5 t8 t11 t12 t15 t18 t21 t22 t27 t32 t37 t38 t40 t41 t45 t46 t48 t50 t53 t56 t57 t62 ⟨Q2⟩ e1 ⟨Q4⟩ e3 ⟨Q6⟩ ⟨Q9⟩ ⟨Q13⟩ ⟨Q16⟩ ⟨Q19⟩ ⟨Q23⟩ ⟨Q26⟩ e11 ⟨Q28⟩ ⟨Q31⟩ ⟨Q33⟩ ⟨Q36⟩ ⟨Q39⟩ ⟨Q42⟩ e18 ⟨Q44⟩ e20 ⟨Q47⟩ ⟨Q49⟩ e23 e24 ⟨Q51⟩ ⟨Q54⟩ ⟨Q58⟩ ⟨Q61⟩ e29 ⟨Q63⟩ e31 e32
end Go.Proofs.Ytocegmkifmdlcaa.P

namespace Go.Proofs.YtocegmkifmdlcaaO
open Go.RowKit Go.WideShapes Go.Proofs.YtocegmkifmdlcaaW.PrintWords
set_option linter.unusedVariables false
set_option linter.unusedSimpArgs false

theorem addr_add_add (a : Addr) (m i : Nat) : (a.add m).add i = a.add (m + i) := by
  unfold Addr.add
  by_cases h1 : m = 0
  · subst h1; simp
  · by_cases h2 : i = 0
    · subst h2; simp [h1]
    · have h3 : ¬ (m + i = 0) := by omega
      simp [h1, h2, Nat.add_assoc]

/-- Whatever the claim reads at this type is a value of this kind, of which G holds. -/
def Opens {α : Type} (P : Program) (t : TypeId) (d : Kd α) (G : α → Prop) : Prop :=
  ∀ (H : Type) (enc : TypeId × Value → H) (w : World) (base : Nat) (spare : Nat → Bool) (held : Bool) (fuel : Nat) (cs : List Value) (x : DataW H × List MemPlace),
    DataW.trod enc P w base spare held fuel t cs = some x → ∃ a : α, d.K w a cs ∧ G a

section
variable {α β : Type} {P : Program} {t e : TypeId} {d : Kd α} {G : α → Prop}

theorem opens_int {k : IntKind} (ht : P.underlying t = some (.int k)) : Opens P t (Kd.int k) (fun n => (Lit.int k n).wf = true) := by
  intro H enc w base spare held fuel cs x h
  obtain ⟨n, rfl, _, hw⟩ := DataW.trod_int ht h
  exact ⟨n, rfl, hw⟩
theorem opens_string (ht : P.underlying t = some .string) : Opens P t Kd.string (fun s => s.size ≤ maxLen) := by
  intro H enc w base spare held fuel cs x h
  obtain ⟨n, rfl, _, hs⟩ := DataW.trod_string ht h
  exact ⟨n, rfl, hs⟩

theorem list_of_each {p : Nat → α → Prop} : ∀ n : Nat, (∀ i, i < n → ∃ a, p i a) → ∃ l : List α, l.length = n ∧ ∀ i a, l[i]? = some a → p i a
  | 0, _ => ⟨[], rfl, fun i a h => by simp at h⟩
  | n + 1, h => by
    obtain ⟨l, hl, hp⟩ := list_of_each n (fun i hi => h i (by omega))
    obtain ⟨a, ha⟩ := h n (by omega)
    refine ⟨l ++ [a], by simp [hl], fun i b hb => ?_⟩
    by_cases hi : i < l.length
    · rw [List.getElem?_append_left hi] at hb
      exact hp i b hb
    · rw [List.getElem?_append_right (by omega)] at hb
      have h0 : i - l.length = 0 := by
        have := (List.getElem?_eq_some_iff.1 hb).1
        simp at this
        omega
      rw [h0] at hb
      have hi2 : i = n := by omega
      subst hi2
      simp at hb
      subst hb
      exact ha

theorem opens_slice (ht : P.underlying t = some (.slice e)) (hc : P.cellsOf e = d.sz) (hd : Opens P e d G) : Opens P t (Kd.slice e d) (fun l => l.length ≤ maxLen ∧ ∀ x ∈ l, G x) := by
  intro H enc w base spare held fuel cs x h
  rcases DataW.trod_slice ht h with ⟨rfl, _⟩ | ⟨a, len, cap, elems, rest, n, _, rfl, _, hb, hl, hm, hlen, hel, _, _⟩
  · exact ⟨[], ⟨none, 0, rfl, Nat.le_refl _, rfl, by simp, fun hp => by simp at hp⟩, by simp, by simp⟩
  · have each : ∀ i, i < len → ∃ x : α, G x ∧ ∃ c, c.length = d.sz ∧ d.K w x c ∧ ∀ j u, c[j]? = some u → w.cell? (a.add (i * d.sz + j)) = some u := by
      intro i hi
      have h1 := hel i hi
      have h2 : ∃ y, elems[i]? = some y := ⟨elems[i]'(by omega), List.getElem?_eq_getElem (by omega)⟩
      obtain ⟨y, hy⟩ := h2
      rw [hy, Option.bind_eq_some_iff] at h1
      obtain ⟨c, hcs, hy'⟩ := h1
      obtain ⟨x, hK, hG⟩ := hd H enc w base spare held n c y hy'
      refine ⟨x, hG, c, d.K_len hK, hK, fun j u hu => ?_⟩
      have hx := World.cells?_some hcs
      have hj : j < P.cellsOf e := by
        have := (List.getElem?_eq_some_iff.1 hu).1
        have := hx.2.1
        omega
      have hz := hx.2.2 j hj
      rw [addr_add_add, hc, hu] at hz
      exact hz
    obtain ⟨l, hll, hp⟩ := list_of_each len each
    refine ⟨l, ⟨some a, cap, by rw [hll], by omega, rfl, by simp only [maxLen] at hm; omega, fun _ => ⟨a, rfl, fun j p hj => ?_⟩⟩, by simp only [maxLen] at hm ⊢; omega, fun x hx => ?_⟩
    · exact (hp j p hj).2
    · obtain ⟨i, hi, hi2⟩ := List.getElem_of_mem hx
      exact (hp i x (by rw [List.getElem?_eq_getElem hi, hi2])).1

def OpensFs {α : Type} (P : Program) (fs : List Field) (o : Nat) (d : Kd α) (G : α → Prop) : Prop :=
  ∀ (H : Type) (enc : TypeId × Value → H) (w : World) (base : Nat) (spare : Nat → Bool) (held : Bool) (fuel : Nat) (cs : List Value),
    cs.length = o + d.sz → (∀ (i : Nat) (f : Field), fs[i]? = some f → ∃ x, DataW.trod enc P w base spare held fuel f.type ((cs.drop f.offset).take (P.cellsOf f.type)) = some x) → ∃ a : α, d.K w a (cs.drop o) ∧ G a
theorem opensFs_last {f : Field} {o : Nat} (ho : f.offset = o) (hc : P.cellsOf f.type = d.sz) (h : Opens P f.type d G) : OpensFs P [f] o d G := by
  intro H enc w base spare held fuel cs hl hx
  obtain ⟨x, hx⟩ := hx 0 f rfl
  rw [ho, hc, List.take_of_length_le (by rw [List.length_drop]; omega)] at hx
  exact h H enc w base spare held fuel _ x hx
theorem opensFs_cons {f : Field} {fs : List Field} {o : Nat} {d2 : Kd β} {G2 : β → Prop} (ho : f.offset = o) (hc : P.cellsOf f.type = d.sz) (h : Opens P f.type d G) (h2 : OpensFs P fs (o + d.sz) d2 G2) :
    OpensFs P (f :: fs) o (Kd.pair d d2) (fun x => G x.1 ∧ G2 x.2) := by
  intro H enc w base spare held fuel cs hl hx
  have hl' : cs.length = o + (d.sz + d2.sz) := hl
  obtain ⟨x, hx0⟩ := hx 0 f rfl
  rw [ho, hc] at hx0
  obtain ⟨a, hK, hG⟩ := h H enc w base spare held fuel _ x hx0
  obtain ⟨b, hK2, hG2⟩ := h2 H enc w base spare held fuel cs (by omega) (fun i f2 hf => hx (i + 1) f2 (by simpa using hf))
  refine ⟨(a, b), ⟨_, _, ?_, hK, hK2⟩, hG, hG2⟩
  rw [← List.drop_drop]
  exact (List.take_append_drop d.sz (cs.drop o)).symm
theorem opens_struct {fs : Array Field} (ht : P.underlying t = some (.struct fs)) (hc : P.cellsOf t = d.sz) (h : OpensFs P fs.toList 0 d G) : Opens P t d G := by
  intro H enc w base spare held fuel cs x hx
  obtain ⟨xs, n, _, _, hl, hxl, hf⟩ := DataW.trod_struct ht hx
  have := h H enc w base spare held n cs (by omega) (fun i f hif => by
    have hif' : fs[i]? = some f := by simpa using hif
    have hi : i < xs.length := by
      rw [hxl]
      exact (Array.getElem?_eq_some_iff.1 hif').1
    exact ⟨xs[i], by rw [hf i f hif', List.getElem?_eq_getElem hi]⟩)
  simpa using this
theorem opens_iso (f : β → α) (g : α → β) (hfg : ∀ a, f (g a) = a) (h : Opens P t d G) : Opens P t (Kd.iso d f) (fun b => G (f b)) := by
  intro H enc w base spare held fuel cs x hx
  obtain ⟨a, hK, hG⟩ := h H enc w base spare held fuel cs x hx
  exact ⟨g a, by show d.K w (f (g a)) cs; rw [hfg]; exact hK, by show G (f (g a)); rw [hfg]; exact hG⟩
end
end Go.Proofs.YtocegmkifmdlcaaO

namespace Go.Proofs.Ytocegmkifmdlcaa
open Go.RowKit Go.Proofs.YtocegmkifmdlcaaO Go.Proofs.YtocegmkifmdlcaaW.PrintWords
set_option linter.unusedVariables false
set_option linter.unusedSimpArgs false
def g116 (x : P.S116) : Prop := x.f0.size ≤ maxLen ∧ (Lit.int .i64 x.f1).wf = true ∧ (Lit.int .i64 x.f2).wf = true
theorem open116 : Opens Try.prog 116 P.k116 g116 :=
  opens_iso (fun x : P.S116 => (x.f0, x.f1, x.f2)) (fun a => ⟨a.1, a.2.1, a.2.2⟩) (fun _ => rfl) (opens_struct Try.underlying116 (by kernel_rfl) (opensFs_cons (by rfl) (by kernel_rfl) (opens_string Try.underlying9) (opensFs_cons (by rfl) (by kernel_rfl) (opens_int Try.underlying2) (opensFs_last (by rfl) (by kernel_rfl) (opens_int Try.underlying2)))))
def g119 (x : P.S119) : Prop := x.f0.size ≤ maxLen ∧ x.f1.size ≤ maxLen ∧ (Lit.int .i64 x.f2).wf = true
theorem open119 : Opens Try.prog 119 P.k119 g119 :=
  opens_iso (fun x : P.S119 => (x.f0, x.f1, x.f2)) (fun a => ⟨a.1, a.2.1, a.2.2⟩) (fun _ => rfl) (opens_struct Try.underlying119 (by kernel_rfl) (opensFs_cons (by rfl) (by kernel_rfl) (opens_string Try.underlying9) (opensFs_cons (by rfl) (by kernel_rfl) (opens_string Try.underlying9) (opensFs_last (by rfl) (by kernel_rfl) (opens_int Try.underlying2)))))
end Go.Proofs.Ytocegmkifmdlcaa

namespace Go.Proofs.Ytocegmkifmdlcaa.P
open Go.RowKit Go.Proofs.YtocegmkifmdlcaaW.PrintWords Go.Proofs.YtocegmkifmdlcaaL
set_option linter.unusedVariables false
set_option linter.unusedSimpArgs false

def nameByte (c : Int) : Bool := (decide (97 ≤ c) && decide (c ≤ 122)) || (decide (48 ≤ c) && decide (c ≤ 57))
def nameB (s : ByteArray) : Bool := decide (1 ≤ s.size) && decide (s.size ≤ 10) && (decide (97 ≤ bt s 0) && decide (bt s 0 ≤ 122)) && (List.range s.size).all fun i => nameByte (bt s (i : Int))
theorem size_zero {s : ByteArray} : s.toList = ([] : List UInt8) ↔ s.size = 0 := by
  rw [ByteArray.toList_eq]
  constructor
  · intro h; have := congrArg List.length h; simpa using this
  · intro h
    apply List.eq_nil_of_length_eq_zero
    simpa using h
theorem l01Name_eq (s : ByteArray) {k : Nat} (hk : 20 ≤ k) : spec_l01Name.f k s = some (nameB s) := by
  obtain ⟨k, rfl⟩ : ∃ m, k = m + 1 := ⟨k - 1, by omega⟩
  unfold spec_l01Name.f nameB
  by_cases h0 : s.size = 0
  · rw [if_pos (size_zero.2 h0)]; simp [spec_l01Name.j0, h0]
  rw [if_neg (fun e => h0 (size_zero.1 e))]
  by_cases h1 : (s.size : Int) > 10
  · rw [if_pos h1]
    have : ¬ s.size ≤ 10 := by omega
    simp [spec_l01Name.j0, this]
  rw [if_neg h1, if_pos (by omega)]
  unfold spec_l01Small.f
  have h1' : s.size ≤ 10 := by omega
  have h0' : 1 ≤ s.size := by omega
  by_cases h2 : bt s 0 ≥ 97
  · rw [if_pos h2]; simp only [Option.bind_some, spec_l01Name.j0]
    by_cases h3 : bt s 0 ≤ 122
    · rw [if_neg (by simp [h3])]
      rw [all_loop (fun k i => spec_l01Name.l0 k s i) s.size (fun i => nameByte (bt s (i : Int))) true 1 (fun k i hi hB => ?_) (fun k _ => ?_) k (by omega)]
      · simp [h1', h0', h3, ge_iff_le.1 h2]
      · obtain ⟨k, rfl⟩ : ∃ m, k = m + 1 := ⟨k - 1, by omega⟩
        show spec_l01Name.l0 (k + 1 + 1) s (i : Int) = _
        rw [spec_l01Name.l0]
        rw [if_pos (by omega), if_pos (nn_cast i), wrap_succ hi (by omega)]
        unfold spec_l01Small.f spec_l01Digit.f nameByte
        by_cases e1 : bt s (i : Int) ≥ 97
        · rw [if_pos e1]
          by_cases e2 : bt s (i : Int) ≤ 122
          · simp [e2, ge_iff_le.1 e1]
          · have e3 : bt s (i : Int) ≥ 48 := by omega
            have e4 : ¬ bt s (i : Int) ≤ 57 := by omega
            simp [e2, e4, ge_iff_le.1 e3]
        · rw [if_neg e1]
          have e1' : ¬ 97 ≤ bt s (i : Int) := e1
          by_cases e2 : bt s (i : Int) ≥ 48
          · rw [if_pos e2]
            by_cases e3 : bt s (i : Int) ≤ 57
            · simp [e3, ge_iff_le.1 e2]
            · simp [e3, e1']
          · rw [if_neg e2]
            have e2' : ¬ 48 ≤ bt s (i : Int) := e2
            simp [e1', e2']
      · show spec_l01Name.l0 (_ + 1) s (s.size : Int) = _
        rw [spec_l01Name.l0, if_neg (nlt_cast _)]
    · rw [if_pos (by simp [h3])]; simp [h3]
  · rw [if_neg h2]; simp only [Option.bind_some, spec_l01Name.j0]
    have h2' : ¬ 97 ≤ bt s 0 := h2
    rw [if_pos (by rfl)]; simp [h2']

theorem IsName_eq (s : ByteArray) {k : Nat} (hk : 20 ≤ k) : impl_IsName.f k s = some (nameB s) := by
  unfold impl_IsName.f nameB
  by_cases h0 : (s.size : Int) < 1
  · rw [if_pos h0]
    have : ¬ 1 ≤ s.size := by omega
    simp [this]
  rw [if_neg h0]
  by_cases h1 : (s.size : Int) > 10
  · rw [if_pos h1]
    have : ¬ s.size ≤ 10 := by omega
    simp [this]
  rw [if_neg h1, if_pos (by omega)]
  have h1' : s.size ≤ 10 := by omega
  have h0' : 1 ≤ s.size := by omega
  by_cases h2 : bt s 0 < 97
  · rw [if_pos h2]
    have h2' : ¬ 97 ≤ bt s 0 := by omega
    simp [h2']
  rw [if_neg h2]
  by_cases h3 : bt s 0 > 122
  · rw [if_pos h3]
    have h3' : ¬ bt s 0 ≤ 122 := by omega
    simp [h3']
  rw [if_neg h3]
  have h2' : 97 ≤ bt s 0 := by omega
  have h3' : bt s 0 ≤ 122 := by omega
  unfold impl_onlyNameBytes.f
  rw [all_loop (fun k i => impl_onlyNameBytes.l0 k s (s.size : Int) i) s.size (fun i => nameByte (bt s (i : Int))) true 0 (fun k i hi hB => ?_) (fun k _ => ?_) k (by omega)]
  · simp [h1', h0', h3', h2']
  · show impl_onlyNameBytes.l0 (k + 1) s (s.size : Int) (i : Int) = _
    rw [impl_onlyNameBytes.l0]
    rw [if_pos (lt_cast hi), if_pos (nn_cast i), if_pos (lt_cast hi), wrap_succ hi (by omega)]
    unfold nameByte
    repeat' split
    all_goals first | rfl | (exfalso; simp_all; done) | (exfalso; simp_all; omega)
  · show impl_onlyNameBytes.l0 (k + 1) s (s.size : Int) (s.size : Int) = _
    rw [impl_onlyNameBytes.l0, if_neg (nlt_cast _)]

theorem in_eq (a b c : Int) : spec_l00In.f a b c = some (decide (b ≤ a) && decide (a ≤ c)) := by
  unfold spec_l00In.f
  by_cases h : a ≥ b
  · rw [if_pos h]; simp [ge_iff_le.1 h]
  · rw [if_neg h]
    have h' : ¬ b ≤ a := h
    simp [h']
theorem within_eq (a b c : Int) : impl_within.f a b c = some (decide (b ≤ a) && decide (a ≤ c)) := by
  unfold impl_within.f
  by_cases h : a ≥ b
  · rw [if_pos h]; simp [ge_iff_le.1 h]
  · rw [if_neg h]
    have h' : ¬ b ≤ a := h
    simp [h']

def cmpI (a b : Int) : Int := if a < b then -1 else if a > b then 1 else 0
def cmpS (a b : ByteArray) : Int := if Op.bytesLess a.toList b.toList = true then -1 else if Op.bytesLess b.toList a.toList = true then 1 else 0
theorem Compare_int64_eq (a b : Int) : cmp_Compare_int64.f a b = some (cmpI a b) := by
  unfold cmp_Compare_int64.f cmp_isNaN_int64.f cmpI
  simp only [bne_self_eq_false, Option.bind_some]
  simp only [Bool.false_eq_true, if_false]
  split
  · rfl
  · split <;> rfl
theorem Compare_string_eq (a b : ByteArray) : cmp_Compare_string.f a b = some (cmpS a b) := by
  unfold cmp_Compare_string.f cmp_isNaN_string.f cmpS
  simp only [bne_self_eq_false, Option.bind_some]
  simp only [Bool.false_eq_true, if_false]
  split
  · rfl
  · split <;> rfl
theorem Or3_eq (x y z : Int) {k : Nat} (hk : 10 ≤ k) : cmp_Or_int.f k [x, y, z] = some (if x = 0 then if y = 0 then z else y else x) := by
  obtain ⟨k, rfl⟩ : ∃ m, k = m + 4 := ⟨k - 4, by omega⟩
  have w0 : wrap64 (0 + 1) = 1 := by unfold wrap64; omega
  have w1 : wrap64 (1 + 1) = 2 := by unfold wrap64; omega
  have w2 : wrap64 (2 + 1) = 3 := by unfold wrap64; omega
  unfold cmp_Or_int.f
  simp only [cmp_Or_int.l0, w0, w1, w2, rd]
  by_cases h0 : x = 0
  · by_cases h1 : y = 0
    · by_cases h2 : z = 0
      · simp [h0, h1, h2]
      · simp [h0, h1, h2]
    · simp [h0, h1]
  · simp [h0]
theorem less_irrefl (a : List UInt8) : Op.bytesLess a a = false := by
  induction a with
  | nil => rfl
  | cons x r ih => simp [Op.bytesLess, ih]
theorem less_total {a b : List UInt8} (h : Op.bytesLess a b = false) (hne : a ≠ b) : Op.bytesLess b a = true := by
  have := bytesLess_total a b
  rw [h, beq_eq_false_iff_ne.2 hne] at this
  simpa using this.symm

def cAnswer (x : S119) : S125 := ⟨x.f0, x.f1, x.f2⟩
def smAnswer (x : S119) : Prop := x.f0.size ≤ 1048576 ∧ x.f1.size ≤ 1048576
theorem rd_lAnswer {l : List S119} {i : Nat} (h : i < l.length) : rd_T119 l (i : Int) = l[i] := by
  simp [rd_T119, List.getD_eq_getElem?_getD, List.getElem?_eq_getElem h]
theorem rd_iAnswer {l : List S125} {i : Nat} (h : i < l.length) : rd_T125 l (i : Int) = l[i] := by
  simp [rd_T125, List.getD_eq_getElem?_getD, List.getElem?_eq_getElem h]
theorem ext_iAnswer {a b : S125} : a = b ↔ a.f0.toList = b.f0.toList ∧ a.f1.toList = b.f1.toList ∧ a.f2 = b.f2 := by
  simp only [bytes_eq]; cases a; cases b; simp
instance : DecidableEq S125 := fun _ _ => decidable_of_iff _ ext_iAnswer.symm
theorem szAnswer_some {x : S119} (hg : Go.Proofs.Ytocegmkifmdlcaa.g119 x) {a : Int} (ha0 : 0 ≤ a) (ha : a ≤ 1048576) : ∃ r, laws_szAnswer.f x.f0 x.f1 x.f2 a = some r ∧ (r < 0 ∨ (0 ≤ r ∧ r ≤ a ∧ smAnswer x)) := by
  unfold laws_szAnswer.f smAnswer
  have hs0 : x.f0.size ≤ 9223372036854775807 := by have := hg.1; simpa only [maxLen] using this
  rw [wrap_id (x := a - (x.f0.size : Int)) zbt zbt]
  by_cases h0 : a - (x.f0.size : Int) < 0
  · rw [if_pos h0]; exact ⟨-1, rfl, .inl zbt⟩
  rw [if_neg h0]
  have hs1 : x.f1.size ≤ 9223372036854775807 := by have := hg.2.1; simpa only [maxLen] using this
  rw [wrap_id (x := (a - (x.f0.size : Int)) - (x.f1.size : Int)) zbt zbt]
  by_cases h1 : (a - (x.f0.size : Int)) - (x.f1.size : Int) < 0
  · rw [if_pos h1]; exact ⟨-1, rfl, .inl zbt⟩
  rw [if_neg h1]
  exact ⟨_, rfl, .inr ⟨zbt, zbt, zbt, zbt⟩⟩
theorem szAnswerS_some {l : List S119} (hl : l.length ≤ maxLen) (hg : ∀ y ∈ l, Go.Proofs.Ytocegmkifmdlcaa.g119 y) {a : Int} (ha0 : 0 ≤ a) (ha : a ≤ 1048576) {k : Nat} (hk : 1048600 ≤ k) : ∃ r, laws_szAnswerS.f k l a = some r ∧ (r < 0 ∨ (0 ≤ r ∧ r ≤ a ∧ l.length ≤ 1048576 ∧ ∀ y ∈ l, smAnswer y)) := by
  have hl' : l.length ≤ 9223372036854775807 := by simpa only [maxLen] using hl
  unfold laws_szAnswerS.f
  rw [wrap_id zbt zbt]
  by_cases h0 : a - (l.length : Int) < 0
  · rw [if_pos h0]; exact ⟨-1, rfl, .inl zbt⟩
  · rw [if_neg h0]
    have main : ∀ (d k i : Nat) (s : Int), i + d = l.length → 0 + d < k → 0 ≤ s → s ≤ a - l.length → ∃ r, laws_szAnswerS.l0 k l s (i : Int) = some r ∧ (r < 0 ∨ (0 ≤ r ∧ r ≤ s ∧ ∀ y ∈ l.drop i, smAnswer y)) := by
      intro d
      induction d with
      | zero =>
        intro k i s hi hk h0 h1
        obtain ⟨k, rfl⟩ : ∃ m, k = m + 1 := ⟨k - 1, zbt⟩
        obtain rfl : i = l.length := by omega
        simp only [laws_szAnswerS.l0]
        rw [if_neg (nlt_cast _)]
        exact ⟨s, rfl, .inr ⟨h0, zbt, zdd⟩⟩
      | succ d ih =>
        intro k i s hi hk h0 h1
        obtain ⟨k, rfl⟩ : ∃ m, k = m + 1 := ⟨k - 1, zbt⟩
        have hlt : i < l.length := by omega
        simp only [laws_szAnswerS.l0]
        rw [if_pos (lt_cast hlt), if_pos (nn_cast i), rd_lAnswer hlt, wrap_succ hlt zbt]
        obtain ⟨r1, hr1, e1⟩ := szAnswer_some (hg l[i] (List.getElem_mem hlt)) (a := s) zbt zbt
        rw [hr1]; simp only [Option.bind_some]
        by_cases h2 : r1 < 0
        · rw [if_pos h2]
          exact ⟨-1, rfl, .inl zbt⟩
        · rw [if_neg h2]
          have e1' := e1.resolve_left h2
          obtain ⟨r, hr, h3⟩ := ih k (i + 1) r1 zbt zbt zbt zbt
          refine ⟨r, hr, h3.imp id fun h3 => ⟨h3.1, zbt, ?_⟩⟩
          rw [drop_cons hlt]
          intro y hy
          rcases List.mem_cons.1 hy with rfl | hy
          · exact e1'.2.2
          · exact h3.2.2 y hy
    obtain ⟨r, hr, h⟩ := main l.length k 0 (a - l.length) zbt zbt zbt zbt
    refine ⟨r, hr, h.imp id fun h => ⟨h.1, zbt, zbt, ?_⟩⟩
    simpa using h.2.2
theorem toAnswer_eq {x : S119} (hs : smAnswer x) : laws_toAnswer.f x.f0 x.f1 x.f2 = some ((cAnswer x).f0, (cAnswer x).f1, (cAnswer x).f2) := by
  unfold smAnswer at hs
  unfold laws_toAnswer.f
  rfl
theorem toAnswerS_eq {l : List S119} (hl : l.length ≤ 1048576) (hs : ∀ y ∈ l, smAnswer y) {k : Nat} (hk : 1048600 ≤ k) : laws_toAnswerS.f k l = some (l.map cAnswer) := by
  unfold laws_toAnswerS.f
  rw [if_pos (nn_cast _), if_pos (by simp; omega)]
  refine set_loop (fun k acc i => laws_toAnswerS.l0 k l acc i) l cAnswer 0 (fun k i hi acc ha hB => ?_) (fun k acc => ?_) k _ zbt zdd
  · simp only [laws_toAnswerS.l0]
    rw [if_pos (lt_cast hi), if_pos (nn_cast i), rd_lAnswer hi, wrap_succ hi zbt, toAnswer_eq (hs _ (List.getElem_mem hi))]
    simp only [Option.bind_some]
    rw [if_pos zbt]
    rfl
  · simp only [laws_toAnswerS.l0]
    rw [if_neg (nlt_cast _)]
def smiAnswer (x : S125) : Prop := True
theorem smi_cAnswer {x : S119} (hs : smAnswer x) : smiAnswer (cAnswer x) := by
  unfold smAnswer at hs
  unfold smiAnswer
  trivial
theorem eqAnswer_eq {a b : S125} (hs : smiAnswer a) : laws_eqAnswer.f a.f0 a.f1 a.f2 b.f0 b.f1 b.f2 = some (decide (a = b)) := by
  unfold smiAnswer at hs
  unfold laws_eqAnswer.f
  by_cases e0 : a.f0.toList = b.f0.toList
  rotate_left
  · rw [if_neg e0]; have hne : ¬ a = b := fun e => e0 (ext_iAnswer.1 e).1; simp [hne]
  rw [if_pos e0]
  by_cases e1 : a.f1.toList = b.f1.toList
  rotate_left
  · rw [if_neg e1]; have hne : ¬ a = b := fun e => e1 (ext_iAnswer.1 e).2.1; simp [hne]
  rw [if_pos e1]
  by_cases e2 : a.f2 = b.f2
  rotate_left
  · rw [if_neg e2]; have hne : ¬ a = b := fun e => e2 (ext_iAnswer.1 e).2.2; simp [hne]
  rw [if_pos e2]
  rw [decide_eq_true (ext_iAnswer.2 ⟨e0, e1, e2⟩)]
theorem eqAnswerS_eq {a b : List S125} (hl : a.length ≤ 1048576) (hs : ∀ y ∈ a, smiAnswer y) {k : Nat} (hk : 1048600 ≤ k) : laws_eqAnswerS.f k a b = some (decide (a = b)) := by
  unfold laws_eqAnswerS.f
  by_cases h : a.length = b.length
  · rw [if_pos zbt]
    refine eq_loop (fun k i => laws_eqAnswerS.l0 k a b i) a b h 0 (fun k i h1 h2 hB => ?_) (fun k => ?_) k zbt
    · simp only [laws_eqAnswerS.l0]
      rw [if_pos (lt_cast h1), if_pos (nn_cast i), if_pos (lt_cast h2), rd_iAnswer h1, rd_iAnswer h2, wrap_succ h1 zbt, eqAnswer_eq (hs _ (List.getElem_mem h1))]
      simp only [Option.bind_some, decide_eq_true_eq]
    · simp only [laws_eqAnswerS.l0]
      rw [if_neg (nlt_cast _)]
  · rw [if_neg zbt]
    have : a ≠ b := fun e => h (by rw [e])
    simp [this]
-- Change: fields of other kinds
theorem ext_iSetting {a b : S80} : a = b ↔ a.f0.toList = b.f0.toList ∧ a.f1 = b.f1 := by
  simp only [bytes_eq]; cases a; cases b; simp
instance : DecidableEq S80 := fun _ _ => decidable_of_iff _ ext_iSetting.symm
def cTurn (x : S116) : S127 := ⟨x.f0, x.f1, x.f2⟩
def smTurn (x : S116) : Prop := x.f0.size ≤ 1048576
theorem rd_lTurn {l : List S116} {i : Nat} (h : i < l.length) : rd_T116 l (i : Int) = l[i] := by
  simp [rd_T116, List.getD_eq_getElem?_getD, List.getElem?_eq_getElem h]
theorem rd_iTurn {l : List S127} {i : Nat} (h : i < l.length) : rd_T127 l (i : Int) = l[i] := by
  simp [rd_T127, List.getD_eq_getElem?_getD, List.getElem?_eq_getElem h]
theorem ext_iTurn {a b : S127} : a = b ↔ a.f0.toList = b.f0.toList ∧ a.f1 = b.f1 ∧ a.f2 = b.f2 := by
  simp only [bytes_eq]; cases a; cases b; simp
instance : DecidableEq S127 := fun _ _ => decidable_of_iff _ ext_iTurn.symm
theorem szTurn_some {x : S116} (hg : Go.Proofs.Ytocegmkifmdlcaa.g116 x) {a : Int} (ha0 : 0 ≤ a) (ha : a ≤ 1048576) : ∃ r, laws_szTurn.f x.f0 x.f1 x.f2 a = some r ∧ (r < 0 ∨ (0 ≤ r ∧ r ≤ a ∧ smTurn x)) := by
  unfold laws_szTurn.f smTurn
  have hs0 : x.f0.size ≤ 9223372036854775807 := by have := hg.1; simpa only [maxLen] using this
  rw [wrap_id (x := a - (x.f0.size : Int)) zbt zbt]
  by_cases h0 : a - (x.f0.size : Int) < 0
  · rw [if_pos h0]; exact ⟨-1, rfl, .inl zbt⟩
  rw [if_neg h0]
  exact ⟨_, rfl, .inr ⟨zbt, zbt, zbt⟩⟩
theorem szTurnS_some {l : List S116} (hl : l.length ≤ maxLen) (hg : ∀ y ∈ l, Go.Proofs.Ytocegmkifmdlcaa.g116 y) {a : Int} (ha0 : 0 ≤ a) (ha : a ≤ 1048576) {k : Nat} (hk : 1048600 ≤ k) : ∃ r, laws_szTurnS.f k l a = some r ∧ (r < 0 ∨ (0 ≤ r ∧ r ≤ a ∧ l.length ≤ 1048576 ∧ ∀ y ∈ l, smTurn y)) := by
  have hl' : l.length ≤ 9223372036854775807 := by simpa only [maxLen] using hl
  unfold laws_szTurnS.f
  rw [wrap_id zbt zbt]
  by_cases h0 : a - (l.length : Int) < 0
  · rw [if_pos h0]; exact ⟨-1, rfl, .inl zbt⟩
  · rw [if_neg h0]
    have main : ∀ (d k i : Nat) (s : Int), i + d = l.length → 0 + d < k → 0 ≤ s → s ≤ a - l.length → ∃ r, laws_szTurnS.l0 k l s (i : Int) = some r ∧ (r < 0 ∨ (0 ≤ r ∧ r ≤ s ∧ ∀ y ∈ l.drop i, smTurn y)) := by
      intro d
      induction d with
      | zero =>
        intro k i s hi hk h0 h1
        obtain ⟨k, rfl⟩ : ∃ m, k = m + 1 := ⟨k - 1, zbt⟩
        obtain rfl : i = l.length := by omega
        simp only [laws_szTurnS.l0]
        rw [if_neg (nlt_cast _)]
        exact ⟨s, rfl, .inr ⟨h0, zbt, zdd⟩⟩
      | succ d ih =>
        intro k i s hi hk h0 h1
        obtain ⟨k, rfl⟩ : ∃ m, k = m + 1 := ⟨k - 1, zbt⟩
        have hlt : i < l.length := by omega
        simp only [laws_szTurnS.l0]
        rw [if_pos (lt_cast hlt), if_pos (nn_cast i), rd_lTurn hlt, wrap_succ hlt zbt]
        obtain ⟨r1, hr1, e1⟩ := szTurn_some (hg l[i] (List.getElem_mem hlt)) (a := s) zbt zbt
        rw [hr1]; simp only [Option.bind_some]
        by_cases h2 : r1 < 0
        · rw [if_pos h2]
          exact ⟨-1, rfl, .inl zbt⟩
        · rw [if_neg h2]
          have e1' := e1.resolve_left h2
          obtain ⟨r, hr, h3⟩ := ih k (i + 1) r1 zbt zbt zbt zbt
          refine ⟨r, hr, h3.imp id fun h3 => ⟨h3.1, zbt, ?_⟩⟩
          rw [drop_cons hlt]
          intro y hy
          rcases List.mem_cons.1 hy with rfl | hy
          · exact e1'.2.2
          · exact h3.2.2 y hy
    obtain ⟨r, hr, h⟩ := main l.length k 0 (a - l.length) zbt zbt zbt zbt
    refine ⟨r, hr, h.imp id fun h => ⟨h.1, zbt, zbt, ?_⟩⟩
    simpa using h.2.2
theorem toTurn_eq {x : S116} (hs : smTurn x) : laws_toTurn.f x.f0 x.f1 x.f2 = some ((cTurn x).f0, (cTurn x).f1, (cTurn x).f2) := by
  unfold smTurn at hs
  unfold laws_toTurn.f
  rfl
theorem toTurnS_eq {l : List S116} (hl : l.length ≤ 1048576) (hs : ∀ y ∈ l, smTurn y) {k : Nat} (hk : 1048600 ≤ k) : laws_toTurnS.f k l = some (l.map cTurn) := by
  unfold laws_toTurnS.f
  rw [if_pos (nn_cast _), if_pos (by simp; omega)]
  refine set_loop (fun k acc i => laws_toTurnS.l0 k l acc i) l cTurn 0 (fun k i hi acc ha hB => ?_) (fun k acc => ?_) k _ zbt zdd
  · simp only [laws_toTurnS.l0]
    rw [if_pos (lt_cast hi), if_pos (nn_cast i), rd_lTurn hi, wrap_succ hi zbt, toTurn_eq (hs _ (List.getElem_mem hi))]
    simp only [Option.bind_some]
    rw [if_pos zbt]
    rfl
  · simp only [laws_toTurnS.l0]
    rw [if_neg (nlt_cast _)]
def smiTurn (x : S127) : Prop := True
theorem smi_cTurn {x : S116} (hs : smTurn x) : smiTurn (cTurn x) := by
  unfold smTurn at hs
  unfold smiTurn
  trivial
theorem eqTurn_eq {a b : S127} (hs : smiTurn a) : laws_eqTurn.f a.f0 a.f1 a.f2 b.f0 b.f1 b.f2 = some (decide (a = b)) := by
  unfold smiTurn at hs
  unfold laws_eqTurn.f
  by_cases e0 : a.f0.toList = b.f0.toList
  rotate_left
  · rw [if_neg e0]; have hne : ¬ a = b := fun e => e0 (ext_iTurn.1 e).1; simp [hne]
  rw [if_pos e0]
  by_cases e1 : a.f1 = b.f1
  rotate_left
  · rw [if_neg e1]; have hne : ¬ a = b := fun e => e1 (ext_iTurn.1 e).2.1; simp [hne]
  rw [if_pos e1]
  by_cases e2 : a.f2 = b.f2
  rotate_left
  · rw [if_neg e2]; have hne : ¬ a = b := fun e => e2 (ext_iTurn.1 e).2.2; simp [hne]
  rw [if_pos e2]
  rw [decide_eq_true (ext_iTurn.2 ⟨e0, e1, e2⟩)]
theorem eqTurnS_eq {a b : List S127} (hl : a.length ≤ 1048576) (hs : ∀ y ∈ a, smiTurn y) {k : Nat} (hk : 1048600 ≤ k) : laws_eqTurnS.f k a b = some (decide (a = b)) := by
  unfold laws_eqTurnS.f
  by_cases h : a.length = b.length
  · rw [if_pos zbt]
    refine eq_loop (fun k i => laws_eqTurnS.l0 k a b i) a b h 0 (fun k i h1 h2 hB => ?_) (fun k => ?_) k zbt
    · simp only [laws_eqTurnS.l0]
      rw [if_pos (lt_cast h1), if_pos (nn_cast i), if_pos (lt_cast h2), rd_iTurn h1, rd_iTurn h2, wrap_succ h1 zbt, eqTurn_eq (hs _ (List.getElem_mem h1))]
      simp only [Option.bind_some, decide_eq_true_eq]
    · simp only [laws_eqTurnS.l0]
      rw [if_neg (nlt_cast _)]
  · rw [if_neg zbt]
    have : a ≠ b := fun e => h (by rw [e])
    simp [this]
def mt (n : Int) : ByteArray := (laws_markText.f 100 n).getD ⟨#[]⟩
theorem strOf_one (x : Int) : (strOfNums [x]).size = 1 := rfl
theorem markText_some : ∀ (d k : Nat) (n : Int) (s : ByteArray), 0 ≤ n → n ≤ 9223372036854775807 → n < 10 ^ d → s.size + d ≤ 1000 → d < k → ∃ r, laws_markText.l0 k n s = some r := by
  intro d
  induction d with
  | zero =>
    intro k n s h0 hb h1 hs hk
    obtain ⟨k, rfl⟩ : ∃ m, k = m + 1 := ⟨k - 1, zbt⟩
    have : n = 0 := by simp at h1; omega
    subst this
    simp only [laws_markText.l0]
    rw [if_neg zbt, if_pos zbt]
    exact ⟨_, rfl⟩
  | succ d ih =>
    intro k n s h0 hb h1 hs hk
    obtain ⟨k, rfl⟩ : ∃ m, k = m + 1 := ⟨k - 1, zbt⟩
    simp only [laws_markText.l0]
    by_cases h : n > 0
    · rw [if_pos h]
      simp only [Option.bind_some]
      rw [if_pos (by rw [strOf_one]; omega)]
      have e : wrap64 (n.tdiv 10) = n / 10 := by
        rw [Int.tdiv_eq_ediv_of_nonneg h0, wrap_id zbt zbt]
      rw [e]
      refine ih k _ _ zbt zbt ?_ ?_ zbt
      · have : (10 : Int) ^ (d + 1) = 10 ^ d * 10 := by rw [Int.pow_succ]
        rw [this] at h1
        exact Int.ediv_lt_of_lt_mul zbt h1
      · rw [ByteArray.size_append, strOf_one]; omega
    · rw [if_neg h, if_pos zbt]
      exact ⟨_, rfl⟩
theorem markText_eq {n : Int} (h0 : 0 ≤ n) (h : n ≤ 1073741824) {k : Nat} (hk : 100 ≤ k) : laws_markText.f k n = some (mt n) := by
  have hs : ∃ r, laws_markText.f 100 n = some r := by
    unfold laws_markText.f
    by_cases h1 : n ≤ 0
    · rw [if_pos h1]; exact ⟨_, rfl⟩
    · rw [if_neg h1]
      exact markText_some 12 100 n _ h0 zbt zbt zbq zbt
  obtain ⟨r, hr⟩ := hs
  have := at_rounds (fun k => laws_markText.mono n k) hk hr
  rw [this]
  unfold mt
  rw [hr]; rfl
theorem rdm_iAnswer {pre rest : List S125} {x : S125} : rd_T125 (pre ++ x :: rest) (pre.length : Int) = x := by simp [rd_T125]
def mkAnswerS (l : List S125) (m : Int) : List S125 := mkl (fun (_ : S125) m => (⟨mt (m), mt (m + 1), m + 1 + 1⟩ : S125)) (fun _ => 3) l m
theorem markAnswerS_eq {l : List S125} {m : Int} (hm : 0 ≤ m) (hb : m + 3 * l.length ≤ 1073741824) {k : Nat} (hk : 200 + l.length ≤ k) : laws_markAnswerS.f k l m = some (m + 3 * l.length, mkAnswerS l m) := by
  unfold laws_markAnswerS.f mkAnswerS
  have h := mark_loop (fun k l m i => laws_markAnswerS.l0 k l m i) (fun (_ : S125) m => (⟨mt (m), mt (m + 1), m + 1 + 1⟩ : S125)) (fun _ => 3) 1073741824 100 (fun _ => by omega) (fun k pre x rest m hB hp hm hM => ?_) (fun k l m => ?_) k l m zbt zbt hm (by rw [mtot_const]; omega)
  · rw [mtot_const] at h
    exact h
  · simp only [laws_markAnswerS.l0]
    have w1 : wrap64 (m + 1) = m + 1 := wrap_id zbt zbt
    have w2 : wrap64 ((m + 1) + 1) = m + 1 + 1 := wrap_id zbt zbt
    have w3 : wrap64 ((m + 1 + 1) + 1) = m + 1 + 1 + 1 := wrap_id zbt zbt
    have t0 := fun k (hB : 100 ≤ k) => markText_eq (n := m) zbt zbt hB
    have t1 := fun k (hB : 100 ≤ k) => markText_eq (n := m + 1) zbt zbt hB
    rw [if_pos (by simp; omega)]
    simp only [Option.bind_some, w1, w2, w3, t0 _ hB, t1 _ hB]
    (try rw [if_pos (nn_cast _)])
    simp only [Option.bind_some, rdm_iAnswer, set_mid, w1, w2, w3, t0 _ hB, t1 _ hB]
    (try rw [if_pos (nn_cast _)])
    (try simp only [Option.bind_some, rdm_iAnswer, set_mid, w1, w2, w3])
    rw [wrap_succ (i := pre.length) (n := pre.length + 1) zbt zbt, show m + (3 : Int) = m + 1 + 1 + 1 from by omega]
  · simp only [laws_markAnswerS.l0]
    rw [if_neg (nlt_cast _)]
theorem rdm_iTurn {pre rest : List S127} {x : S127} : rd_T127 (pre ++ x :: rest) (pre.length : Int) = x := by simp [rd_T127]
def mkTurnS (l : List S127) (m : Int) : List S127 := mkl (fun (_ : S127) m => (⟨mt (m), m + 1, m + 1 + 1⟩ : S127)) (fun _ => 3) l m
theorem markTurnS_eq {l : List S127} {m : Int} (hm : 0 ≤ m) (hb : m + 3 * l.length ≤ 1073741824) {k : Nat} (hk : 200 + l.length ≤ k) : laws_markTurnS.f k l m = some (m + 3 * l.length, mkTurnS l m) := by
  unfold laws_markTurnS.f mkTurnS
  have h := mark_loop (fun k l m i => laws_markTurnS.l0 k l m i) (fun (_ : S127) m => (⟨mt (m), m + 1, m + 1 + 1⟩ : S127)) (fun _ => 3) 1073741824 100 (fun _ => by omega) (fun k pre x rest m hB hp hm hM => ?_) (fun k l m => ?_) k l m zbt zbt hm (by rw [mtot_const]; omega)
  · rw [mtot_const] at h
    exact h
  · simp only [laws_markTurnS.l0]
    have w1 : wrap64 (m + 1) = m + 1 := wrap_id zbt zbt
    have w2 : wrap64 ((m + 1) + 1) = m + 1 + 1 := wrap_id zbt zbt
    have w3 : wrap64 ((m + 1 + 1) + 1) = m + 1 + 1 + 1 := wrap_id zbt zbt
    have t0 := fun k (hB : 100 ≤ k) => markText_eq (n := m) zbt zbt hB
    rw [if_pos (by simp; omega)]
    simp only [Option.bind_some, w1, w2, w3, t0 _ hB]
    (try rw [if_pos (nn_cast _)])
    simp only [Option.bind_some, rdm_iTurn, set_mid, w1, w2, w3, t0 _ hB]
    (try rw [if_pos (nn_cast _)])
    (try simp only [Option.bind_some, rdm_iTurn, set_mid, w1, w2, w3])
    rw [wrap_succ (i := pre.length) (n := pre.length + 1) zbt zbt, show m + (3 : Int) = m + 1 + 1 + 1 from by omega]
  · simp only [laws_markTurnS.l0]
    rw [if_neg (nlt_cast _)]
theorem heldTurnS_mk {l : List S127} {m0 : Int} (hm : 0 ≤ m0) (hb : m0 + 3 * l.length ≤ 1073741824) {k : Nat} (hk : 200 + l.length ≤ k) : laws_heldTurnS.f k (mkTurnS l m0) m0 = some (m0 + 3 * l.length) := by
  unfold laws_heldTurnS.f
  have h := held_loop (fun k m i => laws_heldTurnS.l0 k (mkTurnS l m0) m i) (fun (_ : S127) m => (⟨mt (m), m + 1, m + 1 + 1⟩ : S127)) (fun _ => 3) 1073741824 100 (fun _ => by omega) (mkTurnS l m0) (fun k pre x rest m he hB hp hm hM => ?_) (fun k m => ?_) k l m0 rfl zbt zbt hm (by rw [mtot_const]; omega)
  · rw [mtot_const] at h
    exact h
  · simp only [laws_heldTurnS.l0]
    have w1 : wrap64 (m + 1) = m + 1 := wrap_id zbt zbt
    have w2 : wrap64 ((m + 1) + 1) = m + 1 + 1 := wrap_id zbt zbt
    have w3 : wrap64 ((m + 1 + 1) + 1) = m + 1 + 1 + 1 := wrap_id zbt zbt
    have t0 := fun k (hB : 100 ≤ k) => markText_eq (n := m) zbt zbt hB
    rw [if_pos (by rw [he]; simp; omega), if_pos (nn_cast _)]
    simp only [he, rdm_iTurn, Option.bind_some, w1, w2, w3, t0 _ hB, if_true]
    rw [wrap_succ (i := pre.length) (n := pre.length + 1) zbt zbt, show m + (3 : Int) = m + 1 + 1 + 1 from by omega]
  · simp only [laws_heldTurnS.l0]
    rw [if_neg (nlt_cast _)]

def turnB (x : S127) : Bool := nameB x.f0 && (decide (0 ≤ x.f1) && decide (x.f1 ≤ 10000)) && (decide (1 ≤ x.f2) && decide (x.f2 ≤ 10000))
def turnLess (a b : S127) : Bool := if a.f1 = b.f1 then (if a.f0.toList = b.f0.toList then decide (a.f2 < b.f2) else Op.bytesLess a.f0.toList b.f0.toList) else decide (a.f1 < b.f1)
def turnAt (l : List S127) (i : Nat) : Bool := turnB (rd_T127 l (i : Int)) && (decide (i = 0) || turnLess (rd_T127 l ((i - 1 : Nat) : Int)) (rd_T127 l (i : Int)))
def turnsB (l : List S127) : Bool := (List.range l.length).all (turnAt l) && decide (l.length ≤ 24)
def cmpT (a b : S127) : Int := if cmpI a.f1 b.f1 = 0 then (if cmpS a.f0 b.f0 = 0 then cmpI a.f2 b.f2 else cmpS a.f0 b.f0) else cmpI a.f1 b.f1

theorem l23One_e_eq (l : List S127) (i : Int) {k : Nat} (hk : 20 ≤ k) : spec_l23One_e.f k l i = some (turnB (rd_T127 l i)) := by
  unfold spec_l23One_e.f turnB
  rw [l01Name_eq _ hk]; simp only [Option.bind_some, in_eq]
  by_cases h : nameB (rd_T127 l i).f0 = true
  · rw [if_pos h, h]
    by_cases h2 : (decide (0 ≤ (rd_T127 l i).f1) && decide ((rd_T127 l i).f1 ≤ 10000)) = true
    · rw [if_pos h2, h2]; simp
    · rw [if_neg h2]; rw [Bool.not_eq_true] at h2; rw [h2]; simp
  · rw [if_neg h]; simp [h]
theorem l23Before_e_eq (l : List S127) (i j : Int) : spec_l23Before_e.f l i l j = some (turnLess (rd_T127 l i) (rd_T127 l j)) := by
  unfold spec_l23Before_e.f turnLess
  split
  · split <;> rfl
  · rfl
theorem Turn_valid_eq (x : S127) {k : Nat} (hk : 20 ≤ k) : impl_Turn_valid.f k x.f0 x.f1 x.f2 = some (turnB x) := by
  unfold impl_Turn_valid.f turnB
  rw [IsName_eq _ hk]; simp only [Option.bind_some, within_eq]
  by_cases h : nameB x.f0 = true
  · rw [if_pos h, h]
    by_cases h2 : (decide (0 ≤ x.f1) && decide (x.f1 ≤ 10000)) = true
    · rw [if_pos h2, h2]; simp
    · rw [if_neg h2]; rw [Bool.not_eq_true] at h2; rw [h2]; simp
  · rw [if_neg h]; simp [h]
theorem compareTurns_eq (a b : S127) {k : Nat} (hk : 10 ≤ k) : impl_compareTurns.f k a.f0 a.f1 a.f2 b.f0 b.f1 b.f2 = some (cmpT a b) := by
  unfold impl_compareTurns.f cmpT
  rw [Compare_int64_eq, Compare_string_eq, Compare_int64_eq]
  simp only [Option.bind_some]
  rw [Or3_eq _ _ _ hk]; rfl
theorem cmpI_zero {a b : Int} : cmpI a b = 0 ↔ a = b := by
  unfold cmpI; constructor
  · intro h; split at h
    · omega
    · split at h <;> omega
  · intro h; rw [if_neg (by omega), if_neg (by omega)]
theorem cmpS_zero {a b : ByteArray} : cmpS a b = 0 ↔ a.toList = b.toList := by
  unfold cmpS; constructor
  · intro h
    by_cases h1 : Op.bytesLess a.toList b.toList = true
    · rw [if_pos h1] at h; omega
    · rw [if_neg h1] at h
      by_cases h2 : Op.bytesLess b.toList a.toList = true
      · rw [if_pos h2] at h; omega
      · by_cases e : a.toList = b.toList
        · exact e
        · exact absurd (less_total (by simpa using h1) e) h2
  · intro h; rw [h, less_irrefl]; rfl
theorem cmpT_neg (a b : S127) : cmpT a b ≥ 0 ↔ turnLess a b = false := by
  unfold cmpT turnLess
  by_cases h1 : a.f1 = b.f1
  · rw [if_pos (cmpI_zero.2 h1), if_pos h1]
    by_cases h2 : a.f0.toList = b.f0.toList
    · rw [if_pos (cmpS_zero.2 h2), if_pos h2]
      unfold cmpI
      by_cases h3 : a.f2 < b.f2
      · rw [if_pos h3]; simp [h3]
      · rw [if_neg h3]; simp [h3]; split <;> omega
    · rw [if_neg (fun e => h2 (cmpS_zero.1 e)), if_neg h2]
      unfold cmpS
      by_cases h3 : Op.bytesLess a.f0.toList b.f0.toList = true
      · rw [if_pos h3]; simp [h3]
      · rw [if_neg h3, if_pos (less_total (by simpa using h3) h2)]; simp [h3]
  · rw [if_neg (fun e => h1 (cmpI_zero.1 e)), if_neg h1]
    unfold cmpI
    by_cases h3 : a.f1 < b.f1
    · rw [if_pos h3]; simp [h3]
    · rw [if_neg h3, if_pos (by omega)]; simp [h3]

theorem l23Ok_eq {l : List S127} (hl : l.length ≤ 1048576) {k : Nat} (hk : 1048600 ≤ k) : spec_l23Ok.f k l = some (turnsB l) := by
  unfold spec_l23Ok.f turnsB
  refine all_loop (fun k i => spec_l23Ok.l0 k l i) l.length (turnAt l) _ 20 (fun k i hi hB => ?_) (fun k _ => ?_) k (by omega)
  · simp only [spec_l23Ok.l0]
    rw [if_pos (lt_cast hi), if_pos (nn_cast i), l23One_e_eq _ _ hB, wrap_succ hi (by omega)]
    simp only [Option.bind_some, turnAt]
    by_cases h : turnB (rd_T127 l (i : Int)) = true
    · rw [if_pos h]
      by_cases h0 : i = 0
      · rw [if_neg (by omega)]; simp only [h, decide_eq_true h0, Bool.true_or, Bool.and_self, if_true]
      · rw [if_pos (by omega), pred_cast (by omega) hi (by omega), if_pos (nn_cast _), if_pos (by omega), l23Before_e_eq]
        simp [h, h0]
    · rw [if_neg h]; simp [h]
  · simp only [spec_l23Ok.l0]
    rw [if_neg (nlt_cast _)]
    congr 2
    exact propext (by omega)
theorem ValidTurns_eq {l : List S127} {k : Nat} (hk : 100 ≤ k) : impl_ValidTurns.f k l = some (turnsB l) := by
  unfold impl_ValidTurns.f turnsB
  by_cases h24 : (l.length : Int) > 24
  · rw [if_pos h24]
    have : ¬ l.length ≤ 24 := by omega
    simp [this]
  rw [if_neg h24]
  have h24' : l.length ≤ 24 := by omega
  rw [decide_eq_true h24']
  refine all_loop (fun k i => impl_ValidTurns.l0 k l l (l.length : Int) i) l.length (turnAt l) true 20 (fun k i hi hB => ?_) (fun k _ => ?_) k (by omega)
  · simp only [impl_ValidTurns.l0]
    rw [if_pos (lt_cast hi), if_pos (nn_cast i), if_pos (lt_cast hi), Turn_valid_eq _ hB, wrap_succ hi (by omega)]
    simp only [Option.bind_some, turnAt]
    by_cases h : turnB (rd_T127 l (i : Int)) = true
    · rw [if_pos h]
      by_cases h0 : i = 0
      · rw [if_neg (by omega)]; simp only [h, decide_eq_true h0, Bool.true_or, Bool.and_self, if_true]
      · rw [if_pos (by omega), pred_cast (by omega) hi (by omega), if_pos (nn_cast _), if_pos (by omega), compareTurns_eq _ _ (by omega)]
        simp only [Option.bind_some, cmpT_neg, h, decide_eq_false h0, Bool.false_or, Bool.true_and]
        by_cases h3 : turnLess (rd_T127 l ((i - 1 : Nat) : Int)) (rd_T127 l (i : Int)) = true
        · rw [if_neg (by simp [h3]), if_pos h3]
        · rw [if_pos (by simpa using h3), if_neg h3]
    · rw [if_neg h]; simp [h]
  · simp only [impl_ValidTurns.l0]
    rw [if_neg (nlt_cast _)]
theorem turns_len {l : List S127} (h : turnsB l = true) : l.length ≤ 24 := by
  unfold turnsB at h
  simp only [Bool.and_eq_true, decide_eq_true_iff] at h
  exact h.2

theorem Ev.le {α : Type} {g : Nat → Option α} {r : α} (K : Nat) (h : ∀ k, K ≤ k → g k = some r) : Ev g r := ⟨K, h⟩
theorem Ev.const {α : Type} {x : Option α} {r : α} (h : x = some r) : Ev (fun _ => x) r := ⟨0, fun _ _ => h⟩
theorem Ev.yes {α : Type} {c : Nat → Option Bool} {f : Nat → Option α} {r : α} (h : Ev c true) (k : Ev f r) : Ev (fun n => if c n = some true then f n else none) r := by
  obtain ⟨K, hK⟩ := h
  obtain ⟨K', hK'⟩ := k
  exact ⟨max K K', fun n hn => by
    show (if c n = some true then f n else none) = some r
    rw [if_pos (hK n (by omega))]; exact hK' n (by omega)⟩
theorem Ev.pos {α : Type} {c : Prop} [Decidable c] {f g : Nat → Option α} {r : α} (h : c) (k : Ev f r) : Ev (fun n => if c then f n else g n) r := Ev.congr (fun _ => if_pos h) k
theorem Ev.neg {α : Type} {c : Prop} [Decidable c] {f g : Nat → Option α} {r : α} (h : ¬ c) (k : Ev g r) : Ev (fun n => if c then f n else g n) r := Ev.congr (fun _ => if_neg h) k

theorem Ok_turns_ev3 {l : List S127} (hl : l.length ≤ 1048576) : Ev (fun k => spec_l23Ok.f k l) (turnsB l) := Ev.le 1048600 (fun k hk => l23Ok_eq hl hk)
theorem Valid_turns_ev3 (l : List S127) : Ev (fun k => impl_ValidTurns.f k l) (turnsB l) := Ev.le 100 (fun k hk => ValidTurns_eq hk)
theorem end_eq3 (a : ByteArray) (b c : Int) : impl_Turn_end.f a b c = some (wrap64 (b + c)) := rfl
def ansB (x : S125) : Bool := (nameB x.f0 && nameB x.f1) && (decide (0 ≤ x.f2) && decide (x.f2 ≤ 10000))
def answersB (l : List S125) : Bool := l.all ansB && decide (l.length ≤ 8)
theorem rd_ans {l : List S125} {i : Nat} (h : i < l.length) : rd_T125 l (i : Int) = l[i] := by simp [rd_T125, List.getD_eq_getElem?_getD, List.getElem?_eq_getElem h]
theorem rd_turn {l : List S127} {i : Nat} (h : i < l.length) : rd_T127 l (i : Int) = l[i] := by simp [rd_T127, List.getD_eq_getElem?_getD, List.getElem?_eq_getElem h]
theorem begins_ev {l : List S127} (hl : l.length ≤ 1048576) (pl : ByteArray) (st : Int) : Ev (fun k => spec_l23Begins.f k l pl st) (l.any (impl_begins.p pl st)) := by
  unfold spec_l23Begins.f
  have main : ∀ (d i : Nat), i + d = l.length → Ev (fun k => spec_l23Begins.l0 k l pl st (i : Int)) ((l.drop i).any (impl_begins.p pl st)) := by
    intro d
    induction d with
    | zero =>
      intro i hi
      obtain rfl : i = l.length := by omega
      refine Ev.step (f := fun _ => some false) (fun k => ?_) ?_
      · simp only [spec_l23Begins.l0]; rw [if_neg (nlt_cast _)]
      · rw [List.drop_length]; exact Ev.now _
    | succ d ih =>
      intro i hi
      have hlt : i < l.length := by omega
      rw [drop_cons hlt, List.any_cons]
      by_cases h1 : l[i].f0.toList = pl.toList
      · by_cases h2 : l[i].f1 = st
        · have e : impl_begins.p pl st l[i] = true := by unfold impl_begins.p; rw [decide_eq_true h1, decide_eq_true h2]; rfl
          rw [e, Bool.true_or]
          refine Ev.step (f := fun _ => some true) (fun k => ?_) (Ev.now _)
          simp only [spec_l23Begins.l0]
          rw [if_pos (lt_cast hlt), if_pos (nn_cast i), rd_turn hlt, if_pos h1, if_pos h2]
        · have e : impl_begins.p pl st l[i] = false := by unfold impl_begins.p; rw [decide_eq_false h2, Bool.and_false]
          rw [e, Bool.false_or]
          refine Ev.step (fun k => ?_) (ih (i + 1) (by omega))
          simp only [spec_l23Begins.l0]
          rw [if_pos (lt_cast hlt), if_pos (nn_cast i), rd_turn hlt, if_pos h1, if_neg h2, wrap_succ hlt (by omega)]
      · have e : impl_begins.p pl st l[i] = false := by unfold impl_begins.p; rw [decide_eq_false h1, Bool.false_and]
        rw [e, Bool.false_or]
        refine Ev.step (fun k => ?_) (ih (i + 1) (by omega))
        simp only [spec_l23Begins.l0]
        rw [if_pos (lt_cast hlt), if_pos (nn_cast i), rd_turn hlt, if_neg h1, wrap_succ hlt (by omega)]
  have := main l.length 0 (by omega)
  simpa using this
theorem l23Answers_ev {l : List S125} (hl : l.length ≤ 1048576) : Ev (fun k => spec_l23Answers.f k l) (answersB l) := by
  unfold spec_l23Answers.f answersB
  have main : ∀ (d i : Nat), i + d = l.length → Ev (fun k => spec_l23Answers.l0 k l (i : Int)) ((l.drop i).all ansB && decide (l.length ≤ 8)) := by
    intro d
    induction d with
    | zero =>
      intro i hi
      obtain rfl : i = l.length := by omega
      refine Ev.step (f := fun _ => some (decide ((l.length : Int) ≤ 8))) (fun k => ?_) ?_
      · simp only [spec_l23Answers.l0]; rw [if_neg (nlt_cast _)]
      · rw [List.drop_length, List.all_nil, Bool.true_and, show decide (l.length ≤ 8) = decide ((l.length : Int) ≤ 8) from decide_eq_decide.2 (by omega)]; exact Ev.now _
    | succ d ih =>
      intro i hi
      have hlt : i < l.length := by omega
      rw [drop_cons hlt, List.all_cons]
      have e1 : Ev (fun k => spec_l01Name.f k l[i].f0) (nameB l[i].f0) := Ev.le 20 (fun k hk => l01Name_eq _ hk)
      have e2 : Ev (fun k => spec_l01Name.f k l[i].f1) (nameB l[i].f1) := Ev.le 20 (fun k hk => l01Name_eq _ hk)
      refine Ev.step (f := fun k => (spec_l01Name.f k l[i].f0).bind fun t1 => if t1 = true then (spec_l01Name.f k l[i].f1).bind fun t2 => if t2 = true then (spec_l00In.f l[i].f2 0 10000).bind fun t3 => if t3 = true then spec_l23Answers.l0 k l ((i + 1 : Nat) : Int) else some false else some false else some false) (fun k => ?_) ?_
      · simp only [spec_l23Answers.l0]
        rw [if_pos (lt_cast hlt), if_pos (nn_cast i), rd_ans hlt, wrap_succ hlt (by omega)]
      · unfold ansB
        refine Ev.bind e1 ?_
        by_cases h1 : nameB l[i].f0 = true
        · refine Ev.pos h1 (Ev.bind e2 ?_)
          by_cases h2 : nameB l[i].f1 = true
          · refine Ev.pos h2 (Ev.bind (Ev.const (in_eq _ _ _)) ?_)
            by_cases h3 : (decide (0 ≤ l[i].f2) && decide (l[i].f2 ≤ 10000)) = true
            · rw [h1, h2, h3]
              exact Ev.pos rfl (ih (i + 1) (by omega))
            · rw [eq_false_of_ne_true h3, Bool.and_false, Bool.false_and]
              exact Ev.neg (by simp) (Ev.now _)
          · rw [eq_false_of_ne_true h2, Bool.and_false, Bool.false_and, Bool.false_and]
            exact Ev.neg (by simp) (Ev.now _)
        · rw [eq_false_of_ne_true h1, Bool.false_and, Bool.false_and, Bool.false_and]
          exact Ev.neg (by simp) (Ev.now _)
  have := main l.length 0 (by omega)
  simpa using this
theorem answersOk_ev (l : List S125) : Ev (fun k => impl_answersOk.f k l) (answersB l) := by
  refine Ev.le 30 (fun k hk => ?_)
  unfold impl_answersOk.f answersB
  have h1 : ∀ x : S125, impl_answersOk_1.f k x.f0 x.f1 x.f2 = some (!ansB x) := fun x => by
    unfold impl_answersOk_1.f ansB
    rw [IsName_eq _ (by omega), IsName_eq _ (by omega), within_eq]
    simp only [Option.bind_some]
    by_cases h1 : nameB x.f0 = true
    · by_cases h2 : nameB x.f1 = true
      · rw [if_pos h1, if_pos h2, h1, h2]; rfl
      · rw [if_pos h1, if_neg h2]; simp at h2; rw [h2]; simp
    · rw [if_neg h1]; simp at h1; rw [h1]; simp
  rw [anyO_some (q := fun x => !ansB x) (fun x _ => h1 x), Option.bind_some]
  have h2 : (!(l.any fun x => !ansB x)) = l.all ansB := by
    rw [List.not_any_eq_all_not]
    congr 1; funext x; simp
  rw [h2]
  by_cases h : l.length ≤ 8
  · rw [if_pos (by omega), decide_eq_true h, Bool.and_true]
  · rw [if_neg (by omega), decide_eq_false h, Bool.and_false]
theorem missed_inner {l : List S127} (hl : l.length ≤ 24) {q : List S125} (hq : q.length ≤ 8) {i : Nat} (hi : i < q.length) : ∀ (d j : Nat) (x : List (List Int)), j + d = l.length → x.length ≤ 1000 - d → (∀ e ∈ x, ∃ a b : Nat, e = [(a : Int), (b : Int)] ∧ a < q.length ∧ b < l.length) →
    ∃ y : List (List Int), y.length ≤ x.length + d ∧ (∀ e ∈ y, ∃ a b : Nat, e = [(a : Int), (b : Int)] ∧ a < q.length ∧ b < l.length) ∧
      (∀ r, Ev (fun k => spec_l23Missed.l0 k l q y ((i + 1 : Nat) : Int)) r → Ev (fun k => spec_l23Missed.l1 k l q x (i : Int) (j : Int)) r) ∧
      (∀ r, Ev (fun k => impl_missed.l0 k l y q (q.length : Int) ((i + 1 : Nat) : Int)) r → Ev (fun k => impl_missed.l1 k l x (i : Int) q (q.length : Int) (i : Int) l (l.length : Int) (j : Int) q[i].f0 q[i].f1 q[i].f2) r) := by
  intro d
  have WI := Aside0.mk (show wrap64 ((i : Int) + 1) = ((i + 1 : Nat) : Int) from wrap_succ hi (by omega))
  induction d with
  | zero =>
    intro j x hj hx he
    obtain rfl : j = l.length := by omega
    refine ⟨x, by omega, he, fun r h => Ev.step (fun k => ?_) h, fun r h => Ev.step (fun k => ?_) h⟩
    · simp only [spec_l23Missed.l1]
      rw [if_neg (nlt_cast _), WI.out]
    · simp only [impl_missed.l1]
      rw [if_neg (nlt_cast _), WI.out]
  | succ d ih =>
    intro j x hj hx he
    have hlt : j < l.length := by omega
    have WS := Aside0.mk (show wrap64 ((j : Int) + 1) = ((j + 1 : Nat) : Int) from wrap_succ hlt (by omega))
    have hxb : x.length < 5864062014805 := by omega
    by_cases h1 : l[j].f0.toList = q[i].f0.toList
    · have hb := begins_ev (l := l) (by omega) q[i].f1 (wrap64 (wrap64 (l[j].f1 + l[j].f2) + q[i].f2))
      by_cases h2 : l.any (impl_begins.p q[i].f1 (wrap64 (wrap64 (l[j].f1 + l[j].f2) + q[i].f2))) = true
      · obtain ⟨y, y1, y2, y3, y4⟩ := ih (j + 1) x (by omega) (by omega) he
        refine ⟨y, by omega, y2, fun r h => Ev.step (f := fun k => (spec_l23Begins.f k l q[i].f1 (wrap64 (wrap64 (l[j].f1 + l[j].f2) + q[i].f2))).bind fun t => if t = true then spec_l23Missed.l1 k l q x (i : Int) ((j + 1 : Nat) : Int) else if x.length < 5864062014805 then spec_l23Missed.l1 k l q (x ++ [[(i : Int), (j : Int)]]) (i : Int) ((j + 1 : Nat) : Int) else none) (fun k => ?_) (Ev.bind hb (Ev.pos h2 (y3 r h))), fun r h => Ev.step (fun k => ?_) (y4 r h)⟩
        · simp only [spec_l23Missed.l1]
          rw [if_pos (lt_cast hlt), if_pos (nn_cast j), if_pos (nn_cast i), if_pos (lt_cast hi), rd_turn hlt, rd_ans hi, if_pos h1, WS.out]
        · simp only [impl_missed.l1]
          rw [if_pos (lt_cast hlt), if_pos (nn_cast j), if_pos (lt_cast hlt), rd_turn hlt, if_pos h1, end_eq3, Option.bind_some]
          unfold impl_begins.f
          rw [Option.bind_some, if_pos h2, WS.out]
      · obtain ⟨y, y1, y2, y3, y4⟩ := ih (j + 1) (x ++ [[(i : Int), (j : Int)]]) (by omega) (by simp; omega) (fun e h => by
          rcases List.mem_append.1 h with h | h
          · exact he e h
          · rw [List.mem_singleton.1 h]; exact ⟨i, j, rfl, hi, hlt⟩)
        refine ⟨y, by simp at y1; omega, y2, fun r h => Ev.step (f := fun k => (spec_l23Begins.f k l q[i].f1 (wrap64 (wrap64 (l[j].f1 + l[j].f2) + q[i].f2))).bind fun t => if t = true then spec_l23Missed.l1 k l q x (i : Int) ((j + 1 : Nat) : Int) else if x.length < 5864062014805 then spec_l23Missed.l1 k l q (x ++ [[(i : Int), (j : Int)]]) (i : Int) ((j + 1 : Nat) : Int) else none) (fun k => ?_) (Ev.bind hb (Ev.neg h2 (Ev.pos hxb (y3 r h)))), fun r h => Ev.step (fun k => ?_) (y4 r h)⟩
        · simp only [spec_l23Missed.l1]
          rw [if_pos (lt_cast hlt), if_pos (nn_cast j), if_pos (nn_cast i), if_pos (lt_cast hi), rd_turn hlt, rd_ans hi, if_pos h1, WS.out]
        · simp only [impl_missed.l1]
          rw [if_pos (lt_cast hlt), if_pos (nn_cast j), if_pos (lt_cast hlt), rd_turn hlt, if_pos h1, end_eq3, Option.bind_some]
          unfold impl_begins.f
          rw [Option.bind_some, if_neg h2, if_pos hxb, WS.out]
    · obtain ⟨y, y1, y2, y3, y4⟩ := ih (j + 1) x (by omega) (by omega) he
      refine ⟨y, by omega, y2, fun r h => Ev.step (fun k => ?_) (y3 r h), fun r h => Ev.step (fun k => ?_) (y4 r h)⟩
      · simp only [spec_l23Missed.l1]
        rw [if_pos (lt_cast hlt), if_pos (nn_cast j), if_pos (nn_cast i), if_pos (lt_cast hi), rd_turn hlt, rd_ans hi, if_neg h1, WS.out]
      · simp only [impl_missed.l1]
        rw [if_pos (lt_cast hlt), if_pos (nn_cast j), if_pos (lt_cast hlt), rd_turn hlt, if_neg h1, WS.out]
theorem missed_outer {l : List S127} (hl : l.length ≤ 24) {q : List S125} (hq : q.length ≤ 8) : ∀ (d i : Nat) (x : List (List Int)), i + d = q.length → x.length ≤ 24 * i → (∀ e ∈ x, ∃ a b : Nat, e = [(a : Int), (b : Int)] ∧ a < q.length ∧ b < l.length) →
    ∃ y : List (List Int), y.length ≤ 192 ∧ (∀ e ∈ y, ∃ a b : Nat, e = [(a : Int), (b : Int)] ∧ a < q.length ∧ b < l.length) ∧ Ev (fun k => spec_l23Missed.l0 k l q x (i : Int)) y ∧ Ev (fun k => impl_missed.l0 k l x q (q.length : Int) (i : Int)) y := by
  intro d
  induction d with
  | zero =>
    intro i x hi hx he
    obtain rfl : i = q.length := by omega
    refine ⟨x, by omega, he, Ev.step (f := fun _ => some x) (fun k => ?_) (Ev.now _), Ev.step (f := fun _ => some x) (fun k => ?_) (Ev.now _)⟩
    · simp only [spec_l23Missed.l0]; rw [if_neg (nlt_cast _)]
    · simp only [impl_missed.l0]; rw [if_neg (nlt_cast _)]
  | succ d ih =>
    intro i x hi hx he
    have hlt : i < q.length := by omega
    obtain ⟨y, y1, y2, y3, y4⟩ := missed_inner hl hq hlt l.length 0 x (by omega) (by omega) he
    obtain ⟨z, z1, z2, z3, z4⟩ := ih (i + 1) y (by omega) (by omega) y2
    refine ⟨z, z1, z2, Ev.step (fun k => ?_) (y3 z z3), Ev.step (fun k => ?_) (y4 z z4)⟩
    · simp only [spec_l23Missed.l0]
      rw [if_pos (lt_cast hlt)]; rfl
    · simp only [impl_missed.l0]
      rw [if_pos (lt_cast hlt), if_pos (nn_cast i), if_pos (lt_cast hlt), rd_ans hlt]; rfl
theorem answers_len {q : List S125} (h : answersB q = true) : q.length ≤ 8 := by
  unfold answersB at h; simp only [Bool.and_eq_true, decide_eq_true_iff] at h; exact h.2
theorem missed_ev {l : List S127} (hl : l.length ≤ 24) {q : List S125} (hq : q.length ≤ 8) : ∃ y : List (List Int), y.length ≤ 192 ∧ (∀ e ∈ y, ∃ a b : Nat, e = [(a : Int), (b : Int)] ∧ a < q.length ∧ b < l.length) ∧ Ev (fun k => spec_l23Missed.f k l q) y ∧ Ev (fun k => impl_missed.f k l q) y := by
  obtain ⟨y, y1, y2, y3, y4⟩ := missed_outer hl hq q.length 0 [] (by omega) (by simp) (by simp)
  exact ⟨y, y1, y2, y3, y4⟩

theorem less_trans : ∀ {a b c : List UInt8}, Op.bytesLess a b = true → Op.bytesLess b c = true → Op.bytesLess a c = true
  | _, _, [], _, h => by simp [Op.bytesLess] at h
  | [], _, _ :: _, _, _ => rfl
  | x :: a, [], z :: c, h, _ => by simp [Op.bytesLess] at h
  | x :: a, y :: b, z :: c, h, h' => by
    simp only [Op.bytesLess, Bool.or_eq_true, Bool.and_eq_true, decide_eq_true_iff, beq_iff_eq] at h h' ⊢
    rcases h with h | ⟨rfl, h⟩
    · rcases h' with h' | ⟨rfl, h'⟩
      · exact .inl (UInt8.lt_trans h h')
      · exact .inl h
    · rcases h' with h' | ⟨rfl, h'⟩
      · exact .inl h'
      · exact .inr ⟨rfl, less_trans h h'⟩
theorem tl_irrefl (a : S127) : turnLess a a = false := by
  unfold turnLess
  rw [if_pos rfl, if_pos rfl]; simp
theorem tl_trans {a b c : S127} (h : turnLess a b = true) (h' : turnLess b c = true) : turnLess a c = true := by
  unfold turnLess at h h' ⊢
  by_cases e1 : a.f1 = b.f1
  · rw [if_pos e1] at h
    by_cases e2 : b.f1 = c.f1
    · rw [if_pos e2] at h'
      rw [if_pos (e1.trans e2)]
      by_cases e3 : a.f0.toList = b.f0.toList
      · rw [if_pos e3, decide_eq_true_iff] at h
        by_cases e4 : b.f0.toList = c.f0.toList
        · rw [if_pos e4, decide_eq_true_iff] at h'
          rw [if_pos (e3.trans e4), decide_eq_true_iff]; omega
        · rw [if_neg e4] at h'
          rw [if_neg (fun e => e4 (e3.symm.trans e)), e3]; exact h'
      · rw [if_neg e3] at h
        by_cases e4 : b.f0.toList = c.f0.toList
        · rw [if_neg (fun e => e3 (e.trans e4.symm)), ← e4]; exact h
        · rw [if_neg e4] at h'
          have h3 := less_trans h h'
          by_cases e5 : a.f0.toList = c.f0.toList
          · rw [e5, less_irrefl] at h3; cases h3
          · rw [if_neg e5]; exact h3
    · rw [if_neg e2, decide_eq_true_iff] at h'
      rw [if_neg (by omega), decide_eq_true_iff]; omega
  · rw [if_neg e1, decide_eq_true_iff] at h
    by_cases e2 : b.f1 = c.f1
    · rw [if_neg (by omega), decide_eq_true_iff]; omega
    · rw [if_neg e2, decide_eq_true_iff] at h'
      rw [if_neg (by omega), decide_eq_true_iff]; omega
theorem tl_asymm {a b : S127} (h : turnLess a b = true) : turnLess b a = false := by
  cases h' : turnLess b a
  · rfl
  · have := tl_trans h h'
    rw [tl_irrefl] at this; cases this
theorem tl_other {a b : S127} (hne : ¬ (a.f0.toList = b.f0.toList ∧ a.f1 = b.f1)) (h : turnLess a b = false) : turnLess b a = true := by
  unfold turnLess at h ⊢
  by_cases e1 : a.f1 = b.f1
  · rw [if_pos e1] at h
    rw [if_pos e1.symm]
    by_cases e3 : a.f0.toList = b.f0.toList
    · exact absurd ⟨e3, e1⟩ hne
    · rw [if_neg e3] at h
      rw [if_neg (fun e => e3 e.symm)]
      exact less_total h e3
  · rw [if_neg e1, decide_eq_false_iff_not] at h
    rw [if_neg (fun e => e1 e.symm), decide_eq_true_iff]; omega
/-- The turns in order. -/
def srt (l : List S127) : Prop := l.Pairwise fun a b => turnLess a b = true
theorem srt_of {l : List S127} (h : turnsB l = true) : srt l ∧ ∀ y ∈ l, turnB y = true := by
  unfold turnsB at h
  rw [Bool.and_eq_true] at h
  have ha : ∀ i, i < l.length → turnAt l i = true := fun i hi => List.all_eq_true.1 h.1 i (List.mem_range.2 hi)
  constructor
  · have step : ∀ i, (hi : i + 1 < l.length) → turnLess l[i] l[i + 1] = true := fun i hi => by
      have := ha (i + 1) hi
      unfold turnAt at this
      rw [Bool.and_eq_true, Bool.or_eq_true, decide_eq_true_iff] at this
      rcases this.2 with h0 | h0
      · omega
      · rw [show i + 1 - 1 = i by omega, rd_turn (by omega), rd_turn hi] at h0; exact h0
    have main : ∀ d i, (hi : i + d + 1 < l.length) → turnLess (l[i]'(by omega)) l[i + d + 1] = true := by
      intro d
      induction d with
      | zero => intro i hi; exact step i hi
      | succ d ih => intro i hi; exact tl_trans (ih i (by omega)) (step (i + d + 1) (by omega))
    unfold srt
    rw [List.pairwise_iff_getElem]
    intro i j hi hj hij
    have := main (j - i - 1) i (by omega)
    simp only [show i + (j - i - 1) + 1 = j by omega] at this
    exact this
  · intro y hy
    obtain ⟨i, hi, rfl⟩ := List.getElem_of_mem hy
    have := ha i hi
    unfold turnAt at this
    rw [Bool.and_eq_true, rd_turn hi] at this
    exact this.1
/-- The place of a turn: what stands ahead is before it, and it is before what stands from there on. -/
def PP (l : List S127) (x : S127) (p : Nat) : Prop := p ≤ l.length ∧ (∀ j (h : j < l.length), j < p → turnLess l[j] x = true) ∧ ∀ j (h : j < l.length), p ≤ j → turnLess x l[j] = true
theorem place : ∀ {l : List S127} {x : S127}, srt l → (∀ y ∈ l, ¬ (y.f0.toList = x.f0.toList ∧ y.f1 = x.f1)) → ∃ p, PP l x p
  | [], x, _, _ => ⟨0, Nat.le_refl _, fun j h => by simp at h, fun j h => by simp at h⟩
  | y :: r, x, hs, hn => by
    have hs' := List.pairwise_cons.1 hs
    by_cases h : turnLess y x = true
    · obtain ⟨p, h1, h2, h3⟩ := place hs'.2 (fun z hz => hn z (List.mem_cons_of_mem _ hz))
      refine ⟨p + 1, by rw [List.length_cons]; omega, fun j hj hjp => ?_, fun j hj hjp => ?_⟩
      · cases j with
        | zero => exact h
        | succ j => exact h2 j (by simpa using hj) (by omega)
      · cases j with
        | zero => omega
        | succ j => exact h3 j (by simpa using hj) (by omega)
    · have hx : turnLess x y = true := tl_other (hn y List.mem_cons_self) (by simpa using h)
      refine ⟨0, Nat.zero_le _, fun j _ hj => by omega, fun j hj _ => ?_⟩
      cases j with
      | zero => exact hx
      | succ j => exact tl_trans hx (hs'.1 _ (List.getElem_mem (by simpa using hj)))
def putT (l : List S127) (x : S127) (p : Nat) : List S127 := l.take p ++ [x] ++ l.drop p
theorem putT_len {l : List S127} {x : S127} {p : Nat} (hp : p ≤ l.length) : (putT l x p).length = l.length + 1 := by
  unfold putT
  rw [List.length_append, List.length_append, List.length_take, List.length_drop, List.length_singleton]; omega
theorem putT_srt {l : List S127} {x : S127} {p : Nat} (hs : srt l) (h : PP l x p) : srt (putT l x p) := by
  obtain ⟨h1, h2, h3⟩ := h
  have hh : srt (l.take p ++ l.drop p) := by rw [List.take_append_drop]; exact hs
  obtain ⟨a1, a2, a3⟩ := List.pairwise_append.1 hh
  have ht : ∀ y ∈ l.take p, turnLess y x = true := fun y hy => by
    obtain ⟨j, hj, rfl⟩ := List.getElem_of_mem hy
    rw [List.length_take] at hj
    rw [List.getElem_take]
    exact h2 j (by omega) (by omega)
  have hd : ∀ y ∈ l.drop p, turnLess x y = true := fun y hy => by
    obtain ⟨j, hj, rfl⟩ := List.getElem_of_mem hy
    rw [List.length_drop] at hj
    rw [List.getElem_drop]
    exact h3 (p + j) (by omega) (by omega)
  unfold srt putT
  refine List.pairwise_append.2 ⟨List.pairwise_append.2 ⟨a1, List.pairwise_singleton _ _, fun a ha b hb => ?_⟩, a2, fun a ha b hb => ?_⟩
  · rw [List.mem_singleton] at hb; rw [hb]; exact ht a ha
  · rcases List.mem_append.1 ha with ha | ha
    · exact a3 a ha b hb
    · rw [List.mem_singleton] at ha; rw [ha]; exact hd b hb
theorem putT_mem {l : List S127} {x y : S127} {p : Nat} (h : y ∈ putT l x p) : y = x ∨ y ∈ l := by
  unfold putT at h
  rcases List.mem_append.1 h with h | h
  · rcases List.mem_append.1 h with h | h
    · exact .inr (List.mem_of_mem_take h)
    · exact .inl (List.mem_singleton.1 h)
  · exact .inr (List.mem_of_mem_drop h)
theorem Before_eq (l m : List S127) (i j : Int) : spec_l23Before_e.f l i m j = some (turnLess (rd_T127 l i) (rd_T127 m j)) := by
  unfold spec_l23Before_e.f turnLess
  split
  · split <;> rfl
  · rfl
theorem One_eq (x : S127) {k : Nat} (hk : 20 ≤ k) : spec_l23One_e.f k [x] 0 = some (turnB x) := l23One_e_eq [x] 0 hk
/-- The reference goes down from the end. -/
theorem Put_l0 {l : List S127} (hl : l.length ≤ 1000) (x : S127) {p : Nat} (h : PP l x p) : ∀ (d K : Nat), p + d ≤ l.length → d + 1 ≤ K → spec_l23Put.l0 K l ((p + d : Nat) : Int) x.f0 x.f1 x.f2 = some (putT l x p) := by
  obtain ⟨h1, h2, h3⟩ := h
  have fin : (some (([] : List (S127)) : List (S127))).bind (fun y124 => (if 0 ≤ ((p : Nat) : Int) then (if ((p : Nat) : Int) ≤ (l.length : Int) then ((some (l.take (((p : Nat) : Int)).toNat : List (S127))).bind fun y127 => (if y124.length + y127.length < 4398046511104 then ((some (y124 ++ y127 : List (S127))).bind fun y131 => (if y131.length < 4398046511104 then ((some (y131 ++ [(⟨x.f0, x.f1, x.f2⟩ : S127)] : List (S127))).bind fun y134 => ((some (l.drop (((p : Nat) : Int)).toNat : List (S127))).bind fun y137 => (if y134.length + y137.length < 4398046511104 then (some (y134 ++ y137)) else (none)))) else (none))) else (none))) else (none)) else (none))) = some (putT l x p) := by
    simp only [Option.bind_some, Int.toNat_natCast, List.nil_append, List.length_nil, Nat.zero_add]
    have e1 : (l.take p).length = p := by rw [List.length_take]; omega
    have e2 : (l.drop p).length = l.length - p := List.length_drop
    have e3 : (l.take p ++ [(⟨x.f0, x.f1, x.f2⟩ : S127)]).length = p + 1 := by rw [List.length_append, e1]; rfl
    rw [if_pos (by omega), if_pos (by omega), if_pos (by omega), if_pos (by omega), if_pos (by omega)]; rfl
  intro d
  induction d with
  | zero =>
    intro K hd hK
    obtain ⟨K, rfl⟩ : ∃ m, K = m + 1 := ⟨K - 1, by omega⟩
    simp only [spec_l23Put.l0]
    rw [show p + 0 = p from rfl]
    by_cases h0 : ((p : Nat) : Int) > 0
    · have hp : wrap64 (((p : Nat) : Int) - 1) = ((p - 1 : Nat) : Int) := by rw [wrap_id (by omega) (by omega)]; omega
      have hx : turnLess x l[p - 1] = false := tl_asymm (h2 (p - 1) (by omega) (by omega))
      rw [if_pos h0, hp, if_pos (by omega), if_pos (by omega), Before_eq, rd_turn (by omega : p - 1 < l.length)]
      rw [show rd_T127 [(⟨x.f0, x.f1, x.f2⟩ : S127)] 0 = x from rfl, hx]
      simp only [Option.bind_some]
      rw [if_neg (by decide)]
      simp only [Option.bind_some] at fin
      exact fin
    · rw [if_neg h0]; exact fin
  | succ d ih =>
    intro K hd hK
    obtain ⟨K, rfl⟩ : ∃ m, K = m + 1 := ⟨K - 1, by omega⟩
    have hp : wrap64 (((p + (d + 1) : Nat) : Int) - 1) = ((p + d : Nat) : Int) := by rw [wrap_id (by omega) (by omega)]; omega
    have hx : turnLess x l[p + d] = true := h3 (p + d) (by omega) (by omega)
    simp only [spec_l23Put.l0]
    rw [if_pos (by omega), hp, if_pos (by omega), if_pos (by omega), Before_eq, rd_turn (by omega : p + d < l.length)]
    rw [show rd_T127 [(⟨x.f0, x.f1, x.f2⟩ : S127)] 0 = x from rfl, hx]
    simp only [Option.bind_some]
    rw [if_pos trivial]
    exact ih K (by omega) (by omega)
theorem Put_eq {l : List S127} (hl : l.length ≤ 1000) (x : S127) {p : Nat} (h : PP l x p) {K : Nat} (hK : 2000 ≤ K) : spec_l23Put.f K l x.f0 x.f1 x.f2 = some (putT l x p) := by
  have := Put_l0 hl x h (l.length - p) K (by have := h.1; omega) (by omega)
  rw [show p + (l.length - p) = l.length by have := h.1; omega] at this
  exact this
/-- The program halves. -/
theorem half_w {a b : Nat} (h : a + b ≤ 3000) : wrap64 ((IntKind.u64.wrap (wrap64 ((a : Int) + (b : Int)))) / 2) = (((a + b) / 2 : Nat) : Int) := by
  rw [wrap_id (x := (a : Int) + (b : Int)) (by omega) (by omega), IntKind.wrap_u64, wrap_id (by omega) (by omega)]; omega
theorem Search_l0 {l : List S127} (hl : l.length ≤ 1000) (x : S127) {p : Nat} (h : PP l x p) : ∀ (m a b K : Nat), b - a ≤ m → a ≤ p → p ≤ b → b ≤ l.length → m + 20 ≤ K → ∃ c, slices_BinarySearchFunc_S_impl_Turn.l0 K l (l.length : Int) (a : Int) (b : Int) x.f0 x.f1 x.f2 = some ((p : Int), c) := by
  obtain ⟨h1, h2, h3⟩ := h
  intro m
  induction m with
  | zero =>
    intro a b K hm ha hb hbl hK
    obtain ⟨K, rfl⟩ : ∃ q, K = q + 1 := ⟨K - 1, by omega⟩
    obtain rfl : a = p := by omega
    simp only [slices_BinarySearchFunc_S_impl_Turn.l0]
    rw [if_neg (by omega)]
    by_cases hlt : (a : Int) < (l.length : Int)
    · rw [if_pos hlt, if_pos (nn_cast _), if_pos hlt, compareTurns_eq _ _ (by omega)]
      exact ⟨_, rfl⟩
    · rw [if_neg hlt]; exact ⟨_, rfl⟩
  | succ m ih =>
    intro a b K hm ha hb hbl hK
    by_cases hab : a < b
    rotate_left
    · exact ih a b K (by omega) ha hb hbl (by omega)
    obtain ⟨K, rfl⟩ : ∃ q, K = q + 1 := ⟨K - 1, by omega⟩
    have hh := half_w (a := a) (b := b) (by omega)
    have hml : (a + b) / 2 < l.length := by omega
    simp only [slices_BinarySearchFunc_S_impl_Turn.l0]
    rw [if_pos (by omega), hh, if_pos (nn_cast _), if_pos (by omega), compareTurns_eq (rd_T127 l (((a + b) / 2 : Nat) : Int)) x (by omega), rd_turn hml]
    simp only [Option.bind_some]
    by_cases hc : cmpT l[(a + b) / 2] x < 0
    · rw [if_pos hc, wrap_id (x := (((a + b) / 2 : Nat) : Int) + 1) (by omega) (by omega)]
      have hp : (a + b) / 2 < p := by
        rcases Nat.lt_or_ge ((a + b) / 2) p with q | q
        · exact q
        · exact absurd ((cmpT_neg _ _).2 (tl_asymm (h3 _ hml q))) (by omega)
      exact ih ((a + b) / 2 + 1) b K (by omega) (by omega) hb hbl (by omega)
    · rw [if_neg hc]
      have hp : p ≤ (a + b) / 2 := by
        rcases Nat.lt_or_ge ((a + b) / 2) p with q | q
        · have h4 := h2 _ hml q
          rw [(cmpT_neg _ _).1 (by omega)] at h4; cases h4
        · exact q
      exact ih a ((a + b) / 2) K (by omega) ha hp (by omega) (by omega)
theorem Search_eq {l : List S127} (hl : l.length ≤ 1000) (x : S127) {p : Nat} (h : PP l x p) {K : Nat} (hK : 2000 ≤ K) : ∃ c, slices_BinarySearchFunc_S_impl_Turn.f K l x.f0 x.f1 x.f2 0 = some ((p : Int), c) :=
  Search_l0 hl x h l.length 0 l.length K (by omega) (by omega) h.1 (by omega) (by omega)
theorem Ins_eq {l : List S127} (hl : l.length ≤ 1000) (x : S127) {p : Nat} (hp : p ≤ l.length) : slices_Insert_S_impl_Turn.f l (p : Int) [x] = some (putT l x p) := by
  unfold slices_Insert_S_impl_Turn.f putT
  rw [if_pos ⟨⟨rfl, by omega⟩, by omega, by omega⟩, Int.toNat_natCast]
theorem rd_pair {y : List (List Int)} {i : Nat} (hi : i < y.length) : rd_L6 y (i : Int) = y[i] := by
  simp [rd_L6, List.getD_eq_getElem?_getD, List.getElem?_eq_getElem hi]
theorem Begins_l0 {l : List S127} (hl : l.length ≤ 1048576) (pl : ByteArray) (st : Int) : ∀ (d i K : Nat), i + d = l.length → d + 1 ≤ K → spec_l23Begins.l0 K l pl st (i : Int) = some ((l.drop i).any (impl_begins.p pl st)) := by
  intro d
  induction d with
  | zero =>
    intro i K hi hK
    obtain ⟨K, rfl⟩ : ∃ m, K = m + 1 := ⟨K - 1, by omega⟩
    obtain rfl : i = l.length := by omega
    simp only [spec_l23Begins.l0]; rw [if_neg (nlt_cast _), List.drop_length]; rfl
  | succ d ih =>
    intro i K hi hK
    obtain ⟨K, rfl⟩ : ∃ m, K = m + 1 := ⟨K - 1, by omega⟩
    have hlt : i < l.length := by omega
    rw [drop_cons hlt, List.any_cons]
    simp only [spec_l23Begins.l0]
    rw [if_pos (lt_cast hlt), if_pos (nn_cast i), rd_turn hlt, wrap_succ hlt (by omega), ih (i + 1) K (by omega) (by omega)]
    unfold impl_begins.p
    by_cases h1 : l[i].f0.toList = pl.toList
    · by_cases h2 : l[i].f1 = st
      · rw [if_pos h1, if_pos h2, decide_eq_true h1, decide_eq_true h2]; rfl
      · rw [if_pos h1, if_neg h2, decide_eq_false h2, Bool.and_false, Bool.false_or]
    · rw [if_neg h1, decide_eq_false h1, Bool.false_and, Bool.false_or]
theorem Begins_eq {l : List S127} (hl : l.length ≤ 1048576) (pl : ByteArray) (st : Int) {K : Nat} (hK : l.length + 1 ≤ K) : spec_l23Begins.f K l pl st = some (l.any (impl_begins.p pl st)) := by
  have := Begins_l0 hl pl st l.length 0 K (by omega) hK
  rw [List.drop_zero] at this
  exact this
theorem add_loop {l : List S127} (hl : l.length ≤ 24) {q : List S125} (hq : q.length ≤ 8) {n : Int} (hn : (decide (1 ≤ n) && decide (n ≤ 10000)) = true) {y : List (List Int)} (hy : y.length ≤ 192) (hp : ∀ e ∈ y, ∃ a b : Nat, e = [(a : Int), (b : Int)] ∧ a < q.length ∧ b < l.length) : ∀ (d i : Nat) (o : List S127), i + d = y.length → o.length ≤ 24 + i → srt o → (∀ t ∈ o, turnB t = true) → ∃ v c, v.length ≤ 1048576 ∧ ∀ K, d + 3000 ≤ K → spec_AddAnswers.l0 K l q n y o (i : Int) = some (v, c) ∧ impl_AddAnswers.l0 K l q n o y (y.length : Int) (i : Int) = some (v, c) := by
  intro d
  induction d with
  | zero =>
    intro i o hi ho _ _
    by_cases h : (o.length : Int) > 24
    · refine ⟨[], 5, by simp, fun K hK => ?_⟩
      obtain ⟨K, rfl⟩ : ∃ m, K = m + 1 := ⟨K - 1, by omega⟩
      simp only [spec_AddAnswers.l0, impl_AddAnswers.l0]
      rw [if_neg (by omega), if_pos h, if_neg (by omega)]; exact ⟨rfl, rfl⟩
    · refine ⟨o, 0, by omega, fun K hK => ?_⟩
      obtain ⟨K, rfl⟩ : ∃ m, K = m + 1 := ⟨K - 1, by omega⟩
      simp only [spec_AddAnswers.l0, impl_AddAnswers.l0]
      rw [if_neg (by omega), if_neg h, if_neg (by omega)]; exact ⟨rfl, rfl⟩
  | succ d ih =>
    intro i o hi ho hs hb
    have hlt : i < y.length := by omega
    obtain ⟨a, b, e, ha, hbl⟩ := hp y[i] (List.getElem_mem hlt)
    have hr : rd_L6 y (i : Int) = [(a : Int), (b : Int)] := by rw [rd_pair hlt, e]
    obtain ⟨x, hx⟩ : ∃ x : S127, x = ⟨q[a].f1, wrap64 ((wrap64 (l[b].f1 + l[b].f2)) + q[a].f2), n⟩ := ⟨_, rfl⟩
    have x0 : q[a].f1 = x.f0 := by rw [hx]
    have x1 : wrap64 ((wrap64 (l[b].f1 + l[b].f2)) + q[a].f2) = x.f1 := by rw [hx]
    have x2 : n = x.f2 := by rw [hx]
    have st : ∀ K, 3000 ≤ K → spec_AddAnswers.l0 (K + 1) l q n y o (i : Int) = (if turnB x = true then (if o.any (impl_begins.p x.f0 x.f1) = true then spec_AddAnswers.l0 K l q n y o ((i + 1 : Nat) : Int) else (spec_l23Put.f K o x.f0 x.f1 n).bind fun t => spec_AddAnswers.l0 K l q n y t ((i + 1 : Nat) : Int)) else some ([], 6)) := by
      intro K hK
      have hO : spec_l23One_e.f K [(⟨x.f0, x.f1, n⟩ : S127)] 0 = some (turnB x) := by rw [x2]; exact One_eq x (by omega)
      have hBs : spec_l23Begins.f K o x.f0 x.f1 = some (o.any (impl_begins.p x.f0 x.f1)) := Begins_eq (by omega) x.f0 x.f1 (by omega)
      simp only [spec_AddAnswers.l0]
      rw [hr]
      have e0 : rd [(a : Int), (b : Int)] 0 = (a : Int) := rfl
      have e1 : rd [(a : Int), (b : Int)] 1 = (b : Int) := rfl
      rw [e0, e1, if_pos (lt_cast hlt), if_pos (nn_cast i), if_pos (by simp), if_pos (nn_cast a), if_pos (lt_cast ha), if_pos (by simp), if_pos (nn_cast b), if_pos (lt_cast hbl), rd_ans ha, rd_turn hbl, wrap_succ hlt (by omega), x0, x1, hO]
      rw [Option.bind_some, hBs, Option.bind_some]
    have su : ∀ K, 3000 ≤ K → impl_AddAnswers.l0 (K + 1) l q n o y (y.length : Int) (i : Int) = (if o.any (impl_begins.p x.f0 x.f1) = true then impl_AddAnswers.l0 K l q n o y (y.length : Int) ((i + 1 : Nat) : Int) else (if turnB x = true then (slices_BinarySearchFunc_S_impl_Turn.f K o x.f0 x.f1 n 0).bind fun bt => (slices_Insert_S_impl_Turn.f o bt.1 [(⟨x.f0, x.f1, n⟩ : S127)]).bind fun t => impl_AddAnswers.l0 K l q n t y (y.length : Int) ((i + 1 : Nat) : Int) else some ([], 6))) := by
      intro K hK
      have hV : impl_Turn_valid.f K x.f0 x.f1 n = some (turnB x) := by rw [x2]; exact Turn_valid_eq x (by omega)
      have hBi : impl_begins.f o x.f0 x.f1 = some (o.any (impl_begins.p x.f0 x.f1)) := rfl
      simp only [impl_AddAnswers.l0]
      rw [hr]
      have e0 : rd [(a : Int), (b : Int)] 0 = (a : Int) := rfl
      have e1 : rd [(a : Int), (b : Int)] 1 = (b : Int) := rfl
      rw [e0, e1, if_pos (lt_cast hlt), if_pos (nn_cast i), if_pos (lt_cast hlt), if_pos (by simp), if_pos (nn_cast a), if_pos (lt_cast ha), if_pos (by simp), if_pos (nn_cast b), if_pos (lt_cast hbl), rd_ans ha, rd_turn hbl, end_eq3, wrap_succ hlt (by omega)]
      rw [Option.bind_some, x0, x1, hBi, Option.bind_some, hV, Option.bind_some]
    cases hany : o.any (impl_begins.p x.f0 x.f1)
    · rw [hany] at st su
      by_cases hT : turnB x = true
      · have hne : ∀ t ∈ o, ¬ (t.f0.toList = x.f0.toList ∧ t.f1 = x.f1) := fun t ht hh => by
          have := List.any_eq_false.1 hany t ht
          apply this
          unfold impl_begins.p
          rw [decide_eq_true hh.1, decide_eq_true hh.2]; rfl
        obtain ⟨p, hP⟩ := place hs hne
        obtain ⟨v, c, hv, k⟩ := ih (i + 1) (putT o x p) (by omega) (by rw [putT_len hP.1]; omega) (putT_srt hs hP) (fun t ht => by
          rcases putT_mem ht with rfl | ht
          · exact hT
          · exact hb t ht)
        refine ⟨v, c, hv, fun K hK => ?_⟩
        obtain ⟨K, rfl⟩ : ∃ m, K = m + 1 := ⟨K - 1, by omega⟩
        obtain ⟨cc, hS⟩ := Search_eq (l := o) (by omega) x hP (K := K) (by omega)
        have hI := Ins_eq (l := o) (by omega) x hP.1
        have hU := Put_eq (l := o) (by omega) x hP (K := K) (by omega)
        have hS' : slices_BinarySearchFunc_S_impl_Turn.f K o x.f0 x.f1 n 0 = some ((p : Int), cc) := by rw [x2]; exact hS
        have hU' : spec_l23Put.f K o x.f0 x.f1 n = some (putT o x p) := by rw [x2]; exact hU
        have hI' : slices_Insert_S_impl_Turn.f o (p : Int) [(⟨x.f0, x.f1, n⟩ : S127)] = some (putT o x p) := by rw [x2]; exact hI
        rw [st K (by omega), su K (by omega), if_pos hT, if_neg (c := false = true) (by decide), if_neg (c := false = true) (by decide), if_pos hT, hS', hU', Option.bind_some, Option.bind_some, hI', Option.bind_some]
        exact k K (by omega)
      · refine ⟨[], 6, by simp, fun K hK => ?_⟩
        obtain ⟨K, rfl⟩ : ∃ m, K = m + 1 := ⟨K - 1, by omega⟩
        rw [st K (by omega), su K (by omega), if_neg hT, if_neg (c := false = true) (by decide), if_neg hT]; exact ⟨rfl, rfl⟩
    · rw [hany] at st su
      obtain ⟨t, ht, hpt⟩ := List.any_eq_true.1 hany
      have hT : turnB x = true := by
        unfold impl_begins.p at hpt
        rw [Bool.and_eq_true, decide_eq_true_iff, decide_eq_true_iff] at hpt
        have h1 := hb t ht
        unfold turnB at h1 ⊢
        rw [Bool.and_eq_true, Bool.and_eq_true] at h1
        have h0 : t.f0 = x.f0 := by
          have := hpt.1
          rw [ByteArray.toList_eq, ByteArray.toList_eq] at this
          exact ByteArray.ext (Array.toList_inj.1 this)
        rw [← h0, ← hpt.2, h1.1.1, h1.1.2, ← x2, hn]; rfl
      obtain ⟨v, c, hv, k⟩ := ih (i + 1) o (by omega) (by omega) hs hb
      refine ⟨v, c, hv, fun K hK => ?_⟩
      obtain ⟨K, rfl⟩ : ∃ m, K = m + 1 := ⟨K - 1, by omega⟩
      rw [st K (by omega), su K (by omega), if_pos hT, if_pos (c := true = true) rfl, if_pos (c := true = true) rfl]
      exact k K (by omega)
theorem core_AddAnswers {l : List S127} (hl : l.length ≤ 1048576) {q : List S125} (hq : q.length ≤ 1048576) (n : Int) : ∃ (v : List S127) (c : Int), (v.length ≤ 1048576 ∧ ∀ y ∈ v, smiTurn y) ∧ Ev (fun k => spec_AddAnswers.f k l q n) (v, c) ∧ Ev (fun k => impl_AddAnswers.f k l q n) (v, c) := by
  unfold spec_AddAnswers.f impl_AddAnswers.f
  by_cases h : turnsB l = true
  rotate_left
  · refine ⟨[], 1, ⟨by simp, by simp⟩, Ev.bind (Ok_turns_ev3 hl) (Ev.neg h ?_), Ev.bind (Valid_turns_ev3 l) (Ev.neg h ?_)⟩
    · exact Ev.step (f := fun _ => some (([] : List (S127)), (1 : Int))) (fun k => by simp only [spec_AddAnswers.j0, if_true]) (Ev.now _)
    · exact Ev.step (f := fun _ => some (([] : List (S127)), (1 : Int))) (fun k => by simp only [impl_AddAnswers.j0, if_true]) (Ev.now _)
  by_cases h2 : answersB q = true
  rotate_left
  · rw [Bool.not_eq_true] at h2
    have e1 := l23Answers_ev hq
    have e2 := answersOk_ev q
    rw [h2] at e1 e2
    refine ⟨[], 1, ⟨by simp, by simp⟩, Ev.bind (Ok_turns_ev3 hl) (Ev.pos h (Ev.bind e1 ?_)), Ev.bind (Valid_turns_ev3 l) (Ev.pos h (Ev.bind e2 ?_))⟩
    · exact Ev.step (f := fun _ => some (([] : List (S127)), (1 : Int))) (fun k => by simp only [spec_AddAnswers.j0, Bool.not_false, if_true]) (Ev.now _)
    · exact Ev.step (f := fun _ => some (([] : List (S127)), (1 : Int))) (fun k => by simp only [impl_AddAnswers.j0, Bool.not_false, if_true]) (Ev.now _)
  have hlen := turns_len h
  obtain ⟨y, y1, y2, y3, y4⟩ := missed_ev hlen (answers_len h2)
  obtain ⟨hs, hb⟩ := srt_of h
  have e1 := l23Answers_ev hq
  have e2 := answersOk_ev q
  rw [h2] at e1 e2
  have i1 : spec_l00In.f n 1 10000 = some (decide (1 ≤ n) && decide (n ≤ 10000)) := in_eq _ _ _
  have i2 : impl_within.f n 1 10000 = some (decide (1 ≤ n) && decide (n ≤ 10000)) := within_eq _ _ _
  by_cases hn : (decide (1 ≤ n) && decide (n ≤ 10000)) = true
  · obtain ⟨v, c, hv, k⟩ := add_loop hlen (answers_len h2) hn y1 y2 y.length 0 l (by omega) (by omega) hs hb
    have k1 : Ev (fun k => spec_AddAnswers.l0 k l q n y l 0) (v, c) := Ev.le _ fun K hK => (k K hK).1
    have k2 : Ev (fun k => impl_AddAnswers.l0 k l q n l y (y.length : Int) 0) (v, c) := Ev.le _ fun K hK => (k K hK).2
    rw [hn] at i1 i2
    have hc : slices_Clone_S_impl_Turn.f l = some l := by
      unfold slices_Clone_S_impl_Turn.f
      first | rfl | (rw [if_pos (by omega)])
    refine ⟨v, c, ⟨hv, fun _ _ => trivial⟩, Ev.bind (Ok_turns_ev3 hl) (Ev.pos h (Ev.bind e1 ?_)), Ev.bind (Valid_turns_ev3 l) (Ev.pos h (Ev.bind e2 ?_))⟩
    · refine Ev.step (f := fun k => (spec_l23Missed.f k l q).bind fun t => spec_AddAnswers.l0 k l q n t l 0) (fun k => ?_) (Ev.bind y3 k1)
      simp only [spec_AddAnswers.j0]
      rw [if_neg (c := (!true) = true) (by decide), i1, Option.bind_some, if_pos (c := true = true) rfl]
      simp only [Option.bind_some, List.nil_append, List.length_nil, Nat.zero_add]
      simp only [if_pos (show l.length < 4398046511104 by omega)]
    · refine Ev.step (f := fun k => (impl_missed.f k l q).bind fun t => impl_AddAnswers.l0 k l q n l t (t.length : Int) 0) (fun k => ?_) (Ev.bind y4 k2)
      simp only [impl_AddAnswers.j0]
      rw [if_neg (c := (!true) = true) (by decide), i2, Option.bind_some, if_pos (c := true = true) rfl, hc, Option.bind_some]
  · rw [Bool.not_eq_true] at hn
    rw [hn] at i1 i2
    refine ⟨[], 2, ⟨by simp, by simp⟩, Ev.bind (Ok_turns_ev3 hl) (Ev.pos h (Ev.bind e1 ?_)), Ev.bind (Valid_turns_ev3 l) (Ev.pos h (Ev.bind e2 ?_))⟩
    · refine Ev.step (f := fun _ => some (([] : List (S127)), (2 : Int))) (fun k => ?_) (Ev.now _)
      simp only [spec_AddAnswers.j0]
      rw [if_neg (c := (!true) = true) (by decide), i1, Option.bind_some, if_neg (c := false = true) (by decide)]
    · refine Ev.step (f := fun _ => some (([] : List (S127)), (2 : Int))) (fun k => ?_) (Ev.now _)
      simp only [impl_AddAnswers.j0]
      rw [if_neg (c := (!true) = true) (by decide), i2, Option.bind_some, if_neg (c := false = true) (by decide)]

theorem markTurnS_all {l : List S127} (hl : l.length ≤ 1048576) (_ : ∀ y ∈ l, smiTurn y) {m : Int} (h0 : 0 ≤ m) (h1 : m ≤ 536870912) : ∃ (m' : Int) (l' : List S127), m ≤ m' ∧ m' ≤ m + 8388608 ∧ Ev (fun k => laws_markTurnS.f k l m) (m', l') ∧ Ev (fun k => laws_heldTurnS.f k l' m) m' :=
  ⟨m + 3 * l.length, mkTurnS l m, by omega, by omega, Ev.le 10000000 (fun k hk => markTurnS_eq h0 (by omega) (by omega)), Ev.le 10000000 (fun k hk => heldTurnS_mk h0 (by omega) (by omega))⟩

theorem markAnswerS_all {l : List S125} (hl : l.length ≤ 1048576) (_ : ∀ y ∈ l, smiAnswer y) {m : Int} (h0 : 0 ≤ m) (h1 : m ≤ 536870912) : ∃ (m' : Int) (l' : List S125), m ≤ m' ∧ m' ≤ m + 8388608 ∧ Ev (fun k => laws_markAnswerS.f k l m) (m', l') ∧ True :=
  ⟨m + 3 * l.length, mkAnswerS l m, by omega, by omega, ⟨10000000, fun k hk => markAnswerS_eq h0 (by omega) (by omega)⟩, trivial⟩
end Go.Proofs.Ytocegmkifmdlcaa.P

namespace Go.Proofs.Ytocegmkifmdlcaa.Pure
open Go.RowKit Go.Proofs.YtocegmkifmdlcaaW.PrintWords Go.Proofs.YtocegmkifmdlcaaL Go.Proofs.Ytocegmkifmdlcaa.P
set_option linter.unusedVariables false
set_option linter.unusedSimpArgs false
theorem FnExactAddAnswers : ∀ (x0 : List P.S116) (x1 : List P.S119) (x2 : Int), (x0.length ≤ maxLen ∧ ∀ y ∈ x0, g116 y) → (x1.length ≤ maxLen ∧ ∀ y ∈ x1, g119 y) → (Lit.int .i64 x2).wf = true → ∃ k : Nat, P.laws_FnExactAddAnswers.f k x0 x1 x2 = some true := by
  intro x0 x1 x2 ⟨hl0, hg0⟩ ⟨hl1, hg1⟩ _
  refine Ev.rounds (g := fun k => P.laws_FnExactAddAnswers.f k x0 x1 x2) ?_
  unfold laws_FnExactAddAnswers.f
  obtain ⟨r0, hr0, h0⟩ := szTurnS_some hl0 hg0 (a := 1048576) (by omega) (by omega) (k := 10000000) (by omega)
  refine Ev.bind (a := r0) (Ev.of (g := fun k => laws_szTurnS.f k x0 1048576) (fun k => laws_szTurnS.mono _ _ k) hr0) ?_
  try dsimp only
  by_cases g0 : r0 < 0
  · exact Ev.pos g0 (Ev.now _)
  refine Ev.neg g0 ?_
  obtain ⟨p0, q0, z0, s0⟩ := h0.resolve_left g0
  obtain ⟨r1, hr1, h1⟩ := szAnswerS_some hl1 hg1 (a := r0) (by omega) (by omega) (k := 10000000) (by omega)
  refine Ev.bind (a := r1) (Ev.of (g := fun k => laws_szAnswerS.f k x1 r0) (fun k => laws_szAnswerS.mono _ _ k) hr1) ?_
  try dsimp only
  by_cases g1 : r1 < 0
  · exact Ev.pos g1 (Ev.now _)
  refine Ev.neg g1 ?_
  obtain ⟨p1, q1, z1, s1⟩ := h1.resolve_left g1
  unfold laws_FnExactAddAnswers.g
  have hx0 : (x0.map cTurn).length ≤ 1048576 := by simpa using z0
  have hs0 : ∀ y ∈ x0.map cTurn, smiTurn y := fun y hy => by obtain ⟨x, hx, rfl⟩ := List.mem_map.1 hy; exact smi_cTurn (s0 x hx)
  have hT0 : Ev (fun k => laws_toTurnS.f k x0) (x0.map cTurn) := Ev.le 10000000 (fun k hk => toTurnS_eq z0 s0 (by omega))
  have hE0 : Ev (fun k => laws_eqTurnS.f k (x0.map cTurn) (x0.map cTurn)) true := Ev.le 10000000 (fun k hk => by rw [eqTurnS_eq hx0 hs0 (by omega)]; simp)
  have hx1 : (x1.map cAnswer).length ≤ 1048576 := by simpa using z1
  have hs1 : ∀ y ∈ x1.map cAnswer, smiAnswer y := fun y hy => by obtain ⟨x, hx, rfl⟩ := List.mem_map.1 hy; exact smi_cAnswer (s1 x hx)
  have hT1 : Ev (fun k => laws_toAnswerS.f k x1) (x1.map cAnswer) := Ev.le 10000000 (fun k hk => toAnswerS_eq z1 s1 (by omega))
  have hE1 : Ev (fun k => laws_eqAnswerS.f k (x1.map cAnswer) (x1.map cAnswer)) true := Ev.le 10000000 (fun k hk => by rw [eqAnswerS_eq hx1 hs1 (by omega)]; simp)
  generalize x0.map cTurn = l0 at hx0 hT0 hE0 hs0 ⊢
  generalize x1.map cAnswer = l1 at hx1 hT1 hE1 hs1 ⊢
  refine Ev.bind hT0 ?_
  try dsimp only
  refine Ev.bind hT1 ?_
  try dsimp only
  obtain ⟨v, c, hv, hS, hI⟩ := core_AddAnswers hx0 hx1 x2
  have hV : Ev (fun k => laws_eqTurnS.f k v v) true := Ev.le 10000000 (fun k hk => by rw [eqTurnS_eq hv.1 hv.2 (by omega)]; simp)
  refine Ev.bind hS ?_
  try dsimp only
  refine Ev.bind hT0 ?_
  try dsimp only
  refine Ev.bind hT1 ?_
  try dsimp only
  refine Ev.bind hI ?_
  try dsimp only
  refine Ev.yes hV ?_
  refine Ev.pos rfl ?_
  refine Ev.bind hT0 ?_
  try dsimp only
  refine Ev.yes hE0 ?_
  refine Ev.bind hT1 ?_
  try dsimp only
  refine Ev.yes hE1 ?_
  obtain ⟨m0, y0, mb0, mc0, hM0, hH0⟩ := markTurnS_all hx0 hs0 (m := 1) (by omega) (by omega)
  refine Ev.bind hM0 ?_
  try dsimp only
  obtain ⟨m1, y1, mb1, mc1, hM1, hH1⟩ := markAnswerS_all hx1 hs1 (m := m0) (by omega) (by omega)
  refine Ev.bind hM1 ?_
  try dsimp only
  refine Ev.neg (by omega) ?_
  refine Ev.yes hV ?_
  refine Ev.pos rfl ?_
  obtain ⟨m2, y2, mb2, mc2, hM2, hH2⟩ := markTurnS_all hv.1 hv.2 (m := 1) (by omega) (by omega)
  refine Ev.bind hM2 ?_
  try dsimp only
  refine Ev.bind hH2 ?_
  try dsimp only
  refine Ev.neg (by omega) ?_
  refine Ev.pos rfl ?_
  refine Ev.bind hT0 ?_
  try dsimp only
  refine Ev.bind hT1 ?_
  try dsimp only
  refine Ev.bind hI ?_
  try dsimp only
  refine Ev.yes hV ?_
  refine Ev.pos rfl ?_
  refine Ev.bind hH2 ?_
  try dsimp only
  refine Ev.neg (by omega) ?_
  refine Ev.pos rfl ?_
  exact Ev.now _
end Go.Proofs.Ytocegmkifmdlcaa.Pure
