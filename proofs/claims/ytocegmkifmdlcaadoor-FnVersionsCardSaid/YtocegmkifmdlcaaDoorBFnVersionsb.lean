/- Part b of what FnVersions stands on: functions of the program as Lean functions with their walks, and plain lemmas. -/
import Derived.Test.YtocegmkifmdlcaaDoorBFnVersionsa
import Derived.Test.YtocegmkifmdlcaaDoorK
import Derived.Test.YtocegmkifmdlcaaDoorWWords
import Derived.Lib.Hide
import Derived.Lib.SliceRun
import Derived.Laws.CopyRow
import Derived.Laws.OwnMore
import Derived.Maps.AppendAt
import Derived.Lib.AppendZerosOnto
import Derived.Lib.Overlaps
import Derived.Deep.RegionHeld3
import Derived.Laws.IdiomStrings
namespace Go.Proofs.YtocegmkifmdlcaaDoor.P
open Go.RowKit Go.Proofs.YtocegmkifmdlcaaDoorW.PrintWords Go.Proofs.YtocegmkifmdlcaaDoorW.PrintLast Go.Proofs.YtocegmkifmdlcaaDoorW.PrintMore
attribute [local go_sem] max2_int min2_int max_two min_two max_three min_three max_four min_four str_leq str_gtr str_geq
set_option linter.unusedVariables false
set_option linter.unusedSimpArgs false
def impl_valueAt.l0:Nat→ByteArray→List (S57)→Int→Int→Option (Int × Bool)
 | 0,_,_,_,_=>none
 | k+1,x1,x8,x9,x10=>if x10<x9 then (if 0≤x10 then (if x10<(x8.length:Int) then (if ((rd_T57 x8 x10).f0).toList=x1.toList then (some ((rd_T57 x8 x10).f1,true)) else (impl_valueAt.l0 k x1 x8 x9 (wrap64 (x10+1)))) else (none)) else (none)) else (some (0,false))
def impl_valueAt.f (k:Nat) (l0:List (S57)) (a1:ByteArray):Option (Int × Bool):=impl_valueAt.l0 k a1 l0 (l0.length:Int) 0
set_option maxHeartbeats 8000000 in
set_option maxRecDepth 100000 in
theorem impl_valueAt.calls (k:Nat) (A0:Option Addr) (c0:Nat) (l0:List (S57)) (a1:ByteArray) (r1:Int) (r2:Bool) (w:World) (hr0:Kd.C k57 w A0 l0.length l0) (hc0:l0.length≤c0) (h:impl_valueAt.f k l0 a1=some (r1,r2)) :
 Calls Tryd.prog 25 #[.slice A0 l0.length c0,.string a1] w fun e w'=>e = .returned (.tuple #[.int .i64 r1,.bool r2])∧Below w.heap.size w w':=by
 have hu57:=Tryd.underlying57
 have HR0:=Aside0.mk hr0
 have HC0:=Aside0.mk hc0
 clear hr0 hc0
 have HB:=Aside0.mk (Below.refl w.heap.size w)
 have H:(impl_valueAt.l0 k a1 l0 (l0.length:Int) 0)=some (r1,r2):=h
 clear h
 have H':=Aside0.mk H
 clear H
 go_enter Tryd.func25,Tryd.ntmps25
 go_wp2
 go_loopg [10] k (fun kq v10 w'=>∃(x10_1:Int),v10 = .int .i64 x10_1∧Aside0 (impl_valueAt.l0 kq a1 l0 (l0.length:Int) x10_1=some (r1,r2))∧Aside0 (kq≤k)∧Aside0 (Below w.heap.size w w'))
 case atStart=>exact ⟨(0),zi,H',⟨Nat.le_refl _⟩,⟨za⟩⟩
 case round=>
  clear H'
  try clear c2
  try clear p2
  obtain ⟨x10_1,rfl,HA,HK1,HB⟩:=hrel
  cases gk with
  | zero=>exact absurd HA.out (by simp [impl_valueAt.l0])
  | succ k1=>
   have H:=HA.out
   clear HA
   simp only [impl_valueAt.l0] at H
   by_cases c3:x10_1<(l0.length:Int)
   ·rw [if_pos c3] at H
    have c3b0:decide (x10_1<(l0.length:Int))=true:=decide_eq_true c3
    clear c3
    by_cases c4:0≤x10_1
    ·rw [if_pos c4] at H
     have c4b0:decide (0≤x10_1)=true:=decide_eq_true c4
     clear c4
     by_cases c5:x10_1<(l0.length:Int)
     ·rw [if_pos c5] at H
      have c5b0:decide (x10_1<(l0.length:Int))=true:=decide_eq_true c5
      clear c5
      by_cases c6:((rd_T57 l0 x10_1).f0).toList=a1.toList
      ·rw [if_pos c6] at H
       have c6b0:(((rd_T57 l0 x10_1).f0).toList == a1.toList)=true:=beq_iff_eq.mpr c6
       have c6b1:(((rd_T57 l0 x10_1).f0).toList != a1.toList)=false:=bne_eq_false_iff_eq.mpr c6
       clear c6
       simp only [Option.some.injEq,Prod.mk.injEq] at H
       obtain ⟨rfl,rfl⟩:=H
       have p101:0≤(x10_1:Int):=of_decide_eq_true zb
       have q101:x10_1<(l0.length:Int):=of_decide_eq_true zb
       obtain ⟨ad101,e101,hx101_0,hx101_1⟩:=at_T57 HR0.out x10_1 p101 q101
       cases e101
       replace hx101_0:=(HB.out.cell (World.block_lt_of_cell? w _ hx101_0)).trans hx101_0
       replace hx101_1:=(HB.out.cell (World.block_lt_of_cell? w _ hx101_1)).trans hx101_1
       replace p101:=eq_true p101
       replace q101:=eq_true q101
       go_wp2_with (first|((with_reducible refine gate_dst (N:=7) rfl ?_);refine box_event ?hg (N:=7) ?hd (cs:=#[.string (⟨#[]⟩:ByteArray),.int .i64 0]) (t:=57) ?hr ?_;(case hd=>rfl);(case hg=>rfl);(case hr=>exact zv);intro gb102 hg w7 hbox hb;have n0_:=Aside0.mk (below_step za hb);have n1_:=Aside0.mk (hbox);have n2_:=Aside0.mk ((by rw [hg];exact (below_size za):w.heap.size≤gb102));have n3_:=Aside0.mk ((by rw [hg];exact (below_size za):w.heap.size≤gb102));clear HB;have HB:=n0_;have BK102:=n1_;have GW102:=n2_;have GE102:=n3_;clear n0_ n1_ n2_ n3_;clear hb hbox hg;have hcz8_0:w7.cell? ⟨gb102,0,none⟩=some (.string (⟨#[]⟩:ByteArray)):=(blk_cell BK102.out 0).trans rfl;have hcz8_1:w7.cell? ⟨gb102,1,none⟩=some (.int .i64 0):=(blk_cell BK102.out 1).trans rfl;have hfz8_0:=blk_frozen BK102.out 0;have hfz8_1:=blk_frozen BK102.out 1))
       go_ret2
       exact ⟨zj,zk⟩
      ·rw [if_neg c6] at H
       have c6b0:(((rd_T57 l0 x10_1).f0).toList == a1.toList)=false:=beq_eq_false_iff_ne.mpr c6
       have c6b1:(((rd_T57 l0 x10_1).f0).toList != a1.toList)=true:=bne_iff_ne.mpr c6
       have H':=Aside0.mk H
       clear H
       have p101:0≤(x10_1:Int):=of_decide_eq_true zb
       have q101:x10_1<(l0.length:Int):=of_decide_eq_true zb
       obtain ⟨ad101,e101,hx101_0,hx101_1⟩:=at_T57 HR0.out x10_1 p101 q101
       cases e101
       replace hx101_0:=(HB.out.cell (World.block_lt_of_cell? w _ hx101_0)).trans hx101_0
       replace hx101_1:=(HB.out.cell (World.block_lt_of_cell? w _ hx101_1)).trans hx101_1
       replace p101:=eq_true p101
       replace q101:=eq_true q101
       go_wp2_with (first|((with_reducible refine gate_dst (N:=7) rfl ?_);refine box_event ?hg (N:=7) ?hd (cs:=#[.string (⟨#[]⟩:ByteArray),.int .i64 0]) (t:=57) ?hr ?_;(case hd=>rfl);(case hg=>rfl);(case hr=>exact zv);intro gb102 hg w9 hbox hb;have n0_:=Aside0.mk (below_step za hb);have n1_:=Aside0.mk (hbox);have n2_:=Aside0.mk ((by rw [hg];exact (below_size za):w.heap.size≤gb102));have n3_:=Aside0.mk ((by rw [hg];exact (below_size za):w.heap.size≤gb102));clear HB;have HB:=n0_;have BK102:=n1_;have GW102:=n2_;have GE102:=n3_;clear n0_ n1_ n2_ n3_;clear hb hbox hg;have hcz10_0:w9.cell? ⟨gb102,0,none⟩=some (.string (⟨#[]⟩:ByteArray)):=(blk_cell BK102.out 0).trans rfl;have hcz10_1:w9.cell? ⟨gb102,1,none⟩=some (.int .i64 0):=(blk_cell BK102.out 1).trans rfl;have hfz10_0:=blk_frozen BK102.out 0;have hfz10_1:=blk_frozen BK102.out 1))
       go_roundg k1
       case measure=>have:=HK1.out;omega
       case rel=>exact ⟨(wrap64 (x10_1+1)),zi,H',⟨zci⟩,⟨zk⟩⟩
     ·rw [if_neg c5] at H
      exact absurd H zca
    ·rw [if_neg c4] at H
     exact absurd H zca
   ·rw [if_neg c3] at H
    have c3b0:decide (x10_1<(l0.length:Int))=false:=decide_eq_false c3
    clear c3
    simp only [Option.some.injEq,Prod.mk.injEq] at H
    obtain ⟨rfl,rfl⟩:=H
    go_wp2
    go_ret2
    exact ⟨zj,za⟩

mutual
def impl_DiffStates.j0:Nat→List (S57)→List (S57)→Bool→Option ((List (S61)) × Int)
 | 0,_,_,_=>none
 | k+1,x0,x1,x22=>if x22=true then (some (([]:List (S61)),1)) else (impl_DiffStates.l0 k x0 x1 ([]:List (S61)) x0 (x0.length:Int) 0)
def impl_DiffStates.l0:Nat→List (S57)→List (S57)→List (S61)→List (S57)→Int→Int→Option ((List (S61)) × Int)
 | 0,_,_,_,_,_,_=>none
 | k+1,x0,x1,x6,x23,x24,x25=>if x25<x24 then (if 0≤x25 then (if x25<(x23.length:Int) then ((impl_valueAt.f k x1 ((rd_T57 x23 x25).f0)).bind fun bt105=>(if bt105.2=true then (impl_DiffStates.l0 k x0 x1 x6 x23 x24 (wrap64 (x25+1))) else (if x6.length<4398046511104 then (impl_DiffStates.l0 k x0 x1 (x6++[(⟨2,(⟨(rd_T57 x23 x25).f0,(rd_T57 x23 x25).f1⟩:S57)⟩:S61)]) x23 x24 (wrap64 (x25+1))) else (none)))) else (none)) else (none)) else (impl_DiffStates.l1 k x0 x6 x1 (x1.length:Int) 0)
def impl_DiffStates.l1:Nat→List (S57)→List (S61)→List (S57)→Int→Int→Option ((List (S61)) × Int)
 | 0,_,_,_,_,_=>none
 | k+1,x0,x6,x44,x45,x46=>if x46<x45 then (if 0≤x46 then (if x46<(x44.length:Int) then ((impl_valueAt.f k x0 ((rd_T57 x44 x46).f0)).bind fun bt112=>(if bt112.2=true then (if bt112.1=((rd_T57 x44 x46).f1) then (impl_DiffStates.l1 k x0 x6 x44 x45 (wrap64 (x46+1))) else (if x6.length<4398046511104 then (impl_DiffStates.l1 k x0 (x6++[(⟨1,(⟨(rd_T57 x44 x46).f0,(rd_T57 x44 x46).f1⟩:S57)⟩:S61)]) x44 x45 (wrap64 (x46+1))) else (none))) else (if x6.length<4398046511104 then (impl_DiffStates.l1 k x0 (x6++[(⟨1,(⟨(rd_T57 x44 x46).f0,(rd_T57 x44 x46).f1⟩:S57)⟩:S61)]) x44 x45 (wrap64 (x46+1))) else (none)))) else (none)) else (none)) else (some (x6,0))
end
def impl_DiffStates.f (k:Nat) (l0:List (S57)) (l1:List (S57)):Option ((List (S61)) × Int):=(impl_ValidState.f k l0).bind fun t101=>(if t101=true then ((impl_ValidState.f k l1).bind fun t102=>(impl_DiffStates.j0 k l0 l1 (!t102))) else (impl_DiffStates.j0 k l0 l1 true))
set_option maxHeartbeats 8000000 in
set_option maxRecDepth 100000 in
theorem impl_DiffStates.calls (k:Nat) (A0:Option Addr) (c0:Nat) (l0:List (S57)) (A1:Option Addr) (c1:Nat) (l1:List (S57)) (r1:List (S61)) (r2:Int) (w:World) (hr0:Kd.C k57 w A0 l0.length l0) (hc0:l0.length≤c0) (hr1:Kd.C k57 w A1 l1.length l1) (hc1:l1.length≤c1) (h:impl_DiffStates.f k l0 l1=some (r1,r2)) :
 Calls Tryd.prog 8 #[.slice A0 l0.length c0,.slice A1 l1.length c1] w fun e w'=>∃v0_:Value,e = .returned (.tuple #[v0_,.int .i64 r2])∧Kd.R k61 61 w' w.heap.size (fun _=>True) v0_ r1∧Below w.heap.size w w':=by
 have hu57:=Tryd.underlying57
 have hu61:=Tryd.underlying61
 have HR0:=Aside0.mk hr0
 have HC0:=Aside0.mk hc0
 clear hr0 hc0
 have HR1:=Aside0.mk hr1
 have HC1:=Aside0.mk hc1
 clear hr1 hc1
 have HB:=Aside0.mk (Below.refl w.heap.size w)
 have H:((impl_ValidState.f k l0).bind fun t101=>(if t101=true then ((impl_ValidState.f k l1).bind fun t102=>(impl_DiffStates.j0 k l0 l1 (!t102))) else (impl_DiffStates.j0 k l0 l1 true)))=some (r1,r2):=h
 clear h
 have HC3:=Aside0.mk H
 clear H
 go_enter Tryd.func8,Tryd.ntmps8
 go_upto_region 1 with (fail)
 go_cut [22] (fun v22 wc=>∃(kq:Nat) (x22_2:Bool),v22 = .bool x22_2∧Aside0 (impl_DiffStates.j0 kq l0 l1 x22_2=some (r1,r2))∧Aside0 (kq≤k)∧Aside0 (Below w.heap.size w wc))
 case first=>
  have H:=HC3.out
  clear HC3
  replace H:=Option.bind_eq_some_iff.mp H
  obtain ⟨t101,A40,H⟩:=H
  replace H:(if t101=true then ((impl_ValidState.f k l1).bind fun t102=>(impl_DiffStates.j0 k l0 l1 (!t102))) else (impl_DiffStates.j0 k l0 l1 true))=some (r1,r2):=H
  have A4:=Aside0.mk A40
  clear A40
  by_cases c5:t101=true
  ·subst c5
   have H1:((impl_ValidState.f k l1).bind fun t102=>(impl_DiffStates.j0 k l0 l1 (!t102)))=some (r1,r2):=by rw [if_pos rfl] at H;exact H
   clear H
   have H:=H1
   clear H1
   replace H:=Option.bind_eq_some_iff.mp H
   obtain ⟨t102,A60,H⟩:=H
   replace H:(impl_DiffStates.j0 k l0 l1 (!t102))=some (r1,r2):=H
   have A6:=Aside0.mk A60
   clear A60
   have H':=Aside0.mk H
   clear H
   go_wp2_with (first|((with_reducible refine gate_callee (f:=24) rfl ?_);refine goesL_ (some 16) rfl rfl Tryd.func24 zaq rfl #[.slice A0 l0.length c0] rfl zd ?_;(with_reducible refine (impl_ValidState.calls k _ _ l0 true _ ?side1 ?side2 A4.out).mono ?_);(case side1=>exact zm);(case side2=>exact HC0.out);rintro e w7 ⟨rfl,hb⟩;refine ⟨_,rfl,?_⟩;replace HB:=Aside0.mk (below_step za hb);(try clear hb);(try clear hb2);(try clear hk);(try clear hi))|(go_at_call 24;(with_reducible refine (impl_ValidState.calls k _ _ l1 t102 _ ?side1 ?side2 A6.out).mono ?_);(case side1=>exact zab);(case side2=>exact HC1.out);rintro e w8 ⟨rfl,hb⟩;replace HB:=Aside0.mk (below_step za hb);(try clear hb);(try clear hb2);(try clear hk);(try clear hi)))
   go_meet
   case rel=>exact ⟨_,(!t102),zi,H',⟨zcj⟩,⟨za⟩⟩
  ·replace c5:=Bool.eq_false_iff.mpr c5
   subst c5
   have H1:(impl_DiffStates.j0 k l0 l1 true)=some (r1,r2):=by rw [if_neg (show ¬ (false=true) by decide)] at H;exact H
   clear H
   have H:=H1
   clear H1
   have H':=Aside0.mk H
   clear H
   go_wp2_with (first|((with_reducible refine gate_callee (f:=24) rfl ?_);refine goesL_ (some 16) rfl rfl Tryd.func24 zaq rfl #[.slice A0 l0.length c0] rfl zd ?_;(with_reducible refine (impl_ValidState.calls k _ _ l0 false _ ?side1 ?side2 A4.out).mono ?_);(case side1=>exact zm);(case side2=>exact HC0.out);rintro e w9 ⟨rfl,hb⟩;refine ⟨_,rfl,?_⟩;replace HB:=Aside0.mk (below_step za hb);(try clear hb);(try clear hb2);(try clear hk);(try clear hi)))
   go_meet
   case rel=>exact ⟨_,(true),zi,H',⟨zcj⟩,⟨za⟩⟩
 case rest=>
  clear HC3
  try clear c1
  try clear c2
  try clear p2
  try clear c5
  try clear c8
  obtain ⟨kq,x22_2,rfl,HA,HJ2,HB⟩:=hcut
  cases kq with
  | zero=>exact absurd HA.out (by simp [impl_DiffStates.j0])
  | succ kj2=>
   have H:=HA.out
   clear HA
   simp only [impl_DiffStates.j0] at H
   by_cases c10:x22_2=true
   ·subst c10
    have H1:(some (([]:List (S61)),1))=some (r1,r2):=by rw [if_pos rfl] at H;exact H
    clear H
    have H:=H1
    clear H1
    simp only [Option.some.injEq,Prod.mk.injEq] at H
    obtain ⟨rfl,rfl⟩:=H
    go_wp2
    go_ret2
    exact ⟨_,zj,zba,za⟩
   ·replace c10:=Bool.eq_false_iff.mpr c10
    subst c10
    have H1:(impl_DiffStates.l0 kj2 l0 l1 ([]:List (S61)) l0 (l0.length:Int) 0)=some (r1,r2):=by rw [if_neg (show ¬ (false=true) by decide)] at H;exact H
    clear H
    have H:=H1
    clear H1
    have H':=Aside0.mk H
    clear H
    go_wp2
    go_loopg [6,25] kj2 (fun kq v6 v25 w'=>∃(x6_2:List (S61)) (x25_2:Int),v25 = .int .i64 x25_2∧Aside0 (impl_DiffStates.l0 kq l0 l1 x6_2 l0 (l0.length:Int) x25_2=some (r1,r2))∧Aside0 (kq≤kj2)∧Aside0 (Kd.R k61 61 w' w.heap.size (fun _=>True) v6 x6_2)∧Aside0 (Below w.heap.size w w'))
    case atStart=>exact ⟨(([]:List (S61))),(0),zi,H',⟨Nat.le_refl _⟩,⟨zba⟩,⟨za⟩⟩
    case round=>
     clear H'
     try clear c1
     try clear c2
     try clear p2
     try clear c5
     try clear c8
     try clear c10
     try clear p2
     obtain ⟨x6_2,x25_2,rfl,HA,HK2,HO_6,HB⟩:=hrel
     cases gk with
     | zero=>exact absurd HA.out (by simp [impl_DiffStates.l0])
     | succ k2=>
      have H:=HA.out
      clear HA
      simp only [impl_DiffStates.l0] at H
      by_cases c11:x25_2<(l0.length:Int)
      ·rw [if_pos c11] at H
       have c11b0:decide (x25_2<(l0.length:Int))=true:=decide_eq_true c11
       clear c11
       by_cases c12:0≤x25_2
       ·rw [if_pos c12] at H
        have c12b0:decide (0≤x25_2)=true:=decide_eq_true c12
        clear c12
        by_cases c13:x25_2<(l0.length:Int)
        ·rw [if_pos c13] at H
         have c13b0:decide (x25_2<(l0.length:Int))=true:=decide_eq_true c13
         clear c13
         replace H:=Option.bind_eq_some_iff.mp H
         obtain ⟨⟨t105,t106⟩,A140,H⟩:=H
         replace H:(if t106=true then (impl_DiffStates.l0 k2 l0 l1 x6_2 l0 (l0.length:Int) (wrap64 (x25_2+1))) else (if x6_2.length<4398046511104 then (impl_DiffStates.l0 k2 l0 l1 (x6_2++[(⟨2,(⟨(rd_T57 l0 x25_2).f0,(rd_T57 l0 x25_2).f1⟩:S57)⟩:S61)]) l0 (l0.length:Int) (wrap64 (x25_2+1))) else (none)))=some (r1,r2):=H
         have A14:=Aside0.mk A140
         clear A140
         by_cases c15:t106=true
         ·subst c15
          have H1:(impl_DiffStates.l0 k2 l0 l1 x6_2 l0 (l0.length:Int) (wrap64 (x25_2+1)))=some (r1,r2):=by rw [if_pos rfl] at H;exact H
          clear H
          have H:=H1
          clear H1
          have H':=Aside0.mk H
          clear H
          have p103:0≤(x25_2:Int):=of_decide_eq_true zb
          have q103:x25_2<(l0.length:Int):=of_decide_eq_true zb
          obtain ⟨ad103,e103,hx103_0,hx103_1⟩:=at_T57 HR0.out x25_2 p103 q103
          cases e103
          replace hx103_0:=(HB.out.cell (World.block_lt_of_cell? w _ hx103_0)).trans hx103_0
          replace hx103_1:=(HB.out.cell (World.block_lt_of_cell? w _ hx103_1)).trans hx103_1
          replace p103:=eq_true p103
          replace q103:=eq_true q103
          go_wp2_with (first|((with_reducible refine gate_dst (N:=8) rfl ?_);refine box_event ?hg (N:=8) ?hd (cs:=#[.string (⟨#[]⟩:ByteArray),.int .i64 0]) (t:=57) ?hr ?_;(case hd=>rfl);(case hg=>rfl);(case hr=>exact zv);intro gb104 hg w16 hbox hb;have n0_:=Aside0.mk (Kd.R_below zl hb);have n1_:=Aside0.mk (below_step za hb);have n2_:=Aside0.mk (hbox);have n3_:=Aside0.mk ((by rw [hg];exact (below_size za):w.heap.size≤gb104));have n4_:=Aside0.mk ((by rw [hg];exact (below_size za):w.heap.size≤gb104));clear HO_6;clear HB;have HO_6:=n0_;have HB:=n1_;have BK104:=n2_;have GW104:=n3_;have GE104:=n4_;clear n0_ n1_ n2_ n3_ n4_;clear hb hbox hg;have hcz17_0:w16.cell? ⟨gb104,0,none⟩=some (.string (⟨#[]⟩:ByteArray)):=(blk_cell BK104.out 0).trans rfl;have hcz17_1:w16.cell? ⟨gb104,1,none⟩=some (.int .i64 0):=(blk_cell BK104.out 1).trans rfl;have hfz17_0:=blk_frozen BK104.out 0;have hfz17_1:=blk_frozen BK104.out 1)|((with_reducible refine gate_callee (f:=25) rfl ?_);refine goesL_ (some 33) rfl rfl Tryd.func25 zaq rfl #[.slice A1 l1.length c1,.string ((rd_T57 l0 x25_2).f0)] rfl zd ?_;(with_reducible refine (impl_valueAt.calls k2 _ _ l1 ((rd_T57 l0 x25_2).f0) t105 true _ ?side1 ?side2 A14.out).mono ?_);(case side1=>exact Kd.C_below HR1.out zas);(case side2=>exact HC1.out);rintro e w18 ⟨rfl,hb⟩;refine ⟨_,rfl,?_⟩;replace HO_6:=Aside0.mk (Kd.R_below (by (with_reducible repeat (first|apply Kd.R_alloc|apply Kd.R_drewN|apply Kd.R_drew));exact (Kd.R_mono (Kd.R_far (p:=⟨gb104,1,none⟩) (Kd.R_far (p:=⟨gb104,0,none⟩) (Kd.R_types HO_6.out BK104.out zbp) (fun _ hk=>hk.2) (.string ((rd_T57 l0 x25_2).f0))) (fun _ hk=>hk.2) (.int .i64 ((rd_T57 l0 x25_2).f1))) (fun _ h_=>h_.1))) hb);replace BK104:=Aside0.mk (blk_below (g:=gb104) (o:=.cells #[.string ((rd_T57 l0 x25_2).f0),.int .i64 ((rd_T57 l0 x25_2).f1)] 57 (0,0)) (by (with_reducible repeat (first|refine blk_drewN ?_ _|refine blk_drew ?_|refine blk_alloc ?_ _));refine blk_put (cs:=#[.string ((rd_T57 l0 x25_2).f0),.int .i64 0]) ?_ 1 _ rfl;(with_reducible repeat (first|refine blk_drewN ?_ _|refine blk_drew ?_|refine blk_alloc ?_ _));refine blk_put (cs:=#[.string (⟨#[]⟩:ByteArray),.int .i64 0]) ?_ 0 _ rfl;(with_reducible repeat (first|refine blk_drewN ?_ _|refine blk_drew ?_|refine blk_alloc ?_ _));exact BK104.out) hb);replace HB:=Aside0.mk (below_step zas hb);(try clear hb);(try clear hb2);(try clear hk);(try clear hi)))
          go_roundg k2
          case measure=>have:=HJ2.out;have:=HK2.out;omega
          case rel=>exact ⟨(x6_2),(wrap64 (x25_2+1)),zi,H',⟨by have:=HJ2.out;have:=HK2.out;omega⟩,⟨zl⟩,⟨zas⟩⟩
         ·replace c15:=Bool.eq_false_iff.mpr c15
          subst c15
          have H1:(if x6_2.length<4398046511104 then (impl_DiffStates.l0 k2 l0 l1 (x6_2++[(⟨2,(⟨(rd_T57 l0 x25_2).f0,(rd_T57 l0 x25_2).f1⟩:S57)⟩:S61)]) l0 (l0.length:Int) (wrap64 (x25_2+1))) else (none))=some (r1,r2):=by rw [if_neg (show ¬ (false=true) by decide)] at H;exact H
          clear H
          have H:=H1
          clear H1
          by_cases c19:x6_2.length<4398046511104
          ·rw [if_pos c19] at H
           have LMc19:=Aside0.mk c19
           clear c19
           obtain ⟨y107,hy107⟩:∃y_:List (S61),y_=(x6_2++[(⟨2,(⟨(rd_T57 l0 x25_2).f0,(rd_T57 l0 x25_2).f1⟩:S57)⟩:S61)]):=⟨_,rfl⟩
           replace H:(impl_DiffStates.l0 k2 l0 l1 y107 l0 (l0.length:Int) (wrap64 (x25_2+1)))=some (r1,r2):=by first|(rw [hy107];with_reducible exact H)|(have H2_:=(Option.bind_some _ _).symm.trans H;rw [hy107];with_reducible exact H2_)|(have H2_:=(Option.bind_some _ _).symm.trans H;with_reducible exact H2_)|with_reducible exact H|(rw [hy107];exact H)|exact H
           have Ny107:=Aside0.mk hy107
           clear hy107
           have H':=Aside0.mk H
           clear H
           have p103:0≤(x25_2:Int):=of_decide_eq_true zb
           have q103:x25_2<(l0.length:Int):=of_decide_eq_true zb
           obtain ⟨ad103,e103,hx103_0,hx103_1⟩:=at_T57 HR0.out x25_2 p103 q103
           cases e103
           replace hx103_0:=(HB.out.cell (World.block_lt_of_cell? w _ hx103_0)).trans hx103_0
           replace hx103_1:=(HB.out.cell (World.block_lt_of_cell? w _ hx103_1)).trans hx103_1
           replace p103:=eq_true p103
           replace q103:=eq_true q103
           go_wp2_with (first|((with_reducible refine gate_dst (N:=8) rfl ?_);refine box_event ?hg (N:=8) ?hd (cs:=#[.string (⟨#[]⟩:ByteArray),.int .i64 0]) (t:=57) ?hr ?_;(case hd=>rfl);(case hg=>rfl);(case hr=>exact zv);intro gb104 hg w20 hbox hb;have n0_:=Aside0.mk (Kd.R_below zl hb);have n1_:=Aside0.mk (below_step za hb);have n2_:=Aside0.mk (hbox);have n3_:=Aside0.mk ((by rw [hg];exact (below_size za):w.heap.size≤gb104));have n4_:=Aside0.mk ((by rw [hg];exact (below_size za):w.heap.size≤gb104));clear HO_6;clear HB;have HO_6:=n0_;have HB:=n1_;have BK104:=n2_;have GW104:=n3_;have GE104:=n4_;clear n0_ n1_ n2_ n3_ n4_;clear hb hbox hg;have hcz21_0:w20.cell? ⟨gb104,0,none⟩=some (.string (⟨#[]⟩:ByteArray)):=(blk_cell BK104.out 0).trans rfl;have hcz21_1:w20.cell? ⟨gb104,1,none⟩=some (.int .i64 0):=(blk_cell BK104.out 1).trans rfl;have hfz21_0:=blk_frozen BK104.out 0;have hfz21_1:=blk_frozen BK104.out 1)|((with_reducible refine gate_callee (f:=25) rfl ?_);refine goesL_ (some 33) rfl rfl Tryd.func25 zaq rfl #[.slice A1 l1.length c1,.string ((rd_T57 l0 x25_2).f0)] rfl zd ?_;(with_reducible refine (impl_valueAt.calls k2 _ _ l1 ((rd_T57 l0 x25_2).f0) t105 false _ ?side1 ?side2 A14.out).mono ?_);(case side1=>exact Kd.C_below HR1.out zas);(case side2=>exact HC1.out);rintro e w22 ⟨rfl,hb⟩;refine ⟨_,rfl,?_⟩;replace HO_6:=Aside0.mk (Kd.R_below (by (with_reducible repeat (first|apply Kd.R_alloc|apply Kd.R_drewN|apply Kd.R_drew));exact (Kd.R_mono (Kd.R_far (p:=⟨gb104,1,none⟩) (Kd.R_far (p:=⟨gb104,0,none⟩) (Kd.R_types HO_6.out BK104.out zbp) (fun _ hk=>hk.2) (.string ((rd_T57 l0 x25_2).f0))) (fun _ hk=>hk.2) (.int .i64 ((rd_T57 l0 x25_2).f1))) (fun _ h_=>h_.1))) hb);replace BK104:=Aside0.mk (blk_below (g:=gb104) (o:=.cells #[.string ((rd_T57 l0 x25_2).f0),.int .i64 ((rd_T57 l0 x25_2).f1)] 57 (0,0)) (by (with_reducible repeat (first|refine blk_drewN ?_ _|refine blk_drew ?_|refine blk_alloc ?_ _));refine blk_put (cs:=#[.string ((rd_T57 l0 x25_2).f0),.int .i64 0]) ?_ 1 _ rfl;(with_reducible repeat (first|refine blk_drewN ?_ _|refine blk_drew ?_|refine blk_alloc ?_ _));refine blk_put (cs:=#[.string (⟨#[]⟩:ByteArray),.int .i64 0]) ?_ 0 _ rfl;(with_reducible repeat (first|refine blk_drewN ?_ _|refine blk_drew ?_|refine blk_alloc ?_ _));exact BK104.out) hb);replace HB:=Aside0.mk (below_step zas hb);(try clear hb);(try clear hb2);(try clear hk);(try clear hi);have hcz23_0:w22.cell? ⟨gb104,0,none⟩=some (.string ((rd_T57 l0 x25_2).f0)):=(blk_cell BK104.out 0).trans rfl;have hcz23_1:w22.cell? ⟨gb104,1,none⟩=some (.int .i64 ((rd_T57 l0 x25_2).f1)):=(blk_cell BK104.out 1).trans rfl;have hfz23_0:=blk_frozen BK104.out 0;have hfz23_1:=blk_frozen BK104.out 1)|((with_reducible refine gate_builtin (b:=.append) (xs:=#[.tmp 38,.tmp 41]) rfl ?_);at_builtin;refine Kd.R_append k61 (w0:=w) w.heap.size rfl (.tmp 38) (.tmp 41) 29 61 (.agg #[(.int .i64 0),(.string ⟨#[]⟩),(.int .i64 0)]) 32 rfl Tryd.underlying29 info61 rfl zbp zbn u6 x6_2 (⟨2,(⟨(rd_T57 l0 x25_2).f0,(rd_T57 l0 x25_2).f1⟩:S57)⟩:S61) [.int .i64 2,.string ((rd_T57 l0 x25_2).f0),.int .i64 ((rd_T57 l0 x25_2).f1)] (fun _=>True) (fun _=>False) rfl rfl ?aP (fun _ hk=>hk.elim) ?aF ?aO ?aB ?aS ?aL ?_;(case aP=>exact k61_mkM _ _ _ (⟨2,(⟨(rd_T57 l0 x25_2).f0,(rd_T57 l0 x25_2).f1⟩:S57)⟩:S61));(case aB=>exact zas);(case aF=>exact (fun _ _=>trivial));(case aO=>exact zl);(case aS=>exact (below_size zas));(case aL=>have:=LMc19.out;omega);intro v108 w24 ho hb hg hat;rw [←Ny107.out] at ho;replace BK104:=Aside0.mk (blk_grown (g:=gb104) (o:=.cells #[.string ((rd_T57 l0 x25_2).f0),.int .i64 ((rd_T57 l0 x25_2).f1)] 57 (0,0)) (by (with_reducible repeat (first|refine blk_drewN ?_ _|refine blk_drew ?_|refine blk_alloc ?_ _));exact BK104.out) hg (Kd.R_ne HO_6.out BK104.out zbp));replace HB:=Aside0.mk (hb);have HO109:=Aside0.mk (ho);clear HO_6;clear ho hb hg hat))
           go_roundg k2
           case measure=>have:=HJ2.out;have:=HK2.out;omega
           case rel=>exact ⟨(y107),(wrap64 (x25_2+1)),zi,H',⟨by have:=HJ2.out;have:=HK2.out;omega⟩,⟨by (with_reducible repeat (first|apply Kd.R_alloc|apply Kd.R_drewN|apply Kd.R_drew));exact HO109.out⟩,⟨zas⟩⟩
          ·rw [if_neg c19] at H
           exact absurd H zca
        ·rw [if_neg c13] at H
         exact absurd H zca
       ·rw [if_neg c12] at H
        exact absurd H zca
      ·rw [if_neg c11] at H
       have c11b0:decide (x25_2<(l0.length:Int))=false:=decide_eq_false c11
       clear c11
       have H':=Aside0.mk H
       clear H
       go_wp2
       go_loopg [6,46] k2 (fun kq v6 v46 w'=>∃(x6_3:List (S61)) (x46_3:Int),v46 = .int .i64 x46_3∧Aside0 (impl_DiffStates.l1 kq l0 x6_3 l1 (l1.length:Int) x46_3=some (r1,r2))∧Aside0 (kq≤k2)∧Aside0 (Kd.R k61 61 w' w.heap.size (fun _=>True) v6 x6_3)∧Aside0 (Below w.heap.size w w'))
       case atStart=>exact ⟨(x6_2),(0),zi,H',⟨Nat.le_refl _⟩,⟨zl⟩,⟨za⟩⟩
       case round=>
        clear H'
        try clear c1
        try clear p1
        try clear q1
        try clear hx1
        try clear c2
        try clear p2
        try clear c5
        try clear p6
        try clear c8
        try clear c10
        try clear p10
        try clear q10
        try clear hx10
        try clear c11
        try clear c11b0
        try clear c12
        try clear c12b0
        try clear c13
        try clear c13b0
        try clear c15
        try clear c19
        try clear c24
        try clear hcz17_0
        try clear hcz17_1
        try clear hcz21_0
        try clear hcz21_1
        try clear hcz23_0
        try clear hcz23_1
        try clear hfz17_0
        try clear hfz17_1
        try clear hfz21_0
        try clear hfz21_1
        try clear hfz23_0
        try clear hfz23_1
        try clear hx103_0
        try clear hx103_1
        try clear p103
        try clear p2
        try clear q103
        obtain ⟨x6_3,x46_3,rfl,HA,HK3,HO_6,HB⟩:=hrel
        cases gk with
        | zero=>exact absurd HA.out (by simp [impl_DiffStates.l1])
        | succ k3=>
         have H:=HA.out
         clear HA
         simp only [impl_DiffStates.l1] at H
         by_cases c25:x46_3<(l1.length:Int)
         ·rw [if_pos c25] at H
          have c25b0:decide (x46_3<(l1.length:Int))=true:=decide_eq_true c25
          clear c25
          by_cases c26:0≤x46_3
          ·rw [if_pos c26] at H
           have c26b0:decide (0≤x46_3)=true:=decide_eq_true c26
           clear c26
           by_cases c27:x46_3<(l1.length:Int)
           ·rw [if_pos c27] at H
            have c27b0:decide (x46_3<(l1.length:Int))=true:=decide_eq_true c27
            clear c27
            replace H:=Option.bind_eq_some_iff.mp H
            obtain ⟨⟨t112,t113⟩,A280,H⟩:=H
            replace H:(if t113=true then (if t112=((rd_T57 l1 x46_3).f1) then (impl_DiffStates.l1 k3 l0 x6_3 l1 (l1.length:Int) (wrap64 (x46_3+1))) else (if x6_3.length<4398046511104 then (impl_DiffStates.l1 k3 l0 (x6_3++[(⟨1,(⟨(rd_T57 l1 x46_3).f0,(rd_T57 l1 x46_3).f1⟩:S57)⟩:S61)]) l1 (l1.length:Int) (wrap64 (x46_3+1))) else (none))) else (if x6_3.length<4398046511104 then (impl_DiffStates.l1 k3 l0 (x6_3++[(⟨1,(⟨(rd_T57 l1 x46_3).f0,(rd_T57 l1 x46_3).f1⟩:S57)⟩:S61)]) l1 (l1.length:Int) (wrap64 (x46_3+1))) else (none)))=some (r1,r2):=H
            have A28:=Aside0.mk A280
            clear A280
            by_cases c29:t113=true
            ·subst c29
             have H1:(if t112=((rd_T57 l1 x46_3).f1) then (impl_DiffStates.l1 k3 l0 x6_3 l1 (l1.length:Int) (wrap64 (x46_3+1))) else (if x6_3.length<4398046511104 then (impl_DiffStates.l1 k3 l0 (x6_3++[(⟨1,(⟨(rd_T57 l1 x46_3).f0,(rd_T57 l1 x46_3).f1⟩:S57)⟩:S61)]) l1 (l1.length:Int) (wrap64 (x46_3+1))) else (none)))=some (r1,r2):=by rw [if_pos rfl] at H;exact H
             clear H
             have H:=H1
             clear H1
             by_cases c30:t112=((rd_T57 l1 x46_3).f1)
             ·rw [if_pos c30] at H
              have c30b0:(t112 == ((rd_T57 l1 x46_3).f1))=true:=beq_iff_eq.mpr c30
              have c30b1:(t112 != ((rd_T57 l1 x46_3).f1))=false:=bne_eq_false_iff_eq.mpr c30
              clear c30
              have H':=Aside0.mk H
              clear H
              have p110:0≤(x46_3:Int):=of_decide_eq_true zb
              have q110:x46_3<(l1.length:Int):=of_decide_eq_true zb
              obtain ⟨ad110,e110,hx110_0,hx110_1⟩:=at_T57 HR1.out x46_3 p110 q110
              cases e110
              replace hx110_0:=(HB.out.cell (World.block_lt_of_cell? w _ hx110_0)).trans hx110_0
              replace hx110_1:=(HB.out.cell (World.block_lt_of_cell? w _ hx110_1)).trans hx110_1
              replace p110:=eq_true p110
              replace q110:=eq_true q110
              go_wp2_with (first|((with_reducible refine gate_dst (N:=12) rfl ?_);refine box_event ?hg (N:=12) ?hd (cs:=#[.string (⟨#[]⟩:ByteArray),.int .i64 0]) (t:=57) ?hr ?_;(case hd=>rfl);(case hg=>rfl);(case hr=>exact zv);intro gb111 hg w31 hbox hb;have n0_:=Aside0.mk (Kd.R_below zl hb);have n1_:=Aside0.mk (below_step za hb);have n2_:=Aside0.mk (hbox);have n3_:=Aside0.mk ((by rw [hg];exact (below_size za):w.heap.size≤gb111));have n4_:=Aside0.mk ((by rw [hg];exact (below_size za):w.heap.size≤gb111));clear HO_6;clear HB;have HO_6:=n0_;have HB:=n1_;have BK111:=n2_;have GW111:=n3_;have GE111:=n4_;clear n0_ n1_ n2_ n3_ n4_;clear hb hbox hg;have hcz32_0:w31.cell? ⟨gb111,0,none⟩=some (.string (⟨#[]⟩:ByteArray)):=(blk_cell BK111.out 0).trans rfl;have hcz32_1:w31.cell? ⟨gb111,1,none⟩=some (.int .i64 0):=(blk_cell BK111.out 1).trans rfl;have hfz32_0:=blk_frozen BK111.out 0;have hfz32_1:=blk_frozen BK111.out 1)|((with_reducible refine gate_callee (f:=25) rfl ?_);refine goesL_ (some 54) rfl rfl Tryd.func25 zaq rfl #[.slice A0 l0.length c0,.string ((rd_T57 l1 x46_3).f0)] rfl zd ?_;(with_reducible refine (impl_valueAt.calls k3 _ _ l0 ((rd_T57 l1 x46_3).f0) t112 true _ ?side1 ?side2 A28.out).mono ?_);(case side1=>exact Kd.C_below HR0.out zz);(case side2=>exact HC0.out);rintro e w33 ⟨rfl,hb⟩;refine ⟨_,rfl,?_⟩;replace HO_6:=Aside0.mk (Kd.R_below zbf hb);replace BK111:=Aside0.mk (blk_below (g:=gb111) (o:=.cells #[.string ((rd_T57 l1 x46_3).f0),.int .i64 ((rd_T57 l1 x46_3).f1)] 57 (0,0)) zap hb);replace HB:=Aside0.mk (below_step zz hb);(try clear hb);(try clear hb2);(try clear hk);(try clear hi);have hcz34_0:w33.cell? ⟨gb111,0,none⟩=some (.string ((rd_T57 l1 x46_3).f0)):=(blk_cell BK111.out 0).trans rfl;have hcz34_1:w33.cell? ⟨gb111,1,none⟩=some (.int .i64 ((rd_T57 l1 x46_3).f1)):=(blk_cell BK111.out 1).trans rfl;have hfz34_0:=blk_frozen BK111.out 0;have hfz34_1:=blk_frozen BK111.out 1))
              go_roundg k3
              case measure=>have:=HJ2.out;have:=HK2.out;have:=HK3.out;omega
              case rel=>exact ⟨(x6_3),(wrap64 (x46_3+1)),zi,H',⟨by have:=HJ2.out;have:=HK2.out;have:=HK3.out;omega⟩,⟨zl⟩,⟨zz⟩⟩
             ·rw [if_neg c30] at H
              have c30b0:(t112 == ((rd_T57 l1 x46_3).f1))=false:=beq_eq_false_iff_ne.mpr c30
              have c30b1:(t112 != ((rd_T57 l1 x46_3).f1))=true:=bne_iff_ne.mpr c30
              by_cases c35:x6_3.length<4398046511104
              ·rw [if_pos c35] at H
               have LMc35:=Aside0.mk c35
               clear c35
               obtain ⟨y114,hy114⟩:∃y_:List (S61),y_=(x6_3++[(⟨1,(⟨(rd_T57 l1 x46_3).f0,(rd_T57 l1 x46_3).f1⟩:S57)⟩:S61)]):=⟨_,rfl⟩
               replace H:(impl_DiffStates.l1 k3 l0 y114 l1 (l1.length:Int) (wrap64 (x46_3+1)))=some (r1,r2):=by first|(rw [hy114];with_reducible exact H)|(have H2_:=(Option.bind_some _ _).symm.trans H;rw [hy114];with_reducible exact H2_)|(have H2_:=(Option.bind_some _ _).symm.trans H;with_reducible exact H2_)|with_reducible exact H|(rw [hy114];exact H)|exact H
               have Ny114:=Aside0.mk hy114
               clear hy114
               have H':=Aside0.mk H
               clear H
               have p110:0≤(x46_3:Int):=of_decide_eq_true zb
               have q110:x46_3<(l1.length:Int):=of_decide_eq_true zb
               obtain ⟨ad110,e110,hx110_0,hx110_1⟩:=at_T57 HR1.out x46_3 p110 q110
               cases e110
               replace hx110_0:=(HB.out.cell (World.block_lt_of_cell? w _ hx110_0)).trans hx110_0
               replace hx110_1:=(HB.out.cell (World.block_lt_of_cell? w _ hx110_1)).trans hx110_1
               replace p110:=eq_true p110
               replace q110:=eq_true q110
               go_wp2_with (first|((with_reducible refine gate_dst (N:=12) rfl ?_);refine box_event ?hg (N:=12) ?hd (cs:=#[.string (⟨#[]⟩:ByteArray),.int .i64 0]) (t:=57) ?hr ?_;(case hd=>rfl);(case hg=>rfl);(case hr=>exact zv);intro gb111 hg w36 hbox hb;have n0_:=Aside0.mk (Kd.R_below zl hb);have n1_:=Aside0.mk (below_step za hb);have n2_:=Aside0.mk (hbox);have n3_:=Aside0.mk ((by rw [hg];exact (below_size za):w.heap.size≤gb111));have n4_:=Aside0.mk ((by rw [hg];exact (below_size za):w.heap.size≤gb111));clear HO_6;clear HB;have HO_6:=n0_;have HB:=n1_;have BK111:=n2_;have GW111:=n3_;have GE111:=n4_;clear n0_ n1_ n2_ n3_ n4_;clear hb hbox hg;have hcz37_0:w36.cell? ⟨gb111,0,none⟩=some (.string (⟨#[]⟩:ByteArray)):=(blk_cell BK111.out 0).trans rfl;have hcz37_1:w36.cell? ⟨gb111,1,none⟩=some (.int .i64 0):=(blk_cell BK111.out 1).trans rfl;have hfz37_0:=blk_frozen BK111.out 0;have hfz37_1:=blk_frozen BK111.out 1)|((with_reducible refine gate_callee (f:=25) rfl ?_);refine goesL_ (some 54) rfl rfl Tryd.func25 zaq rfl #[.slice A0 l0.length c0,.string ((rd_T57 l1 x46_3).f0)] rfl zd ?_;(with_reducible refine (impl_valueAt.calls k3 _ _ l0 ((rd_T57 l1 x46_3).f0) t112 true _ ?side1 ?side2 A28.out).mono ?_);(case side1=>exact Kd.C_below HR0.out zz);(case side2=>exact HC0.out);rintro e w38 ⟨rfl,hb⟩;refine ⟨_,rfl,?_⟩;replace HO_6:=Aside0.mk (Kd.R_below zbf hb);replace BK111:=Aside0.mk (blk_below (g:=gb111) (o:=.cells #[.string ((rd_T57 l1 x46_3).f0),.int .i64 ((rd_T57 l1 x46_3).f1)] 57 (0,0)) zap hb);replace HB:=Aside0.mk (below_step zz hb);(try clear hb);(try clear hb2);(try clear hk);(try clear hi);have hcz39_0:w38.cell? ⟨gb111,0,none⟩=some (.string ((rd_T57 l1 x46_3).f0)):=(blk_cell BK111.out 0).trans rfl;have hcz39_1:w38.cell? ⟨gb111,1,none⟩=some (.int .i64 ((rd_T57 l1 x46_3).f1)):=(blk_cell BK111.out 1).trans rfl;have hfz39_0:=blk_frozen BK111.out 0;have hfz39_1:=blk_frozen BK111.out 1)|((with_reducible refine gate_builtin (b:=.append) (xs:=#[.tmp 65,.tmp 68]) rfl ?_);at_builtin;refine Kd.R_append k61 (w0:=w) w.heap.size rfl (.tmp 65) (.tmp 68) 29 61 (.agg #[(.int .i64 0),(.string ⟨#[]⟩),(.int .i64 0)]) 32 rfl Tryd.underlying29 info61 rfl zbp zbn u6 x6_3 (⟨1,(⟨(rd_T57 l1 x46_3).f0,(rd_T57 l1 x46_3).f1⟩:S57)⟩:S61) [.int .i64 1,.string ((rd_T57 l1 x46_3).f0),.int .i64 ((rd_T57 l1 x46_3).f1)] (fun _=>True) (fun _=>False) rfl rfl ?aP (fun _ hk=>hk.elim) ?aF ?aO ?aB ?aS ?aL ?_;(case aP=>exact k61_mkM _ _ _ (⟨1,(⟨(rd_T57 l1 x46_3).f0,(rd_T57 l1 x46_3).f1⟩:S57)⟩:S61));(case aB=>exact zz);(case aF=>exact (fun _ _=>trivial));(case aO=>exact zl);(case aS=>exact (below_size zz));(case aL=>have:=LMc35.out;omega);intro v115 w40 ho hb hg hat;rw [←Ny114.out] at ho;replace BK111:=Aside0.mk (blk_grown (g:=gb111) (o:=.cells #[.string ((rd_T57 l1 x46_3).f0),.int .i64 ((rd_T57 l1 x46_3).f1)] 57 (0,0)) (by (with_reducible repeat (first|refine blk_drewN ?_ _|refine blk_drew ?_|refine blk_alloc ?_ _));exact BK111.out) hg (Kd.R_ne HO_6.out BK111.out zbp));replace HB:=Aside0.mk (hb);have HO116:=Aside0.mk (ho);clear HO_6;clear ho hb hg hat))
               go_roundg k3
               case measure=>have:=HJ2.out;have:=HK2.out;have:=HK3.out;omega
               case rel=>exact ⟨(y114),(wrap64 (x46_3+1)),zi,H',⟨by have:=HJ2.out;have:=HK2.out;have:=HK3.out;omega⟩,⟨zcv⟩,⟨zz⟩⟩
              ·rw [if_neg c35] at H
               exact absurd H zca
            ·replace c29:=Bool.eq_false_iff.mpr c29
             subst c29
             have H1:(if x6_3.length<4398046511104 then (impl_DiffStates.l1 k3 l0 (x6_3++[(⟨1,(⟨(rd_T57 l1 x46_3).f0,(rd_T57 l1 x46_3).f1⟩:S57)⟩:S61)]) l1 (l1.length:Int) (wrap64 (x46_3+1))) else (none))=some (r1,r2):=by rw [if_neg (show ¬ (false=true) by decide)] at H;exact H
             clear H
             have H:=H1
             clear H1
             by_cases c41:x6_3.length<4398046511104
             ·rw [if_pos c41] at H
              have LMc41:=Aside0.mk c41
              clear c41
              obtain ⟨y117,hy117⟩:∃y_:List (S61),y_=(x6_3++[(⟨1,(⟨(rd_T57 l1 x46_3).f0,(rd_T57 l1 x46_3).f1⟩:S57)⟩:S61)]):=⟨_,rfl⟩
              replace H:(impl_DiffStates.l1 k3 l0 y117 l1 (l1.length:Int) (wrap64 (x46_3+1)))=some (r1,r2):=by first|(rw [hy117];with_reducible exact H)|(have H2_:=(Option.bind_some _ _).symm.trans H;rw [hy117];with_reducible exact H2_)|(have H2_:=(Option.bind_some _ _).symm.trans H;with_reducible exact H2_)|with_reducible exact H|(rw [hy117];exact H)|exact H
              have Ny117:=Aside0.mk hy117
              clear hy117
              have H':=Aside0.mk H
              clear H
              have p110:0≤(x46_3:Int):=of_decide_eq_true zb
              have q110:x46_3<(l1.length:Int):=of_decide_eq_true zb
              obtain ⟨ad110,e110,hx110_0,hx110_1⟩:=at_T57 HR1.out x46_3 p110 q110
              cases e110
              replace hx110_0:=(HB.out.cell (World.block_lt_of_cell? w _ hx110_0)).trans hx110_0
              replace hx110_1:=(HB.out.cell (World.block_lt_of_cell? w _ hx110_1)).trans hx110_1
              replace p110:=eq_true p110
              replace q110:=eq_true q110
              go_wp2_with (first|((with_reducible refine gate_dst (N:=12) rfl ?_);refine box_event ?hg (N:=12) ?hd (cs:=#[.string (⟨#[]⟩:ByteArray),.int .i64 0]) (t:=57) ?hr ?_;(case hd=>rfl);(case hg=>rfl);(case hr=>exact zv);intro gb111 hg w42 hbox hb;have n0_:=Aside0.mk (Kd.R_below zl hb);have n1_:=Aside0.mk (below_step za hb);have n2_:=Aside0.mk (hbox);have n3_:=Aside0.mk ((by rw [hg];exact (below_size za):w.heap.size≤gb111));have n4_:=Aside0.mk ((by rw [hg];exact (below_size za):w.heap.size≤gb111));clear HO_6;clear HB;have HO_6:=n0_;have HB:=n1_;have BK111:=n2_;have GW111:=n3_;have GE111:=n4_;clear n0_ n1_ n2_ n3_ n4_;clear hb hbox hg;have hcz43_0:w42.cell? ⟨gb111,0,none⟩=some (.string (⟨#[]⟩:ByteArray)):=(blk_cell BK111.out 0).trans rfl;have hcz43_1:w42.cell? ⟨gb111,1,none⟩=some (.int .i64 0):=(blk_cell BK111.out 1).trans rfl;have hfz43_0:=blk_frozen BK111.out 0;have hfz43_1:=blk_frozen BK111.out 1)|((with_reducible refine gate_callee (f:=25) rfl ?_);refine goesL_ (some 54) rfl rfl Tryd.func25 zaq rfl #[.slice A0 l0.length c0,.string ((rd_T57 l1 x46_3).f0)] rfl zd ?_;(with_reducible refine (impl_valueAt.calls k3 _ _ l0 ((rd_T57 l1 x46_3).f0) t112 false _ ?side1 ?side2 A28.out).mono ?_);(case side1=>exact Kd.C_below HR0.out zz);(case side2=>exact HC0.out);rintro e w44 ⟨rfl,hb⟩;refine ⟨_,rfl,?_⟩;replace HO_6:=Aside0.mk (Kd.R_below zbf hb);replace BK111:=Aside0.mk (blk_below (g:=gb111) (o:=.cells #[.string ((rd_T57 l1 x46_3).f0),.int .i64 ((rd_T57 l1 x46_3).f1)] 57 (0,0)) zap hb);replace HB:=Aside0.mk (below_step zz hb);(try clear hb);(try clear hb2);(try clear hk);(try clear hi);have hcz45_0:w44.cell? ⟨gb111,0,none⟩=some (.string ((rd_T57 l1 x46_3).f0)):=(blk_cell BK111.out 0).trans rfl;have hcz45_1:w44.cell? ⟨gb111,1,none⟩=some (.int .i64 ((rd_T57 l1 x46_3).f1)):=(blk_cell BK111.out 1).trans rfl;have hfz45_0:=blk_frozen BK111.out 0;have hfz45_1:=blk_frozen BK111.out 1)|((with_reducible refine gate_builtin (b:=.append) (xs:=#[.tmp 65,.tmp 68]) rfl ?_);at_builtin;refine Kd.R_append k61 (w0:=w) w.heap.size rfl (.tmp 65) (.tmp 68) 29 61 (.agg #[(.int .i64 0),(.string ⟨#[]⟩),(.int .i64 0)]) 32 rfl Tryd.underlying29 info61 rfl zbp zbn u6 x6_3 (⟨1,(⟨(rd_T57 l1 x46_3).f0,(rd_T57 l1 x46_3).f1⟩:S57)⟩:S61) [.int .i64 1,.string ((rd_T57 l1 x46_3).f0),.int .i64 ((rd_T57 l1 x46_3).f1)] (fun _=>True) (fun _=>False) rfl rfl ?aP (fun _ hk=>hk.elim) ?aF ?aO ?aB ?aS ?aL ?_;(case aP=>exact k61_mkM _ _ _ (⟨1,(⟨(rd_T57 l1 x46_3).f0,(rd_T57 l1 x46_3).f1⟩:S57)⟩:S61));(case aB=>exact zz);(case aF=>exact (fun _ _=>trivial));(case aO=>exact zl);(case aS=>exact (below_size zz));(case aL=>have:=LMc41.out;omega);intro v118 w46 ho hb hg hat;rw [←Ny117.out] at ho;replace BK111:=Aside0.mk (blk_grown (g:=gb111) (o:=.cells #[.string ((rd_T57 l1 x46_3).f0),.int .i64 ((rd_T57 l1 x46_3).f1)] 57 (0,0)) (by (with_reducible repeat (first|refine blk_drewN ?_ _|refine blk_drew ?_|refine blk_alloc ?_ _));exact BK111.out) hg (Kd.R_ne HO_6.out BK111.out zbp));replace HB:=Aside0.mk (hb);have HO119:=Aside0.mk (ho);clear HO_6;clear ho hb hg hat))
              go_roundg k3
              case measure=>have:=HJ2.out;have:=HK2.out;have:=HK3.out;omega
              case rel=>exact ⟨(y117),(wrap64 (x46_3+1)),zi,H',⟨by have:=HJ2.out;have:=HK2.out;have:=HK3.out;omega⟩,⟨by (with_reducible repeat (first|apply Kd.R_alloc|apply Kd.R_drewN|apply Kd.R_drew));exact HO119.out⟩,⟨zz⟩⟩
             ·rw [if_neg c41] at H
              exact absurd H zca
           ·rw [if_neg c27] at H
            exact absurd H zca
          ·rw [if_neg c26] at H
           exact absurd H zca
         ·rw [if_neg c25] at H
          have c25b0:decide (x46_3<(l1.length:Int))=false:=decide_eq_false c25
          clear c25
          simp only [Option.some.injEq,Prod.mk.injEq] at H
          obtain ⟨rfl,rfl⟩:=H
          go_wp2
          go_ret2
          exact ⟨_,zj,zl,za⟩

theorem eqA57 (d:Nat) (w:World) (x0 y0:ByteArray) (x1 y1:Int) :
 (Op.equalIn (d+2) 57 (.agg #[.string x0,.int .i64 x1]) (.agg #[.string y0,.int .i64 y1])).run Tryd.prog w = .ok (x0.toList == y0.toList&&(x1 == y1)) w:=by
 refine eqA_of Tryd.underlying57 zaq ?_
 refine eqf_cons (by rfl) (by go_simp;rfl) (by go_simp;rfl) (by go_simp) ?_
 exact eqf_last (by rfl) (by go_simp;rfl) (by go_simp;rfl) (by go_simp)

def impl_ApplyChanges_1.f (k:Nat) (a0_0:Int) (a0_1:ByteArray) (a0_2:Int):Option (Bool):=if a0_0=1 then ((impl_Setting_valid.f k a0_1 a0_2).bind fun t102=>(some (!t102))) else (if a0_0=2 then ((impl_Setting_valid.f k a0_1 a0_2).bind fun t103=>(some (!t103))) else (some true))
set_option maxHeartbeats 8000000 in
set_option maxRecDepth 100000 in
theorem impl_ApplyChanges_1.calls (k:Nat) (a0_0:Int) (a0_1:ByteArray) (a0_2:Int) (r:Bool) (w:World) (h:impl_ApplyChanges_1.f k a0_0 a0_1 a0_2=some r) :
 Calls Tryd.prog 26 #[.agg #[.int .i64 a0_0,.string a0_1,.int .i64 a0_2]] w fun e w'=>e = .returned (.bool r)∧Below w.heap.size w w':=by
 have hu61:=Tryd.underlying61
 have hu57:=Tryd.underlying57
 have HB:=Aside0.mk (Below.refl w.heap.size w)
 have H:(if a0_0=1 then ((impl_Setting_valid.f k a0_1 a0_2).bind fun t102=>(some (!t102))) else (if a0_0=2 then ((impl_Setting_valid.f k a0_1 a0_2).bind fun t103=>(some (!t103))) else (some true)))=some r:=h
 clear h
 by_cases c2:a0_0=1
 ·rw [if_pos c2] at H
  have c2b0:(a0_0 == 1)=true:=beq_iff_eq.mpr c2
  have c2b1:(a0_0 != 1)=false:=bne_eq_false_iff_eq.mpr c2
  clear c2
  replace H:=Option.bind_eq_some_iff.mp H
  obtain ⟨t102,A30,H⟩:=H
  replace H:(some (!t102))=some r:=H
  have A3:=Aside0.mk A30
  clear A30
  obtain rfl:=Option.some.inj H
  go_enter Tryd.func26,Tryd.ntmps26
  go_wp2_with (first|((with_reducible refine gate_dst (N:=1) rfl ?_);refine box_event ?hg (N:=1) ?hd (cs:=#[.int .i64 a0_0,.string a0_1,.int .i64 a0_2]) (t:=61) ?hr ?_;(case hd=>rfl);(case hg=>rfl);(case hr=>exact zv);intro gb101 hg w4 hbox hb;have n0_:=Aside0.mk (below_step za hb);have n1_:=Aside0.mk (hbox);have n2_:=Aside0.mk ((by rw [hg];exact (below_size za):w.heap.size≤gb101));have n3_:=Aside0.mk ((by rw [hg];exact (below_size za):w.heap.size≤gb101));clear HB;have HB:=n0_;have BK101:=n1_;have GW101:=n2_;have GE101:=n3_;clear n0_ n1_ n2_ n3_;clear hb hbox hg;have hcz5_0:w4.cell? ⟨gb101,0,none⟩=some (.int .i64 a0_0):=(blk_cell BK101.out 0).trans rfl;have hcz5_1:w4.cell? ⟨gb101,1,none⟩=some (.string a0_1):=(blk_cell BK101.out 1).trans rfl;have hcz5_2:w4.cell? ⟨gb101,2,none⟩=some (.int .i64 a0_2):=(blk_cell BK101.out 2).trans rfl;have hfz5_0:=blk_frozen BK101.out 0;have hfz5_1:=blk_frozen BK101.out 1;have hfz5_2:=blk_frozen BK101.out 2)|(go_at_call 27;(with_reducible refine (impl_Setting_valid.calls k a0_1 a0_2 t102 _ A3.out).mono ?_);rintro e w6 ⟨rfl,hb⟩;replace BK101:=Aside0.mk (blk_below (g:=gb101) (o:=.cells #[.int .i64 a0_0,.string a0_1,.int .i64 a0_2] 61 (0,0)) zh hb);replace HB:=Aside0.mk (below_step zc hb);(try clear hb);(try clear hb2);(try clear hk);(try clear hi)))
  go_ret
  exact ⟨zj,zc⟩
 ·rw [if_neg c2] at H
  have c2b0:(a0_0 == 1)=false:=beq_eq_false_iff_ne.mpr c2
  have c2b1:(a0_0 != 1)=true:=bne_iff_ne.mpr c2
  by_cases c7:a0_0=2
  ·rw [if_pos c7] at H
   have c7b0:(a0_0 == 2)=true:=beq_iff_eq.mpr c7
   have c7b1:(a0_0 != 2)=false:=bne_eq_false_iff_eq.mpr c7
   clear c7
   replace H:=Option.bind_eq_some_iff.mp H
   obtain ⟨t103,A80,H⟩:=H
   replace H:(some (!t103))=some r:=H
   have A8:=Aside0.mk A80
   clear A80
   obtain rfl:=Option.some.inj H
   go_enter Tryd.func26,Tryd.ntmps26
   go_wp2_with (first|((with_reducible refine gate_dst (N:=1) rfl ?_);refine box_event ?hg (N:=1) ?hd (cs:=#[.int .i64 a0_0,.string a0_1,.int .i64 a0_2]) (t:=61) ?hr ?_;(case hd=>rfl);(case hg=>rfl);(case hr=>exact zv);intro gb101 hg w9 hbox hb;have n0_:=Aside0.mk (below_step za hb);have n1_:=Aside0.mk (hbox);have n2_:=Aside0.mk ((by rw [hg];exact (below_size za):w.heap.size≤gb101));have n3_:=Aside0.mk ((by rw [hg];exact (below_size za):w.heap.size≤gb101));clear HB;have HB:=n0_;have BK101:=n1_;have GW101:=n2_;have GE101:=n3_;clear n0_ n1_ n2_ n3_;clear hb hbox hg;have hcz10_0:w9.cell? ⟨gb101,0,none⟩=some (.int .i64 a0_0):=(blk_cell BK101.out 0).trans rfl;have hcz10_1:w9.cell? ⟨gb101,1,none⟩=some (.string a0_1):=(blk_cell BK101.out 1).trans rfl;have hcz10_2:w9.cell? ⟨gb101,2,none⟩=some (.int .i64 a0_2):=(blk_cell BK101.out 2).trans rfl;have hfz10_0:=blk_frozen BK101.out 0;have hfz10_1:=blk_frozen BK101.out 1;have hfz10_2:=blk_frozen BK101.out 2)|(go_at_call 27;(with_reducible refine (impl_Setting_valid.calls k a0_1 a0_2 t103 _ A8.out).mono ?_);rintro e w11 ⟨rfl,hb⟩;replace BK101:=Aside0.mk (blk_below (g:=gb101) (o:=.cells #[.int .i64 a0_0,.string a0_1,.int .i64 a0_2] 61 (0,0)) zh hb);replace HB:=Aside0.mk (below_step zc hb);(try clear hb);(try clear hb2);(try clear hk);(try clear hi)))
   go_ret
   exact ⟨zj,zc⟩
  ·rw [if_neg c7] at H
   have c7b0:(a0_0 == 2)=false:=beq_eq_false_iff_ne.mpr c7
   have c7b1:(a0_0 != 2)=true:=bne_iff_ne.mpr c7
   obtain rfl:=Option.some.inj H
   go_enter Tryd.func26,Tryd.ntmps26
   go_wp2_with (first|((with_reducible refine gate_dst (N:=1) rfl ?_);refine box_event ?hg (N:=1) ?hd (cs:=#[.int .i64 a0_0,.string a0_1,.int .i64 a0_2]) (t:=61) ?hr ?_;(case hd=>rfl);(case hg=>rfl);(case hr=>exact zv);intro gb101 hg w12 hbox hb;have n0_:=Aside0.mk (below_step za hb);have n1_:=Aside0.mk (hbox);have n2_:=Aside0.mk ((by rw [hg];exact (below_size za):w.heap.size≤gb101));have n3_:=Aside0.mk ((by rw [hg];exact (below_size za):w.heap.size≤gb101));clear HB;have HB:=n0_;have BK101:=n1_;have GW101:=n2_;have GE101:=n3_;clear n0_ n1_ n2_ n3_;clear hb hbox hg;have hcz13_0:w12.cell? ⟨gb101,0,none⟩=some (.int .i64 a0_0):=(blk_cell BK101.out 0).trans rfl;have hcz13_1:w12.cell? ⟨gb101,1,none⟩=some (.string a0_1):=(blk_cell BK101.out 1).trans rfl;have hcz13_2:w12.cell? ⟨gb101,2,none⟩=some (.int .i64 a0_2):=(blk_cell BK101.out 2).trans rfl;have hfz13_0:=blk_frozen BK101.out 0;have hfz13_1:=blk_frozen BK101.out 1;have hfz13_2:=blk_frozen BK101.out 2))
   go_ret
   exact ⟨zj,zc⟩
end Go.Proofs.YtocegmkifmdlcaaDoor.P

namespace Go.Proofs.YtocegmkifmdlcaaDoor.P
open Go.RowKit Go.Proofs.YtocegmkifmdlcaaDoorW.PrintWords
set_option linter.unusedVariables false
set_option linter.unusedSimpArgs false
def anyO {α : Type} (p : α → Option Bool) : List α → Option Bool
  | [] => some false
  | x :: r => (p x).bind fun b => if b = true then some true else anyO p r
theorem anyO_drop {α : Type} {p : α → Option Bool} {l : List α} {k : Nat} {r : Bool} (hk : k < l.length) (h : anyO p (l.drop k) = some r) :
    ∃ b, p l[k] = some b ∧ ((b = true ∧ r = true) ∨ (b = false ∧ anyO p (l.drop (k + 1)) = some r)) := by
  rw [List.drop_eq_getElem_cons hk] at h
  obtain ⟨b, hb, h2⟩ := Option.bind_eq_some_iff.1 h
  refine ⟨b, hb, ?_⟩
  cases b with
  | true => rw [if_pos rfl] at h2; exact .inl ⟨rfl, (Option.some.inj h2).symm⟩
  | false => rw [if_neg (by decide)] at h2; exact .inr ⟨rfl, h2⟩
theorem anyO_some {α : Type} {p : α → Option Bool} {q : α → Bool} : ∀ {l : List α}, (∀ x ∈ l, p x = some (q x)) → anyO p l = some (l.any q)
  | [], _ => rfl
  | x :: r, h => by
    have ih := anyO_some (l := r) (fun y hy => h y (List.mem_cons_of_mem _ hy))
    rw [anyO, h x List.mem_cons_self, Option.bind_some, ih, List.any_cons]
    cases q x <;> simp
end Go.Proofs.YtocegmkifmdlcaaDoor.P

namespace Go.Proofs.YtocegmkifmdlcaaDoor.P
open Go.RowKit Go.Proofs.YtocegmkifmdlcaaDoorW.PrintWords Go.Proofs.YtocegmkifmdlcaaDoorW.PrintLast Go.Proofs.YtocegmkifmdlcaaDoorW.PrintMore
attribute [local go_sem] max2_int min2_int max_two min_two max_three min_three max_four min_four str_leq str_gtr str_geq
set_option linter.unusedVariables false
set_option linter.unusedSimpArgs false
set_option maxHeartbeats 1600000
set_option maxRecDepth 100000
def slices_ContainsFunc_S_impl_Change.f (k:Nat) (l0:List S61) (a1:Int):Option Bool:=if a1=0 then anyO (fun x=>impl_ApplyChanges_1.f k x.f0 x.f1.f0 x.f1.f1) l0 else none
theorem slices_ContainsFunc_S_impl_Change.idx (p:S61→Option Bool) (A0:Option Addr) (c0:Nat) (l0:List S61) (r:Bool) (w:World) (hr0:Kd.C k61 w A0 l0.length l0)
 (hclo:∀(x:S61) (b:Bool),p x=some b→∀(W:World),Below w.heap.size w W→Calls Tryd.prog 26 #[.agg #[.int .i64 (x.f0),.string (x.f1.f0),.int .i64 (x.f1.f1)]] W fun e W'=>e = .returned (.bool b)∧Below W.heap.size W W') (h:anyO p l0=some r) :
 Calls Tryd.prog 53 #[.slice A0 l0.length c0,.func (.func 26) #[] #[]] w fun e w'=>∃n:Int,e = .returned (.int .i64 n)∧(r=decide (0≤n))∧Below w.heap.size w w':=by
 have hlen:l0.length≤9223372036854775807:=hr0.2.1
 have hu:=Tryd.underlying61
 have HR:=Aside0.mk hr0
 have HCL:=Aside0.mk hclo
 have HH:=Aside0.mk h
 clear hr0 hclo h
 go_enter Tryd.func53,Tryd.ntmps53
 go_wp2_with fail
 go_loopw [8] (fun i wr=>∃k:Nat,k≤l0.length∧i = .int .i64 k∧Aside0 (anyO p (l0.drop k)=some r)∧Aside0 (Below w.heap.size w wr)) (fun i _=>l0.length - (intOf i).toNat)
 case atStart=>exact ⟨0,Nat.zero_le _,rfl,⟨by rw [List.drop_zero];exact HH.out⟩,⟨Below.refl _ _⟩⟩
 case round=>
  obtain ⟨k,hk,rfl,HN,HB⟩:=hrel
  clear HH
  by_cases hlt:k<l0.length
  ·obtain ⟨ad,e0,hx0,hx1,hx2⟩:=at_T61 HR.out (k:Int) zbn zbn
   subst e0
   replace hx0:=(HB.out.cell (World.block_lt_of_cell? w _ hx0)).trans hx0
   (try simp only [Int.toNat_natCast] at hx0)
   replace hx1:=(HB.out.cell (World.block_lt_of_cell? w _ hx1)).trans hx1
   (try simp only [Int.toNat_natCast] at hx1)
   replace hx2:=(HB.out.cell (World.block_lt_of_cell? w _ hx2)).trans hx2
   (try simp only [Int.toNat_natCast] at hx2)
   have er:(rd_T61 l0 (k:Int))=l0[k]:=by simp [rd_T61,List.getD_eq_getElem?_getD,List.getElem?_eq_getElem hlt]
   obtain ⟨b,hb,hbr⟩:=anyO_drop hlt HN.out
   rw [←er] at hb
   have HG:=Aside0.mk (HCL.out (rd_T61 l0 (k:Int)) b hb wr HB.out)
   have HBR:=Aside0.mk hbr
   clear hb hbr er HN
   cases b with
   | true=>
    go_wp2_with (go_at_call 26;refine HG.out.mono ?_;rintro e w1 ⟨rfl,hb1⟩;have HB1:=Aside0.mk (below_step HB.out hb1);clear hb1)
    go_ret
    refine ⟨k,rfl,?_,HB1.out⟩
    rw [decide_eq_true zbn]
    rcases HBR.out with h|h
    ·exact h.2
    ·exact absurd h.1 zbp
   | false=>
    go_wp2_with (go_at_call 26;refine HG.out.mono ?_;rintro e w1 ⟨rfl,hb1⟩;have HB1:=Aside0.mk (below_step HB.out hb1);clear hb1)
    go_roundw
    case rel=>
     refine ⟨k+1,zbn,by go_num,⟨?_⟩,HB1⟩
     rcases HBR.out with h|h
     ·exact absurd h.1 zbp
     ·exact h.2
    case measure=>simp [intOf];omega
  ·have hkl:k=l0.length:=by omega
   have hd1:decide ((k:Int)<(l0.length:Int))=false:=decide_eq_false zbn
   have hd2:decide (k<l0.length)=false:=decide_eq_false zbn
   have HN':=HN
   have HK:=Aside0.mk hkl
   clear hkl HN
   go_wp2_with fail
   go_ret
   refine ⟨-1,rfl,?_,HB.out⟩
   rw [decide_eq_false zbn]
   have h:=HN'.out
   rw [HK.out,List.drop_length] at h
   exact (Option.some.inj h).symm
theorem slices_ContainsFunc_S_impl_Change.has (p:S61→Option Bool) (A0:Option Addr) (c0:Nat) (l0:List S61) (r:Bool) (w:World) (hr0:Kd.C k61 w A0 l0.length l0)
 (hclo:∀(x:S61) (b:Bool),p x=some b→∀(W:World),Below w.heap.size w W→Calls Tryd.prog 26 #[.agg #[.int .i64 (x.f0),.string (x.f1.f0),.int .i64 (x.f1.f1)]] W fun e W'=>e = .returned (.bool b)∧Below W.heap.size W W') (h:anyO p l0=some r) :
 Calls Tryd.prog 28 #[.slice A0 l0.length c0,.func (.func 26) #[] #[]] w fun e w'=>e = .returned (.bool r)∧Below w.heap.size w w':=by
 have HC:=Aside0.mk (slices_ContainsFunc_S_impl_Change.idx p A0 c0 l0 r w hr0 hclo h)
 clear hr0 hclo h
 go_enter Tryd.func28,Tryd.ntmps28
 go_wp2_with (go_at_call 53;refine HC.out.mono ?_;rintro e w1 ⟨n,rfl,hn,hb⟩;have HB:=Aside0.mk hb;have HN:=Aside0.mk hn;clear hb hn)
 go_ret
 exact ⟨by rw [HN.out];rfl,HB.out⟩
theorem slices_ContainsFunc_S_impl_Change.calls (k:Nat) (A0:Option Addr) (c0:Nat) (l0:List S61) (a1:Int) (r:Bool) (w:World) (hr0:Kd.C k61 w A0 l0.length l0) (hc0:l0.length≤c0) (h:slices_ContainsFunc_S_impl_Change.f k l0 a1=some r) :
 Calls Tryd.prog 28 #[.slice A0 l0.length c0,.func (.func 26) #[] #[]] w fun e w'=>e = .returned (.bool r)∧Below w.heap.size w w':=by
 unfold slices_ContainsFunc_S_impl_Change.f at h
 by_cases h0:a1=0
 ·rw [if_pos h0] at h
  exact slices_ContainsFunc_S_impl_Change.has (fun x=>impl_ApplyChanges_1.f k x.f0 x.f1.f0 x.f1.f1) A0 c0 l0 r w hr0 (fun x b hp W _=>(impl_ApplyChanges_1.calls k x.f0 x.f1.f0 x.f1.f1 b W hp)) h
 ·rw [if_neg h0] at h;cases h

def slices_Clone_S_impl_Setting.f (l0:List S57):Option (List S57):=if l0.length<1000000000000 then some l0 else none
theorem slices_Clone_S_impl_Setting.calls (A0:Option Addr) (c0:Nat) (l0:List S57) (r:List S57) (w:World) (hr0:Kd.C k57 w A0 l0.length l0) (hc0:l0.length≤c0) (h:slices_Clone_S_impl_Setting.f l0=some r) :
 Calls Tryd.prog 29 #[.slice A0 l0.length c0] w fun e w'=>∃v0_:Value,e = .returned (v0_)∧Kd.R k57 57 w' w.heap.size (fun _=>True) v0_ r∧Below w.heap.size w w':=by
 have q22:∀(w:World) (a:Option Addr) (n c n' c':Nat),(binOp .eql 26 (.slice a n c) (.slice none n' c')).run Tryd.prog w = .ok (.bool a.isNone) w:=fun w a n c n' c'=>Lib.run_eql_slice_nil w _ _ a n c n' c' Tryd.underlying26
 unfold slices_Clone_S_impl_Setting.f at h
 by_cases hl:l0.length<1000000000000
 rotate_left
 ·rw [if_neg hl] at h;exact absurd h zca
 rw [if_pos hl] at h
 obtain rfl:=Option.some.inj h
 have HL:=Aside0.mk hl
 clear h hl
 cases A0 with
 | none=>
  have h0:l0.length=0:=by
   rcases Nat.eq_zero_or_pos l0.length with h0|h0
   ·exact h0
   ·obtain ⟨ad,h,_⟩:=hr0.2.2 h0
    cases h
  obtain rfl:=List.eq_nil_of_length_eq_zero h0
  clear hr0 hc0 h0
  go_enter Tryd.func29,Tryd.ntmps29
  go_wp2_with fail
  go_ret
  exact ⟨_,rfl,Kd.R_nil _ _ _ _ _,Below.refl _ _⟩
 | some ad=>
  have HR0:=Aside0.mk hr0
  have HRW:=Aside0.mk (show Kd.R k57 57 (w.alloc (.cells #[] 57)) w.heap.size (fun _=>True) (.slice (some ⟨w.heap.size,0,none⟩) 0 0) [] from ⟨fun _ _=>trivial,[],World.ownsRow_made w #[] 0 (Nat.le_refl _) (Nat.zero_le _) rfl,Reps.none _ _⟩)
  have HB:=Aside0.mk (Below.refl w.heap.size w)
  clear hr0 hc0
  go_enter Tryd.func29,Tryd.ntmps29
  go_wp2_with (first
   | ((with_reducible refine gate_builtin (b:=.append) (xs:=#[.tmp 5,.tmp 6]) rfl ?_)
      at_builtin
      refine Kd.R_append_rows k57 (w0:=w) w.heap.size rfl (.tmp 5) (.tmp 6) 26 57 (.agg #[(.string ⟨#[]⟩),(.int .i64 0)]) 24 rfl Tryd.underlying26 info57 rfl zbp zbn (.slice (some ⟨w.heap.size,0,none⟩) 0 0) [] l0 _ _ _ (fun _=>True) (fun _=>False) rfl rfl ?aO ?aR (fun _ _ h=>h) (fun _ h=>h.elim) ?aF ?aB ?aS ?aL ?_
      (case aO=>exact HRW.out)
      (case aR=>exact Kd.C_alloc HR0.out _)
      (case aF=>exact (fun _ _=>trivial))
      (case aB=>exact (below_alloc HB.out _))
      (case aS=>exact (below_alloc HB.out _).size)
      (case aL=>have h_:=HL.out;simp only [List.length_nil];omega)
      intro v102 w8 ho hb hg hat
      have HO:=Aside0.mk ho
      have HB2:=Aside0.mk hb
      clear ho hb hg hat))
  go_ret
  exact ⟨_,rfl,by simpa using HO.out,HB2.out⟩
end Go.Proofs.YtocegmkifmdlcaaDoor.P

namespace Go.Proofs.YtocegmkifmdlcaaDoor.P
open Go.RowKit Go.Proofs.YtocegmkifmdlcaaDoorW.PrintWords Go.Proofs.YtocegmkifmdlcaaDoorW.PrintLast Go.Proofs.YtocegmkifmdlcaaDoorW.PrintMore
attribute [local go_sem] max2_int min2_int max_two min_two max_three min_three max_four min_four str_leq str_gtr str_geq
set_option linter.unusedVariables false
set_option linter.unusedSimpArgs false
def cmp_isNaN_string.f (a0:ByteArray):Option (Bool):=some (a0.toList != a0.toList)
set_option maxHeartbeats 8000000 in
set_option maxRecDepth 100000 in
theorem cmp_isNaN_string.calls (a0:ByteArray) (r:Bool) (w:World) (h:cmp_isNaN_string.f a0=some r) :
 Calls Tryd.prog 68 #[.string a0] w fun e w'=>e = .returned (.bool r)∧Drawn0 w w':=by
 have H:(some (a0.toList != a0.toList))=some r:=h
 clear h
 obtain rfl:=Option.some.inj H
 go_enter Tryd.func68,Tryd.ntmps68
 go_wp2
 go_ret
 exact ⟨zi,zn⟩

def cmp_Compare_string.f (a0:ByteArray) (a1:ByteArray):Option (Int):=(cmp_isNaN_string.f a0).bind fun t101=>((cmp_isNaN_string.f a1).bind fun t102=>(if t101=true then (if t102=true then (some 0) else (some (-1))) else (if t102=true then (some 1) else (if (Op.bytesLess a0.toList a1.toList)=true then (some (-1)) else (if (Op.bytesLess a1.toList a0.toList)=true then (some 1) else (some 0))))))
set_option maxHeartbeats 8000000 in
set_option maxRecDepth 100000 in
theorem cmp_Compare_string.calls (a0:ByteArray) (a1:ByteArray) (r:Int) (w:World) (h:cmp_Compare_string.f a0 a1=some r) :
 Calls Tryd.prog 54 #[.string a0,.string a1] w fun e w'=>e = .returned (.int .i64 r)∧Drawn0 w w':=by
 have H:((cmp_isNaN_string.f a0).bind fun t101=>((cmp_isNaN_string.f a1).bind fun t102=>(if t101=true then (if t102=true then (some 0) else (some (-1))) else (if t102=true then (some 1) else (if (Op.bytesLess a0.toList a1.toList)=true then (some (-1)) else (if (Op.bytesLess a1.toList a0.toList)=true then (some 1) else (some 0)))))))=some r:=h
 clear h
 replace H:=Option.bind_eq_some_iff.mp H
 obtain ⟨t101,A30,H⟩:=H
 replace H:((cmp_isNaN_string.f a1).bind fun t102=>(if t101=true then (if t102=true then (some 0) else (some (-1))) else (if t102=true then (some 1) else (if (Op.bytesLess a0.toList a1.toList)=true then (some (-1)) else (if (Op.bytesLess a1.toList a0.toList)=true then (some 1) else (some 0))))))=some r:=H
 have A3:=Aside0.mk A30
 clear A30
 replace H:=Option.bind_eq_some_iff.mp H
 obtain ⟨t102,A40,H⟩:=H
 replace H:(if t101=true then (if t102=true then (some 0) else (some (-1))) else (if t102=true then (some 1) else (if (Op.bytesLess a0.toList a1.toList)=true then (some (-1)) else (if (Op.bytesLess a1.toList a0.toList)=true then (some 1) else (some 0)))))=some r:=H
 have A4:=Aside0.mk A40
 clear A40
 by_cases c5:t101=true
 ·subst c5
  have H1:(if t102=true then (some 0) else (some (-1)))=some r:=by rw [if_pos rfl] at H;exact H
  clear H
  have H:=H1
  clear H1
  by_cases c6:t102=true
  ·subst c6
   have H1:(some 0)=some r:=by rw [if_pos rfl] at H;exact H
   clear H
   have H:=H1
   clear H1
   obtain rfl:=Option.some.inj H
   go_enter Tryd.func54,Tryd.ntmps54
   go_wp2_with (first|((with_reducible refine gate_callee (f:=68) rfl ?_);refine goesL_ (some 8) rfl rfl Tryd.func68 zaq rfl #[.string a0] rfl zd ?_;(with_reducible refine (cmp_isNaN_string.calls a0 true _ A3.out).mono ?_);rintro e w' ⟨rfl,⟨nd,rfl⟩⟩;refine ⟨_,rfl,?_⟩)|((with_reducible refine gate_callee (f:=68) rfl ?_);refine goesL_ (some 10) rfl rfl Tryd.func68 zaq rfl #[.string a1] rfl zd ?_;(with_reducible refine (cmp_isNaN_string.calls a1 true _ A4.out).mono ?_);rintro e w' ⟨rfl,⟨nd,rfl⟩⟩;refine ⟨_,rfl,?_⟩))
   go_ret
   exact ⟨zi,zn⟩
  ·replace c6:=Bool.eq_false_iff.mpr c6
   subst c6
   have H1:(some (-1))=some r:=by rw [if_neg (show ¬ (false=true) by decide)] at H;exact H
   clear H
   have H:=H1
   clear H1
   obtain rfl:=Option.some.inj H
   go_enter Tryd.func54,Tryd.ntmps54
   go_wp2_with (first|((with_reducible refine gate_callee (f:=68) rfl ?_);refine goesL_ (some 8) rfl rfl Tryd.func68 zaq rfl #[.string a0] rfl zd ?_;(with_reducible refine (cmp_isNaN_string.calls a0 true _ A3.out).mono ?_);rintro e w' ⟨rfl,⟨nd,rfl⟩⟩;refine ⟨_,rfl,?_⟩)|((with_reducible refine gate_callee (f:=68) rfl ?_);refine goesL_ (some 10) rfl rfl Tryd.func68 zaq rfl #[.string a1] rfl zd ?_;(with_reducible refine (cmp_isNaN_string.calls a1 false _ A4.out).mono ?_);rintro e w' ⟨rfl,⟨nd,rfl⟩⟩;refine ⟨_,rfl,?_⟩))
   go_ret
   exact ⟨zi,zn⟩
 ·replace c5:=Bool.eq_false_iff.mpr c5
  subst c5
  have H1:(if t102=true then (some 1) else (if (Op.bytesLess a0.toList a1.toList)=true then (some (-1)) else (if (Op.bytesLess a1.toList a0.toList)=true then (some 1) else (some 0))))=some r:=by rw [if_neg (show ¬ (false=true) by decide)] at H;exact H
  clear H
  have H:=H1
  clear H1
  by_cases c7:t102=true
  ·subst c7
   have H1:(some 1)=some r:=by rw [if_pos rfl] at H;exact H
   clear H
   have H:=H1
   clear H1
   obtain rfl:=Option.some.inj H
   go_enter Tryd.func54,Tryd.ntmps54
   go_wp2_with (first|((with_reducible refine gate_callee (f:=68) rfl ?_);refine goesL_ (some 8) rfl rfl Tryd.func68 zaq rfl #[.string a0] rfl zd ?_;(with_reducible refine (cmp_isNaN_string.calls a0 false _ A3.out).mono ?_);rintro e w' ⟨rfl,⟨nd,rfl⟩⟩;refine ⟨_,rfl,?_⟩)|((with_reducible refine gate_callee (f:=68) rfl ?_);refine goesL_ (some 10) rfl rfl Tryd.func68 zaq rfl #[.string a1] rfl zd ?_;(with_reducible refine (cmp_isNaN_string.calls a1 true _ A4.out).mono ?_);rintro e w' ⟨rfl,⟨nd,rfl⟩⟩;refine ⟨_,rfl,?_⟩))
   go_ret
   exact ⟨zi,zn⟩
  ·replace c7:=Bool.eq_false_iff.mpr c7
   subst c7
   have H1:(if (Op.bytesLess a0.toList a1.toList)=true then (some (-1)) else (if (Op.bytesLess a1.toList a0.toList)=true then (some 1) else (some 0)))=some r:=by rw [if_neg (show ¬ (false=true) by decide)] at H;exact H
   clear H
   have H:=H1
   clear H1
   by_cases c8:(Op.bytesLess a0.toList a1.toList)=true
   ·rw [if_pos c8] at H
    have c8b0:(Op.bytesLess a0.toList a1.toList)=true:=c8
    clear c8
    obtain rfl:=Option.some.inj H
    go_enter Tryd.func54,Tryd.ntmps54
    go_wp2_with (first|((with_reducible refine gate_callee (f:=68) rfl ?_);refine goesL_ (some 8) rfl rfl Tryd.func68 zaq rfl #[.string a0] rfl zd ?_;(with_reducible refine (cmp_isNaN_string.calls a0 false _ A3.out).mono ?_);rintro e w' ⟨rfl,⟨nd,rfl⟩⟩;refine ⟨_,rfl,?_⟩)|((with_reducible refine gate_callee (f:=68) rfl ?_);refine goesL_ (some 10) rfl rfl Tryd.func68 zaq rfl #[.string a1] rfl zd ?_;(with_reducible refine (cmp_isNaN_string.calls a1 false _ A4.out).mono ?_);rintro e w' ⟨rfl,⟨nd,rfl⟩⟩;refine ⟨_,rfl,?_⟩))
    go_ret
    exact ⟨zi,zn⟩
   ·rw [if_neg c8] at H
    have c8b0:(Op.bytesLess a0.toList a1.toList)=false:=by simpa using c8
    clear c8
    by_cases c9:(Op.bytesLess a1.toList a0.toList)=true
    ·rw [if_pos c9] at H
     have c9b0:(Op.bytesLess a1.toList a0.toList)=true:=c9
     clear c9
     obtain rfl:=Option.some.inj H
     go_enter Tryd.func54,Tryd.ntmps54
     go_wp2_with (first|((with_reducible refine gate_callee (f:=68) rfl ?_);refine goesL_ (some 8) rfl rfl Tryd.func68 zaq rfl #[.string a0] rfl zd ?_;(with_reducible refine (cmp_isNaN_string.calls a0 false _ A3.out).mono ?_);rintro e w' ⟨rfl,⟨nd,rfl⟩⟩;refine ⟨_,rfl,?_⟩)|((with_reducible refine gate_callee (f:=68) rfl ?_);refine goesL_ (some 10) rfl rfl Tryd.func68 zaq rfl #[.string a1] rfl zd ?_;(with_reducible refine (cmp_isNaN_string.calls a1 false _ A4.out).mono ?_);rintro e w' ⟨rfl,⟨nd,rfl⟩⟩;refine ⟨_,rfl,?_⟩))
     go_ret
     exact ⟨zi,zn⟩
    ·rw [if_neg c9] at H
     have c9b0:(Op.bytesLess a1.toList a0.toList)=false:=by simpa using c9
     clear c9
     obtain rfl:=Option.some.inj H
     go_enter Tryd.func54,Tryd.ntmps54
     go_wp2_with (first|((with_reducible refine gate_callee (f:=68) rfl ?_);refine goesL_ (some 8) rfl rfl Tryd.func68 zaq rfl #[.string a0] rfl zd ?_;(with_reducible refine (cmp_isNaN_string.calls a0 false _ A3.out).mono ?_);rintro e w' ⟨rfl,⟨nd,rfl⟩⟩;refine ⟨_,rfl,?_⟩)|((with_reducible refine gate_callee (f:=68) rfl ?_);refine goesL_ (some 10) rfl rfl Tryd.func68 zaq rfl #[.string a1] rfl zd ?_;(with_reducible refine (cmp_isNaN_string.calls a1 false _ A4.out).mono ?_);rintro e w' ⟨rfl,⟨nd,rfl⟩⟩;refine ⟨_,rfl,?_⟩))
     go_ret
     exact ⟨zi,zn⟩

def impl_compareSettings.f (a0_0:ByteArray) (a0_1:Int) (a1_0:ByteArray) (a1_1:Int):Option (Int):=(cmp_Compare_string.f a0_0 a1_0).bind fun t103=>(some t103)
set_option maxHeartbeats 8000000 in
set_option maxRecDepth 100000 in
theorem impl_compareSettings.calls (a0_0:ByteArray) (a0_1:Int) (a1_0:ByteArray) (a1_1:Int) (r:Int) (w:World) (h:impl_compareSettings.f a0_0 a0_1 a1_0 a1_1=some r) :
 Calls Tryd.prog 31 #[.agg #[.string a0_0,.int .i64 a0_1],.agg #[.string a1_0,.int .i64 a1_1]] w fun e w'=>e = .returned (.int .i64 r)∧Below w.heap.size w w':=by
 have hu57:=Tryd.underlying57
 have HB:=Aside0.mk (Below.refl w.heap.size w)
 have H:((cmp_Compare_string.f a0_0 a1_0).bind fun t103=>(some t103))=some r:=h
 clear h
 replace H:=Option.bind_eq_some_iff.mp H
 obtain ⟨t103,A30,H⟩:=H
 replace H:(some t103)=some r:=H
 have A3:=Aside0.mk A30
 clear A30
 obtain rfl:=Option.some.inj H
 go_enter Tryd.func31,Tryd.ntmps31
 go_wp2_with (first|((with_reducible refine gate_dst (N:=2) rfl ?_);refine box_event ?hg (N:=2) ?hd (cs:=#[.string a0_0,.int .i64 a0_1]) (t:=57) ?hr ?_;(case hd=>rfl);(case hg=>rfl);(case hr=>exact zv);intro gb101 hg w4 hbox hb;have n0_:=Aside0.mk (below_step za hb);have n1_:=Aside0.mk (hbox);have n2_:=Aside0.mk ((by rw [hg];exact (below_size za):w.heap.size≤gb101));have n3_:=Aside0.mk ((by rw [hg];exact (below_size za):w.heap.size≤gb101));clear HB;have HB:=n0_;have BK101:=n1_;have GW101:=n2_;have GE101:=n3_;clear n0_ n1_ n2_ n3_;clear hb hbox hg)|((with_reducible refine gate_dst (N:=3) rfl ?_);refine box_event ?hg (N:=3) ?hd (cs:=#[.string a1_0,.int .i64 a1_1]) (t:=57) ?hr ?_;(case hd=>rfl);(case hg=>rfl);(case hr=>exact zv);intro gb102 hg w5 hbox hb;have n0_:=Aside0.mk (blk_below (g:=gb101) (o:=.cells #[.string a0_0,.int .i64 a0_1] 57 (0,0)) zh hb);have n1_:=Aside0.mk (below_step zc hb);have n2_:=Aside0.mk (hbox);have n3_:=Aside0.mk ((by rw [hg];exact (below_size zc):w.heap.size≤gb102));have n4_:=Aside0.mk ((by rw [hg];exact (below_size zc):w.heap.size≤gb102));have n5_:=Aside0.mk ((by rw [hg];exact Nat.ne_of_lt (blk_lt (g:=gb101) (o:=.cells #[.string a0_0,.int .i64 a0_1] 57 (0,0)) zh):gb101≠gb102));have n6_:=Aside0.mk ((by rw [hg];exact Nat.ne_of_gt (blk_lt (g:=gb101) (o:=.cells #[.string a0_0,.int .i64 a0_1] 57 (0,0)) zh):gb102≠gb101));clear BK101;clear HB;have BK101:=n0_;have HB:=n1_;have BK102:=n2_;have GW102:=n3_;have GE102:=n4_;have NB101_102:=n5_;have NB102_101:=n6_;clear n0_ n1_ n2_ n3_ n4_ n5_ n6_;clear hb hbox hg;have hnb6:=NB101_102.out;have hnc6:=NB102_101.out;have hcz7_0:w5.cell? ⟨gb101,0,none⟩=some (.string a0_0):=(blk_cell BK101.out 0).trans rfl;have hcz7_1:w5.cell? ⟨gb101,1,none⟩=some (.int .i64 a0_1):=(blk_cell BK101.out 1).trans rfl;have hfz7_0:=blk_frozen BK101.out 0;have hfz7_1:=blk_frozen BK101.out 1;have hcz8_0:w5.cell? ⟨gb102,0,none⟩=some (.string a1_0):=(blk_cell BK102.out 0).trans rfl;have hcz8_1:w5.cell? ⟨gb102,1,none⟩=some (.int .i64 a1_1):=(blk_cell BK102.out 1).trans rfl;have hfz8_0:=blk_frozen BK102.out 0;have hfz8_1:=blk_frozen BK102.out 1)|((with_reducible refine gate_callee (f:=54) rfl ?_);refine goesL_ (some 9) rfl rfl Tryd.func54 zaq rfl #[.string a0_0,.string a1_0] rfl zd ?_;(with_reducible refine (cmp_Compare_string.calls a0_0 a1_0 t103 _ A3.out).mono ?_);rintro e w' ⟨rfl,⟨nd,rfl⟩⟩;refine ⟨_,rfl,?_⟩))
 go_ret
 exact ⟨zj,by repeat (first|(with_reducible first|exact HB.out|apply below_alloc|apply pw_below_drewN|apply below_drew1|refine below_set ?_ GE101.out|refine below_set ?_ GE102.out)|exact HB.out)⟩
end Go.Proofs.YtocegmkifmdlcaaDoor.P

namespace Go.Proofs.YtocegmkifmdlcaaDoorL
open Go.RowKit Go.Proofs.YtocegmkifmdlcaaDoorW.PrintWords
set_option linter.unusedVariables false
set_option linter.unusedSimpArgs false

theorem wrap_id {x : Int} (h0 : -9223372036854775808 ≤ x) (h1 : x ≤ 9223372036854775807) : wrap64 x = x := by unfold wrap64; omega
theorem wrap_succ {i n : Nat} (h : i < n) (hn : n ≤ 4611686018427387904) : wrap64 ((i : Int) + 1) = ((i + 1 : Nat) : Int) := by
  rw [wrap_id (by omega) (by omega)]; omega
theorem lt_cast {i n : Nat} (h : i < n) : (i : Int) < (n : Int) := by omega
theorem nn_cast (i : Nat) : 0 ≤ (i : Int) := by omega
theorem nlt_cast (n : Nat) : ¬ ((n : Int) < (n : Int)) := by omega
theorem drop_cons {α : Type} {l : List α} {i : Nat} (h : i < l.length) : l.drop i = l[i] :: l.drop (i + 1) := List.drop_eq_getElem_cons h

/-- A loop over a list: at each element it answers, or it goes on behind it. G: what it answers from a rest on. -/
theorem list_loop {α σ ρ : Type} (L : Nat → σ → Int → Option ρ) (l : List α) (G : List α → σ → ρ) (Inv : Nat → σ → Prop) (B : Nat)
    (step : ∀ (k i : Nat) (hi : i < l.length) (s : σ), Inv i s → B ≤ k →
      L (k + 1) s (i : Int) = some (G (l[i] :: l.drop (i + 1)) s) ∨ ∃ s', Inv (i + 1) s' ∧ G (l[i] :: l.drop (i + 1)) s = G (l.drop (i + 1)) s' ∧ L (k + 1) s (i : Int) = L k s' ((i + 1 : Nat) : Int))
    (stop : ∀ (k : Nat) (s : σ), Inv l.length s → L (k + 1) s (l.length : Int) = some (G [] s)) :
    ∀ (k : Nat) (s : σ), B + l.length < k → Inv 0 s → L k s 0 = some (G l s) := by
  have main : ∀ (d k i : Nat) (s : σ), i + d = l.length → B + d < k → Inv i s → L k s (i : Int) = some (G (l.drop i) s) := by
    intro d
    induction d with
    | zero =>
      intro k i s hi hk hI
      obtain ⟨k, rfl⟩ : ∃ m, k = m + 1 := ⟨k - 1, by omega⟩
      have : i = l.length := by omega
      subst this
      rw [stop k s hI, List.drop_length]
    | succ d ih =>
      intro k i s hi hk hI
      obtain ⟨k, rfl⟩ : ∃ m, k = m + 1 := ⟨k - 1, by omega⟩
      have hlt : i < l.length := by omega
      rw [drop_cons hlt]
      rcases step k i hlt s hI (by omega) with h | ⟨s', hI', hG, hL⟩
      · exact h
      · rw [hL, hG]
        exact ih k (i + 1) s' (by omega) (by omega) hI'
  intro k s hk hI
  have := main l.length k 0 s (by omega) hk hI
  simpa using this

/-- The same without a state. -/
theorem list_loop0 {α ρ : Type} (L : Nat → Int → Option ρ) (l : List α) (G : List α → ρ) (B : Nat)
    (step : ∀ (k i : Nat) (hi : i < l.length), B ≤ k →
      L (k + 1) (i : Int) = some (G (l[i] :: l.drop (i + 1))) ∨ (G (l[i] :: l.drop (i + 1)) = G (l.drop (i + 1)) ∧ L (k + 1) (i : Int) = L k ((i + 1 : Nat) : Int)))
    (stop : ∀ (k : Nat), L (k + 1) (l.length : Int) = some (G [])) :
    ∀ (k : Nat), B + l.length < k → L k 0 = some (G l) := by
  intro k hk
  exact list_loop (σ := Unit) (fun k _ i => L k i) l (fun l _ => G l) (fun _ _ => True) B (fun k i hi s _ hB => by
    rcases step k i hi hB with h | ⟨h1, h2⟩
    · exact .inl h
    · exact .inr ⟨(), trivial, h1, h2⟩) (fun k _ _ => stop k) k () hk trivial

/-- A loop that asks each index below n and stops at the first that says no. -/
theorem all_loop (L : Nat → Int → Option Bool) (n : Nat) (p : Nat → Bool) (fin : Bool) (B : Nat)
    (step : ∀ (k i : Nat), i < n → B ≤ k → L (k + 1) (i : Int) = if p i = true then L k ((i + 1 : Nat) : Int) else some false)
    (stop : ∀ (k : Nat), B ≤ k → L (k + 1) (n : Int) = some fin) :
    ∀ (k : Nat), B + n < k → L k 0 = some ((List.range n).all p && fin) := by
  have main : ∀ (d k i : Nat), i + d = n → B + d < k → L k (i : Int) = some ((List.range' i d).all p && fin) := by
    intro d
    induction d with
    | zero =>
      intro k i hi hk
      obtain ⟨k, rfl⟩ : ∃ m, k = m + 1 := ⟨k - 1, by omega⟩
      obtain rfl : i = n := by omega
      rw [stop k (by omega)]; simp
    | succ d ih =>
      intro k i hi hk
      obtain ⟨k, rfl⟩ : ∃ m, k = m + 1 := ⟨k - 1, by omega⟩
      rw [step k i (by omega) (by omega), List.range'_succ, List.all_cons]
      by_cases h : p i = true
      · rw [if_pos h, ih k (i + 1) (by omega) (by omega), h]; simp
      · rw [if_neg h]; simp [h]
  intro k hk
  have := main n k 0 (by omega) hk
  rw [List.range_eq_range']
  exact this

theorem pred_cast {i n : Nat} (h0 : 0 < i) (h : i < n) (hn : n ≤ 4611686018427387904) : wrap64 ((i : Int) - 1) = ((i - 1 : Nat) : Int) := by
  rw [wrap_id (by omega) (by omega)]; omega

theorem rd_get {l : List Int} {i : Nat} (h : i < l.length) : rd l (i : Int) = l[i] := by
  simp [rd, List.getD_eq_getElem?_getD, List.getElem?_eq_getElem h]
end Go.Proofs.YtocegmkifmdlcaaDoorL

namespace Go.Proofs.YtocegmkifmdlcaaDoor.P
open Go.RowKit Go.Proofs.YtocegmkifmdlcaaDoorW.PrintWords
set_option linter.unusedVariables false
theorem ins_w {n : Nat} (h : n ≤ 1000000) : wrap64 ((n : Int) + 1) = (n : Int) + 1 := Go.Proofs.YtocegmkifmdlcaaDoorL.wrap_id (by omega) (by omega)
theorem ins_copy {P : Program} (w : World) (dT sT ty elem : TypeId) (z : Nat) (g o dLen dCap : Nat) (a : Addr) (sLen sCap : Nat) (cur : Array Value) (t : TypeId) (cs : List Value)
    (hu : P.underlying dT = some (.slice elem)) (hs : (P.info? elem).map (·.size) = some z)
    (hg : w.heap[g]? = some (.cells cur t (0, 0))) (hn : cs.length = Nat.min sLen dLen * z)
    (hsrc : ∀ j v, cs[j]? = some v → w.cell? (a.add j) = some v) (hfit : o + cs.length ≤ cur.size) (h1 : ∀ v ∈ cs, v.oneCell' = true) :
    (Builtin.copy_ #[dT, sT] ty #[.slice (some ⟨g, o, none⟩) dLen dCap, .slice (some a) sLen sCap]).run P w =
      .ok (goInt (Nat.min sLen dLen)) (w.setRow g (cur.toList.take o ++ cs ++ cur.toList.drop (o + cs.length)).toArray) := by
  have hl := run_loadCells_list (P := P) w a cs hsrc
  have hst := run_storeCells_at P g o t cs 0 cur w hg (by simpa using hfit) h1
  cases hq : P.info? elem with
  | none => simp [hq] at hs
  | some i =>
    have hi : i.size = z := by simpa [hq] using hs
    rw [hn] at hl
    simp [Builtin.copy_, run_underlying hu, Builtin.lenOf, Builtin.firstCells, sizeOf, typeInfo, hq, hi, hl, hst]
/-- Cells of a known block. -/
theorem ins_cell {w : World} {g : Nat} {cur : Array Value} {t : TypeId} {fz : Nat × Nat} (hg : w.heap[g]? = some (.cells cur t fz)) {o j : Nat} {u : Value} (h : (cur.toList.drop o)[j]? = some u) : w.cell? ((⟨g, o, none⟩ : Addr).add j) = some u := by
  have hadd : (⟨g, o, none⟩ : Addr).add j = ⟨g, o + j, none⟩ := by unfold Addr.add; split <;> simp_all
  rw [hadd]
  simp only [World.cell?, hg]
  rw [List.getElem?_drop] at h
  rw [← Array.getElem?_toList]; exact h
theorem ins_take {l xs : List Value} {m : Nat} (h : l.take m = xs) {a j : Nat} {u : Value} (hj : (xs.drop a)[j]? = some u) : (l.drop a)[j]? = some u := by
  subst h
  rw [List.getElem?_drop] at hj ⊢
  rcases Nat.lt_or_ge (a + j) m with h | h
  · rwa [List.getElem?_take_of_lt h] at hj
  · rw [List.getElem?_eq_none (by rw [List.length_take]; omega)] at hj; cases hj
/-- The row behind two copies in place: the elements from a on moved by b cells, then the new one laid. -/
theorem ins_room {l xs news : List Value} {a b m : Nat} (hx : l.take m = xs) (hxl : xs.length = m) (ha : a ≤ m) (hb : news.length = b) (hl : m + b ≤ l.length) :
    (((l.take (a + b) ++ xs.drop a ++ l.drop (a + b + (xs.drop a).length)).take a ++ news ++ (l.take (a + b) ++ xs.drop a ++ l.drop (a + b + (xs.drop a).length)).drop (a + news.length)).take (m + b)) = xs.take a ++ news ++ xs.drop a ∧ (l.take (a + b) ++ xs.drop a ++ l.drop (a + b + (xs.drop a).length)).length = l.length := by
  have h1 : (l.take (a + b)).length = a + b := by rw [List.length_take]; omega
  have h2 : (xs.drop a).length = m - a := by rw [List.length_drop]; omega
  constructor
  · have e1 : (l.take (a + b) ++ xs.drop a ++ l.drop (a + b + (xs.drop a).length)).take a = xs.take a := by
      rw [List.append_assoc, List.take_append_of_le_length zbn, List.take_take, Nat.min_eq_left zbn, ← hx, List.take_take, Nat.min_eq_left ha]
    have e2 : (l.take (a + b) ++ xs.drop a ++ l.drop (a + b + (xs.drop a).length)).drop (a + news.length) = xs.drop a ++ l.drop (a + b + (xs.drop a).length) := by
      rw [List.append_assoc, hb, List.drop_append_of_le_length zbn, List.drop_eq_nil_of_le zbn, List.nil_append]
    rw [e1, e2]
    have h3 : (xs.take a).length = a := by rw [List.length_take]; omega
    rw [← List.append_assoc, List.take_append_of_le_length (by rw [List.length_append, List.length_append, h3, hb, h2]; omega), List.take_of_length_le (by rw [List.length_append, List.length_append, h3, hb, h2]; omega)]
  · rw [List.length_append, List.length_append, h1, h2, List.length_drop]; omega
/-- The row of a new block behind two copies: zeros from a on, the new element laid, then those behind it. -/
theorem ins_grow {l xs news : List Value} {a b m : Nat} (hp : l.take a = xs.take a) (hxl : xs.length = m) (ha : a ≤ m) (hb : news.length = b) (hl : m + b ≤ l.length) :
    (((l.take a ++ news ++ l.drop (a + news.length)).take (a + b) ++ xs.drop a ++ (l.take a ++ news ++ l.drop (a + news.length)).drop (a + b + (xs.drop a).length)).take (m + b)) = xs.take a ++ news ++ xs.drop a ∧ ((l.take a ++ news ++ l.drop (a + news.length)).length = l.length) := by
  have h1 : (l.take a).length = a := by rw [List.length_take]; omega
  have h2 : (xs.drop a).length = m - a := by rw [List.length_drop]; omega
  constructor
  · have e1 : (l.take a ++ news ++ l.drop (a + news.length)).take (a + b) = xs.take a ++ news := by
      rw [List.take_append_of_le_length (by rw [List.length_append]; omega), List.take_of_length_le (by rw [List.length_append]; omega), hp]
    rw [e1]
    have h3 : (xs.take a).length = a := by rw [List.length_take]; omega
    rw [List.take_append_of_le_length (by rw [List.length_append, List.length_append, h3, hb, h2]; omega), List.take_of_length_le (by rw [List.length_append, List.length_append, h3, hb, h2]; omega)]
  · rw [List.length_append, List.length_append, h1, List.length_drop]; omega
theorem ins_from {P : Program} (t e : TypeId) {i : TypeInfo} (ht : P.underlying t = some (.slice e)) (hi : P.info? e = some i) (z : Nat) (hz : i.size = z) (g n c j : Nat) (x : Int) (hx : x = (j : Int)) (hn : j ≤ n) (hc : j ≠ c) :
    ∀ W : World, (Instr.slice t (.slice (some ⟨g, 0, none⟩) n c) (some (.int .i64 x)) none none).run P W = .ok (.slice (some ⟨g, j * z, none⟩) (n - j) (c - j)) W := by
  intro W
  have h := cut_from (P := P) t e .i64 ht hi z hz (some ⟨g, 0, none⟩) n c x zbn zbn W
  have hj : x.toNat = j := by omega
  have hadd : (⟨g, 0, none⟩ : Addr).add (j * z) = ⟨g, j * z, none⟩ := by unfold Addr.add; split <;> simp_all
  rw [h, hj, if_neg zbn, Option.map_some, hadd]
theorem ins_to {P : Program} (t e : TypeId) {i : TypeInfo} (ht : P.underlying t = some (.slice e)) (hi : P.info? e = some i) (A : Option Addr) (n c j : Nat) (x : Int) (hx : x = (j : Int)) (hc : j ≤ c) :
    ∀ W : World, (Instr.slice t (.slice A n c) none (some (.int .i64 x)) none).run P W = .ok (.slice A j c) W := by
  intro W
  have hel : P.elem t = e := by simp [Program.elem, ht]
  have hu : P.underlying t = some (.slice (P.elem t)) := by rw [hel]; exact ht
  have ha : (A.map fun x => x.add 0) = A := by cases A <;> simp [Addr.add]
  have hj : x.toNat = j := by omega
  rw [run_slice_h W t A n c hu .i64 x zbn zbn, hel]
  simp [sizeOf, typeInfo, hi, sliced, Result.andThen, ha, hj]
theorem ins_copy_event {P : Program} {ops : Array Oper} {rest : List Oper} {o : Oper} {a : Act} {Q : Exit → Act → World → Prop} {W w1 : World} (hgd : o.guard = none) (s x : Operand) (t u : TypeId) (ho : o.op = .call { callee := .builtin .copy, args := #[s, x], argTypes := #[t, u] }) {v y v' : Value} (hs : a.eval s = v) (hx : a.eval x = y)
    (hr : (Builtin.copy_ #[t, u] o.type #[v, y]).run P W = .ok v' w1) (h : wpList P ops Q rest (a.put o.dst v') w1) : wpList P ops Q (o :: rest) a W := by
  refine Kd.event_run hgd ?_ h
  unfold execOp
  simp only [ho, resolve, invoke, builtin, Sem.run_bind, Sem.run_pure, Result.andThen_ok, List.map_toArray, List.map_cons, List.map_nil, hs, hx, hr]
theorem ins_copy_step {P : Program} {ops : Array Oper} {o : Oper} {a : Act} {Q : Exit → Act → World → Prop} {Kc : Act → World → Prop} {E : Prop} {W w1 : World} (hgd : o.guard = none) (s x : Operand) (t u : TypeId) (ho : o.op = .call { callee := .builtin .copy, args := #[s, x], argTypes := #[t, u] }) {v y v' : Value} (hs : a.eval s = v) (hx : a.eval x = y)
    (hr : (Builtin.copy_ #[t, u] o.type #[v, y]).run P W = .ok v' w1) (h : Kc (a.put o.dst v') w1) : if Region.wanted o (yielded ops a.tmps) = true then Oper.wp P o a W Kc Q else E := by
  have hw : Region.wanted o (yielded ops a.tmps) = true := by simp [Region.wanted, hgd]
  rw [if_pos hw]
  unfold Oper.wp execOp
  simp only [ho, resolve, invoke, builtin, Sem.run_bind, Sem.run_pure, Result.andThen_ok, List.map_toArray, List.map_cons, List.map_nil, hs, hx, hr]
  exact h
/-- Two stores of a row behind one draw: what has changed. -/
theorem ins_grown {w W1 W2 : World} {g : Nat} {a b : Array Value} (h1 : W1 = w.drew.setRow g a) (h2 : W2 = W1.setRow g b) : w.grownBy W2 (some g) := by
  subst h1; subst h2
  refine ⟨rfl, rfl, rfl, zca, fun k _ hk => ?_⟩
  have hne : k ≠ g := fun e => hk (by rw [e])
  rw [setRow_other _ g k _ hne, setRow_other _ g k _ hne]
  rfl
theorem ins_w2 {n i : Nat} (h : n ≤ 1000000) (hi : i ≤ n) : wrap64 ((n : Int) + 1 - (i : Int)) = (n : Int) + 1 - (i : Int) := Go.Proofs.YtocegmkifmdlcaaDoorL.wrap_id (by omega) (by omega)
/-- A new block, two stores of its row: what has changed. -/
theorem ins_grown2 {w W1 W2 W3 : World} {o : Obj} {a b : Array Value} {row : Option Nat} (h1 : W1 = w.drew.alloc o) (h2 : W2 = W1.setRow w.heap.size a) (h3 : W3 = W2.drew.setRow w.heap.size b) : w.grownBy W3 row := by
  subst h1; subst h2; subst h3
  have h := World.grownBy_alloc w.drew o row
  refine ⟨rfl, rfl, rfl, ?_, fun k hk hr => ?_⟩
  · have hs := h.size
    simp at hs ⊢
  · have hne : k ≠ w.heap.size := Nat.ne_of_lt hk
    rw [setRow_other _ w.heap.size k _ hne]
    show ((w.drew.alloc o).setRow w.heap.size a).heap[k]? = _
    rw [setRow_other _ w.heap.size k _ hne]
    exact h.block k hk hr
theorem ins_one {α : Type} {R : α → List Value → Prop} {size : Nat} {ps : List α} {cs : List Value} (h : Reps R size ps cs) (hs0 : 0 < size) (hR : ∀ p c, R p c → ∀ u ∈ c, u.oneCell' = true) : ∀ u ∈ cs, u.oneCell' = true := by
  intro u hu
  obtain ⟨j, hj, rfl⟩ := List.getElem_of_mem hu
  have hjp : j / size < ps.length := by rw [Nat.div_lt_iff_lt_mul hs0, ← h.1]; exact hj
  have hp := h.2 (j / size) ps[j / size] (List.getElem?_eq_getElem hjp)
  refine hR _ _ hp _ ?_
  have h1 := Nat.div_add_mod j size
  have h2 := Nat.mod_lt j hs0
  rw [List.mem_iff_getElem?]
  refine ⟨j % size, ?_⟩
  rw [List.getElem?_take_of_lt h2, List.getElem?_drop, show j / size * size + j % size = j by rw [Nat.mul_comm]; exact h1, List.getElem?_eq_getElem hj]
/-- A call of a function that is a value at hand: a step of a region that draws. -/
theorem goesV_ {P : Program} {ops : Array Oper} {Q : Exit → Act → World → Prop} {oi : Oper} {N : Option Tmp} {a : Act} {w : World} {K : Act → World → Prop} {f : FuncId} {fn : Func} {q : Tmp} {aa_ : Array Operand} {ts : Array TypeId} (hf : P.funcs[f]? = some fn) (hname : (fn.name == "runtime.NumGoroutine") = false) (hb : fn.body.isSome = true) (args : Array Value)
    (hw : Region.wanted oi (yielded ops a.tmps) = true) (hN : oi.dst = N) (hop : oi.op = .call { callee := .value (.tmp q), args := aa_, argTypes := ts }) (hv : a.eval (.tmp q) = .func (.func f) #[] #[]) (hargs : aa_.map a.eval = args)
    (h : Calls P f args w fun e w' => ∃ v, e = .returned v ∧ K (a.put N v) w') : if Region.wanted oi (yielded ops a.tmps) = true then Oper.wp P oi a w K Q else K (a.put N undef) w := by
  refine Go.Proofs.YtocegmkifmdlcaaDoorW.PrintLast.call_ f args hw hN ?_ h
  have he := Go.Proofs.YtocegmkifmdlcaaDoorW.PrintLast.enters_ hf hname hb args w
  unfold execOp
  simp [hop, resolve, Deferred.ofValue, invoke, hv, hargs, he]
end Go.Proofs.YtocegmkifmdlcaaDoor.P

namespace Go.Proofs.YtocegmkifmdlcaaDoor.P
open Go.RowKit Go.Proofs.YtocegmkifmdlcaaDoorW.PrintWords Go.Proofs.YtocegmkifmdlcaaDoorW.PrintLast Go.Proofs.YtocegmkifmdlcaaDoorW.PrintMore
attribute [local go_sem] max2_int min2_int max_two min_two max_three min_three max_four min_four str_leq str_gtr str_geq
set_option linter.unusedVariables false
set_option linter.unusedSimpArgs false
def slices_BinarySearchFunc_S_impl_Setting.l0:Nat→List (S57)→Int→Int→Int→ByteArray→Int→Option (Int × Bool)
 | 0,_,_,_,_,_,_=>none
 | k+1,x0,x8,x9,x10,x102000,x102001=>if x9<x10 then (if 0≤(wrap64 ((IntKind.u64.wrap (wrap64 (x9+x10))) / 2)) then (if (wrap64 ((IntKind.u64.wrap (wrap64 (x9+x10))) / 2))<(x0.length:Int) then ((impl_compareSettings.f ((rd_T57 x0 (wrap64 ((IntKind.u64.wrap (wrap64 (x9+x10))) / 2))).f0) ((rd_T57 x0 (wrap64 ((IntKind.u64.wrap (wrap64 (x9+x10))) / 2))).f1) x102000 x102001).bind fun t103=>(if t103<0 then (slices_BinarySearchFunc_S_impl_Setting.l0 k x0 x8 (wrap64 ((wrap64 ((IntKind.u64.wrap (wrap64 (x9+x10))) / 2))+1)) x10 x102000 x102001) else (slices_BinarySearchFunc_S_impl_Setting.l0 k x0 x8 x9 (wrap64 ((IntKind.u64.wrap (wrap64 (x9+x10))) / 2)) x102000 x102001))) else (none)) else (none)) else (if x9<x8 then (if 0≤x9 then (if x9<(x0.length:Int) then ((impl_compareSettings.f ((rd_T57 x0 x9).f0) ((rd_T57 x0 x9).f1) x102000 x102001).bind fun t105=>(some (x9,(t105 == 0)))) else (none)) else (none)) else (some (x9,false)))
def slices_BinarySearchFunc_S_impl_Setting.f (k:Nat) (l0:List (S57)) (a1_0:ByteArray) (a1_1:Int) (a2:Int):Option (Int × Bool):=slices_BinarySearchFunc_S_impl_Setting.l0 k l0 (l0.length:Int) 0 (l0.length:Int) a1_0 a1_1
def slices_BinarySearchFunc_S_impl_Setting.T5:Bool × List (List Nat × List Nat):=(true,[([],[]),([],[]),([],[]),([1,2],[1,2]),([3],[3]),([],[]),([0,4,5],[0,4,5]),([6],[6])])
def slices_BinarySearchFunc_S_impl_Setting.B5:List Nat:=[0,0,0,6,14,0,63,127]
theorem slices_BinarySearchFunc_S_impl_Setting.tab5:rtab .any (opsOf Tryd.f30 5)=slices_BinarySearchFunc_S_impl_Setting.T5:=by kernel_rfl
theorem slices_BinarySearchFunc_S_impl_Setting.bits5:waitsOk slices_BinarySearchFunc_S_impl_Setting.T5.2 slices_BinarySearchFunc_S_impl_Setting.B5=true:=by kernel_rfl
def slices_BinarySearchFunc_S_impl_Setting.T8:Bool × List (List Nat × List Nat):=(true,[([],[]),([],[]),([],[]),([1,2],[1,2]),([3],[3]),([4],[4]),([4],[4]),([4],[4]),([6,7,4],[4,6,7]),([8,4],[4,8]),([4],[4]),([5,9,10,4,4],[4,5,9,10]),([11,4],[4,11]),([4,12],[4,12]),([0,11,0],[0]),([13,14,0,1,2,3,4,5,6,7,8,9,10,11,12,13,14],[13])])
def slices_BinarySearchFunc_S_impl_Setting.B8:List Nat:=[0,0,0,6,14,30,30,30,222,478,30,2046,4094,8190,4095,32767]
theorem slices_BinarySearchFunc_S_impl_Setting.tab8:rtab .any (opsOf Tryd.f30 8)=slices_BinarySearchFunc_S_impl_Setting.T8:=by kernel_rfl
theorem slices_BinarySearchFunc_S_impl_Setting.bits8:waitsOk slices_BinarySearchFunc_S_impl_Setting.T8.2 slices_BinarySearchFunc_S_impl_Setting.B8=true:=by kernel_rfl
set_option maxHeartbeats 8000000 in
set_option maxRecDepth 100000 in
theorem slices_BinarySearchFunc_S_impl_Setting.calls (k:Nat) (A0:Option Addr) (c0:Nat) (l0:List (S57)) (a1_0:ByteArray) (a1_1:Int) (a2:Int) (r1:Int) (r2:Bool) (w:World) (hr0:Kd.C k57 w A0 l0.length l0) (hc0:l0.length≤c0) (h:slices_BinarySearchFunc_S_impl_Setting.f k l0 a1_0 a1_1 a2=some (r1,r2)) :
 Calls Tryd.prog 30 #[.slice A0 l0.length c0,.agg #[.string a1_0,.int .i64 a1_1],.func (.func 31) #[] #[]] w fun e w'=>e = .returned (.tuple #[.int .i64 r1,.bool r2])∧Below w.heap.size w w':=by
 have hu57:=Tryd.underlying57
 have HR0:=Aside0.mk hr0
 have HC0:=Aside0.mk hc0
 clear hr0 hc0
 have HB:=Aside0.mk (Below.refl w.heap.size w)
 have H:(slices_BinarySearchFunc_S_impl_Setting.l0 k l0 (l0.length:Int) 0 (l0.length:Int) a1_0 a1_1)=some (r1,r2):=h
 clear h
 have H':=Aside0.mk H
 clear H
 go_enter Tryd.func30,Tryd.ntmps30
 go_wp2_with (first|((with_reducible refine gate_dst (N:=4) rfl ?_);refine box_event ?hg (N:=4) ?hd (cs:=#[.string a1_0,.int .i64 a1_1]) (t:=57) ?hr ?_;(case hd=>rfl);(case hg=>rfl);(case hr=>exact zv);intro gb101 hg w4 hbox hb;have n0_:=Aside0.mk (below_step za hb);have n1_:=Aside0.mk (hbox);have n2_:=Aside0.mk ((by rw [hg];exact (below_size za):w.heap.size≤gb101));have n3_:=Aside0.mk ((by rw [hg];exact (below_size za):w.heap.size≤gb101));clear HB;have HB:=n0_;have BK101:=n1_;have GW101:=n2_;have GE101:=n3_;clear n0_ n1_ n2_ n3_;clear hb hbox hg))
 go_loopg [9,10] k (fun kq v9 v10 w'=>∃(x9_1:Int) (x10_1:Int),v9 = .int .i64 x9_1∧v10 = .int .i64 x10_1∧Aside0 (slices_BinarySearchFunc_S_impl_Setting.l0 kq l0 (l0.length:Int) x9_1 x10_1 a1_0 a1_1=some (r1,r2))∧Aside0 (kq≤k)∧Aside0 (w'.heap[gb101]?=some (.cells #[.string a1_0,.int .i64 a1_1] 57 (0,0)))∧Aside0 (Below w.heap.size w w'))
 case atStart=>exact ⟨(0),((l0.length:Int)),zi,zi,H',⟨Nat.le_refl _⟩,⟨zh⟩,⟨zc⟩⟩
 case round=>
  clear H'
  try clear p2
  try clear c3
  obtain ⟨x9_1,x10_1,rfl,rfl,HA,HK1,BK101,HB⟩:=hrel
  cases gk with
  | zero=>exact absurd HA.out (by simp [slices_BinarySearchFunc_S_impl_Setting.l0])
  | succ k1=>
   have H:=HA.out
   clear HA
   simp only [slices_BinarySearchFunc_S_impl_Setting.l0] at H
   by_cases c5:x9_1<x10_1
   ·rw [if_pos c5] at H
    have c5b0:decide (x9_1<x10_1)=true:=decide_eq_true c5
    clear c5
    obtain ⟨ji6,hji6⟩:∃j_:Int,(wrap64 ((IntKind.u64.wrap (wrap64 (x9_1+x10_1))) / 2))=j_:=⟨_,rfl⟩
    replace H:(if 0≤(ji6) then (if (ji6)<(l0.length:Int) then ((impl_compareSettings.f ((rd_T57 l0 (ji6)).f0) ((rd_T57 l0 (ji6)).f1) a1_0 a1_1).bind fun t103=>(if t103<0 then (slices_BinarySearchFunc_S_impl_Setting.l0 k1 l0 (l0.length:Int) (wrap64 ((ji6)+1)) x10_1 a1_0 a1_1) else (slices_BinarySearchFunc_S_impl_Setting.l0 k1 l0 (l0.length:Int) x9_1 ji6 a1_0 a1_1))) else (none)) else (none))=some (r1,r2):=by first|(rw [hji6] at H;exact H)|(simp only [hji6] at H ⊢;exact H)
    have hji6w:(IntKind.i64.wrap ((IntKind.u64.wrap (wrap64 (x9_1+x10_1))) / 2))=ji6:=(i64_w _).trans hji6
    by_cases c7:0≤(ji6)
    ·rw [if_pos c7] at H
     have c7b0:decide (0≤(ji6))=true:=decide_eq_true c7
     clear c7
     by_cases c8:(ji6)<(l0.length:Int)
     ·rw [if_pos c8] at H
      have c8b0:decide ((ji6)<(l0.length:Int))=true:=decide_eq_true c8
      clear c8
      replace H:=Option.bind_eq_some_iff.mp H
      obtain ⟨t103,A90,H⟩:=H
      replace H:(if t103<0 then (slices_BinarySearchFunc_S_impl_Setting.l0 k1 l0 (l0.length:Int) (wrap64 ((ji6)+1)) x10_1 a1_0 a1_1) else (slices_BinarySearchFunc_S_impl_Setting.l0 k1 l0 (l0.length:Int) x9_1 ji6 a1_0 a1_1))=some (r1,r2):=H
      have A9:=Aside0.mk A90
      clear A90
      by_cases c10:t103<0
      ·rw [if_pos c10] at H
       have c10b0:decide (t103<0)=true:=decide_eq_true c10
       clear c10
       have H':=Aside0.mk H
       clear H
       try go_wp2
       replace BK101:=Aside0.mk (blk_drew BK101.out)
       replace HB:=Aside0.mk (below_drew1 HB.out)
       have p102:0≤((ji6):Int):=of_decide_eq_true zb
       have q102:(ji6)<(l0.length:Int):=of_decide_eq_true zb
       obtain ⟨ad102,e102,hx102_0,hx102_1⟩:=at_T57 HR0.out (ji6) p102 q102
       have hw102_1:=hx102_1
       have hw102_0:=hx102_0
       cases e102
       replace hx102_0:=(HB.out.cell (World.block_lt_of_cell? w _ hx102_0)).trans hx102_0
       replace hx102_1:=(HB.out.cell (World.block_lt_of_cell? w _ hx102_1)).trans hx102_1
       replace p102:=eq_true p102
       replace q102:=eq_true q102
       refine start_ (n:=8) (S:=fun w'=>w'.cell? ⟨gb101,0,none⟩=some (.string a1_0)∧w'.cell? ⟨gb101,1,none⟩=some (.int .i64 a1_1)∧w'.cell? (ad102.add (((ji6)).toNat*2))=some (.string ((rd_T57 l0 (ji6)).f0))∧w'.cell? ⟨(ad102.add (((ji6)).toNat*2)).block,(ad102.add (((ji6)).toNat*2)).off+1,none⟩=some (.int .i64 ((rd_T57 l0 (ji6)).f1))) (ds:=[]) #[false,false,false,false,false,false,false,false] zaq rfl rfl ⟨(blk_cell BK101.out 0).trans rfl,(blk_cell BK101.out 1).trans rfl,((HB.out.cell (World.block_lt_of_cell? w _ hw102_0)).trans hw102_0),((HB.out.cell (World.block_lt_of_cell? w _ hw102_1)).trans hw102_1)⟩ (fun hHeld=>?_);refine with_tabW slices_BinarySearchFunc_S_impl_Setting.tab5 slices_BinarySearchFunc_S_impl_Setting.bits5 (fun HT_ HW_=>?_)
       generalize wr.drew=w11 at BK101 HB hx102_0 hx102_1 hHeld ⊢
       refine pA 0 24 ?_
       refine pA 1 25 ?_
       refine pA 2 26 ?_
       refine pA 3 27 ?_
       refine pT 4 28 rfl zbr ?_
       refine pT 5 29 rfl zbr ?_
       refine one_ (i:=6) (N:=some 30) #[true,true,true,true,true,true,true,false] rfl rfl (one_of HT_.out zaq) zbp (fun K hK=>?_)
       refine goesV_ Tryd.func31 zaq rfl #[.agg #[.string ((rd_T57 l0 (ji6)).f0),.int .i64 ((rd_T57 l0 (ji6)).f1)],.agg #[.string a1_0,.int .i64 a1_1]] (by rfl) rfl rfl (by rfl) (by (try simp only [List.map_toArray,List.map_cons,List.map_nil]);first|done|(simp only [hji6];rfl)|rfl|(simp only [List.length_drop,List.length_take];rfl)) ?_
       with_reducible refine (impl_compareSettings.calls ((rd_T57 l0 (ji6)).f0) ((rd_T57 l0 (ji6)).f1) a1_0 a1_1 t103 _ A9.out).mono ?_
       rintro e w12 ⟨rfl,hb⟩
       refine ⟨_,rfl,?_⟩
       replace BK101:=Aside0.mk (blk_below (g:=gb101) (o:=.cells #[.string a1_0,.int .i64 a1_1] 57 (0,0)) zh hb)
       replace HB:=Aside0.mk (below_step zc hb)
       (try clear hb)
       (try clear hb2)
       (try clear hk)
       (try clear hi)
       refine hK.out _ _ ⟨(blk_cell BK101.out 0).trans rfl,(blk_cell BK101.out 1).trans rfl,((HB.out.cell (World.block_lt_of_cell? w _ hw102_0)).trans hw102_0),((HB.out.cell (World.block_lt_of_cell? w _ hw102_1)).trans hw102_1)⟩ (fun hHeld=>?_)
       clear hK K
       refine pN 30 ?_
       refine pA 7 31 ?_
       refine done_ (done_of HT_.out zaq) ?_
       try go_wp2
       go_roundg k1
       case measure=>have:=HK1.out;omega
       case rel=>exact ⟨(wrap64 ((ji6)+1)),(x10_1),(by first|rfl|(simp;done)|(simp only [←hji6]<;>(first|rfl|simp))|(simp [*];done)),zi,H',⟨zci⟩,⟨zh⟩,⟨zc⟩⟩
      ·rw [if_neg c10] at H
       have c10b0:decide (t103<0)=false:=decide_eq_false c10
       clear c10
       have H':=Aside0.mk H
       clear H
       try go_wp2
       replace BK101:=Aside0.mk (blk_drew BK101.out)
       replace HB:=Aside0.mk (below_drew1 HB.out)
       have p102:0≤((ji6):Int):=of_decide_eq_true zb
       have q102:(ji6)<(l0.length:Int):=of_decide_eq_true zb
       obtain ⟨ad102,e102,hx102_0,hx102_1⟩:=at_T57 HR0.out (ji6) p102 q102
       have hw102_1:=hx102_1
       have hw102_0:=hx102_0
       cases e102
       replace hx102_0:=(HB.out.cell (World.block_lt_of_cell? w _ hx102_0)).trans hx102_0
       replace hx102_1:=(HB.out.cell (World.block_lt_of_cell? w _ hx102_1)).trans hx102_1
       replace p102:=eq_true p102
       replace q102:=eq_true q102
       refine start_ (n:=8) (S:=fun w'=>w'.cell? ⟨gb101,0,none⟩=some (.string a1_0)∧w'.cell? ⟨gb101,1,none⟩=some (.int .i64 a1_1)∧w'.cell? (ad102.add (((ji6)).toNat*2))=some (.string ((rd_T57 l0 (ji6)).f0))∧w'.cell? ⟨(ad102.add (((ji6)).toNat*2)).block,(ad102.add (((ji6)).toNat*2)).off+1,none⟩=some (.int .i64 ((rd_T57 l0 (ji6)).f1))) (ds:=[]) #[false,false,false,false,false,false,false,false] zaq rfl rfl ⟨(blk_cell BK101.out 0).trans rfl,(blk_cell BK101.out 1).trans rfl,((HB.out.cell (World.block_lt_of_cell? w _ hw102_0)).trans hw102_0),((HB.out.cell (World.block_lt_of_cell? w _ hw102_1)).trans hw102_1)⟩ (fun hHeld=>?_);refine with_tabW slices_BinarySearchFunc_S_impl_Setting.tab5 slices_BinarySearchFunc_S_impl_Setting.bits5 (fun HT_ HW_=>?_)
       generalize wr.drew=w13 at BK101 HB hx102_0 hx102_1 hHeld ⊢
       refine pA 0 24 ?_
       refine pA 1 25 ?_
       refine pA 2 26 ?_
       refine pA 3 27 ?_
       refine pT 4 28 rfl zbr ?_
       refine pT 5 29 rfl zbr ?_
       refine one_ (i:=6) (N:=some 30) #[true,true,true,true,true,true,true,false] rfl rfl (one_of HT_.out zaq) zbp (fun K hK=>?_)
       refine goesV_ Tryd.func31 zaq rfl #[.agg #[.string ((rd_T57 l0 (ji6)).f0),.int .i64 ((rd_T57 l0 (ji6)).f1)],.agg #[.string a1_0,.int .i64 a1_1]] (by rfl) rfl rfl (by rfl) (by (try simp only [List.map_toArray,List.map_cons,List.map_nil]);first|done|(simp only [hji6];rfl)|rfl|(simp only [List.length_drop,List.length_take];rfl)) ?_
       with_reducible refine (impl_compareSettings.calls ((rd_T57 l0 (ji6)).f0) ((rd_T57 l0 (ji6)).f1) a1_0 a1_1 t103 _ A9.out).mono ?_
       rintro e w14 ⟨rfl,hb⟩
       refine ⟨_,rfl,?_⟩
       replace BK101:=Aside0.mk (blk_below (g:=gb101) (o:=.cells #[.string a1_0,.int .i64 a1_1] 57 (0,0)) zh hb)
       replace HB:=Aside0.mk (below_step zc hb)
       (try clear hb)
       (try clear hb2)
       (try clear hk)
       (try clear hi)
       refine hK.out _ _ ⟨(blk_cell BK101.out 0).trans rfl,(blk_cell BK101.out 1).trans rfl,((HB.out.cell (World.block_lt_of_cell? w _ hw102_0)).trans hw102_0),((HB.out.cell (World.block_lt_of_cell? w _ hw102_1)).trans hw102_1)⟩ (fun hHeld=>?_)
       clear hK K
       refine pN 30 ?_
       refine pA 7 31 ?_
       refine done_ (done_of HT_.out zaq) ?_
       try go_wp2
       go_roundg k1
       case measure=>have:=HK1.out;omega
       case rel=>exact ⟨(x9_1),(ji6),zi,(by first|rfl|(simp;done)|(simp only [←hji6]<;>(first|rfl|simp))|(simp [*];done)),H',⟨zci⟩,⟨zh⟩,⟨zc⟩⟩
     ·rw [if_neg c8] at H
      exact absurd H zca
    ·rw [if_neg c7] at H
     exact absurd H zca
   ·rw [if_neg c5] at H
    have c5b0:decide (x9_1<x10_1)=false:=decide_eq_false c5
    clear c5
    by_cases c15:x9_1<(l0.length:Int)
    ·rw [if_pos c15] at H
     have c15b0:decide (x9_1<(l0.length:Int))=true:=decide_eq_true c15
     clear c15
     by_cases c16:0≤x9_1
     ·rw [if_pos c16] at H
      have c16b0:decide (0≤x9_1)=true:=decide_eq_true c16
      clear c16
      by_cases c17:x9_1<(l0.length:Int)
      ·rw [if_pos c17] at H
       have c17b0:decide (x9_1<(l0.length:Int))=true:=decide_eq_true c17
       clear c17
       replace H:=Option.bind_eq_some_iff.mp H
       obtain ⟨t105,A180,H⟩:=H
       replace H:(some (x9_1,(t105 == 0)))=some (r1,r2):=H
       have A18:=Aside0.mk A180
       clear A180
       simp only [Option.some.injEq,Prod.mk.injEq] at H
       obtain ⟨rfl,rfl⟩:=H
       try go_wp2
       replace BK101:=Aside0.mk (blk_drew BK101.out)
       replace HB:=Aside0.mk (below_drew1 HB.out)
       have p104:0≤(x9_1:Int):=of_decide_eq_true zb
       have q104:x9_1<(l0.length:Int):=of_decide_eq_true zb
       obtain ⟨ad104,e104,hx104_0,hx104_1⟩:=at_T57 HR0.out x9_1 p104 q104
       have hw104_1:=hx104_1
       have hw104_0:=hx104_0
       cases e104
       replace hx104_0:=(HB.out.cell (World.block_lt_of_cell? w _ hx104_0)).trans hx104_0
       replace hx104_1:=(HB.out.cell (World.block_lt_of_cell? w _ hx104_1)).trans hx104_1
       replace p104:=eq_true p104
       replace q104:=eq_true q104
       refine start_ (n:=16) (S:=fun w'=>w'.cell? ⟨gb101,0,none⟩=some (.string a1_0)∧w'.cell? ⟨gb101,1,none⟩=some (.int .i64 a1_1)∧w'.cell? (ad104.add ((x9_1).toNat*2))=some (.string ((rd_T57 l0 x9_1).f0))∧w'.cell? ⟨(ad104.add ((x9_1).toNat*2)).block,(ad104.add ((x9_1).toNat*2)).off+1,none⟩=some (.int .i64 ((rd_T57 l0 x9_1).f1))) (ds:=[]) #[false,false,false,false,false,false,false,false,false,false,false,false,false,false,false,false] zaq rfl rfl ⟨(blk_cell BK101.out 0).trans rfl,(blk_cell BK101.out 1).trans rfl,((HB.out.cell (World.block_lt_of_cell? w _ hw104_0)).trans hw104_0),((HB.out.cell (World.block_lt_of_cell? w _ hw104_1)).trans hw104_1)⟩ (fun hHeld=>?_);refine with_tabW slices_BinarySearchFunc_S_impl_Setting.tab8 slices_BinarySearchFunc_S_impl_Setting.bits8 (fun HT_ HW_=>?_)
       generalize wr.drew=w19 at BK101 HB hx104_0 hx104_1 hHeld ⊢
       refine pA 0 35 ?_
       refine pA 1 36 ?_
       refine pA 2 37 ?_
       refine pA 3 38 ?_
       refine pA 4 39 ?_
       refine pA 5 40 ?_
       refine pA 6 41 ?_
       refine pA 7 42 ?_
       refine pA 8 43 ?_
       refine pT 9 44 rfl zbr ?_
       refine pT 10 45 rfl zbr ?_
       refine one_ (i:=11) (N:=some 46) #[true,true,true,true,true,true,true,true,true,true,true,true,false,false,false,false] rfl rfl (one_of HT_.out zaq) zbp (fun K hK=>?_)
       refine goesV_ Tryd.func31 zaq rfl #[.agg #[.string ((rd_T57 l0 x9_1).f0),.int .i64 ((rd_T57 l0 x9_1).f1)],.agg #[.string a1_0,.int .i64 a1_1]] (by rfl) rfl rfl (by rfl) zd ?_
       with_reducible refine (impl_compareSettings.calls ((rd_T57 l0 x9_1).f0) ((rd_T57 l0 x9_1).f1) a1_0 a1_1 t105 _ A18.out).mono ?_
       rintro e w20 ⟨rfl,hb⟩
       refine ⟨_,rfl,?_⟩
       replace BK101:=Aside0.mk (blk_below (g:=gb101) (o:=.cells #[.string a1_0,.int .i64 a1_1] 57 (0,0)) zh hb)
       replace HB:=Aside0.mk (below_step zc hb)
       (try clear hb)
       (try clear hb2)
       (try clear hk)
       (try clear hi)
       refine hK.out _ _ ⟨(blk_cell BK101.out 0).trans rfl,(blk_cell BK101.out 1).trans rfl,((HB.out.cell (World.block_lt_of_cell? w _ hw104_0)).trans hw104_0),((HB.out.cell (World.block_lt_of_cell? w _ hw104_1)).trans hw104_1)⟩ (fun hHeld=>?_)
       clear hK K
       refine pN 46 ?_
       refine pA 12 47 ?_
       refine pA 13 48 ?_
       refine pA 14 6 ?_
       refine pA 15 7 ?_
       refine done_ (done_of HT_.out zaq) ?_
       try go_wp2
       go_ret2
       exact ⟨zj,zc⟩
      ·rw [if_neg c17] at H
       exact absurd H zca
     ·rw [if_neg c16] at H
      exact absurd H zca
    ·rw [if_neg c15] at H
     have c15b0:decide (x9_1<(l0.length:Int))=false:=decide_eq_false c15
     clear c15
     simp only [Option.some.injEq,Prod.mk.injEq] at H
     obtain ⟨rfl,rfl⟩:=H
     try go_wp2
     replace BK101:=Aside0.mk (blk_drew BK101.out)
     replace HB:=Aside0.mk (below_drew1 HB.out)
     refine start_ (n:=16) (S:=fun w'=>True) (ds:=[]) #[false,false,false,false,false,false,false,false,false,false,false,false,false,false,false,false] zaq rfl rfl trivial (fun hHeld=>?_);refine with_tabW slices_BinarySearchFunc_S_impl_Setting.tab8 slices_BinarySearchFunc_S_impl_Setting.bits8 (fun HT_ HW_=>?_)
     generalize wr.drew=w21 at BK101 HB hHeld ⊢
     refine pA 0 35 ?_
     refine pA 1 36 ?_
     refine pA 2 37 ?_
     refine pA 3 38 ?_
     refine pA 4 39 ?_
     refine pU 5 40 ?_
     refine pU 6 41 ?_
     refine pU 7 42 ?_
     refine pU 8 43 ?_
     refine pU 9 44 ?_
     refine pU 10 45 ?_
     refine pU 11 46 ?_
     refine pU 12 47 ?_
     refine pA 13 48 ?_
     refine pA 14 6 ?_
     refine pA 15 7 ?_
     refine done_ (done_of HT_.out zaq) ?_
     try go_wp2
     go_ret2
     exact ⟨zj,zc⟩
end Go.Proofs.YtocegmkifmdlcaaDoor.P

namespace Go.Proofs.YtocegmkifmdlcaaDoor.P
open Go.RowKit Go.Proofs.YtocegmkifmdlcaaDoorW.PrintWords
set_option linter.unusedVariables false
section
variable {P : Program} (w : World)
end
/-- An append whose run is known: one event of a plain region, one step of a region that draws. -/
theorem byt_app {P : Program} {ops : Array Oper} {rest : List Oper} {o : Oper} {a : Act} {Q : Exit → Act → World → Prop} {W w1 : World} (hgd : o.guard = none) (s x : Operand) (t : TypeId) (ho : o.op = .call { callee := .builtin .append, args := #[s, x], argTypes := #[t, t] }) {v y v' : Value} (hs : a.eval s = v) (hx : a.eval x = y)
    (hr : (Builtin.append_ #[t, t] o.type #[v, y]).run P W = .ok v' w1) (h : wpList P ops Q rest (a.put o.dst v') w1) : wpList P ops Q (o :: rest) a W := by
  refine Kd.event_run hgd ?_ h
  unfold execOp
  simp only [ho, resolve, invoke, builtin, Sem.run_bind, Sem.run_pure, Result.andThen_ok, List.map_toArray, List.map_cons, List.map_nil, hs, hx, hr]
theorem byt_app_step {P : Program} {ops : Array Oper} {o : Oper} {a : Act} {Q : Exit → Act → World → Prop} {Kc : Act → World → Prop} {E : Prop} {W w1 : World} (hgd : o.guard = none) (s x : Operand) (t : TypeId) (ho : o.op = .call { callee := .builtin .append, args := #[s, x], argTypes := #[t, t] }) {v y v' : Value} (hs : a.eval s = v) (hx : a.eval x = y)
    (hr : (Builtin.append_ #[t, t] o.type #[v, y]).run P W = .ok v' w1) (h : Kc (a.put o.dst v') w1) : if Region.wanted o (yielded ops a.tmps) = true then Oper.wp P o a W Kc Q else E := by
  have hw : Region.wanted o (yielded ops a.tmps) = true := by simp [Region.wanted, hgd]
  rw [if_pos hw]
  unfold Oper.wp execOp
  simp only [ho, resolve, invoke, builtin, Sem.run_bind, Sem.run_pure, Result.andThen_ok, List.map_toArray, List.map_cons, List.map_nil, hs, hx, hr]
  exact h
theorem byt_app2 {P : Program} {ops : Array Oper} {rest : List Oper} {o : Oper} {a : Act} {Q : Exit → Act → World → Prop} {W w1 : World} (hgd : o.guard = none) (s x : Operand) (t u : TypeId) (ho : o.op = .call { callee := .builtin .append, args := #[s, x], argTypes := #[t, u] }) {v y v' : Value} (hs : a.eval s = v) (hx : a.eval x = y)
    (hr : (Builtin.append_ #[t, u] o.type #[v, y]).run P W = .ok v' w1) (h : wpList P ops Q rest (a.put o.dst v') w1) : wpList P ops Q (o :: rest) a W := by
  refine Kd.event_run hgd ?_ h
  unfold execOp
  simp only [ho, resolve, invoke, builtin, Sem.run_bind, Sem.run_pure, Result.andThen_ok, List.map_toArray, List.map_cons, List.map_nil, hs, hx, hr]
end Go.Proofs.YtocegmkifmdlcaaDoor.P

namespace Go.Proofs.YtocegmkifmdlcaaDoor.P
open Go.RowKit Go.Proofs.YtocegmkifmdlcaaDoorW.PrintWords Go.Proofs.YtocegmkifmdlcaaDoorW.PrintLast Go.Proofs.YtocegmkifmdlcaaDoorW.PrintMore
attribute [local go_sem] max2_int min2_int max_two min_two max_three min_three max_four min_four str_leq str_gtr str_geq
set_option linter.unusedVariables false
set_option linter.unusedSimpArgs false
def slices_Insert_S_impl_Setting.f (l0:List S57) (a1:Int) (l2:List S57):Option (List S57):=if (l2.length=1∧0≤a1)∧a1≤(l0.length:Int)∧l0.length≤1000000 then some (l0.take a1.toNat++l2++l0.drop a1.toNat) else none
theorem slices_Insert_S_impl_Setting.info:∃i,Tryd.prog.info? 57=some i∧i.zero=some (.agg #[.string ⟨#[]⟩,.int .i64 0])∧i.size=2∧i.bytes=24:=by
 have h:(Tryd.prog.info? 57).map (fun i=>(i.zero,i.size,i.bytes))=some (some (.agg #[.string ⟨#[]⟩,.int .i64 0]),2,24):=by kernel_rfl
 cases hi:Tryd.prog.info? 57 with
 | none=>rw [hi] at h;cases h
 | some i=>
  rw [hi] at h
  simp only [Option.map_some,Option.some.injEq,Prod.mk.injEq] at h
  exact ⟨i,rfl,h.1,h.2.1,h.2.2⟩
set_option maxHeartbeats 3200000 in
set_option maxRecDepth 100000 in
theorem slices_Insert_S_impl_Setting.c_end (v:Value) (row:Option Nat) (hrow:v.ownBlock=row) (n i:Nat) (xs news:List Value) (B gl:Nat) (w:World) (hown:w.ownsRow B 57 2 v n xs) (hB:B≤w.heap.size) (lc:Array Value) (vc:Nat) (hl:w.heap[gl]?=some (.cells lc 57 (0,0))) (hlt:lc.toList.take news.length=news) (hnl:news.length=2) (h1:∀u∈news,u.oneCell'=true) (h1x:∀u∈xs,u.oneCell'=true) (hn:n≤1000000) (hne:row≠some gl) (hi:i=n) :
 Calls Tryd.prog 32 #[v,.int .i64 (i:Int),.slice (some ⟨gl,0,none⟩) 1 vc] w fun e w'=>∃v',e = .returned v'∧w'.ownsRow B 57 2 v' (n+1) (xs.take (i*2)++news++xs.drop (i*2))∧w.grownBy w' row∧(v'.ownBlock=row∨∃b,v'.ownBlock=some b∧w.heap.size≤b):=by
 subst hi
 obtain ⟨it,hi5,hz5,hs5,hb5⟩:=slices_Insert_S_impl_Setting.info
 obtain ⟨A,c,rfl⟩:=own_slice hown
 obtain ⟨v',w',hr,ho,hg,_,hat⟩:=run_append_own_at (P:=Tryd.prog) w B 26 26 57 it _ 2 24 Tryd.underlying26 hi5 hz5 hs5 hb5 rfl zbp _ i xs hown ⟨gl,0,none⟩ 1 vc news zbn (fun j u hj=>ins_cell hl (o:=0) (ins_take hlt (a:=0) (by rw [List.drop_zero];exact hj))) h1 (by unfold maxLen;omega) zbn hB
 rw [hrow] at hg hat
 have hxl:xs.length=i*2:=hown.1
 rw [List.take_of_length_le zbn,List.drop_eq_nil_of_le zbn,List.append_nil]
 have hsl:=cut_from (P:=Tryd.prog) 26 57 .i64 Tryd.underlying26 hi5 2 hs5 A i c (i:Int) zbn zbn
 have HO:=Aside0.mk ho
 have HG:=Aside0.mk hg
 have HAT:=Aside0.mk hat
 have HR:=Aside0.mk hr
 clear hrow hown hB hl hlt hnl h1 h1x hn hne ho hg hat hr hxl hi5 hz5 hs5 hb5
 go_enter Tryd.func32,Tryd.ntmps32
 go_wp2_with (first
  | ((with_reducible refine gate_dst (N:=25) rfl ?_);refine byt_app (by rfl) _ _ _ (by rfl) (by rfl) (by rfl) HR.out ?_))
 all_goals go_ret
 all_goals exact ⟨v',rfl,HO.out,HG.out,HAT.out.elim Or.inl (fun h=>.inr ⟨_,h,Nat.le_refl _⟩)⟩
theorem slices_Insert_S_impl_Setting.ov1:(Tryd.f55.name == "runtime.NumGoroutine")=false:=by kernel_rfl
theorem slices_Insert_S_impl_Setting.ov2:Tryd.f55.body.isNone=true:=by kernel_rfl
theorem slices_Insert_S_impl_Setting.ov3:Extern.findNext Tryd.f55=none:=by kernel_rfl
theorem slices_Insert_S_impl_Setting.ov4:Extern.find Tryd.f55=some (Extern.SlicesOverlaps.overlaps #[26,26] #[4]):=by kernel_rfl
set_option maxHeartbeats 3200000 in
set_option maxRecDepth 100000 in
theorem slices_Insert_S_impl_Setting.c_room (g c:Nat) (cur:Array Value) (n i:Nat) (xs news:List Value) (B gl:Nat) (w:World) (hb:w.heap[g]?=some (.cells cur 57 (0,0))) (hxl:xs.length=n*2) (ht:cur.toList.take (n*2)=xs) (hcs:cur.size=c*2) (hcm:c≤maxLen) (hBg:B≤g) (lc:Array Value) (vc:Nat) (hl:w.heap[gl]?=some (.cells lc 57 (0,0))) (hlt:lc.toList.take news.length=news) (hnl:news.length=2) (h1:∀u∈news,u.oneCell'=true) (h1x:∀u∈xs,u.oneCell'=true) (hn:n≤1000000) (hne:gl≠g) (hi:i<n) (hroom:n+1≤c) :
 Calls Tryd.prog 32 #[.slice (some ⟨g,0,none⟩) n c,.int .i64 (i:Int),.slice (some ⟨gl,0,none⟩) 1 vc] w fun e w'=>∃v',e = .returned v'∧w'.ownsRow B 57 2 v' (n+1) (xs.take (i*2)++news++xs.drop (i*2))∧w.grownBy w' (some g)∧v'.ownBlock=some g:=by
 have w1:wrap64 ((n:Int)+1)=(n:Int)+1:=ins_w zbn
 have w2:wrap64 ((i:Int)+1)=(i:Int)+1:=ins_w zbn
 have w3:IntKind.i64.wrap ((n:Int)+1)=(n:Int)+1:=by rw [IntWalk.i64_left];exact w1
 have w4:IntKind.i64.wrap ((i:Int)+1)=(i:Int)+1:=by rw [IntWalk.i64_left];exact w2
 have W1_:=Aside0.mk w1
 have W2_:=Aside0.mk w2
 have W3_:=Aside0.mk w3
 have W4_:=Aside0.mk w4
 clear w1 w2 w3 w4
 obtain ⟨it,hi5,hz5,hs5,hb5⟩:=slices_Insert_S_impl_Setting.info
 have hll:cur.toList.length=c*2:=by rw [Array.length_toList];exact hcs
 have hdl:(xs.drop (i*2)).length=(n - i)*2:=by rw [List.length_drop,hxl];omega
 have hsz:(Tryd.prog.info? 57).map (·.size)=some 2:=by rw [hi5,Option.map_some,hs5]
 obtain ⟨W1,hW1⟩:∃W1,W1=w.drew.setRow g (cur.toList.take ((i+1)*2)++xs.drop (i*2)++cur.toList.drop ((i+1)*2+(xs.drop (i*2)).length)).toArray:=⟨_,rfl⟩
 have hr1:=ins_copy (P:=Tryd.prog) w.drew 26 26 3 57 2 g ((i+1)*2) (n - i) (c - (i+1)) ⟨g,i*2,none⟩ (n+1 - i) (c - i) cur 57 (xs.drop (i*2)) Tryd.underlying26 hsz hb (by rw [hdl,show Nat.min (n+1 - i) (n - i)=n - i by simp only [Nat.min_def];split<;>omega]) (fun j v hj=>ins_cell (w:=w) hb (ins_take ht hj)) (by rw [hdl,hcs];omega) (fun u hu=>h1x u (List.mem_of_mem_drop hu))
 rw [←hW1] at hr1
 have hb1:W1.heap[g]?=some (.cells (cur.toList.take ((i+1)*2)++xs.drop (i*2)++cur.toList.drop ((i+1)*2+(xs.drop (i*2)).length)).toArray 57 (0,0)):=by rw [hW1];exact setRow_heap w.drew g cur _ 57 (0,0) hb
 have hl1:W1.heap[gl]?=some (.cells lc 57 (0,0)):=by rw [hW1,setRow_other _ g gl _ hne];exact hl
 obtain ⟨f1,f2⟩:=ins_room (l:=cur.toList) (xs:=xs) (news:=news) (a:=i*2) (b:=2) (m:=n*2) ht hxl zbn hnl (by rw [hll];omega)
 rw [show i*2+2=(i+1)*2 by omega] at f1 f2
 obtain ⟨cur1,hc1⟩:∃cur1,cur1=cur.toList.take ((i+1)*2)++xs.drop (i*2)++cur.toList.drop ((i+1)*2+(xs.drop (i*2)).length):=⟨_,rfl⟩
 rw [←hc1] at hb1 f1 f2
 obtain ⟨W2,hW2⟩:∃W2,W2=W1.setRow g (cur1.take (i*2)++news++cur1.drop (i*2+news.length)).toArray:=⟨_,rfl⟩
 have hr2:=ins_copy (P:=Tryd.prog) W1 26 26 3 57 2 g (i*2) (n+1 - i) (c - i) ⟨gl,0,none⟩ 1 vc cur1.toArray 57 news Tryd.underlying26 hsz hb1 (by rw [hnl,show Nat.min 1 (n+1 - i)=1 by simp only [Nat.min_def];split<;>omega]) (fun j v hj=>ins_cell hl1 (o:=0) (ins_take hlt (a:=0) (by rw [List.drop_zero];exact hj))) (by rw [hnl,List.size_toArray,f2,hll];omega) h1
 rw [←hW2] at hr2
 have hb2:W2.heap[g]?=some (.cells (cur1.take (i*2)++news++cur1.drop (i*2+news.length)).toArray 57 (0,0)):=by rw [hW2];exact setRow_heap W1 g _ _ 57 (0,0) hb1
 have HG:=Aside0.mk (ins_grown hW1 hW2)
 have HO:=Aside0.mk (show W2.ownsRow B 57 2 (.slice (some ⟨g,0,none⟩) (n+1) c) (n+1) (xs.take (i*2)++news++xs.drop (i*2)) from by
  refine ⟨by rw [List.length_append,List.length_append,List.length_take,hdl,hnl,hxl];omega,.inr ⟨g,c,_,rfl,hBg,hb2,hroom,hcm,?_,?_⟩⟩
  ·rw [List.size_toArray,List.length_append,List.length_append,List.length_take,List.length_drop,f2,hll,hnl];omega
  ·rw [show (n+1)*2=n*2+2 by omega];exact f1)
 have hov:∀lb cb,(callFunc 55 #[.slice (some ⟨gl,0,none⟩) 1 vc,.slice (some ⟨g,(i+1)*2,none⟩) lb cb]).run Tryd.prog w = .ok (.value (.bool false)) w:=fun lb cb=>by
  rw [run_callFunc_extern Tryd.func55 slices_Insert_S_impl_Setting.ov1 slices_Insert_S_impl_Setting.ov2 slices_Insert_S_impl_Setting.ov3 slices_Insert_S_impl_Setting.ov4,
   Lib.run_overlaps_apart w 26 4 57 Tryd.underlying26 2 (fun w=>by simp [sizeOf,typeInfo,hi5,hs5]) ⟨gl,0,none⟩ ⟨g,(i+1)*2,none⟩ 1 vc lb cb hne 57 57 lc.size cur.size (by simp [World.shape?,hl]) (by simp [World.shape?,hb]) zbn (by simp [World.frozen?,hl]) (by simp [World.frozen?,hl])]
  rfl
 have s12:=ins_from (P:=Tryd.prog) 26 57 Tryd.underlying26 hi5 2 hs5 g n c i (i:Int) rfl zbn zbn
 have s60:=ins_to (P:=Tryd.prog) 26 57 Tryd.underlying26 hi5 (some ⟨g,0,none⟩) n c (n+1) ((n:Int)+1) zbn hroom
 have s66:=ins_from (P:=Tryd.prog) 26 57 Tryd.underlying26 hi5 2 hs5 g (n+1) c (i+1) ((i:Int)+1) zbn zbn zbn
 have s76:=ins_from (P:=Tryd.prog) 26 57 Tryd.underlying26 hi5 2 hs5 g (n+1) c i (i:Int) rfl zbn zbn
 have b1:((i:Int) == (n:Int))=false:=beq_eq_false_iff_ne.2 zbn
 have b2:decide ((c:Int)<(n:Int)+1)=false:=decide_eq_false zbn
 have HR1:=Aside0.mk hr1
 have HR2:=Aside0.mk hr2
 have w1:=W1_.out
 have w2:=W2_.out
 have w3:=W3_.out
 have w4:=W4_.out
 clear W1_ W2_ W3_ W4_ hb hxl ht hcs hcm hBg hl hlt hnl h1 h1x hn hne hi hroom hll hdl hsz hW1 hr1 hb1 hl1 f1 f2 hc1 hW2 hr2 hb2 hi5 hz5 hs5 hb5
 go_enter Tryd.func32,Tryd.ntmps32
 go_upto_region 15 with (simp only [hov])
 go_region_held3 (fun _=>True) (trivial) (first|(refine ins_copy_step (by rfl) _ _ _ _ (by rfl) (by rfl) (by rfl) HR1.out ?_))
 go_wp2_with (first
  | ((with_reducible refine gate_dst (N:=82) rfl ?_);refine ins_copy_event (by rfl) _ _ _ _ (by rfl) (by rfl) (by rfl) HR2.out ?_))
 go_ret
 exact ⟨_,rfl,HO.out,HG.out,rfl⟩
set_option maxHeartbeats 3200000 in
set_option maxRecDepth 100000 in
theorem slices_Insert_S_impl_Setting.c_grow (g c:Nat) (cur:Array Value) (n i:Nat) (xs news:List Value) (B gl:Nat) (w:World) (hb:w.heap[g]?=some (.cells cur 57 (0,0))) (hxl:xs.length=n*2) (ht:cur.toList.take (n*2)=xs) (hcs:cur.size=c*2) (hB:B≤w.heap.size) (lc:Array Value) (vc:Nat) (hl:w.heap[gl]?=some (.cells lc 57 (0,0))) (hlt:lc.toList.take news.length=news) (hnl:news.length=2) (h1:∀u∈news,u.oneCell'=true) (h1x:∀u∈xs,u.oneCell'=true) (hn:n≤1000000) (hi:i<n) (hnc:n≤c) (hroom:c<n+1) :
 Calls Tryd.prog 32 #[.slice (some ⟨g,0,none⟩) n c,.int .i64 (i:Int),.slice (some ⟨gl,0,none⟩) 1 vc] w fun e w'=>∃v',e = .returned v'∧w'.ownsRow B 57 2 v' (n+1) (xs.take (i*2)++news++xs.drop (i*2))∧w.grownBy w' (some g)∧v'.ownBlock=some w.heap.size:=by
 have W1_:=Aside0.mk (ins_w (n:=n) zbn)
 have W2_:=Aside0.mk (ins_w (n:=i) zbn)
 have W5_:=Aside0.mk (ins_w2 (n:=n) (i:=i) zbn zbn)
 have hgw:g<w.heap.size:=blk_lt hb
 have hglw:gl<w.heap.size:=blk_lt hl
 obtain ⟨it,hi5,hz5,hs5,hb5⟩:=slices_Insert_S_impl_Setting.info
 have hll:cur.toList.length=c*2:=by rw [Array.length_toList];exact hcs
 have hdl:(xs.drop (i*2)).length=(n - i)*2:=by rw [List.length_drop,hxl];omega
 have hsz:(Tryd.prog.info? 57).map (·.size)=some 2:=by rw [hi5,Option.map_some,hs5]
 have hkk:(((n+1 - i:Nat)):Int)=(n:Int)+1 - (i:Int):=by omega
 have hik:i+(n+1 - i)=n+1:=by omega
 have hold:(Builtin.firstCells it.size i (.slice (some ⟨g,0,none⟩) i c)).run Tryd.prog w.drew = .ok (xs.take (i*2)).toArray w.drew:=by
  rw [hs5]
  exact run_firstCells_some w.drew 2 i ⟨g,0,none⟩ i c (xs.take (i*2)) (by rw [List.length_take,hxl];omega) (fun j v hj=>by
   have hj2:xs[j]?=some v:=by
    rcases Nat.lt_or_ge j (i*2) with h|h
    ·rwa [List.getElem?_take_of_lt h] at hj
    ·rw [List.getElem?_eq_none (by rw [List.length_take];omega)] at hj;cases hj
   exact ins_cell (w:=w) hb (o:=0) (ins_take ht (a:=0) (by rw [List.drop_zero];exact hj2)))
 have hr0:=Lib.run_append_grow_zeros (P:=Tryd.prog) w 26 3 26 57 it _ .i64 .i64 Tryd.underlying26 Tryd.underlying3 hi5 hz5 (some ⟨g,0,none⟩) i c (xs.take (i*2)) hold (n+1 - i) zbn zbn zbn zbn (by rw [hb5];omega) (by rw [hb5,hik];exact growslice_fits hroom zbn)
 rw [hik,hkk] at hr0
 obtain ⟨G,hG⟩:∃G,G=grownCap w (n+1) c 57:=⟨_,rfl⟩
 have hGn:n+1≤G:=by rw [hG];exact grownCap_ge w _ _ _
 have hGm:G≤maxLen:=by rw [hG];exact grownCap_le_maxLen w _ _ _ (by unfold maxLen;omega)
 rw [←hG] at hr0
 obtain ⟨cur0,hc0⟩:∃cur0:Array Value,cur0=(xs.take (i*2)).toArray++Builtin.zeroCells (.agg #[.string ⟨#[]⟩,.int .i64 0]:Value).cells (n+1 - i)++Builtin.zeroCells (.agg #[.string ⟨#[]⟩,.int .i64 0]:Value).cells (G - (n+1)):=⟨_,rfl⟩
 rw [←hc0] at hr0
 obtain ⟨W1,hW1⟩:∃W1,W1=w.drew.alloc (.cells cur0 57):=⟨_,rfl⟩
 rw [←hW1] at hr0
 have hzc:(.agg #[.string ⟨#[]⟩,.int .i64 0]:Value).cells.size=2:=rfl
 have hc0s:cur0.size=G*2:=by
  rw [hc0,Array.size_append,Array.size_append,size_zeroCells,size_zeroCells,hzc,List.size_toArray,List.length_take,hxl];omega
 have hb1:W1.heap[w.heap.size]?=some (.cells cur0 57 (0,0)):=by rw [hW1];exact blk_new w.drew _
 have hl1:W1.heap[gl]?=some (.cells lc 57 (0,0)):=by rw [hW1];exact ((World.grownBy_alloc w.drew _ none).block gl hglw zca).trans hl
 have hg1:W1.heap[g]?=some (.cells cur 57 (0,0)):=by rw [hW1];exact ((World.grownBy_alloc w.drew _ none).block g hgw zca).trans hb
 have hp:cur0.toList.take (i*2)=xs.take (i*2):=by
  rw [hc0,Array.append_assoc,Array.toList_append,List.take_append_of_le_length (by rw [List.length_take,hxl];omega)]
  exact List.take_of_length_le (by rw [List.length_take];omega)
 obtain ⟨f1,f2⟩:=ins_grow (l:=cur0.toList) (xs:=xs) (news:=news) (a:=i*2) (b:=2) (m:=n*2) hp hxl zbn hnl (by rw [Array.length_toList,hc0s];omega)
 rw [show i*2+2=(i+1)*2 by omega] at f1
 obtain ⟨cur1,hc1⟩:∃cur1,cur1=cur0.toList.take (i*2)++news++cur0.toList.drop (i*2+news.length):=⟨_,rfl⟩
 obtain ⟨W2,hW2⟩:∃W2,W2=W1.setRow w.heap.size cur1.toArray:=⟨_,rfl⟩
 have hr1:=ins_copy (P:=Tryd.prog) W1 26 26 3 57 2 w.heap.size (i*2) (n+1 - i) (G - i) ⟨gl,0,none⟩ 1 vc cur0 57 news Tryd.underlying26 hsz hb1 (by rw [hnl,show Nat.min 1 (n+1 - i)=1 by simp only [Nat.min_def];split<;>omega]) (fun j v hj=>ins_cell hl1 (o:=0) (ins_take hlt (a:=0) (by rw [List.drop_zero];exact hj))) (by rw [hnl,hc0s];omega) h1
 rw [←hc1] at hr1 f1 f2
 rw [←hW2] at hr1
 have hb2:W2.heap[w.heap.size]?=some (.cells cur1.toArray 57 (0,0)):=by rw [hW2];exact setRow_heap W1 _ _ _ 57 (0,0) hb1
 have hg2:W2.heap[g]?=some (.cells cur 57 (0,0)):=by rw [hW2,setRow_other _ _ g _ (Nat.ne_of_lt hgw)];exact hg1
 obtain ⟨W3,hW3⟩:∃W3,W3=W2.drew.setRow w.heap.size (cur1.take ((i+1)*2)++xs.drop (i*2)++cur1.drop ((i+1)*2+(xs.drop (i*2)).length)).toArray:=⟨_,rfl⟩
 have hc0l:cur0.toList.length=G*2:=by rw [Array.length_toList];exact hc0s
 have hr2:=ins_copy (P:=Tryd.prog) W2.drew 26 26 3 57 2 w.heap.size ((i+1)*2) (n - i) (G - (i+1)) ⟨g,i*2,none⟩ (n - i) (c - i) cur1.toArray 57 (xs.drop (i*2)) Tryd.underlying26 hsz hb2 (by rw [hdl,show Nat.min (n - i) (n - i)=n - i by simp]) (fun j v hj=>ins_cell (w:=W2) hg2 (ins_take ht hj)) (by rw [hdl,List.size_toArray,f2,hc0l];omega) (fun u hu=>h1x u (List.mem_of_mem_drop hu))
 rw [←hW3] at hr2
 have hb3:W3.heap[w.heap.size]?=some (.cells (cur1.take ((i+1)*2)++xs.drop (i*2)++cur1.drop ((i+1)*2+(xs.drop (i*2)).length)).toArray 57 (0,0)):=by rw [hW3];exact setRow_heap W2.drew _ _ _ 57 (0,0) hb2
 have HG:=Aside0.mk (ins_grown2 (row:=some g) hW1 hW2 hW3)
 have HO:=Aside0.mk (show W3.ownsRow B 57 2 (.slice (some ⟨w.heap.size,0,none⟩) (n+1) G) (n+1) (xs.take (i*2)++news++xs.drop (i*2)) from by
  refine ⟨by rw [List.length_append,List.length_append,List.length_take,hdl,hnl,hxl];omega,.inr ⟨w.heap.size,G,_,rfl,hB,hb3,hGn,hGm,?_,?_⟩⟩
  ·rw [List.size_toArray,List.length_append,List.length_append,List.length_take,hdl,List.length_drop,f2,hc0l];omega
  ·rw [show (n+1)*2=n*2+2 by omega];exact f1)
 have s12:=ins_from (P:=Tryd.prog) 26 57 Tryd.underlying26 hi5 2 hs5 g n c i (i:Int) rfl zbn zbn
 have s34:=ins_to (P:=Tryd.prog) 26 57 Tryd.underlying26 hi5 (some ⟨g,0,none⟩) n c i (i:Int) rfl zbn
 have s43:=ins_from (P:=Tryd.prog) 26 57 Tryd.underlying26 hi5 2 hs5 w.heap.size (n+1) G i (i:Int) rfl zbn zbn
 have s50:=ins_from (P:=Tryd.prog) 26 57 Tryd.underlying26 hi5 2 hs5 w.heap.size (n+1) G (i+1) ((i:Int)+1) zbn zbn zbn
 have b1:((i:Int) == (n:Int))=false:=beq_eq_false_iff_ne.2 zbn
 have b2:decide ((c:Int)<(n:Int)+1)=true:=decide_eq_true zbn
 have HR0:=Aside0.mk hr0
 have HR1:=Aside0.mk hr1
 have HR2:=Aside0.mk hr2
 have w1:=W1_.out
 have w2:=W2_.out
 have w5:=W5_.out
 have w3:IntKind.i64.wrap ((n:Int)+1)=(n:Int)+1:=by rw [IntWalk.i64_left];exact w1
 have w4:IntKind.i64.wrap ((i:Int)+1)=(i:Int)+1:=by rw [IntWalk.i64_left];exact w2
 have w6:IntKind.i64.wrap ((n:Int)+1 - (i:Int))=(n:Int)+1 - (i:Int):=by rw [IntWalk.i64_left];exact w5
 obtain ⟨g2,hg2e⟩:∃g2,g2=w.heap.size:=⟨_,rfl⟩
 rw [←hg2e] at HR0 HR1 HR2 HO s43 s50 ⊢
 clear hg2e W1_ W2_ W5_ hgw hglw hb hxl ht hcs hB hl hlt hnl h1 h1x hn hi hnc hroom hll hdl hsz hkk hik hold hr0 hG hGn hGm hc0 hW1 hzc hc0s hb1 hl1 hg1 hp f1 f2 hc1 hW2 hr1 hb2 hg2 hW3 hc0l hr2 hb3 hi5 hz5 hs5 hb5
 go_enter Tryd.func32,Tryd.ntmps32
 go_upto_region 11 with (first
  | ((with_reducible refine gate_dst (N:=40) rfl ?_);refine byt_app2 (by rfl) _ _ _ _ (by rfl) (by rfl) (by rfl) HR0.out ?_)
  | ((with_reducible refine gate_dst (N:=45) rfl ?_);refine ins_copy_event (by rfl) _ _ _ _ (by rfl) (by rfl) (by rfl) HR1.out ?_))
 go_region_held3 (fun _=>True) (trivial) (first|(refine ins_copy_step (by rfl) _ _ _ _ (by rfl) (by rfl) (by rfl) HR2.out ?_))
 all_goals go_wp2
 all_goals go_ret
 all_goals exact ⟨_,rfl,HO.out,HG.out,rfl⟩
theorem slices_Insert_S_impl_Setting.one {w:World} {base:Nat} {ok:Nat→Prop} {l:List S57} {xs:List Value} (h:Reps (k57.M w base ok) 2 l xs):∀u∈xs,u.oneCell'=true:=
 ins_one h zbp (fun p c hp=>by
  rw [k57_openM hp]
  intro u hu
  simp only [List.mem_cons,List.not_mem_nil,or_false] at hu
  rcases hu with rfl|rfl<;>rfl)
theorem slices_Insert_S_impl_Setting.any {w w':World} {base base':Nat} {ok ok':Nat→Prop} {l:List S57} {xs:List Value} (h:Reps (k57.M w base ok) 2 l xs):Reps (k57.M w' base' ok') 2 l xs:=h.imp_ (fun p c hp=>by rw [k57_openM hp];exact k57_mkM _ _ _ _)
theorem slices_Insert_S_impl_Setting.calls (P0_:Nat→Prop) (u9000_:Value) (l0:List S57) (a1:Int) (P2_:Nat→Prop) (u9001_:Value) (l2:List S57) (r:List S57) (w0 w:World) (hB:Below w0.heap.size w0 w) (ho0:Kd.R k57 57 w w0.heap.size P0_ u9000_ l0) (hp0_2:∀k_,P0_ k_→¬ P2_ k_) (ho2:Kd.R k57 57 w w0.heap.size P2_ u9001_ l2) (hp2_0:∀k_,P2_ k_→¬ P0_ k_) (h:slices_Insert_S_impl_Setting.f l0 a1 l2=some r) :
 Calls Tryd.prog 32 #[u9000_,.int .i64 a1,u9001_] w fun e w'=>∃v0_:Value,e = .returned (v0_)∧Kd.R k57 57 w' w0.heap.size (fun k_=>((P0_ k_∨P2_ k_)∨w.heap.size≤k_)) v0_ r∧Below w0.heap.size w0 w'∧Kept w w' (fun k_=>P0_ k_∨P2_ k_):=by
 unfold slices_Insert_S_impl_Setting.f at h
 by_cases hc:(l2.length=1∧0≤a1)∧a1≤(l0.length:Int)∧l0.length≤1000000
 rotate_left
 ·rw [if_neg hc] at h;cases h
 rw [if_pos hc] at h
 obtain rfl:=Option.some.inj h
 obtain ⟨⟨hc1,hc2⟩,hc3,hc4⟩:=hc
 obtain ⟨i,rfl⟩:∃i:Nat,a1=(i:Int):=⟨a1.toNat,zbn⟩
 rw [Int.toNat_natCast]
 obtain ⟨hok0,xs,hown,hrep⟩:=ho0
 obtain ⟨hok2,news,hown2,hrep2⟩:=ho2
 replace hown:w.ownsRow w0.heap.size 57 2 u9000_ l0.length xs:=hown
 replace hrep:Reps (k57.M w w0.heap.size (fun k=>P0_ k∧some k≠u9000_.ownBlock)) 2 l0 xs:=hrep
 replace hown2:w.ownsRow w0.heap.size 57 2 u9001_ l2.length news:=hown2
 replace hrep2:Reps (k57.M w w0.heap.size (fun k=>P2_ k∧some k≠u9001_.ownBlock)) 2 l2 news:=hrep2
 have h1x:=slices_Insert_S_impl_Setting.one hrep
 have h1:=slices_Insert_S_impl_Setting.one hrep2
 have hbs:∀k,u9000_.ownBlock=some k→w0.heap.size≤k:=fun k hk=>by
  rcases hown.2 with ⟨rfl,_⟩|⟨g,c,cur,rfl,hBg,_⟩
  ·cases hk
  ·obtain rfl:g=k:=Option.some.inj hk
   exact hBg
 have hnl:news.length=2:=by rw [hown2.1,hc1]
 have hlen:(l0.take i++l2++l0.drop i).length=l0.length+1:=by rw [List.length_append,List.length_append,List.length_take,List.length_drop,hc1];omega
 rcases hown2.2 with ⟨_,h0⟩|⟨gl,vc,lc,rfl,hBl,hl,h1c,_,hlc,hlt⟩
 ·omega
 rw [hc1] at hlt ⊢
 replace hlt:lc.toList.take news.length=news:=by rw [hnl];simpa using hlt
 have hne:∀k,u9000_.ownBlock=some k→gl≠k:=fun k hk e=>hp0_2 k (hok0 k hk) (hok2 k (by rw [←e];rfl))
 have fin:∀(e:Ending) (w':World),(∃v',e = .returned v'∧w'.ownsRow w0.heap.size 57 2 v' (l0.length+1) (xs.take (i*2)++news++xs.drop (i*2))∧w.grownBy w' u9000_.ownBlock∧(v'.ownBlock=u9000_.ownBlock∨∃b,v'.ownBlock=some b∧w.heap.size≤b))→∃v0_:Value,e = .returned (v0_)∧Kd.R k57 57 w' w0.heap.size (fun k_=>((P0_ k_∨P2_ k_)∨w.heap.size≤k_)) v0_ (l0.take i++l2++l0.drop i)∧Below w0.heap.size w0 w'∧Kept w w' (fun k_=>P0_ k_∨P2_ k_):=by
  rintro e w' ⟨v',rfl,ho,hg,hat⟩
  refine ⟨v',rfl,⟨fun k hk=>?_,_,by rw [hlen];exact ho,?_⟩,Below.grown hB hg hB.size (fun k hk=>hbs k hk),Kept.of_grown hg (Kept.refl w _) (fun k hk=>.inl (.inl (hok0 k hk)))⟩
  ·rcases hat with hat|⟨b,hb,hbb⟩
   ·exact .inl (.inl (hok0 k (by rw [←hat];exact hk)))
   ·obtain rfl:b=k:=Option.some.inj (hb.symm.trans hk)
    exact .inr hbb
  ·exact Kd.reps_append (Kd.reps_append (Kd.reps_take (slices_Insert_S_impl_Setting.any hrep) zbn) (slices_Insert_S_impl_Setting.any hrep2)) (Kd.reps_drop (slices_Insert_S_impl_Setting.any hrep))
 by_cases hi:i=l0.length
 ·exact (slices_Insert_S_impl_Setting.c_end u9000_ u9000_.ownBlock rfl l0.length i xs news w0.heap.size gl w hown hB.size lc vc hl hlt hnl h1 h1x hc4 (fun e=>hne gl e rfl) hi).mono fin
 rcases hown.2 with ⟨_,h0⟩|⟨g,c,cur,rfl,hBg,hb,hnc,hcm,hcs,ht⟩
 ·omega
 by_cases hroom:l0.length+1≤c
 ·refine (slices_Insert_S_impl_Setting.c_room g c cur l0.length i xs news w0.heap.size gl w hb hown.1 ht hcs hcm hBg lc vc hl hlt hnl h1 h1x hc4 (hne g rfl) zbn hroom).mono ?_
  rintro e w' ⟨v',h1,h2,h3,h4⟩
  exact fin e w' ⟨v',h1,h2,h3,.inl h4⟩
 ·refine (slices_Insert_S_impl_Setting.c_grow g c cur l0.length i xs news w0.heap.size gl w hb hown.1 ht hcs hB.size lc vc hl hlt hnl h1 h1x hc4 zbn hnc zbn).mono ?_
  rintro e w' ⟨v',h1,h2,h3,h4⟩
  exact fin e w' ⟨v',h1,h2,h3,.inr ⟨_,h4,Nat.le_refl _⟩⟩
end Go.Proofs.YtocegmkifmdlcaaDoor.P

namespace Go.Proofs.YtocegmkifmdlcaaDoor.P
open Go.RowKit Go.Proofs.YtocegmkifmdlcaaDoorW.PrintWords
set_option linter.unusedVariables false
theorem del_clear {P : Program} (w : World) (t e ty : TypeId) {i : TypeInfo} (z : Value) (ht : P.underlying t = some (.slice e)) (hi : P.info? e = some i) (hz : i.zero = some z) (g o n c : Nat) (cur : Array Value) (et : TypeId) (zs : List Value) (hn : 0 < n) (hzs : (Builtin.zeroCells z.cells n).toList = zs)
    (hg : w.heap[g]? = some (.cells cur et (0, 0))) (hfit : o + zs.length ≤ cur.size) (h1 : ∀ v ∈ zs, v.oneCell' = true) :
    (Builtin.clear_ #[t] ty #[.slice (some ⟨g, o, none⟩) n c]).run P w = .ok (.tuple #[]) (w.setRow g (cur.toList.take o ++ zs ++ cur.toList.drop (o + zs.length)).toArray) := by
  have hst := run_storeCells_at P g o et zs 0 cur w hg (by simpa using hfit) h1
  simp only [Nat.add_zero] at hst
  have hv : ∀ w, (zeroValue e).run P w = .ok z w := fun w => by simp [zeroValue, typeInfo, hi, hz]
  obtain ⟨m, rfl⟩ : ∃ m, n = m + 1 := ⟨n - 1, zbn⟩
  simp [Builtin.clear_, run_underlying ht, hv, hzs, hst]
theorem del_cut {P : Program} (t e : TypeId) {i : TypeInfo} (ht : P.underlying t = some (.slice e)) (hi : P.info? e = some i) (A : Option Addr) (n c : Nat) (l h m : Int) (h0 : 0 ≤ l) (h1 : l ≤ h) (h2 : h ≤ m) (h3 : m ≤ c) :
    ∃ v, ∀ W : World, (Instr.slice t (.slice A n c) (some (.int .i64 l)) (some (.int .i64 h)) (some (.int .i64 m))).run P W = .ok v W := by
  have hel : P.elem t = e := by simp [Program.elem, ht]
  have hu : P.underlying t = some (.slice (P.elem t)) := by rw [hel]; exact ht
  refine ⟨sliced A l.toNat h.toNat m.toNat i.size, fun W => ?_⟩
  rw [run_slice_lhm W t A n c hu .i64 .i64 .i64 l h m h0 h1 h2 h3, hel]
  simp [sizeOf, typeInfo, hi, sliced, Result.andThen]
theorem del_mid {P : Program} (t e : TypeId) {i : TypeInfo} (ht : P.underlying t = some (.slice e)) (hi : P.info? e = some i) (z : Nat) (hz : i.size = z) (g n c l h : Nat) (x y : Int) (hx : x = (l : Int)) (hy : y = (h : Int)) (h1 : l ≤ h) (h2 : h ≤ c) (hc : l ≠ c) :
    ∀ W : World, (Instr.slice t (.slice (some ⟨g, 0, none⟩) n c) (some (.int .i64 x)) (some (.int .i64 y)) none).run P W = .ok (.slice (some ⟨g, l * z, none⟩) (h - l) (c - l)) W := by
  intro W
  have hel : P.elem t = e := by simp [Program.elem, ht]
  have hu : P.underlying t = some (.slice (P.elem t)) := by rw [hel]; exact ht
  subst hx hy
  have hadd : (⟨g, 0, none⟩ : Addr).add (l * z) = ⟨g, l * z, none⟩ := by unfold Addr.add; split <;> simp_all
  rw [run_slice_lh W t (some ⟨g, 0, none⟩) n c hu .i64 .i64 (l : Int) (h : Int) zbn zbn zbn, hel]
  simp [sizeOf, typeInfo, hi, hz, sliced, Result.andThen, if_neg (Ne.symm hc), hadd]
/-- The row behind the move in place. -/
theorem del_room {l xs : List Value} {a b m : Nat} (hx : l.take m = xs) (hxl : xs.length = m) (ha : a + b ≤ m) :
    ((l.take a ++ xs.drop (a + b) ++ l.drop (a + (xs.drop (a + b)).length)).take (m - b)) = xs.take a ++ xs.drop (a + b) ∧ (m ≤ l.length → (l.take a ++ xs.drop (a + b) ++ l.drop (a + (xs.drop (a + b)).length)).length = l.length) := by
  have h2 : (xs.drop (a + b)).length = m - (a + b) := by rw [List.length_drop]; omega
  have hml : m ≤ l.length := by rw [← hxl, ← hx, List.length_take]; omega
  have h3 : (l.take a).length = a := by rw [List.length_take]; omega
  constructor
  · have e1 : l.take a = xs.take a := by rw [← hx, List.take_take, Nat.min_eq_left zbn]
    rw [List.take_append_of_le_length (by rw [List.length_append, h3, h2]; omega), List.take_of_length_le (by rw [List.length_append, h3, h2]; omega), e1]
  · intro _
    rw [List.length_append, List.length_append, h3, h2, List.length_drop]; omega
end Go.Proofs.YtocegmkifmdlcaaDoor.P

namespace Go.Proofs.YtocegmkifmdlcaaDoor.P
open Go.RowKit Go.Proofs.YtocegmkifmdlcaaDoorW.PrintWords Go.Proofs.YtocegmkifmdlcaaDoorW.PrintLast Go.Proofs.YtocegmkifmdlcaaDoorW.PrintMore
attribute [local go_sem] max2_int min2_int max_two min_two max_three min_three max_four min_four str_leq str_gtr str_geq
set_option linter.unusedVariables false
set_option linter.unusedSimpArgs false
def slices_Delete_S_impl_Setting.f (l0:List S57) (a1 a2:Int):Option (List S57):=if (a2=a1+1∧0≤a1)∧a1<(l0.length:Int)∧l0.length≤1000000 then some (l0.take a1.toNat++l0.drop (a1.toNat+1)) else none
theorem slices_Delete_S_impl_Setting.info:∃i,Tryd.prog.info? 57=some i∧i.zero=some (.agg #[.string ⟨#[]⟩,.int .i64 0])∧i.size=2∧i.bytes=24:=by
 have h:(Tryd.prog.info? 57).map (fun i=>(i.zero,i.size,i.bytes))=some (some (.agg #[.string ⟨#[]⟩,.int .i64 0]),2,24):=by kernel_rfl
 cases hi:Tryd.prog.info? 57 with
 | none=>rw [hi] at h;cases h
 | some i=>
  rw [hi] at h
  simp only [Option.map_some,Option.some.injEq,Prod.mk.injEq] at h
  exact ⟨i,rfl,h.1,h.2.1,h.2.2⟩
theorem slices_Delete_S_impl_Setting.one {w:World} {base:Nat} {ok:Nat→Prop} {l:List S57} {xs:List Value} (h:Reps (k57.M w base ok) 2 l xs):∀u∈xs,u.oneCell'=true:=
 ins_one h zbp (fun p c hp=>by
  rw [k57_openM hp]
  intro u hu
  simp only [List.mem_cons,List.not_mem_nil,or_false] at hu
  rcases hu with rfl|rfl<;>rfl)
theorem slices_Delete_S_impl_Setting.any {w w':World} {base base':Nat} {ok ok':Nat→Prop} {l:List S57} {xs:List Value} (h:Reps (k57.M w base ok) 2 l xs):Reps (k57.M w' base' ok') 2 l xs:=h.imp_ (fun p c hp=>by rw [k57_openM hp];exact k57_mkM _ _ _ _)
set_option maxHeartbeats 3200000 in
set_option maxRecDepth 100000 in
theorem slices_Delete_S_impl_Setting.c_room (g c:Nat) (cur:Array Value) (n i:Nat) (xs:List Value) (B:Nat) (w:World) (hb:w.heap[g]?=some (.cells cur 57 (0,0))) (hxl:xs.length=n*2) (ht:cur.toList.take (n*2)=xs) (hnc:n≤c) (hcs:cur.size=c*2) (hcm:c≤maxLen) (hBg:B≤g) (hi:i<n) (hn:n≤1000000) (h1:∀u∈xs,u.oneCell'=true) :
 Calls Tryd.prog 33 #[.slice (some ⟨g,0,none⟩) n c,.int .i64 (i:Int),.int .i64 ((i:Int)+1)] w fun e w'=>∃v',e = .returned v'∧w'.ownsRow B 57 2 v' (n - 1) (xs.take (i*2)++xs.drop ((i+1)*2))∧w.grownBy w' (some g)∧v'.ownBlock=some g:=by
 obtain ⟨it,hi5,hz5,hs5,hb5⟩:=slices_Delete_S_impl_Setting.info
 have hll:cur.toList.length=c*2:=by rw [Array.length_toList];exact hcs
 have hdl:(xs.drop ((i+1)*2)).length=(n - (i+1))*2:=by rw [List.length_drop,hxl];omega
 obtain ⟨ad,had⟩:∃ad:Addr,ad=if c=i+1 then ⟨g,0,none⟩ else ⟨g,(i+1)*2,none⟩:=⟨_,rfl⟩
 have hsrc:∀j u,(xs.drop ((i+1)*2))[j]?=some u→w.drew.cell? (ad.add j)=some u:=fun j u hj=>by
  by_cases hc:c=i+1
  ·rw [List.getElem?_eq_none (by rw [hdl];omega)] at hj;cases hj
  ·rw [had,if_neg hc]
   exact ins_cell (w:=w) hb (ins_take ht hj)
 have hadd:(⟨g,0,none⟩:Addr).add ((i+1)*2)=⟨g,(i+1)*2,none⟩:=by unfold Addr.add;split<;>simp_all
 have s25:∀W:World,(Instr.slice 26 (.slice (some ⟨g,0,none⟩) n c) (some (.int .i64 ((i:Int)+1))) none none).run Tryd.prog W = .ok (.slice (some ad) (n - (i+1)) (c - (i+1))) W:=fun W=>by
  rw [cut_from (P:=Tryd.prog) 26 57 .i64 Tryd.underlying26 hi5 2 hs5 (some ⟨g,0,none⟩) n c ((i:Int)+1) zbn zbn W,show ((i:Int)+1).toNat=i+1 by omega,had]
  by_cases hc:c=i+1
  ·rw [if_pos hc,if_pos hc]
  ·rw [if_neg hc,if_neg hc,Option.map_some,hadd]
 have s22:=ins_to (P:=Tryd.prog) 26 57 Tryd.underlying26 hi5 (some ⟨g,0,none⟩) n c i (i:Int) rfl zbn
 obtain ⟨v13,s13⟩:=del_cut (P:=Tryd.prog) 26 57 Tryd.underlying26 hi5 (some ⟨g,0,none⟩) n c (i:Int) ((i:Int)+1) (n:Int) zbn zbn zbn zbn
 have s31:=del_mid (P:=Tryd.prog) 26 57 Tryd.underlying26 hi5 2 hs5 g (n - 1) c (n - 1) n ((n - 1:Nat):Int) (n:Int) rfl rfl zbn hnc zbn
 rw [show n - (n - 1)=1 by omega] at s31
 have e2:(i+1)*2=i*2+2:=by omega
 obtain ⟨f1,f2⟩:=del_room (l:=cur.toList) (xs:=xs) (a:=i*2) (b:=2) (m:=n*2) ht hxl zbn
 rw [←e2] at f1 f2
 have f3:=f2 (by rw [hll];omega)
 obtain ⟨cur1,hc1⟩:∃cur1,cur1=cur.toList.take (i*2)++xs.drop ((i+1)*2)++cur.toList.drop (i*2+(xs.drop ((i+1)*2)).length):=⟨_,rfl⟩
 rw [←hc1] at f1 f3
 obtain ⟨W1,hW1⟩:∃W1,W1=w.drew.setRow g cur1.toArray:=⟨_,rfl⟩
 have hr1:=run_append_room (P:=Tryd.prog) w.drew 26 26 57 it Tryd.underlying26 hi5 g i c cur hb ad (n - (i+1)) (c - (i+1)) (xs.drop ((i+1)*2)) (by rw [hs5];exact hdl) hsrc (fun u hu=>h1 u (List.mem_of_mem_drop hu)) zbn (by rw [hs5,hdl,hcs];omega)
 rw [hs5,←hc1,←hW1,show i+(n - (i+1))=n - 1 by omega] at hr1
 have hb1:W1.heap[g]?=some (.cells cur1.toArray 57 (0,0)):=by rw [hW1];exact setRow_heap w.drew g cur _ 57 (0,0) hb
 obtain ⟨zs,hzs⟩:∃zs:List Value,zs=[.string ⟨#[]⟩,.int .i64 0]:=⟨_,rfl⟩
 have hzl:zs.length=2:=by rw [hzs];rfl
 obtain ⟨W2,hW2⟩:∃W2,W2=W1.setRow g (cur1.take ((n - 1)*2)++zs++cur1.drop ((n - 1)*2+zs.length)).toArray:=⟨_,rfl⟩
 have hcl:∀ty,(Builtin.clear_ #[26] ty #[.slice (some ⟨g,(n - 1)*2,none⟩) 1 (c - (n - 1))]).run Tryd.prog W1 = .ok (.tuple #[]) W2:=fun ty=>by
  rw [hW2]
  exact del_clear (P:=Tryd.prog) W1 26 57 ty (.agg #[.string ⟨#[]⟩,.int .i64 0]) Tryd.underlying26 hi5 hz5 g ((n - 1)*2) 1 (c - (n - 1)) cur1.toArray 57 zs zbn (by rw [hzs];first|kernel_rfl|decide|(simp [Builtin.zeroCells,Value.cells];rfl)) hb1 (by rw [List.size_toArray,f3,hll,hzl];omega) (by rw [hzs];intro v hv;simp only [List.mem_cons,List.not_mem_nil,or_false] at hv;rcases hv with rfl|rfl<;>rfl)
 have hb2:W2.heap[g]?=some (.cells (cur1.take ((n - 1)*2)++zs++cur1.drop ((n - 1)*2+zs.length)).toArray 57 (0,0)):=by rw [hW2];exact setRow_heap W1 g _ _ 57 (0,0) hb1
 have HG:=Aside0.mk (ins_grown hW1 hW2)
 have hf4:(cur1.take ((n - 1)*2)).length=(n - 1)*2:=by rw [List.length_take,f3,hll];omega
 have HO:=Aside0.mk (show W2.ownsRow B 57 2 (.slice (some ⟨g,0,none⟩) (n - 1) c) (n - 1) (xs.take (i*2)++xs.drop ((i+1)*2)) from by
  refine ⟨by rw [List.length_append,List.length_take,hdl,hxl];omega,.inr ⟨g,c,_,rfl,hBg,hb2,zbn,hcm,?_,?_⟩⟩
  ·rw [List.size_toArray,List.length_append,List.length_append,hf4,List.length_drop,f3,hll,hzl];omega
  ·rw [List.append_assoc,List.take_append_of_le_length zbn,List.take_take,Nat.min_self,←f1]
   congr 1
   omega)
 have b1:((i:Int) == (i:Int)+1)=false:=beq_eq_false_iff_ne.2 zbn
 have HR1:=Aside0.mk hr1
 clear hb hxl ht hcs hcm hBg hi hn h1 hi5 hz5 hs5 hb5 hll hdl had hsrc hadd e2 f1 f2 f3 hc1 hW1 hr1 hb1 hzs hzl hW2 hb2 hf4
 go_enter Tryd.func33,Tryd.ntmps33
 go_upto_region 5 with (fail)
 go_region_held3 (fun _=>True) (trivial) (first|(refine byt_app_step (by rfl) _ _ _ (by rfl) (by rfl) (by rfl) HR1.out ?_))
 go_wp2_with (fail)
 go_ret
 exact ⟨_,rfl,HO.out,HG.out,rfl⟩
theorem slices_Delete_S_impl_Setting.calls (P0_:Nat→Prop) (u9000_:Value) (l0:List S57) (a1 a2:Int) (r:List S57) (w0 w:World) (hB:Below w0.heap.size w0 w) (ho0:Kd.R k57 57 w w0.heap.size P0_ u9000_ l0) (h:slices_Delete_S_impl_Setting.f l0 a1 a2=some r) :
 Calls Tryd.prog 33 #[u9000_,.int .i64 a1,.int .i64 a2] w fun e w'=>∃v0_:Value,e = .returned (v0_)∧Kd.R k57 57 w' w0.heap.size (fun k_=>(P0_ k_∨w.heap.size≤k_)) v0_ r∧Below w0.heap.size w0 w'∧Kept w w' (fun k_=>P0_ k_):=by
 unfold slices_Delete_S_impl_Setting.f at h
 by_cases hc:(a2=a1+1∧0≤a1)∧a1<(l0.length:Int)∧l0.length≤1000000
 rotate_left
 ·rw [if_neg hc] at h;cases h
 rw [if_pos hc] at h
 obtain rfl:=Option.some.inj h
 obtain ⟨⟨rfl,hc2⟩,hc3,hc4⟩:=hc
 obtain ⟨i,rfl⟩:∃i:Nat,a1=(i:Int):=⟨a1.toNat,zbn⟩
 rw [Int.toNat_natCast]
 obtain ⟨hok0,xs,hown,hrep⟩:=ho0
 replace hown:w.ownsRow w0.heap.size 57 2 u9000_ l0.length xs:=hown
 replace hrep:Reps (k57.M w w0.heap.size (fun k=>P0_ k∧some k≠u9000_.ownBlock)) 2 l0 xs:=hrep
 have h1:=slices_Delete_S_impl_Setting.one hrep
 have hlen:(l0.take i++l0.drop (i+1)).length=l0.length - 1:=by rw [List.length_append,List.length_take,List.length_drop];omega
 rcases hown.2 with ⟨_,h0⟩|⟨g,c,cur,rfl,hBg,hb,hnc,hcm,hcs,ht⟩
 ·omega
 refine (slices_Delete_S_impl_Setting.c_room g c cur l0.length i xs w0.heap.size w hb hown.1 ht hnc hcs hcm hBg zbn hc4 h1).mono ?_
 rintro e w' ⟨v',rfl,ho,hg,hat⟩
 refine ⟨v',rfl,⟨fun k hk=>?_,_,by rw [hlen];exact ho,?_⟩,Below.grown hB hg hB.size (fun k hk=>by obtain rfl:g=k:=Option.some.inj hk;exact hBg),Kept.of_grown hg (Kept.refl w _) (fun k hk=>.inl (hok0 k hk))⟩
 ·exact .inl (hok0 k (by rw [hat] at hk;exact hk))
 ·exact Kd.reps_append (Kd.reps_take (slices_Delete_S_impl_Setting.any hrep) zbn) (Kd.reps_drop (slices_Delete_S_impl_Setting.any hrep))
end Go.Proofs.YtocegmkifmdlcaaDoor.P

namespace Go.Proofs.YtocegmkifmdlcaaDoor.P
open Go.RowKit Go.Proofs.YtocegmkifmdlcaaDoorW.PrintWords Go.Proofs.YtocegmkifmdlcaaDoorW.PrintLast Go.Proofs.YtocegmkifmdlcaaDoorW.PrintMore
attribute [local go_sem] max2_int min2_int max_two min_two max_three min_three max_four min_four str_leq str_gtr str_geq
set_option linter.unusedVariables false
set_option linter.unusedSimpArgs false
attribute [local go_sem high] eqA57
mutual
def impl_ApplyChanges.j0:Nat→List (S57)→List (S61)→Bool→Option ((List (S57)) × Int)
 | 0,_,_,_=>none
 | k+1,x0,x1,x19=>if x19=true then (some (([]:List (S57)),1)) else ((slices_Clone_S_impl_Setting.f x0).bind fun t103=>(impl_ApplyChanges.l0 k t103 x1 (x1.length:Int) 0))
def impl_ApplyChanges.l0:Nat→List (S57)→List (S61)→Int→Int→Option ((List (S57)) × Int)
 | 0,_,_,_,_=>none
 | k+1,x7,x22,x23,x24=>if x24<x23 then (if 0≤x24 then (if x24<(x22.length:Int) then ((slices_BinarySearchFunc_S_impl_Setting.f k x7 ((rd_T61 x22 x24).f1.f0) ((rd_T61 x22 x24).f1.f1) 0).bind fun bt108=>(if ((rd_T61 x22 x24).f0)=1 then (impl_ApplyChanges.j2 k x7 bt108.1 bt108.2 x22 x23 x24 bt108.2 ((rd_T61 x22 x24).f0) ((rd_T61 x22 x24).f1.f0) ((rd_T61 x22 x24).f1.f1)) else (impl_ApplyChanges.j2 k x7 bt108.1 bt108.2 x22 x23 x24 false ((rd_T61 x22 x24).f0) ((rd_T61 x22 x24).f1.f0) ((rd_T61 x22 x24).f1.f1)))) else (none)) else (none)) else (some (x7,0))
def impl_ApplyChanges.j2:Nat→List (S57)→Int→Bool→List (S61)→Int→Int→Bool→Int→ByteArray→Int→Option ((List (S57)) × Int)
 | 0,_,_,_,_,_,_,_,_,_,_=>none
 | k+1,x7,x10,x11,x22,x23,x24,x40,x108000,x108001,x108002=>if x40=true then (if 0≤x10 then (if x10<(x7.length:Int) then (impl_ApplyChanges.l0 k (x7.set (x10:Int).toNat (⟨x108001,x108002⟩:S57)) x22 x23 (wrap64 (x24+1))) else (none)) else (none)) else (if x108000=1 then (impl_ApplyChanges.j3 k x7 x10 x11 x22 x23 x24 ((x7.length:Int) == 24) x108000 x108001 x108002) else (impl_ApplyChanges.j3 k x7 x10 x11 x22 x23 x24 false x108000 x108001 x108002))
def impl_ApplyChanges.j3:Nat→List (S57)→Int→Bool→List (S61)→Int→Int→Bool→Int→ByteArray→Int→Option ((List (S57)) × Int)
 | 0,_,_,_,_,_,_,_,_,_,_=>none
 | k+1,x7,x10,x11,x22,x23,x24,x52,x108000,x108001,x108002=>if x52=true then (some (([]:List (S57)),5)) else (if x108000=1 then ((slices_Insert_S_impl_Setting.f x7 x10 (([(⟨x108001,x108002⟩:S57)]:List (S57)))).bind fun t114=>(impl_ApplyChanges.l0 k t114 x22 x23 (wrap64 (x24+1)))) else (if x11=true then (if 0≤x10 then (if x10<(x7.length:Int) then (if (!((((rd_T57 x7 x10).f0).toList) == x108001.toList) || (!(((rd_T57 x7 x10).f1) == x108002)))=true then (some (([]:List (S57)),6)) else ((slices_Delete_S_impl_Setting.f x7 x10 (wrap64 (x10+1))).bind fun t118=>(impl_ApplyChanges.l0 k t118 x22 x23 (wrap64 (x24+1))))) else (none)) else (none)) else (some (([]:List (S57)),3))))
end
def impl_ApplyChanges.f (k:Nat) (l0:List (S57)) (l1:List (S61)):Option ((List (S57)) × Int):=(impl_ValidState.f k l0).bind fun t101=>(if t101=true then ((slices_ContainsFunc_S_impl_Change.f k l1 0).bind fun t102=>(impl_ApplyChanges.j0 k l0 l1 t102)) else (impl_ApplyChanges.j0 k l0 l1 true))
set_option maxHeartbeats 8000000 in
set_option maxRecDepth 100000 in
theorem impl_ApplyChanges.calls (k:Nat) (A0:Option Addr) (c0:Nat) (l0:List (S57)) (A1:Option Addr) (c1:Nat) (l1:List (S61)) (r1:List (S57)) (r2:Int) (w:World) (hr0:Kd.C k57 w A0 l0.length l0) (hc0:l0.length≤c0) (hr1:Kd.C k61 w A1 l1.length l1) (hc1:l1.length≤c1) (h:impl_ApplyChanges.f k l0 l1=some (r1,r2)) :
 Calls Tryd.prog 9 #[.slice A0 l0.length c0,.slice A1 l1.length c1] w fun e w'=>∃v0_:Value,e = .returned (.tuple #[v0_,.int .i64 r2])∧Kd.R k57 57 w' w.heap.size (fun _=>True) v0_ r1∧Below w.heap.size w w':=by
 have hu61:=Tryd.underlying61
 have hu57:=Tryd.underlying57
 have HR0:=Aside0.mk hr0
 have HC0:=Aside0.mk hc0
 clear hr0 hc0
 have HR1:=Aside0.mk hr1
 have HC1:=Aside0.mk hc1
 clear hr1 hc1
 have HB:=Aside0.mk (Below.refl w.heap.size w)
 have H:((impl_ValidState.f k l0).bind fun t101=>(if t101=true then ((slices_ContainsFunc_S_impl_Change.f k l1 0).bind fun t102=>(impl_ApplyChanges.j0 k l0 l1 t102)) else (impl_ApplyChanges.j0 k l0 l1 true)))=some (r1,r2):=h
 clear h
 have HC3:=Aside0.mk H
 clear H
 go_enter Tryd.func9,Tryd.ntmps9
 go_upto_region 2 with (fail)
 repeat (go_quiet (fail);go_upto_region 2 with (fail))
 go_cut [19] (fun v19 wc=>∃(kq:Nat) (x19_2:Bool),v19 = .bool x19_2∧Aside0 (impl_ApplyChanges.j0 kq l0 l1 x19_2=some (r1,r2))∧Aside0 (kq≤k)∧Aside0 (Below w.heap.size w wc))
 case first=>
  have H:=HC3.out
  clear HC3
  replace H:=Option.bind_eq_some_iff.mp H
  obtain ⟨t101,A40,H⟩:=H
  replace H:(if t101=true then ((slices_ContainsFunc_S_impl_Change.f k l1 0).bind fun t102=>(impl_ApplyChanges.j0 k l0 l1 t102)) else (impl_ApplyChanges.j0 k l0 l1 true))=some (r1,r2):=H
  have A4:=Aside0.mk A40
  clear A40
  by_cases c5:t101=true
  ·subst c5
   have H1:((slices_ContainsFunc_S_impl_Change.f k l1 0).bind fun t102=>(impl_ApplyChanges.j0 k l0 l1 t102))=some (r1,r2):=by rw [if_pos rfl] at H;exact H
   clear H
   have H:=H1
   clear H1
   replace H:=Option.bind_eq_some_iff.mp H
   obtain ⟨t102,A60,H⟩:=H
   replace H:(impl_ApplyChanges.j0 k l0 l1 t102)=some (r1,r2):=H
   have A6:=Aside0.mk A60
   clear A60
   have H':=Aside0.mk H
   clear H
   go_wp2_with (first|(go_at_call 24;(with_reducible refine (impl_ValidState.calls k _ _ l0 true _ ?side1 ?side2 A4.out).mono ?_);(case side1=>exact zm);(case side2=>exact HC0.out);rintro e w7 ⟨rfl,hb⟩;replace HB:=Aside0.mk (below_step za hb);(try clear hb);(try clear hb2);(try clear hk);(try clear hi))|(go_at_call 28;(with_reducible refine (slices_ContainsFunc_S_impl_Change.calls k _ _ l1 0 t102 _ ?side1 ?side2 A6.out).mono ?_);(case side1=>exact zab);(case side2=>exact HC1.out);rintro e w8 ⟨rfl,hb⟩;replace HB:=Aside0.mk (below_step za hb);(try clear hb);(try clear hb2);(try clear hk);(try clear hi)))
   repeat (go_quiet (first|(go_at_call 24;(with_reducible refine (impl_ValidState.calls k _ _ l0 true _ ?side1 ?side2 A4.out).mono ?_);(case side1=>exact zm);(case side2=>exact HC0.out);rintro e w7 ⟨rfl,hb⟩;replace HB:=Aside0.mk (below_step za hb);(try clear hb);(try clear hb2);(try clear hk);(try clear hi))|(go_at_call 28;(with_reducible refine (slices_ContainsFunc_S_impl_Change.calls k _ _ l1 0 t102 _ ?side1 ?side2 A6.out).mono ?_);(case side1=>exact zab);(case side2=>exact HC1.out);rintro e w8 ⟨rfl,hb⟩;replace HB:=Aside0.mk (below_step za hb);(try clear hb);(try clear hb2);(try clear hk);(try clear hi)));try go_wp2_with (first|(go_at_call 24;(with_reducible refine (impl_ValidState.calls k _ _ l0 true _ ?side1 ?side2 A4.out).mono ?_);(case side1=>exact zm);(case side2=>exact HC0.out);rintro e w7 ⟨rfl,hb⟩;replace HB:=Aside0.mk (below_step za hb);(try clear hb);(try clear hb2);(try clear hk);(try clear hi))|(go_at_call 28;(with_reducible refine (slices_ContainsFunc_S_impl_Change.calls k _ _ l1 0 t102 _ ?side1 ?side2 A6.out).mono ?_);(case side1=>exact zab);(case side2=>exact HC1.out);rintro e w8 ⟨rfl,hb⟩;replace HB:=Aside0.mk (below_step za hb);(try clear hb);(try clear hb2);(try clear hk);(try clear hi))))
   go_meet
   case rel=>exact ⟨_,(t102),zi,H',⟨zcj⟩,⟨za⟩⟩
  ·replace c5:=Bool.eq_false_iff.mpr c5
   subst c5
   have H1:(impl_ApplyChanges.j0 k l0 l1 true)=some (r1,r2):=by rw [if_neg (show ¬ (false=true) by decide)] at H;exact H
   clear H
   have H:=H1
   clear H1
   have H':=Aside0.mk H
   clear H
   go_wp2_with (first|(go_at_call 24;(with_reducible refine (impl_ValidState.calls k _ _ l0 false _ ?side1 ?side2 A4.out).mono ?_);(case side1=>exact zm);(case side2=>exact HC0.out);rintro e w9 ⟨rfl,hb⟩;replace HB:=Aside0.mk (below_step za hb);(try clear hb);(try clear hb2);(try clear hk);(try clear hi)))
   repeat (go_quiet (first|(go_at_call 24;(with_reducible refine (impl_ValidState.calls k _ _ l0 false _ ?side1 ?side2 A4.out).mono ?_);(case side1=>exact zm);(case side2=>exact HC0.out);rintro e w9 ⟨rfl,hb⟩;replace HB:=Aside0.mk (below_step za hb);(try clear hb);(try clear hb2);(try clear hk);(try clear hi)));try go_wp2_with (first|(go_at_call 24;(with_reducible refine (impl_ValidState.calls k _ _ l0 false _ ?side1 ?side2 A4.out).mono ?_);(case side1=>exact zm);(case side2=>exact HC0.out);rintro e w9 ⟨rfl,hb⟩;replace HB:=Aside0.mk (below_step za hb);(try clear hb);(try clear hb2);(try clear hk);(try clear hi))))
   go_meet
   case rel=>exact ⟨_,(true),zi,H',⟨zcj⟩,⟨za⟩⟩
 case rest=>
  clear HC3
  try clear c1
  try clear p2
  try clear c5
  try clear c9
  obtain ⟨kq,x19_2,rfl,HA,HJ2,HB⟩:=hcut
  cases kq with
  | zero=>exact absurd HA.out (by simp [impl_ApplyChanges.j0])
  | succ kj2=>
   have H:=HA.out
   clear HA
   simp only [impl_ApplyChanges.j0] at H
   by_cases c10:x19_2=true
   ·subst c10
    have H1:(some (([]:List (S57)),1))=some (r1,r2):=by rw [if_pos rfl] at H;exact H
    clear H
    have H:=H1
    clear H1
    simp only [Option.some.injEq,Prod.mk.injEq] at H
    obtain ⟨rfl,rfl⟩:=H
    go_wp2
    repeat (go_quiet (fail);try go_wp2)
    go_ret2
    exact ⟨_,zj,zba,za⟩
   ·replace c10:=Bool.eq_false_iff.mpr c10
    subst c10
    have H1:((slices_Clone_S_impl_Setting.f l0).bind fun t103=>(impl_ApplyChanges.l0 kj2 t103 l1 (l1.length:Int) 0))=some (r1,r2):=by rw [if_neg (show ¬ (false=true) by decide)] at H;exact H
    clear H
    have H:=H1
    clear H1
    replace H:=Option.bind_eq_some_iff.mp H
    obtain ⟨t103,A110,H⟩:=H
    replace H:(impl_ApplyChanges.l0 kj2 t103 l1 (l1.length:Int) 0)=some (r1,r2):=H
    have A11:=Aside0.mk A110
    clear A110
    have H':=Aside0.mk H
    clear H
    go_wp2_with (first|(go_at_call 29;(with_reducible refine (slices_Clone_S_impl_Setting.calls _ _ l0 t103 _ ?side1 ?side2 A11.out).mono ?_);(case side1=>exact zm);(case side2=>exact HC0.out);rintro e w12 ⟨v104,rfl,ho0,hb⟩;have HO105:=Aside0.mk (Kd.R_lower ho0 (below_size za));replace HB:=Aside0.mk (below_step za hb);(try clear hb);(try clear hb2);(try clear hk);(try clear hi);(try clear ho0)))
    repeat (go_quiet (first|(go_at_call 29;(with_reducible refine (slices_Clone_S_impl_Setting.calls _ _ l0 t103 _ ?side1 ?side2 A11.out).mono ?_);(case side1=>exact zm);(case side2=>exact HC0.out);rintro e w12 ⟨v104,rfl,ho0,hb⟩;have HO105:=Aside0.mk (Kd.R_lower ho0 (below_size za));replace HB:=Aside0.mk (below_step za hb);(try clear hb);(try clear hb2);(try clear hk);(try clear hi);(try clear ho0)));try go_wp2_with (first|(go_at_call 29;(with_reducible refine (slices_Clone_S_impl_Setting.calls _ _ l0 t103 _ ?side1 ?side2 A11.out).mono ?_);(case side1=>exact zm);(case side2=>exact HC0.out);rintro e w12 ⟨v104,rfl,ho0,hb⟩;have HO105:=Aside0.mk (Kd.R_lower ho0 (below_size za));replace HB:=Aside0.mk (below_step za hb);(try clear hb);(try clear hb2);(try clear hk);(try clear hi);(try clear ho0))))
    go_loopg [7,24] kj2 (fun kq v7 v24 w'=>∃(x7_2:List (S57)) (x24_2:Int),v24 = .int .i64 x24_2∧Aside0 (impl_ApplyChanges.l0 kq x7_2 l1 (l1.length:Int) x24_2=some (r1,r2))∧Aside0 (kq≤kj2)∧Aside0 (Kd.R k57 57 w' w.heap.size (fun _=>True) v7 x7_2)∧Aside0 (Below w.heap.size w w'))
    case atStart=>exact ⟨(t103),(0),zi,H',⟨Nat.le_refl _⟩,⟨by (with_reducible repeat (first|apply Kd.R_alloc|apply Kd.R_drewN|apply Kd.R_drew));exact HO105.out⟩,⟨za⟩⟩
    case round=>
     clear H'
     try clear c1
     try clear p2
     try clear c5
     try clear c9
     try clear c10
     try clear p2
     obtain ⟨x7_2,x24_2,rfl,HA,HK2,HO_7,HB⟩:=hrel
     cases gk with
     | zero=>exact absurd HA.out (by simp [impl_ApplyChanges.l0])
     | succ k2=>
      have H:=HA.out
      clear HA
      simp only [impl_ApplyChanges.l0] at H
      by_cases c13:x24_2<(l1.length:Int)
      ·rw [if_pos c13] at H
       have c13b0:decide (x24_2<(l1.length:Int))=true:=decide_eq_true c13
       clear c13
       by_cases c14:0≤x24_2
       ·rw [if_pos c14] at H
        have c14b0:decide (0≤x24_2)=true:=decide_eq_true c14
        clear c14
        by_cases c15:x24_2<(l1.length:Int)
        ·rw [if_pos c15] at H
         have c15b0:decide (x24_2<(l1.length:Int))=true:=decide_eq_true c15
         clear c15
         replace H:=Option.bind_eq_some_iff.mp H
         obtain ⟨⟨t108,t109⟩,A160,H⟩:=H
         replace H:(if ((rd_T61 l1 x24_2).f0)=1 then (impl_ApplyChanges.j2 k2 x7_2 t108 t109 l1 (l1.length:Int) x24_2 t109 ((rd_T61 l1 x24_2).f0) ((rd_T61 l1 x24_2).f1.f0) ((rd_T61 l1 x24_2).f1.f1)) else (impl_ApplyChanges.j2 k2 x7_2 t108 t109 l1 (l1.length:Int) x24_2 false ((rd_T61 l1 x24_2).f0) ((rd_T61 l1 x24_2).f1.f0) ((rd_T61 l1 x24_2).f1.f1)))=some (r1,r2):=H
         have A16:=Aside0.mk A160
         clear A160
         have HC17:=Aside0.mk H
         clear H
         have p106:0≤(x24_2:Int):=of_decide_eq_true zb
         have q106:x24_2<(l1.length:Int):=of_decide_eq_true zb
         obtain ⟨ad106,e106,hx106_0,hx106_1,hx106_2⟩:=at_T61 HR1.out x24_2 p106 q106
         cases e106
         replace hx106_0:=(HB.out.cell (World.block_lt_of_cell? w _ hx106_0)).trans hx106_0
         replace hx106_1:=(HB.out.cell (World.block_lt_of_cell? w _ hx106_1)).trans hx106_1
         replace hx106_2:=(HB.out.cell (World.block_lt_of_cell? w _ hx106_2)).trans hx106_2
         replace p106:=eq_true p106
         replace q106:=eq_true q106
         go_upto_region 10 with (first|((with_reducible refine gate_dst (N:=9) rfl ?_);refine box_event ?hg (N:=9) ?hd (cs:=#[.int .i64 0,.string (⟨#[]⟩:ByteArray),.int .i64 0]) (t:=61) ?hr ?_;(case hd=>rfl);(case hg=>rfl);(case hr=>exact zv);intro gb107 hg w18 hbox hb;have n0_:=Aside0.mk (Kd.R_below zad hb);have n1_:=Aside0.mk (below_step za hb);have n2_:=Aside0.mk (hbox);have n3_:=Aside0.mk ((by rw [hg];exact (below_size za):w.heap.size≤gb107));have n4_:=Aside0.mk ((by rw [hg];exact (below_size za):w.heap.size≤gb107));clear HO_7;clear HB;have HO_7:=n0_;have HB:=n1_;have BK107:=n2_;have GW107:=n3_;have GE107:=n4_;clear n0_ n1_ n2_ n3_ n4_;clear hb hbox hg;have hcz19_0:w18.cell? ⟨gb107,0,none⟩=some (.int .i64 0):=(blk_cell BK107.out 0).trans rfl;have hcz19_1:w18.cell? ⟨gb107,1,none⟩=some (.string (⟨#[]⟩:ByteArray)):=(blk_cell BK107.out 1).trans rfl;have hcz19_2:w18.cell? ⟨gb107,2,none⟩=some (.int .i64 0):=(blk_cell BK107.out 2).trans rfl;have hfz19_0:=blk_frozen BK107.out 0;have hfz19_1:=blk_frozen BK107.out 1;have hfz19_2:=blk_frozen BK107.out 2;obtain ⟨Ao20,co20,eo20⟩:=Kd.R_slice HO_7.out;subst eo20)|(go_at_call 30;(with_reducible refine (slices_BinarySearchFunc_S_impl_Setting.calls k2 _ _ x7_2 ((rd_T61 l1 x24_2).f1.f0) ((rd_T61 l1 x24_2).f1.f1) 0 t108 t109 _ ?side1 ?side2 A16.out).mono ?_);(case side1=>refine (Kd.R_reads' (e:=57) (base:=w.heap.size) (ok:=fun k_=>True) (n:=x7_2.length) (c:=co20) ?_).2.2;exact zx);(case side2=>exact (Kd.R_reads' HO_7.out).2.1);rintro e w21 ⟨rfl,hb⟩;replace HO_7:=Aside0.mk (Kd.R_below zx hb);replace BK107:=Aside0.mk (blk_below (g:=gb107) (o:=.cells #[.int .i64 ((rd_T61 l1 x24_2).f0),.string ((rd_T61 l1 x24_2).f1.f0),.int .i64 ((rd_T61 l1 x24_2).f1.f1)] 61 (0,0)) zy hb);replace HB:=Aside0.mk (below_step zp hb);(try clear hb);(try clear hb2);(try clear hk);(try clear hi)))
         repeat (go_quiet (first|((with_reducible refine gate_dst (N:=9) rfl ?_);refine box_event ?hg (N:=9) ?hd (cs:=#[.int .i64 0,.string (⟨#[]⟩:ByteArray),.int .i64 0]) (t:=61) ?hr ?_;(case hd=>rfl);(case hg=>rfl);(case hr=>exact zv);intro gb107 hg w18 hbox hb;have n0_:=Aside0.mk (Kd.R_below zad hb);have n1_:=Aside0.mk (below_step za hb);have n2_:=Aside0.mk (hbox);have n3_:=Aside0.mk ((by rw [hg];exact (below_size za):w.heap.size≤gb107));have n4_:=Aside0.mk ((by rw [hg];exact (below_size za):w.heap.size≤gb107));clear HO_7;clear HB;have HO_7:=n0_;have HB:=n1_;have BK107:=n2_;have GW107:=n3_;have GE107:=n4_;clear n0_ n1_ n2_ n3_ n4_;clear hb hbox hg;have hcz19_0:w18.cell? ⟨gb107,0,none⟩=some (.int .i64 0):=(blk_cell BK107.out 0).trans rfl;have hcz19_1:w18.cell? ⟨gb107,1,none⟩=some (.string (⟨#[]⟩:ByteArray)):=(blk_cell BK107.out 1).trans rfl;have hcz19_2:w18.cell? ⟨gb107,2,none⟩=some (.int .i64 0):=(blk_cell BK107.out 2).trans rfl;have hfz19_0:=blk_frozen BK107.out 0;have hfz19_1:=blk_frozen BK107.out 1;have hfz19_2:=blk_frozen BK107.out 2;obtain ⟨Ao20,co20,eo20⟩:=Kd.R_slice HO_7.out;subst eo20)|(go_at_call 30;(with_reducible refine (slices_BinarySearchFunc_S_impl_Setting.calls k2 _ _ x7_2 ((rd_T61 l1 x24_2).f1.f0) ((rd_T61 l1 x24_2).f1.f1) 0 t108 t109 _ ?side1 ?side2 A16.out).mono ?_);(case side1=>refine (Kd.R_reads' (e:=57) (base:=w.heap.size) (ok:=fun k_=>True) (n:=x7_2.length) (c:=co20) ?_).2.2;exact zx);(case side2=>exact (Kd.R_reads' HO_7.out).2.1);rintro e w21 ⟨rfl,hb⟩;replace HO_7:=Aside0.mk (Kd.R_below zx hb);replace BK107:=Aside0.mk (blk_below (g:=gb107) (o:=.cells #[.int .i64 ((rd_T61 l1 x24_2).f0),.string ((rd_T61 l1 x24_2).f1.f0),.int .i64 ((rd_T61 l1 x24_2).f1.f1)] 61 (0,0)) zy hb);replace HB:=Aside0.mk (below_step zp hb);(try clear hb);(try clear hb2);(try clear hk);(try clear hi)));go_upto_region 10 with (first|((with_reducible refine gate_dst (N:=9) rfl ?_);refine box_event ?hg (N:=9) ?hd (cs:=#[.int .i64 0,.string (⟨#[]⟩:ByteArray),.int .i64 0]) (t:=61) ?hr ?_;(case hd=>rfl);(case hg=>rfl);(case hr=>exact zv);intro gb107 hg w18 hbox hb;have n0_:=Aside0.mk (Kd.R_below zad hb);have n1_:=Aside0.mk (below_step za hb);have n2_:=Aside0.mk (hbox);have n3_:=Aside0.mk ((by rw [hg];exact (below_size za):w.heap.size≤gb107));have n4_:=Aside0.mk ((by rw [hg];exact (below_size za):w.heap.size≤gb107));clear HO_7;clear HB;have HO_7:=n0_;have HB:=n1_;have BK107:=n2_;have GW107:=n3_;have GE107:=n4_;clear n0_ n1_ n2_ n3_ n4_;clear hb hbox hg;have hcz19_0:w18.cell? ⟨gb107,0,none⟩=some (.int .i64 0):=(blk_cell BK107.out 0).trans rfl;have hcz19_1:w18.cell? ⟨gb107,1,none⟩=some (.string (⟨#[]⟩:ByteArray)):=(blk_cell BK107.out 1).trans rfl;have hcz19_2:w18.cell? ⟨gb107,2,none⟩=some (.int .i64 0):=(blk_cell BK107.out 2).trans rfl;have hfz19_0:=blk_frozen BK107.out 0;have hfz19_1:=blk_frozen BK107.out 1;have hfz19_2:=blk_frozen BK107.out 2;obtain ⟨Ao20,co20,eo20⟩:=Kd.R_slice HO_7.out;subst eo20)|(go_at_call 30;(with_reducible refine (slices_BinarySearchFunc_S_impl_Setting.calls k2 _ _ x7_2 ((rd_T61 l1 x24_2).f1.f0) ((rd_T61 l1 x24_2).f1.f1) 0 t108 t109 _ ?side1 ?side2 A16.out).mono ?_);(case side1=>refine (Kd.R_reads' (e:=57) (base:=w.heap.size) (ok:=fun k_=>True) (n:=x7_2.length) (c:=co20) ?_).2.2;exact zx);(case side2=>exact (Kd.R_reads' HO_7.out).2.1);rintro e w21 ⟨rfl,hb⟩;replace HO_7:=Aside0.mk (Kd.R_below zx hb);replace BK107:=Aside0.mk (blk_below (g:=gb107) (o:=.cells #[.int .i64 ((rd_T61 l1 x24_2).f0),.string ((rd_T61 l1 x24_2).f1.f0),.int .i64 ((rd_T61 l1 x24_2).f1.f1)] 61 (0,0)) zy hb);replace HB:=Aside0.mk (below_step zp hb);(try clear hb);(try clear hb2);(try clear hk);(try clear hi))))
         (try simp only [Act.put,List.setIfInBounds_toArray,List.set_cons_zero,List.set_cons_succ])
         go_cut [40] (fun v40 wc=>∃(kq:Nat) (x40_16:Bool),v40 = .bool x40_16∧Aside0 (impl_ApplyChanges.j2 kq x7_2 t108 t109 l1 (l1.length:Int) x24_2 x40_16 ((rd_T61 l1 x24_2).f0) ((rd_T61 l1 x24_2).f1.f0) ((rd_T61 l1 x24_2).f1.f1)=some (r1,r2))∧Aside0 (kq≤k2)∧Aside0 (Kd.R k57 57 wc w.heap.size (fun _=>True) (.slice Ao20 x7_2.length co20) x7_2)∧Aside0 (wc.heap[gb107]?=some (.cells #[.int .i64 ((rd_T61 l1 x24_2).f0),.string ((rd_T61 l1 x24_2).f1.f0),.int .i64 ((rd_T61 l1 x24_2).f1.f1)] 61 (0,0)))∧Aside0 (Below w.heap.size w wc))
         case first=>
          have H:=HC17.out
          clear HC17
          by_cases c22:((rd_T61 l1 x24_2).f0)=1
          ·rw [if_pos c22] at H
           have c22b0:(((rd_T61 l1 x24_2).f0) == 1)=true:=beq_iff_eq.mpr c22
           have c22b1:(((rd_T61 l1 x24_2).f0) != 1)=false:=bne_eq_false_iff_eq.mpr c22
           clear c22
           (first|rw [c22b0]|(simp only [i64_w,i32_w];rw [c22b0])|skip)
           have H':=Aside0.mk H
           clear H
           have hcz23_0:w21.cell? ⟨gb107,0,none⟩=some (.int .i64 ((rd_T61 l1 x24_2).f0)):=(blk_cell BK107.out 0).trans rfl
           have hcz23_1:w21.cell? ⟨gb107,1,none⟩=some (.string ((rd_T61 l1 x24_2).f1.f0)):=(blk_cell BK107.out 1).trans rfl
           have hcz23_2:w21.cell? ⟨gb107,2,none⟩=some (.int .i64 ((rd_T61 l1 x24_2).f1.f1)):=(blk_cell BK107.out 2).trans rfl
           have hfz23_0:=blk_frozen BK107.out 0
           have hfz23_1:=blk_frozen BK107.out 1
           have hfz23_2:=blk_frozen BK107.out 2
           go_wp2
           repeat (go_quiet (fail);try go_wp2)
           go_meet
           case rel=>exact ⟨_,(t109),zi,H',⟨by have:=HJ2.out;have:=HK2.out;first|omega|exact Nat.le_refl _⟩,⟨zad⟩,⟨zah⟩,⟨zp⟩⟩
          ·rw [if_neg c22] at H
           have c22b0:(((rd_T61 l1 x24_2).f0) == 1)=false:=beq_eq_false_iff_ne.mpr c22
           have c22b1:(((rd_T61 l1 x24_2).f0) != 1)=true:=bne_iff_ne.mpr c22
           (first|rw [c22b0]|(simp only [i64_w,i32_w];rw [c22b0])|skip)
           have H':=Aside0.mk H
           clear H
           have hcz24_0:w21.cell? ⟨gb107,0,none⟩=some (.int .i64 ((rd_T61 l1 x24_2).f0)):=(blk_cell BK107.out 0).trans rfl
           have hcz24_1:w21.cell? ⟨gb107,1,none⟩=some (.string ((rd_T61 l1 x24_2).f1.f0)):=(blk_cell BK107.out 1).trans rfl
           have hcz24_2:w21.cell? ⟨gb107,2,none⟩=some (.int .i64 ((rd_T61 l1 x24_2).f1.f1)):=(blk_cell BK107.out 2).trans rfl
           have hfz24_0:=blk_frozen BK107.out 0
           have hfz24_1:=blk_frozen BK107.out 1
           have hfz24_2:=blk_frozen BK107.out 2
           go_wp2
           repeat (go_quiet (fail);try go_wp2)
           go_meet
           case rel=>exact ⟨_,(false),zi,H',⟨by have:=HJ2.out;have:=HK2.out;first|omega|exact Nat.le_refl _⟩,⟨zad⟩,⟨zah⟩,⟨zp⟩⟩
         case rest=>
          clear HC17
          try clear c1
          try clear p1
          try clear q1
          try clear hx1
          try clear c2
          try clear p2
          try clear c5
          try clear c9
          try clear c10
          try clear p10
          try clear q10
          try clear hx10
          try clear c13
          try clear c13b0
          try clear c14
          try clear c14b0
          try clear c15
          try clear c15b0
          try clear c22
          try clear c22b0
          try clear c22b1
          try clear hcz19_0
          try clear hcz19_1
          try clear hcz19_2
          try clear hcz23_0
          try clear hcz23_1
          try clear hcz23_2
          try clear hcz24_0
          try clear hcz24_1
          try clear hcz24_2
          try clear hfz19_0
          try clear hfz19_1
          try clear hfz19_2
          try clear hfz23_0
          try clear hfz23_1
          try clear hfz23_2
          try clear hfz24_0
          try clear hfz24_1
          try clear hfz24_2
          try clear hx106_0
          try clear hx106_1
          try clear hx106_2
          try clear p106
          try clear p2
          try clear q106
          obtain ⟨kq,x40_16,rfl,HA,HJ16,HO_7,BK107,HB⟩:=hcut
          cases kq with
          | zero=>exact absurd HA.out (by simp [impl_ApplyChanges.j2])
          | succ kj16=>
           have H:=HA.out
           clear HA
           simp only [impl_ApplyChanges.j2] at H
           by_cases c25:x40_16=true
           ·subst c25
            have H1:(if 0≤t108 then (if t108<(x7_2.length:Int) then (impl_ApplyChanges.l0 kj16 (x7_2.set (t108:Int).toNat (⟨((rd_T61 l1 x24_2).f1.f0),((rd_T61 l1 x24_2).f1.f1)⟩:S57)) l1 (l1.length:Int) (wrap64 (x24_2+1))) else (none)) else (none))=some (r1,r2):=by rw [if_pos rfl] at H;exact H
            clear H
            have H:=H1
            clear H1
            by_cases c26:0≤t108
            ·rw [if_pos c26] at H
             have c26b0:decide (0≤t108)=true:=decide_eq_true c26
             clear c26
             by_cases c27:t108<(x7_2.length:Int)
             ·rw [if_pos c27] at H
              have c27b0:decide (t108<(x7_2.length:Int))=true:=decide_eq_true c27
              clear c27
              obtain ⟨y110,hy110⟩:∃y_:List (S57),y_=(x7_2.set (t108:Int).toNat (⟨((rd_T61 l1 x24_2).f1.f0),((rd_T61 l1 x24_2).f1.f1)⟩:S57)):=⟨_,rfl⟩
              replace H:(impl_ApplyChanges.l0 kj16 y110 l1 (l1.length:Int) (wrap64 (x24_2+1)))=some (r1,r2):=by first|(rw [hy110];with_reducible exact H)|(have H2_:=(Option.bind_some _ _).symm.trans H;rw [hy110];with_reducible exact H2_)|(have H2_:=(Option.bind_some _ _).symm.trans H;with_reducible exact H2_)|with_reducible exact H|(rw [hy110];exact H)|exact H
              have Ny110:=Aside0.mk hy110
              clear hy110
              have H':=Aside0.mk H
              clear H
              have hcz29_0:wc.cell? ⟨gb107,0,none⟩=some (.int .i64 ((rd_T61 l1 x24_2).f0)):=(blk_cell BK107.out 0).trans rfl
              have hcz29_1:wc.cell? ⟨gb107,1,none⟩=some (.string ((rd_T61 l1 x24_2).f1.f0)):=(blk_cell BK107.out 1).trans rfl
              have hcz29_2:wc.cell? ⟨gb107,2,none⟩=some (.int .i64 ((rd_T61 l1 x24_2).f1.f1)):=(blk_cell BK107.out 2).trans rfl
              have hfz29_0:=blk_frozen BK107.out 0
              have hfz29_1:=blk_frozen BK107.out 1
              have hfz29_2:=blk_frozen BK107.out 2
              have p28:0≤(t108:Int):=of_decide_eq_true zb
              have q28:(t108:Int)<((x7_2.length:Int):Int):=of_decide_eq_true zb
              obtain ⟨go28,co28,eo28,gb28,gl28,cl28,HG28⟩:=Kd.R_form HO_7.out zbn
              (first|cases eo28|(injection eo28 with ea_ en_ ec_;(first|subst ea_|(injection ea_ with ea_;subst ea_));subst ec_;clear en_))
              have GB28:=Aside0.mk gb28
              have GG28:=Aside0.mk HG28
              clear gb28 gl28 HG28
              obtain ⟨ce28,hcl28,hM28,hcc28,hfr28⟩:=Kd.R_elem HO_7.out z57 (t108:Int) p28 q28
              obtain rfl:=k57_openM hM28
              have hx28_0:wc.cell? ⟨go28,(t108:Int).toNat*2,none⟩=some (.string ((rd_T57 x7_2 t108).f0)):=hcc28 0 _ rfl
              have hx28_1:wc.cell? ⟨go28,(t108:Int).toNat*2+1,none⟩=some (.int .i64 ((rd_T57 x7_2 t108).f1)):=hcc28 1 _ rfl
              have hf28_0:wc.frozen? ⟨go28,(t108:Int).toNat*2,none⟩=false:=hfr28 0
              have hf28_1:wc.frozen? ⟨go28,(t108:Int).toNat*2+1,none⟩=false:=hfr28 1
              clear hcl28 hcc28 hfr28 hM28
              replace p28:=eq_true p28
              replace q28:=eq_true q28
              have HX30:=Aside0.mk (show Kd.R k57 57 wc w.heap.size (fun _=>True) (.slice (some ⟨go28,0,none⟩) x7_2.length co20) x7_2 from zad)
              obtain ⟨ce30,hcl30,hM30,hcc30,hfr30⟩:=Kd.R_elem HX30.out z57 (t108:Int) (of_decide_eq_true zb) (by have h_:(t108:Int)<((x7_2.length:Int):Int):=of_decide_eq_true zb;first|exact h_|(have e_:=(Kd.R_reads' HO_7.out).1;omega)|simpa using h_)
              obtain rfl:=k57_openM hM30
              have HP30:=Kd.R_seg HX30.out (t108:Int) (of_decide_eq_true zb) (by have h_:(t108:Int)<((x7_2.length:Int):Int):=of_decide_eq_true zb;first|exact h_|(have e_:=(Kd.R_reads' HO_7.out).1;omega)|simpa using h_) (seg:=[.string ((rd_T61 l1 x24_2).f1.f0),.int .i64 ((rd_T61 l1 x24_2).f1.f1)]) (j:=0) hcl30 hcc30 (show 2≤2 from by decide) (x':=(⟨((rd_T61 l1 x24_2).f1.f0),((rd_T61 l1 x24_2).f1.f1)⟩:S57)) (k57_mkM _ _ _ (⟨((rd_T61 l1 x24_2).f1.f0),((rd_T61 l1 x24_2).f1.f1)⟩:S57)) (fun _ hk=>hk)
              have hx30_0:=hcc30 0 _ rfl
              (try simp only [show (k57).sz=2 from rfl,Nat.mul_one,Nat.add_zero] at hx30_0)
              have hf30_0:=hfr30 0
              (try simp only [show (k57).sz=2 from rfl,Nat.mul_one,Nat.add_zero] at hf30_0)
              have hx30_1:=hcc30 1 _ rfl
              (try simp only [show (k57).sz=2 from rfl,Nat.mul_one,Nat.add_zero] at hx30_1)
              have hf30_1:=hfr30 1
              (try simp only [show (k57).sz=2 from rfl,Nat.mul_one,Nat.add_zero] at hf30_1)
              clear hcl30 hcc30 hfr30 hM30
              go_wp2_with (first|((with_reducible refine gate_store (t:=57) (p:=51) rfl ?_);(try (rw [drewN_self wc];generalize hq_:World.drewN wc _=wc;replace HO_7:=Aside0.mk (Kd.R_at hq_ HO_7.out);replace BK107:=Aside0.mk (blk_at hq_ BK107.out);replace HB:=Aside0.mk (below_at hq_ HB.out);clear hq_;(try (have HX30:=Aside0.mk (show Kd.R k57 57 wc w.heap.size (fun _=>True) (.slice (some ⟨go28,0,none⟩) x7_2.length co20) x7_2 from zad)));(try (obtain ⟨ce30,hcl30,hM30,hcc30,hfr30⟩:=Kd.R_elem HX30.out z57 (t108:Int) (of_decide_eq_true zb) (by have h_:(t108:Int)<((x7_2.length:Int):Int):=of_decide_eq_true zb;first|exact h_|(have e_:=(Kd.R_reads' HO_7.out).1;omega)|simpa using h_)));(try (obtain rfl:=k57_openM hM30));(try (have HP30:=Kd.R_seg HX30.out (t108:Int) (of_decide_eq_true zb) (by have h_:(t108:Int)<((x7_2.length:Int):Int):=of_decide_eq_true zb;first|exact h_|(have e_:=(Kd.R_reads' HO_7.out).1;omega)|simpa using h_) (seg:=[.string ((rd_T61 l1 x24_2).f1.f0),.int .i64 ((rd_T61 l1 x24_2).f1.f1)]) (j:=0) hcl30 hcc30 (show 2≤2 from by decide) (x':=(⟨((rd_T61 l1 x24_2).f1.f0),((rd_T61 l1 x24_2).f1.f1)⟩:S57)) (k57_mkM _ _ _ (⟨((rd_T61 l1 x24_2).f1.f0),((rd_T61 l1 x24_2).f1.f1)⟩:S57)) (fun _ hk=>hk)));(try (have hx30_0:=hcc30 0 _ rfl));(try (try simp only [show (k57).sz=2 from rfl,Nat.mul_one,Nat.add_zero] at hx30_0));(try (have hf30_0:=hfr30 0));(try (try simp only [show (k57).sz=2 from rfl,Nat.mul_one,Nat.add_zero] at hf30_0));(try (have hx30_1:=hcc30 1 _ rfl));(try (try simp only [show (k57).sz=2 from rfl,Nat.mul_one,Nat.add_zero] at hx30_1));(try (have hf30_1:=hfr30 1));(try (try simp only [show (k57).sz=2 from rfl,Nat.mul_one,Nat.add_zero] at hf30_1));(try (clear hcl30 hcc30 hfr30 hM30))));refine store_event (t:=57) (p:=51) (v:=?vo_w31) (w1:=((wc.setCell ⟨go28,(t108:Int).toNat*2,none⟩ (.string ((rd_T61 l1 x24_2).f1.f0))).setCell ⟨go28,(t108:Int).toNat*2+1,none⟩ (.int .i64 ((rd_T61 l1 x24_2).f1.f1)))) ?hg ?ho ?hn ?hr ?_;(case ho=>rfl);(case hg=>rfl);(case hn=>rfl);(case hr=>exact zv);intro w31 hw;have hg:wc.grownBy w31 (some go28):=(by rw [hw];exact HP30.2);have hp_:Kd.R k57 57 w31 w.heap.size (fun _=>True) (.slice (some ⟨go28,0,none⟩) x7_2.length co20) y110:=(by rw [hw,Ny110.out];exact HP30.1);clear HP30;have n0_:=Aside0.mk (hp_);have n1_:=Aside0.mk (blk_grown (g:=gb107) (o:=.cells #[.int .i64 ((rd_T61 l1 x24_2).f0),.string ((rd_T61 l1 x24_2).f1.f0),.int .i64 ((rd_T61 l1 x24_2).f1.f1)] 61 (0,0)) zah hg (Kd.R_ne HO_7.out BK107.out zbp));have n2_:=Aside0.mk ((by rw [hw];exact below_set (below_set (HB.out) GB28.out) GB28.out:Below w.heap.size w w31));clear HO_7;clear BK107;clear HB;have HO_7:=n0_;have BK107:=n1_;have HB:=n2_;clear n0_ n1_ n2_;clear hg hw hp_))
              repeat (go_quiet (first|((with_reducible refine gate_store (t:=57) (p:=51) rfl ?_);(try (rw [drewN_self wc];generalize hq_:World.drewN wc _=wc;replace HO_7:=Aside0.mk (Kd.R_at hq_ HO_7.out);replace BK107:=Aside0.mk (blk_at hq_ BK107.out);replace HB:=Aside0.mk (below_at hq_ HB.out);clear hq_;(try (have HX30:=Aside0.mk (show Kd.R k57 57 wc w.heap.size (fun _=>True) (.slice (some ⟨go28,0,none⟩) x7_2.length co20) x7_2 from zad)));(try (obtain ⟨ce30,hcl30,hM30,hcc30,hfr30⟩:=Kd.R_elem HX30.out z57 (t108:Int) (of_decide_eq_true zb) (by have h_:(t108:Int)<((x7_2.length:Int):Int):=of_decide_eq_true zb;first|exact h_|(have e_:=(Kd.R_reads' HO_7.out).1;omega)|simpa using h_)));(try (obtain rfl:=k57_openM hM30));(try (have HP30:=Kd.R_seg HX30.out (t108:Int) (of_decide_eq_true zb) (by have h_:(t108:Int)<((x7_2.length:Int):Int):=of_decide_eq_true zb;first|exact h_|(have e_:=(Kd.R_reads' HO_7.out).1;omega)|simpa using h_) (seg:=[.string ((rd_T61 l1 x24_2).f1.f0),.int .i64 ((rd_T61 l1 x24_2).f1.f1)]) (j:=0) hcl30 hcc30 (show 2≤2 from by decide) (x':=(⟨((rd_T61 l1 x24_2).f1.f0),((rd_T61 l1 x24_2).f1.f1)⟩:S57)) (k57_mkM _ _ _ (⟨((rd_T61 l1 x24_2).f1.f0),((rd_T61 l1 x24_2).f1.f1)⟩:S57)) (fun _ hk=>hk)));(try (have hx30_0:=hcc30 0 _ rfl));(try (try simp only [show (k57).sz=2 from rfl,Nat.mul_one,Nat.add_zero] at hx30_0));(try (have hf30_0:=hfr30 0));(try (try simp only [show (k57).sz=2 from rfl,Nat.mul_one,Nat.add_zero] at hf30_0));(try (have hx30_1:=hcc30 1 _ rfl));(try (try simp only [show (k57).sz=2 from rfl,Nat.mul_one,Nat.add_zero] at hx30_1));(try (have hf30_1:=hfr30 1));(try (try simp only [show (k57).sz=2 from rfl,Nat.mul_one,Nat.add_zero] at hf30_1));(try (clear hcl30 hcc30 hfr30 hM30))));refine store_event (t:=57) (p:=51) (v:=?vo_w31) (w1:=((wc.setCell ⟨go28,(t108:Int).toNat*2,none⟩ (.string ((rd_T61 l1 x24_2).f1.f0))).setCell ⟨go28,(t108:Int).toNat*2+1,none⟩ (.int .i64 ((rd_T61 l1 x24_2).f1.f1)))) ?hg ?ho ?hn ?hr ?_;(case ho=>rfl);(case hg=>rfl);(case hn=>rfl);(case hr=>exact zv);intro w31 hw;have hg:wc.grownBy w31 (some go28):=(by rw [hw];exact HP30.2);have hp_:Kd.R k57 57 w31 w.heap.size (fun _=>True) (.slice (some ⟨go28,0,none⟩) x7_2.length co20) y110:=(by rw [hw,Ny110.out];exact HP30.1);clear HP30;have n0_:=Aside0.mk (hp_);have n1_:=Aside0.mk (blk_grown (g:=gb107) (o:=.cells #[.int .i64 ((rd_T61 l1 x24_2).f0),.string ((rd_T61 l1 x24_2).f1.f0),.int .i64 ((rd_T61 l1 x24_2).f1.f1)] 61 (0,0)) zah hg (Kd.R_ne HO_7.out BK107.out zbp));have n2_:=Aside0.mk ((by rw [hw];exact below_set (below_set (HB.out) GB28.out) GB28.out:Below w.heap.size w w31));clear HO_7;clear BK107;clear HB;have HO_7:=n0_;have BK107:=n1_;have HB:=n2_;clear n0_ n1_ n2_;clear hg hw hp_));try go_wp2_with (first|((with_reducible refine gate_store (t:=57) (p:=51) rfl ?_);(try (rw [drewN_self wc];generalize hq_:World.drewN wc _=wc;replace HO_7:=Aside0.mk (Kd.R_at hq_ HO_7.out);replace BK107:=Aside0.mk (blk_at hq_ BK107.out);replace HB:=Aside0.mk (below_at hq_ HB.out);clear hq_;(try (have HX30:=Aside0.mk (show Kd.R k57 57 wc w.heap.size (fun _=>True) (.slice (some ⟨go28,0,none⟩) x7_2.length co20) x7_2 from zad)));(try (obtain ⟨ce30,hcl30,hM30,hcc30,hfr30⟩:=Kd.R_elem HX30.out z57 (t108:Int) (of_decide_eq_true zb) (by have h_:(t108:Int)<((x7_2.length:Int):Int):=of_decide_eq_true zb;first|exact h_|(have e_:=(Kd.R_reads' HO_7.out).1;omega)|simpa using h_)));(try (obtain rfl:=k57_openM hM30));(try (have HP30:=Kd.R_seg HX30.out (t108:Int) (of_decide_eq_true zb) (by have h_:(t108:Int)<((x7_2.length:Int):Int):=of_decide_eq_true zb;first|exact h_|(have e_:=(Kd.R_reads' HO_7.out).1;omega)|simpa using h_) (seg:=[.string ((rd_T61 l1 x24_2).f1.f0),.int .i64 ((rd_T61 l1 x24_2).f1.f1)]) (j:=0) hcl30 hcc30 (show 2≤2 from by decide) (x':=(⟨((rd_T61 l1 x24_2).f1.f0),((rd_T61 l1 x24_2).f1.f1)⟩:S57)) (k57_mkM _ _ _ (⟨((rd_T61 l1 x24_2).f1.f0),((rd_T61 l1 x24_2).f1.f1)⟩:S57)) (fun _ hk=>hk)));(try (have hx30_0:=hcc30 0 _ rfl));(try (try simp only [show (k57).sz=2 from rfl,Nat.mul_one,Nat.add_zero] at hx30_0));(try (have hf30_0:=hfr30 0));(try (try simp only [show (k57).sz=2 from rfl,Nat.mul_one,Nat.add_zero] at hf30_0));(try (have hx30_1:=hcc30 1 _ rfl));(try (try simp only [show (k57).sz=2 from rfl,Nat.mul_one,Nat.add_zero] at hx30_1));(try (have hf30_1:=hfr30 1));(try (try simp only [show (k57).sz=2 from rfl,Nat.mul_one,Nat.add_zero] at hf30_1));(try (clear hcl30 hcc30 hfr30 hM30))));refine store_event (t:=57) (p:=51) (v:=?vo_w31) (w1:=((wc.setCell ⟨go28,(t108:Int).toNat*2,none⟩ (.string ((rd_T61 l1 x24_2).f1.f0))).setCell ⟨go28,(t108:Int).toNat*2+1,none⟩ (.int .i64 ((rd_T61 l1 x24_2).f1.f1)))) ?hg ?ho ?hn ?hr ?_;(case ho=>rfl);(case hg=>rfl);(case hn=>rfl);(case hr=>exact zv);intro w31 hw;have hg:wc.grownBy w31 (some go28):=(by rw [hw];exact HP30.2);have hp_:Kd.R k57 57 w31 w.heap.size (fun _=>True) (.slice (some ⟨go28,0,none⟩) x7_2.length co20) y110:=(by rw [hw,Ny110.out];exact HP30.1);clear HP30;have n0_:=Aside0.mk (hp_);have n1_:=Aside0.mk (blk_grown (g:=gb107) (o:=.cells #[.int .i64 ((rd_T61 l1 x24_2).f0),.string ((rd_T61 l1 x24_2).f1.f0),.int .i64 ((rd_T61 l1 x24_2).f1.f1)] 61 (0,0)) zah hg (Kd.R_ne HO_7.out BK107.out zbp));have n2_:=Aside0.mk ((by rw [hw];exact below_set (below_set (HB.out) GB28.out) GB28.out:Below w.heap.size w w31));clear HO_7;clear BK107;clear HB;have HO_7:=n0_;have BK107:=n1_;have HB:=n2_;clear n0_ n1_ n2_;clear hg hw hp_)))
              go_roundg kj16
              case measure=>have:=HJ2.out;have:=HK2.out;have:=HJ16.out;omega
              case rel=>exact ⟨(y110),(wrap64 (x24_2+1)),zi,H',⟨by have:=HJ2.out;have:=HK2.out;have:=HJ16.out;omega⟩,⟨zad⟩,⟨zp⟩⟩
             ·rw [if_neg c27] at H
              exact absurd H zca
            ·rw [if_neg c26] at H
             exact absurd H zca
           ·replace c25:=Bool.eq_false_iff.mpr c25
            subst c25
            have H1:(if ((rd_T61 l1 x24_2).f0)=1 then (impl_ApplyChanges.j3 kj16 x7_2 t108 t109 l1 (l1.length:Int) x24_2 ((x7_2.length:Int) == 24) ((rd_T61 l1 x24_2).f0) ((rd_T61 l1 x24_2).f1.f0) ((rd_T61 l1 x24_2).f1.f1)) else (impl_ApplyChanges.j3 kj16 x7_2 t108 t109 l1 (l1.length:Int) x24_2 false ((rd_T61 l1 x24_2).f0) ((rd_T61 l1 x24_2).f1.f0) ((rd_T61 l1 x24_2).f1.f1)))=some (r1,r2):=by rw [if_neg (show ¬ (false=true) by decide)] at H;exact H
            clear H
            have H:=H1
            clear H1
            have HC32:=Aside0.mk H
            clear H
            go_upto_region 12 with (fail)
            repeat (go_quiet (fail);go_upto_region 12 with (fail))
            go_cut [52] (fun v52 wc=>∃(kq:Nat) (x52_31:Bool),v52 = .bool x52_31∧Aside0 (impl_ApplyChanges.j3 kq x7_2 t108 t109 l1 (l1.length:Int) x24_2 x52_31 ((rd_T61 l1 x24_2).f0) ((rd_T61 l1 x24_2).f1.f0) ((rd_T61 l1 x24_2).f1.f1)=some (r1,r2))∧Aside0 (kq≤kj16)∧Aside0 (Kd.R k57 57 wc w.heap.size (fun _=>True) (.slice Ao20 x7_2.length co20) x7_2)∧Aside0 (wc.heap[gb107]?=some (.cells #[.int .i64 ((rd_T61 l1 x24_2).f0),.string ((rd_T61 l1 x24_2).f1.f0),.int .i64 ((rd_T61 l1 x24_2).f1.f1)] 61 (0,0)))∧Aside0 (Below w.heap.size w wc))
            case first=>
             have H:=HC32.out
             clear HC32
             by_cases c33:((rd_T61 l1 x24_2).f0)=1
             ·rw [if_pos c33] at H
              have c33b0:(((rd_T61 l1 x24_2).f0) == 1)=true:=beq_iff_eq.mpr c33
              have c33b1:(((rd_T61 l1 x24_2).f0) != 1)=false:=bne_eq_false_iff_eq.mpr c33
              clear c33
              (first|rw [c33b0]|(simp only [i64_w,i32_w];rw [c33b0])|skip)
              have H':=Aside0.mk H
              clear H
              have hcz34_0:wc.cell? ⟨gb107,0,none⟩=some (.int .i64 ((rd_T61 l1 x24_2).f0)):=(blk_cell BK107.out 0).trans rfl
              have hcz34_1:wc.cell? ⟨gb107,1,none⟩=some (.string ((rd_T61 l1 x24_2).f1.f0)):=(blk_cell BK107.out 1).trans rfl
              have hcz34_2:wc.cell? ⟨gb107,2,none⟩=some (.int .i64 ((rd_T61 l1 x24_2).f1.f1)):=(blk_cell BK107.out 2).trans rfl
              have hfz34_0:=blk_frozen BK107.out 0
              have hfz34_1:=blk_frozen BK107.out 1
              have hfz34_2:=blk_frozen BK107.out 2
              go_wp2
              repeat (go_quiet (fail);try go_wp2)
              go_meet
              case rel=>exact ⟨_,(((x7_2.length:Int) == 24)),zi,H',⟨by have:=HJ2.out;have:=HK2.out;have:=HJ16.out;first|omega|exact Nat.le_refl _⟩,⟨zad⟩,⟨zah⟩,⟨zp⟩⟩
             ·rw [if_neg c33] at H
              have c33b0:(((rd_T61 l1 x24_2).f0) == 1)=false:=beq_eq_false_iff_ne.mpr c33
              have c33b1:(((rd_T61 l1 x24_2).f0) != 1)=true:=bne_iff_ne.mpr c33
              (first|rw [c33b0]|(simp only [i64_w,i32_w];rw [c33b0])|skip)
              have H':=Aside0.mk H
              clear H
              have hcz35_0:wc.cell? ⟨gb107,0,none⟩=some (.int .i64 ((rd_T61 l1 x24_2).f0)):=(blk_cell BK107.out 0).trans rfl
              have hcz35_1:wc.cell? ⟨gb107,1,none⟩=some (.string ((rd_T61 l1 x24_2).f1.f0)):=(blk_cell BK107.out 1).trans rfl
              have hcz35_2:wc.cell? ⟨gb107,2,none⟩=some (.int .i64 ((rd_T61 l1 x24_2).f1.f1)):=(blk_cell BK107.out 2).trans rfl
              have hfz35_0:=blk_frozen BK107.out 0
              have hfz35_1:=blk_frozen BK107.out 1
              have hfz35_2:=blk_frozen BK107.out 2
              go_wp2
              repeat (go_quiet (fail);try go_wp2)
              go_meet
              case rel=>exact ⟨_,(false),zi,H',⟨by have:=HJ2.out;have:=HK2.out;have:=HJ16.out;first|omega|exact Nat.le_refl _⟩,⟨zad⟩,⟨zah⟩,⟨zp⟩⟩
            case rest=>
             clear HC32
             try clear c1
             try clear p1
             try clear q1
             try clear hx1
             try clear c2
             try clear p2
             try clear q2
             try clear hx2
             try clear hf2
             try clear c3
             try clear hx3
             try clear hf3
             try clear c5
             try clear p6
             try clear c9
             try clear c10
             try clear p10
             try clear q10
             try clear hx10
             try clear c13
             try clear c13b0
             try clear c14
             try clear c14b0
             try clear c15
             try clear c15b0
             try clear c22
             try clear c22b0
             try clear c22b1
             try clear c25
             try clear c26
             try clear c26b0
             try clear c27
             try clear c27b0
             try clear c28
             try clear p28
             try clear q28
             try clear hx28
             try clear hf28
             try clear c30
             try clear hx30
             try clear hf30
             try clear c33
             try clear c33b0
             try clear c33b1
             try clear hcz19_0
             try clear hcz19_1
             try clear hcz19_2
             try clear hcz23_0
             try clear hcz23_1
             try clear hcz23_2
             try clear hcz24_0
             try clear hcz24_1
             try clear hcz24_2
             try clear hcz29_0
             try clear hcz29_1
             try clear hcz29_2
             try clear hcz34_0
             try clear hcz34_1
             try clear hcz34_2
             try clear hcz35_0
             try clear hcz35_1
             try clear hcz35_2
             try clear hfz19_0
             try clear hfz19_1
             try clear hfz19_2
             try clear hfz23_0
             try clear hfz23_1
             try clear hfz23_2
             try clear hfz24_0
             try clear hfz24_1
             try clear hfz24_2
             try clear hfz29_0
             try clear hfz29_1
             try clear hfz29_2
             try clear hfz34_0
             try clear hfz34_1
             try clear hfz34_2
             try clear hfz35_0
             try clear hfz35_1
             try clear hfz35_2
             try clear hx106_0
             try clear hx106_1
             try clear hx106_2
             try clear hx28_0
             try clear hx28_1
             try clear hx30_0
             try clear hx30_1
             try clear p1
             try clear p10
             try clear p106
             try clear p2
             try clear p28
             try clear q1
             try clear q10
             try clear q106
             try clear q28
             obtain ⟨kq,x52_31,rfl,HA,HJ31,HO_7,BK107,HB⟩:=hcut
             cases kq with
             | zero=>exact absurd HA.out (by simp [impl_ApplyChanges.j3])
             | succ kj31=>
              have H:=HA.out
              clear HA
              simp only [impl_ApplyChanges.j3] at H
              by_cases c36:x52_31=true
              ·subst c36
               have H1:(some (([]:List (S57)),5))=some (r1,r2):=by rw [if_pos rfl] at H;exact H
               clear H
               have H:=H1
               clear H1
               simp only [Option.some.injEq,Prod.mk.injEq] at H
               obtain ⟨rfl,rfl⟩:=H
               go_wp2
               repeat (go_quiet (fail);try go_wp2)
               go_ret2
               exact ⟨_,zj,zba,zp⟩
              ·replace c36:=Bool.eq_false_iff.mpr c36
               subst c36
               have H1:(if ((rd_T61 l1 x24_2).f0)=1 then ((slices_Insert_S_impl_Setting.f x7_2 t108 (([(⟨((rd_T61 l1 x24_2).f1.f0),((rd_T61 l1 x24_2).f1.f1)⟩:S57)]:List (S57)))).bind fun t114=>(impl_ApplyChanges.l0 kj31 t114 l1 (l1.length:Int) (wrap64 (x24_2+1)))) else (if t109=true then (if 0≤t108 then (if t108<(x7_2.length:Int) then (if (!((((rd_T57 x7_2 t108).f0).toList) == ((rd_T61 l1 x24_2).f1.f0).toList) || (!(((rd_T57 x7_2 t108).f1) == ((rd_T61 l1 x24_2).f1.f1))))=true then (some (([]:List (S57)),6)) else ((slices_Delete_S_impl_Setting.f x7_2 t108 (wrap64 (t108+1))).bind fun t118=>(impl_ApplyChanges.l0 kj31 t118 l1 (l1.length:Int) (wrap64 (x24_2+1))))) else (none)) else (none)) else (some (([]:List (S57)),3))))=some (r1,r2):=by rw [if_neg (show ¬ (false=true) by decide)] at H;exact H
               clear H
               have H:=H1
               clear H1
               by_cases c37:((rd_T61 l1 x24_2).f0)=1
               ·rw [if_pos c37] at H
                have c37b0:(((rd_T61 l1 x24_2).f0) == 1)=true:=beq_iff_eq.mpr c37
                have c37b1:(((rd_T61 l1 x24_2).f0) != 1)=false:=bne_eq_false_iff_eq.mpr c37
                clear c37
                obtain ⟨y111,hy111⟩:∃y_:List (S57),y_=(([(⟨((rd_T61 l1 x24_2).f1.f0),((rd_T61 l1 x24_2).f1.f1)⟩:S57)]:List (S57))):=⟨_,rfl⟩
                replace H:((slices_Insert_S_impl_Setting.f x7_2 t108 y111).bind fun t114=>(impl_ApplyChanges.l0 kj31 t114 l1 (l1.length:Int) (wrap64 (x24_2+1))))=some (r1,r2):=by first|(rw [hy111];with_reducible exact H)|(have H2_:=(Option.bind_some _ _).symm.trans H;rw [hy111];with_reducible exact H2_)|(have H2_:=(Option.bind_some _ _).symm.trans H;with_reducible exact H2_)|with_reducible exact H|(rw [hy111];exact H)|exact H
                have Ny111:=Aside0.mk hy111
                clear hy111
                replace H:=Option.bind_eq_some_iff.mp H
                obtain ⟨t114,A380,H⟩:=H
                replace H:(impl_ApplyChanges.l0 kj31 t114 l1 (l1.length:Int) (wrap64 (x24_2+1)))=some (r1,r2):=H
                have A38:=Aside0.mk A380
                clear A380
                have H':=Aside0.mk H
                clear H
                have hcz39_0:wc.cell? ⟨gb107,0,none⟩=some (.int .i64 ((rd_T61 l1 x24_2).f0)):=(blk_cell BK107.out 0).trans rfl
                have hcz39_1:wc.cell? ⟨gb107,1,none⟩=some (.string ((rd_T61 l1 x24_2).f1.f0)):=(blk_cell BK107.out 1).trans rfl
                have hcz39_2:wc.cell? ⟨gb107,2,none⟩=some (.int .i64 ((rd_T61 l1 x24_2).f1.f1)):=(blk_cell BK107.out 2).trans rfl
                have hfz39_0:=blk_frozen BK107.out 0
                have hfz39_1:=blk_frozen BK107.out 1
                have hfz39_2:=blk_frozen BK107.out 2
                go_wp2_with (first|((with_reducible refine gate_dst (N:=69) rfl ?_);refine Kd.R_lit k57 _ 57 ?hg (N:=69) ?hd (xs:=([(⟨((rd_T61 l1 x24_2).f1.f0),((rd_T61 l1 x24_2).f1.f1)⟩:S57)]:List (S57))) (inner:=[.string ((rd_T61 l1 x24_2).f1.f0),.int .i64 ((rd_T61 l1 x24_2).f1.f1)]) (ok:=fun _=>True) (okp:=fun _=>True) ?hr ?hp (fun _ hk=>hk) trivial (Below.refl _ _) (Nat.le_refl _) zca ?_;(case hd=>rfl);(case hg=>rfl);(case hr=>exact zv);(case hp=>exact zbu);intro v112 w40 ho41 hb hg_ hnew_;clear hg_ hnew_;(first|rw [←Ny111.out] at ho41|(simp only [Int.reduceToNat] at ho41;rw [←Ny111.out] at ho41));have n0_:=Aside0.mk (Kd.R_elder' zad (Kd.R_base ho41) hb);have n1_:=Aside0.mk (Kd.R_lower (Kd.R_new' ho41 (Kd.R_lt zad)) (below_size zp));have n2_:=Aside0.mk (blk_below (g:=gb107) (o:=.cells #[.int .i64 ((rd_T61 l1 x24_2).f0),.string ((rd_T61 l1 x24_2).f1.f0),.int .i64 ((rd_T61 l1 x24_2).f1.f1)] 61 (0,0)) zah hb);have n3_:=Aside0.mk (below_step zp hb);clear HO_7;clear BK107;clear HB;have HO_7:=n0_;have HO113:=n1_;have BK107:=n2_;have HB:=n3_;clear n0_ n1_ n2_ n3_;clear hb ho41;obtain ⟨Ao42,co42,eo42⟩:=Kd.R_slice HO113.out;subst eo42)|(go_at_call 32;(with_reducible refine (slices_Insert_S_impl_Setting.calls (fun k_=>some k_=(.slice Ao20 x7_2.length co20:Value).ownBlock) (.slice Ao20 x7_2.length co20) x7_2 t108 (fun k_=>some k_=(.slice Ao42 y111.length co42:Value).ownBlock) (.slice Ao42 y111.length co42) y111 t114 w _ ?side1 ?side2 ?side3 ?side4 ?side5 A38.out).mono ?_);(case side1=>exact zp);(case side2=>exact Kd.R_tight rfl HO_7.out);(case side3=>exact fun k_ e_=>(HO_7.out.1 k_ e_.symm).2);(case side4=>exact Kd.R_tight rfl HO113.out);(case side5=>exact fun k_ e_=>(HO113.out.1 k_ e_.symm).2);rintro e w43 ⟨v115,rfl,ho0,hb,hkp⟩;replace BK107:=Aside0.mk (blk_kept zah hkp (fun hs_=>Or.elim hs_ (fun e_=>(fun e_=>(Kd.R_ne HO_7.out BK107.out zbp) e_) e_) (fun e_=>(fun e_=>(Kd.R_ne HO113.out BK107.out zbp) e_) e_)));have HO116:=Aside0.mk (Kd.R_mono (ok':=fun k_=>True) ho0 (fun k_ hk_=>trivial));replace HB:=Aside0.mk (hb);clear HO113 HO_7;(try clear hb);(try clear hkp);(try clear ho0)))
                repeat (go_quiet (first|((with_reducible refine gate_dst (N:=69) rfl ?_);refine Kd.R_lit k57 _ 57 ?hg (N:=69) ?hd (xs:=([(⟨((rd_T61 l1 x24_2).f1.f0),((rd_T61 l1 x24_2).f1.f1)⟩:S57)]:List (S57))) (inner:=[.string ((rd_T61 l1 x24_2).f1.f0),.int .i64 ((rd_T61 l1 x24_2).f1.f1)]) (ok:=fun _=>True) (okp:=fun _=>True) ?hr ?hp (fun _ hk=>hk) trivial (Below.refl _ _) (Nat.le_refl _) zca ?_;(case hd=>rfl);(case hg=>rfl);(case hr=>exact zv);(case hp=>exact zbu);intro v112 w40 ho41 hb hg_ hnew_;clear hg_ hnew_;(first|rw [←Ny111.out] at ho41|(simp only [Int.reduceToNat] at ho41;rw [←Ny111.out] at ho41));have n0_:=Aside0.mk (Kd.R_elder' zad (Kd.R_base ho41) hb);have n1_:=Aside0.mk (Kd.R_lower (Kd.R_new' ho41 (Kd.R_lt zad)) (below_size zp));have n2_:=Aside0.mk (blk_below (g:=gb107) (o:=.cells #[.int .i64 ((rd_T61 l1 x24_2).f0),.string ((rd_T61 l1 x24_2).f1.f0),.int .i64 ((rd_T61 l1 x24_2).f1.f1)] 61 (0,0)) zah hb);have n3_:=Aside0.mk (below_step zp hb);clear HO_7;clear BK107;clear HB;have HO_7:=n0_;have HO113:=n1_;have BK107:=n2_;have HB:=n3_;clear n0_ n1_ n2_ n3_;clear hb ho41;obtain ⟨Ao42,co42,eo42⟩:=Kd.R_slice HO113.out;subst eo42)|(go_at_call 32;(with_reducible refine (slices_Insert_S_impl_Setting.calls (fun k_=>some k_=(.slice Ao20 x7_2.length co20:Value).ownBlock) (.slice Ao20 x7_2.length co20) x7_2 t108 (fun k_=>some k_=(.slice Ao42 y111.length co42:Value).ownBlock) (.slice Ao42 y111.length co42) y111 t114 w _ ?side1 ?side2 ?side3 ?side4 ?side5 A38.out).mono ?_);(case side1=>exact zp);(case side2=>exact Kd.R_tight rfl HO_7.out);(case side3=>exact fun k_ e_=>(HO_7.out.1 k_ e_.symm).2);(case side4=>exact Kd.R_tight rfl HO113.out);(case side5=>exact fun k_ e_=>(HO113.out.1 k_ e_.symm).2);rintro e w43 ⟨v115,rfl,ho0,hb,hkp⟩;replace BK107:=Aside0.mk (blk_kept zah hkp (fun hs_=>Or.elim hs_ (fun e_=>(fun e_=>(Kd.R_ne HO_7.out BK107.out zbp) e_) e_) (fun e_=>(fun e_=>(Kd.R_ne HO113.out BK107.out zbp) e_) e_)));have HO116:=Aside0.mk (Kd.R_mono (ok':=fun k_=>True) ho0 (fun k_ hk_=>trivial));replace HB:=Aside0.mk (hb);clear HO113 HO_7;(try clear hb);(try clear hkp);(try clear ho0)));try go_wp2_with (first|((with_reducible refine gate_dst (N:=69) rfl ?_);refine Kd.R_lit k57 _ 57 ?hg (N:=69) ?hd (xs:=([(⟨((rd_T61 l1 x24_2).f1.f0),((rd_T61 l1 x24_2).f1.f1)⟩:S57)]:List (S57))) (inner:=[.string ((rd_T61 l1 x24_2).f1.f0),.int .i64 ((rd_T61 l1 x24_2).f1.f1)]) (ok:=fun _=>True) (okp:=fun _=>True) ?hr ?hp (fun _ hk=>hk) trivial (Below.refl _ _) (Nat.le_refl _) zca ?_;(case hd=>rfl);(case hg=>rfl);(case hr=>exact zv);(case hp=>exact zbu);intro v112 w40 ho41 hb hg_ hnew_;clear hg_ hnew_;(first|rw [←Ny111.out] at ho41|(simp only [Int.reduceToNat] at ho41;rw [←Ny111.out] at ho41));have n0_:=Aside0.mk (Kd.R_elder' zad (Kd.R_base ho41) hb);have n1_:=Aside0.mk (Kd.R_lower (Kd.R_new' ho41 (Kd.R_lt zad)) (below_size zp));have n2_:=Aside0.mk (blk_below (g:=gb107) (o:=.cells #[.int .i64 ((rd_T61 l1 x24_2).f0),.string ((rd_T61 l1 x24_2).f1.f0),.int .i64 ((rd_T61 l1 x24_2).f1.f1)] 61 (0,0)) zah hb);have n3_:=Aside0.mk (below_step zp hb);clear HO_7;clear BK107;clear HB;have HO_7:=n0_;have HO113:=n1_;have BK107:=n2_;have HB:=n3_;clear n0_ n1_ n2_ n3_;clear hb ho41;obtain ⟨Ao42,co42,eo42⟩:=Kd.R_slice HO113.out;subst eo42)|(go_at_call 32;(with_reducible refine (slices_Insert_S_impl_Setting.calls (fun k_=>some k_=(.slice Ao20 x7_2.length co20:Value).ownBlock) (.slice Ao20 x7_2.length co20) x7_2 t108 (fun k_=>some k_=(.slice Ao42 y111.length co42:Value).ownBlock) (.slice Ao42 y111.length co42) y111 t114 w _ ?side1 ?side2 ?side3 ?side4 ?side5 A38.out).mono ?_);(case side1=>exact zp);(case side2=>exact Kd.R_tight rfl HO_7.out);(case side3=>exact fun k_ e_=>(HO_7.out.1 k_ e_.symm).2);(case side4=>exact Kd.R_tight rfl HO113.out);(case side5=>exact fun k_ e_=>(HO113.out.1 k_ e_.symm).2);rintro e w43 ⟨v115,rfl,ho0,hb,hkp⟩;replace BK107:=Aside0.mk (blk_kept zah hkp (fun hs_=>Or.elim hs_ (fun e_=>(fun e_=>(Kd.R_ne HO_7.out BK107.out zbp) e_) e_) (fun e_=>(fun e_=>(Kd.R_ne HO113.out BK107.out zbp) e_) e_)));have HO116:=Aside0.mk (Kd.R_mono (ok':=fun k_=>True) ho0 (fun k_ hk_=>trivial));replace HB:=Aside0.mk (hb);clear HO113 HO_7;(try clear hb);(try clear hkp);(try clear ho0))))
                go_roundg kj31
                case measure=>have:=HJ2.out;have:=HK2.out;have:=HJ16.out;have:=HJ31.out;omega
                case rel=>exact ⟨(t114),(wrap64 (x24_2+1)),zi,H',⟨by have:=HJ2.out;have:=HK2.out;have:=HJ16.out;have:=HJ31.out;omega⟩,⟨zcv⟩,⟨zp⟩⟩
               ·rw [if_neg c37] at H
                have c37b0:(((rd_T61 l1 x24_2).f0) == 1)=false:=beq_eq_false_iff_ne.mpr c37
                have c37b1:(((rd_T61 l1 x24_2).f0) != 1)=true:=bne_iff_ne.mpr c37
                by_cases c44:t109=true
                ·subst c44
                 have H1:(if 0≤t108 then (if t108<(x7_2.length:Int) then (if (!((((rd_T57 x7_2 t108).f0).toList) == ((rd_T61 l1 x24_2).f1.f0).toList) || (!(((rd_T57 x7_2 t108).f1) == ((rd_T61 l1 x24_2).f1.f1))))=true then (some (([]:List (S57)),6)) else ((slices_Delete_S_impl_Setting.f x7_2 t108 (wrap64 (t108+1))).bind fun t118=>(impl_ApplyChanges.l0 kj31 t118 l1 (l1.length:Int) (wrap64 (x24_2+1))))) else (none)) else (none))=some (r1,r2):=by rw [if_pos rfl] at H;exact H
                 clear H
                 have H:=H1
                 clear H1
                 by_cases c45:0≤t108
                 ·rw [if_pos c45] at H
                  have c45b0:decide (0≤t108)=true:=decide_eq_true c45
                  clear c45
                  by_cases c46:t108<(x7_2.length:Int)
                  ·rw [if_pos c46] at H
                   have c46b0:decide (t108<(x7_2.length:Int))=true:=decide_eq_true c46
                   clear c46
                   by_cases c47:(!((((rd_T57 x7_2 t108).f0).toList) == ((rd_T61 l1 x24_2).f1.f0).toList) || (!(((rd_T57 x7_2 t108).f1) == ((rd_T61 l1 x24_2).f1.f1))))=true
                   ·rw [if_pos c47] at H
                    have c47b0:(!((((rd_T57 x7_2 t108).f0).toList) == ((rd_T61 l1 x24_2).f1.f0).toList) || (!(((rd_T57 x7_2 t108).f1) == ((rd_T61 l1 x24_2).f1.f1))))=true:=c47
                    clear c47
                    simp only [Option.some.injEq,Prod.mk.injEq] at H
                    obtain ⟨rfl,rfl⟩:=H
                    have hcz48_0:wc.cell? ⟨gb107,0,none⟩=some (.int .i64 ((rd_T61 l1 x24_2).f0)):=(blk_cell BK107.out 0).trans rfl
                    have hcz48_1:wc.cell? ⟨gb107,1,none⟩=some (.string ((rd_T61 l1 x24_2).f1.f0)):=(blk_cell BK107.out 1).trans rfl
                    have hcz48_2:wc.cell? ⟨gb107,2,none⟩=some (.int .i64 ((rd_T61 l1 x24_2).f1.f1)):=(blk_cell BK107.out 2).trans rfl
                    have hfz48_0:=blk_frozen BK107.out 0
                    have hfz48_1:=blk_frozen BK107.out 1
                    have hfz48_2:=blk_frozen BK107.out 2
                    have p117:0≤(t108:Int):=of_decide_eq_true zb
                    have q117:t108<(x7_2.length:Int):=of_decide_eq_true zb
                    obtain ⟨ad117,e117,hx117_0,hx117_1⟩:=at_T57 (Kd.R_reads' HO_7.out).2.2 t108 p117 q117
                    cases e117
                    replace p117:=eq_true p117
                    replace q117:=eq_true q117
                    go_wp2
                    repeat (go_quiet (fail);try go_wp2)
                    go_ret2
                    exact ⟨_,zj,zba,zp⟩
                   ·rw [if_neg c47] at H
                    have c47b0:(!((((rd_T57 x7_2 t108).f0).toList) == ((rd_T61 l1 x24_2).f1.f0).toList) || (!(((rd_T57 x7_2 t108).f1) == ((rd_T61 l1 x24_2).f1.f1))))=false:=by simpa using c47
                    clear c47
                    replace H:=Option.bind_eq_some_iff.mp H
                    obtain ⟨t118,A490,H⟩:=H
                    replace H:(impl_ApplyChanges.l0 kj31 t118 l1 (l1.length:Int) (wrap64 (x24_2+1)))=some (r1,r2):=H
                    have A49:=Aside0.mk A490
                    clear A490
                    have H':=Aside0.mk H
                    clear H
                    have hcz50_0:wc.cell? ⟨gb107,0,none⟩=some (.int .i64 ((rd_T61 l1 x24_2).f0)):=(blk_cell BK107.out 0).trans rfl
                    have hcz50_1:wc.cell? ⟨gb107,1,none⟩=some (.string ((rd_T61 l1 x24_2).f1.f0)):=(blk_cell BK107.out 1).trans rfl
                    have hcz50_2:wc.cell? ⟨gb107,2,none⟩=some (.int .i64 ((rd_T61 l1 x24_2).f1.f1)):=(blk_cell BK107.out 2).trans rfl
                    have hfz50_0:=blk_frozen BK107.out 0
                    have hfz50_1:=blk_frozen BK107.out 1
                    have hfz50_2:=blk_frozen BK107.out 2
                    have p117:0≤(t108:Int):=of_decide_eq_true zb
                    have q117:t108<(x7_2.length:Int):=of_decide_eq_true zb
                    obtain ⟨ad117,e117,hx117_0,hx117_1⟩:=at_T57 (Kd.R_reads' HO_7.out).2.2 t108 p117 q117
                    cases e117
                    replace p117:=eq_true p117
                    replace q117:=eq_true q117
                    go_wp2_with (first|(go_at_call 33;(with_reducible refine (slices_Delete_S_impl_Setting.calls (fun k_=>some k_=(.slice (some ad117) x7_2.length co20:Value).ownBlock) (.slice (some ad117) x7_2.length co20) x7_2 t108 (wrap64 (t108+1)) t118 w _ ?side1 ?side2 A49.out).mono ?_);(case side1=>exact zp);(case side2=>exact Kd.R_tight rfl HO_7.out);rintro e w51 ⟨v119,rfl,ho0,hb,hkp⟩;replace BK107:=Aside0.mk (blk_kept zah hkp (fun hs_=>(fun e_=>(Kd.R_ne HO_7.out BK107.out zbp) e_) hs_));have HO120:=Aside0.mk (Kd.R_mono (ok':=fun k_=>True) ho0 (fun k_ hk_=>trivial));replace HB:=Aside0.mk (hb);clear HO_7;(try clear hb);(try clear hkp);(try clear ho0)))
                    repeat (go_quiet (first|(go_at_call 33;(with_reducible refine (slices_Delete_S_impl_Setting.calls (fun k_=>some k_=(.slice (some ad117) x7_2.length co20:Value).ownBlock) (.slice (some ad117) x7_2.length co20) x7_2 t108 (wrap64 (t108+1)) t118 w _ ?side1 ?side2 A49.out).mono ?_);(case side1=>exact zp);(case side2=>exact Kd.R_tight rfl HO_7.out);rintro e w51 ⟨v119,rfl,ho0,hb,hkp⟩;replace BK107:=Aside0.mk (blk_kept zah hkp (fun hs_=>(fun e_=>(Kd.R_ne HO_7.out BK107.out zbp) e_) hs_));have HO120:=Aside0.mk (Kd.R_mono (ok':=fun k_=>True) ho0 (fun k_ hk_=>trivial));replace HB:=Aside0.mk (hb);clear HO_7;(try clear hb);(try clear hkp);(try clear ho0)));try go_wp2_with (first|(go_at_call 33;(with_reducible refine (slices_Delete_S_impl_Setting.calls (fun k_=>some k_=(.slice (some ad117) x7_2.length co20:Value).ownBlock) (.slice (some ad117) x7_2.length co20) x7_2 t108 (wrap64 (t108+1)) t118 w _ ?side1 ?side2 A49.out).mono ?_);(case side1=>exact zp);(case side2=>exact Kd.R_tight rfl HO_7.out);rintro e w51 ⟨v119,rfl,ho0,hb,hkp⟩;replace BK107:=Aside0.mk (blk_kept zah hkp (fun hs_=>(fun e_=>(Kd.R_ne HO_7.out BK107.out zbp) e_) hs_));have HO120:=Aside0.mk (Kd.R_mono (ok':=fun k_=>True) ho0 (fun k_ hk_=>trivial));replace HB:=Aside0.mk (hb);clear HO_7;(try clear hb);(try clear hkp);(try clear ho0))))
                    go_roundg kj31
                    case measure=>have:=HJ2.out;have:=HK2.out;have:=HJ16.out;have:=HJ31.out;omega
                    case rel=>exact ⟨(t118),(wrap64 (x24_2+1)),zi,H',⟨by have:=HJ2.out;have:=HK2.out;have:=HJ16.out;have:=HJ31.out;omega⟩,⟨by (with_reducible repeat (first|apply Kd.R_alloc|apply Kd.R_drewN|apply Kd.R_drew));exact HO120.out⟩,⟨zp⟩⟩
                  ·rw [if_neg c46] at H
                   exact absurd H zca
                 ·rw [if_neg c45] at H
                  exact absurd H zca
                ·replace c44:=Bool.eq_false_iff.mpr c44
                 subst c44
                 have H1:(some (([]:List (S57)),3))=some (r1,r2):=by rw [if_neg (show ¬ (false=true) by decide)] at H;exact H
                 clear H
                 have H:=H1
                 clear H1
                 simp only [Option.some.injEq,Prod.mk.injEq] at H
                 obtain ⟨rfl,rfl⟩:=H
                 have hcz52_0:wc.cell? ⟨gb107,0,none⟩=some (.int .i64 ((rd_T61 l1 x24_2).f0)):=(blk_cell BK107.out 0).trans rfl
                 have hcz52_1:wc.cell? ⟨gb107,1,none⟩=some (.string ((rd_T61 l1 x24_2).f1.f0)):=(blk_cell BK107.out 1).trans rfl
                 have hcz52_2:wc.cell? ⟨gb107,2,none⟩=some (.int .i64 ((rd_T61 l1 x24_2).f1.f1)):=(blk_cell BK107.out 2).trans rfl
                 have hfz52_0:=blk_frozen BK107.out 0
                 have hfz52_1:=blk_frozen BK107.out 1
                 have hfz52_2:=blk_frozen BK107.out 2
                 go_wp2
                 repeat (go_quiet (fail);try go_wp2)
                 go_ret2
                 exact ⟨_,zj,zba,zp⟩
        ·rw [if_neg c15] at H
         exact absurd H zca
       ·rw [if_neg c14] at H
        exact absurd H zca
      ·rw [if_neg c13] at H
       have c13b0:decide (x24_2<(l1.length:Int))=false:=decide_eq_false c13
       clear c13
       simp only [Option.some.injEq,Prod.mk.injEq] at H
       obtain ⟨rfl,rfl⟩:=H
       go_wp2
       repeat (go_quiet (fail);try go_wp2)
       go_ret2
       exact ⟨_,zj,zad,za⟩

def spec_l27Same.l0:Nat→List (S57)→List (S57)→Int→Option (Bool)
 | 0,_,_,_=>none
 | k+1,x0,x1,x5=>if x5<(x0.length:Int) then (if 0≤x5 then (if x5<(x1.length:Int) then (if (!((((rd_T57 x0 x5).f0).toList) == (((rd_T57 x1 x5).f0).toList)) || (!(((rd_T57 x0 x5).f1) == ((rd_T57 x1 x5).f1))))=true then (some false) else (spec_l27Same.l0 k x0 x1 (wrap64 (x5+1)))) else (none)) else (none)) else (some true)
def spec_l27Same.f (k:Nat) (l0:List (S57)) (l1:List (S57)):Option (Bool):=if (l0.length:Int)=(l1.length:Int) then (spec_l27Same.l0 k l0 l1 0) else (some false)
set_option maxHeartbeats 8000000 in
set_option maxRecDepth 100000 in
theorem spec_l27Same.calls (k:Nat) (A0:Option Addr) (c0:Nat) (l0:List (S57)) (A1:Option Addr) (c1:Nat) (l1:List (S57)) (r:Bool) (w:World) (hr0:Kd.C k57 w A0 l0.length l0) (hc0:l0.length≤c0) (hr1:Kd.C k57 w A1 l1.length l1) (hc1:l1.length≤c1) (h:spec_l27Same.f k l0 l1=some r) :
 Calls Tryd.prog 34 #[.slice A0 l0.length c0,.slice A1 l1.length c1] w fun e w'=>e = .returned (.bool r)∧Drawn0 w w':=by
 have hu57:=Tryd.underlying57
 have HR0:=Aside0.mk hr0
 have HC0:=Aside0.mk hc0
 clear hr0 hc0
 have HR1:=Aside0.mk hr1
 have HC1:=Aside0.mk hc1
 clear hr1 hc1
 have H:(if (l0.length:Int)=(l1.length:Int) then (spec_l27Same.l0 k l0 l1 0) else (some false))=some r:=h
 clear h
 by_cases c3:(l0.length:Int)=(l1.length:Int)
 ·rw [if_pos c3] at H
  have c3b0:((l0.length:Int) == (l1.length:Int))=true:=beq_iff_eq.mpr c3
  have c3b1:((l0.length:Int) != (l1.length:Int))=false:=bne_eq_false_iff_eq.mpr c3
  have c3b2:(l0.length == l1.length)=true:=by first|simpa using c3|(simp at c3 ⊢;omega)
  clear c3
  have H':=Aside0.mk H
  clear H
  go_enter Tryd.func34,Tryd.ntmps34
  go_wp2
  repeat (go_quiet (fail);try go_wp2)
  go_loopg [5] k (fun kq v5 w'=>∃(x5_1:Int),v5 = .int .i64 x5_1∧Aside0 (spec_l27Same.l0 kq l0 l1 x5_1=some r)∧Aside0 (kq≤k)∧Drawn0 w w')
  case atStart=>exact ⟨(0),zi,H',⟨Nat.le_refl _⟩,zn⟩
  case round=>
   clear H'
   try clear c1
   try clear p2
   try clear c3
   try clear c3b0
   try clear c3b1
   try clear c3b2
   obtain ⟨x5_1,rfl,HA,HK1,⟨m1,rfl⟩⟩:=hrel
   cases gk with
   | zero=>exact absurd HA.out (by simp [spec_l27Same.l0])
   | succ k1=>
    have H:=HA.out
    clear HA
    simp only [spec_l27Same.l0] at H
    by_cases c4:x5_1<(l0.length:Int)
    ·rw [if_pos c4] at H
     have c4b0:decide (x5_1<(l0.length:Int))=true:=decide_eq_true c4
     clear c4
     by_cases c5:0≤x5_1
     ·rw [if_pos c5] at H
      have c5b0:decide (0≤x5_1)=true:=decide_eq_true c5
      clear c5
      by_cases c6:x5_1<(l1.length:Int)
      ·rw [if_pos c6] at H
       have c6b0:decide (x5_1<(l1.length:Int))=true:=decide_eq_true c6
       clear c6
       by_cases c7:(!((((rd_T57 l0 x5_1).f0).toList) == (((rd_T57 l1 x5_1).f0).toList)) || (!(((rd_T57 l0 x5_1).f1) == ((rd_T57 l1 x5_1).f1))))=true
       ·rw [if_pos c7] at H
        have c7b0:(!((((rd_T57 l0 x5_1).f0).toList) == (((rd_T57 l1 x5_1).f0).toList)) || (!(((rd_T57 l0 x5_1).f1) == ((rd_T57 l1 x5_1).f1))))=true:=c7
        clear c7
        obtain rfl:=Option.some.inj H
        have p101:0≤(x5_1:Int):=of_decide_eq_true zb
        have q101:x5_1<(l0.length:Int):=of_decide_eq_true zb
        obtain ⟨ad101,e101,hx101_0,hx101_1⟩:=at_T57 HR0.out x5_1 p101 q101
        cases e101
        replace p101:=eq_true p101
        replace q101:=eq_true q101
        have p102:0≤(x5_1:Int):=of_decide_eq_true zb
        have q102:x5_1<(l1.length:Int):=of_decide_eq_true zb
        obtain ⟨ad102,e102,hx102_0,hx102_1⟩:=at_T57 HR1.out x5_1 p102 q102
        cases e102
        replace p102:=eq_true p102
        replace q102:=eq_true q102
        go_wp2
        repeat (go_quiet (fail);try go_wp2)
        go_ret
        exact ⟨zi,zn⟩
       ·rw [if_neg c7] at H
        have c7b0:(!((((rd_T57 l0 x5_1).f0).toList) == (((rd_T57 l1 x5_1).f0).toList)) || (!(((rd_T57 l0 x5_1).f1) == ((rd_T57 l1 x5_1).f1))))=false:=by simpa using c7
        clear c7
        have H':=Aside0.mk H
        clear H
        have p101:0≤(x5_1:Int):=of_decide_eq_true zb
        have q101:x5_1<(l0.length:Int):=of_decide_eq_true zb
        obtain ⟨ad101,e101,hx101_0,hx101_1⟩:=at_T57 HR0.out x5_1 p101 q101
        cases e101
        replace p101:=eq_true p101
        replace q101:=eq_true q101
        have p102:0≤(x5_1:Int):=of_decide_eq_true zb
        have q102:x5_1<(l1.length:Int):=of_decide_eq_true zb
        obtain ⟨ad102,e102,hx102_0,hx102_1⟩:=at_T57 HR1.out x5_1 p102 q102
        cases e102
        replace p102:=eq_true p102
        replace q102:=eq_true q102
        go_wp2
        repeat (go_quiet (fail);try go_wp2)
        go_roundg k1
        case measure=>have:=HK1.out;omega
        case rel=>exact ⟨(wrap64 (x5_1+1)),zi,H',⟨zci⟩,zn⟩
      ·rw [if_neg c6] at H
       exact absurd H zca
     ·rw [if_neg c5] at H
      exact absurd H zca
    ·rw [if_neg c4] at H
     have c4b0:decide (x5_1<(l0.length:Int))=false:=decide_eq_false c4
     clear c4
     obtain rfl:=Option.some.inj H
     go_wp2
     repeat (go_quiet (fail);try go_wp2)
     go_ret
     exact ⟨zi,zn⟩
 ·rw [if_neg c3] at H
  have c3b0:((l0.length:Int) == (l1.length:Int))=false:=beq_eq_false_iff_ne.mpr c3
  have c3b1:((l0.length:Int) != (l1.length:Int))=true:=bne_iff_ne.mpr c3
  have c3b2:(l0.length == l1.length)=false:=by first|simpa using c3|(simp at c3 ⊢;omega)
  obtain rfl:=Option.some.inj H
  go_enter Tryd.func34,Tryd.ntmps34
  go_wp2
  repeat (go_quiet (fail);try go_wp2)
  go_ret
  exact ⟨zi,zn⟩
end Go.Proofs.YtocegmkifmdlcaaDoor.P

namespace Go.Proofs.YtocegmkifmdlcaaDoor.P
open Go.RowKit Go.Proofs.YtocegmkifmdlcaaDoorW.PrintWords Go.Proofs.YtocegmkifmdlcaaDoorW.PrintLast Go.Proofs.YtocegmkifmdlcaaDoorW.PrintMore
attribute [local go_sem] max2_int min2_int max_two min_two max_three min_three max_four min_four str_leq str_gtr str_geq
set_option linter.unusedVariables false
set_option linter.unusedSimpArgs false
def spec_SameState.f (k:Nat) (l0:List (S57)) (l1:List (S57)):Option (Bool):=(spec_l27Same.f k l0 l1).bind fun t101=>(some t101)
set_option maxHeartbeats 8000000 in
set_option maxRecDepth 100000 in
theorem spec_SameState.calls (k:Nat) (A0:Option Addr) (c0:Nat) (l0:List (S57)) (A1:Option Addr) (c1:Nat) (l1:List (S57)) (r:Bool) (w:World) (hr0:Kd.C k57 w A0 l0.length l0) (hc0:l0.length≤c0) (hr1:Kd.C k57 w A1 l1.length l1) (hc1:l1.length≤c1) (h:spec_SameState.f k l0 l1=some r) :
 Calls Tryd.prog 10 #[.slice A0 l0.length c0,.slice A1 l1.length c1] w fun e w'=>e = .returned (.bool r)∧Drawn0 w w':=by
 have HR0:=Aside0.mk hr0
 have HC0:=Aside0.mk hc0
 clear hr0 hc0
 have HR1:=Aside0.mk hr1
 have HC1:=Aside0.mk hc1
 clear hr1 hc1
 have H:((spec_l27Same.f k l0 l1).bind fun t101=>(some t101))=some r:=h
 clear h
 replace H:=Option.bind_eq_some_iff.mp H
 obtain ⟨t101,A30,H⟩:=H
 replace H:(some t101)=some r:=H
 have A3:=Aside0.mk A30
 clear A30
 obtain rfl:=Option.some.inj H
 go_enter Tryd.func10,Tryd.ntmps10
 go_wp2_with (first|((with_reducible refine gate_callee (f:=34) rfl ?_);refine goesL_ (some 7) rfl rfl Tryd.func34 zaq rfl #[.slice A0 l0.length c0,.slice A1 l1.length c1] rfl zd ?_;(with_reducible refine (spec_l27Same.calls k _ _ l0 _ _ l1 t101 _ ?side1 ?side2 ?side3 ?side4 A3.out).mono ?_);(case side1=>exact zo);(case side2=>exact HC0.out);(case side3=>exact zbb);(case side4=>exact HC1.out);rintro e w' ⟨rfl,⟨nd,rfl⟩⟩;refine ⟨_,rfl,?_⟩))
 go_ret
 exact ⟨zi,zn⟩

def laws_r8At.f (l0:List Int) (a1:Int) (a2:Int):Option (Int):=if a2≤1 then (some 0) else (if a1≥(l0.length:Int) then (some 0) else (if 0≤a1 then (if a1<(l0.length:Int) then (if a2=0 then (none) else (some (Int.tmod (wrap64 (rd l0 a1)) a2))) else (none)) else (none)))
set_option maxHeartbeats 8000000 in
set_option maxRecDepth 100000 in
theorem laws_r8At.calls (A0:Option Addr) (c0:Nat) (l0:List Int) (a1:Int) (a2:Int) (r:Int) (w:World) (hr0:Kd.C (Kd.int .u8) w A0 l0.length l0) (hc0:l0.length≤c0) (h:laws_r8At.f l0 a1 a2=some r) :
 Calls Tryd.prog 11 #[.slice A0 l0.length c0,.int .i64 a1,.int .i64 a2] w fun e w'=>e = .returned (.int .i64 r)∧Drawn0 w w':=by
 have HR0:=Aside0.mk hr0
 have HC0:=Aside0.mk hc0
 clear hr0 hc0
 have H:(if a2≤1 then (some 0) else (if a1≥(l0.length:Int) then (some 0) else (if 0≤a1 then (if a1<(l0.length:Int) then (if a2=0 then (none) else (some (Int.tmod (wrap64 (rd l0 a1)) a2))) else (none)) else (none))))=some r:=h
 clear h
 by_cases c4:a2≤1
 ·rw [if_pos c4] at H
  have c4b0:decide (a2≤1)=true:=decide_eq_true c4
  clear c4
  obtain rfl:=Option.some.inj H
  go_enter Tryd.func11,Tryd.ntmps11
  go_wp2
  go_ret
  exact ⟨zi,zn⟩
 ·rw [if_neg c4] at H
  have c4b0:decide (a2≤1)=false:=decide_eq_false c4
  clear c4
  by_cases c5:a1≥(l0.length:Int)
  ·rw [if_pos c5] at H
   have c5b0:decide ((l0.length:Int)≤a1)=true:=decide_eq_true c5
   clear c5
   obtain rfl:=Option.some.inj H
   go_enter Tryd.func11,Tryd.ntmps11
   go_wp2
   go_ret
   exact ⟨zi,zn⟩
  ·rw [if_neg c5] at H
   have c5b0:decide ((l0.length:Int)≤a1)=false:=decide_eq_false c5
   clear c5
   by_cases c6:0≤a1
   ·rw [if_pos c6] at H
    have c6b0:decide (0≤a1)=true:=decide_eq_true c6
    clear c6
    by_cases c7:a1<(l0.length:Int)
    ·rw [if_pos c7] at H
     have c7b0:decide (a1<(l0.length:Int))=true:=decide_eq_true c7
     clear c7
     by_cases c8:a2=0
     ·rw [if_pos c8] at H
      exact absurd H zca
     ·rw [if_neg c8] at H
      have c8b0:(a2 == 0)=false:=beq_eq_false_iff_ne.mpr c8
      have c8b1:(a2 != 0)=true:=bne_iff_ne.mpr c8
      obtain rfl:=Option.some.inj H
      have p101:0≤(a1:Int):=of_decide_eq_true zb
      have q101:a1<(l0.length:Int):=of_decide_eq_true zb
      obtain ⟨ad101,e101,hx101_0⟩:=Kd.at_int HR0.out a1 p101 q101
      cases e101
      replace p101:=eq_true p101
      replace q101:=eq_true q101
      go_enter Tryd.func11,Tryd.ntmps11
      go_wp2
      go_ret
      exact ⟨zi,zn⟩
    ·rw [if_neg c7] at H
     exact absurd H zca
   ·rw [if_neg c6] at H
    exact absurd H zca

def impl_bytesWithin.l0:Nat→ByteArray→Int→Int→Int→Int→Option (Bool)
 | 0,_,_,_,_,_=>none
 | k+1,x0,x1,x2,x9,x10=>if x10<x9 then (if 0≤x10 then (if x10<(x0.size:Int) then (if (bt x0 x10)<x1 then (some false) else (if (bt x0 x10) > x2 then (some false) else (impl_bytesWithin.l0 k x0 x1 x2 x9 (wrap64 (x10+1))))) else (none)) else (none)) else (some true)
def impl_bytesWithin.f (k:Nat) (a0:ByteArray) (a1:Int) (a2:Int):Option (Bool):=impl_bytesWithin.l0 k a0 a1 a2 (a0.size:Int) 0
set_option maxHeartbeats 8000000 in
set_option maxRecDepth 100000 in
theorem impl_bytesWithin.calls (k:Nat) (a0:ByteArray) (a1:Int) (a2:Int) (r:Bool) (w:World) (h:impl_bytesWithin.f k a0 a1 a2=some r) :
 Calls Tryd.prog 57 #[.string a0,.int .u8 a1,.int .u8 a2] w fun e w'=>e = .returned (.bool r)∧Drawn0 w w':=by
 have H:(impl_bytesWithin.l0 k a0 a1 a2 (a0.size:Int) 0)=some r:=h
 clear h
 have H':=Aside0.mk H
 clear H
 go_enter Tryd.func57,Tryd.ntmps57
 go_wp2
 go_loopg [10] k (fun kq v10 w'=>∃(x10_1:Int),v10 = .int .i64 x10_1∧Aside0 (impl_bytesWithin.l0 kq a0 a1 a2 (a0.size:Int) x10_1=some r)∧Aside0 (kq≤k)∧Drawn0 w w')
 case atStart=>exact ⟨(0),zi,H',⟨Nat.le_refl _⟩,zn⟩
 case round=>
  clear H'
  try clear p2
  obtain ⟨x10_1,rfl,HA,HK1,⟨m1,rfl⟩⟩:=hrel
  cases gk with
  | zero=>exact absurd HA.out (by simp [impl_bytesWithin.l0])
  | succ k1=>
   have H:=HA.out
   clear HA
   simp only [impl_bytesWithin.l0] at H
   by_cases c4:x10_1<(a0.size:Int)
   ·rw [if_pos c4] at H
    have c4b0:decide (x10_1<(a0.size:Int))=true:=decide_eq_true c4
    clear c4
    by_cases c5:0≤x10_1
    ·rw [if_pos c5] at H
     have c5b0:decide (0≤x10_1)=true:=decide_eq_true c5
     clear c5
     by_cases c6:x10_1<(a0.size:Int)
     ·rw [if_pos c6] at H
      have c6b0:decide (x10_1<(a0.size:Int))=true:=decide_eq_true c6
      clear c6
      by_cases c8:(bt a0 x10_1)<a1
      ·rw [if_pos c8] at H
       have c8b0:decide ((bt a0 x10_1)<a1)=true:=decide_eq_true c8
       clear c8
       obtain rfl:=Option.some.inj H
       have p7:0≤(x10_1:Int):=of_decide_eq_true zb
       have q7:x10_1<(a0.size:Int):=of_decide_eq_true zb
       have hx7:=bt_at a0 x10_1
       replace p7:=eq_true p7
       replace q7:=eq_true q7
       go_wp2
       go_ret
       exact ⟨zi,zn⟩
      ·rw [if_neg c8] at H
       have c8b0:decide ((bt a0 x10_1)<a1)=false:=decide_eq_false c8
       clear c8
       by_cases c10:(bt a0 x10_1) > a2
       ·rw [if_pos c10] at H
        have c10b0:decide (a2<(bt a0 x10_1))=true:=decide_eq_true c10
        clear c10
        obtain rfl:=Option.some.inj H
        have p7:0≤(x10_1:Int):=of_decide_eq_true zb
        have q7:x10_1<(a0.size:Int):=of_decide_eq_true zb
        have hx7:=bt_at a0 x10_1
        replace p7:=eq_true p7
        replace q7:=eq_true q7
        have p9:0≤(x10_1:Int):=of_decide_eq_true zb
        have q9:x10_1<(a0.size:Int):=of_decide_eq_true zb
        have hx9:=bt_at a0 x10_1
        replace p9:=eq_true p9
        replace q9:=eq_true q9
        go_wp2
        go_ret
        exact ⟨zi,zn⟩
       ·rw [if_neg c10] at H
        have c10b0:decide (a2<(bt a0 x10_1))=false:=decide_eq_false c10
        clear c10
        have H':=Aside0.mk H
        clear H
        have p7:0≤(x10_1:Int):=of_decide_eq_true zb
        have q7:x10_1<(a0.size:Int):=of_decide_eq_true zb
        have hx7:=bt_at a0 x10_1
        replace p7:=eq_true p7
        replace q7:=eq_true q7
        have p9:0≤(x10_1:Int):=of_decide_eq_true zb
        have q9:x10_1<(a0.size:Int):=of_decide_eq_true zb
        have hx9:=bt_at a0 x10_1
        replace p9:=eq_true p9
        replace q9:=eq_true q9
        go_wp2
        go_roundg k1
        case measure=>have:=HK1.out;omega
        case rel=>exact ⟨(wrap64 (x10_1+1)),zi,H',⟨zci⟩,zn⟩
     ·rw [if_neg c6] at H
      exact absurd H zca
    ·rw [if_neg c5] at H
     exact absurd H zca
   ·rw [if_neg c4] at H
    have c4b0:decide (x10_1<(a0.size:Int))=false:=decide_eq_false c4
    clear c4
    obtain rfl:=Option.some.inj H
    go_wp2
    go_ret
    exact ⟨zi,zn⟩

def impl_memoValid.f (k:Nat) (a0:ByteArray):Option (Bool):=if (a0.size:Int)≤20 then ((impl_bytesWithin.f k a0 32 126).bind fun t101=>(some t101)) else (some false)
set_option maxHeartbeats 8000000 in
set_option maxRecDepth 100000 in
theorem impl_memoValid.calls (k:Nat) (a0:ByteArray) (r:Bool) (w:World) (h:impl_memoValid.f k a0=some r) :
 Calls Tryd.prog 36 #[.string a0] w fun e w'=>e = .returned (.bool r)∧Drawn0 w w':=by
 have H:(if (a0.size:Int)≤20 then ((impl_bytesWithin.f k a0 32 126).bind fun t101=>(some t101)) else (some false))=some r:=h
 clear h
 by_cases c2:(a0.size:Int)≤20
 ·rw [if_pos c2] at H
  have c2b0:decide ((a0.size:Int)≤20)=true:=decide_eq_true c2
  have c2b1:decide (a0.size≤20)=true:=decide_eq_true zbn
  clear c2
  replace H:=Option.bind_eq_some_iff.mp H
  obtain ⟨t101,A30,H⟩:=H
  replace H:(some t101)=some r:=H
  have A3:=Aside0.mk A30
  clear A30
  obtain rfl:=Option.some.inj H
  go_enter Tryd.func36,Tryd.ntmps36
  go_wp2_with (first|(go_at_call 57;(with_reducible refine (impl_bytesWithin.calls k a0 32 126 t101 _ A3.out).mono ?_);rintro e w' ⟨rfl,⟨nd,rfl⟩⟩))
  go_ret
  exact ⟨zi,zn⟩
 ·rw [if_neg c2] at H
  have c2b0:decide ((a0.size:Int)≤20)=false:=decide_eq_false c2
  have c2b1:decide (a0.size≤20)=false:=decide_eq_false zbn
  clear c2
  obtain rfl:=Option.some.inj H
  go_enter Tryd.func36,Tryd.ntmps36
  go_wp2
  go_ret
  exact ⟨zi,zn⟩

def impl_ValidHistory.l0:Nat→List (S48)→Int→Int→Option (Bool)
 | 0,_,_,_=>none
 | k+1,x8,x9,x10=>if x10<x9 then (if 0≤x10 then (if x10<(x8.length:Int) then (if ((rd_T48 x8 x10).f0)=(wrap64 (x10+1)) then ((impl_within.f ((rd_T48 x8 x10).f1) 0 x10).bind fun t103=>(if t103=true then ((impl_memoValid.f k ((rd_T48 x8 x10).f2)).bind fun t104=>(if t104=true then ((impl_ValidState.f k ((rd_T48 x8 x10).f3)).bind fun t105=>(if t105=true then (impl_ValidHistory.l0 k x8 x9 (wrap64 (x10+1))) else (some false))) else (some false))) else (some false))) else (some false)) else (none)) else (none)) else (some true)
def impl_ValidHistory.f (k:Nat) (l0:List (S48)):Option (Bool):=if (l0.length:Int) > 32 then (some false) else (impl_ValidHistory.l0 k l0 (l0.length:Int) 0)
set_option maxHeartbeats 8000000 in
set_option maxRecDepth 100000 in
theorem impl_ValidHistory.calls (k:Nat) (A0:Option Addr) (c0:Nat) (l0:List (S48)) (r:Bool) (w:World) (hr0:Kd.C k48 w A0 l0.length l0) (hc0:l0.length≤c0) (h:impl_ValidHistory.f k l0=some r) :
 Calls Tryd.prog 35 #[.slice A0 l0.length c0] w fun e w'=>e = .returned (.bool r)∧Below w.heap.size w w':=by
 have hu48:=Tryd.underlying48
 have HR0:=Aside0.mk hr0
 have HC0:=Aside0.mk hc0
 clear hr0 hc0
 have HB:=Aside0.mk (Below.refl w.heap.size w)
 have H:(if (l0.length:Int) > 32 then (some false) else (impl_ValidHistory.l0 k l0 (l0.length:Int) 0))=some r:=h
 clear h
 by_cases c2:(l0.length:Int) > 32
 ·rw [if_pos c2] at H
  have c2b0:decide (32<(l0.length:Int))=true:=decide_eq_true c2
  have c2b1:decide (32<l0.length)=true:=decide_eq_true zbn
  clear c2
  obtain rfl:=Option.some.inj H
  go_enter Tryd.func35,Tryd.ntmps35
  go_wp2
  go_ret
  exact ⟨zj,za⟩
 ·rw [if_neg c2] at H
  have c2b0:decide (32<(l0.length:Int))=false:=decide_eq_false c2
  have c2b1:decide (32<l0.length)=false:=decide_eq_false zbn
  clear c2
  have H':=Aside0.mk H
  clear H
  go_enter Tryd.func35,Tryd.ntmps35
  go_wp2
  go_loopg [10] k (fun kq v10 w'=>∃(x10_1:Int),v10 = .int .i64 x10_1∧Aside0 (impl_ValidHistory.l0 kq l0 (l0.length:Int) x10_1=some r)∧Aside0 (kq≤k)∧Aside0 (Below w.heap.size w w'))
  case atStart=>exact ⟨(0),zi,H',⟨Nat.le_refl _⟩,⟨za⟩⟩
  case round=>
   clear H'
   try clear c2
   try clear c2b0
   try clear c2b1
   try clear p2
   obtain ⟨x10_1,rfl,HA,HK1,HB⟩:=hrel
   cases gk with
   | zero=>exact absurd HA.out (by simp [impl_ValidHistory.l0])
   | succ k1=>
    have H:=HA.out
    clear HA
    simp only [impl_ValidHistory.l0] at H
    by_cases c3:x10_1<(l0.length:Int)
    ·rw [if_pos c3] at H
     have c3b0:decide (x10_1<(l0.length:Int))=true:=decide_eq_true c3
     clear c3
     by_cases c4:0≤x10_1
     ·rw [if_pos c4] at H
      have c4b0:decide (0≤x10_1)=true:=decide_eq_true c4
      clear c4
      by_cases c5:x10_1<(l0.length:Int)
      ·rw [if_pos c5] at H
       have c5b0:decide (x10_1<(l0.length:Int))=true:=decide_eq_true c5
       clear c5
       by_cases c6:((rd_T48 l0 x10_1).f0)=(wrap64 (x10_1+1))
       ·rw [if_pos c6] at H
        have c6b0:(((rd_T48 l0 x10_1).f0) == (wrap64 (x10_1+1)))=true:=beq_iff_eq.mpr c6
        have c6b1:(((rd_T48 l0 x10_1).f0) != (wrap64 (x10_1+1)))=false:=bne_eq_false_iff_eq.mpr c6
        clear c6
        replace H:=Option.bind_eq_some_iff.mp H
        obtain ⟨t103,A70,H⟩:=H
        replace H:(if t103=true then ((impl_memoValid.f k1 ((rd_T48 l0 x10_1).f2)).bind fun t104=>(if t104=true then ((impl_ValidState.f k1 ((rd_T48 l0 x10_1).f3)).bind fun t105=>(if t105=true then (impl_ValidHistory.l0 k1 l0 (l0.length:Int) (wrap64 (x10_1+1))) else (some false))) else (some false))) else (some false))=some r:=H
        have A7:=Aside0.mk A70
        clear A70
        by_cases c8:t103=true
        ·subst c8
         have H1:((impl_memoValid.f k1 ((rd_T48 l0 x10_1).f2)).bind fun t104=>(if t104=true then ((impl_ValidState.f k1 ((rd_T48 l0 x10_1).f3)).bind fun t105=>(if t105=true then (impl_ValidHistory.l0 k1 l0 (l0.length:Int) (wrap64 (x10_1+1))) else (some false))) else (some false)))=some r:=by rw [if_pos rfl] at H;exact H
         clear H
         have H:=H1
         clear H1
         replace H:=Option.bind_eq_some_iff.mp H
         obtain ⟨t104,A90,H⟩:=H
         replace H:(if t104=true then ((impl_ValidState.f k1 ((rd_T48 l0 x10_1).f3)).bind fun t105=>(if t105=true then (impl_ValidHistory.l0 k1 l0 (l0.length:Int) (wrap64 (x10_1+1))) else (some false))) else (some false))=some r:=H
         have A9:=Aside0.mk A90
         clear A90
         by_cases c10:t104=true
         ·subst c10
          have H1:((impl_ValidState.f k1 ((rd_T48 l0 x10_1).f3)).bind fun t105=>(if t105=true then (impl_ValidHistory.l0 k1 l0 (l0.length:Int) (wrap64 (x10_1+1))) else (some false)))=some r:=by rw [if_pos rfl] at H;exact H
          clear H
          have H:=H1
          clear H1
          replace H:=Option.bind_eq_some_iff.mp H
          obtain ⟨t105,A110,H⟩:=H
          replace H:(if t105=true then (impl_ValidHistory.l0 k1 l0 (l0.length:Int) (wrap64 (x10_1+1))) else (some false))=some r:=H
          have A11:=Aside0.mk A110
          clear A110
          by_cases c12:t105=true
          ·subst c12
           have H1:(impl_ValidHistory.l0 k1 l0 (l0.length:Int) (wrap64 (x10_1+1)))=some r:=by rw [if_pos rfl] at H;exact H
           clear H
           have H:=H1
           clear H1
           have H':=Aside0.mk H
           clear H
           have p101:0≤(x10_1:Int):=of_decide_eq_true zb
           have q101:x10_1<(l0.length:Int):=of_decide_eq_true zb
           obtain ⟨ad101,A101_3,c101_3,e101,hx101_0,hx101_1,hx101_2,hx101_3,hl101_3,hi101_3⟩:=at_T48 HR0.out x10_1 p101 q101
           cases e101
           replace hx101_0:=(HB.out.cell (World.block_lt_of_cell? w _ hx101_0)).trans hx101_0
           replace hx101_1:=(HB.out.cell (World.block_lt_of_cell? w _ hx101_1)).trans hx101_1
           replace hx101_2:=(HB.out.cell (World.block_lt_of_cell? w _ hx101_2)).trans hx101_2
           replace hx101_3:=(HB.out.cell (World.block_lt_of_cell? w _ hx101_3)).trans hx101_3
           have HR101_3:=Aside0.mk hi101_3
           have HC101_3:=Aside0.mk hl101_3
           clear hi101_3 hl101_3
           replace p101:=eq_true p101
           replace q101:=eq_true q101
           go_wp2_with (first|((with_reducible refine gate_dst (N:=4) rfl ?_);refine box_event ?hg (N:=4) ?hd (cs:=#[.int .i64 0,.int .i64 0,.string (⟨#[]⟩:ByteArray),.slice none 0 0]) (t:=48) ?hr ?_;(case hd=>rfl);(case hg=>rfl);(case hr=>exact zv);intro gb102 hg w13 hbox hb;have n0_:=Aside0.mk (below_step za hb);have n1_:=Aside0.mk (hbox);have n2_:=Aside0.mk ((by rw [hg];exact (below_size za):w.heap.size≤gb102));have n3_:=Aside0.mk ((by rw [hg];exact (below_size za):w.heap.size≤gb102));clear HB;have HB:=n0_;have BK102:=n1_;have GW102:=n2_;have GE102:=n3_;clear n0_ n1_ n2_ n3_;clear hb hbox hg;have hcz14_0:w13.cell? ⟨gb102,0,none⟩=some (.int .i64 0):=(blk_cell BK102.out 0).trans rfl;have hcz14_1:w13.cell? ⟨gb102,1,none⟩=some (.int .i64 0):=(blk_cell BK102.out 1).trans rfl;have hcz14_2:w13.cell? ⟨gb102,2,none⟩=some (.string (⟨#[]⟩:ByteArray)):=(blk_cell BK102.out 2).trans rfl;have hcz14_3:w13.cell? ⟨gb102,3,none⟩=some (.slice none 0 0):=(blk_cell BK102.out 3).trans rfl;have hfz14_0:=blk_frozen BK102.out 0;have hfz14_1:=blk_frozen BK102.out 1;have hfz14_2:=blk_frozen BK102.out 2;have hfz14_3:=blk_frozen BK102.out 3)|(go_at_call 37;(with_reducible refine (impl_within.calls ((rd_T48 l0 x10_1).f1) 0 x10_1 true _ A7.out).mono ?_);rintro e w' ⟨rfl,⟨nd,rfl⟩⟩)|(go_at_call 36;(with_reducible refine (impl_memoValid.calls k1 ((rd_T48 l0 x10_1).f2) true _ A9.out).mono ?_);rintro e w' ⟨rfl,⟨nd,rfl⟩⟩)|(go_at_call 24;(with_reducible refine (impl_ValidState.calls k1 _ _ ((rd_T48 l0 x10_1).f3) true _ ?side1 ?side2 A11.out).mono ?_);(case side1=>exact Kd.C_below HR101_3.out zk);(case side2=>exact HC101_3.out);rintro e w15 ⟨rfl,hb⟩;replace BK102:=Aside0.mk (blk_below (g:=gb102) (o:=.cells #[.int .i64 ((rd_T48 l0 x10_1).f0),.int .i64 ((rd_T48 l0 x10_1).f1),.string ((rd_T48 l0 x10_1).f2),.slice A101_3 ((rd_T48 l0 x10_1).f3).length c101_3] 48 (0,0)) (by (with_reducible repeat (first|refine blk_drewN ?_ _|refine blk_drew ?_|refine blk_alloc ?_ _));refine blk_put (cs:=#[.int .i64 ((rd_T48 l0 x10_1).f0),.int .i64 ((rd_T48 l0 x10_1).f1),.string ((rd_T48 l0 x10_1).f2),.slice none 0 0]) ?_ 3 _ rfl;(with_reducible repeat (first|refine blk_drewN ?_ _|refine blk_drew ?_|refine blk_alloc ?_ _));refine blk_put (cs:=#[.int .i64 ((rd_T48 l0 x10_1).f0),.int .i64 ((rd_T48 l0 x10_1).f1),.string (⟨#[]⟩:ByteArray),.slice none 0 0]) ?_ 2 _ rfl;(with_reducible repeat (first|refine blk_drewN ?_ _|refine blk_drew ?_|refine blk_alloc ?_ _));refine blk_put (cs:=#[.int .i64 ((rd_T48 l0 x10_1).f0),.int .i64 0,.string (⟨#[]⟩:ByteArray),.slice none 0 0]) ?_ 1 _ rfl;(with_reducible repeat (first|refine blk_drewN ?_ _|refine blk_drew ?_|refine blk_alloc ?_ _));refine blk_put (cs:=#[.int .i64 0,.int .i64 0,.string (⟨#[]⟩:ByteArray),.slice none 0 0]) ?_ 0 _ rfl;(with_reducible repeat (first|refine blk_drewN ?_ _|refine blk_drew ?_|refine blk_alloc ?_ _));exact BK102.out) hb);replace HB:=Aside0.mk (below_step zk hb);(try clear hb);(try clear hb2);(try clear hk);(try clear hi)))
           go_roundg k1
           case measure=>have:=HK1.out;omega
           case rel=>exact ⟨(wrap64 (x10_1+1)),zi,H',⟨zci⟩,⟨zk⟩⟩
          ·replace c12:=Bool.eq_false_iff.mpr c12
           subst c12
           have H1:(some false)=some r:=by rw [if_neg (show ¬ (false=true) by decide)] at H;exact H
           clear H
           have H:=H1
           clear H1
           obtain rfl:=Option.some.inj H
           have p101:0≤(x10_1:Int):=of_decide_eq_true zb
           have q101:x10_1<(l0.length:Int):=of_decide_eq_true zb
           obtain ⟨ad101,A101_3,c101_3,e101,hx101_0,hx101_1,hx101_2,hx101_3,hl101_3,hi101_3⟩:=at_T48 HR0.out x10_1 p101 q101
           cases e101
           replace hx101_0:=(HB.out.cell (World.block_lt_of_cell? w _ hx101_0)).trans hx101_0
           replace hx101_1:=(HB.out.cell (World.block_lt_of_cell? w _ hx101_1)).trans hx101_1
           replace hx101_2:=(HB.out.cell (World.block_lt_of_cell? w _ hx101_2)).trans hx101_2
           replace hx101_3:=(HB.out.cell (World.block_lt_of_cell? w _ hx101_3)).trans hx101_3
           have HR101_3:=Aside0.mk hi101_3
           have HC101_3:=Aside0.mk hl101_3
           clear hi101_3 hl101_3
           replace p101:=eq_true p101
           replace q101:=eq_true q101
           go_wp2_with (first|((with_reducible refine gate_dst (N:=4) rfl ?_);refine box_event ?hg (N:=4) ?hd (cs:=#[.int .i64 0,.int .i64 0,.string (⟨#[]⟩:ByteArray),.slice none 0 0]) (t:=48) ?hr ?_;(case hd=>rfl);(case hg=>rfl);(case hr=>exact zv);intro gb102 hg w16 hbox hb;have n0_:=Aside0.mk (below_step za hb);have n1_:=Aside0.mk (hbox);have n2_:=Aside0.mk ((by rw [hg];exact (below_size za):w.heap.size≤gb102));have n3_:=Aside0.mk ((by rw [hg];exact (below_size za):w.heap.size≤gb102));clear HB;have HB:=n0_;have BK102:=n1_;have GW102:=n2_;have GE102:=n3_;clear n0_ n1_ n2_ n3_;clear hb hbox hg;have hcz17_0:w16.cell? ⟨gb102,0,none⟩=some (.int .i64 0):=(blk_cell BK102.out 0).trans rfl;have hcz17_1:w16.cell? ⟨gb102,1,none⟩=some (.int .i64 0):=(blk_cell BK102.out 1).trans rfl;have hcz17_2:w16.cell? ⟨gb102,2,none⟩=some (.string (⟨#[]⟩:ByteArray)):=(blk_cell BK102.out 2).trans rfl;have hcz17_3:w16.cell? ⟨gb102,3,none⟩=some (.slice none 0 0):=(blk_cell BK102.out 3).trans rfl;have hfz17_0:=blk_frozen BK102.out 0;have hfz17_1:=blk_frozen BK102.out 1;have hfz17_2:=blk_frozen BK102.out 2;have hfz17_3:=blk_frozen BK102.out 3)|(go_at_call 37;(with_reducible refine (impl_within.calls ((rd_T48 l0 x10_1).f1) 0 x10_1 true _ A7.out).mono ?_);rintro e w' ⟨rfl,⟨nd,rfl⟩⟩)|(go_at_call 36;(with_reducible refine (impl_memoValid.calls k1 ((rd_T48 l0 x10_1).f2) true _ A9.out).mono ?_);rintro e w' ⟨rfl,⟨nd,rfl⟩⟩)|(go_at_call 24;(with_reducible refine (impl_ValidState.calls k1 _ _ ((rd_T48 l0 x10_1).f3) false _ ?side1 ?side2 A11.out).mono ?_);(case side1=>exact Kd.C_below HR101_3.out zk);(case side2=>exact HC101_3.out);rintro e w18 ⟨rfl,hb⟩;replace BK102:=Aside0.mk (blk_below (g:=gb102) (o:=.cells #[.int .i64 ((rd_T48 l0 x10_1).f0),.int .i64 ((rd_T48 l0 x10_1).f1),.string ((rd_T48 l0 x10_1).f2),.slice A101_3 ((rd_T48 l0 x10_1).f3).length c101_3] 48 (0,0)) (by (with_reducible repeat (first|refine blk_drewN ?_ _|refine blk_drew ?_|refine blk_alloc ?_ _));refine blk_put (cs:=#[.int .i64 ((rd_T48 l0 x10_1).f0),.int .i64 ((rd_T48 l0 x10_1).f1),.string ((rd_T48 l0 x10_1).f2),.slice none 0 0]) ?_ 3 _ rfl;(with_reducible repeat (first|refine blk_drewN ?_ _|refine blk_drew ?_|refine blk_alloc ?_ _));refine blk_put (cs:=#[.int .i64 ((rd_T48 l0 x10_1).f0),.int .i64 ((rd_T48 l0 x10_1).f1),.string (⟨#[]⟩:ByteArray),.slice none 0 0]) ?_ 2 _ rfl;(with_reducible repeat (first|refine blk_drewN ?_ _|refine blk_drew ?_|refine blk_alloc ?_ _));refine blk_put (cs:=#[.int .i64 ((rd_T48 l0 x10_1).f0),.int .i64 0,.string (⟨#[]⟩:ByteArray),.slice none 0 0]) ?_ 1 _ rfl;(with_reducible repeat (first|refine blk_drewN ?_ _|refine blk_drew ?_|refine blk_alloc ?_ _));refine blk_put (cs:=#[.int .i64 0,.int .i64 0,.string (⟨#[]⟩:ByteArray),.slice none 0 0]) ?_ 0 _ rfl;(with_reducible repeat (first|refine blk_drewN ?_ _|refine blk_drew ?_|refine blk_alloc ?_ _));exact BK102.out) hb);replace HB:=Aside0.mk (below_step zk hb);(try clear hb);(try clear hb2);(try clear hk);(try clear hi)))
           go_ret
           exact ⟨zj,zk⟩
         ·replace c10:=Bool.eq_false_iff.mpr c10
          subst c10
          have H1:(some false)=some r:=by rw [if_neg (show ¬ (false=true) by decide)] at H;exact H
          clear H
          have H:=H1
          clear H1
          obtain rfl:=Option.some.inj H
          have p101:0≤(x10_1:Int):=of_decide_eq_true zb
          have q101:x10_1<(l0.length:Int):=of_decide_eq_true zb
          obtain ⟨ad101,A101_3,c101_3,e101,hx101_0,hx101_1,hx101_2,hx101_3,hl101_3,hi101_3⟩:=at_T48 HR0.out x10_1 p101 q101
          cases e101
          replace hx101_0:=(HB.out.cell (World.block_lt_of_cell? w _ hx101_0)).trans hx101_0
          replace hx101_1:=(HB.out.cell (World.block_lt_of_cell? w _ hx101_1)).trans hx101_1
          replace hx101_2:=(HB.out.cell (World.block_lt_of_cell? w _ hx101_2)).trans hx101_2
          replace hx101_3:=(HB.out.cell (World.block_lt_of_cell? w _ hx101_3)).trans hx101_3
          have HR101_3:=Aside0.mk hi101_3
          have HC101_3:=Aside0.mk hl101_3
          clear hi101_3 hl101_3
          replace p101:=eq_true p101
          replace q101:=eq_true q101
          go_wp2_with (first|((with_reducible refine gate_dst (N:=4) rfl ?_);refine box_event ?hg (N:=4) ?hd (cs:=#[.int .i64 0,.int .i64 0,.string (⟨#[]⟩:ByteArray),.slice none 0 0]) (t:=48) ?hr ?_;(case hd=>rfl);(case hg=>rfl);(case hr=>exact zv);intro gb102 hg w19 hbox hb;have n0_:=Aside0.mk (below_step za hb);have n1_:=Aside0.mk (hbox);have n2_:=Aside0.mk ((by rw [hg];exact (below_size za):w.heap.size≤gb102));have n3_:=Aside0.mk ((by rw [hg];exact (below_size za):w.heap.size≤gb102));clear HB;have HB:=n0_;have BK102:=n1_;have GW102:=n2_;have GE102:=n3_;clear n0_ n1_ n2_ n3_;clear hb hbox hg;have hcz20_0:w19.cell? ⟨gb102,0,none⟩=some (.int .i64 0):=(blk_cell BK102.out 0).trans rfl;have hcz20_1:w19.cell? ⟨gb102,1,none⟩=some (.int .i64 0):=(blk_cell BK102.out 1).trans rfl;have hcz20_2:w19.cell? ⟨gb102,2,none⟩=some (.string (⟨#[]⟩:ByteArray)):=(blk_cell BK102.out 2).trans rfl;have hcz20_3:w19.cell? ⟨gb102,3,none⟩=some (.slice none 0 0):=(blk_cell BK102.out 3).trans rfl;have hfz20_0:=blk_frozen BK102.out 0;have hfz20_1:=blk_frozen BK102.out 1;have hfz20_2:=blk_frozen BK102.out 2;have hfz20_3:=blk_frozen BK102.out 3)|(go_at_call 37;(with_reducible refine (impl_within.calls ((rd_T48 l0 x10_1).f1) 0 x10_1 true _ A7.out).mono ?_);rintro e w' ⟨rfl,⟨nd,rfl⟩⟩)|(go_at_call 36;(with_reducible refine (impl_memoValid.calls k1 ((rd_T48 l0 x10_1).f2) false _ A9.out).mono ?_);rintro e w' ⟨rfl,⟨nd,rfl⟩⟩))
          go_ret
          exact ⟨zj,zk⟩
        ·replace c8:=Bool.eq_false_iff.mpr c8
         subst c8
         have H1:(some false)=some r:=by rw [if_neg (show ¬ (false=true) by decide)] at H;exact H
         clear H
         have H:=H1
         clear H1
         obtain rfl:=Option.some.inj H
         have p101:0≤(x10_1:Int):=of_decide_eq_true zb
         have q101:x10_1<(l0.length:Int):=of_decide_eq_true zb
         obtain ⟨ad101,A101_3,c101_3,e101,hx101_0,hx101_1,hx101_2,hx101_3,hl101_3,hi101_3⟩:=at_T48 HR0.out x10_1 p101 q101
         cases e101
         replace hx101_0:=(HB.out.cell (World.block_lt_of_cell? w _ hx101_0)).trans hx101_0
         replace hx101_1:=(HB.out.cell (World.block_lt_of_cell? w _ hx101_1)).trans hx101_1
         replace hx101_2:=(HB.out.cell (World.block_lt_of_cell? w _ hx101_2)).trans hx101_2
         replace hx101_3:=(HB.out.cell (World.block_lt_of_cell? w _ hx101_3)).trans hx101_3
         have HR101_3:=Aside0.mk hi101_3
         have HC101_3:=Aside0.mk hl101_3
         clear hi101_3 hl101_3
         replace p101:=eq_true p101
         replace q101:=eq_true q101
         go_wp2_with (first|((with_reducible refine gate_dst (N:=4) rfl ?_);refine box_event ?hg (N:=4) ?hd (cs:=#[.int .i64 0,.int .i64 0,.string (⟨#[]⟩:ByteArray),.slice none 0 0]) (t:=48) ?hr ?_;(case hd=>rfl);(case hg=>rfl);(case hr=>exact zv);intro gb102 hg w21 hbox hb;have n0_:=Aside0.mk (below_step za hb);have n1_:=Aside0.mk (hbox);have n2_:=Aside0.mk ((by rw [hg];exact (below_size za):w.heap.size≤gb102));have n3_:=Aside0.mk ((by rw [hg];exact (below_size za):w.heap.size≤gb102));clear HB;have HB:=n0_;have BK102:=n1_;have GW102:=n2_;have GE102:=n3_;clear n0_ n1_ n2_ n3_;clear hb hbox hg;have hcz22_0:w21.cell? ⟨gb102,0,none⟩=some (.int .i64 0):=(blk_cell BK102.out 0).trans rfl;have hcz22_1:w21.cell? ⟨gb102,1,none⟩=some (.int .i64 0):=(blk_cell BK102.out 1).trans rfl;have hcz22_2:w21.cell? ⟨gb102,2,none⟩=some (.string (⟨#[]⟩:ByteArray)):=(blk_cell BK102.out 2).trans rfl;have hcz22_3:w21.cell? ⟨gb102,3,none⟩=some (.slice none 0 0):=(blk_cell BK102.out 3).trans rfl;have hfz22_0:=blk_frozen BK102.out 0;have hfz22_1:=blk_frozen BK102.out 1;have hfz22_2:=blk_frozen BK102.out 2;have hfz22_3:=blk_frozen BK102.out 3)|(go_at_call 37;(with_reducible refine (impl_within.calls ((rd_T48 l0 x10_1).f1) 0 x10_1 false _ A7.out).mono ?_);rintro e w' ⟨rfl,⟨nd,rfl⟩⟩))
         go_ret
         exact ⟨zj,zk⟩
       ·rw [if_neg c6] at H
        have c6b0:(((rd_T48 l0 x10_1).f0) == (wrap64 (x10_1+1)))=false:=beq_eq_false_iff_ne.mpr c6
        have c6b1:(((rd_T48 l0 x10_1).f0) != (wrap64 (x10_1+1)))=true:=bne_iff_ne.mpr c6
        obtain rfl:=Option.some.inj H
        have p101:0≤(x10_1:Int):=of_decide_eq_true zb
        have q101:x10_1<(l0.length:Int):=of_decide_eq_true zb
        obtain ⟨ad101,A101_3,c101_3,e101,hx101_0,hx101_1,hx101_2,hx101_3,hl101_3,hi101_3⟩:=at_T48 HR0.out x10_1 p101 q101
        cases e101
        replace hx101_0:=(HB.out.cell (World.block_lt_of_cell? w _ hx101_0)).trans hx101_0
        replace hx101_1:=(HB.out.cell (World.block_lt_of_cell? w _ hx101_1)).trans hx101_1
        replace hx101_2:=(HB.out.cell (World.block_lt_of_cell? w _ hx101_2)).trans hx101_2
        replace hx101_3:=(HB.out.cell (World.block_lt_of_cell? w _ hx101_3)).trans hx101_3
        have HR101_3:=Aside0.mk hi101_3
        have HC101_3:=Aside0.mk hl101_3
        clear hi101_3 hl101_3
        replace p101:=eq_true p101
        replace q101:=eq_true q101
        go_wp2_with (first|((with_reducible refine gate_dst (N:=4) rfl ?_);refine box_event ?hg (N:=4) ?hd (cs:=#[.int .i64 0,.int .i64 0,.string (⟨#[]⟩:ByteArray),.slice none 0 0]) (t:=48) ?hr ?_;(case hd=>rfl);(case hg=>rfl);(case hr=>exact zv);intro gb102 hg w23 hbox hb;have n0_:=Aside0.mk (below_step za hb);have n1_:=Aside0.mk (hbox);have n2_:=Aside0.mk ((by rw [hg];exact (below_size za):w.heap.size≤gb102));have n3_:=Aside0.mk ((by rw [hg];exact (below_size za):w.heap.size≤gb102));clear HB;have HB:=n0_;have BK102:=n1_;have GW102:=n2_;have GE102:=n3_;clear n0_ n1_ n2_ n3_;clear hb hbox hg;have hcz24_0:w23.cell? ⟨gb102,0,none⟩=some (.int .i64 0):=(blk_cell BK102.out 0).trans rfl;have hcz24_1:w23.cell? ⟨gb102,1,none⟩=some (.int .i64 0):=(blk_cell BK102.out 1).trans rfl;have hcz24_2:w23.cell? ⟨gb102,2,none⟩=some (.string (⟨#[]⟩:ByteArray)):=(blk_cell BK102.out 2).trans rfl;have hcz24_3:w23.cell? ⟨gb102,3,none⟩=some (.slice none 0 0):=(blk_cell BK102.out 3).trans rfl;have hfz24_0:=blk_frozen BK102.out 0;have hfz24_1:=blk_frozen BK102.out 1;have hfz24_2:=blk_frozen BK102.out 2;have hfz24_3:=blk_frozen BK102.out 3))
        go_ret
        exact ⟨zj,zk⟩
      ·rw [if_neg c5] at H
       exact absurd H zca
     ·rw [if_neg c4] at H
      exact absurd H zca
    ·rw [if_neg c3] at H
     have c3b0:decide (x10_1<(l0.length:Int))=false:=decide_eq_false c3
     clear c3
     obtain rfl:=Option.some.inj H
     go_wp2
     go_ret
     exact ⟨zj,za⟩
end Go.Proofs.YtocegmkifmdlcaaDoor.P

namespace Go.Proofs.YtocegmkifmdlcaaDoor.P
open Go.RowKit Go.Proofs.YtocegmkifmdlcaaDoorW.PrintWords Go.Proofs.YtocegmkifmdlcaaDoorW.PrintLast Go.Proofs.YtocegmkifmdlcaaDoorW.PrintMore
attribute [local go_sem] max2_int min2_int max_two min_two max_three min_three max_four min_four str_leq str_gtr str_geq
set_option linter.unusedVariables false
set_option linter.unusedSimpArgs false
set_option maxHeartbeats 1600000
set_option maxRecDepth 100000
def slices_Clone_S_impl_Version.f (l0:List S48):Option (List S48):=if l0.length<1000000000000 then some l0 else none
theorem slices_Clone_S_impl_Version.calls (A0:Option Addr) (c0:Nat) (l0:List S48) (r:List S48) (w:World) (hr0:Kd.C k48 w A0 l0.length l0) (hc0:l0.length≤c0) (h:slices_Clone_S_impl_Version.f l0=some r) :
 Calls Tryd.prog 58 #[.slice A0 l0.length c0] w fun e w'=>∃v0_:Value,e = .returned (v0_)∧Kd.N k48 48 w' w.heap.size (fun _=>True) v0_ r∧Below w.heap.size w w':=by
 have q22:∀(w:World) (a:Option Addr) (n c n' c':Nat),(binOp .eql 24 (.slice a n c) (.slice none n' c')).run Tryd.prog w = .ok (.bool a.isNone) w:=fun w a n c n' c'=>Lib.run_eql_slice_nil w _ _ a n c n' c' Tryd.underlying24
 unfold slices_Clone_S_impl_Version.f at h
 by_cases hl:l0.length<1000000000000
 rotate_left
 ·rw [if_neg hl] at h;exact absurd h zca
 rw [if_pos hl] at h
 obtain rfl:=Option.some.inj h
 have HL:=Aside0.mk hl
 clear h hl
 cases A0 with
 | none=>
  have h0:l0.length=0:=by
   rcases Nat.eq_zero_or_pos l0.length with h0|h0
   ·exact h0
   ·obtain ⟨ad,h,_⟩:=hr0.2.2 h0
    cases h
  obtain rfl:=List.eq_nil_of_length_eq_zero h0
  clear hr0 hc0 h0
  go_enter Tryd.func58,Tryd.ntmps58
  go_wp2_with fail
  go_ret
  exact ⟨_,rfl,Kd.N_nil _ _ _ _ _,Below.refl _ _⟩
 | some ad=>
  have HR0:=Aside0.mk hr0
  have HRW:=Aside0.mk (show Kd.R k48 48 (w.alloc (.cells #[] 48)) w.heap.size (fun _=>True) (.slice (some ⟨w.heap.size,0,none⟩) 0 0) [] from ⟨fun _ _=>trivial,[],World.ownsRow_made w #[] 0 (Nat.le_refl _) (Nat.zero_le _) rfl,Reps.none _ _⟩)
  have HB:=Aside0.mk (Below.refl w.heap.size w)
  clear hr0 hc0
  go_enter Tryd.func58,Tryd.ntmps58
  go_wp2_with (first
   | ((with_reducible refine gate_builtin (b:=.append) (xs:=#[.tmp 5,.tmp 6]) rfl ?_)
      at_builtin
      refine Kd.N_append_rows k48 (w0:=w) w.heap.size rfl (.tmp 5) (.tmp 6) 24 48 (.agg #[(.int .i64 0),(.int .i64 0),(.string ⟨#[]⟩),(.slice none 0 0)]) 56 rfl Tryd.underlying24 info48 rfl zbp zbn (.slice (some ⟨w.heap.size,0,none⟩) 0 0) [] l0 _ _ _ (fun _=>True) (fun k_=>k_<w.heap.size) rfl rfl ?aO ?aR ?aK ?aF ?aB ?aS ?aL ?_
      (case aO=>exact Kd.R_N HRW.out)
      (case aR=>exact Kd.F_alloc (Kd.C_F k48_heap HR0.out) _)
      (case aK=>exact (fun k_ hk_=>⟨trivial,fun he_=>by simp [Value.ownBlock] at he_;omega⟩))
      (case aF=>exact (fun _ _=>trivial))
      (case aB=>exact (below_alloc HB.out _))
      (case aS=>exact (below_alloc HB.out _).size)
      (case aL=>have h_:=HL.out;simp only [List.length_nil];omega)
      intro v102 w8 ho hb hg hat
      have HO:=Aside0.mk ho
      have HB2:=Aside0.mk hb
      clear ho hb hg hat))
  go_ret
  exact ⟨_,rfl,by simpa using HO.out,HB2.out⟩
end Go.Proofs.YtocegmkifmdlcaaDoor.P

namespace Go.Proofs.YtocegmkifmdlcaaDoor.P
open Go.RowKit Go.Proofs.YtocegmkifmdlcaaDoorW.PrintWords Go.Proofs.YtocegmkifmdlcaaDoorW.PrintLast Go.Proofs.YtocegmkifmdlcaaDoorW.PrintMore
attribute [local go_sem] max2_int min2_int max_two min_two max_three min_three max_four min_four str_leq str_gtr str_geq
set_option linter.unusedVariables false
set_option linter.unusedSimpArgs false
set_option maxHeartbeats 4000000
set_option maxRecDepth 100000
def impl_withVersion.new (l0:List S48) (a1:Int) (a2:ByteArray) (l3:List S57):S48:=⟨(l0.length:Int)+1,a1,a2,l3⟩
def impl_withVersion.f (l0:List S48) (a1:Int) (a2:ByteArray) (l3:List S57):Option (List S48 × Int):=
 if (l0.length:Int)=32 then some ([],5) else if l0.length<1000000 then (if ((l0++[impl_withVersion.new l0 a1 a2 l3]).all fun x=>decide (x.f3.length<1000000000000))=true then some (l0++[impl_withVersion.new l0 a1 a2 l3],0) else none) else none
theorem impl_withVersion.calls (A0:Option Addr) (c0:Nat) (l0:List S48) (a1:Int) (a2:ByteArray) (A3:Option Addr) (c3:Nat) (l3:List S57) (r1:List S48) (r2:Int) (w:World) (hr0:Kd.C k48 w A0 l0.length l0) (hc0:l0.length≤c0) (hr3:Kd.C k57 w A3 l3.length l3) (hc3:l3.length≤c3) (h:impl_withVersion.f l0 a1 a2 l3=some (r1,r2)) :
 Calls Tryd.prog 38 #[.slice A0 l0.length c0,.int .i64 a1,.string a2,.slice A3 l3.length c3] w fun e w'=>∃v0_:Value,e = .returned (.tuple #[v0_,.int .i64 r2])∧Kd.S k48 48 w' w.heap.size (fun _=>True) v0_ r1∧Below w.heap.size w w':=by
 have HR0:=Aside0.mk hr0
 have HC0:=Aside0.mk hc0
 have HR3:=Aside0.mk hr3
 have HC3:=Aside0.mk hc3
 have HB:=Aside0.mk (Below.refl w.heap.size w)
 clear hr0 hc0 hr3 hc3
 unfold impl_withVersion.f at h
 by_cases h32:(l0.length:Int)=32
 ·rw [if_pos h32] at h
  simp only [Option.some.injEq,Prod.mk.injEq] at h
  obtain ⟨rfl,rfl⟩:=h
  have hb1:((l0.length:Int) == 32)=true:=beq_iff_eq.mpr h32
  have hb2:(l0.length == 32)=true:=beq_iff_eq.mpr zbn
  clear h32
  go_enter Tryd.func38,Tryd.ntmps38
  go_wp2_with fail
  go_ret2
  exact ⟨_,rfl,Kd.S_nil _ _ _ _ _,Below.refl _ _⟩
 rw [if_neg h32] at h
 by_cases hlen:l0.length<1000000
 rotate_left
 ·rw [if_neg hlen] at h;exact absurd h zca
 rw [if_pos hlen] at h
 by_cases hall:((l0++[impl_withVersion.new l0 a1 a2 l3]).all fun x=>decide (x.f3.length<1000000000000))=true
 rotate_left
 ·rw [if_neg hall] at h;exact absurd h zca
 rw [if_pos hall] at h
 simp only [Option.some.injEq,Prod.mk.injEq] at h
 obtain ⟨hr1,rfl⟩:=h
 have hb1:((l0.length:Int) == 32)=false:=beq_eq_false_iff_ne.mpr h32
 have hb2:(l0.length == 32)=false:=beq_eq_false_iff_ne.mpr zbn
 have HLEN:=Aside0.mk hlen
 obtain ⟨T,hT⟩:∃T,T=l0++[impl_withVersion.new l0 a1 a2 l3]:=⟨_,rfl⟩
 rw [←hT] at hall hr1
 have HT:=Aside0.mk hT
 have HALL:=Aside0.mk (fun (j:Nat) (hj:j<T.length)=>show T[j].f3.length<1000000000000 from by
  have:=List.all_eq_true.1 hall T[j] (List.getElem_mem hj)
  simpa using this)
 have HR1:=Aside0.mk hr1
 have HTL:=Aside0.mk (show T.length=l0.length+1 from by rw [hT];simp)
 have hTl:T.length≤1000001:=by rw [hT];simp;omega
 clear h32 hall hr1 hT
 go_enter Tryd.func38,Tryd.ntmps38
 go_wp2_with (first
  | (go_at_call 58
     refine (slices_Clone_S_impl_Version.calls _ _ l0 l0 _ (by exact HR0.out) (by exact HC0.out) (by unfold slices_Clone_S_impl_Version.f;rw [if_pos (by have:=HLEN.out;omega)])).mono ?_
     rintro e w1 ⟨v17,rfl,ho,hb⟩
     have HN:=Aside0.mk ho
     have n0_:=Aside0.mk hb
     clear HB ho hb
     have HB:=n0_
     clear n0_)
  | ((with_reducible refine gate_builtin (b:=.append) (xs:=#[.tmp 17,.tmp 25]) rfl ?_)
     at_builtin
     refine Kd.N_append k48 (w0:=w) w.heap.size rfl (.tmp 17) (.tmp 25) 24 48 (.agg #[(.int .i64 0),(.int .i64 0),(.string ⟨#[]⟩),(.slice none 0 0)]) 56 rfl Tryd.underlying24 info48 rfl zbp zbn v17 l0 (impl_withVersion.new l0 a1 a2 l3) [.int .i64 ((l0.length:Int)+1),.int .i64 a1,.string a2,.slice A3 l3.length c3] (fun _=>True) (fun k_=>k_<w.heap.size) rfl rfl ?aP ?aK ?aF ?aO ?aB ?aS ?aL ?_
     (case aP=>exact k48_mkF _ _ (impl_withVersion.new l0 a1 a2 l3) HC3.out (Kd.F_below (Kd.C_F k57_heap HR3.out) HB.out))
     (case aK=>exact (fun k_ hk_=>⟨trivial,fun he_=>by have h1_:=Kd.N_base HN.out k_ he_.symm;omega⟩))
     (case aF=>exact (fun _ _=>trivial))
     (case aO=>exact HN.out)
     (case aB=>exact HB.out)
     (case aS=>exact HB.out.size)
     (case aL=>have h_:=HLEN.out;omega)
     intro v26 w8 ho hb hg hat
     rw [←HT.out] at ho
     obtain ⟨A26,c26,rfl⟩:=Kd.N_slice ho
     have n0_:=Aside0.mk hb
     have HCT:=Aside0.mk (Kd.N_reads' ho).2.2
     clear HB HN ho hb hg hat
     have HB:=n0_
     clear n0_))
 have HB8:=Aside0.mk (Below.refl w8.heap.size w8)
 have HW8:=Aside0.mk HB.out
 go_loopw [10,28] (fun v10 i wr=>∃k:Nat,k≤T.length∧i = .int .i64 k∧Aside0 (Kd.S k48 48 wr w8.heap.size (fun _=>True) v10 (T.take k))∧Aside0 (Below w8.heap.size w8 wr)) (fun _ i _=>T.length - (intOf i).toNat)
 case atStart=>exact ⟨0,Nat.zero_le _,rfl,⟨by exact Kd.S_nil _ _ _ _ _⟩,HB8⟩
 case round=>
  clear HB HB8
  obtain ⟨k,hk,rfl,HO,HB⟩:=hrel
  by_cases hlt:k<T.length
  ·obtain ⟨ad,A_3,c_3,e0,hx0,hx1,hx2,hx3,hl3,hi3⟩:=at_T48 HCT.out (k:Int) zbn zbn
   subst e0
   replace hx0:=(HB.out.cell (World.block_lt_of_cell? w8 _ hx0)).trans hx0
   (try simp only [Int.toNat_natCast] at hx0)
   replace hx1:=(HB.out.cell (World.block_lt_of_cell? w8 _ hx1)).trans hx1
   (try simp only [Int.toNat_natCast] at hx1)
   replace hx2:=(HB.out.cell (World.block_lt_of_cell? w8 _ hx2)).trans hx2
   (try simp only [Int.toNat_natCast] at hx2)
   replace hx3:=(HB.out.cell (World.block_lt_of_cell? w8 _ hx3)).trans hx3
   (try simp only [Int.toNat_natCast] at hx3)
   have er:(rd_T48 T (k:Int))=T[k]:=by simp [rd_T48,List.getD_eq_getElem?_getD,List.getElem?_eq_getElem hlt]
   have HER:=Aside0.mk er
   have HSM:=Aside0.mk (show (rd_T48 T (k:Int)).f3.length<1000000000000 from by rw [er];exact HALL.out k hlt)
   have HI3:=Aside0.mk (Kd.C_below hi3 HB.out)
   have HL3:=Aside0.mk hl3
   have HU:=Aside0.mk (Kd.S_lt HO.out)
   have HTK:=Aside0.mk (List.take_succ_eq_append_getElem hlt)
   clear er hl3 hi3
   have hd1:decide ((k:Int)<(T.length:Int))=true:=decide_eq_true zbn
   go_wp2_with (first
    | (go_at_call 29
       refine (slices_Clone_S_impl_Setting.calls _ _ (rd_T48 T (k:Int)).f3 (rd_T48 T (k:Int)).f3 _ (by exact Kd.C_alloc HI3.out _) (by exact HL3.out) (by unfold slices_Clone_S_impl_Setting.f;rw [if_pos HSM.out])).mono ?_
       rintro e w9 ⟨v34,rfl,ho,hb⟩
       obtain ⟨A34,c34,rfl⟩:=Kd.R_slice ho
       have hsz:(wr.alloc (.cells #[.int .i64 (rd_T48 T (k:Int)).f0,.int .i64 (rd_T48 T (k:Int)).f1,.string (rd_T48 T (k:Int)).f2,.slice A_3 (rd_T48 T (k:Int)).f3.length c_3] 48)).heap.size=wr.heap.size+1:=by simp
       have HR34:=Aside0.mk (show Kd.R k57 57 w9 w8.heap.size (fun k_=>wr.heap.size<k_) (.slice A34 (rd_T48 T (k:Int)).f3.length c34) (rd_T48 T (k:Int)).f3 from Kd.R_mono (Kd.R_lower (Kd.R_bound ho) (by have h_:=HB.out.size;omega)) (fun k_ hk_=>by have h_:=hk_.2.1;omega))
       have hblk:w9.heap[wr.heap.size]?=some (.cells #[.int .i64 (rd_T48 T (k:Int)).f0,.int .i64 (rd_T48 T (k:Int)).f1,.string (rd_T48 T (k:Int)).f2,.slice A_3 (rd_T48 T (k:Int)).f3.length c_3] 48 (0,0)):=blk_below (blk_new wr _) hb
       have hc3:w9.cell? ⟨wr.heap.size,3,none⟩=some (.slice A_3 (rd_T48 T (k:Int)).f3.length c_3):=(blk_cell hblk 3).trans rfl
       have hf3:w9.frozen? ⟨wr.heap.size,3,none⟩=false:=blk_frozen hblk 3
       have HBLK:=Aside0.mk hblk
       have n0_:=Aside0.mk (Kd.S_below (Kd.S_alloc (Kd.S_mono (Kd.S_bound HO.out) (fun k_ hk_=>(show k_<wr.heap.size from hk_.2.2.1))) _) hb)
       have n1_:=Aside0.mk (below_step (below_alloc HB.out _) hb)
       have n2_:=Aside0.mk HB.out.size
       clear HB HO ho hb hblk hsz
       have HB:=n1_
       have HO:=n0_
       have HSZ:=n2_
       clear n0_ n1_ n2_)
    | ((with_reducible refine gate_store (t:=26) (p:=35) rfl ?_)
       refine store_event (t:=26) (p:=35) (v:=?vo_w10) (w1:=(w9.setCell ⟨wr.heap.size,3,none⟩ (.slice A34 (rd_T48 T (k:Int)).f3.length c34))) ?hg ?ho ?hn ?hr ?_
       (case ho=>rfl)
       (case hg=>rfl)
       (case hn=>rfl)
       (case hr=>exact zv)
       intro w10 hw
       have hblk:w10.heap[wr.heap.size]?=some (.cells #[.int .i64 (rd_T48 T (k:Int)).f0,.int .i64 (rd_T48 T (k:Int)).f1,.string (rd_T48 T (k:Int)).f2,.slice A34 (rd_T48 T (k:Int)).f3.length c34] 48 (0,0)):=by rw [hw];exact blk_put HBLK.out 3 _ rfl
       have hd0:w10.cell? ⟨wr.heap.size,0,none⟩=some (.int .i64 (rd_T48 T (k:Int)).f0):=(blk_cell hblk 0).trans rfl
       have hd1':w10.cell? ⟨wr.heap.size,1,none⟩=some (.int .i64 (rd_T48 T (k:Int)).f1):=(blk_cell hblk 1).trans rfl
       have hd2:w10.cell? ⟨wr.heap.size,2,none⟩=some (.string (rd_T48 T (k:Int)).f2):=(blk_cell hblk 2).trans rfl
       have hd3:w10.cell? ⟨wr.heap.size,3,none⟩=some (.slice A34 (rd_T48 T (k:Int)).f3.length c34):=(blk_cell hblk 3).trans rfl
       have n0_:Aside0 (Kd.S k48 48 w10 w8.heap.size (fun k_=>k_<wr.heap.size) u10 (T.take k)):=⟨by rw [hw];exact Kd.S_far HO.out (p:=⟨wr.heap.size,3,none⟩) (fun k_ hk_=>by show k_≠wr.heap.size;omega) _⟩
       have n1_:Aside0 (Kd.R k57 57 w10 w8.heap.size (fun k_=>wr.heap.size<k_) (.slice A34 (rd_T48 T (k:Int)).f3.length c34) (rd_T48 T (k:Int)).f3):=⟨by rw [hw];exact Kd.R_far HR34.out (p:=⟨wr.heap.size,3,none⟩) (fun k_ hk_=>by show k_≠wr.heap.size;omega) _⟩
       have n2_:Aside0 (Below w8.heap.size w8 w10):=⟨by rw [hw];exact below_set HB.out HSZ.out⟩
       clear HO HR34 HB HBLK hblk hw hc3 hf3
       have HO:=n0_
       have HR34:=n1_
       have HB:=n2_
       clear n0_ n1_ n2_)
    | ((with_reducible refine gate_builtin (b:=.append) (xs:=#[.tmp 36,.tmp 38]) rfl ?_)
       at_builtin
       refine Kd.S_append k48 (w0:=w8) w8.heap.size rfl (.tmp 36) (.tmp 38) 24 48 (.agg #[(.int .i64 0),(.int .i64 0),(.string ⟨#[]⟩),(.slice none 0 0)]) 56 rfl Tryd.underlying24 info48 rfl zbp zbn u10 (T.take k) (rd_T48 T (k:Int)) [.int .i64 (rd_T48 T (k:Int)).f0,.int .i64 (rd_T48 T (k:Int)).f1,.string (rd_T48 T (k:Int)).f2,.slice A34 (rd_T48 T (k:Int)).f3.length c34] (fun _=>True) (fun k_=>some k_=(.slice A34 (rd_T48 T (k:Int)).f3.length c34:Value).ownBlock) rfl rfl ?aP ?aK ?aF ?aO ?aB ?aS ?aL ?_
       (case aP=>exact k48_mkM _ _ _ (rd_T48 T (k:Int)) (Kd.R_tight rfl HR34.out))
       (case aK=>exact (fun k_ hk_=>⟨trivial,fun he_=>by have h1_:=HU.out k_ he_.symm;have h2_:=HR34.out.1 k_ hk_.symm;omega⟩))
       (case aF=>exact (fun _ _=>trivial))
       (case aO=>exact (Kd.S_mono HO.out (fun k_ hk_=>⟨trivial,fun he_=>by have h2_:=HR34.out.1 k_ he_.symm;omega⟩)))
       (case aB=>exact HB.out)
       (case aS=>exact HB.out.size)
       (case aL=>rw [List.length_take];omega)
       intro v102 w11 ho hb hg hat
       have n0_:=Aside0.mk hb
       have n1_:=Aside0.mk ho
       clear HB HO ho hb hg hat
       have HB:=n0_
       have HO:=n1_
       clear n0_ n1_))
   go_roundw
   case rel=>
    refine ⟨k+1,zbn,by go_num,⟨?_⟩,HB⟩
    rw [HTK.out,←HER.out];exact HO.out
   case measure=>simp [intOf];omega
  ·have hkl:k=T.length:=by omega
   have hd1:decide ((k:Int)<(T.length:Int))=false:=decide_eq_false zbn
   have hd2:decide (k<T.length)=false:=decide_eq_false zbn
   have HKL:=Aside0.mk hkl
   clear hkl
   go_wp2_with fail
   go_ret2
   have h9:=HO.out
   rw [HKL.out,List.take_length,HR1.out] at h9
   exact ⟨_,rfl,Kd.S_lower h9 HW8.out.size,below_step HW8.out HB.out⟩
end Go.Proofs.YtocegmkifmdlcaaDoor.P

namespace Go.Proofs.YtocegmkifmdlcaaDoor.P
open Go.RowKit Go.Proofs.YtocegmkifmdlcaaDoorW.PrintWords Go.Proofs.YtocegmkifmdlcaaDoorW.PrintLast Go.Proofs.YtocegmkifmdlcaaDoorW.PrintMore
attribute [local go_sem] max2_int min2_int max_two min_two max_three min_three max_four min_four str_leq str_gtr str_geq
set_option linter.unusedVariables false
set_option linter.unusedSimpArgs false
def impl_CommitState.j0:Nat→List (S48)→Int→ByteArray→List (S57)→Bool→Option ((List (S48)) × Int)
 | 0,_,_,_,_,_=>none
 | k+1,x0,x1,x2,x3,x10=>if x10=true then (some (([]:List (S48)),1)) else ((impl_within.f x1 0 (x0.length:Int)).bind fun t104=>(if t104=true then ((impl_withVersion.f x0 x1 x2 x3).bind fun bt105=>(some (bt105.1,bt105.2))) else (some (([]:List (S48)),3))))
def impl_CommitState.f (k:Nat) (l0:List (S48)) (a1:Int) (a2:ByteArray) (l3:List (S57)):Option ((List (S48)) × Int):=(impl_ValidHistory.f k l0).bind fun t101=>(if t101=true then ((impl_memoValid.f k a2).bind fun t102=>(if t102=true then ((impl_ValidState.f k l3).bind fun t103=>(impl_CommitState.j0 k l0 a1 a2 l3 (!t103))) else (impl_CommitState.j0 k l0 a1 a2 l3 true))) else (impl_CommitState.j0 k l0 a1 a2 l3 true))
set_option maxHeartbeats 8000000 in
set_option maxRecDepth 100000 in
theorem impl_CommitState.calls (k:Nat) (A0:Option Addr) (c0:Nat) (l0:List (S48)) (a1:Int) (a2:ByteArray) (A3:Option Addr) (c3:Nat) (l3:List (S57)) (r1:List (S48)) (r2:Int) (w:World) (hr0:Kd.C k48 w A0 l0.length l0) (hc0:l0.length≤c0) (hr3:Kd.C k57 w A3 l3.length l3) (hc3:l3.length≤c3) (h:impl_CommitState.f k l0 a1 a2 l3=some (r1,r2)) :
 Calls Tryd.prog 12 #[.slice A0 l0.length c0,.int .i64 a1,.string a2,.slice A3 l3.length c3] w fun e w'=>∃v0_:Value,e = .returned (.tuple #[v0_,.int .i64 r2])∧Kd.S k48 48 w' w.heap.size (fun _=>True) v0_ r1∧Below w.heap.size w w':=by
 have HR0:=Aside0.mk hr0
 have HC0:=Aside0.mk hc0
 clear hr0 hc0
 have HR3:=Aside0.mk hr3
 have HC3:=Aside0.mk hc3
 clear hr3 hc3
 have HB:=Aside0.mk (Below.refl w.heap.size w)
 have H:((impl_ValidHistory.f k l0).bind fun t101=>(if t101=true then ((impl_memoValid.f k a2).bind fun t102=>(if t102=true then ((impl_ValidState.f k l3).bind fun t103=>(impl_CommitState.j0 k l0 a1 a2 l3 (!t103))) else (impl_CommitState.j0 k l0 a1 a2 l3 true))) else (impl_CommitState.j0 k l0 a1 a2 l3 true)))=some (r1,r2):=h
 clear h
 have HC5:=Aside0.mk H
 clear H
 go_enter Tryd.func12,Tryd.ntmps12
 go_upto_region 1 with (fail)
 go_cut [10] (fun v10 wc=>∃(kq:Nat) (x10_4:Bool),v10 = .bool x10_4∧Aside0 (impl_CommitState.j0 kq l0 a1 a2 l3 x10_4=some (r1,r2))∧Aside0 (kq≤k)∧Aside0 (Below w.heap.size w wc))
 case first=>
  have H:=HC5.out
  clear HC5
  replace H:=Option.bind_eq_some_iff.mp H
  obtain ⟨t101,A60,H⟩:=H
  replace H:(if t101=true then ((impl_memoValid.f k a2).bind fun t102=>(if t102=true then ((impl_ValidState.f k l3).bind fun t103=>(impl_CommitState.j0 k l0 a1 a2 l3 (!t103))) else (impl_CommitState.j0 k l0 a1 a2 l3 true))) else (impl_CommitState.j0 k l0 a1 a2 l3 true))=some (r1,r2):=H
  have A6:=Aside0.mk A60
  clear A60
  by_cases c7:t101=true
  ·subst c7
   have H1:((impl_memoValid.f k a2).bind fun t102=>(if t102=true then ((impl_ValidState.f k l3).bind fun t103=>(impl_CommitState.j0 k l0 a1 a2 l3 (!t103))) else (impl_CommitState.j0 k l0 a1 a2 l3 true)))=some (r1,r2):=by rw [if_pos rfl] at H;exact H
   clear H
   have H:=H1
   clear H1
   replace H:=Option.bind_eq_some_iff.mp H
   obtain ⟨t102,A80,H⟩:=H
   replace H:(if t102=true then ((impl_ValidState.f k l3).bind fun t103=>(impl_CommitState.j0 k l0 a1 a2 l3 (!t103))) else (impl_CommitState.j0 k l0 a1 a2 l3 true))=some (r1,r2):=H
   have A8:=Aside0.mk A80
   clear A80
   by_cases c9:t102=true
   ·subst c9
    have H1:((impl_ValidState.f k l3).bind fun t103=>(impl_CommitState.j0 k l0 a1 a2 l3 (!t103)))=some (r1,r2):=by rw [if_pos rfl] at H;exact H
    clear H
    have H:=H1
    clear H1
    replace H:=Option.bind_eq_some_iff.mp H
    obtain ⟨t103,A100,H⟩:=H
    replace H:(impl_CommitState.j0 k l0 a1 a2 l3 (!t103))=some (r1,r2):=H
    have A10:=Aside0.mk A100
    clear A100
    have H':=Aside0.mk H
    clear H
    go_wp2_with (first|((with_reducible refine gate_callee (f:=35) rfl ?_);refine goesL_ (some 12) rfl rfl Tryd.func35 zaq rfl #[.slice A0 l0.length c0] rfl zd ?_;(with_reducible refine (impl_ValidHistory.calls k _ _ l0 true _ ?side1 ?side2 A6.out).mono ?_);(case side1=>exact zm);(case side2=>exact HC0.out);rintro e w11 ⟨rfl,hb⟩;refine ⟨_,rfl,?_⟩;replace HB:=Aside0.mk (below_step za hb);(try clear hb);(try clear hb2);(try clear hk);(try clear hi))|(go_at_call 36;(with_reducible refine (impl_memoValid.calls k a2 true _ A8.out).mono ?_);rintro e w' ⟨rfl,⟨nd,rfl⟩⟩)|(go_at_call 24;(with_reducible refine (impl_ValidState.calls k _ _ l3 t103 _ ?side1 ?side2 A10.out).mono ?_);(case side1=>repeat (first|exact (Kd.C_below HR3.out za)|(with_reducible refine Kd.C_alloc ?_ _)|(with_reducible refine Kd.C_drewN ?_ _)|(with_reducible refine Kd.C_drew ?_)));(case side2=>exact HC3.out);rintro e w12 ⟨rfl,hb⟩;replace HB:=Aside0.mk (below_step za hb);(try clear hb);(try clear hb2);(try clear hk);(try clear hi)))
    go_meet
    case rel=>exact ⟨_,(!t103),zi,H',⟨zcj⟩,⟨za⟩⟩
   ·replace c9:=Bool.eq_false_iff.mpr c9
    subst c9
    have H1:(impl_CommitState.j0 k l0 a1 a2 l3 true)=some (r1,r2):=by rw [if_neg (show ¬ (false=true) by decide)] at H;exact H
    clear H
    have H:=H1
    clear H1
    have H':=Aside0.mk H
    clear H
    go_wp2_with (first|((with_reducible refine gate_callee (f:=35) rfl ?_);refine goesL_ (some 12) rfl rfl Tryd.func35 zaq rfl #[.slice A0 l0.length c0] rfl zd ?_;(with_reducible refine (impl_ValidHistory.calls k _ _ l0 true _ ?side1 ?side2 A6.out).mono ?_);(case side1=>exact zm);(case side2=>exact HC0.out);rintro e w13 ⟨rfl,hb⟩;refine ⟨_,rfl,?_⟩;replace HB:=Aside0.mk (below_step za hb);(try clear hb);(try clear hb2);(try clear hk);(try clear hi))|(go_at_call 36;(with_reducible refine (impl_memoValid.calls k a2 false _ A8.out).mono ?_);rintro e w' ⟨rfl,⟨nd,rfl⟩⟩))
    go_meet
    case rel=>exact ⟨_,(true),zi,H',⟨zcj⟩,⟨za⟩⟩
  ·replace c7:=Bool.eq_false_iff.mpr c7
   subst c7
   have H1:(impl_CommitState.j0 k l0 a1 a2 l3 true)=some (r1,r2):=by rw [if_neg (show ¬ (false=true) by decide)] at H;exact H
   clear H
   have H:=H1
   clear H1
   have H':=Aside0.mk H
   clear H
   go_wp2_with (first|((with_reducible refine gate_callee (f:=35) rfl ?_);refine goesL_ (some 12) rfl rfl Tryd.func35 zaq rfl #[.slice A0 l0.length c0] rfl zd ?_;(with_reducible refine (impl_ValidHistory.calls k _ _ l0 false _ ?side1 ?side2 A6.out).mono ?_);(case side1=>exact zm);(case side2=>exact HC0.out);rintro e w14 ⟨rfl,hb⟩;refine ⟨_,rfl,?_⟩;replace HB:=Aside0.mk (below_step za hb);(try clear hb);(try clear hb2);(try clear hk);(try clear hi)))
   go_meet
   case rel=>exact ⟨_,(true),zi,H',⟨zcj⟩,⟨za⟩⟩
 case rest=>
  clear HC5
  try clear c1
  try clear p2
  try clear c3
  try clear c7
  try clear c9
  try clear c12
  obtain ⟨kq,x10_4,rfl,HA,HJ4,HB⟩:=hcut
  cases kq with
  | zero=>exact absurd HA.out (by simp [impl_CommitState.j0])
  | succ kj4=>
   have H:=HA.out
   clear HA
   simp only [impl_CommitState.j0] at H
   by_cases c15:x10_4=true
   ·subst c15
    have H1:(some (([]:List (S48)),1))=some (r1,r2):=by rw [if_pos rfl] at H;exact H
    clear H
    have H:=H1
    clear H1
    simp only [Option.some.injEq,Prod.mk.injEq] at H
    obtain ⟨rfl,rfl⟩:=H
    go_wp2
    go_ret2
    exact ⟨_,zj,by first|exact Kd.S_nil _ _ _ _ _|exact Kd.N_nil _ _ _ _ _|exact Kd.V_nil _ _ _ _ _|exact Kd.Q_nil _ _ _ _ _|exact Kd.R_nil _ _ _ _ _,za⟩
   ·replace c15:=Bool.eq_false_iff.mpr c15
    subst c15
    have H1:((impl_within.f a1 0 (l0.length:Int)).bind fun t104=>(if t104=true then ((impl_withVersion.f l0 a1 a2 l3).bind fun bt105=>(some (bt105.1,bt105.2))) else (some (([]:List (S48)),3))))=some (r1,r2):=by rw [if_neg (show ¬ (false=true) by decide)] at H;exact H
    clear H
    have H:=H1
    clear H1
    replace H:=Option.bind_eq_some_iff.mp H
    obtain ⟨t104,A160,H⟩:=H
    replace H:(if t104=true then ((impl_withVersion.f l0 a1 a2 l3).bind fun bt105=>(some (bt105.1,bt105.2))) else (some (([]:List (S48)),3)))=some (r1,r2):=H
    have A16:=Aside0.mk A160
    clear A160
    by_cases c17:t104=true
    ·subst c17
     have H1:((impl_withVersion.f l0 a1 a2 l3).bind fun bt105=>(some (bt105.1,bt105.2)))=some (r1,r2):=by rw [if_pos rfl] at H;exact H
     clear H
     have H:=H1
     clear H1
     replace H:=Option.bind_eq_some_iff.mp H
     obtain ⟨⟨t105,t106⟩,A180,H⟩:=H
     replace H:(some (t105,t106))=some (r1,r2):=H
     have A18:=Aside0.mk A180
     clear A180
     simp only [Option.some.injEq,Prod.mk.injEq] at H
     obtain ⟨rfl,rfl⟩:=H
     go_wp2_with (first|((with_reducible refine gate_callee (f:=37) rfl ?_);refine goesL_ (some 28) rfl rfl Tryd.func37 zaq rfl #[.int .i64 a1,.int .i64 0,.int .i64 (l0.length:Int)] rfl zd ?_;(with_reducible refine (impl_within.calls a1 0 (l0.length:Int) true _ A16.out).mono ?_);rintro e w' ⟨rfl,⟨nd,rfl⟩⟩;refine ⟨_,rfl,?_⟩)|((with_reducible refine gate_callee (f:=38) rfl ?_);refine goesL_ (some 34) rfl rfl Tryd.func38 zaq rfl #[.slice A0 l0.length c0,.int .i64 a1,.string a2,.slice A3 l3.length c3] rfl zd ?_;(with_reducible refine (impl_withVersion.calls _ _ l0 a1 a2 _ _ l3 t105 t106 _ ?side1 ?side2 ?side3 ?side4 A18.out).mono ?_);(case side1=>repeat (first|exact (Kd.C_below HR0.out za)|(with_reducible refine Kd.C_alloc ?_ _)|(with_reducible refine Kd.C_drewN ?_ _)|(with_reducible refine Kd.C_drew ?_)));(case side2=>exact HC0.out);(case side3=>repeat (first|exact (Kd.C_below HR3.out za)|(with_reducible refine Kd.C_alloc ?_ _)|(with_reducible refine Kd.C_drewN ?_ _)|(with_reducible refine Kd.C_drew ?_)));(case side4=>exact HC3.out);rintro e w19 ⟨v107,rfl,ho0,hb⟩;refine ⟨_,rfl,?_⟩;have HO108:=Aside0.mk (Kd.S_lower ho0 (below_size za));replace HB:=Aside0.mk (below_step za hb);(try clear hb);(try clear hb2);(try clear hk);(try clear hi);(try clear ho0)))
     go_ret2
     exact ⟨_,zj,by (with_reducible repeat (first|apply Kd.S_alloc|apply Kd.S_drewN|apply Kd.S_drew));exact HO108.out,za⟩
    ·replace c17:=Bool.eq_false_iff.mpr c17
     subst c17
     have H1:(some (([]:List (S48)),3))=some (r1,r2):=by rw [if_neg (show ¬ (false=true) by decide)] at H;exact H
     clear H
     have H:=H1
     clear H1
     simp only [Option.some.injEq,Prod.mk.injEq] at H
     obtain ⟨rfl,rfl⟩:=H
     go_wp2_with (first|((with_reducible refine gate_callee (f:=37) rfl ?_);refine goesL_ (some 28) rfl rfl Tryd.func37 zaq rfl #[.int .i64 a1,.int .i64 0,.int .i64 (l0.length:Int)] rfl zd ?_;(with_reducible refine (impl_within.calls a1 0 (l0.length:Int) false _ A16.out).mono ?_);rintro e w' ⟨rfl,⟨nd,rfl⟩⟩;refine ⟨_,rfl,?_⟩))
     go_ret2
     exact ⟨_,zj,by first|exact Kd.S_nil _ _ _ _ _|exact Kd.N_nil _ _ _ _ _|exact Kd.V_nil _ _ _ _ _|exact Kd.Q_nil _ _ _ _ _|exact Kd.R_nil _ _ _ _ _,za⟩
end Go.Proofs.YtocegmkifmdlcaaDoor.P
