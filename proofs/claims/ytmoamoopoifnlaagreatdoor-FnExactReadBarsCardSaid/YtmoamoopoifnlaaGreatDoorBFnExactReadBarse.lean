/- Part e of what FnExactReadBars stands on: functions of the program as Lean functions with their walks, and plain lemmas. -/
import Derived.Test.YtmoamoopoifnlaaGreatDoorBFnExactReadBarsa
import Derived.Test.YtmoamoopoifnlaaGreatDoorK
import Derived.Test.YtmoamoopoifnlaaGreatDoorBFnExactReadBarsb
import Derived.Test.YtmoamoopoifnlaaGreatDoorBFnExactReadBarsd
import Derived.ChangeOld
import Derived.ChangeArms
import Derived.WideShapes
import Derived.Test.YtmoamoopoifnlaaGreatDoorWWords
import Derived.KernelRfl
import Derived.Deep.RegionHeld3
import Derived.Test.YtmoamoopoifnlaaGreatDoorBFnExactReadBarsc
import Derived.Lib.ParseIntBCases
import Derived.Lib.IndexBytes
import Derived.Shelf.Strings.Cut
namespace Go.Proofs.YtmoamoopoifnlaaGreatDoor.P
open Go.RowKit Go.Proofs.YtmoamoopoifnlaaGreatDoorW.PrintWords Go.Proofs.YtmoamoopoifnlaaGreatDoorW.PrintLast Go.Proofs.YtmoamoopoifnlaaGreatDoorW.PrintMore
attribute [local go_sem] max2_int min2_int max_two min_two max_three min_three max_four min_four str_leq str_gtr str_geq
set_option linter.unusedVariables false
set_option linter.unusedSimpArgs false
mutual
def laws_FnExactReadBars.j0:Nat→ByteArray→Int→List (S67)→Int→List (S67)→Int→Bool→ByteArray→List Int→List Int→ByteArray→List Int→List Int→Option (Bool)
 | 0,_,_,_,_,_,_,_,_,_,_,_,_,_=>none
 | k+1,x0,x2,x8,x9,x11,x12,x51,x102000,x102001,x102002,x122000,x122001,x122002=>if x51=true then (some false) else ((laws_toTala.f k x102000 x102001 x102002).bind fun bt127=>((laws_eqTala.f k x122000 x122001 x122002 bt127.1 bt127.2.1 bt127.2.2).bind fun t134=>(if t134=true then ((laws_markTala.f k x122000 x122001 x122002 1).bind fun bt135=>(if bt135.1<0 then (laws_FnExactReadBars.j1 k x0 x2 x8 x9 x11 true x102000 x102001 x102002) else ((laws_eqNoteS.f k x11 x8).bind fun t138=>(if t138=true then (laws_FnExactReadBars.j1 k x0 x2 x8 x9 x11 (x12 != x9) x102000 x102001 x102002) else (laws_FnExactReadBars.j1 k x0 x2 x8 x9 x11 true x102000 x102001 x102002))))) else (some false))))
def laws_FnExactReadBars.j1:Nat→ByteArray→Int→List (S67)→Int→List (S67)→Bool→ByteArray→List Int→List Int→Option (Bool)
 | 0,_,_,_,_,_,_,_,_,_=>none
 | k+1,x0,x2,x8,x9,x11,x72,x102000,x102001,x102002=>if x72=true then (some false) else ((laws_markNoteS.f k x11 1).bind fun bt139=>((laws_heldNoteS.f k bt139.2 1).bind fun t141=>(if t141<0 then (some false) else (if t141=bt139.1 then ((laws_toTala.f k x102000 x102001 x102002).bind fun bt142=>((impl_ReadBars.f k x0 bt142.1 bt142.2.1 bt142.2.2 x2).bind fun bt149=>((laws_eqNoteS.f k bt149.1 x8).bind fun t153=>(if t153=true then (laws_FnExactReadBars.j2 k bt139.2 bt139.1 (bt149.2 != x9)) else (laws_FnExactReadBars.j2 k bt139.2 bt139.1 true))))) else (some false)))))
def laws_FnExactReadBars.j2:Nat→List (S67)→Int→Bool→Option (Bool)
 | 0,_,_,_=>none
 | k+1,x11,x14,x100=>if x100=true then (some false) else ((laws_heldNoteS.f k x11 1).bind fun t154=>(if t154<0 then (some false) else (if t154=x14 then (some true) else (some false))))
end
def laws_FnExactReadBars.f (k:Nat) (a0:ByteArray) (a1_0:ByteArray) (l1_1:List Int) (l1_2:List Int) (a2:Int):Option (Bool):=if (a0.size:Int) > 1048576 then (some true) else ((laws_szTala.f a1_0 l1_1 l1_2 1048576).bind fun t102=>(if t102<0 then (some true) else ((laws_toTala.f k a1_0 l1_1 l1_2).bind fun bt103=>((spec_ReadBars.f k a0 bt103.1 bt103.2.1 bt103.2.2 a2).bind fun bt110=>((laws_toTala.f k a1_0 l1_1 l1_2).bind fun bt114=>((impl_ReadBars.f k a0 bt114.1 bt114.2.1 bt114.2.2 a2).bind fun bt122=>((laws_eqNoteS.f k bt122.1 bt110.1).bind fun t126=>(if t126=true then (laws_FnExactReadBars.j0 k a0 a2 bt110.1 bt110.2 bt122.1 bt122.2 (bt122.2 != bt110.2) a1_0 l1_1 l1_2 bt114.1 bt114.2.1 bt114.2.2) else (laws_FnExactReadBars.j0 k a0 a2 bt110.1 bt110.2 bt122.1 bt122.2 true a1_0 l1_1 l1_2 bt114.1 bt114.2.1 bt114.2.2)))))))))
set_option maxHeartbeats 8000000 in
set_option maxRecDepth 100000 in
theorem laws_FnExactReadBars.calls (k:Nat) (a0:ByteArray) (a1_0:ByteArray) (A1_1:Option Addr) (c1_1:Nat) (l1_1:List Int) (A1_2:Option Addr) (c1_2:Nat) (l1_2:List Int) (a2:Int) (r:Bool) (w:World) (hD:Door2 w) (hr1_1:Kd.C (Kd.int .i64) w A1_1 l1_1.length l1_1) (hc1_1:l1_1.length≤c1_1) (hr1_2:Kd.C (Kd.int .i64) w A1_2 l1_2.length l1_2) (hc1_2:l1_2.length≤c1_2) (h:laws_FnExactReadBars.f k a0 a1_0 l1_1 l1_2 a2=some r) :
 Calls Tryz.prog 7 #[.string a0,.agg #[.string a1_0,.slice A1_1 l1_1.length c1_1,.slice A1_2 l1_2.length c1_2],.int .i64 a2] w fun e w'=>e = .returned (.bool r)∧Below w.heap.size w w':=by
 have hu46:=Tryz.underlying46
 have hu50:=Tryz.underlying50
 have HD:=Aside0.mk hD
 clear hD
 have HR1_1:=Aside0.mk hr1_1
 have HC1_1:=Aside0.mk hc1_1
 clear hr1_1 hc1_1
 have HR1_2:=Aside0.mk hr1_2
 have HC1_2:=Aside0.mk hc1_2
 clear hr1_2 hc1_2
 have HB:=Aside0.mk (Below.refl w.heap.size w)
 have H:(if (a0.size:Int) > 1048576 then (some true) else ((laws_szTala.f a1_0 l1_1 l1_2 1048576).bind fun t102=>(if t102<0 then (some true) else ((laws_toTala.f k a1_0 l1_1 l1_2).bind fun bt103=>((spec_ReadBars.f k a0 bt103.1 bt103.2.1 bt103.2.2 a2).bind fun bt110=>((laws_toTala.f k a1_0 l1_1 l1_2).bind fun bt114=>((impl_ReadBars.f k a0 bt114.1 bt114.2.1 bt114.2.2 a2).bind fun bt122=>((laws_eqNoteS.f k bt122.1 bt110.1).bind fun t126=>(if t126=true then (laws_FnExactReadBars.j0 k a0 a2 bt110.1 bt110.2 bt122.1 bt122.2 (bt122.2 != bt110.2) a1_0 l1_1 l1_2 bt114.1 bt114.2.1 bt114.2.2) else (laws_FnExactReadBars.j0 k a0 a2 bt110.1 bt110.2 bt122.1 bt122.2 true a1_0 l1_1 l1_2 bt114.1 bt114.2.1 bt114.2.2))))))))))=some r:=h
 clear h
 by_cases c4:(a0.size:Int) > 1048576
 ·rw [if_pos c4] at H
  have c4b0:decide (1048576<(a0.size:Int))=true:=decide_eq_true c4
  have c4b1:decide (1048576<a0.size)=true:=decide_eq_true zbd
  clear c4
  obtain rfl:=Option.some.inj H
  go_enter Tryz.func7,Tryz.ntmps7
  go_wp2_with (first|((with_reducible refine gate_dst (N:=4) rfl ?_);refine box_event ?hg (N:=4) ?hd (cs:=#[.string a1_0,.slice A1_1 l1_1.length c1_1,.slice A1_2 l1_2.length c1_2]) (t:=46) ?hr ?_;(case hd=>rfl);(case hg=>rfl);(case hr=>exact zo);intro gb101 hg w5 hbox hb;have n0_:=Aside0.mk (below_step za hb);have n1_:=Aside0.mk (hbox);have n2_:=Aside0.mk ((by rw [hg];exact (below_size za):w.heap.size≤gb101));have n3_:=Aside0.mk ((by rw [hg];exact (below_size za):w.heap.size≤gb101));clear HB;have HB:=n0_;have BK101:=n1_;have GW101:=n2_;have GE101:=n3_;clear n0_ n1_ n2_ n3_;clear hb hbox hg))
  go_ret
  exact ⟨zg,zb⟩
 ·rw [if_neg c4] at H
  have c4b0:decide (1048576<(a0.size:Int))=false:=decide_eq_false c4
  have c4b1:decide (1048576<a0.size)=false:=decide_eq_false zbd
  clear c4
  replace H:=Option.bind_eq_some_iff.mp H
  obtain ⟨t102,A60,H⟩:=H
  replace H:(if t102<0 then (some true) else ((laws_toTala.f k a1_0 l1_1 l1_2).bind fun bt103=>((spec_ReadBars.f k a0 bt103.1 bt103.2.1 bt103.2.2 a2).bind fun bt110=>((laws_toTala.f k a1_0 l1_1 l1_2).bind fun bt114=>((impl_ReadBars.f k a0 bt114.1 bt114.2.1 bt114.2.2 a2).bind fun bt122=>((laws_eqNoteS.f k bt122.1 bt110.1).bind fun t126=>(if t126=true then (laws_FnExactReadBars.j0 k a0 a2 bt110.1 bt110.2 bt122.1 bt122.2 (bt122.2 != bt110.2) a1_0 l1_1 l1_2 bt114.1 bt114.2.1 bt114.2.2) else (laws_FnExactReadBars.j0 k a0 a2 bt110.1 bt110.2 bt122.1 bt122.2 true a1_0 l1_1 l1_2 bt114.1 bt114.2.1 bt114.2.2))))))))=some r:=H
  have A6:=Aside0.mk A60
  clear A60
  by_cases c7:t102<0
  ·rw [if_pos c7] at H
   have c7b0:decide (t102<0)=true:=decide_eq_true c7
   clear c7
   obtain rfl:=Option.some.inj H
   go_enter Tryz.func7,Tryz.ntmps7
   go_wp2_with (first|((with_reducible refine gate_dst (N:=4) rfl ?_);refine box_event ?hg (N:=4) ?hd (cs:=#[.string a1_0,.slice A1_1 l1_1.length c1_1,.slice A1_2 l1_2.length c1_2]) (t:=46) ?hr ?_;(case hd=>rfl);(case hg=>rfl);(case hr=>exact zo);intro gb101 hg w8 hbox hb;have n0_:=Aside0.mk (below_step za hb);have n1_:=Aside0.mk (hbox);have n2_:=Aside0.mk ((by rw [hg];exact (below_size za):w.heap.size≤gb101));have n3_:=Aside0.mk ((by rw [hg];exact (below_size za):w.heap.size≤gb101));clear HB;have HB:=n0_;have BK101:=n1_;have GW101:=n2_;have GE101:=n3_;clear n0_ n1_ n2_ n3_;clear hb hbox hg;have hcz9_0:w8.cell? ⟨gb101,0,none⟩=some (.string a1_0):=(blk_cell BK101.out 0).trans rfl;have hcz9_1:w8.cell? ⟨gb101,1,none⟩=some (.slice A1_1 l1_1.length c1_1):=(blk_cell BK101.out 1).trans rfl;have hcz9_2:w8.cell? ⟨gb101,2,none⟩=some (.slice A1_2 l1_2.length c1_2):=(blk_cell BK101.out 2).trans rfl;have hfz9_0:=blk_frozen BK101.out 0;have hfz9_1:=blk_frozen BK101.out 1;have hfz9_2:=blk_frozen BK101.out 2)|((with_reducible refine gate_callee (f:=25) rfl ?_);refine goesL_ (some 23) rfl rfl Tryz.func25 zu rfl #[.agg #[.string a1_0,.slice A1_1 l1_1.length c1_1,.slice A1_2 l1_2.length c1_2],.int .i64 1048576] rfl zc ?_;(with_reducible refine (laws_szTala.calls a1_0 _ _ l1_1 _ _ l1_2 1048576 t102 _ ?side1 ?side2 ?side3 ?side4 A6.out).mono ?_);(case side1=>exact zm);(case side2=>exact HC1_1.out);(case side3=>exact zn);(case side4=>exact HC1_2.out);rintro e w10 ⟨rfl,hb⟩;refine ⟨_,rfl,?_⟩;replace BK101:=Aside0.mk (blk_below (g:=gb101) (o:=.cells #[.string a1_0,.slice A1_1 l1_1.length c1_1,.slice A1_2 l1_2.length c1_2] 46 (0,0)) zd hb);replace HB:=Aside0.mk (below_step zb hb);(try clear hb);(try clear hb2);(try clear hk);(try clear hi)))
   go_ret
   exact ⟨zg,zb⟩
  ·rw [if_neg c7] at H
   have c7b0:decide (t102<0)=false:=decide_eq_false c7
   clear c7
   replace H:=Option.bind_eq_some_iff.mp H
   obtain ⟨⟨t103,t104,t107⟩,A110,H⟩:=H
   replace H:((spec_ReadBars.f k a0 t103 t104 t107 a2).bind fun bt110=>((laws_toTala.f k a1_0 l1_1 l1_2).bind fun bt114=>((impl_ReadBars.f k a0 bt114.1 bt114.2.1 bt114.2.2 a2).bind fun bt122=>((laws_eqNoteS.f k bt122.1 bt110.1).bind fun t126=>(if t126=true then (laws_FnExactReadBars.j0 k a0 a2 bt110.1 bt110.2 bt122.1 bt122.2 (bt122.2 != bt110.2) a1_0 l1_1 l1_2 bt114.1 bt114.2.1 bt114.2.2) else (laws_FnExactReadBars.j0 k a0 a2 bt110.1 bt110.2 bt122.1 bt122.2 true a1_0 l1_1 l1_2 bt114.1 bt114.2.1 bt114.2.2))))))=some r:=H
   have A11:=Aside0.mk A110
   clear A110
   replace H:=Option.bind_eq_some_iff.mp H
   obtain ⟨⟨t110,t113⟩,A120,H⟩:=H
   replace H:((laws_toTala.f k a1_0 l1_1 l1_2).bind fun bt114=>((impl_ReadBars.f k a0 bt114.1 bt114.2.1 bt114.2.2 a2).bind fun bt122=>((laws_eqNoteS.f k bt122.1 t110).bind fun t126=>(if t126=true then (laws_FnExactReadBars.j0 k a0 a2 t110 t113 bt122.1 bt122.2 (bt122.2 != t113) a1_0 l1_1 l1_2 bt114.1 bt114.2.1 bt114.2.2) else (laws_FnExactReadBars.j0 k a0 a2 t110 t113 bt122.1 bt122.2 true a1_0 l1_1 l1_2 bt114.1 bt114.2.1 bt114.2.2)))))=some r:=H
   have A12:=Aside0.mk A120
   clear A120
   replace H:=Option.bind_eq_some_iff.mp H
   obtain ⟨⟨t114,t115,t118⟩,A130,H⟩:=H
   replace H:((impl_ReadBars.f k a0 t114 t115 t118 a2).bind fun bt122=>((laws_eqNoteS.f k bt122.1 t110).bind fun t126=>(if t126=true then (laws_FnExactReadBars.j0 k a0 a2 t110 t113 bt122.1 bt122.2 (bt122.2 != t113) a1_0 l1_1 l1_2 t114 t115 t118) else (laws_FnExactReadBars.j0 k a0 a2 t110 t113 bt122.1 bt122.2 true a1_0 l1_1 l1_2 t114 t115 t118))))=some r:=H
   have A13:=Aside0.mk A130
   clear A130
   replace H:=Option.bind_eq_some_iff.mp H
   obtain ⟨⟨t122,t125⟩,A140,H⟩:=H
   replace H:((laws_eqNoteS.f k t122 t110).bind fun t126=>(if t126=true then (laws_FnExactReadBars.j0 k a0 a2 t110 t113 t122 t125 (t125 != t113) a1_0 l1_1 l1_2 t114 t115 t118) else (laws_FnExactReadBars.j0 k a0 a2 t110 t113 t122 t125 true a1_0 l1_1 l1_2 t114 t115 t118)))=some r:=H
   have A14:=Aside0.mk A140
   clear A140
   have HC15:=Aside0.mk H
   clear H
   go_enter Tryz.func7,Tryz.ntmps7
   go_upto_region 10 with (first|((with_reducible refine gate_dst (N:=4) rfl ?_);refine box_event ?hg (N:=4) ?hd (cs:=#[.string a1_0,.slice A1_1 l1_1.length c1_1,.slice A1_2 l1_2.length c1_2]) (t:=46) ?hr ?_;(case hd=>rfl);(case hg=>rfl);(case hr=>exact zo);intro gb101 hg w16 hbox hb;have n0_:=Aside0.mk (below_step za hb);have n1_:=Aside0.mk (hbox);have n2_:=Aside0.mk ((by rw [hg];exact (below_size za):w.heap.size≤gb101));have n3_:=Aside0.mk ((by rw [hg];exact (below_size za):w.heap.size≤gb101));clear HB;have HB:=n0_;have BK101:=n1_;have GW101:=n2_;have GE101:=n3_;clear n0_ n1_ n2_ n3_;clear hb hbox hg;have hcz17_0:w16.cell? ⟨gb101,0,none⟩=some (.string a1_0):=(blk_cell BK101.out 0).trans rfl;have hcz17_1:w16.cell? ⟨gb101,1,none⟩=some (.slice A1_1 l1_1.length c1_1):=(blk_cell BK101.out 1).trans rfl;have hcz17_2:w16.cell? ⟨gb101,2,none⟩=some (.slice A1_2 l1_2.length c1_2):=(blk_cell BK101.out 2).trans rfl;have hfz17_0:=blk_frozen BK101.out 0;have hfz17_1:=blk_frozen BK101.out 1;have hfz17_2:=blk_frozen BK101.out 2)|((with_reducible refine gate_callee (f:=25) rfl ?_);refine goesL_ (some 23) rfl rfl Tryz.func25 zu rfl #[.agg #[.string a1_0,.slice A1_1 l1_1.length c1_1,.slice A1_2 l1_2.length c1_2],.int .i64 1048576] rfl zc ?_;(with_reducible refine (laws_szTala.calls a1_0 _ _ l1_1 _ _ l1_2 1048576 t102 _ ?side1 ?side2 ?side3 ?side4 A6.out).mono ?_);(case side1=>exact zm);(case side2=>exact HC1_1.out);(case side3=>exact zn);(case side4=>exact HC1_2.out);rintro e w18 ⟨rfl,hb⟩;refine ⟨_,rfl,?_⟩;replace BK101:=Aside0.mk (blk_below (g:=gb101) (o:=.cells #[.string a1_0,.slice A1_1 l1_1.length c1_1,.slice A1_2 l1_2.length c1_2] 46 (0,0)) zd hb);replace HB:=Aside0.mk (below_step zb hb);(try clear hb);(try clear hb2);(try clear hk);(try clear hi);have hcz19_0:w18.cell? ⟨gb101,0,none⟩=some (.string a1_0):=(blk_cell BK101.out 0).trans rfl;have hcz19_1:w18.cell? ⟨gb101,1,none⟩=some (.slice A1_1 l1_1.length c1_1):=(blk_cell BK101.out 1).trans rfl;have hcz19_2:w18.cell? ⟨gb101,2,none⟩=some (.slice A1_2 l1_2.length c1_2):=(blk_cell BK101.out 2).trans rfl;have hfz19_0:=blk_frozen BK101.out 0;have hfz19_1:=blk_frozen BK101.out 1;have hfz19_2:=blk_frozen BK101.out 2)|((with_reducible refine gate_callee (f:=27) rfl ?_);refine goesL_ (some 29) rfl rfl Tryz.func27 zu rfl #[.agg #[.string a1_0,.slice A1_1 l1_1.length c1_1,.slice A1_2 l1_2.length c1_2]] rfl zc ?_;(with_reducible refine (laws_toTala.calls k a1_0 _ _ l1_1 _ _ l1_2 t103 t104 t107 _ ?side1 ?side2 ?side3 ?side4 A11.out).mono ?_);(case side1=>exact zm);(case side2=>exact HC1_1.out);(case side3=>exact zn);(case side4=>exact HC1_2.out);rintro e w20 ⟨v105,v108,rfl,ho0,ho1,hb⟩;refine ⟨_,rfl,?_⟩;have HO106:=Aside0.mk (Kd.R_lower ho0 (below_size zb));have HO109:=Aside0.mk (Kd.R_lower ho1 (below_size zb));replace BK101:=Aside0.mk (blk_below (g:=gb101) (o:=.cells #[.string a1_0,.slice A1_1 l1_1.length c1_1,.slice A1_2 l1_2.length c1_2] 46 (0,0)) zd hb);replace HB:=Aside0.mk (below_step zb hb);(try clear hb);(try clear hb2);(try clear hk);(try clear hi);(try clear ho0);(try clear ho1);obtain ⟨Ao21,co21,eo21⟩:=Kd.R_slice HO106.out;subst eo21;obtain ⟨Ao22,co22,eo22⟩:=Kd.R_slice HO109.out;subst eo22)|((with_reducible refine gate_callee (f:=30) rfl ?_);refine goesL_ (some 31) rfl rfl Tryz.func30 zu rfl #[.string a0,.agg #[.string t103,.slice Ao21 t104.length co21,.slice Ao22 t107.length co22],.int .i64 a2] rfl zc ?_;(with_reducible refine (spec_ReadBars.calls k a0 t103 _ _ t104 _ _ t107 a2 t110 t113 _ ?side1 ?side2 ?side3 ?side4 A12.out).mono ?_);(case side1=>exact zam);(case side2=>exact zdd);(case side3=>repeat (first|exact (Kd.R_reads' HO109.out).2.2|(with_reducible refine Kd.C_alloc ?_ _)|(with_reducible refine Kd.C_drewN ?_ _)|(with_reducible refine Kd.C_drew ?_)));(case side4=>exact (Kd.R_reads' HO109.out).2.1);rintro e w23 ⟨v111,rfl,ho0,hb⟩;refine ⟨_,rfl,?_⟩;replace HO106:=Aside0.mk (Kd.R_below zab hb);replace HO109:=Aside0.mk (Kd.R_below zbv hb);have HO112:=Aside0.mk (Kd.R_lower ho0 (below_size zb));replace BK101:=Aside0.mk (blk_below (g:=gb101) (o:=.cells #[.string a1_0,.slice A1_1 l1_1.length c1_1,.slice A1_2 l1_2.length c1_2] 46 (0,0)) zd hb);replace HB:=Aside0.mk (below_step zb hb);(try clear hb);(try clear hb2);(try clear hk);(try clear hi);(try clear ho0);have hcz24_0:w23.cell? ⟨gb101,0,none⟩=some (.string a1_0):=(blk_cell BK101.out 0).trans rfl;have hcz24_1:w23.cell? ⟨gb101,1,none⟩=some (.slice A1_1 l1_1.length c1_1):=(blk_cell BK101.out 1).trans rfl;have hcz24_2:w23.cell? ⟨gb101,2,none⟩=some (.slice A1_2 l1_2.length c1_2):=(blk_cell BK101.out 2).trans rfl;have hfz24_0:=blk_frozen BK101.out 0;have hfz24_1:=blk_frozen BK101.out 1;have hfz24_2:=blk_frozen BK101.out 2)|((with_reducible refine gate_callee (f:=27) rfl ?_);refine goesL_ (some 35) rfl rfl Tryz.func27 zu rfl #[.agg #[.string a1_0,.slice A1_1 l1_1.length c1_1,.slice A1_2 l1_2.length c1_2]] rfl zc ?_;(with_reducible refine (laws_toTala.calls k a1_0 _ _ l1_1 _ _ l1_2 t114 t115 t118 _ ?side1 ?side2 ?side3 ?side4 A13.out).mono ?_);(case side1=>exact zm);(case side2=>exact HC1_1.out);(case side3=>exact zn);(case side4=>exact HC1_2.out);rintro e w25 ⟨v116,v119,rfl,ho0,ho1,hb⟩;refine ⟨_,rfl,?_⟩;have n0_:=Aside0.mk (Kd.R_mono (Kd.R_told (Kd.R_told (Kd.R_old zab hb) (Kd.R_base ho0)) (Kd.R_base ho1)) (fun _ h_=>h_.1));have n1_:=Aside0.mk (Kd.R_mono (Kd.R_told (Kd.R_told (Kd.R_old zbv hb) (Kd.R_base ho0)) (Kd.R_base ho1)) (fun _ h_=>h_.1));have n2_:=Aside0.mk (Kd.R_below zbw hb);have n3_:=Aside0.mk (Kd.R_lower (Kd.R_new' (Kd.R_new' ho0 (Kd.R_lt zab)) (Kd.R_lt zbv)) (below_size zb));have n4_:=Aside0.mk (Kd.R_lower (Kd.R_new' (Kd.R_new' ho1 (Kd.R_lt zab)) (Kd.R_lt zbv)) (below_size zb));have n5_:=Aside0.mk (blk_below (g:=gb101) (o:=.cells #[.string a1_0,.slice A1_1 l1_1.length c1_1,.slice A1_2 l1_2.length c1_2] 46 (0,0)) zd hb);have n6_:=Aside0.mk (below_step zb hb);clear HO106;clear HO109;clear HO112;clear BK101;clear HB;have HO106:=n0_;have HO109:=n1_;have HO112:=n2_;have HO117:=n3_;have HO120:=n4_;have BK101:=n5_;have HB:=n6_;clear n0_ n1_ n2_ n3_ n4_ n5_ n6_;(try clear hb);(try clear hb2);(try clear hk);(try clear hi);(try clear ho0);(try clear ho1))|((with_reducible refine gate_dst (N:=10) rfl ?_);refine box_event ?hg (N:=10) ?hd (cs:=#[.string (⟨#[]⟩:ByteArray),.slice none 0 0,.slice none 0 0]) (t:=50) ?hr ?_;(case hd=>rfl);(case hg=>rfl);(case hr=>exact zo);intro gb121 hg w26 hbox hb;have n0_:=Aside0.mk (Kd.R_below zab hb);have n1_:=Aside0.mk (Kd.R_below zbv hb);have n2_:=Aside0.mk (Kd.R_below zbw hb);have n3_:=Aside0.mk (Kd.R_below zcz hb);have n4_:=Aside0.mk (Kd.R_below (by (with_reducible repeat (first|apply Kd.R_alloc|apply Kd.R_drewN|apply Kd.R_drew));exact HO120.out) hb);have n5_:=Aside0.mk (blk_below (g:=gb101) (o:=.cells #[.string a1_0,.slice A1_1 l1_1.length c1_1,.slice A1_2 l1_2.length c1_2] 46 (0,0)) zd hb);have n6_:=Aside0.mk (below_step zb hb);have n7_:=Aside0.mk (hbox);have n8_:=Aside0.mk ((by rw [hg];exact (below_size zb):w.heap.size≤gb121));have n9_:=Aside0.mk ((by rw [hg];exact (below_size zb):w.heap.size≤gb121));have n10_:=Aside0.mk ((by rw [hg];exact Nat.ne_of_lt (blk_lt (g:=gb101) (o:=.cells #[.string a1_0,.slice A1_1 l1_1.length c1_1,.slice A1_2 l1_2.length c1_2] 46 (0,0)) zd):gb101≠gb121));have n11_:=Aside0.mk ((by rw [hg];exact Nat.ne_of_gt (blk_lt (g:=gb101) (o:=.cells #[.string a1_0,.slice A1_1 l1_1.length c1_1,.slice A1_2 l1_2.length c1_2] 46 (0,0)) zd):gb121≠gb101));clear HO106;clear HO109;clear HO112;clear HO117;clear HO120;clear BK101;clear HB;have HO106:=n0_;have HO109:=n1_;have HO112:=n2_;have HO117:=n3_;have HO120:=n4_;have BK101:=n5_;have HB:=n6_;have BK121:=n7_;have GW121:=n8_;have GE121:=n9_;have NB101_121:=n10_;have NB121_101:=n11_;clear n0_ n1_ n2_ n3_ n4_ n5_ n6_ n7_ n8_ n9_ n10_ n11_;clear hb hbox hg;have hnb27:=NB121_101.out;have hnc27:=NB101_121.out;have hcz28_0:w26.cell? ⟨gb121,0,none⟩=some (.string (⟨#[]⟩:ByteArray)):=(blk_cell BK121.out 0).trans rfl;have hcz28_1:w26.cell? ⟨gb121,1,none⟩=some (.slice none 0 0):=(blk_cell BK121.out 1).trans rfl;have hcz28_2:w26.cell? ⟨gb121,2,none⟩=some (.slice none 0 0):=(blk_cell BK121.out 2).trans rfl;have hfz28_0:=blk_frozen BK121.out 0;have hfz28_1:=blk_frozen BK121.out 1;have hfz28_2:=blk_frozen BK121.out 2;obtain ⟨Ao29,co29,eo29⟩:=Kd.R_slice HO117.out;subst eo29;obtain ⟨Ao30,co30,eo30⟩:=Kd.R_slice HO120.out;subst eo30)|((with_reducible refine gate_callee (f:=31) rfl ?_);refine goesL_ (some 40) rfl rfl Tryz.func31 zu rfl #[.string a0,.agg #[.string t114,.slice Ao29 t115.length co29,.slice Ao30 t118.length co30],.int .i64 a2] rfl zc ?_;(with_reducible refine (impl_ReadBars.calls k a0 t114 _ _ t115 _ _ t118 a2 t122 t125 _ ?side5 ?side1 ?side2 ?side3 ?side4 A14.out).mono ?_);(case side1=>refine (Kd.R_reads' (e:=2) (base:=w.heap.size) (ok:=fun k_=>((some k_≠(.slice Ao30 t118.length co30:Value).ownBlock∧some k_≠(.slice Ao21 t104.length co21:Value).ownBlock)∧some k_≠(.slice Ao22 t107.length co22:Value).ownBlock)) (n:=t115.length) (c:=co29) ?_).2.2;exact (by (with_reducible repeat (first|apply Kd.R_alloc|apply Kd.R_drewN|apply Kd.R_drew));exact (Kd.R_mono (Kd.R_far (p:=⟨gb121,2,none⟩) (Kd.R_far (p:=⟨gb121,1,none⟩) (Kd.R_far (p:=⟨gb121,0,none⟩) (Kd.R_types HO117.out BK121.out zbm) (fun _ hk=>hk.2) (.string t114)) (fun _ hk=>hk.2) (.slice Ao29 t115.length co29)) (fun _ hk=>hk.2) (.slice Ao30 t118.length co30)) (fun _ h_=>h_.1))));(case side2=>exact (Kd.R_reads' HO117.out).2.1);(case side3=>refine (Kd.R_reads' (e:=2) (base:=w.heap.size) (ok:=fun k_=>((some k_≠(.slice Ao29 t115.length co29:Value).ownBlock∧some k_≠(.slice Ao21 t104.length co21:Value).ownBlock)∧some k_≠(.slice Ao22 t107.length co22:Value).ownBlock)) (n:=t118.length) (c:=co30) ?_).2.2;exact (by (with_reducible repeat (first|apply Kd.R_alloc|apply Kd.R_drewN|apply Kd.R_drew));exact (Kd.R_mono (Kd.R_far (p:=⟨gb121,2,none⟩) (Kd.R_far (p:=⟨gb121,1,none⟩) (Kd.R_far (p:=⟨gb121,0,none⟩) (Kd.R_types HO120.out BK121.out zbm) (fun _ hk=>hk.2) (.string t114)) (fun _ hk=>hk.2) (.slice Ao29 t115.length co29)) (fun _ hk=>hk.2) (.slice Ao30 t118.length co30)) (fun _ h_=>h_.1))));(case side4=>exact (Kd.R_reads' HO120.out).2.1);(case side5=>exact Door2.at HD.out zi);rintro e w31 ⟨v123,rfl,ho0,hb⟩;refine ⟨_,rfl,?_⟩;have n0_:=Aside0.mk (Kd.R_below (by (with_reducible repeat (first|apply Kd.R_alloc|apply Kd.R_drewN|apply Kd.R_drew));exact (Kd.R_mono (Kd.R_far (p:=⟨gb121,2,none⟩) (Kd.R_far (p:=⟨gb121,1,none⟩) (Kd.R_far (p:=⟨gb121,0,none⟩) (Kd.R_types HO106.out BK121.out zbm) (fun _ hk=>hk.2) (.string t114)) (fun _ hk=>hk.2) (.slice Ao29 t115.length co29)) (fun _ hk=>hk.2) (.slice Ao30 t118.length co30)) (fun _ h_=>h_.1))) hb);have n1_:=Aside0.mk (Kd.R_below (by (with_reducible repeat (first|apply Kd.R_alloc|apply Kd.R_drewN|apply Kd.R_drew));exact (Kd.R_mono (Kd.R_far (p:=⟨gb121,2,none⟩) (Kd.R_far (p:=⟨gb121,1,none⟩) (Kd.R_far (p:=⟨gb121,0,none⟩) (Kd.R_types HO109.out BK121.out zbm) (fun _ hk=>hk.2) (.string t114)) (fun _ hk=>hk.2) (.slice Ao29 t115.length co29)) (fun _ hk=>hk.2) (.slice Ao30 t118.length co30)) (fun _ h_=>h_.1))) hb);have n2_:=Aside0.mk (Kd.R_elder' (by (with_reducible repeat (first|apply Kd.R_alloc|apply Kd.R_drewN|apply Kd.R_drew));exact (Kd.R_mono (Kd.R_far (p:=⟨gb121,2,none⟩) (Kd.R_far (p:=⟨gb121,1,none⟩) (Kd.R_far (p:=⟨gb121,0,none⟩) (Kd.R_types HO112.out BK121.out zbm) (fun _ hk=>hk.2) (.string t114)) (fun _ hk=>hk.2) (.slice Ao29 t115.length co29)) (fun _ hk=>hk.2) (.slice Ao30 t118.length co30)) (fun _ h_=>h_.1))) (Kd.R_base ho0) hb);have n3_:=Aside0.mk (Kd.R_below (by (with_reducible repeat (first|apply Kd.R_alloc|apply Kd.R_drewN|apply Kd.R_drew));exact (Kd.R_mono (Kd.R_far (p:=⟨gb121,2,none⟩) (Kd.R_far (p:=⟨gb121,1,none⟩) (Kd.R_far (p:=⟨gb121,0,none⟩) (Kd.R_types HO117.out BK121.out zbm) (fun _ hk=>hk.2) (.string t114)) (fun _ hk=>hk.2) (.slice Ao29 t115.length co29)) (fun _ hk=>hk.2) (.slice Ao30 t118.length co30)) (fun _ h_=>h_.1))) hb);have n4_:=Aside0.mk (Kd.R_below (by (with_reducible repeat (first|apply Kd.R_alloc|apply Kd.R_drewN|apply Kd.R_drew));exact (Kd.R_mono (Kd.R_far (p:=⟨gb121,2,none⟩) (Kd.R_far (p:=⟨gb121,1,none⟩) (Kd.R_far (p:=⟨gb121,0,none⟩) (Kd.R_types HO120.out BK121.out zbm) (fun _ hk=>hk.2) (.string t114)) (fun _ hk=>hk.2) (.slice Ao29 t115.length co29)) (fun _ hk=>hk.2) (.slice Ao30 t118.length co30)) (fun _ h_=>h_.1))) hb);have n5_:=Aside0.mk (Kd.R_lower (Kd.R_new' ho0 (Kd.R_lt (by (with_reducible repeat (first|apply Kd.R_alloc|apply Kd.R_drewN|apply Kd.R_drew));exact (Kd.R_mono (Kd.R_far (p:=⟨gb121,2,none⟩) (Kd.R_far (p:=⟨gb121,1,none⟩) (Kd.R_far (p:=⟨gb121,0,none⟩) (Kd.R_types HO112.out BK121.out zbm) (fun _ hk=>hk.2) (.string t114)) (fun _ hk=>hk.2) (.slice Ao29 t115.length co29)) (fun _ hk=>hk.2) (.slice Ao30 t118.length co30)) (fun _ h_=>h_.1))))) (below_size zi));have n6_:=Aside0.mk (blk_below (g:=gb101) (o:=.cells #[.string a1_0,.slice A1_1 l1_1.length c1_1,.slice A1_2 l1_2.length c1_2] 46 (0,0)) (by (with_reducible repeat (first|refine blk_drewN ?_ _|refine blk_drew ?_|refine blk_alloc ?_ _));refine blk_far ?_ NB101_121.out _;(with_reducible repeat (first|refine blk_drewN ?_ _|refine blk_drew ?_|refine blk_alloc ?_ _));refine blk_far ?_ NB101_121.out _;(with_reducible repeat (first|refine blk_drewN ?_ _|refine blk_drew ?_|refine blk_alloc ?_ _));refine blk_far ?_ NB101_121.out _;(with_reducible repeat (first|refine blk_drewN ?_ _|refine blk_drew ?_|refine blk_alloc ?_ _));exact BK101.out) hb);have n7_:=Aside0.mk (blk_below (g:=gb121) (o:=.cells #[.string t114,.slice Ao29 t115.length co29,.slice Ao30 t118.length co30] 50 (0,0)) (by (with_reducible repeat (first|refine blk_drewN ?_ _|refine blk_drew ?_|refine blk_alloc ?_ _));refine blk_put (cs:=#[.string t114,.slice Ao29 t115.length co29,.slice none 0 0]) ?_ 2 _ rfl;(with_reducible repeat (first|refine blk_drewN ?_ _|refine blk_drew ?_|refine blk_alloc ?_ _));refine blk_put (cs:=#[.string t114,.slice none 0 0,.slice none 0 0]) ?_ 1 _ rfl;(with_reducible repeat (first|refine blk_drewN ?_ _|refine blk_drew ?_|refine blk_alloc ?_ _));refine blk_put (cs:=#[.string (⟨#[]⟩:ByteArray),.slice none 0 0,.slice none 0 0]) ?_ 0 _ rfl;(with_reducible repeat (first|refine blk_drewN ?_ _|refine blk_drew ?_|refine blk_alloc ?_ _));exact BK121.out) hb);have n8_:=Aside0.mk (below_step zi hb);clear HO106;clear HO109;clear HO112;clear HO117;clear HO120;clear BK101;clear BK121;clear HB;have HO106:=n0_;have HO109:=n1_;have HO112:=n2_;have HO117:=n3_;have HO120:=n4_;have HO124:=n5_;have BK101:=n6_;have BK121:=n7_;have HB:=n8_;clear n0_ n1_ n2_ n3_ n4_ n5_ n6_ n7_ n8_;(try clear hb);(try clear hb2);(try clear hk);(try clear hi);(try clear ho0)))
   (try simp only [Act.put,List.setIfInBounds_toArray,List.set_cons_zero,List.set_cons_succ])
   go_cut [51] (fun v51 wc=>∃(kq:Nat) (x51_14:Bool),v51 = .bool x51_14∧Aside0 (laws_FnExactReadBars.j0 kq a0 a2 t110 t113 t122 t125 x51_14 a1_0 l1_1 l1_2 t114 t115 t118=some r)∧Aside0 (kq≤k)∧Aside0 (Kd.R k67 67 wc w.heap.size (fun k_=>some k_≠(v123:Value).ownBlock) v111 t110)∧Aside0 (Kd.R k67 67 wc w.heap.size (fun k_=>some k_≠(v111:Value).ownBlock) v123 t122)∧Aside0 (Kd.R (Kd.int .i64) 2 wc w.heap.size (fun k_=>some k_≠((.slice Ao30 t118.length co30):Value).ownBlock) (.slice Ao29 t115.length co29) t115)∧Aside0 (Kd.R (Kd.int .i64) 2 wc w.heap.size (fun k_=>some k_≠((.slice Ao29 t115.length co29):Value).ownBlock) (.slice Ao30 t118.length co30) t118)∧Aside0 (wc.heap[gb101]?=some (.cells #[.string a1_0,(.slice A1_1 l1_1.length c1_1),(.slice A1_2 l1_2.length c1_2)] 46 (0,0)))∧Aside0 (wc.heap[gb121]?=some (.cells #[.string t114,(.slice Ao29 t115.length co29),(.slice Ao30 t118.length co30)] 50 (0,0)))∧Aside0 (Below w.heap.size w wc))
   case first=>
    have H:=HC15.out
    clear HC15
    replace H:=Option.bind_eq_some_iff.mp H
    obtain ⟨t126,A320,H⟩:=H
    replace H:(if t126=true then (laws_FnExactReadBars.j0 k a0 a2 t110 t113 t122 t125 (t125 != t113) a1_0 l1_1 l1_2 t114 t115 t118) else (laws_FnExactReadBars.j0 k a0 a2 t110 t113 t122 t125 true a1_0 l1_1 l1_2 t114 t115 t118))=some r:=H
    have A32:=Aside0.mk A320
    clear A320
    by_cases c33:t126=true
    ·subst c33
     have H1:(laws_FnExactReadBars.j0 k a0 a2 t110 t113 t122 t125 (t125 != t113) a1_0 l1_1 l1_2 t114 t115 t118)=some r:=by rw [if_pos rfl] at H;exact H
     clear H
     have H:=H1
     clear H1
     have H':=Aside0.mk H
     clear H
     obtain ⟨Ao34,co34,eo34⟩:=Kd.R_slice HO124.out
     subst eo34
     obtain ⟨Ao35,co35,eo35⟩:=Kd.R_slice HO112.out
     subst eo35
     go_wp2_with (first|((with_reducible refine gate_callee (f:=32) rfl ?_);refine goesL_ (some 45) rfl rfl Tryz.func32 zu rfl #[.slice Ao34 t122.length co34,.slice Ao35 t110.length co35] rfl zc ?_;(with_reducible refine (laws_eqNoteS.calls k _ _ t122 _ _ t110 true _ ?side1 ?side2 ?side3 ?side4 A32.out).mono ?_);(case side1=>repeat (first|exact (Kd.R_reads' HO124.out).2.2|(with_reducible refine Kd.C_alloc ?_ _)|(with_reducible refine Kd.C_drewN ?_ _)|(with_reducible refine Kd.C_drew ?_)));(case side2=>exact (Kd.R_reads' HO124.out).2.1);(case side3=>repeat (first|exact (Kd.R_reads' HO112.out).2.2|(with_reducible refine Kd.C_alloc ?_ _)|(with_reducible refine Kd.C_drewN ?_ _)|(with_reducible refine Kd.C_drew ?_)));(case side4=>exact (Kd.R_reads' HO112.out).2.1);rintro e w36 ⟨rfl,hb⟩;refine ⟨_,rfl,?_⟩;replace HO106:=Aside0.mk (Kd.R_below zab hb);replace HO109:=Aside0.mk (Kd.R_below zbv hb);replace HO112:=Aside0.mk (Kd.R_below zbw hb);replace HO117:=Aside0.mk (Kd.R_below zcz hb);replace HO120:=Aside0.mk (Kd.R_below (by (with_reducible repeat (first|apply Kd.R_alloc|apply Kd.R_drewN|apply Kd.R_drew));exact HO120.out) hb);replace HO124:=Aside0.mk (Kd.R_below (by (with_reducible repeat (first|apply Kd.R_alloc|apply Kd.R_drewN|apply Kd.R_drew));exact HO124.out) hb);replace BK101:=Aside0.mk (blk_below (g:=gb101) (o:=.cells #[.string a1_0,.slice A1_1 l1_1.length c1_1,.slice A1_2 l1_2.length c1_2] 46 (0,0)) zd hb);replace BK121:=Aside0.mk (blk_below (g:=gb121) (o:=.cells #[.string t114,.slice Ao29 t115.length co29,.slice Ao30 t118.length co30] 50 (0,0)) zw hb);replace HB:=Aside0.mk (below_step zi hb);(try clear hb);(try clear hb2);(try clear hk);(try clear hi)))
     go_meet
     case rel=>exact ⟨_,((t125 != t113)),zf,H',⟨zcr⟩,⟨by (with_reducible repeat (first|apply Kd.R_alloc|apply Kd.R_drewN|apply Kd.R_drew));exact Kd.R_mono HO112.out (fun _ hk=>hk.2)⟩,⟨by (with_reducible repeat (first|apply Kd.R_alloc|apply Kd.R_drewN|apply Kd.R_drew));exact Kd.R_mono HO124.out (fun _ hk=>hk.2)⟩,⟨by (with_reducible repeat (first|apply Kd.R_alloc|apply Kd.R_drewN|apply Kd.R_drew));exact Kd.R_mono HO117.out (fun _ hk=>hk.1.1)⟩,⟨by (with_reducible repeat (first|apply Kd.R_alloc|apply Kd.R_drewN|apply Kd.R_drew));exact Kd.R_mono HO120.out (fun _ hk=>hk.1.1)⟩,⟨zd⟩,⟨zw⟩,⟨zi⟩⟩
    ·replace c33:=Bool.eq_false_iff.mpr c33
     subst c33
     have H1:(laws_FnExactReadBars.j0 k a0 a2 t110 t113 t122 t125 true a1_0 l1_1 l1_2 t114 t115 t118)=some r:=by rw [if_neg (show ¬ (false=true) by decide)] at H;exact H
     clear H
     have H:=H1
     clear H1
     have H':=Aside0.mk H
     clear H
     obtain ⟨Ao37,co37,eo37⟩:=Kd.R_slice HO124.out
     subst eo37
     obtain ⟨Ao38,co38,eo38⟩:=Kd.R_slice HO112.out
     subst eo38
     go_wp2_with (first|((with_reducible refine gate_callee (f:=32) rfl ?_);refine goesL_ (some 45) rfl rfl Tryz.func32 zu rfl #[.slice Ao37 t122.length co37,.slice Ao38 t110.length co38] rfl zc ?_;(with_reducible refine (laws_eqNoteS.calls k _ _ t122 _ _ t110 false _ ?side1 ?side2 ?side3 ?side4 A32.out).mono ?_);(case side1=>repeat (first|exact (Kd.R_reads' HO124.out).2.2|(with_reducible refine Kd.C_alloc ?_ _)|(with_reducible refine Kd.C_drewN ?_ _)|(with_reducible refine Kd.C_drew ?_)));(case side2=>exact (Kd.R_reads' HO124.out).2.1);(case side3=>repeat (first|exact (Kd.R_reads' HO112.out).2.2|(with_reducible refine Kd.C_alloc ?_ _)|(with_reducible refine Kd.C_drewN ?_ _)|(with_reducible refine Kd.C_drew ?_)));(case side4=>exact (Kd.R_reads' HO112.out).2.1);rintro e w39 ⟨rfl,hb⟩;refine ⟨_,rfl,?_⟩;replace HO106:=Aside0.mk (Kd.R_below zab hb);replace HO109:=Aside0.mk (Kd.R_below zbv hb);replace HO112:=Aside0.mk (Kd.R_below zbw hb);replace HO117:=Aside0.mk (Kd.R_below zcz hb);replace HO120:=Aside0.mk (Kd.R_below (by (with_reducible repeat (first|apply Kd.R_alloc|apply Kd.R_drewN|apply Kd.R_drew));exact HO120.out) hb);replace HO124:=Aside0.mk (Kd.R_below (by (with_reducible repeat (first|apply Kd.R_alloc|apply Kd.R_drewN|apply Kd.R_drew));exact HO124.out) hb);replace BK101:=Aside0.mk (blk_below (g:=gb101) (o:=.cells #[.string a1_0,.slice A1_1 l1_1.length c1_1,.slice A1_2 l1_2.length c1_2] 46 (0,0)) zd hb);replace BK121:=Aside0.mk (blk_below (g:=gb121) (o:=.cells #[.string t114,.slice Ao29 t115.length co29,.slice Ao30 t118.length co30] 50 (0,0)) zw hb);replace HB:=Aside0.mk (below_step zi hb);(try clear hb);(try clear hb2);(try clear hk);(try clear hi)))
     go_meet
     case rel=>exact ⟨_,(true),zf,H',⟨zcr⟩,⟨by (with_reducible repeat (first|apply Kd.R_alloc|apply Kd.R_drewN|apply Kd.R_drew));exact Kd.R_mono HO112.out (fun _ hk=>hk.2)⟩,⟨by (with_reducible repeat (first|apply Kd.R_alloc|apply Kd.R_drewN|apply Kd.R_drew));exact Kd.R_mono HO124.out (fun _ hk=>hk.2)⟩,⟨by (with_reducible repeat (first|apply Kd.R_alloc|apply Kd.R_drewN|apply Kd.R_drew));exact Kd.R_mono HO117.out (fun _ hk=>hk.1.1)⟩,⟨by (with_reducible repeat (first|apply Kd.R_alloc|apply Kd.R_drewN|apply Kd.R_drew));exact Kd.R_mono HO120.out (fun _ hk=>hk.1.1)⟩,⟨zd⟩,⟨zw⟩,⟨zi⟩⟩
   case rest=>
    clear HC15
    try clear c1
    try clear c2
    try clear p2
    try clear c3
    try clear c4
    try clear c4b0
    try clear c4b1
    try clear c7
    try clear c7b0
    try clear c25
    try clear c27
    try clear c30
    try clear c31
    try clear c32
    try clear c33
    try clear hcz17_0
    try clear hcz17_1
    try clear hcz17_2
    try clear hcz19_0
    try clear hcz19_1
    try clear hcz19_2
    try clear hcz24_0
    try clear hcz24_1
    try clear hcz24_2
    try clear hcz28_0
    try clear hcz28_1
    try clear hcz28_2
    try clear hcz9_0
    try clear hcz9_1
    try clear hcz9_2
    try clear hfz17_0
    try clear hfz17_1
    try clear hfz17_2
    try clear hfz19_0
    try clear hfz19_1
    try clear hfz19_2
    try clear hfz24_0
    try clear hfz24_1
    try clear hfz24_2
    try clear hfz28_0
    try clear hfz28_1
    try clear hfz28_2
    try clear hfz9_0
    try clear hfz9_1
    try clear hfz9_2
    obtain ⟨kq,x51_14,rfl,HA,HJ14,HO_8,HO_11,HO_122001,HO_122002,BK101,BK121,HB⟩:=hcut
    cases kq with
    | zero=>exact absurd HA.out (by simp [laws_FnExactReadBars.j0])
    | succ kj14=>
     have H:=HA.out
     clear HA
     simp only [laws_FnExactReadBars.j0] at H
     by_cases c40:x51_14=true
     ·subst c40
      have H1:(some false)=some r:=by rw [if_pos rfl] at H;exact H
      clear H
      have H:=H1
      clear H1
      obtain rfl:=Option.some.inj H
      go_wp2
      go_ret
      exact ⟨zg,zi⟩
     ·replace c40:=Bool.eq_false_iff.mpr c40
      subst c40
      have H1:((laws_toTala.f kj14 a1_0 l1_1 l1_2).bind fun bt127=>((laws_eqTala.f kj14 t114 t115 t118 bt127.1 bt127.2.1 bt127.2.2).bind fun t134=>(if t134=true then ((laws_markTala.f kj14 t114 t115 t118 1).bind fun bt135=>(if bt135.1<0 then (laws_FnExactReadBars.j1 kj14 a0 a2 t110 t113 t122 true a1_0 l1_1 l1_2) else ((laws_eqNoteS.f kj14 t122 t110).bind fun t138=>(if t138=true then (laws_FnExactReadBars.j1 kj14 a0 a2 t110 t113 t122 (t125 != t113) a1_0 l1_1 l1_2) else (laws_FnExactReadBars.j1 kj14 a0 a2 t110 t113 t122 true a1_0 l1_1 l1_2))))) else (some false))))=some r:=by rw [if_neg (show ¬ (false=true) by decide)] at H;exact H
      clear H
      have H:=H1
      clear H1
      replace H:=Option.bind_eq_some_iff.mp H
      obtain ⟨⟨t127,t128,t131⟩,A410,H⟩:=H
      replace H:((laws_eqTala.f kj14 t114 t115 t118 t127 t128 t131).bind fun t134=>(if t134=true then ((laws_markTala.f kj14 t114 t115 t118 1).bind fun bt135=>(if bt135.1<0 then (laws_FnExactReadBars.j1 kj14 a0 a2 t110 t113 t122 true a1_0 l1_1 l1_2) else ((laws_eqNoteS.f kj14 t122 t110).bind fun t138=>(if t138=true then (laws_FnExactReadBars.j1 kj14 a0 a2 t110 t113 t122 (t125 != t113) a1_0 l1_1 l1_2) else (laws_FnExactReadBars.j1 kj14 a0 a2 t110 t113 t122 true a1_0 l1_1 l1_2))))) else (some false)))=some r:=H
      have A41:=Aside0.mk A410
      clear A410
      replace H:=Option.bind_eq_some_iff.mp H
      obtain ⟨t134,A420,H⟩:=H
      replace H:(if t134=true then ((laws_markTala.f kj14 t114 t115 t118 1).bind fun bt135=>(if bt135.1<0 then (laws_FnExactReadBars.j1 kj14 a0 a2 t110 t113 t122 true a1_0 l1_1 l1_2) else ((laws_eqNoteS.f kj14 t122 t110).bind fun t138=>(if t138=true then (laws_FnExactReadBars.j1 kj14 a0 a2 t110 t113 t122 (t125 != t113) a1_0 l1_1 l1_2) else (laws_FnExactReadBars.j1 kj14 a0 a2 t110 t113 t122 true a1_0 l1_1 l1_2))))) else (some false))=some r:=H
      have A42:=Aside0.mk A420
      clear A420
      by_cases c43:t134=true
      ·subst c43
       have H1:((laws_markTala.f kj14 t114 t115 t118 1).bind fun bt135=>(if bt135.1<0 then (laws_FnExactReadBars.j1 kj14 a0 a2 t110 t113 t122 true a1_0 l1_1 l1_2) else ((laws_eqNoteS.f kj14 t122 t110).bind fun t138=>(if t138=true then (laws_FnExactReadBars.j1 kj14 a0 a2 t110 t113 t122 (t125 != t113) a1_0 l1_1 l1_2) else (laws_FnExactReadBars.j1 kj14 a0 a2 t110 t113 t122 true a1_0 l1_1 l1_2)))))=some r:=by rw [if_pos rfl] at H;exact H
       clear H
       have H:=H1
       clear H1
       replace H:=Option.bind_eq_some_iff.mp H
       obtain ⟨⟨t135,t136,t137⟩,A440,H⟩:=H
       replace H:(if t135<0 then (laws_FnExactReadBars.j1 kj14 a0 a2 t110 t113 t122 true a1_0 l1_1 l1_2) else ((laws_eqNoteS.f kj14 t122 t110).bind fun t138=>(if t138=true then (laws_FnExactReadBars.j1 kj14 a0 a2 t110 t113 t122 (t125 != t113) a1_0 l1_1 l1_2) else (laws_FnExactReadBars.j1 kj14 a0 a2 t110 t113 t122 true a1_0 l1_1 l1_2))))=some r:=H
       have A44:=Aside0.mk A440
       clear A440
       have HC45:=Aside0.mk H
       clear H
       try go_wp2
       replace HO_8:=Aside0.mk (Kd.R_drew HO_8.out)
       replace HO_11:=Aside0.mk (Kd.R_drew HO_11.out)
       replace HO_122001:=Aside0.mk (Kd.R_drew HO_122001.out)
       replace HO_122002:=Aside0.mk (Kd.R_drew HO_122002.out)
       replace BK101:=Aside0.mk (blk_drew BK101.out)
       replace BK121:=Aside0.mk (blk_drew BK121.out)
       replace HB:=Aside0.mk (below_drew1 HB.out)
       refine start_ (n:=5) (S:=fun w'=>w'.cell? ⟨gb121,0,none⟩=some (.string t114)∧w'.cell? ⟨gb121,1,none⟩=some (.slice Ao29 t115.length co29)∧w'.cell? ⟨gb121,2,none⟩=some (.slice Ao30 t118.length co30)∧w'.cell? ⟨gb101,0,none⟩=some (.string a1_0)∧w'.cell? ⟨gb101,1,none⟩=some (.slice A1_1 l1_1.length c1_1)∧w'.cell? ⟨gb101,2,none⟩=some (.slice A1_2 l1_2.length c1_2)) (ds:=[]) #[false,false,false,false,false] zu rfl rfl ⟨(blk_cell BK121.out 0).trans rfl,(blk_cell BK121.out 1).trans rfl,(blk_cell BK121.out 2).trans rfl,(blk_cell BK101.out 0).trans rfl,(blk_cell BK101.out 1).trans rfl,(blk_cell BK101.out 2).trans rfl⟩ (fun hHeld=>?_)
       generalize wc.drew=w46 at HO_8 HO_11 HO_122001 HO_122002 BK101 BK121 HB hHeld ⊢
       refine pT 0 52 rfl zac ?_
       refine pT 1 53 rfl zac ?_
       refine one_ (i:=2) (N:=some 54) #[true,true,true,false,false] rfl rfl zu zbm (fun K hK=>?_)
       refine goes_ Tryz.func27 zu rfl #[.agg #[.string a1_0,.slice A1_1 l1_1.length c1_1,.slice A1_2 l1_2.length c1_2]] (by rfl) rfl rfl zc ?_
       with_reducible refine (laws_toTala.calls kj14 a1_0 _ _ l1_1 _ _ l1_2 t127 t128 t131 _ ?side1 ?side2 ?side3 ?side4 A41.out).mono ?_
       (case side1=>exact zm)
       (case side2=>exact HC1_1.out)
       (case side3=>exact zn)
       (case side4=>exact HC1_2.out)
       rintro e w47 ⟨v129,v132,rfl,ho0,ho1,hb⟩
       refine ⟨_,rfl,?_⟩
       have n0_:=Aside0.mk (Kd.R_below zq hb)
       have n1_:=Aside0.mk (Kd.R_below zay hb)
       have n2_:=Aside0.mk (Kd.R_mono (Kd.R_told (Kd.R_told (Kd.R_old zan hb) (Kd.R_base ho0)) (Kd.R_base ho1)) (fun _ h_=>h_.1))
       have n3_:=Aside0.mk (Kd.R_mono (Kd.R_told (Kd.R_told (Kd.R_old zao hb) (Kd.R_base ho0)) (Kd.R_base ho1)) (fun _ h_=>h_.1))
       have n4_:=Aside0.mk (Kd.R_lower (Kd.R_new' (Kd.R_new' ho0 (Kd.R_lt zan)) (Kd.R_lt zao)) (below_size zi))
       have n5_:=Aside0.mk (Kd.R_lower (Kd.R_new' (Kd.R_new' ho1 (Kd.R_lt zan)) (Kd.R_lt zao)) (below_size zi))
       have n6_:=Aside0.mk (blk_below (g:=gb101) (o:=.cells #[.string a1_0,.slice A1_1 l1_1.length c1_1,.slice A1_2 l1_2.length c1_2] 46 (0,0)) zd hb)
       have n7_:=Aside0.mk (blk_below (g:=gb121) (o:=.cells #[.string t114,.slice Ao29 t115.length co29,.slice Ao30 t118.length co30] 50 (0,0)) zw hb)
       have n8_:=Aside0.mk (below_step zi hb)
       clear HO_8
       clear HO_11
       clear HO_122001
       clear HO_122002
       clear BK101
       clear BK121
       clear HB
       have HO_8:=n0_
       have HO_11:=n1_
       have HO_122001:=n2_
       have HO_122002:=n3_
       have HO130:=n4_
       have HO133:=n5_
       have BK101:=n6_
       have BK121:=n7_
       have HB:=n8_
       clear n0_ n1_ n2_ n3_ n4_ n5_ n6_ n7_ n8_
       (try clear hb)
       (try clear hb2)
       (try clear hk)
       (try clear hi)
       (try clear ho0)
       (try clear ho1)
       obtain ⟨Ao48,co48,eo48⟩:=Kd.R_slice HO130.out
       (first|subst eo48|(injection eo48 with f1_ f2_ f3_;have f4_:=f1_.symm;have f5_:=f3_.symm;clear f1_ f2_ f3_;subst f4_;subst f5_))
       obtain ⟨Ao49,co49,eo49⟩:=Kd.R_slice HO133.out
       (first|subst eo49|(injection eo49 with f1_ f2_ f3_;have f4_:=f1_.symm;have f5_:=f3_.symm;clear f1_ f2_ f3_;subst f4_;subst f5_))
       refine hK.out _ _ ⟨(blk_cell BK121.out 0).trans rfl,(blk_cell BK121.out 1).trans rfl,(blk_cell BK121.out 2).trans rfl,(blk_cell BK101.out 0).trans rfl,(blk_cell BK101.out 1).trans rfl,(blk_cell BK101.out 2).trans rfl⟩ (fun hHeld=>?_)
       clear hK K
       refine pN 54 ?_
       refine one_ (i:=3) (N:=some 55) #[true,true,true,true,false] rfl rfl zu zbm (fun K hK=>?_)
       refine goes_ Tryz.func29 zu rfl #[.agg #[.string t114,.slice Ao29 t115.length co29,.slice Ao30 t118.length co30],.agg #[.string t127,.slice Ao48 t128.length co48,.slice Ao49 t131.length co49]] (by rfl) rfl rfl zc ?_
       with_reducible refine (laws_eqTala.calls kj14 t114 _ _ t115 _ _ t118 t127 _ _ t128 _ _ t131 true _ ?side1 ?side2 ?side3 ?side4 ?side5 ?side6 ?side7 ?side8 A42.out).mono ?_
       (case side1=>repeat (first|exact (Kd.R_reads' HO_122001.out).2.2|(with_reducible refine Kd.C_alloc ?_ _)|(with_reducible refine Kd.C_drewN ?_ _)|(with_reducible refine Kd.C_drew ?_)))
       (case side2=>exact (Kd.R_reads' HO_122001.out).2.1)
       (case side3=>repeat (first|exact (Kd.R_reads' HO_122002.out).2.2|(with_reducible refine Kd.C_alloc ?_ _)|(with_reducible refine Kd.C_drewN ?_ _)|(with_reducible refine Kd.C_drew ?_)))
       (case side4=>exact (Kd.R_reads' HO_122002.out).2.1)
       (case side5=>repeat (first|exact (Kd.R_reads' HO130.out).2.2|(with_reducible refine Kd.C_alloc ?_ _)|(with_reducible refine Kd.C_drewN ?_ _)|(with_reducible refine Kd.C_drew ?_)))
       (case side6=>exact (Kd.R_reads' HO130.out).2.1)
       (case side7=>repeat (first|exact (Kd.R_reads' HO133.out).2.2|(with_reducible refine Kd.C_alloc ?_ _)|(with_reducible refine Kd.C_drewN ?_ _)|(with_reducible refine Kd.C_drew ?_)))
       (case side8=>exact (Kd.R_reads' HO133.out).2.1)
       rintro e w50 ⟨rfl,hb⟩
       refine ⟨_,rfl,?_⟩
       replace HO_8:=Aside0.mk (Kd.R_below zq hb)
       replace HO_11:=Aside0.mk (Kd.R_below zay hb)
       replace HO_122001:=Aside0.mk (Kd.R_below zan hb)
       replace HO_122002:=Aside0.mk (Kd.R_below zao hb)
       replace HO130:=Aside0.mk (Kd.R_below zdb hb)
       replace HO133:=Aside0.mk (Kd.R_below zdc hb)
       replace BK101:=Aside0.mk (blk_below (g:=gb101) (o:=.cells #[.string a1_0,.slice A1_1 l1_1.length c1_1,.slice A1_2 l1_2.length c1_2] 46 (0,0)) zd hb)
       replace BK121:=Aside0.mk (blk_below (g:=gb121) (o:=.cells #[.string t114,.slice Ao29 t115.length co29,.slice Ao30 t118.length co30] 50 (0,0)) zw hb)
       replace HB:=Aside0.mk (below_step zi hb)
       (try clear hb)
       (try clear hb2)
       (try clear hk)
       (try clear hi)
       refine hK.out _ _ ⟨(blk_cell BK121.out 0).trans rfl,(blk_cell BK121.out 1).trans rfl,(blk_cell BK121.out 2).trans rfl,(blk_cell BK101.out 0).trans rfl,(blk_cell BK101.out 1).trans rfl,(blk_cell BK101.out 2).trans rfl⟩ (fun hHeld=>?_)
       clear hK K
       refine pN 55 ?_
       refine pA 4 56 ?_
       refine done_ zu ?_
       have hnb51:=NB121_101.out
       have hnc51:=NB101_121.out
       have hcz52_0:w50.cell? ⟨gb121,0,none⟩=some (.string t114):=(blk_cell BK121.out 0).trans rfl
       have hcz52_1:w50.cell? ⟨gb121,1,none⟩=some (.slice Ao29 t115.length co29):=(blk_cell BK121.out 1).trans rfl
       have hcz52_2:w50.cell? ⟨gb121,2,none⟩=some (.slice Ao30 t118.length co30):=(blk_cell BK121.out 2).trans rfl
       have hfz52_0:=blk_frozen BK121.out 0
       have hfz52_1:=blk_frozen BK121.out 1
       have hfz52_2:=blk_frozen BK121.out 2
       go_upto_region 16 with (first|((with_reducible refine gate_callee (f:=33) rfl ?_);refine goesL_ (some 59) rfl rfl Tryz.func33 zu rfl #[.agg #[.string t114,.slice Ao29 t115.length co29,.slice Ao30 t118.length co30],.int .i64 1] rfl zc ?_;(with_reducible refine (laws_markTala.calls kj14 t114 (fun k_=>some k_=(.slice Ao29 t115.length co29:Value).ownBlock) (.slice Ao29 t115.length co29) t115 (fun k_=>some k_=(.slice Ao30 t118.length co30:Value).ownBlock) (.slice Ao30 t118.length co30) t118 1 t135 t136 t137 w _ ?side1 ?side2 ?side3 ?side4 ?side5 A44.out).mono ?_);(case side1=>exact zi);(case side2=>exact Kd.R_tight rfl HO_122001.out);(case side3=>exact fun k_ e_=>(HO_122001.out.1 k_ e_.symm).1.1);(case side4=>exact Kd.R_tight rfl HO_122002.out);(case side5=>exact fun k_ e_=>(HO_122002.out.1 k_ e_.symm).1.1);rintro e w53 ⟨rfl,hy0,hy1,hb,hkp⟩;refine ⟨_,rfl,?_⟩;have n0_:=Aside0.mk (Kd.R_mono (ok':=fun k_=>some k_≠(v123:Value).ownBlock) (Kd.R_keptB ((Kd.R_apart' (Kd.R_apart' HO_8.out (Kd.R_typed HO_122001.out) zbm) (Kd.R_typed HO_122002.out) zbm)) hkp (fun k_ hk_ hs_=>Or.elim hs_ (fun e_=>(hk_.1.2) e_) (fun e_=>(hk_.2) e_))) (fun k_ hk_=>hk_.1.1.1));have n1_:=Aside0.mk (Kd.R_mono (ok':=fun k_=>some k_≠(v111:Value).ownBlock) (Kd.R_keptB ((Kd.R_apart' (Kd.R_apart' HO_11.out (Kd.R_typed HO_122001.out) zbm) (Kd.R_typed HO_122002.out) zbm)) hkp (fun k_ hk_ hs_=>Or.elim hs_ (fun e_=>(hk_.1.2) e_) (fun e_=>(hk_.2) e_))) (fun k_ hk_=>hk_.1.1.1));have n2_:=Aside0.mk (Kd.R_reok rfl hy0 (fun k_ e_=>HO_122001.out.1 k_ e_));have n3_:=Aside0.mk (Kd.R_reok rfl hy1 (fun k_ e_=>HO_122002.out.1 k_ e_));have n4_:=Aside0.mk (blk_kept zd hkp (fun hs_=>Or.elim hs_ (fun e_=>(fun e_=>(Kd.R_ne HO_122001.out BK101.out zbm) e_) e_) (fun e_=>(fun e_=>(Kd.R_ne HO_122002.out BK101.out zbm) e_) e_)));have n5_:=Aside0.mk (blk_kept zw hkp (fun hs_=>Or.elim hs_ (fun e_=>(fun e_=>(Kd.R_ne HO_122001.out BK121.out zbm) e_) e_) (fun e_=>(fun e_=>(Kd.R_ne HO_122002.out BK121.out zbm) e_) e_)));have n6_:=Aside0.mk (Kd.R_mono (ok':=fun k_=>some k_≠(.slice Ao29 t115.length co29:Value).ownBlock∧some k_≠(.slice Ao30 t118.length co30:Value).ownBlock∧some k_≠(.slice Ao49 t131.length co49:Value).ownBlock) (Kd.R_keptB (HO130.out) hkp (fun k_ hk_ hs_=>Or.elim hs_ (fun e_=>(hk_.1.2) e_) (fun e_=>(hk_.2) e_))) (fun k_ hk_=>⟨hk_.1.1.2,hk_.1.2,hk_.1.1.1⟩));have n7_:=Aside0.mk (Kd.R_mono (ok':=fun k_=>some k_≠(.slice Ao29 t115.length co29:Value).ownBlock∧some k_≠(.slice Ao30 t118.length co30:Value).ownBlock∧some k_≠(.slice Ao48 t128.length co48:Value).ownBlock) (Kd.R_keptB (HO133.out) hkp (fun k_ hk_ hs_=>Or.elim hs_ (fun e_=>(hk_.1.2) e_) (fun e_=>(hk_.2) e_))) (fun k_ hk_=>⟨hk_.1.1.2,hk_.1.2,hk_.1.1.1⟩));have n8_:=Aside0.mk (hb);clear HO_8;clear HO_11;clear HO_122001;clear HO_122002;clear BK101;clear BK121;clear HO130;clear HO133;clear HB;have HO_8:=n0_;have HO_11:=n1_;have HO_122001:=n2_;have HO_122002:=n3_;have BK101:=n4_;have BK121:=n5_;have HO130:=n6_;have HO133:=n7_;have HB:=n8_;clear n0_ n1_ n2_ n3_ n4_ n5_ n6_ n7_ n8_;(try clear hb);(try clear hkp);(try clear hy0);(try clear hy1)))
       (try simp only [Act.put,List.setIfInBounds_toArray,List.set_cons_zero,List.set_cons_succ])
       go_cut [72] (fun v72 wc=>∃(kq:Nat) (x72_44:Bool),v72 = .bool x72_44∧Aside0 (laws_FnExactReadBars.j1 kq a0 a2 t110 t113 t122 x72_44 a1_0 l1_1 l1_2=some r)∧Aside0 (kq≤kj14)∧Aside0 (Kd.R k67 67 wc w.heap.size (fun k_=>some k_≠(v123:Value).ownBlock) v111 t110)∧Aside0 (Kd.R k67 67 wc w.heap.size (fun k_=>some k_≠(v111:Value).ownBlock) v123 t122)∧Aside0 (Kd.R (Kd.int .i64) 2 wc w.heap.size (fun k_=>some k_≠((.slice Ao30 t118.length co30):Value).ownBlock) (.slice Ao29 t115.length co29) t136)∧Aside0 (Kd.R (Kd.int .i64) 2 wc w.heap.size (fun k_=>some k_≠((.slice Ao29 t115.length co29):Value).ownBlock) (.slice Ao30 t118.length co30) t137)∧Aside0 (wc.heap[gb101]?=some (.cells #[.string a1_0,(.slice A1_1 l1_1.length c1_1),(.slice A1_2 l1_2.length c1_2)] 46 (0,0)))∧Aside0 (wc.heap[gb121]?=some (.cells #[.string t114,(.slice Ao29 t115.length co29),(.slice Ao30 t118.length co30)] 50 (0,0)))∧Aside0 (Below w.heap.size w wc))
       case first=>
        have H:=HC45.out
        clear HC45
        by_cases c54:t135<0
        ·rw [if_pos c54] at H
         have c54b0:decide (t135<0)=true:=decide_eq_true c54
         clear c54
         (first|rw [c54b0]|(simp only [i64_w,i32_w];rw [c54b0])|skip)
         have H':=Aside0.mk H
         clear H
         go_wp2
         go_meet
         case rel=>exact ⟨_,(true),zf,H',⟨by have:=HJ14.out;first|omega|exact Nat.le_refl _⟩,⟨zq⟩,⟨zay⟩,⟨by (with_reducible repeat (first|apply Kd.R_alloc|apply Kd.R_drewN|apply Kd.R_drew));exact Kd.R_mono HO_122001.out (fun _ hk=>hk.1.1)⟩,⟨by (with_reducible repeat (first|apply Kd.R_alloc|apply Kd.R_drewN|apply Kd.R_drew));exact Kd.R_mono HO_122002.out (fun _ hk=>hk.1.1)⟩,⟨zd⟩,⟨zw⟩,⟨zi⟩⟩
        ·rw [if_neg c54] at H
         have c54b0:decide (t135<0)=false:=decide_eq_false c54
         clear c54
         (first|rw [c54b0]|(simp only [i64_w,i32_w];rw [c54b0])|skip)
         replace H:=Option.bind_eq_some_iff.mp H
         obtain ⟨t138,A550,H⟩:=H
         replace H:(if t138=true then (laws_FnExactReadBars.j1 kj14 a0 a2 t110 t113 t122 (t125 != t113) a1_0 l1_1 l1_2) else (laws_FnExactReadBars.j1 kj14 a0 a2 t110 t113 t122 true a1_0 l1_1 l1_2))=some r:=H
         have A55:=Aside0.mk A550
         clear A550
         by_cases c56:t138=true
         ·subst c56
          have H1:(laws_FnExactReadBars.j1 kj14 a0 a2 t110 t113 t122 (t125 != t113) a1_0 l1_1 l1_2)=some r:=by rw [if_pos rfl] at H;exact H
          clear H
          have H:=H1
          clear H1
          have H':=Aside0.mk H
          clear H
          obtain ⟨Ao57,co57,eo57⟩:=Kd.R_slice HO_11.out
          subst eo57
          obtain ⟨Ao58,co58,eo58⟩:=Kd.R_slice HO_8.out
          subst eo58
          go_wp2_with (first|(go_at_call 32;(with_reducible refine (laws_eqNoteS.calls kj14 _ _ t122 _ _ t110 true _ ?side1 ?side2 ?side3 ?side4 A55.out).mono ?_);(case side1=>exact zaz);(case side2=>exact (Kd.R_reads' HO_11.out).2.1);(case side3=>exact zcf);(case side4=>exact (Kd.R_reads' HO_8.out).2.1);rintro e w59 ⟨rfl,hb⟩;replace HO_8:=Aside0.mk (Kd.R_below zq hb);replace HO_11:=Aside0.mk (Kd.R_below zay hb);replace HO_122001:=Aside0.mk (Kd.R_below zan hb);replace HO_122002:=Aside0.mk (Kd.R_below zao hb);replace HO130:=Aside0.mk (Kd.R_below zdb hb);replace HO133:=Aside0.mk (Kd.R_below zdc hb);replace BK101:=Aside0.mk (blk_below (g:=gb101) (o:=.cells #[.string a1_0,.slice A1_1 l1_1.length c1_1,.slice A1_2 l1_2.length c1_2] 46 (0,0)) zd hb);replace BK121:=Aside0.mk (blk_below (g:=gb121) (o:=.cells #[.string t114,.slice Ao29 t115.length co29,.slice Ao30 t118.length co30] 50 (0,0)) zw hb);replace HB:=Aside0.mk (below_step zi hb);(try clear hb);(try clear hb2);(try clear hk);(try clear hi)))
          go_meet
          case rel=>exact ⟨_,((t125 != t113)),zf,H',⟨by have:=HJ14.out;first|omega|exact Nat.le_refl _⟩,⟨zq⟩,⟨zay⟩,⟨by (with_reducible repeat (first|apply Kd.R_alloc|apply Kd.R_drewN|apply Kd.R_drew));exact Kd.R_mono HO_122001.out (fun _ hk=>hk.1.1)⟩,⟨by (with_reducible repeat (first|apply Kd.R_alloc|apply Kd.R_drewN|apply Kd.R_drew));exact Kd.R_mono HO_122002.out (fun _ hk=>hk.1.1)⟩,⟨zd⟩,⟨zw⟩,⟨zi⟩⟩
         ·replace c56:=Bool.eq_false_iff.mpr c56
          subst c56
          have H1:(laws_FnExactReadBars.j1 kj14 a0 a2 t110 t113 t122 true a1_0 l1_1 l1_2)=some r:=by rw [if_neg (show ¬ (false=true) by decide)] at H;exact H
          clear H
          have H:=H1
          clear H1
          have H':=Aside0.mk H
          clear H
          obtain ⟨Ao60,co60,eo60⟩:=Kd.R_slice HO_11.out
          subst eo60
          obtain ⟨Ao61,co61,eo61⟩:=Kd.R_slice HO_8.out
          subst eo61
          go_wp2_with (first|(go_at_call 32;(with_reducible refine (laws_eqNoteS.calls kj14 _ _ t122 _ _ t110 false _ ?side1 ?side2 ?side3 ?side4 A55.out).mono ?_);(case side1=>exact zaz);(case side2=>exact (Kd.R_reads' HO_11.out).2.1);(case side3=>exact zcf);(case side4=>exact (Kd.R_reads' HO_8.out).2.1);rintro e w62 ⟨rfl,hb⟩;replace HO_8:=Aside0.mk (Kd.R_below zq hb);replace HO_11:=Aside0.mk (Kd.R_below zay hb);replace HO_122001:=Aside0.mk (Kd.R_below zan hb);replace HO_122002:=Aside0.mk (Kd.R_below zao hb);replace HO130:=Aside0.mk (Kd.R_below zdb hb);replace HO133:=Aside0.mk (Kd.R_below zdc hb);replace BK101:=Aside0.mk (blk_below (g:=gb101) (o:=.cells #[.string a1_0,.slice A1_1 l1_1.length c1_1,.slice A1_2 l1_2.length c1_2] 46 (0,0)) zd hb);replace BK121:=Aside0.mk (blk_below (g:=gb121) (o:=.cells #[.string t114,.slice Ao29 t115.length co29,.slice Ao30 t118.length co30] 50 (0,0)) zw hb);replace HB:=Aside0.mk (below_step zi hb);(try clear hb);(try clear hb2);(try clear hk);(try clear hi)))
          go_meet
          case rel=>exact ⟨_,(true),zf,H',⟨by have:=HJ14.out;first|omega|exact Nat.le_refl _⟩,⟨zq⟩,⟨zay⟩,⟨by (with_reducible repeat (first|apply Kd.R_alloc|apply Kd.R_drewN|apply Kd.R_drew));exact Kd.R_mono HO_122001.out (fun _ hk=>hk.1.1)⟩,⟨by (with_reducible repeat (first|apply Kd.R_alloc|apply Kd.R_drewN|apply Kd.R_drew));exact Kd.R_mono HO_122002.out (fun _ hk=>hk.1.1)⟩,⟨zd⟩,⟨zw⟩,⟨zi⟩⟩
       case rest=>
        clear HC45
        try clear c1
        try clear c2
        try clear p2
        try clear c3
        try clear c4
        try clear c4b0
        try clear c4b1
        try clear c5
        try clear c7
        try clear c7b0
        try clear c25
        try clear c27
        try clear c29
        try clear c30
        try clear c31
        try clear c32
        try clear c33
        try clear c40
        try clear c43
        try clear c51
        try clear c54
        try clear c54b0
        try clear c56
        try clear hcz17_0
        try clear hcz17_1
        try clear hcz17_2
        try clear hcz19_0
        try clear hcz19_1
        try clear hcz19_2
        try clear hcz24_0
        try clear hcz24_1
        try clear hcz24_2
        try clear hcz28_0
        try clear hcz28_1
        try clear hcz28_2
        try clear hcz52_0
        try clear hcz52_1
        try clear hcz52_2
        try clear hcz9_0
        try clear hcz9_1
        try clear hcz9_2
        try clear hfz17_0
        try clear hfz17_1
        try clear hfz17_2
        try clear hfz19_0
        try clear hfz19_1
        try clear hfz19_2
        try clear hfz24_0
        try clear hfz24_1
        try clear hfz24_2
        try clear hfz28_0
        try clear hfz28_1
        try clear hfz28_2
        try clear hfz52_0
        try clear hfz52_1
        try clear hfz52_2
        try clear hfz9_0
        try clear hfz9_1
        try clear hfz9_2
        try clear p2
        obtain ⟨kq,x72_44,rfl,HA,HJ44,HO_8,HO_11,HO_122001,HO_122002,BK101,BK121,HB⟩:=hcut
        have hl122001_44:=(Kd.R_reads' HO_122001.out).1
        rw [hl122001_44] at HO_122001
        (try simp only [hl122001_44])
        (try simp only [hl122001_44] at BK101)
        (try simp only [hl122001_44] at BK121)
        (try simp only [hl122001_44] at HO_8)
        (try simp only [hl122001_44] at HO_11)
        (try simp only [hl122001_44] at HO_122002)
        have hl122002_44:=(Kd.R_reads' HO_122002.out).1
        rw [hl122002_44] at HO_122002
        (try simp only [hl122002_44])
        (try simp only [hl122002_44] at BK101)
        (try simp only [hl122002_44] at BK121)
        (try simp only [hl122002_44] at HO_8)
        (try simp only [hl122002_44] at HO_11)
        (try simp only [hl122002_44] at HO_122001)
        cases kq with
        | zero=>exact absurd HA.out (by simp [laws_FnExactReadBars.j1])
        | succ kj44=>
         have H:=HA.out
         clear HA
         simp only [laws_FnExactReadBars.j1] at H
         by_cases c63:x72_44=true
         ·subst c63
          have H1:(some false)=some r:=by rw [if_pos rfl] at H;exact H
          clear H
          have H:=H1
          clear H1
          obtain rfl:=Option.some.inj H
          go_wp2
          go_ret
          exact ⟨zg,zi⟩
         ·replace c63:=Bool.eq_false_iff.mpr c63
          subst c63
          have H1:((laws_markNoteS.f kj44 t122 1).bind fun bt139=>((laws_heldNoteS.f kj44 bt139.2 1).bind fun t141=>(if t141<0 then (some false) else (if t141=bt139.1 then ((laws_toTala.f kj44 a1_0 l1_1 l1_2).bind fun bt142=>((impl_ReadBars.f kj44 a0 bt142.1 bt142.2.1 bt142.2.2 a2).bind fun bt149=>((laws_eqNoteS.f kj44 bt149.1 t110).bind fun t153=>(if t153=true then (laws_FnExactReadBars.j2 kj44 bt139.2 bt139.1 (bt149.2 != t113)) else (laws_FnExactReadBars.j2 kj44 bt139.2 bt139.1 true))))) else (some false)))))=some r:=by rw [if_neg (show ¬ (false=true) by decide)] at H;exact H
          clear H
          have H:=H1
          clear H1
          replace H:=Option.bind_eq_some_iff.mp H
          obtain ⟨⟨t139,t140⟩,A640,H⟩:=H
          replace H:((laws_heldNoteS.f kj44 t140 1).bind fun t141=>(if t141<0 then (some false) else (if t141=t139 then ((laws_toTala.f kj44 a1_0 l1_1 l1_2).bind fun bt142=>((impl_ReadBars.f kj44 a0 bt142.1 bt142.2.1 bt142.2.2 a2).bind fun bt149=>((laws_eqNoteS.f kj44 bt149.1 t110).bind fun t153=>(if t153=true then (laws_FnExactReadBars.j2 kj44 t140 t139 (bt149.2 != t113)) else (laws_FnExactReadBars.j2 kj44 t140 t139 true))))) else (some false))))=some r:=H
          have A64:=Aside0.mk A640
          clear A640
          replace H:=Option.bind_eq_some_iff.mp H
          obtain ⟨t141,A650,H⟩:=H
          replace H:(if t141<0 then (some false) else (if t141=t139 then ((laws_toTala.f kj44 a1_0 l1_1 l1_2).bind fun bt142=>((impl_ReadBars.f kj44 a0 bt142.1 bt142.2.1 bt142.2.2 a2).bind fun bt149=>((laws_eqNoteS.f kj44 bt149.1 t110).bind fun t153=>(if t153=true then (laws_FnExactReadBars.j2 kj44 t140 t139 (bt149.2 != t113)) else (laws_FnExactReadBars.j2 kj44 t140 t139 true))))) else (some false)))=some r:=H
          have A65:=Aside0.mk A650
          clear A650
          by_cases c66:t141<0
          ·rw [if_pos c66] at H
           have c66b0:decide (t141<0)=true:=decide_eq_true c66
           clear c66
           obtain rfl:=Option.some.inj H
           obtain ⟨Ao67,co67,eo67⟩:=Kd.R_slice HO_11.out
           subst eo67
           go_wp2_with (first|((with_reducible refine gate_callee (f:=34) rfl ?_);refine goesL_ (some 75) rfl rfl Tryz.func34 zu rfl #[.slice Ao67 t122.length co67,.int .i64 1] rfl zc ?_;(with_reducible refine (laws_markNoteS.calls kj44 (fun k_=>some k_=(.slice Ao67 t122.length co67:Value).ownBlock) (.slice Ao67 t122.length co67) t122 1 t139 t140 w _ ?side1 ?side2 A64.out).mono ?_);(case side1=>exact zi);(case side2=>exact Kd.R_tight rfl HO_11.out);rintro e w68 ⟨rfl,hy0,hb,hkp⟩;refine ⟨_,rfl,?_⟩;have n0_:=Aside0.mk (Kd.R_mono (ok':=fun k_=>some k_≠(.slice Ao67 t122.length co67:Value).ownBlock) (Kd.R_keptB (HO_8.out) hkp (fun k_ hk_ hs_=>(hk_) hs_)) (fun k_ hk_=>hk_.1));have n1_:=Aside0.mk (Kd.R_reok rfl hy0 (fun k_ e_=>HO_11.out.1 k_ e_));have n2_:=Aside0.mk (Kd.R_mono (ok':=fun k_=>some k_≠(.slice Ao30 t137.length co30:Value).ownBlock) (Kd.R_keptB ((Kd.R_apart' HO_122001.out (Kd.R_typed HO_11.out) zbm)) hkp (fun k_ hk_ hs_=>(hk_.2) hs_)) (fun k_ hk_=>hk_.1.1));have n3_:=Aside0.mk (Kd.R_mono (ok':=fun k_=>some k_≠(.slice Ao29 t136.length co29:Value).ownBlock) (Kd.R_keptB ((Kd.R_apart' HO_122002.out (Kd.R_typed HO_11.out) zbm)) hkp (fun k_ hk_ hs_=>(hk_.2) hs_)) (fun k_ hk_=>hk_.1.1));have n4_:=Aside0.mk (blk_kept zd hkp (fun hs_=>(fun e_=>(Kd.R_ne HO_11.out BK101.out zbm) e_) hs_));have n5_:=Aside0.mk (blk_kept zw hkp (fun hs_=>(fun e_=>(Kd.R_ne HO_11.out BK121.out zbm) e_) hs_));have n6_:=Aside0.mk (hb);clear HO_8;clear HO_11;clear HO_122001;clear HO_122002;clear BK101;clear BK121;clear HB;have HO_8:=n0_;have HO_11:=n1_;have HO_122001:=n2_;have HO_122002:=n3_;have BK101:=n4_;have BK121:=n5_;have HB:=n6_;clear n0_ n1_ n2_ n3_ n4_ n5_ n6_;(try clear hb);(try clear hkp);(try clear hy0))|((with_reducible refine gate_callee (f:=35) rfl ?_);refine goesL_ (some 78) rfl rfl Tryz.func35 zu rfl #[.slice Ao67 t140.length co67,.int .i64 1] rfl zcg ?_;(with_reducible refine (laws_heldNoteS.calls kj44 _ _ t140 1 t141 _ ?side1 ?side2 A65.out).mono ?_);(case side1=>exact zaz);(case side2=>rw [show t140.length=t122.length from (Kd.R_reads' HO_11.out).1.symm];exact (Kd.R_reads' HO_11.out).2.1);rintro e w' ⟨rfl,⟨nd,rfl⟩⟩;refine ⟨_,rfl,?_⟩))
           go_ret
           exact ⟨zg,zi⟩
          ·rw [if_neg c66] at H
           have c66b0:decide (t141<0)=false:=decide_eq_false c66
           clear c66
           by_cases c69:t141=t139
           ·rw [if_pos c69] at H
            have c69b0:(t141 == t139)=true:=beq_iff_eq.mpr c69
            have c69b1:(t141 != t139)=false:=bne_eq_false_iff_eq.mpr c69
            clear c69
            replace H:=Option.bind_eq_some_iff.mp H
            obtain ⟨⟨t142,t143,t146⟩,A700,H⟩:=H
            replace H:((impl_ReadBars.f kj44 a0 t142 t143 t146 a2).bind fun bt149=>((laws_eqNoteS.f kj44 bt149.1 t110).bind fun t153=>(if t153=true then (laws_FnExactReadBars.j2 kj44 t140 t139 (bt149.2 != t113)) else (laws_FnExactReadBars.j2 kj44 t140 t139 true))))=some r:=H
            have A70:=Aside0.mk A700
            clear A700
            replace H:=Option.bind_eq_some_iff.mp H
            obtain ⟨⟨t149,t152⟩,A710,H⟩:=H
            replace H:((laws_eqNoteS.f kj44 t149 t110).bind fun t153=>(if t153=true then (laws_FnExactReadBars.j2 kj44 t140 t139 (t152 != t113)) else (laws_FnExactReadBars.j2 kj44 t140 t139 true)))=some r:=H
            have A71:=Aside0.mk A710
            clear A710
            have HC72:=Aside0.mk H
            clear H
            obtain ⟨Ao73,co73,eo73⟩:=Kd.R_slice HO_11.out
            subst eo73
            go_upto_region 27 with (first|((with_reducible refine gate_callee (f:=34) rfl ?_);refine goesL_ (some 75) rfl rfl Tryz.func34 zu rfl #[.slice Ao73 t122.length co73,.int .i64 1] rfl zc ?_;(with_reducible refine (laws_markNoteS.calls kj44 (fun k_=>some k_=(.slice Ao73 t122.length co73:Value).ownBlock) (.slice Ao73 t122.length co73) t122 1 t139 t140 w _ ?side1 ?side2 A64.out).mono ?_);(case side1=>exact zi);(case side2=>exact Kd.R_tight rfl HO_11.out);rintro e w74 ⟨rfl,hy0,hb,hkp⟩;refine ⟨_,rfl,?_⟩;have n0_:=Aside0.mk (Kd.R_mono (ok':=fun k_=>some k_≠(.slice Ao73 t122.length co73:Value).ownBlock) (Kd.R_keptB (HO_8.out) hkp (fun k_ hk_ hs_=>(hk_) hs_)) (fun k_ hk_=>hk_.1));have n1_:=Aside0.mk (Kd.R_reok rfl hy0 (fun k_ e_=>HO_11.out.1 k_ e_));have n2_:=Aside0.mk (Kd.R_mono (ok':=fun k_=>some k_≠(.slice Ao30 t137.length co30:Value).ownBlock) (Kd.R_keptB ((Kd.R_apart' HO_122001.out (Kd.R_typed HO_11.out) zbm)) hkp (fun k_ hk_ hs_=>(hk_.2) hs_)) (fun k_ hk_=>hk_.1.1));have n3_:=Aside0.mk (Kd.R_mono (ok':=fun k_=>some k_≠(.slice Ao29 t136.length co29:Value).ownBlock) (Kd.R_keptB ((Kd.R_apart' HO_122002.out (Kd.R_typed HO_11.out) zbm)) hkp (fun k_ hk_ hs_=>(hk_.2) hs_)) (fun k_ hk_=>hk_.1.1));have n4_:=Aside0.mk (blk_kept zd hkp (fun hs_=>(fun e_=>(Kd.R_ne HO_11.out BK101.out zbm) e_) hs_));have n5_:=Aside0.mk (blk_kept zw hkp (fun hs_=>(fun e_=>(Kd.R_ne HO_11.out BK121.out zbm) e_) hs_));have n6_:=Aside0.mk (hb);clear HO_8;clear HO_11;clear HO_122001;clear HO_122002;clear BK101;clear BK121;clear HB;have HO_8:=n0_;have HO_11:=n1_;have HO_122001:=n2_;have HO_122002:=n3_;have BK101:=n4_;have BK121:=n5_;have HB:=n6_;clear n0_ n1_ n2_ n3_ n4_ n5_ n6_;(try clear hb);(try clear hkp);(try clear hy0))|((with_reducible refine gate_callee (f:=35) rfl ?_);refine goesL_ (some 78) rfl rfl Tryz.func35 zu rfl #[.slice Ao73 t140.length co73,.int .i64 1] rfl zcg ?_;(with_reducible refine (laws_heldNoteS.calls kj44 _ _ t140 1 t141 _ ?side1 ?side2 A65.out).mono ?_);(case side1=>exact zaz);(case side2=>rw [show t140.length=t122.length from (Kd.R_reads' HO_11.out).1.symm];exact (Kd.R_reads' HO_11.out).2.1);rintro e w' ⟨rfl,⟨nd,rfl⟩⟩;refine ⟨_,rfl,?_⟩;have hnb75:=NB101_121.out;have hnc75:=NB121_101.out;have hcz76_0:w74.cell? ⟨gb101,0,none⟩=some (.string a1_0):=(blk_cell BK101.out 0).trans rfl;have hcz76_1:w74.cell? ⟨gb101,1,none⟩=some (.slice A1_1 l1_1.length c1_1):=(blk_cell BK101.out 1).trans rfl;have hcz76_2:w74.cell? ⟨gb101,2,none⟩=some (.slice A1_2 l1_2.length c1_2):=(blk_cell BK101.out 2).trans rfl;have hfz76_0:=blk_frozen BK101.out 0;have hfz76_1:=blk_frozen BK101.out 1;have hfz76_2:=blk_frozen BK101.out 2)|((with_reducible refine gate_callee (f:=27) rfl ?_);refine goesL_ (some 87) rfl rfl Tryz.func27 zu rfl #[.agg #[.string a1_0,.slice A1_1 l1_1.length c1_1,.slice A1_2 l1_2.length c1_2]] rfl zc ?_;(with_reducible refine (laws_toTala.calls kj44 a1_0 _ _ l1_1 _ _ l1_2 t142 t143 t146 _ ?side1 ?side2 ?side3 ?side4 A70.out).mono ?_);(case side1=>repeat (first|exact (Kd.C_below HR1_1.out zi)|(with_reducible refine Kd.C_alloc ?_ _)|(with_reducible refine Kd.C_drewN ?_ _)|(with_reducible refine Kd.C_drew ?_)));(case side2=>exact HC1_1.out);(case side3=>repeat (first|exact (Kd.C_below HR1_2.out zi)|(with_reducible refine Kd.C_alloc ?_ _)|(with_reducible refine Kd.C_drewN ?_ _)|(with_reducible refine Kd.C_drew ?_)));(case side4=>exact HC1_2.out);rintro e w77 ⟨v144,v147,rfl,ho0,ho1,hb⟩;refine ⟨_,rfl,?_⟩;have n0_:=Aside0.mk (Kd.R_below zq hb);have n1_:=Aside0.mk (Kd.R_below zay hb);have n2_:=Aside0.mk (Kd.R_mono (Kd.R_told (Kd.R_told (Kd.R_old zan hb) (Kd.R_base ho0)) (Kd.R_base ho1)) (fun _ h_=>h_.1));have n3_:=Aside0.mk (Kd.R_mono (Kd.R_told (Kd.R_told (Kd.R_old zao hb) (Kd.R_base ho0)) (Kd.R_base ho1)) (fun _ h_=>h_.1));have n4_:=Aside0.mk (Kd.R_lower (Kd.R_new' (Kd.R_new' ho0 (Kd.R_lt zan)) (Kd.R_lt zao)) (below_size zi));have n5_:=Aside0.mk (Kd.R_lower (Kd.R_new' (Kd.R_new' ho1 (Kd.R_lt zan)) (Kd.R_lt zao)) (below_size zi));have n6_:=Aside0.mk (blk_below (g:=gb101) (o:=.cells #[.string a1_0,.slice A1_1 l1_1.length c1_1,.slice A1_2 l1_2.length c1_2] 46 (0,0)) zd hb);have n7_:=Aside0.mk (blk_below (g:=gb121) (o:=.cells #[.string t114,.slice Ao29 t136.length co29,.slice Ao30 t137.length co30] 50 (0,0)) zw hb);have n8_:=Aside0.mk (below_step zi hb);clear HO_8;clear HO_11;clear HO_122001;clear HO_122002;clear BK101;clear BK121;clear HB;have HO_8:=n0_;have HO_11:=n1_;have HO_122001:=n2_;have HO_122002:=n3_;have HO145:=n4_;have HO148:=n5_;have BK101:=n6_;have BK121:=n7_;have HB:=n8_;clear n0_ n1_ n2_ n3_ n4_ n5_ n6_ n7_ n8_;(try clear hb);(try clear hb2);(try clear hk);(try clear hi);(try clear ho0);(try clear ho1);obtain ⟨Ao78,co78,eo78⟩:=Kd.R_slice HO145.out;subst eo78;obtain ⟨Ao79,co79,eo79⟩:=Kd.R_slice HO148.out;subst eo79)|((with_reducible refine gate_callee (f:=31) rfl ?_);refine goesL_ (some 89) rfl rfl Tryz.func31 zu rfl #[.string a0,.agg #[.string t142,.slice Ao78 t143.length co78,.slice Ao79 t146.length co79],.int .i64 a2] rfl zc ?_;(with_reducible refine (impl_ReadBars.calls kj44 a0 t142 _ _ t143 _ _ t146 a2 t149 t152 _ ?side5 ?side1 ?side2 ?side3 ?side4 A71.out).mono ?_);(case side1=>repeat (first|exact (Kd.R_reads' HO145.out).2.2|(with_reducible refine Kd.C_alloc ?_ _)|(with_reducible refine Kd.C_drewN ?_ _)|(with_reducible refine Kd.C_drew ?_)));(case side2=>exact (Kd.R_reads' HO145.out).2.1);(case side3=>repeat (first|exact (Kd.R_reads' HO148.out).2.2|(with_reducible refine Kd.C_alloc ?_ _)|(with_reducible refine Kd.C_drewN ?_ _)|(with_reducible refine Kd.C_drew ?_)));(case side4=>exact (Kd.R_reads' HO148.out).2.1);(case side5=>exact Door2.at HD.out zi);rintro e w80 ⟨v150,rfl,ho0,hb⟩;refine ⟨_,rfl,?_⟩;have n0_:=Aside0.mk (Kd.R_elder' zq (Kd.R_base ho0) hb);have n1_:=Aside0.mk (Kd.R_elder' zay (Kd.R_base ho0) hb);have n2_:=Aside0.mk (Kd.R_below zan hb);have n3_:=Aside0.mk (Kd.R_below zao hb);have n4_:=Aside0.mk (Kd.R_below (by (with_reducible repeat (first|apply Kd.R_alloc|apply Kd.R_drewN|apply Kd.R_drew));exact HO145.out) hb);have n5_:=Aside0.mk (Kd.R_below (by (with_reducible repeat (first|apply Kd.R_alloc|apply Kd.R_drewN|apply Kd.R_drew));exact HO148.out) hb);have n6_:=Aside0.mk (Kd.R_lower (Kd.R_new' (Kd.R_new' ho0 (Kd.R_lt zq)) (Kd.R_lt zay)) (below_size zi));have n7_:=Aside0.mk (blk_below (g:=gb101) (o:=.cells #[.string a1_0,.slice A1_1 l1_1.length c1_1,.slice A1_2 l1_2.length c1_2] 46 (0,0)) zd hb);have n8_:=Aside0.mk (blk_below (g:=gb121) (o:=.cells #[.string t114,.slice Ao29 t136.length co29,.slice Ao30 t137.length co30] 50 (0,0)) zw hb);have n9_:=Aside0.mk (below_step zi hb);clear HO_8;clear HO_11;clear HO_122001;clear HO_122002;clear HO145;clear HO148;clear BK101;clear BK121;clear HB;have HO_8:=n0_;have HO_11:=n1_;have HO_122001:=n2_;have HO_122002:=n3_;have HO145:=n4_;have HO148:=n5_;have HO151:=n6_;have BK101:=n7_;have BK121:=n8_;have HB:=n9_;clear n0_ n1_ n2_ n3_ n4_ n5_ n6_ n7_ n8_ n9_;(try clear hb);(try clear hb2);(try clear hk);(try clear hi);(try clear ho0)))
            (try simp only [Act.put,List.setIfInBounds_toArray,List.set_cons_zero,List.set_cons_succ])
            go_cut [100] (fun v100 wc=>∃(kq:Nat) (x100_71:Bool),v100 = .bool x100_71∧Aside0 (laws_FnExactReadBars.j2 kq t140 t139 x100_71=some r)∧Aside0 (kq≤kj44)∧Aside0 (Kd.R k67 67 wc w.heap.size (fun _=>True) (.slice Ao73 t122.length co73) t140)∧Aside0 (Kd.R (Kd.int .i64) 2 wc w.heap.size (fun k_=>some k_≠((.slice Ao30 t137.length co30):Value).ownBlock) (.slice Ao29 t136.length co29) t136)∧Aside0 (Kd.R (Kd.int .i64) 2 wc w.heap.size (fun k_=>some k_≠((.slice Ao29 t136.length co29):Value).ownBlock) (.slice Ao30 t137.length co30) t137)∧Aside0 (wc.heap[gb101]?=some (.cells #[.string a1_0,(.slice A1_1 l1_1.length c1_1),(.slice A1_2 l1_2.length c1_2)] 46 (0,0)))∧Aside0 (wc.heap[gb121]?=some (.cells #[.string t114,(.slice Ao29 t136.length co29),(.slice Ao30 t137.length co30)] 50 (0,0)))∧Aside0 (Below w.heap.size w wc))
            case first=>
             have H:=HC72.out
             clear HC72
             replace H:=Option.bind_eq_some_iff.mp H
             obtain ⟨t153,A810,H⟩:=H
             replace H:(if t153=true then (laws_FnExactReadBars.j2 kj44 t140 t139 (t152 != t113)) else (laws_FnExactReadBars.j2 kj44 t140 t139 true))=some r:=H
             have A81:=Aside0.mk A810
             clear A810
             by_cases c82:t153=true
             ·subst c82
              have H1:(laws_FnExactReadBars.j2 kj44 t140 t139 (t152 != t113))=some r:=by rw [if_pos rfl] at H;exact H
              clear H
              have H:=H1
              clear H1
              have H':=Aside0.mk H
              clear H
              obtain ⟨Ao83,co83,eo83⟩:=Kd.R_slice HO151.out
              subst eo83
              obtain ⟨Ao84,co84,eo84⟩:=Kd.R_slice HO_8.out
              subst eo84
              go_wp2_with (first|((with_reducible refine gate_callee (f:=32) rfl ?_);refine goesL_ (some 94) rfl rfl Tryz.func32 zu rfl #[.slice Ao83 t149.length co83,.slice Ao84 t110.length co84] rfl zc ?_;(with_reducible refine (laws_eqNoteS.calls kj44 _ _ t149 _ _ t110 true _ ?side1 ?side2 ?side3 ?side4 A81.out).mono ?_);(case side1=>repeat (first|exact (Kd.R_reads' HO151.out).2.2|(with_reducible refine Kd.C_alloc ?_ _)|(with_reducible refine Kd.C_drewN ?_ _)|(with_reducible refine Kd.C_drew ?_)));(case side2=>exact (Kd.R_reads' HO151.out).2.1);(case side3=>exact zcf);(case side4=>exact (Kd.R_reads' HO_8.out).2.1);rintro e w85 ⟨rfl,hb⟩;refine ⟨_,rfl,?_⟩;replace HO_8:=Aside0.mk (Kd.R_below zq hb);replace HO_11:=Aside0.mk (Kd.R_below zay hb);replace HO_122001:=Aside0.mk (Kd.R_below zan hb);replace HO_122002:=Aside0.mk (Kd.R_below zao hb);replace HO145:=Aside0.mk (Kd.R_below (by (with_reducible repeat (first|apply Kd.R_alloc|apply Kd.R_drewN|apply Kd.R_drew));exact HO145.out) hb);replace HO148:=Aside0.mk (Kd.R_below (by (with_reducible repeat (first|apply Kd.R_alloc|apply Kd.R_drewN|apply Kd.R_drew));exact HO148.out) hb);replace HO151:=Aside0.mk (Kd.R_below (by (with_reducible repeat (first|apply Kd.R_alloc|apply Kd.R_drewN|apply Kd.R_drew));exact HO151.out) hb);replace BK101:=Aside0.mk (blk_below (g:=gb101) (o:=.cells #[.string a1_0,.slice A1_1 l1_1.length c1_1,.slice A1_2 l1_2.length c1_2] 46 (0,0)) zd hb);replace BK121:=Aside0.mk (blk_below (g:=gb121) (o:=.cells #[.string t114,.slice Ao29 t136.length co29,.slice Ao30 t137.length co30] 50 (0,0)) zw hb);replace HB:=Aside0.mk (below_step zi hb);(try clear hb);(try clear hb2);(try clear hk);(try clear hi)))
              go_meet
              case rel=>exact ⟨_,((t152 != t113)),zf,H',⟨by have:=HJ14.out;have:=HJ44.out;first|omega|exact Nat.le_refl _⟩,⟨by (try simp only [hl122001_44]);(try simp only [hl122002_44]);(with_reducible repeat (first|apply Kd.R_alloc|apply Kd.R_drewN|apply Kd.R_drew));exact Kd.R_mono HO_11.out (fun _ hk=>trivial)⟩,⟨by (try simp only [hl122001_44]);(try simp only [hl122002_44]);(with_reducible repeat (first|apply Kd.R_alloc|apply Kd.R_drewN|apply Kd.R_drew));exact Kd.R_mono HO_122001.out (fun _ hk=>hk.1.1)⟩,⟨by (try simp only [hl122001_44]);(try simp only [hl122002_44]);(with_reducible repeat (first|apply Kd.R_alloc|apply Kd.R_drewN|apply Kd.R_drew));exact Kd.R_mono HO_122002.out (fun _ hk=>hk.1.1)⟩,⟨by (try simp only [hl122001_44]);(try simp only [hl122002_44]);(with_reducible repeat (first|refine blk_drewN ?_ _|refine blk_drew ?_|refine blk_alloc ?_ _));exact BK101.out⟩,⟨by (try simp only [hl122001_44]);(try simp only [hl122002_44]);(with_reducible repeat (first|refine blk_drewN ?_ _|refine blk_drew ?_|refine blk_alloc ?_ _));exact BK121.out⟩,⟨zi⟩⟩
             ·replace c82:=Bool.eq_false_iff.mpr c82
              subst c82
              have H1:(laws_FnExactReadBars.j2 kj44 t140 t139 true)=some r:=by rw [if_neg (show ¬ (false=true) by decide)] at H;exact H
              clear H
              have H:=H1
              clear H1
              have H':=Aside0.mk H
              clear H
              obtain ⟨Ao86,co86,eo86⟩:=Kd.R_slice HO151.out
              subst eo86
              obtain ⟨Ao87,co87,eo87⟩:=Kd.R_slice HO_8.out
              subst eo87
              go_wp2_with (first|((with_reducible refine gate_callee (f:=32) rfl ?_);refine goesL_ (some 94) rfl rfl Tryz.func32 zu rfl #[.slice Ao86 t149.length co86,.slice Ao87 t110.length co87] rfl zc ?_;(with_reducible refine (laws_eqNoteS.calls kj44 _ _ t149 _ _ t110 false _ ?side1 ?side2 ?side3 ?side4 A81.out).mono ?_);(case side1=>repeat (first|exact (Kd.R_reads' HO151.out).2.2|(with_reducible refine Kd.C_alloc ?_ _)|(with_reducible refine Kd.C_drewN ?_ _)|(with_reducible refine Kd.C_drew ?_)));(case side2=>exact (Kd.R_reads' HO151.out).2.1);(case side3=>exact zcf);(case side4=>exact (Kd.R_reads' HO_8.out).2.1);rintro e w88 ⟨rfl,hb⟩;refine ⟨_,rfl,?_⟩;replace HO_8:=Aside0.mk (Kd.R_below zq hb);replace HO_11:=Aside0.mk (Kd.R_below zay hb);replace HO_122001:=Aside0.mk (Kd.R_below zan hb);replace HO_122002:=Aside0.mk (Kd.R_below zao hb);replace HO145:=Aside0.mk (Kd.R_below (by (with_reducible repeat (first|apply Kd.R_alloc|apply Kd.R_drewN|apply Kd.R_drew));exact HO145.out) hb);replace HO148:=Aside0.mk (Kd.R_below (by (with_reducible repeat (first|apply Kd.R_alloc|apply Kd.R_drewN|apply Kd.R_drew));exact HO148.out) hb);replace HO151:=Aside0.mk (Kd.R_below (by (with_reducible repeat (first|apply Kd.R_alloc|apply Kd.R_drewN|apply Kd.R_drew));exact HO151.out) hb);replace BK101:=Aside0.mk (blk_below (g:=gb101) (o:=.cells #[.string a1_0,.slice A1_1 l1_1.length c1_1,.slice A1_2 l1_2.length c1_2] 46 (0,0)) zd hb);replace BK121:=Aside0.mk (blk_below (g:=gb121) (o:=.cells #[.string t114,.slice Ao29 t136.length co29,.slice Ao30 t137.length co30] 50 (0,0)) zw hb);replace HB:=Aside0.mk (below_step zi hb);(try clear hb);(try clear hb2);(try clear hk);(try clear hi)))
              go_meet
              case rel=>exact ⟨_,(true),zf,H',⟨by have:=HJ14.out;have:=HJ44.out;first|omega|exact Nat.le_refl _⟩,⟨by (try simp only [hl122001_44]);(try simp only [hl122002_44]);(with_reducible repeat (first|apply Kd.R_alloc|apply Kd.R_drewN|apply Kd.R_drew));exact Kd.R_mono HO_11.out (fun _ hk=>trivial)⟩,⟨by (try simp only [hl122001_44]);(try simp only [hl122002_44]);(with_reducible repeat (first|apply Kd.R_alloc|apply Kd.R_drewN|apply Kd.R_drew));exact Kd.R_mono HO_122001.out (fun _ hk=>hk.1.1)⟩,⟨by (try simp only [hl122001_44]);(try simp only [hl122002_44]);(with_reducible repeat (first|apply Kd.R_alloc|apply Kd.R_drewN|apply Kd.R_drew));exact Kd.R_mono HO_122002.out (fun _ hk=>hk.1.1)⟩,⟨by (try simp only [hl122001_44]);(try simp only [hl122002_44]);(with_reducible repeat (first|refine blk_drewN ?_ _|refine blk_drew ?_|refine blk_alloc ?_ _));exact BK101.out⟩,⟨by (try simp only [hl122001_44]);(try simp only [hl122002_44]);(with_reducible repeat (first|refine blk_drewN ?_ _|refine blk_drew ?_|refine blk_alloc ?_ _));exact BK121.out⟩,⟨zi⟩⟩
            case rest=>
             clear HC72
             try clear c1
             try clear c2
             try clear p2
             try clear c3
             try clear c4
             try clear c4b0
             try clear c4b1
             try clear c5
             try clear c6
             try clear c7
             try clear c7b0
             try clear c8
             try clear c25
             try clear c27
             try clear c29
             try clear c30
             try clear c31
             try clear c32
             try clear c33
             try clear c34
             try clear c35
             try clear c40
             try clear c43
             try clear c51
             try clear c54
             try clear c54b0
             try clear c56
             try clear c63
             try clear c66
             try clear c66b0
             try clear c69
             try clear c69b0
             try clear c69b1
             try clear c75
             try clear c82
             try clear hcz17_0
             try clear hcz17_1
             try clear hcz17_2
             try clear hcz19_0
             try clear hcz19_1
             try clear hcz19_2
             try clear hcz24_0
             try clear hcz24_1
             try clear hcz24_2
             try clear hcz28_0
             try clear hcz28_1
             try clear hcz28_2
             try clear hcz52_0
             try clear hcz52_1
             try clear hcz52_2
             try clear hcz76_0
             try clear hcz76_1
             try clear hcz76_2
             try clear hcz9_0
             try clear hcz9_1
             try clear hcz9_2
             try clear hfz17_0
             try clear hfz17_1
             try clear hfz17_2
             try clear hfz19_0
             try clear hfz19_1
             try clear hfz19_2
             try clear hfz24_0
             try clear hfz24_1
             try clear hfz24_2
             try clear hfz28_0
             try clear hfz28_1
             try clear hfz28_2
             try clear hfz52_0
             try clear hfz52_1
             try clear hfz52_2
             try clear hfz76_0
             try clear hfz76_1
             try clear hfz76_2
             try clear hfz9_0
             try clear hfz9_1
             try clear hfz9_2
             try clear p2
             obtain ⟨kq,x100_71,rfl,HA,HJ71,HO_11,HO_122001,HO_122002,BK101,BK121,HB⟩:=hcut
             have hl11_71:=(Kd.R_reads' HO_11.out).1
             rw [hl11_71] at HO_11
             (try simp only [hl11_71])
             (try simp only [hl11_71] at BK101)
             (try simp only [hl11_71] at BK121)
             (try simp only [hl11_71] at HO_122001)
             (try simp only [hl11_71] at HO_122002)
             cases kq with
             | zero=>exact absurd HA.out (by simp [laws_FnExactReadBars.j2])
             | succ kj71=>
              have H:=HA.out
              clear HA
              simp only [laws_FnExactReadBars.j2] at H
              by_cases c89:x100_71=true
              ·subst c89
               have H1:(some false)=some r:=by rw [if_pos rfl] at H;exact H
               clear H
               have H:=H1
               clear H1
               obtain rfl:=Option.some.inj H
               go_wp2
               go_ret
               exact ⟨zg,zi⟩
              ·replace c89:=Bool.eq_false_iff.mpr c89
               subst c89
               have H1:((laws_heldNoteS.f kj71 t140 1).bind fun t154=>(if t154<0 then (some false) else (if t154=t139 then (some true) else (some false))))=some r:=by rw [if_neg (show ¬ (false=true) by decide)] at H;exact H
               clear H
               have H:=H1
               clear H1
               replace H:=Option.bind_eq_some_iff.mp H
               obtain ⟨t154,A900,H⟩:=H
               replace H:(if t154<0 then (some false) else (if t154=t139 then (some true) else (some false)))=some r:=H
               have A90:=Aside0.mk A900
               clear A900
               by_cases c91:t154<0
               ·rw [if_pos c91] at H
                have c91b0:decide (t154<0)=true:=decide_eq_true c91
                clear c91
                obtain rfl:=Option.some.inj H
                go_wp2_with (first|((with_reducible refine gate_callee (f:=35) rfl ?_);refine goesL_ (some 103) rfl rfl Tryz.func35 zu rfl #[.slice Ao73 t140.length co73,.int .i64 1] rfl zc ?_;(with_reducible refine (laws_heldNoteS.calls kj71 _ _ t140 1 t154 _ ?side1 ?side2 A90.out).mono ?_);(case side1=>exact zaz);(case side2=>exact (Kd.R_reads' HO_11.out).2.1);rintro e w' ⟨rfl,⟨nd,rfl⟩⟩;refine ⟨_,rfl,?_⟩))
                go_ret
                exact ⟨zg,zi⟩
               ·rw [if_neg c91] at H
                have c91b0:decide (t154<0)=false:=decide_eq_false c91
                clear c91
                by_cases c92:t154=t139
                ·rw [if_pos c92] at H
                 have c92b0:(t154 == t139)=true:=beq_iff_eq.mpr c92
                 have c92b1:(t154 != t139)=false:=bne_eq_false_iff_eq.mpr c92
                 clear c92
                 obtain rfl:=Option.some.inj H
                 go_wp2_with (first|((with_reducible refine gate_callee (f:=35) rfl ?_);refine goesL_ (some 103) rfl rfl Tryz.func35 zu rfl #[.slice Ao73 t140.length co73,.int .i64 1] rfl zc ?_;(with_reducible refine (laws_heldNoteS.calls kj71 _ _ t140 1 t154 _ ?side1 ?side2 A90.out).mono ?_);(case side1=>exact zaz);(case side2=>exact (Kd.R_reads' HO_11.out).2.1);rintro e w' ⟨rfl,⟨nd,rfl⟩⟩;refine ⟨_,rfl,?_⟩))
                 go_ret
                 exact ⟨zg,zi⟩
                ·rw [if_neg c92] at H
                 have c92b0:(t154 == t139)=false:=beq_eq_false_iff_ne.mpr c92
                 have c92b1:(t154 != t139)=true:=bne_iff_ne.mpr c92
                 obtain rfl:=Option.some.inj H
                 go_wp2_with (first|((with_reducible refine gate_callee (f:=35) rfl ?_);refine goesL_ (some 103) rfl rfl Tryz.func35 zu rfl #[.slice Ao73 t140.length co73,.int .i64 1] rfl zc ?_;(with_reducible refine (laws_heldNoteS.calls kj71 _ _ t140 1 t154 _ ?side1 ?side2 A90.out).mono ?_);(case side1=>exact zaz);(case side2=>exact (Kd.R_reads' HO_11.out).2.1);rintro e w' ⟨rfl,⟨nd,rfl⟩⟩;refine ⟨_,rfl,?_⟩))
                 go_ret
                 exact ⟨zg,zi⟩
           ·rw [if_neg c69] at H
            have c69b0:(t141 == t139)=false:=beq_eq_false_iff_ne.mpr c69
            have c69b1:(t141 != t139)=true:=bne_iff_ne.mpr c69
            obtain rfl:=Option.some.inj H
            obtain ⟨Ao93,co93,eo93⟩:=Kd.R_slice HO_11.out
            subst eo93
            go_wp2_with (first|((with_reducible refine gate_callee (f:=34) rfl ?_);refine goesL_ (some 75) rfl rfl Tryz.func34 zu rfl #[.slice Ao93 t122.length co93,.int .i64 1] rfl zc ?_;(with_reducible refine (laws_markNoteS.calls kj44 (fun k_=>some k_=(.slice Ao93 t122.length co93:Value).ownBlock) (.slice Ao93 t122.length co93) t122 1 t139 t140 w _ ?side1 ?side2 A64.out).mono ?_);(case side1=>exact zi);(case side2=>exact Kd.R_tight rfl HO_11.out);rintro e w94 ⟨rfl,hy0,hb,hkp⟩;refine ⟨_,rfl,?_⟩;have n0_:=Aside0.mk (Kd.R_mono (ok':=fun k_=>some k_≠(.slice Ao93 t122.length co93:Value).ownBlock) (Kd.R_keptB (HO_8.out) hkp (fun k_ hk_ hs_=>(hk_) hs_)) (fun k_ hk_=>hk_.1));have n1_:=Aside0.mk (Kd.R_reok rfl hy0 (fun k_ e_=>HO_11.out.1 k_ e_));have n2_:=Aside0.mk (Kd.R_mono (ok':=fun k_=>some k_≠(.slice Ao30 t137.length co30:Value).ownBlock) (Kd.R_keptB ((Kd.R_apart' HO_122001.out (Kd.R_typed HO_11.out) zbm)) hkp (fun k_ hk_ hs_=>(hk_.2) hs_)) (fun k_ hk_=>hk_.1.1));have n3_:=Aside0.mk (Kd.R_mono (ok':=fun k_=>some k_≠(.slice Ao29 t136.length co29:Value).ownBlock) (Kd.R_keptB ((Kd.R_apart' HO_122002.out (Kd.R_typed HO_11.out) zbm)) hkp (fun k_ hk_ hs_=>(hk_.2) hs_)) (fun k_ hk_=>hk_.1.1));have n4_:=Aside0.mk (blk_kept zd hkp (fun hs_=>(fun e_=>(Kd.R_ne HO_11.out BK101.out zbm) e_) hs_));have n5_:=Aside0.mk (blk_kept zw hkp (fun hs_=>(fun e_=>(Kd.R_ne HO_11.out BK121.out zbm) e_) hs_));have n6_:=Aside0.mk (hb);clear HO_8;clear HO_11;clear HO_122001;clear HO_122002;clear BK101;clear BK121;clear HB;have HO_8:=n0_;have HO_11:=n1_;have HO_122001:=n2_;have HO_122002:=n3_;have BK101:=n4_;have BK121:=n5_;have HB:=n6_;clear n0_ n1_ n2_ n3_ n4_ n5_ n6_;(try clear hb);(try clear hkp);(try clear hy0))|((with_reducible refine gate_callee (f:=35) rfl ?_);refine goesL_ (some 78) rfl rfl Tryz.func35 zu rfl #[.slice Ao93 t140.length co93,.int .i64 1] rfl zcg ?_;(with_reducible refine (laws_heldNoteS.calls kj44 _ _ t140 1 t141 _ ?side1 ?side2 A65.out).mono ?_);(case side1=>exact zaz);(case side2=>rw [show t140.length=t122.length from (Kd.R_reads' HO_11.out).1.symm];exact (Kd.R_reads' HO_11.out).2.1);rintro e w' ⟨rfl,⟨nd,rfl⟩⟩;refine ⟨_,rfl,?_⟩))
            go_ret
            exact ⟨zg,zi⟩
      ·replace c43:=Bool.eq_false_iff.mpr c43
       subst c43
       have H1:(some false)=some r:=by rw [if_neg (show ¬ (false=true) by decide)] at H;exact H
       clear H
       have H:=H1
       clear H1
       obtain rfl:=Option.some.inj H
       try go_wp2
       replace HO_8:=Aside0.mk (Kd.R_drew HO_8.out)
       replace HO_11:=Aside0.mk (Kd.R_drew HO_11.out)
       replace HO_122001:=Aside0.mk (Kd.R_drew HO_122001.out)
       replace HO_122002:=Aside0.mk (Kd.R_drew HO_122002.out)
       replace BK101:=Aside0.mk (blk_drew BK101.out)
       replace BK121:=Aside0.mk (blk_drew BK121.out)
       replace HB:=Aside0.mk (below_drew1 HB.out)
       refine start_ (n:=5) (S:=fun w'=>w'.cell? ⟨gb121,0,none⟩=some (.string t114)∧w'.cell? ⟨gb121,1,none⟩=some (.slice Ao29 t115.length co29)∧w'.cell? ⟨gb121,2,none⟩=some (.slice Ao30 t118.length co30)∧w'.cell? ⟨gb101,0,none⟩=some (.string a1_0)∧w'.cell? ⟨gb101,1,none⟩=some (.slice A1_1 l1_1.length c1_1)∧w'.cell? ⟨gb101,2,none⟩=some (.slice A1_2 l1_2.length c1_2)) (ds:=[]) #[false,false,false,false,false] zu rfl rfl ⟨(blk_cell BK121.out 0).trans rfl,(blk_cell BK121.out 1).trans rfl,(blk_cell BK121.out 2).trans rfl,(blk_cell BK101.out 0).trans rfl,(blk_cell BK101.out 1).trans rfl,(blk_cell BK101.out 2).trans rfl⟩ (fun hHeld=>?_)
       generalize wc.drew=w95 at HO_8 HO_11 HO_122001 HO_122002 BK101 BK121 HB hHeld ⊢
       refine pT 0 52 rfl zac ?_
       refine pT 1 53 rfl zac ?_
       refine one_ (i:=2) (N:=some 54) #[true,true,true,false,false] rfl rfl zu zbm (fun K hK=>?_)
       refine goes_ Tryz.func27 zu rfl #[.agg #[.string a1_0,.slice A1_1 l1_1.length c1_1,.slice A1_2 l1_2.length c1_2]] (by rfl) rfl rfl zc ?_
       with_reducible refine (laws_toTala.calls kj14 a1_0 _ _ l1_1 _ _ l1_2 t127 t128 t131 _ ?side1 ?side2 ?side3 ?side4 A41.out).mono ?_
       (case side1=>exact zm)
       (case side2=>exact HC1_1.out)
       (case side3=>exact zn)
       (case side4=>exact HC1_2.out)
       rintro e w96 ⟨v129,v132,rfl,ho0,ho1,hb⟩
       refine ⟨_,rfl,?_⟩
       have n0_:=Aside0.mk (Kd.R_below zq hb)
       have n1_:=Aside0.mk (Kd.R_below zay hb)
       have n2_:=Aside0.mk (Kd.R_mono (Kd.R_told (Kd.R_told (Kd.R_old zan hb) (Kd.R_base ho0)) (Kd.R_base ho1)) (fun _ h_=>h_.1))
       have n3_:=Aside0.mk (Kd.R_mono (Kd.R_told (Kd.R_told (Kd.R_old zao hb) (Kd.R_base ho0)) (Kd.R_base ho1)) (fun _ h_=>h_.1))
       have n4_:=Aside0.mk (Kd.R_lower (Kd.R_new' (Kd.R_new' ho0 (Kd.R_lt zan)) (Kd.R_lt zao)) (below_size zi))
       have n5_:=Aside0.mk (Kd.R_lower (Kd.R_new' (Kd.R_new' ho1 (Kd.R_lt zan)) (Kd.R_lt zao)) (below_size zi))
       have n6_:=Aside0.mk (blk_below (g:=gb101) (o:=.cells #[.string a1_0,.slice A1_1 l1_1.length c1_1,.slice A1_2 l1_2.length c1_2] 46 (0,0)) zd hb)
       have n7_:=Aside0.mk (blk_below (g:=gb121) (o:=.cells #[.string t114,.slice Ao29 t115.length co29,.slice Ao30 t118.length co30] 50 (0,0)) zw hb)
       have n8_:=Aside0.mk (below_step zi hb)
       clear HO_8
       clear HO_11
       clear HO_122001
       clear HO_122002
       clear BK101
       clear BK121
       clear HB
       have HO_8:=n0_
       have HO_11:=n1_
       have HO_122001:=n2_
       have HO_122002:=n3_
       have HO130:=n4_
       have HO133:=n5_
       have BK101:=n6_
       have BK121:=n7_
       have HB:=n8_
       clear n0_ n1_ n2_ n3_ n4_ n5_ n6_ n7_ n8_
       (try clear hb)
       (try clear hb2)
       (try clear hk)
       (try clear hi)
       (try clear ho0)
       (try clear ho1)
       obtain ⟨Ao97,co97,eo97⟩:=Kd.R_slice HO130.out
       (first|subst eo97|(injection eo97 with f1_ f2_ f3_;have f4_:=f1_.symm;have f5_:=f3_.symm;clear f1_ f2_ f3_;subst f4_;subst f5_))
       obtain ⟨Ao98,co98,eo98⟩:=Kd.R_slice HO133.out
       (first|subst eo98|(injection eo98 with f1_ f2_ f3_;have f4_:=f1_.symm;have f5_:=f3_.symm;clear f1_ f2_ f3_;subst f4_;subst f5_))
       refine hK.out _ _ ⟨(blk_cell BK121.out 0).trans rfl,(blk_cell BK121.out 1).trans rfl,(blk_cell BK121.out 2).trans rfl,(blk_cell BK101.out 0).trans rfl,(blk_cell BK101.out 1).trans rfl,(blk_cell BK101.out 2).trans rfl⟩ (fun hHeld=>?_)
       clear hK K
       refine pN 54 ?_
       refine one_ (i:=3) (N:=some 55) #[true,true,true,true,false] rfl rfl zu zbm (fun K hK=>?_)
       refine goes_ Tryz.func29 zu rfl #[.agg #[.string t114,.slice Ao29 t115.length co29,.slice Ao30 t118.length co30],.agg #[.string t127,.slice Ao97 t128.length co97,.slice Ao98 t131.length co98]] (by rfl) rfl rfl zc ?_
       with_reducible refine (laws_eqTala.calls kj14 t114 _ _ t115 _ _ t118 t127 _ _ t128 _ _ t131 false _ ?side1 ?side2 ?side3 ?side4 ?side5 ?side6 ?side7 ?side8 A42.out).mono ?_
       (case side1=>repeat (first|exact (Kd.R_reads' HO_122001.out).2.2|(with_reducible refine Kd.C_alloc ?_ _)|(with_reducible refine Kd.C_drewN ?_ _)|(with_reducible refine Kd.C_drew ?_)))
       (case side2=>exact (Kd.R_reads' HO_122001.out).2.1)
       (case side3=>repeat (first|exact (Kd.R_reads' HO_122002.out).2.2|(with_reducible refine Kd.C_alloc ?_ _)|(with_reducible refine Kd.C_drewN ?_ _)|(with_reducible refine Kd.C_drew ?_)))
       (case side4=>exact (Kd.R_reads' HO_122002.out).2.1)
       (case side5=>repeat (first|exact (Kd.R_reads' HO130.out).2.2|(with_reducible refine Kd.C_alloc ?_ _)|(with_reducible refine Kd.C_drewN ?_ _)|(with_reducible refine Kd.C_drew ?_)))
       (case side6=>exact (Kd.R_reads' HO130.out).2.1)
       (case side7=>repeat (first|exact (Kd.R_reads' HO133.out).2.2|(with_reducible refine Kd.C_alloc ?_ _)|(with_reducible refine Kd.C_drewN ?_ _)|(with_reducible refine Kd.C_drew ?_)))
       (case side8=>exact (Kd.R_reads' HO133.out).2.1)
       rintro e w99 ⟨rfl,hb⟩
       refine ⟨_,rfl,?_⟩
       replace HO_8:=Aside0.mk (Kd.R_below zq hb)
       replace HO_11:=Aside0.mk (Kd.R_below zay hb)
       replace HO_122001:=Aside0.mk (Kd.R_below zan hb)
       replace HO_122002:=Aside0.mk (Kd.R_below zao hb)
       replace HO130:=Aside0.mk (Kd.R_below zdb hb)
       replace HO133:=Aside0.mk (Kd.R_below zdc hb)
       replace BK101:=Aside0.mk (blk_below (g:=gb101) (o:=.cells #[.string a1_0,.slice A1_1 l1_1.length c1_1,.slice A1_2 l1_2.length c1_2] 46 (0,0)) zd hb)
       replace BK121:=Aside0.mk (blk_below (g:=gb121) (o:=.cells #[.string t114,.slice Ao29 t115.length co29,.slice Ao30 t118.length co30] 50 (0,0)) zw hb)
       replace HB:=Aside0.mk (below_step zi hb)
       (try clear hb)
       (try clear hb2)
       (try clear hk)
       (try clear hi)
       refine hK.out _ _ ⟨(blk_cell BK121.out 0).trans rfl,(blk_cell BK121.out 1).trans rfl,(blk_cell BK121.out 2).trans rfl,(blk_cell BK101.out 0).trans rfl,(blk_cell BK101.out 1).trans rfl,(blk_cell BK101.out 2).trans rfl⟩ (fun hHeld=>?_)
       clear hK K
       refine pN 55 ?_
       refine pA 4 56 ?_
       refine done_ zu ?_
       try go_wp2
       go_ret
       exact ⟨zg,zi⟩
end Go.Proofs.YtmoamoopoifnlaaGreatDoor.P

namespace Go.Proofs.YtmoamoopoifnlaaGreatDoorO
open Go.RowKit Go.WideShapes Go.Proofs.YtmoamoopoifnlaaGreatDoorW.PrintWords

theorem addr_add_add (a : Addr) (m i : Nat) : (a.add m).add i = a.add (m + i) := by
  unfold Addr.add
  by_cases h1 : m = 0
  · subst h1; simp
  · by_cases h2 : i = 0
    · subst h2; simp [h1]
    · have h3 : ¬ (m + i = 0) := by omega
      simp [h1, h2, Nat.add_assoc]

/-- Whatever the claim reads at this type is a value of this kind, of which G holds. -/
def Opens {α : Type} (P : Program) (t : TypeId) (d : Kd α) (G : α → Prop) : Prop :=
  ∀ (H : Type) (enc : TypeId × Value → H) (w : World) (base : Nat) (spare : Nat → Bool) (held : Bool) (fuel : Nat) (cs : List Value) (x : DataW H × List MemPlace),
    DataW.trod enc P w base spare held fuel t cs = some x → ∃ a : α, d.K w a cs ∧ G a

section
variable {α β : Type} {P : Program} {t e : TypeId} {d : Kd α} {G : α → Prop}

theorem opens_int {k : IntKind} (ht : P.underlying t = some (.int k)) : Opens P t (Kd.int k) (fun n => (Lit.int k n).wf = true) := by
  intro H enc w base spare held fuel cs x h
  obtain ⟨n, rfl, _, hw⟩ := DataW.trod_int ht h
  exact ⟨n, rfl, hw⟩
theorem opens_string (ht : P.underlying t = some .string) : Opens P t Kd.string (fun s => s.size ≤ maxLen) := by
  intro H enc w base spare held fuel cs x h
  obtain ⟨n, rfl, _, hs⟩ := DataW.trod_string ht h
  exact ⟨n, rfl, hs⟩

theorem list_of_each {p : Nat → α → Prop} : ∀ n : Nat, (∀ i, i < n → ∃ a, p i a) → ∃ l : List α, l.length = n ∧ ∀ i a, l[i]? = some a → p i a
  | 0, _ => ⟨[], rfl, fun i a h => by simp at h⟩
  | n + 1, h => by
    obtain ⟨l, hl, hp⟩ := list_of_each n (fun i hi => h i (by omega))
    obtain ⟨a, ha⟩ := h n (by omega)
    refine ⟨l ++ [a], by simp [hl], fun i b hb => ?_⟩
    by_cases hi : i < l.length
    · rw [List.getElem?_append_left hi] at hb
      exact hp i b hb
    · rw [List.getElem?_append_right (by omega)] at hb
      have h0 : i - l.length = 0 := by
        have := (List.getElem?_eq_some_iff.1 hb).1
        simp at this
        omega
      rw [h0] at hb
      have hi2 : i = n := by omega
      subst hi2
      simp at hb
      subst hb
      exact ha

theorem opens_slice (ht : P.underlying t = some (.slice e)) (hc : P.cellsOf e = d.sz) (hd : Opens P e d G) : Opens P t (Kd.slice e d) (fun l => l.length ≤ maxLen ∧ ∀ x ∈ l, G x) := by
  intro H enc w base spare held fuel cs x h
  rcases DataW.trod_slice ht h with ⟨rfl, _⟩ | ⟨a, len, cap, elems, rest, n, _, rfl, _, hb, hl, hm, hlen, hel, _, _⟩
  · exact ⟨[], ⟨none, 0, rfl, Nat.le_refl _, rfl, by simp, fun hp => by simp at hp⟩, by simp, by simp⟩
  · have each : ∀ i, i < len → ∃ x : α, G x ∧ ∃ c, c.length = d.sz ∧ d.K w x c ∧ ∀ j u, c[j]? = some u → w.cell? (a.add (i * d.sz + j)) = some u := by
      intro i hi
      have h1 := hel i hi
      have h2 : ∃ y, elems[i]? = some y := ⟨elems[i]'(by omega), List.getElem?_eq_getElem (by omega)⟩
      obtain ⟨y, hy⟩ := h2
      rw [hy, Option.bind_eq_some_iff] at h1
      obtain ⟨c, hcs, hy'⟩ := h1
      obtain ⟨x, hK, hG⟩ := hd H enc w base spare held n c y hy'
      refine ⟨x, hG, c, d.K_len hK, hK, fun j u hu => ?_⟩
      have hx := World.cells?_some hcs
      have hj : j < P.cellsOf e := by
        have := (List.getElem?_eq_some_iff.1 hu).1
        have := hx.2.1
        omega
      have hz := hx.2.2 j hj
      rw [addr_add_add, hc, hu] at hz
      exact hz
    obtain ⟨l, hll, hp⟩ := list_of_each len each
    refine ⟨l, ⟨some a, cap, by rw [hll], by omega, rfl, by simp only [maxLen] at hm; omega, fun _ => ⟨a, rfl, fun j p hj => ?_⟩⟩, by simp only [maxLen] at hm ⊢; omega, fun x hx => ?_⟩
    · exact (hp j p hj).2
    · obtain ⟨i, hi, hi2⟩ := List.getElem_of_mem hx
      exact (hp i x (by rw [List.getElem?_eq_getElem hi, hi2])).1

def OpensFs {α : Type} (P : Program) (fs : List Field) (o : Nat) (d : Kd α) (G : α → Prop) : Prop :=
  ∀ (H : Type) (enc : TypeId × Value → H) (w : World) (base : Nat) (spare : Nat → Bool) (held : Bool) (fuel : Nat) (cs : List Value),
    cs.length = o + d.sz → (∀ (i : Nat) (f : Field), fs[i]? = some f → ∃ x, DataW.trod enc P w base spare held fuel f.type ((cs.drop f.offset).take (P.cellsOf f.type)) = some x) → ∃ a : α, d.K w a (cs.drop o) ∧ G a
theorem opensFs_last {f : Field} {o : Nat} (ho : f.offset = o) (hc : P.cellsOf f.type = d.sz) (h : Opens P f.type d G) : OpensFs P [f] o d G := by
  intro H enc w base spare held fuel cs hl hx
  obtain ⟨x, hx⟩ := hx 0 f rfl
  rw [ho, hc, List.take_of_length_le (by rw [List.length_drop]; omega)] at hx
  exact h H enc w base spare held fuel _ x hx
theorem opensFs_cons {f : Field} {fs : List Field} {o : Nat} {d2 : Kd β} {G2 : β → Prop} (ho : f.offset = o) (hc : P.cellsOf f.type = d.sz) (h : Opens P f.type d G) (h2 : OpensFs P fs (o + d.sz) d2 G2) :
    OpensFs P (f :: fs) o (Kd.pair d d2) (fun x => G x.1 ∧ G2 x.2) := by
  intro H enc w base spare held fuel cs hl hx
  have hl' : cs.length = o + (d.sz + d2.sz) := hl
  obtain ⟨x, hx0⟩ := hx 0 f rfl
  rw [ho, hc] at hx0
  obtain ⟨a, hK, hG⟩ := h H enc w base spare held fuel _ x hx0
  obtain ⟨b, hK2, hG2⟩ := h2 H enc w base spare held fuel cs (by omega) (fun i f2 hf => hx (i + 1) f2 (by simpa using hf))
  refine ⟨(a, b), ⟨_, _, ?_, hK, hK2⟩, hG, hG2⟩
  rw [← List.drop_drop]
  exact (List.take_append_drop d.sz (cs.drop o)).symm
theorem opens_struct {fs : Array Field} (ht : P.underlying t = some (.struct fs)) (hc : P.cellsOf t = d.sz) (h : OpensFs P fs.toList 0 d G) : Opens P t d G := by
  intro H enc w base spare held fuel cs x hx
  obtain ⟨xs, n, _, _, hl, hxl, hf⟩ := DataW.trod_struct ht hx
  have := h H enc w base spare held n cs (by omega) (fun i f hif => by
    have hif' : fs[i]? = some f := by simpa using hif
    have hi : i < xs.length := by
      rw [hxl]
      exact (Array.getElem?_eq_some_iff.1 hif').1
    exact ⟨xs[i], by rw [hf i f hif', List.getElem?_eq_getElem hi]⟩)
  simpa using this
theorem opens_iso (f : β → α) (g : α → β) (hfg : ∀ a, f (g a) = a) (h : Opens P t d G) : Opens P t (Kd.iso d f) (fun b => G (f b)) := by
  intro H enc w base spare held fuel cs x hx
  obtain ⟨a, hK, hG⟩ := h H enc w base spare held fuel cs x hx
  exact ⟨g a, by show d.K w (f (g a)) cs; rw [hfg]; exact hK, by show G (f (g a)); rw [hfg]; exact hG⟩
end
end Go.Proofs.YtmoamoopoifnlaaGreatDoorO

namespace Go.Proofs.YtmoamoopoifnlaaGreatDoor
open Go.RowKit Go.Proofs.YtmoamoopoifnlaaGreatDoorO Go.Proofs.YtmoamoopoifnlaaGreatDoorW.PrintWords
def g46 (x : P.S46) : Prop := x.f0.size ≤ maxLen ∧ (x.f1.length ≤ maxLen ∧ ∀ y ∈ x.f1, (Lit.int .i64 y).wf = true) ∧ (x.f2.length ≤ maxLen ∧ ∀ y ∈ x.f2, (Lit.int .i64 y).wf = true)
theorem open46 : Opens Tryz.prog 46 P.k46 g46 :=
  opens_iso (fun x : P.S46 => (x.f0, x.f1, x.f2)) (fun a => ⟨a.1, a.2.1, a.2.2⟩) (fun _ => rfl) (opens_struct Tryz.underlying46 (by kernel_rfl) (opensFs_cons (by rfl) (by kernel_rfl) (opens_string Tryz.underlying9) (opensFs_cons (by rfl) (by kernel_rfl) (opens_slice Tryz.underlying37 (by kernel_rfl) (opens_int Tryz.underlying2)) (opensFs_last (by rfl) (by kernel_rfl) (opens_slice Tryz.underlying37 (by kernel_rfl) (opens_int Tryz.underlying2))))))
end Go.Proofs.YtmoamoopoifnlaaGreatDoor

namespace Go.Proofs.YtmoamoopoifnlaaGreatDoor.P
open Go.RowKit Go.Proofs.YtmoamoopoifnlaaGreatDoorW.PrintWords Go.Proofs.YtmoamoopoifnlaaGreatDoorW.PrintLast Go.Proofs.YtmoamoopoifnlaaGreatDoorW.PrintMore
attribute [local go_sem] max2_int min2_int max_two min_two max_three min_three max_four min_four str_leq str_gtr str_geq
set_option linter.unusedVariables false
set_option linter.unusedSimpArgs false
def impl_pitchIn.L:List ByteArray:=[⟨#[67]⟩,⟨#[68,98]⟩,⟨#[68]⟩,⟨#[69,98]⟩,⟨#[69]⟩,⟨#[70]⟩,⟨#[71,98]⟩,⟨#[71]⟩,⟨#[65,98]⟩,⟨#[65]⟩,⟨#[66,98]⟩,⟨#[66]⟩]
def impl_pitchIn.M:List ByteArray:=[⟨#[49]⟩,⟨#[50,98]⟩,⟨#[50]⟩,⟨#[51,98]⟩,⟨#[51]⟩,⟨#[52]⟩,⟨#[52,35]⟩,⟨#[53]⟩,⟨#[54,98]⟩,⟨#[54]⟩,⟨#[55,98]⟩,⟨#[55]⟩]
def impl_pitchIn.at_ (l:List ByteArray) (t:Int):ByteArray:=l.getD t.toNat ByteArray.empty
def impl_pitchIn.o3 (m:ByteArray) (o:Int):Option ByteArray:=if o = -1 then some ((⟨#[95]⟩:ByteArray)++m) else if o=0 then some ((⟨#[]⟩:ByteArray)++m) else if o=1 then some ((⟨#[94]⟩:ByteArray)++m) else none
def impl_pitchIn.f (s k p:Int):Option ByteArray:=
 if s=2 then (impl_ToneOf.f (wrap64 (p+k))).bind fun t=>(impl_octaveOf.f (wrap64 (p+k))).bind fun o=>(impl_Decimal.f (wrap64 (o+4))).bind fun d=>if (0≤t∧t<12)∧(impl_pitchIn.at_ impl_pitchIn.L t).size+d.size≤9223372036854775807 then some (impl_pitchIn.at_ impl_pitchIn.L t++d) else none
 else if s=3 then (impl_octaveOf.f p).bind fun o=>(impl_ToneOf.f p).bind fun t=>if (0≤t∧t<12)∧1+(impl_pitchIn.at_ impl_pitchIn.M t).size≤9223372036854775807 then impl_pitchIn.o3 (impl_pitchIn.at_ impl_pitchIn.M t) o else none
 else if s=4 then impl_Decimal.f (wrap64 (wrap64 (p+k)+60))
 else impl_pitchText.f p

def impl_readPitchIn.q (s k:Int) (a:ByteArray) (p:Int):Option Bool:=(impl_pitchIn.f s k p).bind fun r=>some (r.toList == a.toList)
def impl_readPitchIn.lst (q:Int→Option Bool):Nat→Int→Option (Int × Bool)
 | 0,_=>some (0,false)
 | n+1,p=>(q p).bind fun b=>if b=true then some (p,true) else impl_readPitchIn.lst q n (p+1)
end Go.Proofs.YtmoamoopoifnlaaGreatDoor.P

namespace Go.Proofs.YtmoamoopoifnlaaGreatDoorL
open Go.RowKit Go.Proofs.YtmoamoopoifnlaaGreatDoorW.PrintWords

theorem wrap_id {x : Int} (h0 : -9223372036854775808 ≤ x) (h1 : x ≤ 9223372036854775807) : wrap64 x = x := by unfold wrap64; omega
theorem wrap_succ {i n : Nat} (h : i < n) (hn : n ≤ 4611686018427387904) : wrap64 ((i : Int) + 1) = ((i + 1 : Nat) : Int) := by
  rw [wrap_id (by omega) (by omega)]; omega
theorem lt_cast {i n : Nat} (h : i < n) : (i : Int) < (n : Int) := by omega
theorem nn_cast (i : Nat) : 0 ≤ (i : Int) := by omega
theorem nlt_cast (n : Nat) : ¬ ((n : Int) < (n : Int)) := by omega
theorem drop_cons {α : Type} {l : List α} {i : Nat} (h : i < l.length) : l.drop i = l[i] :: l.drop (i + 1) := List.drop_eq_getElem_cons h

/-- A loop over a list: at each element it answers, or it goes on behind it. G: what it answers from a rest on. -/
theorem list_loop {α σ ρ : Type} (L : Nat → σ → Int → Option ρ) (l : List α) (G : List α → σ → ρ) (Inv : Nat → σ → Prop) (B : Nat)
    (step : ∀ (k i : Nat) (hi : i < l.length) (s : σ), Inv i s → B ≤ k →
      L (k + 1) s (i : Int) = some (G (l[i] :: l.drop (i + 1)) s) ∨ ∃ s', Inv (i + 1) s' ∧ G (l[i] :: l.drop (i + 1)) s = G (l.drop (i + 1)) s' ∧ L (k + 1) s (i : Int) = L k s' ((i + 1 : Nat) : Int))
    (stop : ∀ (k : Nat) (s : σ), Inv l.length s → L (k + 1) s (l.length : Int) = some (G [] s)) :
    ∀ (k : Nat) (s : σ), B + l.length < k → Inv 0 s → L k s 0 = some (G l s) := by
  have main : ∀ (d k i : Nat) (s : σ), i + d = l.length → B + d < k → Inv i s → L k s (i : Int) = some (G (l.drop i) s) := by
    intro d
    induction d with
    | zero =>
      intro k i s hi hk hI
      obtain ⟨k, rfl⟩ : ∃ m, k = m + 1 := ⟨k - 1, by omega⟩
      have : i = l.length := by omega
      subst this
      rw [stop k s hI, List.drop_length]
    | succ d ih =>
      intro k i s hi hk hI
      obtain ⟨k, rfl⟩ : ∃ m, k = m + 1 := ⟨k - 1, by omega⟩
      have hlt : i < l.length := by omega
      rw [drop_cons hlt]
      rcases step k i hlt s hI (by omega) with h | ⟨s', hI', hG, hL⟩
      · exact h
      · rw [hL, hG]
        exact ih k (i + 1) s' (by omega) (by omega) hI'
  intro k s hk hI
  have := main l.length k 0 s (by omega) hk hI
  simpa using this

/-- The same without a state. -/
theorem list_loop0 {α ρ : Type} (L : Nat → Int → Option ρ) (l : List α) (G : List α → ρ) (B : Nat)
    (step : ∀ (k i : Nat) (hi : i < l.length), B ≤ k →
      L (k + 1) (i : Int) = some (G (l[i] :: l.drop (i + 1))) ∨ (G (l[i] :: l.drop (i + 1)) = G (l.drop (i + 1)) ∧ L (k + 1) (i : Int) = L k ((i + 1 : Nat) : Int)))
    (stop : ∀ (k : Nat), L (k + 1) (l.length : Int) = some (G [])) :
    ∀ (k : Nat), B + l.length < k → L k 0 = some (G l) := by
  intro k hk
  exact list_loop (σ := Unit) (fun k _ i => L k i) l (fun l _ => G l) (fun _ _ => True) B (fun k i hi s _ hB => by
    rcases step k i hi hB with h | ⟨h1, h2⟩
    · exact .inl h
    · exact .inr ⟨(), trivial, h1, h2⟩) (fun k _ _ => stop k) k () hk trivial

/-- A loop that fills a list that was made, place by place. -/
theorem set_loop {α β : Type} (L : Nat → List β → Int → Option (List β)) (l : List α) (g : α → β) (B : Nat)
    (step : ∀ (k i : Nat) (hi : i < l.length) (acc : List β), acc.length = l.length → B ≤ k → L (k + 1) acc (i : Int) = L k (acc.set i (g l[i])) ((i + 1 : Nat) : Int))
    (stop : ∀ (k : Nat) (acc : List β), L (k + 1) acc (l.length : Int) = some acc) :
    ∀ (k : Nat) (acc : List β), B + l.length < k → acc.length = l.length → L k acc 0 = some (l.map g) := by
  have main : ∀ (d k i : Nat) (acc : List β), i + d = l.length → B + d < k → acc.length = l.length → L k acc (i : Int) = some (acc.take i ++ (l.drop i).map g) := by
    intro d
    induction d with
    | zero =>
      intro k i acc hi hk ha
      obtain ⟨k, rfl⟩ : ∃ m, k = m + 1 := ⟨k - 1, by omega⟩
      have : i = l.length := by omega
      subst this
      rw [stop k acc, List.drop_length, List.take_of_length_le (by omega)]
      simp
    | succ d ih =>
      intro k i acc hi hk ha
      obtain ⟨k, rfl⟩ : ∃ m, k = m + 1 := ⟨k - 1, by omega⟩
      have hlt : i < l.length := by omega
      rw [step k i hlt acc ha (by omega), ih k (i + 1) _ (by omega) (by omega) (by simpa using ha), drop_cons hlt]
      have h2 : (acc.set i (g l[i])).take (i + 1) = acc.take i ++ [g l[i]] := by
        rw [List.take_succ_eq_append_getElem (by simp; omega)]
        have h3 : (acc.set i (g l[i])).take i = acc.take i := by
          apply List.ext_getElem
          · simp
          · intro j h1 h2
            simp at h1
            simp [List.getElem_set_ne (show i ≠ j by omega)]
        rw [h3]
        simp
      rw [h2]
      simp only [List.append_assoc, List.singleton_append, List.map_cons]
  intro k acc hk ha
  have := main l.length k 0 acc (by omega) hk ha
  simpa using this

/-- A loop that compares two lists of one length, place by place. -/
theorem eq_loop {α : Type} [DecidableEq α] (L : Nat → Int → Option Bool) (a b : List α) (hab : a.length = b.length) (B : Nat)
    (step : ∀ (k i : Nat) (h : i < a.length) (h2 : i < b.length), B ≤ k → L (k + 1) (i : Int) = if a[i] = b[i] then L k ((i + 1 : Nat) : Int) else some false)
    (stop : ∀ (k : Nat), L (k + 1) (a.length : Int) = some true) :
    ∀ (k : Nat), B + a.length < k → L k 0 = some (decide (a = b)) := by
  have main : ∀ (d k i : Nat), i + d = a.length → B + d < k → L k (i : Int) = some (decide (a.drop i = b.drop i)) := by
    intro d
    induction d with
    | zero =>
      intro k i hi hk
      obtain ⟨k, rfl⟩ : ∃ m, k = m + 1 := ⟨k - 1, by omega⟩
      obtain rfl : i = a.length := by omega
      rw [stop k, List.drop_length, hab, List.drop_length]
      rfl
    | succ d ih =>
      intro k i hi hk
      obtain ⟨k, rfl⟩ : ∃ m, k = m + 1 := ⟨k - 1, by omega⟩
      have h1 : i < a.length := by omega
      have h2 : i < b.length := by omega
      rw [step k i h1 h2 (by omega), ih k (i + 1) (by omega) (by omega)]
      rw [show (decide (a.drop i = b.drop i)) = decide (a[i] = b[i] ∧ a.drop (i + 1) = b.drop (i + 1)) from by
        congr 1; rw [drop_cons h1, drop_cons h2, List.cons.injEq]]
      by_cases e : a[i] = b[i]
      · rw [if_pos e]; simp [e]
      · rw [if_neg e]; simp [e]
  intro k hk
  have := main a.length k 0 (by omega) hk
  simpa using this

/-- A loop that asks each index below n and stops at the first that says no. -/
theorem all_loop (L : Nat → Int → Option Bool) (n : Nat) (p : Nat → Bool) (fin : Bool) (B : Nat)
    (step : ∀ (k i : Nat), i < n → B ≤ k → L (k + 1) (i : Int) = if p i = true then L k ((i + 1 : Nat) : Int) else some false)
    (stop : ∀ (k : Nat), B ≤ k → L (k + 1) (n : Int) = some fin) :
    ∀ (k : Nat), B + n < k → L k 0 = some ((List.range n).all p && fin) := by
  have main : ∀ (d k i : Nat), i + d = n → B + d < k → L k (i : Int) = some ((List.range' i d).all p && fin) := by
    intro d
    induction d with
    | zero =>
      intro k i hi hk
      obtain ⟨k, rfl⟩ : ∃ m, k = m + 1 := ⟨k - 1, by omega⟩
      obtain rfl : i = n := by omega
      rw [stop k (by omega)]; simp
    | succ d ih =>
      intro k i hi hk
      obtain ⟨k, rfl⟩ : ∃ m, k = m + 1 := ⟨k - 1, by omega⟩
      rw [step k i (by omega) (by omega), List.range'_succ, List.all_cons]
      by_cases h : p i = true
      · rw [if_pos h, ih k (i + 1) (by omega) (by omega), h]; simp
      · rw [if_neg h]; simp [h]
  intro k hk
  have := main n k 0 (by omega) hk
  rw [List.range_eq_range']
  exact this

theorem rd_get {l : List Int} {i : Nat} (h : i < l.length) : rd l (i : Int) = l[i] := by
  simp [rd, List.getD_eq_getElem?_getD, List.getElem?_eq_getElem h]
theorem rdOf_get {α : Type} {z : α} {l : List α} {i : Nat} (h : i < l.length) : rdOf z l (i : Int) = l[i] := by
  simp [rdOf, List.getD_eq_getElem?_getD, List.getElem?_eq_getElem h]

/-- A list marked with rising numbers from m on (each element takes c x of them), and the number behind. -/
def mkl {α : Type} (g : α → Int → α) (c : α → Int) : List α → Int → List α
  | [], _ => []
  | x :: r, m => g x m :: mkl g c r (m + c x)
def mtot {α : Type} (c : α → Int) : List α → Int → Int
  | [], m => m
  | x :: r, m => mtot c r (m + c x)
theorem mtot_ge {α : Type} {c : α → Int} (hc : ∀ x, 0 ≤ c x) : ∀ (l : List α) (m : Int), m ≤ mtot c l m
  | [], m => by simp [mtot]
  | x :: r, m => by
    have := mtot_ge hc r (m + c x)
    have := hc x
    simp only [mtot]; omega
theorem mtot_const {α : Type} (n : Int) : ∀ (l : List α) (m : Int), mtot (fun _ => n) l m = m + n * l.length
  | [], m => by simp [mtot]
  | x :: r, m => by
    simp only [mtot, mtot_const n r, List.length_cons]
    rw [show ((r.length + 1 : Nat) : Int) = (r.length : Int) + 1 from by omega, Int.mul_add]
    omega
theorem mark_loop {α : Type} (L : Nat → List α → Int → Int → Option (Int × List α)) (g : α → Int → α) (c : α → Int) (M : Int) (B : Nat) (hc : ∀ x, 0 ≤ c x)
    (step : ∀ (k : Nat) (pre : List α) (x : α) (rest : List α) (m : Int), B ≤ k → pre.length < 4611686018427387904 → 0 ≤ m → m + c x ≤ M →
      L (k + 1) (pre ++ x :: rest) m (pre.length : Int) = L k (pre ++ g x m :: rest) (m + c x) ((pre.length + 1 : Nat) : Int))
    (stop : ∀ (k : Nat) (l : List α) (m : Int), L (k + 1) l m (l.length : Int) = some (m, l)) :
    ∀ (k : Nat) (l : List α) (m : Int), B + l.length < k → l.length ≤ 4611686018427387904 → 0 ≤ m → mtot c l m ≤ M → L k l m 0 = some (mtot c l m, mkl g c l m) := by
  have main : ∀ (rest : List α) (k : Nat) (pre : List α) (m : Int), B + rest.length < k → pre.length + rest.length ≤ 4611686018427387904 → 0 ≤ m → mtot c rest m ≤ M →
      L k (pre ++ rest) m (pre.length : Int) = some (mtot c rest m, pre ++ mkl g c rest m) := by
    intro rest
    induction rest with
    | nil =>
      intro k pre m hk _ _ _
      obtain ⟨k, rfl⟩ : ∃ m, k = m + 1 := ⟨k - 1, by omega⟩
      have := stop k pre m
      simpa [mtot, mkl] using this
    | cons x r ih =>
      intro k pre m hk hl hm hM
      obtain ⟨k, rfl⟩ : ∃ m, k = m + 1 := ⟨k - 1, by omega⟩
      simp only [List.length_cons] at hk hl
      have h1 := mtot_ge hc r (m + c x)
      have h2 := hc x
      simp only [mtot] at hM
      rw [step k pre x r m (by omega) (by omega) hm (by omega)]
      have h3 := ih k (pre ++ [g x m]) (m + c x) (by omega) (by simp; omega) (by omega) hM
      simpa [mtot, mkl, List.append_assoc] using h3
  intro k l m hk hl hm hM
  have := main l k [] m hk (by simpa using hl) hm hM
  simpa using this
theorem held_loop {α : Type} (L : Nat → Int → Int → Option Int) (g : α → Int → α) (c : α → Int) (M : Int) (B : Nat) (hc : ∀ x, 0 ≤ c x) (l' : List α)
    (step : ∀ (k : Nat) (pre : List α) (x : α) (rest : List α) (m : Int), l' = pre ++ g x m :: rest → B ≤ k → pre.length < 4611686018427387904 → 0 ≤ m → m + c x ≤ M →
      L (k + 1) m (pre.length : Int) = L k (m + c x) ((pre.length + 1 : Nat) : Int))
    (stop : ∀ (k : Nat) (m : Int), L (k + 1) m (l'.length : Int) = some m) :
    ∀ (k : Nat) (l : List α) (m : Int), l' = mkl g c l m → B + l.length < k → l.length ≤ 4611686018427387904 → 0 ≤ m → mtot c l m ≤ M → L k m 0 = some (mtot c l m) := by
  have main : ∀ (rest : List α) (k : Nat) (pre : List α) (m : Int), l' = pre ++ mkl g c rest m → B + rest.length < k → pre.length + rest.length ≤ 4611686018427387904 → 0 ≤ m → mtot c rest m ≤ M →
      L k m (pre.length : Int) = some (mtot c rest m) := by
    intro rest
    induction rest with
    | nil =>
      intro k pre m he hk _ _ _
      obtain ⟨k, rfl⟩ : ∃ m, k = m + 1 := ⟨k - 1, by omega⟩
      have := stop k m
      have e : l'.length = pre.length := by rw [he]; simp [mkl]
      rw [e] at this
      simpa [mtot] using this
    | cons x r ih =>
      intro k pre m he hk hl hm hM
      obtain ⟨k, rfl⟩ : ∃ m, k = m + 1 := ⟨k - 1, by omega⟩
      simp only [List.length_cons] at hk hl
      have h1 := mtot_ge hc r (m + c x)
      have h2 := hc x
      simp only [mtot] at hM
      rw [step k pre x (mkl g c r (m + c x)) m (by simpa [mkl] using he) (by omega) (by omega) hm (by omega)]
      have h3 := ih k (pre ++ [g x m]) (m + c x) (by simpa [mkl, List.append_assoc] using he) (by omega) (by simp; omega) (by omega) hM
      simpa [mtot] using h3
  intro k l m he hk hl hm hM
  have := main l k [] m (by simpa using he) hk (by simpa using hl) hm hM
  simpa using this
theorem set_mid {α : Type} {pre rest : List α} {x v : α} : (pre ++ x :: rest).set ((pre.length : Int)).toNat v = pre ++ v :: rest := by simp

theorem bytes_eq {a b : ByteArray} : a.toList = b.toList ↔ a = b := by
  constructor
  · intro h
    have h2 : a.data.toList = b.data.toList := by
      have e : ∀ x : ByteArray, x.toList = x.data.toList := ByteArray.toList_eq
      rw [← e, ← e]; exact h
    cases a; cases b
    simp at h2
    rw [h2]
  · intro h; rw [h]
end Go.Proofs.YtmoamoopoifnlaaGreatDoorL

namespace Go.Proofs.YtmoamoopoifnlaaGreatDoor.P
open Go.RowKit Go.Proofs.YtmoamoopoifnlaaGreatDoorW.PrintWords Go.Proofs.YtmoamoopoifnlaaGreatDoorL
/-- The digits of a number from behind, as the reference lays them. -/
def rdig (u : Nat) : List Int := if h : u = 0 then [] else (48 + (u % 10 : Nat) : Int) :: rdig (u / 10)
termination_by u
decreasing_by omega
theorem rdig_zero : rdig 0 = [] := by rw [rdig, dif_pos rfl]
theorem rdig_pos {u : Nat} (h : u ≠ 0) : rdig u = (48 + (u % 10 : Nat) : Int) :: rdig (u / 10) := by rw [rdig, dif_neg h]
theorem rdig_dec : ∀ (n u : Nat), u ≤ n → u ≠ 0 → (rdig u).reverse.map (fun z => UInt8.ofNat z.toNat) = Lib.decDigits u := by
  intro n
  induction n with
  | zero => intro u h h0; omega
  | succ n ih =>
    intro u h h0
    rw [rdig_pos h0, List.reverse_cons, List.map_append, Lib.decDigits]
    by_cases h10 : u < 10
    · rw [dif_pos h10, show u / 10 = 0 by omega, rdig_zero]
      have : (48 + ((u % 10 : Nat) : Int)).toNat = 48 + u := by omega
      show [UInt8.ofNat (48 + ((u % 10 : Nat) : Int)).toNat] = _
      rw [this]
    · rw [dif_neg h10, ih (u / 10) (by omega) (by omega)]
      have : (48 + ((u % 10 : Nat) : Int)).toNat = 48 + u % 10 := by omega
      show _ ++ [UInt8.ofNat (48 + ((u % 10 : Nat) : Int)).toNat] = _
      rw [this]
theorem rdig_length : ∀ (n u : Nat), u < 10 ^ n → (rdig u).length ≤ n := by
  intro n
  induction n with
  | zero => intro u h; have : u = 0 := by simpa using h
            subst this; simp [rdig_zero]
  | succ n ih =>
    intro u h
    by_cases h0 : u = 0
    · subst h0; simp [rdig_zero]
    · rw [rdig_pos h0, List.length_cons]
      have := ih (u / 10) (by rw [Nat.pow_succ] at h; omega)
      omega
theorem dg_step {m : Int} (h0 : -9223372036854775808 ≤ m) (h1 : m ≤ 9223372036854775807) : (Int.tmod m 10 < 0 → (wrap64 (48 + wrap64 (-(Int.tmod m 10)))) % 256 = 48 + ((m.natAbs % 10 : Nat) : Int)) ∧ (¬ Int.tmod m 10 < 0 → (wrap64 (48 + Int.tmod m 10)) % 256 = 48 + ((m.natAbs % 10 : Nat) : Int)) ∧ (wrap64 (Int.tdiv m 10)).natAbs = m.natAbs / 10 ∧ -9223372036854775808 ≤ wrap64 (Int.tdiv m 10) ∧ wrap64 (Int.tdiv m 10) ≤ 9223372036854775807 := by
  rcases Int.le_total 0 m with h | h
  · have t1 : Int.tdiv m 10 = m / 10 := Int.tdiv_eq_ediv_of_nonneg h
    have t2 : Int.tmod m 10 = m % 10 := Int.tmod_eq_emod_of_nonneg h
    rw [t1, t2, wrap_id (x := m / 10) (by omega) (by omega), wrap_id (x := 48 + m % 10) (by omega) (by omega)]
    exact ⟨fun h => by omega, fun _ => by omega, by omega, by omega, by omega⟩
  · obtain ⟨a, ha, rfl⟩ : ∃ a : Int, 0 ≤ a ∧ m = -a := ⟨-m, by omega, by omega⟩
    have t1 : Int.tdiv (-a) 10 = -(a / 10) := by rw [Int.neg_tdiv, Int.tdiv_eq_ediv_of_nonneg ha]
    have t2 : Int.tmod (-a) 10 = -(a % 10) := by rw [Int.neg_tmod, Int.tmod_eq_emod_of_nonneg ha]
    rw [t1, t2, wrap_id (x := -(a / 10)) (by omega) (by omega), wrap_id (x := -(-(a % 10))) (by omega) (by omega), wrap_id (x := 48 + -(-(a % 10))) (by omega) (by omega), wrap_id (x := 48 + -(a % 10)) (by omega) (by omega)]
    exact ⟨fun _ => by omega, fun h => by omega, by omega, by omega, by omega⟩
theorem Dec_l1 {ds : List Int} (hl : ds.length ≤ 1000) : ∀ (d k : Nat) (acc : List Int), d ≤ ds.length → d + 1 ≤ k → acc.length + d ≤ 1000 → spec_l01Dec.l1 k ds acc ((d : Int) - 1) = some (strOfNums (acc ++ (ds.take d).reverse)) := by
  intro d
  induction d with
  | zero =>
    intro k acc hd hk ha
    obtain ⟨k, rfl⟩ : ∃ m, k = m + 1 := ⟨k - 1, by omega⟩
    simp only [spec_l01Dec.l1]
    rw [if_neg (by omega)]; simp
  | succ d ih =>
    intro k acc hd hk ha
    obtain ⟨k, rfl⟩ : ∃ m, k = m + 1 := ⟨k - 1, by omega⟩
    simp only [spec_l01Dec.l1]
    have e : ((d + 1 : Nat) : Int) - 1 = (d : Int) := by omega
    have hdl : d < ds.length := by omega
    rw [e, if_pos (by omega), if_pos (by omega), if_pos (lt_cast hdl), if_pos (by omega), rd_get hdl, wrap_id (by omega) (by omega), ih k _ (by omega) (by omega) (by simp; omega), List.take_succ_eq_append_getElem hdl, List.reverse_append]
    simp
theorem Dec_j1 {ds : List Int} (hl : ds.length ≤ 1000) {k : Nat} (hk : ds.length + 3 ≤ k) : spec_l01Dec.j1 k ds = some (strOfNums ds.reverse) := by
  obtain ⟨k, rfl⟩ : ∃ m, k = m + 1 := ⟨k - 1, by omega⟩
  simp only [spec_l01Dec.j1]
  rw [wrap_id (by omega) (by omega), Dec_l1 hl ds.length k [] (Nat.le_refl _) (by omega) (by simp; omega)]
  simp
theorem Dec_l0 (x0 : Int) : ∀ (n : Nat) (m : Int) (acc : List Int) (k : Nat), m.natAbs < 10 ^ n → -9223372036854775808 ≤ m → m ≤ 9223372036854775807 → acc.length + n ≤ 900 → n + 1000 ≤ k →
    spec_l01Dec.l0 k x0 acc m = some (strOfNums ((acc ++ rdig m.natAbs) ++ (if x0 < 0 then [45] else [])).reverse) := by
  intro n
  induction n with
  | zero =>
    intro m acc k hm h0 h1 ha hk
    obtain ⟨k, rfl⟩ : ∃ m, k = m + 1 := ⟨k - 1, by omega⟩
    have : m = 0 := by simp at hm; exact hm
    subst this
    simp only [spec_l01Dec.l0]
    rw [if_pos trivial]
    have e : rdig (Int.natAbs 0) = [] := rdig_zero
    rw [e, List.append_nil]
    by_cases hx : x0 < 0
    · rw [if_pos hx, if_pos hx, if_pos (by omega), Dec_j1 (by simp; omega) (by simp; omega)]
    · rw [if_neg hx, if_neg hx, Dec_j1 (by omega) (by omega), List.append_nil]
  | succ n ih =>
    intro m acc k hm h0 h1 ha hk
    obtain ⟨k, rfl⟩ : ∃ m, k = m + 1 := ⟨k - 1, by omega⟩
    by_cases hz : m = 0
    · subst hz
      simp only [spec_l01Dec.l0]
      rw [if_pos trivial]
      have e : rdig (Int.natAbs 0) = [] := rdig_zero
      rw [e, List.append_nil]
      by_cases hx : x0 < 0
      · rw [if_pos hx, if_pos hx, if_pos (by omega), Dec_j1 (by simp; omega) (by simp; omega)]
      · rw [if_neg hx, if_neg hx, Dec_j1 (by omega) (by omega), List.append_nil]
    · obtain ⟨d1, d2, d3, d4, d5⟩ := dg_step h0 h1
      have hr := rdig_pos (u := m.natAbs) (by omega)
      have hn : (wrap64 (Int.tdiv m 10)).natAbs < 10 ^ n := by rw [d3]; rw [Nat.pow_succ] at hm; omega
      have go := ih (wrap64 (Int.tdiv m 10)) (acc ++ [48 + ((m.natAbs % 10 : Nat) : Int)]) k hn d4 d5 (by simp; omega) (by omega)
      rw [d3] at go
      simp only [spec_l01Dec.l0]
      rw [if_neg hz, hr]
      have hlen : acc.length < 140737488355328 := by omega
      by_cases hs : Int.tmod m 10 < 0
      · rw [if_pos hs, if_pos hlen, d1 hs, go]; simp
      · rw [if_neg hs, if_pos hlen, d2 hs, go]; simp
theorem l01Dec_eq {n : Int} (h0 : -9223372036854775808 ≤ n) (h1 : n ≤ 9223372036854775807) {k : Nat} (hk : 2000 ≤ k) : spec_l01Dec.f k n = some (impl_Decimal.t n) := by
  unfold spec_l01Dec.f impl_Decimal.t
  by_cases hz : n = 0
  · subst hz
    rw [if_pos rfl]
    have : Lib.itoa 0 = [48] := by unfold Lib.itoa; rw [if_neg (by decide)]; exact Lib.decDigits_one (i := 0) (by decide)
    rw [this]
  · rw [if_neg hz, Dec_l0 n 20 n [] k (by omega) h0 h1 (by simp) (by omega), List.nil_append, List.reverse_append]
    congr 1
    unfold strOfNums Lib.itoa
    congr 2
    rw [List.map_append, rdig_dec n.natAbs n.natAbs (Nat.le_refl _) (by omega)]
    by_cases hx : n < 0
    · rw [if_pos hx, if_pos hx]; rfl
    · rw [if_neg hx, if_neg hx, show n.natAbs = n.toNat by omega]; rfl
theorem Decimal_eq {n : Int} (h0 : -9223372036854775808 ≤ n) (h1 : n ≤ 9223372036854775807) : impl_Decimal.f n = some (impl_Decimal.t n) := if_pos ⟨h0, h1⟩
theorem Decimal_size {n : Int} (h0 : -9223372036854775808 ≤ n) (h1 : n ≤ 9223372036854775807) : (impl_Decimal.t n).size ≤ 21 := by
  have hr := rdig_length 20 n.natAbs (by omega)
  have hs : (impl_Decimal.t n).size = (Lib.itoa n).length := by unfold impl_Decimal.t; show (Lib.itoa n).toArray.size = _; simp
  have hd : ∀ u : Nat, u ≠ 0 → u = n.natAbs → (Lib.decDigits u).length ≤ 20 := fun u hu e => by
    rw [← rdig_dec u u (Nat.le_refl _) hu, List.length_map, List.length_reverse, e]; exact hr
  rw [hs]
  unfold Lib.itoa
  by_cases hz : n = 0
  · subst hz
    have : Lib.decDigits (Int.toNat 0) = [48] := Lib.decDigits_one (i := 0) (by decide)
    rw [if_neg (by decide), this]; decide
  · by_cases hx : n < 0
    · rw [if_pos hx, List.length_cons]; have := hd n.natAbs (by omega) rfl; omega
    · rw [if_neg hx]; have := hd n.toNat (by omega) (by omega); omega

theorem in_eq (a b c : Int) : spec_l00In.f a b c = some (decide (b ≤ a) && decide (a ≤ c)) := by
  unfold spec_l00In.f
  by_cases h : a ≥ b
  · rw [if_pos h]; simp [ge_iff_le.1 h]
  · rw [if_neg h]
    have h' : ¬ b ≤ a := h
    simp [h']
theorem within_eq (a b c : Int) : impl_within.f a b c = some (decide (b ≤ a) && decide (a ≤ c)) := by
  unfold impl_within.f
  by_cases h : a ≥ b
  · rw [if_pos h]; simp [ge_iff_le.1 h]
  · rw [if_neg h]
    have h' : ¬ b ≤ a := h
    simp [h']
def keyB (s k : Int) : Bool := (decide (1 ≤ s) && decide (s ≤ 4)) && (decide (0 ≤ k) && decide (k ≤ 11))
theorem keyB_iff {s k : Int} : keyB s k = true ↔ (1 ≤ s ∧ s ≤ 4) ∧ 0 ≤ k ∧ k ≤ 11 := by
  unfold keyB
  rw [Bool.and_eq_true, Bool.and_eq_true, Bool.and_eq_true, decide_eq_true_iff, decide_eq_true_iff, decide_eq_true_iff, decide_eq_true_iff]
theorem tone_eq {q : Int} (h0 : -1000 ≤ q) (h1 : q ≤ 1000) : Int.tmod (wrap64 (Int.tmod q 12 + 12)) 12 = q % 12 := by
  rcases Int.le_total 0 q with h | h
  · have t2 : Int.tmod q 12 = q % 12 := Int.tmod_eq_emod_of_nonneg h
    rw [t2, wrap_id (by omega) (by omega), Int.tmod_eq_emod_of_nonneg (by omega)]; omega
  · obtain ⟨a, ha, rfl⟩ : ∃ a : Int, 0 ≤ a ∧ q = -a := ⟨-q, by omega, by omega⟩
    have t2 : Int.tmod (-a) 12 = -(a % 12) := by rw [Int.neg_tmod, Int.tmod_eq_emod_of_nonneg ha]
    rw [t2, wrap_id (by omega) (by omega), Int.tmod_eq_emod_of_nonneg (by omega)]; omega
theorem ToneOf_eq {q : Int} (h0 : -1000 ≤ q) (h1 : q ≤ 1000) : impl_ToneOf.f q = some (q % 12) := by unfold impl_ToneOf.f; rw [tone_eq h0 h1]
theorem l03Tone_eq {q : Int} (h0 : -1000 ≤ q) (h1 : q ≤ 1000) : spec_l03Tone.f q = some (q % 12) := by unfold spec_l03Tone.f; rw [tone_eq h0 h1]
theorem floor_eq {q : Int} (h0 : -1000 ≤ q) (h1 : q ≤ 1000) : wrap64 (Int.tdiv (wrap64 (q - q % 12)) 12) = q / 12 := by
  rw [wrap_id (x := q - q % 12) (by omega) (by omega), show q - q % 12 = 12 * (q / 12) by omega, Int.mul_tdiv_cancel_left _ (by decide), wrap_id (by omega) (by omega)]
theorem octaveOf_eq {q : Int} (h0 : -1000 ≤ q) (h1 : q ≤ 1000) : impl_octaveOf.f q = some (q / 12) := by
  unfold impl_octaveOf.f; rw [ToneOf_eq h0 h1]; simp only [Option.bind_some]; rw [floor_eq h0 h1]
theorem l03Floor_eq {q : Int} (h0 : -1000 ≤ q) (h1 : q ≤ 1000) : spec_l03Floor.f q = some (q / 12) := by
  unfold spec_l03Floor.f; rw [l03Tone_eq h0 h1]; simp only [Option.bind_some]; rw [floor_eq h0 h1]
def nameT (t : Int) : ByteArray := (⟨#[83, 114, 82, 103, 71, 109, 77, 80, 100, 68, 110, 78]⟩ : ByteArray).extract t.toNat (wrap64 (t + 1)).toNat
def pt (s k p : Int) : ByteArray :=
  if s = 1 then (if p / 12 < 0 then nameT (p % 12) ++ (⟨#[44]⟩ : ByteArray) else if p / 12 > 0 then nameT (p % 12) ++ (⟨#[39]⟩ : ByteArray) else nameT (p % 12))
  else if s = 2 then impl_pitchIn.at_ impl_pitchIn.L ((p + k) % 12) ++ impl_Decimal.t ((p + k) / 12 + 4)
  else if s = 3 then (if p / 12 < 0 then (⟨#[95]⟩ : ByteArray) ++ impl_pitchIn.at_ impl_pitchIn.M (p % 12) else if p / 12 > 0 then (⟨#[94]⟩ : ByteArray) ++ impl_pitchIn.at_ impl_pitchIn.M (p % 12) else impl_pitchIn.at_ impl_pitchIn.M (p % 12))
  else impl_Decimal.t (p + k + 60)
theorem at_size {l : List ByteArray} (hl : ∀ x ∈ l, x.size ≤ 2) (t : Int) : (impl_pitchIn.at_ l t).size ≤ 2 := by
  unfold impl_pitchIn.at_
  rw [List.getD_eq_getElem?_getD]
  cases h : l[t.toNat]? with
  | none => exact Nat.zero_le _
  | some x => exact hl x (List.mem_of_getElem? h)
theorem L_two : ∀ x ∈ impl_pitchIn.L, x.size ≤ 2 := by decide
theorem M_two : ∀ x ∈ impl_pitchIn.M, x.size ≤ 2 := by decide
theorem nameT_size {t : Int} (h0 : 0 ≤ t) (h1 : t < 12) : (nameT t).size ≤ 1 := by
  unfold nameT
  rw [ByteArray.size_extract, wrap_id (by omega) (by omega)]; omega
theorem pt_size {s k p : Int} (h : keyB s k = true) (h0 : -12 ≤ p) (h1 : p ≤ 23) : (pt s k p).size ≤ 30 := by
  obtain ⟨⟨a1, a2⟩, b1, b2⟩ := keyB_iff.1 h
  have z1 : (⟨#[44]⟩ : ByteArray).size = 1 := rfl
  have z2 : (⟨#[39]⟩ : ByteArray).size = 1 := rfl
  have z3 : (⟨#[95]⟩ : ByteArray).size = 1 := rfl
  have z4 : (⟨#[94]⟩ : ByteArray).size = 1 := rfl
  have n1 := nameT_size (t := p % 12) (by omega) (by omega)
  have n2 := at_size L_two ((p + k) % 12)
  have n3 := at_size M_two (p % 12)
  have n4 := Decimal_size (n := (p + k) / 12 + 4) (by omega) (by omega)
  have n5 := Decimal_size (n := p + k + 60) (by omega) (by omega)
  unfold pt
  repeat' split
  all_goals (try simp only [ByteArray.size_append])
  all_goals omega
theorem ba_nil (n : ByteArray) : n ++ (⟨#[]⟩ : ByteArray) = n := ByteArray.append_empty
theorem ba_nil' (n : ByteArray) : (⟨#[]⟩ : ByteArray) ++ n = n := ByteArray.empty_append
theorem ToneName_eq {t : Int} (h0 : 0 ≤ t) (h1 : t < 12) : impl_ToneName.f t = some (nameT t) := by
  unfold impl_ToneName.f impl_toneOk.f nameT
  rw [within_eq, decide_eq_true h0, decide_eq_true (by omega : t ≤ 11)]
  simp only [Option.bind_some, Bool.and_true, if_true]
  rw [if_pos h0, wrap_id (by omega) (by omega), if_pos (by omega), if_pos (by omega)]
theorem pitchIn_eq {s k p : Int} (h : keyB s k = true) (h0 : -12 ≤ p) (h1 : p ≤ 23) : impl_pitchIn.f s k p = some (pt s k p) := by
  obtain ⟨⟨a1, a2⟩, b1, b2⟩ := keyB_iff.1 h
  unfold impl_pitchIn.f pt
  by_cases s2 : s = 2
  · subst s2
    have n2 := at_size L_two ((p + k) % 12)
    have n4 := Decimal_size (n := (p + k) / 12 + 4) (by omega) (by omega)
    rw [if_pos rfl, if_neg (by decide), if_pos rfl, wrap_id (x := p + k) (by omega) (by omega), ToneOf_eq (by omega) (by omega), octaveOf_eq (by omega) (by omega)]
    simp only [Option.bind_some]
    rw [wrap_id (by omega) (by omega), Decimal_eq (by omega) (by omega)]
    simp only [Option.bind_some]
    rw [if_pos ⟨by omega, by omega⟩]
  rw [if_neg s2]
  by_cases s3 : s = 3
  · subst s3
    have n3 := at_size M_two (p % 12)
    rw [if_pos rfl, if_neg (by decide), if_neg (by decide), if_pos rfl, octaveOf_eq (by omega) (by omega), ToneOf_eq (by omega) (by omega)]
    simp only [Option.bind_some]
    rw [if_pos ⟨by omega, by omega⟩]
    unfold impl_pitchIn.o3
    by_cases o1 : p / 12 = -1
    · rw [if_pos o1, if_pos (by omega)]
    rw [if_neg o1]
    by_cases o2 : p / 12 = 0
    · rw [if_pos o2, if_neg (by omega), if_neg (by omega), ba_nil']
    · rw [if_neg o2, if_pos (by omega), if_neg (by omega), if_pos (by omega)]
  rw [if_neg s3]
  by_cases s4 : s = 4
  · subst s4
    rw [if_pos rfl, if_neg (by decide), if_neg (by decide), if_neg (by decide), wrap_id (x := p + k) (by omega) (by omega), wrap_id (by omega) (by omega), Decimal_eq (by omega) (by omega)]
  rw [if_neg s4]
  obtain rfl : s = 1 := by omega
  have n1 := nameT_size (t := p % 12) (by omega) (by omega)
  unfold impl_pitchText.f
  rw [if_pos rfl, ToneOf_eq (by omega) (by omega)]
  simp only [Option.bind_some]
  rw [ToneName_eq (by omega) (by omega)]
  simp only [Option.bind_some]
  rw [octaveOf_eq (by omega) (by omega)]
  simp only [Option.bind_some]
  rw [if_pos (by omega)]
  by_cases o1 : p / 12 = -1
  · rw [if_pos o1, if_pos (by omega)]
  rw [if_neg o1]
  by_cases o2 : p / 12 = 0
  · rw [if_pos o2, if_neg (by omega), if_neg (by omega), ba_nil]
  · rw [if_neg o2, if_pos (by omega), if_neg (by omega), if_pos (by omega)]

def catS (acc : ByteArray) (r : List ByteArray) : ByteArray := r.foldl (fun s x => (s ++ (⟨#[32]⟩ : ByteArray)) ++ x) acc
theorem ba_mk {a b : ByteArray} (h : a.data.toList = b.data.toList) : a = b := ByteArray.ext (Array.toList_inj.1 h)
theorem ba_app (a b : ByteArray) : (a ++ b).data.toList = a.data.toList ++ b.data.toList := by rw [ByteArray.data_append, Array.toList_append]
theorem catS_data : ∀ (r : List ByteArray) (acc : ByteArray), (catS acc r).data.toList = acc.data.toList ++ Lib.joinTail [32] (r.map (·.data.toList))
  | [], acc => by simp [catS, Lib.joinTail]
  | x :: r, acc => by
    have ih := catS_data r ((acc ++ (⟨#[32]⟩ : ByteArray)) ++ x)
    show (catS ((acc ++ (⟨#[32]⟩ : ByteArray)) ++ x) r).data.toList = _
    rw [ih, ba_app, ba_app]
    simp [Lib.joinTail]
def joinT : List ByteArray → ByteArray | [] => ⟨#[]⟩ | x :: r => catS x r
theorem join_T (l : List ByteArray) : strings_Join.t l ⟨#[32]⟩ = joinT l := by
  cases l with
  | nil => rfl
  | cons x r =>
    refine ba_mk ?_
    unfold joinT
    rw [catS_data]
    unfold strings_Join.t
    show (Lib.join _ _ : List UInt8) = _
    rw [List.map_cons, Lib.join_cons]
theorem catS_size : ∀ (r : List ByteArray) (acc : ByteArray), (∀ x ∈ r, x.size ≤ 99) → (catS acc r).size ≤ acc.size + 100 * r.length
  | [], acc, _ => by simp [catS]
  | x :: r, acc, h => by
    have ih := catS_size r ((acc ++ (⟨#[32]⟩ : ByteArray)) ++ x) (fun y hy => h y (List.mem_cons_of_mem _ hy))
    have hx := h x List.mem_cons_self
    have e1 : (⟨#[32]⟩ : ByteArray).size = 1 := rfl
    rw [ByteArray.size_append, ByteArray.size_append] at ih
    show (catS ((acc ++ (⟨#[32]⟩ : ByteArray)) ++ x) r).size ≤ _
    rw [List.length_cons]; omega
theorem joinT_size {l : List ByteArray} (h : ∀ x ∈ l, x.size ≤ 99) : (joinT l).size ≤ 100 * l.length := by
  cases l with
  | nil => exact Nat.zero_le _
  | cons x r =>
    have h1 := catS_size r x (fun y hy => h y (List.mem_cons_of_mem _ hy))
    have h2 := h x List.mem_cons_self
    show (catS x r).size ≤ _
    rw [List.length_cons]; omega
theorem Join_eq {l : List ByteArray} (hl : l.length ≤ 1000) (h : ∀ x ∈ l, x.size ≤ 99) : strings_Join.f l (⟨#[32]⟩ : ByteArray) = some (joinT l) := by
  have hz := joinT_size h
  unfold strings_Join.f
  rw [join_T, if_pos ⟨by omega, by omega⟩]
theorem bnil (n : ByteArray) : (⟨#[]⟩ : ByteArray) ++ n = n := ByteArray.empty_append
end Go.Proofs.YtmoamoopoifnlaaGreatDoor.P

namespace Go.Proofs.YtmoamoopoifnlaaGreatDoor.P
open Go.RowKit Go.Proofs.YtmoamoopoifnlaaGreatDoorW.PrintWords Go.Proofs.YtmoamoopoifnlaaGreatDoorL
set_option linter.unusedVariables false
set_option linter.unusedSimpArgs false

theorem szInt64S_some {l : List Int} (hl : l.length ≤ maxLen) {a : Int} (ha0 : 0 ≤ a) (ha : a ≤ 1048576) : ∃ r, laws_szInt64S.f l a = some r ∧ (r < 0 ∨ (0 ≤ r ∧ r ≤ a ∧ l.length ≤ 1048576)) := by
  have hl' : l.length ≤ 9223372036854775807 := by simpa only [maxLen] using hl
  unfold laws_szInt64S.f
  rw [wrap_id zbd zbd]
  by_cases h0 : a - (l.length : Int) < 0
  · rw [if_pos h0]; exact ⟨-1, rfl, .inl zbd⟩
  · rw [if_neg h0]; exact ⟨_, rfl, .inr ⟨zbd, zbd, zbd⟩⟩
theorem toInt64S_eq {l : List Int} (hl : l.length ≤ 1048576) {k : Nat} (hk : 1048600 ≤ k) : laws_toInt64S.f k l = some l := by
  unfold laws_toInt64S.f
  rw [if_pos (nn_cast _), if_pos (by simp; omega)]
  rw [set_loop (fun k acc i => laws_toInt64S.l0 k l acc i) l (fun x => x) 0 (fun k i hi acc ha _ => ?_) (fun k acc => ?_) k _ zbd zbr]
  · simp
  · simp only [laws_toInt64S.l0]
    rw [if_pos (lt_cast hi), if_pos (nn_cast i), if_pos zbd, rd_get hi, wrap_succ hi zbd]
    rfl
  · simp only [laws_toInt64S.l0]
    rw [if_neg (nlt_cast _)]
theorem eqInt64S_eq {a b : List Int} (hl : a.length ≤ 1048576) {k : Nat} (hk : 1048600 ≤ k) : laws_eqInt64S.f k a b = some (decide (a = b)) := by
  unfold laws_eqInt64S.f
  by_cases h : a.length = b.length
  · rw [if_pos zbd]
    refine eq_loop (fun k i => laws_eqInt64S.l0 k a b i) a b h 0 (fun k i h1 h2 _ => ?_) (fun k => ?_) k zbd
    · simp only [laws_eqInt64S.l0]
      rw [if_pos (lt_cast h1), if_pos (nn_cast i), if_pos (lt_cast h2), rd_get h1, rd_get h2, wrap_succ h1 zbd]

    · simp only [laws_eqInt64S.l0]
      rw [if_neg (nlt_cast _)]
  · rw [if_neg zbd]
    have : a ≠ b := fun e => h (by rw [e])
    simp [this]
theorem rd_iNote {l : List S67} {i : Nat} (h : i < l.length) : rd_T67 l (i : Int) = l[i] := by
  simp [rd_T67, List.getD_eq_getElem?_getD, List.getElem?_eq_getElem h]
theorem ext_iNote {a b : S67} : a = b ↔ a.f0 = b.f0 ∧ a.f1 = b.f1 := by
  cases a; cases b; simp
instance : DecidableEq S67 := fun _ _ => decidable_of_iff _ ext_iNote.symm
def smiNote (x : S67) : Prop := True
theorem eqNote_eq {a b : S67} (hs : smiNote a) : laws_eqNote.f a.f0 a.f1 b.f0 b.f1 = some (decide (a = b)) := by
  unfold smiNote at hs
  unfold laws_eqNote.f
  by_cases e0 : a.f0 = b.f0
  rotate_left
  · rw [if_neg e0]; have hne : ¬ a = b := fun e => e0 (ext_iNote.1 e).1; simp [hne]
  rw [if_pos e0]
  by_cases e1 : a.f1 = b.f1
  rotate_left
  · rw [if_neg e1]; have hne : ¬ a = b := fun e => e1 (ext_iNote.1 e).2; simp [hne]
  rw [if_pos e1]
  rw [decide_eq_true (ext_iNote.2 ⟨e0, e1⟩)]
theorem eqNoteS_eq {a b : List S67} (hl : a.length ≤ 1048576) (hs : ∀ y ∈ a, smiNote y) {k : Nat} (hk : 1048600 ≤ k) : laws_eqNoteS.f k a b = some (decide (a = b)) := by
  unfold laws_eqNoteS.f
  by_cases h : a.length = b.length
  · rw [if_pos zbd]
    refine eq_loop (fun k i => laws_eqNoteS.l0 k a b i) a b h 0 (fun k i h1 h2 hB => ?_) (fun k => ?_) k zbd
    · simp only [laws_eqNoteS.l0]
      rw [if_pos (lt_cast h1), if_pos (nn_cast i), if_pos (lt_cast h2), rd_iNote h1, rd_iNote h2, wrap_succ h1 zbd, eqNote_eq (hs _ (List.getElem_mem h1))]
      simp only [Option.bind_some, decide_eq_true_eq]
    · simp only [laws_eqNoteS.l0]
      rw [if_neg (nlt_cast _)]
  · rw [if_neg zbd]
    have : a ≠ b := fun e => h (by rw [e])
    simp [this]
def cTala (x : S46) : S50 := ⟨x.f0, x.f1, x.f2⟩
def smTala (x : S46) : Prop := x.f0.size ≤ 1048576 ∧ x.f1.length ≤ 1048576 ∧ x.f2.length ≤ 1048576
theorem ext_iTala {a b : S50} : a = b ↔ a.f0.toList = b.f0.toList ∧ a.f1 = b.f1 ∧ a.f2 = b.f2 := by
  simp only [bytes_eq]; cases a; cases b; simp
instance : DecidableEq S50 := fun _ _ => decidable_of_iff _ ext_iTala.symm
theorem szTala_some {x : S46} (hg : Go.Proofs.YtmoamoopoifnlaaGreatDoor.g46 x) {a : Int} (ha0 : 0 ≤ a) (ha : a ≤ 1048576) : ∃ r, laws_szTala.f x.f0 x.f1 x.f2 a = some r ∧ (r < 0 ∨ (0 ≤ r ∧ r ≤ a ∧ smTala x)) := by
  unfold laws_szTala.f smTala
  have hs0 : x.f0.size ≤ 9223372036854775807 := by have := hg.1; simpa only [maxLen] using this
  rw [wrap_id (x := a - (x.f0.size : Int)) zbd zbd]
  by_cases h0 : a - (x.f0.size : Int) < 0
  · rw [if_pos h0]; exact ⟨-1, rfl, .inl zbd⟩
  rw [if_neg h0]
  obtain ⟨r1, hr1, e1⟩ := szInt64S_some (l := x.f1) hg.2.1.1 (a := (a - (x.f0.size : Int))) zbd zbd
  rw [hr1]; simp only [Option.bind_some]
  by_cases h1 : r1 < 0
  · rw [if_pos h1]; exact ⟨-1, rfl, .inl zbd⟩
  rw [if_neg h1]
  obtain ⟨r2, hr2, e2⟩ := szInt64S_some (l := x.f2) hg.2.2.1 (a := r1) zbd zbd
  rw [hr2]; simp only [Option.bind_some]
  by_cases h2 : r2 < 0
  · rw [if_pos h2]; exact ⟨-1, rfl, .inl zbd⟩
  rw [if_neg h2]
  exact ⟨_, rfl, .inr ⟨zbd, zbd, zbd, zbd, zbd⟩⟩
theorem toTala_eq {x : S46} (hs : smTala x) {k : Nat} (hk : 1048600 ≤ k) : laws_toTala.f k x.f0 x.f1 x.f2 = some ((cTala x).f0, (cTala x).f1, (cTala x).f2) := by
  unfold smTala at hs
  unfold laws_toTala.f
  rw [toInt64S_eq (by have := hs.2.1; omega) zbd]; simp only [Option.bind_some]
  rw [toInt64S_eq (by have := hs.2.2; omega) zbd]; simp only [Option.bind_some]
  rfl
def smiTala (x : S50) : Prop := x.f1.length ≤ 1048576 ∧ x.f2.length ≤ 1048576
theorem smi_cTala {x : S46} (hs : smTala x) : smiTala (cTala x) := by
  unfold smTala at hs
  unfold smiTala cTala
  exact ⟨hs.2.1, hs.2.2⟩
theorem eqTala_eq {a b : S50} (hs : smiTala a) {k : Nat} (hk : 1048600 ≤ k) : laws_eqTala.f k a.f0 a.f1 a.f2 b.f0 b.f1 b.f2 = some (decide (a = b)) := by
  unfold smiTala at hs
  unfold laws_eqTala.f
  by_cases e0 : a.f0.toList = b.f0.toList
  rotate_left
  · rw [if_neg e0]; have hne : ¬ a = b := fun e => e0 (ext_iTala.1 e).1; simp [hne]
  rw [if_pos e0]
  rw [eqInt64S_eq hs.1 zbd]; simp only [Option.bind_some]
  by_cases e1 : a.f1 = b.f1
  rotate_left
  · rw [if_neg (by simp [e1])]; have hne : ¬ a = b := fun e => e1 (ext_iTala.1 e).2.1; simp [hne]
  rw [if_pos (by simp [e1])]
  rw [eqInt64S_eq hs.2 zbd]; simp only [Option.bind_some]
  by_cases e2 : a.f2 = b.f2
  rotate_left
  · rw [if_neg (by simp [e2])]; have hne : ¬ a = b := fun e => e2 (ext_iTala.1 e).2.2; simp [hne]
  rw [if_pos (by simp [e2])]
  rw [decide_eq_true (ext_iTala.2 ⟨e0, e1, e2⟩)]
def mkInt64S (l : List Int) (m : Int) : List Int := mkl (fun _ m => m) (fun _ => 1) l m
theorem markInt64S_eq {l : List Int} {m : Int} (hm : 0 ≤ m) (hb : m + l.length ≤ 1073741824) {k : Nat} (hk : 200 + l.length ≤ k) : laws_markInt64S.f k l m = some (m + l.length, mkInt64S l m) := by
  unfold laws_markInt64S.f mkInt64S
  have h := mark_loop (fun k l m i => laws_markInt64S.l0 k l m i) (fun _ m => m) (fun _ => 1) 1073741824 100 (fun _ => by omega) (fun k pre x rest m hB hp hm hM => ?_) (fun k l m => ?_) k l m zbd zbd hm (by rw [mtot_const]; omega)
  · rw [mtot_const] at h
    rw [show m + (l.length : Int) = m + 1 * l.length from by omega]
    exact h
  · simp only [laws_markInt64S.l0]
    rw [if_pos (by simp; omega), if_pos (nn_cast _), set_mid, wrap_id (x := m + 1) zbd zbd, wrap_succ (i := pre.length) (n := pre.length + 1) zbd zbd]
  · simp only [laws_markInt64S.l0]
    rw [if_neg (nlt_cast _)]
theorem rdm_iNote {pre rest : List S67} {x : S67} : rd_T67 (pre ++ x :: rest) (pre.length : Int) = x := by simp [rd_T67]
def mkNoteS (l : List S67) (m : Int) : List S67 := mkl (fun (_ : S67) m => (⟨m, m + 1⟩ : S67)) (fun _ => 2) l m
theorem markNoteS_eq {l : List S67} {m : Int} (hm : 0 ≤ m) (hb : m + 2 * l.length ≤ 1073741824) {k : Nat} (hk : 200 + l.length ≤ k) : laws_markNoteS.f k l m = some (m + 2 * l.length, mkNoteS l m) := by
  unfold laws_markNoteS.f mkNoteS
  have h := mark_loop (fun k l m i => laws_markNoteS.l0 k l m i) (fun (_ : S67) m => (⟨m, m + 1⟩ : S67)) (fun _ => 2) 1073741824 100 (fun _ => by omega) (fun k pre x rest m hB hp hm hM => ?_) (fun k l m => ?_) k l m zbd zbd hm (by rw [mtot_const]; omega)
  · rw [mtot_const] at h
    exact h
  · simp only [laws_markNoteS.l0]
    have w1 : wrap64 (m + 1) = m + 1 := wrap_id zbd zbd
    have w2 : wrap64 ((m + 1) + 1) = m + 1 + 1 := wrap_id zbd zbd
    rw [if_pos (by simp; omega)]
    simp only [Option.bind_some, w1, w2]
    (try rw [if_pos (nn_cast _)])
    simp only [Option.bind_some, rdm_iNote, set_mid, w1, w2]
    (try rw [if_pos (nn_cast _)])
    (try simp only [Option.bind_some, rdm_iNote, set_mid, w1, w2])
    rw [wrap_succ (i := pre.length) (n := pre.length + 1) zbd zbd, show m + (2 : Int) = m + 1 + 1 from by omega]
  · simp only [laws_markNoteS.l0]
    rw [if_neg (nlt_cast _)]
theorem heldNoteS_mk {l : List S67} {m0 : Int} (hm : 0 ≤ m0) (hb : m0 + 2 * l.length ≤ 1073741824) {k : Nat} (hk : 200 + l.length ≤ k) : laws_heldNoteS.f k (mkNoteS l m0) m0 = some (m0 + 2 * l.length) := by
  unfold laws_heldNoteS.f
  have h := held_loop (fun k m i => laws_heldNoteS.l0 k (mkNoteS l m0) m i) (fun (_ : S67) m => (⟨m, m + 1⟩ : S67)) (fun _ => 2) 1073741824 100 (fun _ => by omega) (mkNoteS l m0) (fun k pre x rest m he hB hp hm hM => ?_) (fun k m => ?_) k l m0 rfl zbd zbd hm (by rw [mtot_const]; omega)
  · rw [mtot_const] at h
    exact h
  · simp only [laws_heldNoteS.l0]
    have w1 : wrap64 (m + 1) = m + 1 := wrap_id zbd zbd
    have w2 : wrap64 ((m + 1) + 1) = m + 1 + 1 := wrap_id zbd zbd
    rw [if_pos (by rw [he]; simp; omega), if_pos (nn_cast _)]
    simp only [he, rdm_iNote, Option.bind_some, w1, w2, if_true]
    rw [wrap_succ (i := pre.length) (n := pre.length + 1) zbd zbd, show m + (2 : Int) = m + 1 + 1 from by omega]
  · simp only [laws_heldNoteS.l0]
    rw [if_neg (nlt_cast _)]
end Go.Proofs.YtmoamoopoifnlaaGreatDoor.P

namespace Go.Proofs.YtmoamoopoifnlaaGreatDoor.P
open Go.RowKit Go.Proofs.YtmoamoopoifnlaaGreatDoorW.PrintWords Go.Proofs.YtmoamoopoifnlaaGreatDoorL
theorem rdN_get {l : List S67} {i : Nat} (h : i < l.length) : rd_T67 l (i : Int) = l[i] := by
  simp [rd_T67, List.getD_eq_getElem?_getD, List.getElem?_eq_getElem h]
def noteB (x : S67) : Bool := (decide (-12 ≤ x.f0) && decide (x.f0 ≤ 23)) && (decide (1 ≤ x.f1) && decide (x.f1 ≤ 64))
def melB (l : List S67) : Bool := l.all noteB && decide (l.length ≤ 48)
theorem ValidMelody_eq {l : List S67} {k : Nat} (hk : 100 ≤ k) : impl_ValidMelody.f k l = some (melB l) := by
  unfold impl_ValidMelody.f melB
  by_cases hl : l.length ≤ 48
  rotate_left
  · rw [if_pos (by omega), decide_eq_false hl, Bool.and_false]
  rw [if_neg (by omega), decide_eq_true hl, Bool.and_true]
  refine list_loop0 (fun k i => impl_ValidMelody.l0 k l (l.length : Int) i) l (fun r => r.all noteB) 0 (fun k i hi _ => ?_) (fun k => ?_) k (by omega)
  · simp only [impl_ValidMelody.l0]
    rw [if_pos (lt_cast hi), if_pos (nn_cast i), if_pos (lt_cast hi), rdN_get hi, wrap_succ hi (by omega)]
    unfold impl_pitchOk.f impl_lengthOk.f
    rw [within_eq, within_eq]; simp only [Option.bind_some]
    rw [List.all_cons]
    change _ = some (((decide (-12 ≤ l[i].f0) && decide (l[i].f0 ≤ 23)) && (decide (1 ≤ l[i].f1) && decide (l[i].f1 ≤ 64))) && _) ∨ (((((decide (-12 ≤ l[i].f0) && decide (l[i].f0 ≤ 23)) && (decide (1 ≤ l[i].f1) && decide (l[i].f1 ≤ 64))) && _) = _) ∧ _)
    cases (decide (-12 ≤ l[i].f0) && decide (l[i].f0 ≤ 23))
    · left; rfl
    · cases (decide (1 ≤ l[i].f1) && decide (l[i].f1 ≤ 64))
      · left; rfl
      · right; exact ⟨rfl, rfl⟩
  · simp only [impl_ValidMelody.l0]
    rw [if_neg (nlt_cast _)]; rfl
theorem l09Ok_eq {l : List S67} (hl : l.length ≤ 2000000) {k : Nat} (hk : l.length + 100 ≤ k) : spec_l09Ok.f k l = some (melB l) := by
  unfold spec_l09Ok.f melB
  refine list_loop0 (fun k i => spec_l09Ok.l0 k l i) l (fun r => r.all noteB && decide (l.length ≤ 48)) 0 (fun k i hi _ => ?_) (fun k => ?_) k (by omega)
  · simp only [spec_l09Ok.l0]
    rw [if_pos (lt_cast hi), if_pos (nn_cast i), rdN_get hi, wrap_succ hi (by omega)]
    unfold spec_l03Pitch.f spec_l09Length.f
    rw [in_eq, in_eq]; simp only [Option.bind_some]
    rw [List.all_cons]
    change _ = some ((((decide (-12 ≤ l[i].f0) && decide (l[i].f0 ≤ 23)) && (decide (1 ≤ l[i].f1) && decide (l[i].f1 ≤ 64))) && _) && _) ∨ ((((((decide (-12 ≤ l[i].f0) && decide (l[i].f0 ≤ 23)) && (decide (1 ≤ l[i].f1) && decide (l[i].f1 ≤ 64))) && _) && _) = _) ∧ _)
    cases (decide (-12 ≤ l[i].f0) && decide (l[i].f0 ≤ 23))
    · left; rfl
    · cases (decide (1 ≤ l[i].f1) && decide (l[i].f1 ≤ 64))
      · left; rfl
      · right; exact ⟨rfl, rfl⟩
  · simp only [spec_l09Ok.l0]
    rw [if_neg (nlt_cast _)]
    simp
    omega
def okNote (x : S67) : Prop := (-12 ≤ x.f0 ∧ x.f0 ≤ 23) ∧ -1000000000000 ≤ x.f1 ∧ x.f1 ≤ 1000000000000
theorem melB_ok {l : List S67} (h : melB l = true) : l.length ≤ 48 ∧ ∀ x ∈ l, okNote x := by
  unfold melB at h
  rw [Bool.and_eq_true, decide_eq_true_iff] at h
  refine ⟨h.2, fun x hx => ?_⟩
  have := List.all_eq_true.1 h.1 x hx
  unfold noteB at this
  rw [Bool.and_eq_true, Bool.and_eq_true, Bool.and_eq_true, decide_eq_true_iff, decide_eq_true_iff, decide_eq_true_iff, decide_eq_true_iff] at this
  unfold okNote
  omega

def readL (s k : Int) (a : ByteArray) : Nat → Int → Int × Bool
  | 0, _ => (0, false)
  | n + 1, p => if (pt s k p).toList = a.toList then (p, true) else readL s k a n (p + 1)
def readPt (s k : Int) (a : ByteArray) : Int × Bool := readL s k a 36 (-12)
theorem readPitch_lst {s k : Int} (a : ByteArray) (h : keyB s k = true) : ∀ (n : Nat) (p : Int), -12 ≤ p → p + n = 24 → impl_readPitchIn.lst (impl_readPitchIn.q s k a) n p = some (readL s k a n p) := by
  intro n
  induction n with
  | zero => intro p _ _; rfl
  | succ n ih =>
    intro p h0 h1
    simp only [impl_readPitchIn.lst, readL, impl_readPitchIn.q]
    rw [pitchIn_eq h h0 (by omega)]
    simp only [Option.bind_some]
    by_cases he : (pt s k p).toList = a.toList
    · rw [if_pos (beq_iff_eq.2 he), if_pos he]
    · rw [if_neg (fun e => he (beq_iff_eq.1 e)), if_neg he]
      exact ih (p + 1) (by omega) (by omega)
/-- A pitch that is read lies within the pitches. -/
theorem readL_bounds {s k : Int} {a : ByteArray} : ∀ (n : Nat) (p : Int), (readL s k a n p).2 = true → p ≤ (readL s k a n p).1 ∧ (readL s k a n p).1 < p + n ∧ (pt s k (readL s k a n p).1).toList = a.toList := by
  intro n
  induction n with
  | zero => intro p h; simp [readL] at h
  | succ n ih =>
    intro p h
    simp only [readL] at h ⊢
    by_cases he : (pt s k p).toList = a.toList
    · rw [if_pos he] at h ⊢; exact ⟨by simp, by simp; omega, he⟩
    · rw [if_neg he] at h ⊢
      obtain ⟨h1, h2, h3⟩ := ih (p + 1) h
      exact ⟨by omega, by omega, h3⟩

def digB (c : UInt8) : Bool := decide (48 ≤ c.toNat) && decide (c.toNat ≤ 57)
def valD (acc : Nat) (d : List UInt8) : Nat := d.foldl (fun a c => a * 10 + (c.toNat - 48)) acc
def okN (neg : Bool) (d : List UInt8) : Bool := decide (1 ≤ d.length) && decide (d.length ≤ 18) && (decide (d.head? ≠ some 48) || (!neg && decide (d.length = 1))) && d.all digB
def sgn (neg : Bool) (n : Nat) : Int := if neg = true then -(n : Int) else (n : Int)
def numN (neg : Bool) (d : List UInt8) : Option Int := if okN neg d = true then some (sgn neg (valD 0 d)) else none
def numV (s : List UInt8) : Option Int := if s.head? = some 45 then numN true (s.drop 1) else numN false s
def pairN : Option Int → Int × Bool | some n => (n, true) | none => (0, false)
theorem digB_iff {c : UInt8} : digB c = true ↔ 48 ≤ c.toNat ∧ c.toNat ≤ 57 := by
  unfold digB
  rw [Bool.and_eq_true, decide_eq_true_iff, decide_eq_true_iff]
theorem valD_cons (acc : Nat) (c : UInt8) (r : List UInt8) : valD acc (c :: r) = valD (acc * 10 + (c.toNat - 48)) r := by
  unfold valD; rw [List.foldl_cons]
theorem valD_ge : ∀ (d : List UInt8) (acc : Nat), acc ≤ valD acc d
  | [], _ => Nat.le_refl _
  | c :: r, acc => by rw [valD_cons]; have := valD_ge r (acc * 10 + (c.toNat - 48)); omega
theorem valD_lt : ∀ (d : List UInt8) (acc j : Nat), d.all digB = true → acc < 10 ^ j → valD acc d < 10 ^ (j + d.length)
  | [], acc, j, _, h => h
  | c :: r, acc, j, ha, h => by
    rw [List.all_cons, Bool.and_eq_true, digB_iff] at ha
    have := valD_lt r (acc * 10 + (c.toNat - 48)) (j + 1) ha.2 (by rw [Nat.pow_succ]; omega)
    rw [valD_cons, List.length_cons, show j + (r.length + 1) = j + 1 + r.length by omega]; exact this
theorem pow17 {j : Nat} (h : j ≤ 17) : 10 ^ j ≤ 100000000000000000 := Nat.le_trans (Nat.pow_le_pow_right (by decide) h) (by decide)
theorem bt_drop {s : ByteArray} {i : Nat} {c : UInt8} {r : List UInt8} (h : s.data.toList.drop i = c :: r) : bt s (i : Int) = (c.toNat : Int) := by
  have hl : i < s.size := by
    have := congrArg List.length h
    rw [List.length_drop, List.length_cons, ← Lib.size_eq] at this; omega
  have e : s.data.toList[i]? = some c := by
    have := List.getElem?_drop (xs := s.data.toList) (i := i) (j := 0)
    rw [h] at this; simpa using this.symm
  rw [Lib.data_getElem? s i hl] at e
  have e' := Option.some.inj e
  have hi : ((i : Int)).toNat = i := by omega
  unfold bt
  rw [dif_pos (by omega)]
  simp only [hi]
  rw [e']
theorem Digit_eq (c : UInt8) : spec_l01Digit.f (c.toNat : Int) = some (digB c) := by
  unfold spec_l01Digit.f digB
  by_cases h : (c.toNat : Int) ≥ 48
  · rw [if_pos h]
    have h1 : 48 ≤ c.toNat := by omega
    by_cases h2 : c.toNat ≤ 57
    · have h3 : (c.toNat : Int) ≤ 57 := by omega
      simp [h1, h2, h3]
    · have h3 : ¬ (c.toNat : Int) ≤ 57 := by omega
      simp [h1, h2, h3]
  · rw [if_neg h]
    have h1 : ¬ 48 ≤ c.toNat := by omega
    simp [h1]
theorem Num_l0 (s : ByteArray) (neg : Bool) (hs : s.size ≤ 1048576) : ∀ (d k i acc j : Nat), i + d = s.size → acc < 10 ^ j → j + d ≤ 18 → d + 1 ≤ k →
    spec_l01Number.l0 k s (if neg = true then 1 else 0) (acc : Int) (i : Int) = some (if (s.data.toList.drop i).all digB = true then (sgn neg (valD acc (s.data.toList.drop i)), true) else (0, false)) := by
  intro d
  induction d with
  | zero =>
    intro k i acc j hi ha hj hk
    obtain ⟨k, rfl⟩ : ∃ m, k = m + 1 := ⟨k - 1, by omega⟩
    have hd : s.data.toList.drop i = [] := List.drop_eq_nil_of_le (by rw [← Lib.size_eq]; omega)
    have := pow17 (j := 17) (by omega)
    have hlt : acc < 1000000000000000000 := Nat.lt_of_lt_of_le ha (Nat.le_trans (Nat.pow_le_pow_right (by decide) (show j ≤ 18 by omega)) (by decide))
    simp only [spec_l01Number.l0]
    rw [if_neg (by omega), hd]
    cases neg
    · simp [sgn, valD]
    · simp [sgn, valD, wrap_id (x := -(acc : Int)) (by omega) (by omega)]
  | succ d ih =>
    intro k i acc j hi ha hj hk
    obtain ⟨k, rfl⟩ : ∃ m, k = m + 1 := ⟨k - 1, by omega⟩
    have hlt : i < s.data.toList.length := by rw [← Lib.size_eq]; omega
    obtain ⟨c, r, hd⟩ : ∃ c r, s.data.toList.drop i = c :: r := ⟨_, _, List.drop_eq_getElem_cons hlt⟩
    have hr : s.data.toList.drop (i + 1) = r := by
      rw [← List.drop_drop, hd]; rfl
    have hp := pow17 (j := j) (by omega)
    simp only [spec_l01Number.l0]
    rw [if_pos (by omega), if_pos (nn_cast i), bt_drop hd, Digit_eq, hd, List.all_cons]
    simp only [Option.bind_some]
    by_cases hc : digB c = true
    · rw [if_pos hc, hc, Bool.true_and]
      rw [digB_iff] at hc
      have e1 : wrap64 (wrap64 (10 * (acc : Int)) + ((c.toNat : Int) - 48) % 256) = ((acc * 10 + (c.toNat - 48) : Nat) : Int) := by
        rw [wrap_id (x := 10 * (acc : Int)) (by omega) (by omega), wrap_id (by omega) (by omega)]; omega
      have e2 : wrap64 ((i : Int) + 1) = ((i + 1 : Nat) : Int) := by rw [wrap_id (by omega) (by omega)]; omega
      rw [e1, e2, ih k (i + 1) _ (j + 1) (by omega) (by rw [Nat.pow_succ]; omega) (by omega) (by omega), hr, valD_cons]
    · rw [if_neg hc]
      rw [Bool.not_eq_true] at hc
      simp [hc]
theorem Num_j1 (s : ByteArray) (neg : Bool) (x4 : Nat) (hx : x4 = if neg = true then 1 else 0) (hle : x4 ≤ s.size) (hs : s.size ≤ 1048576) {k : Nat} (hk : 50 ≤ k) :
    spec_l01Number.j1 k s (x4 : Int) = some (pairN (numN neg (s.data.toList.drop x4))) := by
  obtain ⟨k, rfl⟩ : ∃ m, k = m + 2 := ⟨k - 2, by omega⟩
  have hd : (s.data.toList.drop x4).length = s.size - x4 := by rw [List.length_drop, ← Lib.size_eq]
  have j2t : spec_l01Number.j2 (k + 1) s (x4 : Int) true = some (0, false) := by simp only [spec_l01Number.j2]; rw [if_pos trivial]
  have j2f : s.size - x4 ≤ 18 → spec_l01Number.j2 (k + 1) s (x4 : Int) false = some (if (s.data.toList.drop x4).all digB = true then (sgn neg (valD 0 (s.data.toList.drop x4)), true) else (0, false)) := fun h18 => by
    have := Num_l0 s neg hs (s.size - x4) k x4 0 0 (by omega) (by decide) (by omega) (by omega)
    have e : ((if neg = true then 1 else 0 : Int)) = (x4 : Int) := by rw [hx]; cases neg <;> rfl
    rw [e] at this
    simp only [spec_l01Number.j2]
    rw [if_neg (by decide)]
    exact this
  show spec_l01Number.j1 (k + 1 + 1) s (x4 : Int) = _
  simp only [spec_l01Number.j1]
  unfold numN okN
  by_cases h1 : (s.size : Int) = (x4 : Int)
  · rw [if_pos h1, j2t, hd, show s.size - x4 = 0 by omega]; rfl
  rw [if_neg h1, wrap_id (by omega) (by omega)]
  by_cases h2 : (s.size : Int) - (x4 : Int) > 18
  · have h3 : ¬ s.size - x4 ≤ 18 := by omega
    rw [if_pos h2, j2t, hd, decide_eq_false h3]; simp [pairN]
  have hlt : x4 < s.data.toList.length := by rw [← Lib.size_eq]; omega
  rw [if_neg h2, if_pos (nn_cast x4), if_pos (by omega), hd]
  obtain ⟨c, r, hc⟩ : ∃ c r, s.data.toList.drop x4 = c :: r := ⟨_, _, List.drop_eq_getElem_cons hlt⟩
  have h18 : s.size - x4 ≤ 18 := by omega
  have h1' : 1 ≤ s.size - x4 := by omega
  rw [bt_drop hc]
  have key : ∀ b : Bool, (b = (decide ((s.data.toList.drop x4).head? ≠ some 48) || (!neg && decide (s.size - x4 = 1)))) → (if b = true then spec_l01Number.j2 (k + 1) s (x4 : Int) false else spec_l01Number.j2 (k + 1) s (x4 : Int) true) = some (pairN (if (decide (1 ≤ s.size - x4) && decide (s.size - x4 ≤ 18) && (decide ((s.data.toList.drop x4).head? ≠ some 48) || (!neg && decide (s.size - x4 = 1))) && (s.data.toList.drop x4).all digB) = true then some (sgn neg (valD 0 (s.data.toList.drop x4))) else none)) := by
    intro b hb
    rw [← hb, decide_eq_true h1', decide_eq_true h18]
    cases b
    · rw [if_neg (by decide), j2t]; rfl
    · rw [if_pos rfl, j2f h18]
      cases (s.data.toList.drop x4).all digB <;> rfl
  by_cases h48 : (c.toNat : Int) = 48
  · have hc48 : c = 48 := UInt8.toNat_inj.1 (by rw [show c.toNat = 48 by omega]; rfl)
    rw [if_pos h48]
    have hh : decide ((s.data.toList.drop x4).head? ≠ some 48) = false := by rw [hc, hc48]; rfl
    have := key (!decide ((s.size : Int) > 1)) (by
      rw [hh, Bool.false_or]
      cases neg
      · have : x4 = 0 := hx
        subst this
        by_cases hz : s.size = 1
        · simp [hz]
        · have : (s.size : Int) > 1 := by omega
          simp [hz, this]
      · have : x4 = 1 := hx
        subst this
        have : (s.size : Int) > 1 := by omega
        simp [this])
    rw [← this]
    cases decide ((s.size : Int) > 1) <;> rfl
  · rw [if_neg h48]
    have hh : decide ((s.data.toList.drop x4).head? ≠ some 48) = true := by
      rw [hc]; refine decide_eq_true ?_
      intro e; apply h48; rw [show c = 48 from Option.some.inj e]; rfl
    have := key true (by rw [hh, Bool.true_or])
    rw [← this]; rfl
theorem Number_eq (s : ByteArray) (hs : s.size ≤ 1048576) {k : Nat} (hk : 60 ≤ k) : spec_l01Number.f k s = some (pairN (numV s.data.toList)) := by
  obtain ⟨k, rfl⟩ : ∃ m, k = m + 1 := ⟨k - 1, by omega⟩
  unfold spec_l01Number.f numV
  by_cases h0 : (s.size : Int) > 0
  · have hlt : 0 < s.data.toList.length := by rw [← Lib.size_eq]; omega
    obtain ⟨c, r, hc⟩ : ∃ c r, s.data.toList.drop 0 = c :: r := ⟨_, _, List.drop_eq_getElem_cons hlt⟩
    rw [if_pos h0, if_pos (by omega), show (0 : Int) = ((0 : Nat) : Int) from rfl, bt_drop hc]
    rw [List.drop_zero] at hc
    have hh : s.data.toList.head? = some c := by rw [hc]; rfl
    rw [hh]
    simp only [spec_l01Number.j0]
    by_cases h45 : c = 45
    · subst h45
      rw [if_pos (by decide), if_pos rfl]
      exact Num_j1 s true 1 rfl (by omega) hs (by omega)
    · have : ¬ ((((c.toNat : Nat) : Int)) == 45) = true := by
        intro e; apply h45; exact UInt8.toNat_inj.1 (by have := beq_iff_eq.1 e; rw [show c.toNat = 45 by omega]; rfl)
      rw [if_neg this, if_neg (fun e => h45 (Option.some.inj e))]
      have := Num_j1 s false 0 rfl (by omega) hs (k := k) (by omega)
      rw [List.drop_zero] at this; exact this
  · have hz : s.size = 0 := by omega
    have hn : s.data.toList = [] := List.eq_nil_of_length_eq_zero (by rw [← Lib.size_eq]; exact hz)
    rw [if_neg h0, hn]
    simp only [spec_l01Number.j0]
    rw [if_neg (by decide)]
    have := Num_j1 s false 0 rfl (by omega) hs (k := k) (by omega)
    rw [List.drop_zero, hn] at this; exact this
theorem valD_snoc (l : List UInt8) (b : UInt8) : valD 0 (l ++ [b]) = valD 0 l * 10 + (b.toNat - 48) := by unfold valD; rw [List.foldl_append]; rfl
theorem valD_pos {d : List UInt8} (h0 : d ≠ []) (ha : d.all digB = true) (h : d.head? ≠ some 48) : 1 ≤ valD 0 d := by
  cases d with
  | nil => exact absurd rfl h0
  | cons c r =>
    rw [List.all_cons, Bool.and_eq_true, digB_iff] at ha
    have hc : c.toNat ≠ 48 := fun e => h (by rw [List.head?_cons]; congr 1; exact UInt8.toNat_inj.1 (by rw [e]; rfl))
    have := valD_ge r (0 * 10 + (c.toNat - 48))
    rw [valD_cons]; omega
theorem dec_val : ∀ (n : Nat) (d : List UInt8), d.length ≤ n → d ≠ [] → d.all digB = true → (d.head? ≠ some 48 ∨ d.length = 1) → Lib.decDigits (valD 0 d) = d := by
  intro n
  induction n with
  | zero => intro d h h0; exact absurd (List.eq_nil_of_length_eq_zero (by omega)) h0
  | succ n ih =>
    intro d h h0 ha hh
    rcases List.eq_nil_or_concat d with rfl | ⟨l, b, rfl⟩
    · exact absurd rfl h0
    rw [List.concat_eq_append] at h ha hh ⊢
    rw [List.all_append, Bool.and_eq_true, List.all_cons, Bool.and_eq_true, digB_iff] at ha
    have hb := ha.2.1
    have eb : UInt8.ofNat (48 + (b.toNat - 48)) = b := by rw [show 48 + (b.toNat - 48) = b.toNat by omega]; exact UInt8.ofNat_toNat
    rw [valD_snoc, Lib.decDigits]
    cases l with
    | nil =>
      rw [dif_pos (by show 0 * 10 + _ < 10; omega)]
      show [UInt8.ofNat (48 + (0 * 10 + (b.toNat - 48)))] = _
      rw [Nat.zero_mul, Nat.zero_add, eb]; rfl
    | cons c r =>
      have h48 : (c :: r).head? ≠ some 48 := by
        rcases hh with hh | hh
        · simpa using hh
        · simp at hh
      have hp := valD_pos (by simp) ha.1 h48
      rw [dif_neg (by omega), show (valD 0 (c :: r) * 10 + (b.toNat - 48)) / 10 = valD 0 (c :: r) by omega, show (valD 0 (c :: r) * 10 + (b.toNat - 48)) % 10 = b.toNat - 48 by omega, eb]
      rw [ih (c :: r) (by simp at h ⊢; omega) (by simp) ha.1 (Or.inl h48)]
theorem toNat_dig {u : Nat} (h : u < 10) : (UInt8.ofNat (48 + u)).toNat = 48 + u := by
  rw [UInt8.toNat_ofNat']; omega
theorem dec_spec : ∀ (n u : Nat), u ≤ n → Lib.decDigits u ≠ [] ∧ (Lib.decDigits u).all digB = true ∧ valD 0 (Lib.decDigits u) = u ∧ (u ≠ 0 → (Lib.decDigits u).head? ≠ some 48) ∧ (u = 0 → (Lib.decDigits u).length = 1) := by
  intro n
  induction n with
  | zero =>
    intro u h
    obtain rfl : u = 0 := by omega
    rw [Lib.decDigits_one (by decide)]
    exact ⟨by simp, by decide, by decide, fun h => absurd rfl h, fun _ => rfl⟩
  | succ n ih =>
    intro u h
    rw [Lib.decDigits]
    by_cases h10 : u < 10
    · rw [dif_pos h10]
      have e := toNat_dig h10
      refine ⟨by simp, ?_, ?_, ?_, fun _ => rfl⟩
      · rw [List.all_cons, Bool.and_eq_true, digB_iff, e]; exact ⟨by omega, rfl⟩
      · rw [valD_cons, e]; show 0 * 10 + (48 + u - 48) = u; omega
      · intro h0 e2
        rw [List.head?_cons] at e2
        have := congrArg UInt8.toNat (Option.some.inj e2)
        rw [e] at this
        have e48 : (48 : UInt8).toNat = 48 := rfl
        omega
    · rw [dif_neg h10]
      obtain ⟨i1, i2, i3, i4, _⟩ := ih (u / 10) (by omega)
      have e := toNat_dig (u := u % 10) (by omega)
      refine ⟨by simp, ?_, ?_, ?_, fun h0 => by omega⟩
      · rw [List.all_append, i2, List.all_cons, Bool.true_and, Bool.and_eq_true, digB_iff, e]; exact ⟨by omega, rfl⟩
      · rw [valD_snoc, i3, e]; omega
      · intro _
        have := i4 (by omega)
        revert this i1
        generalize Lib.decDigits (u / 10) = l
        intro i1 i4
        cases l with
        | nil => exact absurd rfl i1
        | cons c r => simpa using i4
theorem parseM : ∀ (d : List UInt8) (acc j : Nat), d.all digB = true → acc < 10 ^ j → j + d.length ≤ 18 → Lib.parseUintM (2 ^ 64 - 1) acc d = .ok (valD acc d)
  | [], acc, j, _, _, _ => rfl
  | c :: r, acc, j, ha, hj, hl => by
    rw [List.all_cons, Bool.and_eq_true, digB_iff] at ha
    rw [List.length_cons] at hl
    have hp := pow17 (j := j) (by omega)
    rw [Lib.parseUintM, if_pos ha.1, if_neg (by omega), if_neg (by omega), valD_cons]
    exact parseM r _ (j + 1) ha.2 (by rw [Nat.pow_succ]; omega) (by omega)
theorem okN_iff {neg : Bool} {d : List UInt8} : okN neg d = true ↔ (1 ≤ d.length ∧ d.length ≤ 18) ∧ (d.head? ≠ some 48 ∨ (neg = false ∧ d.length = 1)) ∧ d.all digB = true := by
  unfold okN
  simp only [Bool.and_eq_true, Bool.or_eq_true, decide_eq_true_iff, Bool.not_eq_true', and_assoc]
theorem parseU {neg : Bool} {d : List UInt8} (h : okN neg d = true) : Lib.parseUintB 64 d = .ok (valD 0 d) ∧ valD 0 d < 1000000000000000000 := by
  obtain ⟨⟨h1, h2⟩, _, h3⟩ := okN_iff.1 h
  unfold Lib.parseUintB
  rw [if_neg (by intro e; rw [e] at h1; simp at h1)]
  refine ⟨parseM d 0 0 h3 (by decide) (by omega), ?_⟩
  have := valD_lt d 0 0 h3 (by decide)
  exact Nat.lt_of_lt_of_le this (Nat.le_trans (Nat.pow_le_pow_right (by decide) (show 0 + d.length ≤ 18 by omega)) (by decide))
theorem dec_list (n : Int) : (impl_Decimal.t n).data.toList = Lib.itoa n := by unfold impl_Decimal.t; simp
theorem trim_minus (r : List UInt8) : Lib.trimPrefix (45 :: r) [45] = r := by
  unfold Lib.trimPrefix Lib.hasPrefix
  rw [if_pos (by simp [List.isPrefixOf])]; rfl
theorem trim_other {c : UInt8} (r : List UInt8) (h : c ≠ 45) : Lib.trimPrefix (c :: r) [45] = c :: r := by
  unfold Lib.trimPrefix Lib.hasPrefix
  rw [if_neg (by simp [List.isPrefixOf]; exact fun e => h e.symm)]
theorem num_itoa {s : List UInt8} {n : Int} (h : numV s = some n) : Lib.itoa n = s ∧ Lib.parseIntB 64 s = .ok n ∧ (Lib.trimPrefix s [45]).length ≤ 18 := by
  unfold numV at h
  by_cases h45 : s.head? = some 45
  · rw [if_pos h45] at h
    obtain ⟨r, rfl⟩ : ∃ r, s = 45 :: r := by
      cases s with
      | nil => simp at h45
      | cons c r => exact ⟨r, by rw [List.head?_cons] at h45; rw [Option.some.inj h45]⟩
    rw [show (45 :: r).drop 1 = r from rfl] at h
    unfold numN at h
    by_cases ho : okN true r = true
    · rw [if_pos ho] at h
      obtain rfl := Option.some.inj h
      obtain ⟨p1, p2⟩ := parseU ho
      obtain ⟨⟨h1, h2⟩, h3, h4⟩ := okN_iff.1 ho
      have h48 : r.head? ≠ some 48 := h3.resolve_right (fun e => by simp at e)
      have hne : r ≠ [] := by intro e; rw [e] at h1; simp at h1
      have hp := valD_pos hne h4 h48
      refine ⟨?_, ?_, by rw [trim_minus]; exact h2⟩
      · unfold Lib.itoa sgn
        rw [if_pos rfl, if_pos (by omega), show (-((valD 0 r : Nat) : Int)).natAbs = valD 0 r by omega, dec_val _ r (Nat.le_refl _) hne h4 (Or.inl h48)]
      · rw [Lib.parseIntB_minus, p1]
        show (if 2 ^ (64 - 1) < valD 0 r then _ else _) = _
        rw [if_neg (by omega)]; rfl
    · rw [if_neg ho] at h; cases h
  · rw [if_neg h45] at h
    unfold numN at h
    by_cases ho : okN false s = true
    · rw [if_pos ho] at h
      obtain rfl := Option.some.inj h
      obtain ⟨p1, p2⟩ := parseU ho
      obtain ⟨⟨h1, h2⟩, h3, h4⟩ := okN_iff.1 ho
      cases s with
      | nil => simp at h1
      | cons c r =>
        have hc : 48 ≤ c.toNat ∧ c.toNat ≤ 57 := by
          rw [List.all_cons, Bool.and_eq_true, digB_iff] at h4; exact h4.1
        have hc45 : c ≠ 45 := fun e => h45 (by rw [e]; rfl)
        refine ⟨?_, ?_, by rw [trim_other r hc45]; exact h2⟩
        · unfold Lib.itoa sgn
          show (if ((valD 0 (c :: r) : Nat) : Int) < 0 then _ else Lib.decDigits (((valD 0 (c :: r) : Nat) : Int)).toNat) = _
          rw [if_neg (by omega), show (((valD 0 (c :: r) : Nat) : Int)).toNat = valD 0 (c :: r) by omega, dec_val _ _ (Nat.le_refl _) (by simp) h4 (h3.imp id (fun e => e.2))]
        · rw [Lib.parseIntB_plain 64 c r (by omega) (by omega), p1]
          show (if 2 ^ (64 - 1) ≤ valD 0 (c :: r) then _ else _) = _
          rw [if_neg (by omega)]; rfl
    · rw [if_neg ho] at h; cases h
theorem num_of_itoa {n : Int} (h : (Lib.trimPrefix (Lib.itoa n) [45]).length ≤ 18) : numV (Lib.itoa n) = some n := by
  unfold Lib.itoa at h ⊢
  by_cases hn : n < 0
  · rw [if_pos hn] at h ⊢
    rw [trim_minus] at h
    obtain ⟨i1, i2, i3, i4, _⟩ := dec_spec n.natAbs n.natAbs (Nat.le_refl _)
    unfold numV
    rw [if_pos (show (45 :: Lib.decDigits n.natAbs).head? = some 45 from rfl), show (45 :: Lib.decDigits n.natAbs).drop 1 = Lib.decDigits n.natAbs from rfl]
    unfold numN
    have hl : 1 ≤ (Lib.decDigits n.natAbs).length := List.length_pos_iff.2 i1
    rw [if_pos (okN_iff.2 ⟨⟨hl, h⟩, Or.inl (i4 (by omega)), i2⟩), i3]
    unfold sgn
    rw [if_pos rfl]; congr 1; omega
  · rw [if_neg hn] at h ⊢
    obtain ⟨i1, i2, i3, i4, i5⟩ := dec_spec n.toNat n.toNat (Nat.le_refl _)
    have hl : 1 ≤ (Lib.decDigits n.toNat).length := List.length_pos_iff.2 i1
    have h45 : (Lib.decDigits n.toNat).head? ≠ some 45 ∧ Lib.trimPrefix (Lib.decDigits n.toNat) [45] = Lib.decDigits n.toNat := by
      revert i1 i2
      generalize Lib.decDigits n.toNat = l
      intro i1 i2
      cases l with
      | nil => exact absurd rfl i1
      | cons c r =>
        rw [List.all_cons, Bool.and_eq_true, digB_iff] at i2
        have hc : c ≠ 45 := fun e => by rw [e] at i2; exact absurd i2.1.1 (by decide)
        exact ⟨fun e => hc (Option.some.inj e), trim_other r hc⟩
    rw [h45.2] at h
    unfold numV
    rw [if_neg h45.1]
    unfold numN
    have hx : (Lib.decDigits n.toNat).head? ≠ some 48 ∨ (false = false ∧ (Lib.decDigits n.toNat).length = 1) := by
      by_cases hz : n.toNat = 0
      · exact Or.inr ⟨rfl, i5 hz⟩
      · exact Or.inl (i4 hz)
    rw [if_pos (okN_iff.2 ⟨⟨hl, h⟩, hx, i2⟩), i3]
    unfold sgn
    rw [if_neg (by decide)]; congr 1; omega
theorem RD_eq (s : ByteArray) : impl_ReadDecimal.v s = numV s.data.toList := by
  cases hn : numV s.data.toList with
  | some n =>
    obtain ⟨h1, h2, h3⟩ := num_itoa hn
    unfold impl_ReadDecimal.v
    rw [h2]
    show (if 18 < (Lib.trimPrefix s.data.toList [45]).length then none else if (impl_Decimal.t n).toList = s.toList then some n else none) = some n
    rw [if_neg (by omega), if_pos (by rw [ByteArray.toList_eq, ByteArray.toList_eq, dec_list, h1])]
  | none =>
    cases hv : impl_ReadDecimal.v s with
    | none => rfl
    | some v =>
      exfalso
      unfold impl_ReadDecimal.v at hv
      rcases hp : Lib.parseIntB 64 s.data.toList with w | _ | _ <;> rw [hp] at hv
      · replace hv : (if 18 < (Lib.trimPrefix s.data.toList [45]).length then none else if (impl_Decimal.t w).toList = s.toList then some w else none) = some v := hv
        by_cases h18 : 18 < (Lib.trimPrefix s.data.toList [45]).length
        · rw [if_pos h18] at hv; cases hv
        rw [if_neg h18] at hv
        by_cases he : (impl_Decimal.t w).toList = s.toList
        · rw [ByteArray.toList_eq, ByteArray.toList_eq, dec_list] at he
          rw [← he] at h18 hn
          rw [num_of_itoa (by omega)] at hn; cases hn
        · rw [if_neg he] at hv; cases hv
      · cases hv
      · cases hv
theorem ReadDecimal_eq (s : ByteArray) (hs : s.size ≤ 1048576) : impl_ReadDecimal.f s = some (pairN (numV s.data.toList)) := by
  unfold impl_ReadDecimal.f
  rw [if_pos (by omega), RD_eq]
  cases numV s.data.toList <;> rfl

def baL (l : List UInt8) : ByteArray := ⟨l.toArray⟩
def splitL (c : UInt8) (cur : List UInt8) : List UInt8 → List (List UInt8)
  | [] => [cur]
  | b :: r => if b = c then cur :: splitL c [] r else splitL c (cur ++ [b]) r
theorem baL_data (l : List UInt8) : (baL l).data.toList = l := by unfold baL; simp
theorem data_baL (s : ByteArray) : baL s.data.toList = s := Lib.mk_data s
theorem Split_l0 (s : ByteArray) (c : UInt8) (hs : s.size ≤ 1048576) : ∀ (d k b i : Nat) (acc : List ByteArray), i + d = s.size → b ≤ i → acc.length ≤ i → d + 1 ≤ k →
    spec_l01Split.l0 k s (c.toNat : Int) acc (b : Int) (i : Int) = some (acc ++ (splitL c ((s.data.toList.drop b).take (i - b)) (s.data.toList.drop i)).map baL) := by
  intro d
  induction d with
  | zero =>
    intro k b i acc hi hb ha hk
    obtain ⟨k, rfl⟩ : ∃ m, k = m + 1 := ⟨k - 1, by omega⟩
    have hd : s.data.toList.drop i = [] := List.drop_eq_nil_of_le (by rw [← Lib.size_eq]; omega)
    simp only [spec_l01Split.l0]
    rw [if_neg (by omega), if_pos (nn_cast b), if_pos (by omega), if_pos (by omega), hd, Lib.extract_eq]
    show some (acc ++ [baL _]) = some (acc ++ [baL _])
    rw [show ((b : Int)).toNat = b by omega, show s.size - b = i - b by omega]
  | succ d ih =>
    intro k b i acc hi hb ha hk
    obtain ⟨k, rfl⟩ : ∃ m, k = m + 1 := ⟨k - 1, by omega⟩
    have hlt : i < s.data.toList.length := by rw [← Lib.size_eq]; omega
    obtain ⟨x, r, hd⟩ : ∃ x r, s.data.toList.drop i = x :: r := ⟨_, _, List.drop_eq_getElem_cons hlt⟩
    have hr : s.data.toList.drop (i + 1) = r := by rw [← List.drop_drop, hd]; rfl
    have e2 : wrap64 ((i : Int) + 1) = ((i + 1 : Nat) : Int) := by rw [wrap_id (by omega) (by omega)]; omega
    simp only [spec_l01Split.l0]
    rw [if_pos (by omega), if_pos (nn_cast i), bt_drop hd, e2, hd]
    by_cases hc : x = c
    · subst hc
      rw [if_pos rfl, if_pos (nn_cast b), if_pos (by omega), if_pos (by omega), if_pos (by omega), ih k (i + 1) (i + 1) _ (by omega) (by omega) (by rw [List.length_append]; simp; omega) (by omega), hr, Lib.extract_eq]
      rw [show splitL x ((s.data.toList.drop b).take (i - b)) (x :: r) = ((s.data.toList.drop b).take (i - b)) :: splitL x [] r from if_pos rfl]
      rw [Nat.sub_self, List.take_zero, List.map_cons, List.append_assoc, show ((b : Int)).toNat = b by omega, show ((i : Int)).toNat = i by omega]
      rfl
    · rw [if_neg (fun e => hc (UInt8.toNat_inj.1 (by omega))), ih k b (i + 1) _ (by omega) (by omega) (by omega) (by omega), hr]
      rw [show splitL c ((s.data.toList.drop b).take (i - b)) (x :: r) = splitL c (((s.data.toList.drop b).take (i - b)) ++ [x]) r from if_neg hc]
      have : (s.data.toList.drop b).take (i + 1 - b) = (s.data.toList.drop b).take (i - b) ++ [x] := by
        rw [show i + 1 - b = (i - b) + 1 by omega, List.take_add_one, List.getElem?_drop, show b + (i - b) = i by omega]
        have : s.data.toList[i]? = some x := by
          have := List.getElem?_drop (xs := s.data.toList) (i := i) (j := 0)
          rw [hd] at this; simpa using this.symm
        rw [this]; rfl
      rw [this]
theorem Split_eq (s : ByteArray) (c : UInt8) (hs : s.size ≤ 1048576) {k : Nat} (hk : s.size + 1 ≤ k) : spec_l01Split.f k s (c.toNat : Int) = some ((splitL c [] s.data.toList).map baL) := by
  unfold spec_l01Split.f
  have := Split_l0 s c hs s.size k 0 0 [] (by omega) (by omega) (by simp) (by omega)
  simpa using this
theorem splitL_none {c : UInt8} : ∀ (l cur : List UInt8), c ∉ l → splitL c cur l = [cur ++ l]
  | [], cur, _ => by simp [splitL]
  | b :: r, cur, h => by
    rw [show splitL c cur (b :: r) = splitL c (cur ++ [b]) r from if_neg (fun e => h (by rw [e]; exact List.mem_cons_self)), splitL_none r _ (fun e => h (List.mem_cons_of_mem _ e))]
    simp
theorem splitL_at {c : UInt8} : ∀ (a cur b : List UInt8), c ∉ a → splitL c cur (a ++ c :: b) = (cur ++ a) :: splitL c [] b
  | [], cur, b, _ => by
    rw [List.nil_append, List.append_nil]; exact if_pos rfl
  | x :: r, cur, b, h => by
    rw [List.cons_append, show splitL c cur (x :: (r ++ c :: b)) = splitL c (cur ++ [x]) (r ++ c :: b) from if_neg (fun e => h (by rw [e]; exact List.mem_cons_self)), splitL_at r _ b (fun e => h (List.mem_cons_of_mem _ e))]
    simp
theorem splitL_pos (c : UInt8) : ∀ (l cur : List UInt8), 1 ≤ (splitL c cur l).length
  | [], _ => Nat.le_refl _
  | b :: r, cur => by
    unfold splitL
    split
    · simp
    · exact splitL_pos c r _
theorem indexByte_at {c : UInt8} : ∀ (a b : List UInt8), c ∉ a → Lib.indexByte (a ++ c :: b) c = (a.length : Int)
  | [], b, _ => by simp [Lib.indexByte]
  | x :: r, b, h => by
    have ih := indexByte_at r b (fun e => h (List.mem_cons_of_mem _ e))
    have hx : (x == c) = false := beq_eq_false_iff_ne.2 (fun e => h (by rw [e]; exact List.mem_cons_self))
    rw [List.cons_append, Lib.indexByte, hx, ih]
    have : ((r.length : Int) == -1) = false := beq_eq_false_iff_ne.2 (by omega)
    simp [this]
theorem indexByte_no {c : UInt8} : ∀ (l : List UInt8), c ∉ l → Lib.indexByte l c = -1
  | [], _ => rfl
  | x :: r, h => by
    have ih := indexByte_no r (fun e => h (List.mem_cons_of_mem _ e))
    have hx : (x == c) = false := beq_eq_false_iff_ne.2 (fun e => h (by rw [e]; exact List.mem_cons_self))
    rw [Lib.indexByte, hx, ih]; rfl
theorem cut_at {c : UInt8} (a b : List UInt8) (h : c ∉ a) : Lib.cut (a ++ c :: b) [c] = (a, b, true) := by
  unfold Lib.cut
  rw [Lib.index_one, indexByte_at a b h, if_pos (by omega), show ((a.length : Int)).toNat = a.length by omega]
  simp
theorem cut_no {c : UInt8} (l : List UInt8) (h : c ∉ l) : Lib.cut l [c] = (l, [], false) := by
  unfold Lib.cut
  rw [Lib.index_one, indexByte_no l h, if_neg (by decide)]

theorem baL_size (l : List UInt8) : (baL l).size = l.length := by unfold baL; show l.toArray.size = _; simp
theorem cut_shape (l : List UInt8) (c : UInt8) : (∃ a b, Lib.cut l [c] = (a, b, true) ∧ l = a ++ c :: b ∧ c ∉ a) ∨ (Lib.cut l [c] = (l, [], false) ∧ c ∉ l) := by
  by_cases hm : c ∈ l
  · obtain ⟨a, b, rfl, ha⟩ := List.eq_append_cons_of_mem hm
    exact Or.inl ⟨a, b, cut_at a b ha, rfl, ha⟩
  · exact Or.inr ⟨cut_no l hm, hm⟩
theorem splitL_le {c : UInt8} : ∀ (l cur : List UInt8), (splitL c cur l).length ≤ l.length + 1 ∧ ∀ t ∈ splitL c cur l, t.length ≤ cur.length + l.length
  | [], cur => ⟨by simp [splitL], fun t ht => by simp [splitL] at ht; rw [ht]; omega⟩
  | b :: r, cur => by
    unfold splitL
    by_cases hb : b = c
    · rw [if_pos hb]
      have ih := splitL_le (c := c) r []
      refine ⟨by rw [List.length_cons, List.length_cons]; have := ih.1; omega, fun t ht => ?_⟩
      rcases List.mem_cons.1 ht with rfl | ht
      · omega
      · have := ih.2 t ht
        rw [List.length_cons]; simp at this; omega
    · rw [if_neg hb]
      have ih := splitL_le (c := c) r (cur ++ [b])
      refine ⟨by rw [List.length_cons]; have := ih.1; omega, fun t ht => ?_⟩
      have := ih.2 t ht
      rw [List.length_cons]; simp at this; omega
theorem index_at {c : UInt8} (a b : List UInt8) (h : c ∉ a) : Lib.index (a ++ c :: b) [c] = (a.length : Int) := by rw [Lib.index_one, indexByte_at a b h]
theorem index_no {c : UInt8} (l : List UInt8) (h : c ∉ l) : Lib.index l [c] = -1 := by rw [Lib.index_one, indexByte_no l h]
theorem splitK_at {c : UInt8} (k : Nat) (a b : List UInt8) (h : c ∉ a) : Lib.splitK [c] 0 (k + 1) (a ++ c :: b) = a :: Lib.splitK [c] 0 k b := by
  have e1 : ((a.length : Int) == -1) = false := beq_eq_false_iff_ne.2 (by omega)
  rw [Lib.splitK, index_at a b h, e1, if_neg (by decide), show ((a.length : Int)).toNat = a.length by omega]
  simp
theorem splitK_no {c : UInt8} (k : Nat) (l : List UInt8) (h : c ∉ l) : Lib.splitK [c] 0 k l = [l] := by
  cases k with
  | zero => rfl
  | succ k => rw [Lib.splitK, index_no l h]; rfl
theorem splitK_same {c : UInt8} : ∀ (k : Nat) (l : List UInt8), (splitL c [] l).length ≤ k + 1 → Lib.splitK [c] 0 k l = splitL c [] l := by
  intro k
  induction k with
  | zero =>
    intro l h
    by_cases hm : c ∈ l
    · obtain ⟨a, b, rfl, ha⟩ := List.eq_append_cons_of_mem hm
      rw [splitL_at a [] b ha, List.length_cons] at h
      have := splitL_pos c b []
      omega
    · rw [splitL_none l [] hm]; rfl
  | succ k ih =>
    intro l h
    by_cases hm : c ∈ l
    · obtain ⟨a, b, rfl, ha⟩ := List.eq_append_cons_of_mem hm
      rw [splitL_at a [] b ha, List.length_cons] at h
      rw [splitK_at k a b ha, splitL_at a [] b ha, ih b (by omega)]; rfl
    · rw [splitL_none l [] hm, splitK_no _ l hm]; rfl
theorem map_baL_get {ps : List (List UInt8)} {i : Nat} (h : i < ps.length) : rdOf ByteArray.empty (ps.map baL) (i : Int) = baL ps[i] := by
  rw [rdOf_get (by simpa using h)]; simp
theorem empty_iff (a : ByteArray) : a.toList = ([] : List UInt8) ↔ a.data.toList = [] := by rw [ByteArray.toList_eq]

def p1 (p : Int) : List UInt8 := ([83, 114, 82, 103, 71, 109, 77, 80, 100, 68, 110, 78] : List UInt8).getD (p % 12).toNat 0 :: (if p / 12 < 0 then [44] else if p / 12 > 0 then [39] else [])
def tabL : List (List UInt8) := [[67], [68, 98], [68], [69, 98], [69], [70], [71, 98], [71], [65, 98], [65], [66, 98], [66]]
def tabM : List (List UInt8) := [[49], [50, 98], [50], [51, 98], [51], [52], [52, 35], [53], [54, 98], [54], [55, 98], [55]]
def p2 (q : Int) : List UInt8 := tabL.getD (q % 12).toNat [] ++ [UInt8.ofNat (48 + (q / 12 + 4).toNat)]
def p3 (p : Int) : List UInt8 := (if p / 12 < 0 then [95] else if p / 12 > 0 then [94] else []) ++ tabM.getD (p % 12).toNat []
theorem p1_inj : ∀ a b : Fin 36, p1 ((a.val : Int) - 12) = p1 ((b.val : Int) - 12) → a = b := by decide +kernel
theorem p2_inj : ∀ a b : Fin 47, p2 ((a.val : Int) - 12) = p2 ((b.val : Int) - 12) → a = b := by decide +kernel
theorem p3_inj : ∀ a b : Fin 36, p3 ((a.val : Int) - 12) = p3 ((b.val : Int) - 12) → a = b := by decide +kernel
theorem fin_inj {f : Int → List UInt8} {n : Nat} (h : ∀ a b : Fin n, f ((a.val : Int) - 12) = f ((b.val : Int) - 12) → a = b) {x y : Int} (x0 : -12 ≤ x) (x1 : x < (n : Int) - 12) (y0 : -12 ≤ y) (y1 : y < (n : Int) - 12) (e : f x = f y) : x = y := by
  have := h ⟨(x + 12).toNat, by omega⟩ ⟨(y + 12).toNat, by omega⟩ (by
    show f (((x + 12).toNat : Int) - 12) = f (((y + 12).toNat : Int) - 12)
    rw [show (((x + 12).toNat : Int) - 12) = x by omega, show (((y + 12).toNat : Int) - 12) = y by omega]; exact e)
  have := congrArg Fin.val this
  simp only at this
  omega
theorem name_tab : ∀ j : Fin 12, (nameT (j.val : Int)).data.toList = [([83, 114, 82, 103, 71, 109, 77, 80, 100, 68, 110, 78] : List UInt8).getD j.val 0] := by decide +kernel
theorem L_tab : ∀ j : Fin 12, (impl_pitchIn.at_ impl_pitchIn.L (j.val : Int)).data.toList = tabL.getD j.val [] := by decide +kernel
theorem M_tab : ∀ j : Fin 12, (impl_pitchIn.at_ impl_pitchIn.M (j.val : Int)).data.toList = tabM.getD j.val [] := by decide +kernel
theorem tab_at {α : Type} {g : Int → α} {h : Nat → α} (e : ∀ j : Fin 12, g (j.val : Int) = h j.val) (q : Int) : g (q % 12) = h (q % 12).toNat := by
  have := e ⟨(q % 12).toNat, by omega⟩
  simp only at this
  rw [show (((q % 12).toNat : Nat) : Int) = q % 12 by omega] at this
  exact this
theorem dec_one {n : Int} (h0 : 0 ≤ n) (h1 : n < 10) : (impl_Decimal.t n).data.toList = [UInt8.ofNat (48 + n.toNat)] := by
  rw [dec_list]
  unfold Lib.itoa
  rw [if_neg (by omega), Lib.decDigits_one (by omega)]
theorem itoa_short {n : Int} (h0 : 0 ≤ n) (h1 : n < 1000) : numV (Lib.itoa n) = some n := by
  refine num_of_itoa ?_
  have h2 := Lib.trimPrefix_le (Lib.itoa n) [45]
  have h3 : (Lib.itoa n).length ≤ 18 := by
    unfold Lib.itoa
    rw [if_neg (by omega), Lib.decDigits_length]
    by_cases a : n.toNat < 10
    · rw [Lib.nDigits_small a]; omega
    · rw [Lib.nDigits_big a]
      by_cases b : n.toNat / 10 < 10
      · rw [Lib.nDigits_small b]; omega
      · rw [Lib.nDigits_big b, Lib.nDigits_small (by omega)]; omega
  omega
theorem pt_inj {s k p q : Int} (h : keyB s k = true) (p0 : -12 ≤ p) (p9 : p ≤ 23) (q0 : -12 ≤ q) (q9 : q ≤ 23) (e : (pt s k p).toList = (pt s k q).toList) : p = q := by
  rw [ByteArray.toList_eq, ByteArray.toList_eq] at e
  obtain ⟨⟨a1, a2⟩, b1, b2⟩ := keyB_iff.1 h
  unfold pt at e
  by_cases s1 : s = 1
  · rw [if_pos s1, if_pos s1] at e
    have key : ∀ x : Int, (if x / 12 < 0 then nameT (x % 12) ++ (⟨#[44]⟩ : ByteArray) else if x / 12 > 0 then nameT (x % 12) ++ (⟨#[39]⟩ : ByteArray) else nameT (x % 12)).data.toList = p1 x := fun x => by
      have hn := tab_at (g := fun t => (nameT t).data.toList) (h := fun j => [([83, 114, 82, 103, 71, 109, 77, 80, 100, 68, 110, 78] : List UInt8).getD j 0]) name_tab x
      (try simp only at hn)
      unfold p1
      split
      · first | (rw [ba_app, hn]; done) | (rw [ba_app, hn]; rfl)
      · split
        · first | (rw [ba_app, hn]; done) | (rw [ba_app, hn]; rfl)
        · exact hn
    rw [key, key] at e
    exact fin_inj p1_inj p0 (by omega) q0 (by omega) e
  rw [if_neg s1, if_neg s1] at e
  by_cases s2 : s = 2
  · rw [if_pos s2, if_pos s2] at e
    have key : ∀ x : Int, -12 ≤ x → x < 35 → (impl_pitchIn.at_ impl_pitchIn.L (x % 12) ++ impl_Decimal.t (x / 12 + 4)).data.toList = p2 x := fun x x0 x1 => by
      have hn := tab_at (g := fun t => (impl_pitchIn.at_ impl_pitchIn.L t).data.toList) (h := fun j => tabL.getD j []) L_tab x
      (try simp only at hn)
      unfold p2
      rw [ba_app, hn, dec_one (by omega) (by omega)]
    rw [key _ (by omega) (by omega), key _ (by omega) (by omega)] at e
    have := fin_inj p2_inj (x := p + k) (y := q + k) (by omega) (by omega) (by omega) (by omega) e
    omega
  rw [if_neg s2, if_neg s2] at e
  by_cases s3 : s = 3
  · rw [if_pos s3, if_pos s3] at e
    have key : ∀ x : Int, (if x / 12 < 0 then (⟨#[95]⟩ : ByteArray) ++ impl_pitchIn.at_ impl_pitchIn.M (x % 12) else if x / 12 > 0 then (⟨#[94]⟩ : ByteArray) ++ impl_pitchIn.at_ impl_pitchIn.M (x % 12) else impl_pitchIn.at_ impl_pitchIn.M (x % 12)).data.toList = p3 x := fun x => by
      have hn := tab_at (g := fun t => (impl_pitchIn.at_ impl_pitchIn.M t).data.toList) (h := fun j => tabM.getD j []) M_tab x
      (try simp only at hn)
      unfold p3
      split
      · first | (rw [ba_app, hn]; done) | (rw [ba_app, hn]; rfl)
      · split
        · first | (rw [ba_app, hn]; done) | (rw [ba_app, hn]; rfl)
        · exact hn
    rw [key, key] at e
    exact fin_inj p3_inj p0 (by omega) q0 (by omega) e
  rw [if_neg s3, if_neg s3, dec_list, dec_list] at e
  have e1 := itoa_short (n := p + k + 60) (by omega) (by omega)
  have e2 := itoa_short (n := q + k + 60) (by omega) (by omega)
  rw [e, e2] at e1
  have := Option.some.inj e1
  omega
theorem readL_hit {s k p : Int} (h : keyB s k = true) (p9 : p ≤ 23) : ∀ (n : Nat) (x : Int), -12 ≤ x → x ≤ p → p < x + n → x + n = 24 → readL s k (pt s k p) n x = (p, true) := by
  intro n
  induction n with
  | zero => intro x _ _ _ _; omega
  | succ n ih =>
    intro x x0 x1 x2 x3
    unfold readL
    by_cases e : (pt s k x).toList = (pt s k p).toList
    · rw [if_pos e, pt_inj h x0 (by omega) (by omega) p9 e]
    · rw [if_neg e]
      have hne : x ≠ p := fun h => e (by rw [h])
      exact ih (x + 1) (by omega) (by omega) (by omega) (by omega)
theorem readPt_pt {s k p : Int} (h : keyB s k = true) (p0 : -12 ≤ p) (p9 : p ≤ 23) : readPt s k (pt s k p) = (p, true) := readL_hit h p9 36 (-12) (by omega) p0 (by omega) (by omega)

def NM : List UInt8 := [83, 114, 82, 103, 71, 109, 77, 80, 100, 68, 110, 78]
def DG : List UInt8 := [48, 49, 50, 51, 52, 53, 54, 55, 56, 57]
def noteW (x : S67) : List UInt8 := p1 x.f0 ++ (if x.f1 = 1 then [] else Lib.itoa x.f1)
def nameOf (l : List UInt8) : List UInt8 := Lib.trimRightS l DG
def oneX (l : List UInt8) : S67 := ⟨(readPt 1 0 (baL (nameOf l))).1, if nameOf l = l then 1 else (pairN (numV (l.drop (nameOf l).length))).1⟩
def oneN (l : List UInt8) : Option S67 := if (readPt 1 0 (baL (nameOf l))).2 = true then (if noteB (oneX l) = true ∧ noteW (oneX l) = l then some (oneX l) else none) else none
theorem key10 : keyB 1 0 = true := by decide
theorem pt1_data (p : Int) : (pt 1 0 p).data.toList = p1 p := by
  have hn := tab_at (g := fun t => (nameT t).data.toList) (h := fun j => [([83, 114, 82, 103, 71, 109, 77, 80, 100, 68, 110, 78] : List UInt8).getD j 0]) name_tab p
  (try simp only at hn)
  unfold pt p1
  rw [if_pos rfl]
  split
  · rw [ba_app, hn]; rfl
  · split
    · rw [ba_app, hn]; rfl
    · exact hn
theorem pitchText_eq {p : Int} (h0 : -12 ≤ p) (h1 : p ≤ 23) : impl_pitchText.f p = some (pt 1 0 p) := by
  have := pitchIn_eq key10 h0 h1
  unfold impl_pitchIn.f at this
  simpa using this
theorem named_lst (a : ByteArray) : ∀ (n : Nat) (p : Int), -12 ≤ p → p + n = 24 → impl_pitchNamed.lst (impl_pitchNamed.q a) n p = some (readL 1 0 a n p) := by
  intro n
  induction n with
  | zero => intro p _ _; rfl
  | succ n ih =>
    intro p h0 h1
    have := readPitch_lst a key10 (n + 1) p h0 h1
    rw [← this]
    simp only [impl_pitchNamed.lst, impl_readPitchIn.lst, impl_pitchNamed.q, impl_readPitchIn.q]
    rw [pitchText_eq h0 (by omega), pitchIn_eq key10 h0 (by omega)]
    simp only [Option.bind_some]
    have e := ih (p + 1) (by omega) (by omega)
    have e2 := readPitch_lst a key10 n (p + 1) (by omega) (by omega)
    have e3 : impl_pitchNamed.lst (impl_pitchNamed.q a) n (p + 1) = impl_readPitchIn.lst (impl_readPitchIn.q 1 0 a) n (p + 1) := by rw [e, e2]
    split
    · rfl
    · exact e3
theorem pitchNamed_eq (a : ByteArray) : impl_pitchNamed.f a = some (readPt 1 0 a) := named_lst a 36 (-12) (by omega) (by omega)
theorem dg_iff : ∀ b : Fin 256, DG.contains (UInt8.ofNat b.val) = digB (UInt8.ofNat b.val) := by decide +kernel
theorem u8_all {P : UInt8 → Prop} (h : ∀ b : Fin 256, P (UInt8.ofNat b.val)) (c : UInt8) : P c := by
  have := h ⟨c.toNat, c.toNat_lt⟩
  simpa using this
theorem dg_eq (c : UInt8) : DG.contains c = digB c := u8_all (P := fun c => DG.contains c = digB c) dg_iff c
theorem trim_app (l : List UInt8) : ∀ (s : List UInt8), s.all digB = true → nameOf (l ++ s) = nameOf l := by
  intro s h
  unfold nameOf Lib.trimRightS
  rw [List.reverse_append]
  congr 1
  refine List.dropWhile_append_of_pos (fun a ha => ?_)
  rw [dg_eq]
  exact List.all_eq_true.1 h a (List.mem_reverse.1 ha)
theorem trim_le (l : List UInt8) : (nameOf l).length ≤ l.length := by
  unfold nameOf Lib.trimRightS
  rw [List.length_reverse]
  have := (List.dropWhile_sublist (l := l.reverse) (DG.contains ·)).length_le
  rw [List.length_reverse] at this
  exact this
theorem p1_trim : ∀ p : Fin 36, nameOf (p1 ((p.val : Int) - 12)) = p1 ((p.val : Int) - 12) := by decide +kernel
theorem p1_name {p : Int} (h0 : -12 ≤ p) (h1 : p ≤ 23) : nameOf (p1 p) = p1 p := by
  have := p1_trim ⟨(p + 12).toNat, by omega⟩
  simp only at this
  rw [show (((p + 12).toNat : Nat) : Int) - 12 = p by omega] at this
  exact this
theorem itoa_dig {n : Int} (h : 0 ≤ n) : (Lib.itoa n).all digB = true ∧ Lib.itoa n ≠ [] := by
  unfold Lib.itoa
  rw [if_neg (by omega)]
  have := dec_spec n.toNat n.toNat (Nat.le_refl _)
  exact ⟨this.2.1, this.1⟩
theorem noteB_iff {x : S67} : noteB x = true ↔ (-12 ≤ x.f0 ∧ x.f0 ≤ 23) ∧ 1 ≤ x.f1 ∧ x.f1 ≤ 64 := by
  unfold noteB
  rw [Bool.and_eq_true, Bool.and_eq_true, Bool.and_eq_true, decide_eq_true_iff, decide_eq_true_iff, decide_eq_true_iff, decide_eq_true_iff]
theorem baL_p1 (p : Int) : baL (p1 p) = pt 1 0 p := by rw [← pt1_data, data_baL]
theorem one_back {x : S67} (hx : noteB x = true) : oneN (noteW x) = some x := by
  obtain ⟨⟨a1, a2⟩, b1, b2⟩ := noteB_iff.1 hx
  have hd := itoa_dig (n := x.f1) (by omega)
  have hn : nameOf (noteW x) = p1 x.f0 := by
    unfold noteW
    rw [trim_app _ _ (by split; rfl; exact hd.1), p1_name a1 a2]
  have hr : readPt 1 0 (baL (nameOf (noteW x))) = (x.f0, true) := by rw [hn, baL_p1, readPt_pt key10 a1 a2]
  have he : oneX (noteW x) = x := by
    unfold oneX
    rw [hr, hn]
    obtain ⟨p, n⟩ := x
    dsimp only at *
    by_cases h1 : n = 1
    · subst h1
      rw [if_pos (by unfold noteW; simp)]
    · have hw : noteW ⟨p, n⟩ = p1 p ++ Lib.itoa n := by unfold noteW; rw [if_neg h1]
      rw [hw, if_neg (fun e => hd.2 (by have := congrArg List.length e; rw [List.length_append] at this; exact List.eq_nil_of_length_eq_zero (by omega))), List.drop_left, itoa_short (by omega) (by omega)]
      rfl
  unfold oneN
  rw [hr, if_pos rfl, he, if_pos ⟨hx, rfl⟩]
theorem one_of {l : List UInt8} {x : S67} (h : oneN l = some x) : noteB x = true ∧ noteW x = l := by
  unfold oneN at h
  split at h
  · split at h
    · next hc => rw [← Option.some.inj h]; exact hc
    · cases h
  · cases h
/-- The reference's road over a word's letters. -/
def namedL : List UInt8 → Nat → UInt8 → Int
  | [], _, _ => -1
  | b :: r, i, c => if b = c then (i : Int) else namedL r (i + 1) c
def named (c : UInt8) : Int := namedL NM 0 c
theorem named_hit : ∀ c : Fin 256, 0 ≤ named (UInt8.ofNat c.val) → (named (UInt8.ofNat c.val)).toNat < 12 ∧ NM.getD (named (UInt8.ofNat c.val)).toNat 0 = UInt8.ofNat c.val := by decide +kernel
theorem named_of : ∀ t : Fin 12, named (NM.getD t.val 0) = (t.val : Int) := by decide +kernel
theorem Named_l0 (s : ByteArray) (c : UInt8) (hs : s.size ≤ 1000) : ∀ (d K i : Nat), i + d = s.size → d + 1 ≤ K → spec_l03Named.l0 K (c.toNat : Int) s (i : Int) = some (namedL (s.data.toList.drop i) i c) := by
  have hz : s.data.toList.length = s.size := (Lib.size_eq s).symm
  intro d
  induction d with
  | zero =>
    intro K i hi hK
    obtain ⟨K, rfl⟩ : ∃ m, K = m + 1 := ⟨K - 1, by omega⟩
    simp only [spec_l03Named.l0]
    rw [if_neg (by omega), List.drop_eq_nil_of_le (by omega)]; rfl
  | succ d ih =>
    intro K i hi hK
    obtain ⟨K, rfl⟩ : ∃ m, K = m + 1 := ⟨K - 1, by omega⟩
    have hlt : i < s.data.toList.length := by omega
    have hd := List.drop_eq_getElem_cons hlt
    simp only [spec_l03Named.l0]
    rw [if_pos (by omega), if_pos (nn_cast i), bt_drop hd, hd]
    unfold namedL
    by_cases h : s.data.toList[i] = c
    · rw [if_pos (by rw [h]), if_pos h]
    · rw [if_neg (fun e => h (UInt8.toNat_inj.1 (by omega))), if_neg h, wrap_succ hlt (by omega), ih K (i + 1) (by omega) (by omega)]
theorem Named_eq (c : UInt8) {K : Nat} (hK : 13 ≤ K) : spec_l03Named.f K (c.toNat : Int) = some (named c) := by
  unfold spec_l03Named.f spec_l03Names.f
  simp only [Option.bind_some]
  exact Named_l0 (⟨#[83, 114, 82, 103, 71, 109, 77, 80, 100, 68, 110, 78]⟩ : ByteArray) c (by decide) 12 K 0 (by decide) hK
def afterO (p : Int) (r : List UInt8) : Option S67 := if r = [] then some ⟨p, 1⟩ else match numV r with | none => none | some n => if n = 1 then none else if (decide (1 ≤ n) && decide (n ≤ 64)) = true then some ⟨p, n⟩ else none
def octS (t : Int) (r : List UInt8) : Option S67 := match r with | [] => afterO t [] | b :: q => if b = 44 then afterO (wrap64 (t - 12)) q else if b = 39 then afterO (wrap64 (t + 12)) q else afterO t (b :: q)
def specOne (l : List UInt8) : Option S67 := match l with | [] => none | c :: r => if named c < 0 then none else octS (named c) r
def encN : Option S67 → Int × Int × Bool | some x => (x.f0, x.f1, true) | none => (0, 0, false)
theorem afterO_of {p : Int} {r : List UInt8} {x : S67} (h : afterO p r = some x) : x.f0 = p ∧ (1 ≤ x.f1 ∧ x.f1 ≤ 64) ∧ r = (if x.f1 = 1 then [] else Lib.itoa x.f1) := by
  unfold afterO at h
  by_cases h0 : r = []
  · rw [if_pos h0] at h; obtain rfl := Option.some.inj h; exact ⟨rfl, ⟨by show (1 : Int) ≤ 1; omega, by show (1 : Int) ≤ 64; omega⟩, by rw [h0]; rfl⟩
  rw [if_neg h0] at h
  cases hn : numV r with
  | none => rw [hn] at h; cases h
  | some n =>
    rw [hn] at h
    dsimp only at h
    by_cases h1 : n = 1
    · rw [if_pos h1] at h; cases h
    rw [if_neg h1] at h
    split at h
    · next hc =>
      rw [Bool.and_eq_true, decide_eq_true_iff, decide_eq_true_iff] at hc
      obtain rfl := Option.some.inj h
      refine ⟨rfl, hc, ?_⟩
      show r = if n = 1 then [] else Lib.itoa n
      rw [if_neg h1, (num_itoa hn).1]
    · cases h
theorem afterO_to {p n : Int} (h0 : 1 ≤ n) (h1 : n ≤ 64) : afterO p (if n = 1 then [] else Lib.itoa n) = some ⟨p, n⟩ := by
  by_cases h : n = 1
  · subst h; rfl
  · have hd := itoa_dig (n := n) (by omega)
    unfold afterO
    rw [if_neg h, if_neg hd.2, itoa_short (by omega) (by omega)]
    dsimp only
    rw [if_neg h, decide_eq_true h0, decide_eq_true h1]; rfl
theorem octS_44 (t : Int) (q : List UInt8) : octS t (44 :: q) = afterO (wrap64 (t - 12)) q := by
  show (if (44 : UInt8) = 44 then afterO (wrap64 (t - 12)) q else if (44 : UInt8) = 39 then afterO (wrap64 (t + 12)) q else afterO t (44 :: q)) = _
  rw [if_pos rfl]
theorem octS_39 (t : Int) (q : List UInt8) : octS t (39 :: q) = afterO (wrap64 (t + 12)) q := by
  show (if (39 : UInt8) = 44 then afterO (wrap64 (t - 12)) q else if (39 : UInt8) = 39 then afterO (wrap64 (t + 12)) q else afterO t (39 :: q)) = _
  rw [if_neg (by decide), if_pos rfl]
theorem octS_else (t : Int) (b : UInt8) (q : List UInt8) (h4 : ¬ b = 44) (h3 : ¬ b = 39) : octS t (b :: q) = afterO t (b :: q) := by
  show (if b = 44 then afterO (wrap64 (t - 12)) q else if b = 39 then afterO (wrap64 (t + 12)) q else afterO t (b :: q)) = _
  rw [if_neg h4, if_neg h3]
theorem p1_cons (p : Int) : p1 p = NM.getD (p % 12).toNat 0 :: (if p / 12 < 0 then [44] else if p / 12 > 0 then [39] else []) := rfl
theorem spec_of {l : List UInt8} {x : S67} (h : specOne l = some x) : noteB x = true ∧ noteW x = l := by
  cases l with
  | nil => cases h
  | cons c r =>
    unfold specOne at h
    dsimp only at h
    by_cases hc : named c < 0
    · rw [if_pos hc] at h; cases h
    rw [if_neg hc] at h
    obtain ⟨t1, t2⟩ := u8_all (P := fun c => 0 ≤ named c → (named c).toNat < 12 ∧ NM.getD (named c).toNat 0 = c) named_hit c (by omega)
    have fin : ∀ (p : Int) (sg q : List UInt8), p % 12 = named c → (if p / 12 < 0 then [44] else if p / 12 > 0 then [39] else []) = sg → r = sg ++ q → -12 ≤ p → p ≤ 23 → afterO p q = some x → noteB x = true ∧ noteW x = c :: r := by
      intro p sg q e1 e2 e3 e4 e5 e6
      obtain ⟨f1, f2, f3⟩ := afterO_of e6
      refine ⟨noteB_iff.2 ⟨⟨by omega, by omega⟩, f2⟩, ?_⟩
      unfold noteW
      rw [f1, p1_cons, e1, e2, t2, ← f3, e3]; rfl
    unfold octS at h
    cases r with
    | nil => exact fin (named c) [] [] (by omega) (by rw [if_neg (by omega), if_neg (by omega)]) rfl (by omega) (by omega) h
    | cons b q =>
      dsimp only at h
      by_cases h4 : b = 44
      · subst h4
        rw [if_pos rfl, wrap_id (by omega) (by omega)] at h
        exact fin (named c - 12) [44] q (by omega) (by rw [if_pos (by omega)]) rfl (by omega) (by omega) h
      rw [if_neg h4] at h
      by_cases h3 : b = 39
      · subst h3
        rw [if_pos rfl, wrap_id (by omega) (by omega)] at h
        exact fin (named c + 12) [39] q (by omega) (by rw [if_neg (by omega), if_pos (by omega)]) rfl (by omega) (by omega) h
      rw [if_neg h3] at h
      exact fin (named c) [] (b :: q) (by omega) (by rw [if_neg (by omega), if_neg (by omega)]) rfl (by omega) (by omega) h
theorem spec_to {x : S67} (hx : noteB x = true) : specOne (noteW x) = some x := by
  obtain ⟨⟨a1, a2⟩, b1, b2⟩ := noteB_iff.1 hx
  obtain ⟨p, n⟩ := x
  dsimp only at a1 a2 b1 b2
  have hd := itoa_dig (n := n) (by omega)
  have hnm : named (NM.getD (p % 12).toNat 0) = p % 12 := by
    have := named_of ⟨(p % 12).toNat, by omega⟩
    simp only at this
    rw [this]; omega
  unfold noteW
  rw [p1_cons, List.cons_append]
  show (if named (NM.getD (p % 12).toNat 0) < 0 then none else octS (named (NM.getD (p % 12).toNat 0)) ((if p / 12 < 0 then [44] else if p / 12 > 0 then [39] else []) ++ (if n = 1 then [] else Lib.itoa n))) = _
  rw [hnm, if_neg (by omega)]
  have ha := afterO_to (p := p) b1 b2
  by_cases o1 : p / 12 < 0
  · rw [if_pos o1, List.singleton_append, octS_44, wrap_id (by omega) (by omega), show p % 12 - 12 = p by omega]; exact ha
  rw [if_neg o1]
  by_cases o2 : p / 12 > 0
  · rw [if_pos o2, List.singleton_append, octS_39, wrap_id (by omega) (by omega), show p % 12 + 12 = p by omega]; exact ha
  rw [if_neg o2, show p % 12 = p by omega, List.nil_append]
  by_cases h1 : n = 1
  · subst h1; exact ha
  · rw [if_neg h1] at ha ⊢
    cases hi : Lib.itoa n with
    | nil => exact absurd hi hd.2
    | cons b q =>
      rw [hi] at ha hd
      have hb := List.all_eq_true.1 hd.1 b List.mem_cons_self
      rw [digB_iff] at hb
      rw [octS_else _ _ _ (fun e => by rw [e] at hb; exact absurd hb (by decide)) (fun e => by rw [e] at hb; exact absurd hb (by decide))]
      exact ha
theorem specOne_eq (l : List UInt8) : specOne l = oneN l := by
  cases h : specOne l with
  | some x =>
    obtain ⟨h1, h2⟩ := spec_of h
    rw [← h2, one_back h1]
  | none =>
    cases h2 : oneN l with
    | none => rfl
    | some x =>
      obtain ⟨h3, h4⟩ := one_of h2
      rw [← h4, spec_to h3] at h
      cases h

theorem l09Length_eq (n : Int) : spec_l09Length.f n = some (decide (1 ≤ n) && decide (n ≤ 64)) := by unfold spec_l09Length.f; rw [in_eq]; rfl
theorem ext1 (a : ByteArray) : (a.extract 1 a.size).data.toList = a.data.toList.drop 1 := by
  have := Lib.size_eq a
  rw [Lib.extract_eq]
  refine (baL_data _).trans ?_
  rw [List.take_of_length_le]
  rw [List.length_drop]; omega
theorem ext1_size (a : ByteArray) : (a.extract 1 a.size).size = a.size - 1 := by
  rw [Lib.size_eq, ext1, List.length_drop, ← Lib.size_eq]
theorem tl_iff (a b : ByteArray) : a.toList = b.toList ↔ a.data.toList = b.data.toList := by rw [ByteArray.toList_eq, ByteArray.toList_eq]
theorem bt_zero {a : ByteArray} {c : UInt8} {r : List UInt8} (h : a.data.toList = c :: r) : bt a 0 = (c.toNat : Int) := bt_drop (i := 0) (by rw [List.drop_zero]; exact h)
theorem One_j2 (p : Int) (b : ByteArray) (hb : b.size ≤ 1048576) {K : Nat} (hK : 100 ≤ K) : spec_l09ReadOne.j2 K p b = some (encN (afterO p b.data.toList)) := by
  obtain ⟨K, rfl⟩ : ∃ m, K = m + 1 := ⟨K - 1, by omega⟩
  simp only [spec_l09ReadOne.j2]
  unfold afterO
  by_cases h0 : b.data.toList = []
  · rw [if_pos ((empty_iff b).2 h0), if_pos h0]; rfl
  rw [if_neg (fun e => h0 ((empty_iff b).1 e)), if_neg h0, Number_eq b hb (by omega)]
  simp only [Option.bind_some]
  cases numV b.data.toList with
  | none => rfl
  | some n =>
    show (if true = true then (if n = 1 then some (0, 0, false) else ((spec_l09Length.f n).bind fun t => if t = true then some (p, n, true) else some (0, 0, false))) else _) = _
    rw [if_pos rfl, l09Length_eq]
    simp only [Option.bind_some]
    by_cases h1 : n = 1
    · rw [if_pos h1, if_pos h1]; rfl
    rw [if_neg h1, if_neg h1]
    by_cases h2 : (decide (1 ≤ n) && decide (n ≤ 64)) = true
    · rw [if_pos h2, if_pos h2]; rfl
    · rw [if_neg h2, if_neg h2]; rfl
theorem One_j1 (t : Int) (b : ByteArray) (hb : b.size ≤ 1048576) {K : Nat} (hK : 101 ≤ K) : (if b.data.toList = [] then spec_l09ReadOne.j1 K t b false else spec_l09ReadOne.j1 K t b (bt b 0 == 44)) = some (encN (octS t b.data.toList)) := by
  obtain ⟨K, rfl⟩ : ∃ m, K = m + 1 := ⟨K - 1, by omega⟩
  cases hl : b.data.toList with
  | nil =>
    rw [if_pos rfl]
    simp only [spec_l09ReadOne.j1]
    rw [if_neg (by decide), if_pos ((empty_iff b).2 hl), One_j2 t b hb (by omega), hl]; rfl
  | cons x q =>
    have hz : b.size = q.length + 1 := by rw [Lib.size_eq, hl]; rfl
    have hne : ¬ b.toList = [] := fun e => by have := (empty_iff b).1 e; rw [hl] at this; cases this
    have he : (b.extract 1 b.size).data.toList = q := by rw [ext1, hl]; rfl
    have hs : (b.extract 1 b.size).size ≤ 1048576 := by rw [ext1_size]; omega
    rw [if_neg (by simp), bt_zero hl]
    simp only [spec_l09ReadOne.j1]
    by_cases h4 : x = 44
    · subst h4
      rw [if_pos (by decide), if_pos (by omega), One_j2 _ _ hs (by omega), he, octS_44]
    have h4' : ¬ (((x.toNat : Int) == 44) = true) := fun e => h4 (UInt8.toNat_inj.1 (by have := eq_of_beq e; show x.toNat = 44; omega))
    rw [if_neg h4', if_neg hne, if_pos (by omega), bt_zero hl]
    by_cases h3 : x = 39
    · subst h3
      rw [if_pos (by decide), if_pos (by omega), One_j2 _ _ hs (by omega), he, octS_39]
    have h3' : ¬ ((x.toNat : Int) = 39) := fun e => h3 (UInt8.toNat_inj.1 (by show x.toNat = 39; omega))
    rw [if_neg h3', One_j2 t b hb (by omega), hl, octS_else _ _ _ h4 h3]
theorem ReadOne_eq (a : ByteArray) (ha : a.size ≤ 1048576) {K : Nat} (hK : 200 ≤ K) : spec_l09ReadOne.f K a = some (encN (oneN a.data.toList)) := by
  rw [← specOne_eq]
  unfold spec_l09ReadOne.f specOne
  obtain ⟨K, rfl⟩ : ∃ m, K = m + 1 := ⟨K - 1, by omega⟩
  cases hl : a.data.toList with
  | nil =>
    rw [if_pos ((empty_iff a).2 hl)]
    simp only [spec_l09ReadOne.j0]
    rw [if_pos trivial]; rfl
  | cons c r =>
    have hz : a.size = r.length + 1 := by rw [Lib.size_eq, hl]; rfl
    have hne : ¬ a.toList = [] := fun e => by have := (empty_iff a).1 e; rw [hl] at this; cases this
    have he : (a.extract 1 a.size).data.toList = r := by rw [ext1, hl]; rfl
    have hs : (a.extract 1 a.size).size ≤ 1048576 := by rw [ext1_size]; omega
    have hs2 : (a.extract 1 a.size).size = r.length := by rw [ext1_size]; omega
    rw [if_neg hne, if_pos (by omega), bt_zero hl, Named_eq c (by omega)]
    simp only [Option.bind_some, spec_l09ReadOne.j0]
    by_cases hc : named c < 0
    · rw [if_pos (by rw [decide_eq_true hc]), if_pos hc]; rfl
    rw [if_neg (by rw [decide_eq_false hc]; decide), if_neg hc, if_pos (by omega), bt_zero hl, Named_eq c (by omega)]
    simp only [Option.bind_some]
    rw [if_pos (by omega)]
    have h1 := One_j1 (named c) (a.extract 1 a.size) hs (K := K) (by omega)
    rw [he] at h1
    rw [← h1]
    by_cases h0 : r = []
    · rw [if_pos ((empty_iff _).2 (he.trans h0)), if_pos h0]
    · rw [if_neg (fun e => h0 (he.symm.trans ((empty_iff _).1 e))), if_neg h0, if_pos (by have := List.length_pos_iff.2 h0; omega)]
theorem MelodyText_one (x : S67) {K : Nat} (hK : 200 ≤ K) : impl_MelodyText.f K [x] = some (if noteB x = true then baL (noteW x) else (⟨#[]⟩ : ByteArray)) := by
  obtain ⟨K, rfl⟩ : ∃ m, K = m + 2 := ⟨K - 2, by omega⟩
  unfold impl_MelodyText.f
  rw [ValidMelody_eq (by omega)]; simp only [Option.bind_some]
  have hm : melB [x] = noteB x := by unfold melB; simp
  rw [hm]
  by_cases hx : noteB x = true
  rotate_left
  · rw [if_neg hx, if_neg hx]
  rw [if_pos hx, if_pos hx, if_neg (by simp)]
  obtain ⟨⟨a1, a2⟩, b1, b2⟩ := noteB_iff.1 hx
  have hsz := pt_size key10 a1 a2
  have hd := Decimal_size (n := x.f1) (by omega) (by omega)
  have fin : ∀ y : ByteArray, y.size ≤ 99 → y.data.toList = noteW x → impl_MelodyText.l0 (K + 1) [y] [x] (([x] : List S67).length : Int) (wrap64 (0 + 1)) = some (baL (noteW x)) := fun y hy hy2 => by
    have e1 : wrap64 (0 + 1) = 1 := by rw [wrap_id (by omega) (by omega)]; rfl
    simp only [impl_MelodyText.l0]
    rw [if_neg (by rw [e1]; simp), Join_eq (by simp) (fun z hz => by rw [List.mem_singleton] at hz; rw [hz]; exact hy)]
    show some y = _
    rw [← hy2, data_baL]
  simp only [impl_MelodyText.l0]
  rw [if_pos (by simp), if_pos (by decide), if_pos (by simp), show rd_T67 [x] 0 = x from rfl, pitchText_eq a1 a2]
  simp only [Option.bind_some]
  by_cases h1 : x.f1 = 1
  · rw [if_pos h1, if_pos (by simp)]
    exact fin _ (by omega) (by rw [pt1_data]; unfold noteW; rw [if_pos h1, List.append_nil])
  · rw [if_neg h1, Decimal_eq (by omega) (by omega)]
    simp only [Option.bind_some]
    rw [if_pos (by omega), if_pos (by simp)]
    exact fin _ (by rw [ByteArray.size_append]; omega) (by rw [ba_app, pt1_data, dec_list]; unfold noteW; rw [if_neg h1])
def oneR (l : List UInt8) : List S67 × Bool := if l = [45] then ([], true) else match oneN l with | some x => ([x], true) | none => ([], false)
theorem p1_ne (p : Int) : p1 p ≠ [] := by rw [p1_cons]; simp
theorem SplitN_one (a : ByteArray) (ha : a.size ≤ 1048576) (h : (32 : UInt8) ∉ a.data.toList) : strings_SplitN.f a (⟨#[32]⟩ : ByteArray) 49 = some [a] := by
  unfold strings_SplitN.f
  rw [if_pos ⟨⟨by omega, by decide⟩, by decide, by decide⟩]
  unfold strings_SplitN.t
  have h1 := Lib.splitB_data (⟨#[32]⟩ : ByteArray) 0 (min (49 : Int).toNat (a.size + 1) - 1) a
  rw [show (⟨#[32]⟩ : ByteArray).data.toList = [32] from rfl, splitK_no _ _ h] at h1
  have h2 := congrArg (List.map baL) h1
  rw [List.map_map] at h2
  have e : (baL ∘ fun x : ByteArray => x.data.toList) = id := by funext x; exact data_baL x
  rw [e, List.map_id] at h2
  rw [h2]
  show some [baL a.data.toList] = _
  rw [data_baL]
theorem ReadMelody_eq (a : ByteArray) (ha : a.size ≤ 1048576) (h : (32 : UInt8) ∉ a.data.toList) {K : Nat} (hK : 300 ≤ K) : impl_ReadMelody.f K a = some (oneR a.data.toList) := by
  obtain ⟨K, rfl⟩ : ∃ m, K = m + 2 := ⟨K - 2, by omega⟩
  unfold impl_ReadMelody.f oneR
  by_cases h45 : a.data.toList = [45]
  · rw [if_pos (by rw [ByteArray.toList_eq]; exact h45), if_pos h45]
  rw [if_neg (fun e => h45 (by rw [ByteArray.toList_eq] at e; exact e)), if_neg h45, SplitN_one a ha h]
  simp only [Option.bind_some]
  have hz : a.data.toList.length = a.size := (Lib.size_eq a).symm
  have hle := trim_le a.data.toList
  have hT : strings_TrimRight.f a (⟨#[48, 49, 50, 51, 52, 53, 54, 55, 56, 57]⟩ : ByteArray) = some (baL (nameOf a.data.toList)) := by
    unfold strings_TrimRight.f
    rw [if_pos ⟨by omega, by decide, by decide⟩]; rfl
  have e1 : wrap64 (0 + 1) = 1 := by rw [wrap_id (by omega) (by omega)]; rfl
  have fin : ∀ x : S67, (readPt 1 0 (baL (nameOf a.data.toList))).2 = true → x = oneX a.data.toList → impl_ReadMelody.l0 (K + 1) a [x] [a] (([a] : List ByteArray).length : Int) (wrap64 (0 + 1)) = some (match oneN a.data.toList with | some x => ([x], true) | none => ([], false)) := fun x hr hx => by
    simp only [impl_ReadMelody.l0]
    rw [if_neg (by rw [e1]; simp), MelodyText_one x (by omega)]
    simp only [Option.bind_some]
    unfold oneN
    rw [if_pos hr, ← hx]
    by_cases hb : noteB x = true
    · rw [if_pos hb]
      by_cases hw : noteW x = a.data.toList
      · rw [if_pos ((tl_iff _ _).2 (by rw [baL_data]; exact hw)), if_pos ⟨hb, hw⟩]
      · rw [if_neg (fun e => hw (by have := (tl_iff _ _).1 e; rw [baL_data] at this; exact this)), if_neg (fun e => hw e.2)]
    · rw [if_neg hb]
      rw [if_neg (c := (⟨#[]⟩ : ByteArray).toList = a.toList) (fun e => by
        have h0 : a.data.toList = [] := ((tl_iff _ _).1 e).symm
        have h1 := (readL_bounds 36 (-12) hr).2.2
        have h2 := (tl_iff _ _).1 h1
        rw [pt1_data, baL_data, h0] at h2
        exact p1_ne _ h2), if_neg (fun e => hb e.1)]
  simp only [impl_ReadMelody.l0]
  rw [if_pos (by simp), if_pos (by decide), if_pos (by simp), show rdOf ByteArray.empty [a] 0 = a from rfl, hT]
  simp only [Option.bind_some]
  rw [pitchNamed_eq]
  simp only [Option.bind_some]
  by_cases hn : nameOf a.data.toList = a.data.toList
  · rw [if_pos ((tl_iff _ _).2 (by rw [baL_data]; exact hn))]
    by_cases hr : (readPt 1 0 (baL (nameOf a.data.toList))).2 = true
    · rw [if_pos hr, if_pos (by simp)]
      exact fin _ hr (by unfold oneX; rw [if_pos hn])
    · rw [if_neg hr]; unfold oneN; rw [if_neg hr]
  · rw [if_neg (fun e => hn (by have := (tl_iff _ _).1 e; rw [baL_data] at this; exact this)), baL_size, if_pos (by omega), if_pos (by omega)]
    have hx : (a.extract ((((nameOf a.data.toList).length : Nat) : Int)).toNat a.size).data.toList = a.data.toList.drop (nameOf a.data.toList).length := by
      rw [Lib.extract_eq, Int.toNat_natCast]
      refine (baL_data _).trans ?_
      rw [List.take_of_length_le]
      rw [List.length_drop]; omega
    rw [ReadDecimal_eq _ (by rw [Lib.size_eq, hx, List.length_drop]; omega), hx]
    simp only [Option.bind_some]
    by_cases hr : (readPt 1 0 (baL (nameOf a.data.toList))).2 = true
    · rw [if_pos hr, if_pos (by simp)]
      exact fin _ hr (by unfold oneX; rw [if_neg hn])
    · rw [if_neg hr]; unfold oneN; rw [if_neg hr]

def barB (t : List UInt8) : Bool := decide (t = [124]) || decide (t = [124, 124])
def tieB (t : List UInt8) : Bool := t.head? == some 126
def restW (t : List UInt8) : List UInt8 := if tieB t = true then t.drop 1 else t
def addS (s : List Int) (n : Int) : List Int := s.set ((wrap64 ((s.length : Int) - 1)) : Int).toNat (wrap64 ((rd s (wrap64 ((s.length : Int) - 1))) + n))
def addN (o : List S67) (n : Int) : List S67 := o.set ((wrap64 ((o.length : Int) - 1)) : Int).toNat (⟨(rd_T67 o (wrap64 ((o.length : Int) - 1))).f0, wrap64 (((rd_T67 o (wrap64 ((o.length : Int) - 1))).f1) + n)⟩ : S67)
def lastP (o : List S67) : Int := (rd_T67 o (wrap64 ((o.length : Int) - 1))).f0
def tok : List (List UInt8) → List S67 → List Int → Option (List S67 × List Int)
  | [], o, s => some (o, s)
  | t :: r, o, s => if barB t = true then tok r o (s ++ [0]) else match oneN (restW t) with
    | none => none
    | some x => if tieB t = true then (if o = [] ∨ ¬ lastP o = x.f0 then none else tok r (addN o x.f1) (addS s x.f1)) else tok r (o ++ [x]) (addS s x.f1)
def wrd : List (List UInt8) → Bool → Int → Option (List S95)
  | [], _, _ => some []
  | t :: r, lb, lp => if barB t = true then (wrd r lb lp).map ((⟨true, false, ⟨0, 0⟩⟩ : S95) :: ·) else match oneN (restW t) with
    | none => none
    | some x => if tieB t = true ∧ (lb = true ∨ ¬ lp = x.f0) then none else (wrd r false x.f0).map ((⟨false, tieB t, x⟩ : S95) :: ·)
def foldS : List S95 → List Int → List Int
  | [], s => s
  | w :: r, s => if w.f0 = true then foldS r (s ++ [0]) else foldS r (addS s w.f2.f1)
def foldN : List S95 → List S67 → List S67
  | [], o => o
  | w :: r, o => if w.f0 = true then foldN r o else if w.f1 = true then foldN r (addN o w.f2.f1) else foldN r (o ++ [w.f2])
theorem addS_length (s : List Int) (n : Int) : (addS s n).length = s.length := by unfold addS; rw [List.length_set]
theorem addN_length (o : List S67) (n : Int) : (addN o n).length = o.length := by unfold addN; rw [List.length_set]
theorem last_ix {n : Nat} (h1 : 1 ≤ n) (h2 : n ≤ 100000000) : wrap64 ((n : Int) - 1) = ((n - 1 : Nat) : Int) := by rw [wrap_id (by omega) (by omega)]; omega
theorem lastP_add {o : List S67} (n : Int) (h1 : 1 ≤ o.length) (h2 : o.length ≤ 100000000) : lastP (addN o n) = lastP o := by
  have hlt : o.length - 1 < o.length := by omega
  unfold lastP
  rw [addN_length]
  unfold addN
  rw [last_ix h1 h2, rdN_get (by rw [List.length_set]; omega), rdN_get hlt, Int.toNat_natCast, List.getElem_set_self]
theorem lastP_snoc (o : List S67) (x : S67) (h2 : o.length ≤ 10000000) : lastP (o ++ [x]) = x.f0 := by
  unfold lastP
  rw [List.length_append, List.length_singleton, last_ix (by omega) (by omega), rdN_get (by rw [List.length_append]; simp)]
  simp
theorem tok_wrd : ∀ (ws : List (List UInt8)) (o : List S67) (s : List Int) (lb : Bool) (lp : Int), lb = decide (o = []) → (¬ o = [] → lastP o = lp) → o.length + ws.length ≤ 1000000 → tok ws o s = (wrd ws lb lp).map fun b => (foldN b o, foldS b s)
  | [], _, _, _, _, _, _, _ => rfl
  | t :: r, o, s, lb, lp, h1, h2, h3 => by
    rw [List.length_cons] at h3
    unfold tok wrd
    by_cases hb : barB t = true
    · rw [if_pos hb, if_pos hb, tok_wrd r o (s ++ [0]) lb lp h1 h2 (by omega), Option.map_map]; rfl
    rw [if_neg hb, if_neg hb]
    cases oneN (restW t) with
    | none => rfl
    | some x =>
      try dsimp only
      by_cases ht : tieB t = true
      · rw [if_pos ht]
        have hc : (tieB t = true ∧ (lb = true ∨ ¬ lp = x.f0)) ↔ (o = [] ∨ ¬ lastP o = x.f0) := by
          rw [h1, decide_eq_true_iff]
          constructor
          · rintro ⟨_, h | h⟩
            · exact Or.inl h
            · by_cases ho : o = []
              · exact Or.inl ho
              · exact Or.inr (fun e => h ((h2 ho).symm.trans e))
          · rintro (h | h)
            · exact ⟨ht, Or.inl h⟩
            · by_cases ho : o = []
              · exact ⟨ht, Or.inl ho⟩
              · exact ⟨ht, Or.inr (fun e => h ((h2 ho).trans e))⟩
        by_cases hc2 : o = [] ∨ ¬ lastP o = x.f0
        · rw [if_pos hc2, if_pos (hc.2 hc2)]; rfl
        · rw [if_neg hc2, if_neg (fun e => hc2 (hc.1 e))]
          have ho : ¬ o = [] := fun e => hc2 (Or.inl e)
          have hl : lastP o = x.f0 := Classical.not_not.1 (fun e => hc2 (Or.inr e))
          have hp := List.length_pos_iff.2 ho
          have hne : ¬ addN o x.f1 = [] := fun e => by have := congrArg List.length e; rw [addN_length, List.length_nil] at this; omega
          rw [tok_wrd r (addN o x.f1) (addS s x.f1) false x.f0 (by rw [decide_eq_false hne]) (fun _ => (lastP_add _ (by omega) (by omega)).trans hl) (by rw [addN_length]; omega), Option.map_map]
          congr 1
          funext b
          show _ = (foldN ((⟨false, tieB t, x⟩ : S95) :: b) o, foldS ((⟨false, tieB t, x⟩ : S95) :: b) s)
          show _ = ((if false = true then foldN b o else if tieB t = true then foldN b (addN o x.f1) else foldN b (o ++ [x])), (if false = true then foldS b (s ++ [0]) else foldS b (addS s x.f1)))
          simp [ht]
      · rw [if_neg ht, if_neg (fun e => ht e.1)]
        have hne : ¬ o ++ [x] = [] := by simp
        rw [tok_wrd r (o ++ [x]) (addS s x.f1) false x.f0 (by rw [decide_eq_false hne]) (fun _ => lastP_snoc o x (by omega)) (by rw [List.length_append]; simp; omega), Option.map_map]
        congr 1
        funext b
        show _ = ((if false = true then foldN b o else if tieB t = true then foldN b (addN o x.f1) else foldN b (o ++ [x])), (if false = true then foldS b (s ++ [0]) else foldS b (addS s x.f1)))
        simp [ht]
def tokP : Option (List S67 × List Int) → List S67 × List Int × Bool | some y => (y.1, y.2, true) | none => ([], [], false)
def wrdP (acc : List S95) : Option (List S95) → List S95 × Bool | some b => (acc ++ b, true) | none => ([], false)
theorem baL_iff (l m : List UInt8) (b : ByteArray) (h : b = baL l) : b.toList = m ↔ l = m := by rw [h, ByteArray.toList_eq, baL_data]
theorem rest_size (t : List UInt8) : (restW t).length ≤ t.length := by unfold restW; split; rw [List.length_drop]; omega; omega
theorem Tokens_l0 {ws : List (List UInt8)} (hn : ws.length ≤ 10000) (hp : ∀ t ∈ ws, t.length ≤ 10000) : ∀ (d K i : Nat) (o : List S67) (s : List Int), i + d = ws.length → o.length ≤ i → 1 ≤ s.length → s.length ≤ i + 1 → 5 * d + 300 ≤ K → spec_l25Tokens.l0 K o s (ws.map baL) (i : Int) = some (tokP (tok (ws.drop i) o s)) := by
  intro d
  induction d with
  | zero =>
    intro K i o s hi ho h1 hs hK
    obtain ⟨K, rfl⟩ : ∃ m, K = m + 1 := ⟨K - 1, by omega⟩
    simp only [spec_l25Tokens.l0]
    rw [if_neg (by rw [List.length_map]; omega), List.drop_eq_nil_of_le (by omega)]; rfl
  | succ d ih =>
    intro K i o s hi ho h1 hs hK
    obtain ⟨K, rfl⟩ : ∃ m, K = m + 5 := ⟨K - 5, by omega⟩
    have hlt : i < ws.length := by omega
    have ht := hp ws[i] (List.getElem_mem hlt)
    have hml : (i : Int) < ((ws.map baL).length : Int) := by rw [List.length_map]; omega
    have hz : (baL ws[i]).size = ws[i].length := baL_size _
    rw [List.drop_eq_getElem_cons hlt]
    simp only [spec_l25Tokens.l0]
    rw [if_pos hml, if_pos (nn_cast i), map_baL_get hlt]
    have hflag : (if (baL ws[i]).toList = ([124] : List UInt8) then spec_l25Tokens.j1 (K + 4) o s (ws.map baL) (i : Int) true else spec_l25Tokens.j1 (K + 4) o s (ws.map baL) (i : Int) ((baL ws[i]).toList == ([124, 124] : List UInt8))) = spec_l25Tokens.j1 (K + 4) o s (ws.map baL) (i : Int) (barB ws[i]) := by
      unfold barB
      by_cases c1 : ws[i] = [124]
      · rw [if_pos ((baL_iff _ _ _ rfl).2 c1), decide_eq_true c1, Bool.true_or]
      · rw [if_neg (fun e => c1 ((baL_iff _ _ _ rfl).1 e)), decide_eq_false c1, Bool.false_or]
        congr 1
        by_cases c2 : ws[i] = [124, 124]
        · rw [decide_eq_true c2]; exact beq_iff_eq.2 ((baL_iff _ _ _ rfl).2 c2)
        · rw [decide_eq_false c2]; exact beq_eq_false_iff_ne.2 (fun e => c2 ((baL_iff _ _ _ rfl).1 e))
    rw [hflag]
    simp only [spec_l25Tokens.j1]
    unfold tok
    by_cases hb : barB ws[i] = true
    · rw [if_pos hb, if_pos hb, if_pos (by omega), wrap_succ hlt (by omega), ih (K + 3) (i + 1) o (s ++ [0]) (by omega) (by omega) (by rw [List.length_append]; simp) (by rw [List.length_append]; simp; omega) (by omega)]
    rw [if_neg hb, if_neg hb, if_pos (nn_cast i), if_pos hml]
    have hflag2 : (if (baL ws[i]).toList = ([] : List UInt8) then spec_l25Tokens.j2 (K + 3) o s (ws.map baL) (i : Int) false else if 0 < ((baL ws[i]).size : Int) then spec_l25Tokens.j2 (K + 3) o s (ws.map baL) (i : Int) (bt (baL ws[i]) 0 == 126) else none) = spec_l25Tokens.j2 (K + 3) o s (ws.map baL) (i : Int) (tieB ws[i]) := by
      cases hw : ws[i] with
      | nil => rw [if_pos ((baL_iff _ _ _ rfl).2 rfl)]; rfl
      | cons c q =>
        rw [if_neg (fun e => by have := (baL_iff _ _ _ rfl).1 e; cases this), if_pos (by rw [baL_size, List.length_cons]; omega), bt_zero (baL_data _)]
        congr 1
        show _ = (some c == some (126 : UInt8))
        by_cases h6 : c = 126
        · rw [h6]; rfl
        · rw [beq_eq_false_iff_ne.2 (fun e => h6 (UInt8.toNat_inj.1 (by show c.toNat = 126; omega)) : ¬ (c.toNat : Int) = 126), beq_eq_false_iff_ne.2 (fun e => h6 (Option.some.inj e))]
    rw [map_baL_get hlt, hflag2]
    simp only [spec_l25Tokens.j2]
    rw [if_pos (nn_cast i), if_pos hml]
    have hflag3 : (if tieB ws[i] = true then (if 1 ≤ ((baL ws[i]).size : Int) then spec_l25Tokens.j3 (K + 2) o s (ws.map baL) (i : Int) (tieB ws[i]) ((baL ws[i]).extract 1 (baL ws[i]).size) else none) else spec_l25Tokens.j3 (K + 2) o s (ws.map baL) (i : Int) (tieB ws[i]) (baL ws[i])) = spec_l25Tokens.j3 (K + 2) o s (ws.map baL) (i : Int) (tieB ws[i]) (baL (restW ws[i])) := by
      unfold restW
      by_cases h6 : tieB ws[i] = true
      · rw [if_pos h6, if_pos h6]
        have hne : 1 ≤ ws[i].length := by
          cases hw : ws[i] with
          | nil => rw [hw] at h6; cases h6
          | cons c q => simp
        rw [if_pos (by omega)]
        congr 1
        rw [← data_baL ((baL ws[i]).extract 1 (baL ws[i]).size), ext1, baL_data]
      · rw [if_neg h6, if_neg h6]
    rw [map_baL_get hlt, hflag3]
    simp only [spec_l25Tokens.j3]
    have hr := rest_size ws[i]
    rw [ReadOne_eq (baL (restW ws[i])) (by rw [baL_size]; omega) (by omega), baL_data]
    simp only [Option.bind_some]
    cases hx : oneN (restW ws[i]) with
    | none =>
      show (if false = true then _ else spec_l25Tokens.j4 (K + 1) o s (ws.map baL) (i : Int) (tieB ws[i]) (wrap64 ((o.length : Int) - 1)) true 0 0) = _
      rw [if_neg (by decide)]
      simp only [spec_l25Tokens.j4]
      rw [if_pos trivial]; rfl
    | some x =>
      show (if true = true then (if tieB ws[i] = true then (if (wrap64 ((o.length : Int) - 1)) < 0 then spec_l25Tokens.j4 (K + 1) o s (ws.map baL) (i : Int) (tieB ws[i]) (wrap64 ((o.length : Int) - 1)) true x.f0 x.f1 else (if 0 ≤ wrap64 ((o.length : Int) - 1) then (if wrap64 ((o.length : Int) - 1) < (o.length : Int) then spec_l25Tokens.j4 (K + 1) o s (ws.map baL) (i : Int) (tieB ws[i]) (wrap64 ((o.length : Int) - 1)) (lastP o != x.f0) x.f0 x.f1 else none) else none)) else spec_l25Tokens.j4 (K + 1) o s (ws.map baL) (i : Int) (tieB ws[i]) (wrap64 ((o.length : Int) - 1)) false x.f0 x.f1) else _) = _
      rw [if_pos rfl]
      have hsl := last_ix h1 (by omega)
      by_cases h6 : tieB ws[i] = true
      · rw [if_pos h6, h6]
        by_cases ho0 : o = []
        · subst ho0
          have h00 : wrap64 ((([] : List S67).length : Int) - 1) < 0 := by rw [List.length_nil, wrap_id (by decide) (by decide)]; decide
          rw [if_pos h00]
          simp only [spec_l25Tokens.j4]
          rw [if_pos trivial]
          try dsimp only
          rw [if_pos trivial, if_pos (Or.inl trivial)]; rfl
        have hop := List.length_pos_iff.2 ho0
        have hol := last_ix (n := o.length) (by omega) (by omega)
        rw [if_neg (by rw [hol]; omega), if_pos (by rw [hol]; omega), if_pos (by rw [hol]; omega)]
        simp only [spec_l25Tokens.j4]
        try dsimp only
        rw [if_pos (c := True) trivial]
        by_cases hl : lastP o = x.f0
        · rw [hl, bne_self_eq_false, if_neg (by decide), if_pos (by rw [hsl]; omega), if_pos (by rw [hsl]; omega)]
          simp only [Option.bind_some]
          rw [if_pos trivial, if_pos (by rw [hol]; omega), if_pos (by rw [hol]; omega), wrap_succ hlt (by omega)]
          rw [if_neg (by rintro (h | h); exact ho0 h; exact h trivial)]
          exact ih K (i + 1) (addN o x.f1) (addS s x.f1) (by omega) (by rw [addN_length]; omega) (by rw [addS_length]; omega) (by rw [addS_length]; omega) (by omega)
        · rw [bne_iff_ne.2 hl, if_pos rfl, if_pos (Or.inr hl)]; rfl
      · rw [if_neg h6]
        rw [Bool.not_eq_true] at h6
        rw [h6]
        simp only [spec_l25Tokens.j4]
        try dsimp only
        rw [if_neg (by decide), if_pos (by rw [hsl]; omega), if_pos (by rw [hsl]; omega)]
        simp only [Option.bind_some]
        rw [if_neg (by decide), if_pos (by omega), wrap_succ hlt (by omega), if_neg (by decide)]
        exact ih K (i + 1) (o ++ [x]) (addS s x.f1) (by omega) (by rw [List.length_append]; simp; omega) (by rw [addS_length]; omega) (by rw [addS_length]; omega) (by omega)
theorem CutP_eq (t : List UInt8) : strings_CutPrefix.f (baL t) (⟨#[126]⟩ : ByteArray) = some (baL (restW t), tieB t) := by
  unfold strings_CutPrefix.f
  rw [baL_data, show (⟨#[126]⟩ : ByteArray).data.toList = [126] from rfl]
  have h : Lib.hasPrefix t [126] = tieB t := by
    unfold Lib.hasPrefix tieB
    cases t with
    | nil => rfl
    | cons c q =>
      show ((126 : UInt8) == c && [].isPrefixOf q) = (some c == some (126 : UInt8))
      by_cases h6 : c = 126
      · rw [h6]; simp
      · rw [beq_eq_false_iff_ne.2 (fun e => h6 e.symm), beq_eq_false_iff_ne.2 (fun e => h6 (Option.some.inj e)), Bool.false_and]
  unfold Lib.trimPrefix
  rw [h]; rfl
theorem oneR_flag (l : List UInt8) : (match oneN l with | some _ => False | none => True) → ¬ ((oneR l).2 = true ∧ (oneR l).1.length = 1) := by
  intro h
  unfold oneR
  by_cases h45 : l = [45]
  · rw [if_pos h45]; rintro ⟨_, e⟩; cases e
  · rw [if_neg h45]
    cases hx : oneN l with
    | none => rintro ⟨e, _⟩; cases e
    | some x => rw [hx] at h; exact h.elim
theorem one45 : oneN [45] = none := by
  cases h : oneN [45] with
  | none => rfl
  | some x =>
    obtain ⟨h1, h2⟩ := one_of h
    obtain ⟨⟨a1, a2⟩, _⟩ := noteB_iff.1 h1
    unfold noteW at h2
    rw [p1_cons, List.cons_append] at h2
    have h3 := (List.cons.inj h2).1
    have := named_of ⟨(x.f0 % 12).toNat, by omega⟩
    simp only at this
    rw [h3] at this
    exact absurd this (by have e : named 45 = -1 := by decide +kernel
                          rw [e]; omega)
theorem barWords_l0 {ws : List (List UInt8)} (hn : ws.length ≤ 10000) (hp : ∀ t ∈ ws, t.length ≤ 10000 ∧ (32 : UInt8) ∉ t) : ∀ (d K i : Nat) (acc : List S95) (lb go : Bool) (lp ln : Int), i + d = ws.length → acc.length ≤ i → 3 * d + 400 ≤ K → impl_barWords.l0 K acc (ws.map baL) ((ws.map baL).length : Int) (i : Int) lb go lp ln = some (wrdP acc (wrd (ws.drop i) lb lp)) := by
  intro d
  induction d with
  | zero =>
    intro K i acc lb go lp ln hi ho hK
    obtain ⟨K, rfl⟩ : ∃ m, K = m + 1 := ⟨K - 1, by omega⟩
    simp only [impl_barWords.l0]
    rw [if_neg (by rw [List.length_map]; omega), List.drop_eq_nil_of_le (by omega)]
    show some (acc, true) = some (acc ++ [], true)
    rw [List.append_nil]
  | succ d ih =>
    intro K i acc lb go lp ln hi ho hK
    obtain ⟨K, rfl⟩ : ∃ m, K = m + 3 := ⟨K - 3, by omega⟩
    have hlt : i < ws.length := by omega
    obtain ⟨ht, hno⟩ := hp ws[i] (List.getElem_mem hlt)
    have hml : (i : Int) < ((ws.map baL).length : Int) := by rw [List.length_map]; omega
    have hz : (baL ws[i]).size = ws[i].length := baL_size _
    have hwp : ∀ (y : S95) (q : Option (List S95)), wrdP (acc ++ [y]) q = wrdP acc (q.map (y :: ·)) := fun y q => by
      cases q with
      | none => rfl
      | some b => show ((acc ++ [y]) ++ b, true) = (acc ++ (y :: b), true); rw [List.append_assoc]; rfl
    rw [List.drop_eq_getElem_cons hlt]
    simp only [impl_barWords.l0]
    rw [if_pos hml, if_pos (nn_cast i), if_pos hml, map_baL_get hlt]
    have hflag : (if (baL ws[i]).toList = ([124] : List UInt8) then impl_barWords.j1 (K + 2) acc (baL ws[i]) (ws.map baL) ((ws.map baL).length : Int) (i : Int) true lb go lp ln else impl_barWords.j1 (K + 2) acc (baL ws[i]) (ws.map baL) ((ws.map baL).length : Int) (i : Int) ((baL ws[i]).toList == ([124, 124] : List UInt8)) lb go lp ln) = impl_barWords.j1 (K + 2) acc (baL ws[i]) (ws.map baL) ((ws.map baL).length : Int) (i : Int) (barB ws[i]) lb go lp ln := by
      unfold barB
      by_cases c1 : ws[i] = [124]
      · rw [if_pos ((baL_iff _ _ _ rfl).2 c1), decide_eq_true c1, Bool.true_or]
      · rw [if_neg (fun e => c1 ((baL_iff _ _ _ rfl).1 e)), decide_eq_false c1, Bool.false_or]
        congr 1
        by_cases c2 : ws[i] = [124, 124]
        · rw [decide_eq_true c2]; exact beq_iff_eq.2 ((baL_iff _ _ _ rfl).2 c2)
        · rw [decide_eq_false c2]; exact beq_eq_false_iff_ne.2 (fun e => c2 ((baL_iff _ _ _ rfl).1 e))
    rw [hflag]
    simp only [impl_barWords.j1]
    unfold wrd
    by_cases hb : barB ws[i] = true
    · rw [if_pos hb, if_pos hb, if_pos (by omega), wrap_succ hlt (by omega), ih (K + 1) (i + 1) _ lb go lp ln (by omega) (by rw [List.length_append]; simp; omega) (by omega), hwp]
    rw [if_neg hb, if_neg hb, CutP_eq]
    simp only [Option.bind_some]
    have hr := rest_size ws[i]
    have hno2 : (32 : UInt8) ∉ restW ws[i] := by
      unfold restW
      split
      · exact fun h => hno (List.mem_of_mem_drop h)
      · exact hno
    rw [ReadMelody_eq (baL (restW ws[i])) (by rw [baL_size]; omega) (by rw [baL_data]; exact hno2) (by omega), baL_data]
    simp only [Option.bind_some]
    cases hx : oneN (restW ws[i]) with
    | none =>
      have hf := oneR_flag (restW ws[i]) (by rw [hx]; trivial)
      have : ∀ m : List S67, impl_barWords.j2 (K + 1) acc (tieB ws[i]) m (ws.map baL) ((ws.map baL).length : Int) (i : Int) true lb go lp ln = some (([] : List S95), false) := fun m => by
        simp only [impl_barWords.j2]
        rw [if_pos trivial]
      by_cases h2 : (oneR (restW ws[i])).2 = true
      · rw [if_pos h2, bne_iff_ne.2 (fun e => hf ⟨h2, by omega⟩), this]; rfl
      · rw [if_neg h2, this]; rfl
    | some x =>
      have h45 : ¬ restW ws[i] = [45] := fun e => by rw [e, one45] at hx; cases hx
      have ho1 : oneR (restW ws[i]) = ([x], true) := by unfold oneR; rw [if_neg h45, hx]
      rw [ho1]
      show (if true = true then impl_barWords.j2 (K + 1) acc (tieB ws[i]) [x] (ws.map baL) ((ws.map baL).length : Int) (i : Int) ((([x] : List S67).length : Int) != 1) lb go lp ln else _) = _
      rw [if_pos rfl, show ((([x] : List S67).length : Int) != 1) = false from rfl]
      simp only [impl_barWords.j2]
      rw [if_neg (by decide), if_pos (by simp), show rd_T67 [x] 0 = x from rfl]
      try dsimp only
      have hih := ih K (i + 1) (acc ++ [(⟨false, tieB ws[i], x⟩ : S95)]) false (tieB ws[i]) x.f0 x.f1 (by omega) (by rw [List.length_append]; simp; omega) (by omega)
      rw [hwp] at hih
      by_cases h6 : tieB ws[i] = true
      · rw [if_pos h6]
        by_cases hlb : lb = true
        · rw [if_pos hlb, if_pos ⟨h6, Or.inl hlb⟩]; rfl
        rw [if_neg hlb]
        by_cases hlp : lp = x.f0
        · rw [if_pos hlp, if_pos (by omega), if_neg (by rintro ⟨_, h | h⟩; exact hlb h; exact h hlp), wrap_succ hlt (by omega)]
          exact hih
        · rw [if_neg hlp, if_pos ⟨h6, Or.inr hlp⟩]; rfl
      · rw [if_neg h6, if_pos (by omega), if_neg (fun e => h6 e.1), wrap_succ hlt (by omega)]
        exact hih
theorem rdW_get {l : List S95} {i : Nat} (h : i < l.length) : rd_T95 l (i : Int) = l[i] := by
  simp [rd_T95, List.getD_eq_getElem?_getD, List.getElem?_eq_getElem h]
theorem split_count {c : UInt8} : ∀ (n : Nat) (l : List UInt8), l.length ≤ n → (splitL c [] l).length = Lib.count l [c] + 1 := by
  intro n
  induction n with
  | zero =>
    intro l h
    obtain rfl := List.eq_nil_of_length_eq_zero (by omega : l.length = 0)
    rw [splitL_none [] [] (by simp), Lib.count_miss (index_no [] (by simp))]; rfl
  | succ n ih =>
    intro l h
    rcases cut_shape l c with ⟨a, b, _, e, ha⟩ | ⟨_, hno⟩
    · subst e
      rw [splitL_at a [] b ha, List.length_cons, ih b (by rw [List.length_append, List.length_cons] at h; omega), Lib.count_hit (by simp) (index_at a b ha)]
      rw [List.length_singleton, show (a ++ c :: b).drop (a.length + 1) = b by rw [List.drop_append]; simp]
      omega
    · rw [splitL_none l [] hno, Lib.count_miss (index_no l hno)]; rfl
theorem SplitF_eq (a : ByteArray) (ha : a.size ≤ 1048576) : strings_Split.f a (⟨#[32]⟩ : ByteArray) = some ((splitL 32 [] a.data.toList).map baL) := by
  unfold strings_Split.f
  rw [if_pos ⟨by omega, by decide⟩]
  unfold strings_Split.t
  have h1 := Lib.splitB_data (⟨#[32]⟩ : ByteArray) 0 (Lib.countB a ⟨#[32]⟩) a
  have hc := split_count (c := 32) a.data.toList.length a.data.toList (Nat.le_refl _)
  have hk : Lib.countB a ⟨#[32]⟩ = Lib.count a.data.toList [32] := rfl
  rw [show (⟨#[32]⟩ : ByteArray).data.toList = [32] from rfl, splitK_same _ _ (by rw [hc, hk]; exact Nat.le_refl _)] at h1
  rw [← h1, List.map_map]
  have e : (baL ∘ fun x : ByteArray => x.data.toList) = id := by funext x; exact data_baL x
  rw [e, List.map_id]
theorem split_no {c : UInt8} : ∀ (l cur : List UInt8), c ∉ cur → ∀ t ∈ splitL c cur l, c ∉ t := by
  intro l
  induction l with
  | nil => intro cur hc t ht; unfold splitL at ht; rw [List.mem_singleton] at ht; rw [ht]; exact hc
  | cons b r ih =>
    intro cur hc t ht
    unfold splitL at ht
    split at ht
    · rcases List.mem_cons.1 ht with rfl | h
      · exact hc
      · exact ih [] (by simp) t h
    · next hb => exact ih _ (by rw [List.mem_append, List.mem_singleton]; rintro (h | h); exact hc h; exact hb (by first | exact h.symm | exact beq_iff_eq.2 h.symm | (rw [h]))) t ht
/-- What the words of a text come to. -/
def wordsOf (l : List UInt8) : Option (List S95) := if l = [45] then some [] else wrd (splitL 32 [] l) true 0
def sumsOf (b : List S95) : List Int := if b = [] then [] else foldS b [0]
theorem wrd_length : ∀ (ws : List (List UInt8)) (lb : Bool) (lp : Int) (b : List S95), wrd ws lb lp = some b → b.length = ws.length
  | [], _, _, b, h => by rw [← Option.some.inj h]; rfl
  | t :: r, lb, lp, b, h => by
    unfold wrd at h
    split at h
    · obtain ⟨q, hq, rfl⟩ := Option.map_eq_some_iff.1 h
      rw [List.length_cons, wrd_length r _ _ q hq, List.length_cons]
    · split at h
      · cases h
      · split at h
        · cases h
        · obtain ⟨q, hq, rfl⟩ := Option.map_eq_some_iff.1 h
          rw [List.length_cons, wrd_length r _ _ q hq, List.length_cons]
theorem barWords_eq (a : ByteArray) (ha : a.size ≤ 2000) {K : Nat} (hK : 10000 ≤ K) : impl_barWords.f K a = some (wrdP [] (wordsOf a.data.toList)) := by
  unfold impl_barWords.f wordsOf
  by_cases h45 : a.data.toList = [45]
  · rw [if_pos (by rw [ByteArray.toList_eq]; exact h45), if_pos h45]; rfl
  rw [if_neg (fun e => h45 (by rw [ByteArray.toList_eq] at e; exact e)), if_neg h45, SplitF_eq a (by omega)]
  simp only [Option.bind_some]
  have hz : a.data.toList.length = a.size := (Lib.size_eq a).symm
  obtain ⟨s1, s2⟩ := splitL_le (c := 32) a.data.toList []
  have := barWords_l0 (ws := splitL 32 [] a.data.toList) (by omega) (fun t ht => ⟨by have := s2 t ht; simp at this; omega, split_no _ _ (by simp) t ht⟩) (splitL 32 [] a.data.toList).length K 0 [] true false 0 0 (by omega) (by simp) (by omega)
  rw [List.drop_zero] at this
  exact this
theorem Tokens_eq (a : ByteArray) (ha : a.size ≤ 2000) {K : Nat} (hK : 20000 ≤ K) : spec_l25Tokens.f K a = some (match wordsOf a.data.toList with | some b => (foldN b [], sumsOf b, true) | none => ([], [], false)) := by
  unfold spec_l25Tokens.f wordsOf
  simp only [Option.bind_some]
  by_cases h45 : a.data.toList = [45]
  · rw [if_pos (by rw [ByteArray.toList_eq]; exact h45), if_pos h45]; rfl
  rw [if_neg (fun e => h45 (by rw [ByteArray.toList_eq] at e; exact e)), if_neg h45]
  have E1 : spec_l01Split.f K a 32 = some ((splitL 32 [] a.data.toList).map baL) := Split_eq a 32 (by omega) (k := K) (by omega)
  rw [E1]; simp only [Option.bind_some]
  have hz : a.data.toList.length = a.size := (Lib.size_eq a).symm
  obtain ⟨s1, s2⟩ := splitL_le (c := 32) a.data.toList []
  have hpos := splitL_pos 32 a.data.toList []
  have := Tokens_l0 (ws := splitL 32 [] a.data.toList) (by omega) (fun t ht => by have := s2 t ht; simp at this; omega) (splitL 32 [] a.data.toList).length K 0 [] [0] (by omega) (by simp) (by simp) (by simp) (by omega)
  rw [List.drop_zero, tok_wrd _ [] [0] true 0 rfl (fun h => absurd rfl h) (by simp; omega)] at this
  refine Eq.trans this ?_
  cases hw : wrd (splitL 32 [] a.data.toList) true 0 with
  | none => rfl
  | some b =>
    have hl := wrd_length _ _ _ _ hw
    have hb : ¬ b = [] := fun e => by rw [e, List.length_nil] at hl; omega
    show some (foldN b [], foldS b [0], true) = some (foldN b [], (if b = [] then [] else foldS b [0]), true)
    rw [if_neg hb]
theorem wordsOf_length {l : List UInt8} {b : List S95} (h : wordsOf l = some b) : b.length ≤ l.length + 1 := by
  unfold wordsOf at h
  split at h
  · rw [← Option.some.inj h]; simp
  · rw [wrd_length _ _ _ _ h]; exact (splitL_le (c := 32) l []).1

def nameByte (c : Int) : Bool := (decide (97 ≤ c) && decide (c ≤ 122)) || (decide (48 ≤ c) && decide (c ≤ 57))
def nameB (s : ByteArray) : Bool := decide (1 ≤ s.size) && decide (s.size ≤ 10) && (decide (97 ≤ bt s 0) && decide (bt s 0 ≤ 122)) && (List.range s.size).all fun i => nameByte (bt s (i : Int))
theorem size_zero {s : ByteArray} : s.toList = ([] : List UInt8) ↔ s.size = 0 := by
  rw [ByteArray.toList_eq]
  constructor
  · intro h; have := congrArg List.length h; simpa using this
  · intro h
    apply List.eq_nil_of_length_eq_zero
    simpa using h
theorem l01Name_eq (s : ByteArray) {k : Nat} (hk : 20 ≤ k) : spec_l01Name.f k s = some (nameB s) := by
  obtain ⟨k, rfl⟩ : ∃ m, k = m + 1 := ⟨k - 1, by omega⟩
  unfold spec_l01Name.f nameB
  by_cases h0 : s.size = 0
  · rw [if_pos (size_zero.2 h0)]; simp [spec_l01Name.j0, h0]
  rw [if_neg (fun e => h0 (size_zero.1 e))]
  by_cases h1 : (s.size : Int) > 10
  · rw [if_pos h1]
    have : ¬ s.size ≤ 10 := by omega
    simp [spec_l01Name.j0, this]
  rw [if_neg h1, if_pos (by omega)]
  unfold spec_l01Small.f
  have h1' : s.size ≤ 10 := by omega
  have h0' : 1 ≤ s.size := by omega
  by_cases h2 : bt s 0 ≥ 97
  · rw [if_pos h2]; simp only [Option.bind_some, spec_l01Name.j0]
    by_cases h3 : bt s 0 ≤ 122
    · rw [if_neg (by simp [h3])]
      rw [all_loop (fun k i => spec_l01Name.l0 k s i) s.size (fun i => nameByte (bt s (i : Int))) true 1 (fun k i hi hB => ?_) (fun k _ => ?_) k (by omega)]
      · simp [h1', h0', h3, ge_iff_le.1 h2]
      · obtain ⟨k, rfl⟩ : ∃ m, k = m + 1 := ⟨k - 1, by omega⟩
        show spec_l01Name.l0 (k + 1 + 1) s (i : Int) = _
        rw [spec_l01Name.l0]
        rw [if_pos (by omega), if_pos (nn_cast i), wrap_succ hi (by omega)]
        unfold spec_l01Small.f spec_l01Digit.f nameByte
        by_cases e1 : bt s (i : Int) ≥ 97
        · rw [if_pos e1]
          by_cases e2 : bt s (i : Int) ≤ 122
          · simp [e2, ge_iff_le.1 e1]
          · have e3 : bt s (i : Int) ≥ 48 := by omega
            have e4 : ¬ bt s (i : Int) ≤ 57 := by omega
            simp [e2, e4, ge_iff_le.1 e3]
        · rw [if_neg e1]
          have e1' : ¬ 97 ≤ bt s (i : Int) := e1
          by_cases e2 : bt s (i : Int) ≥ 48
          · rw [if_pos e2]
            by_cases e3 : bt s (i : Int) ≤ 57
            · simp [e3, ge_iff_le.1 e2]
            · simp [e3, e1']
          · rw [if_neg e2]
            have e2' : ¬ 48 ≤ bt s (i : Int) := e2
            simp [e1', e2']
      · show spec_l01Name.l0 (_ + 1) s (s.size : Int) = _
        rw [spec_l01Name.l0, if_neg (nlt_cast _)]
    · rw [if_pos (by simp [h3])]; simp [h3]
  · rw [if_neg h2]; simp only [Option.bind_some, spec_l01Name.j0]
    have h2' : ¬ 97 ≤ bt s 0 := h2
    rw [if_pos (by rfl)]; simp [h2']

theorem IsName_eq (s : ByteArray) {k : Nat} (hk : 20 ≤ k) : impl_IsName.f k s = some (nameB s) := by
  unfold impl_IsName.f nameB
  by_cases h0 : (s.size : Int) < 1
  · rw [if_pos h0]
    have : ¬ 1 ≤ s.size := by omega
    simp [this]
  rw [if_neg h0]
  by_cases h1 : (s.size : Int) > 10
  · rw [if_pos h1]
    have : ¬ s.size ≤ 10 := by omega
    simp [this]
  rw [if_neg h1, if_pos (by omega)]
  have h1' : s.size ≤ 10 := by omega
  have h0' : 1 ≤ s.size := by omega
  by_cases h2 : bt s 0 < 97
  · rw [if_pos h2]
    have h2' : ¬ 97 ≤ bt s 0 := by omega
    simp [h2']
  rw [if_neg h2]
  by_cases h3 : bt s 0 > 122
  · rw [if_pos h3]
    have h3' : ¬ bt s 0 ≤ 122 := by omega
    simp [h3']
  rw [if_neg h3]
  have h2' : 97 ≤ bt s 0 := by omega
  have h3' : bt s 0 ≤ 122 := by omega
  unfold impl_onlyNameBytes.f
  rw [all_loop (fun k i => impl_onlyNameBytes.l0 k s (s.size : Int) i) s.size (fun i => nameByte (bt s (i : Int))) true 0 (fun k i hi hB => ?_) (fun k _ => ?_) k (by omega)]
  · simp [h1', h0', h3', h2']
  · show impl_onlyNameBytes.l0 (k + 1) s (s.size : Int) (i : Int) = _
    rw [impl_onlyNameBytes.l0]
    rw [if_pos (lt_cast hi), if_pos (nn_cast i), if_pos (lt_cast hi), wrap_succ hi (by omega)]
    unfold nameByte
    repeat' split
    all_goals first | rfl | (exfalso; simp_all; done) | (exfalso; simp_all; omega)
  · show impl_onlyNameBytes.l0 (k + 1) s (s.size : Int) (s.size : Int) = _
    rw [impl_onlyNameBytes.l0, if_neg (nlt_cast _)]

def wB (a b n : Int) : Bool := decide (a ≤ n) && decide (n ≤ b)
def sumW (acc : Int) : List Int → Int
  | [] => acc
  | x :: r => sumW (wrap64 (acc + x)) r
def markB : List Int → Bool
  | [] => true
  | m :: r => decide (m = 1) && r.all (wB 2 3)
def talaB (s : ByteArray) (S M : List Int) : Bool := nameB s && ((decide (1 ≤ S.length) && decide (S.length ≤ 8)) && (decide (M.length = S.length) && ((S.all (wB 1 16) && markB M) && decide (sumW 0 S ≤ 32))))
theorem allW_eq (l : List Int) (a b : Int) : impl_allWithin.f l a b = some (l.all (wB a b)) := by
  unfold impl_allWithin.f
  congr 1
  induction l with
  | nil => rfl
  | cons x r ih =>
    rw [List.any_cons, List.all_cons, Bool.not_or, ih]
    congr 1
    unfold impl_allWithin.p wB
    cases decide (a ≤ x) <;> cases decide (x ≤ b) <;> rfl
theorem l17Sum_l0 (S : List Int) (hS : S.length ≤ 1000) : ∀ (d K i : Nat) (acc : Int), i + d = S.length → d + 1 ≤ K → spec_l17Sum.l0 K S acc (i : Int) = some (sumW acc (S.drop i)) := by
  intro d
  induction d with
  | zero =>
    intro K i acc hi hK
    obtain ⟨K, rfl⟩ : ∃ m, K = m + 1 := ⟨K - 1, by omega⟩
    simp only [spec_l17Sum.l0]
    rw [if_neg (by omega), List.drop_eq_nil_of_le (by omega)]; rfl
  | succ d ih =>
    intro K i acc hi hK
    obtain ⟨K, rfl⟩ : ∃ m, K = m + 1 := ⟨K - 1, by omega⟩
    have hlt : i < S.length := by omega
    simp only [spec_l17Sum.l0]
    rw [if_pos (lt_cast hlt), if_pos (nn_cast i), rd_get hlt, wrap_succ hlt (by omega), ih K (i + 1) _ (by omega) (by omega), List.drop_eq_getElem_cons hlt]; rfl
theorem l17Sum_eq {S : List Int} (hS : S.length ≤ 1000) {K : Nat} (hK : 1001 ≤ K) : spec_l17Sum.f K S = some (sumW 0 S) := l17Sum_l0 S hS S.length K 0 0 (by omega) (by omega)
theorem sumOf_l0 (S : List Int) (hS : S.length ≤ 1000) : ∀ (d K i : Nat) (acc : Int), i + d = S.length → d + 1 ≤ K → impl_sumOf.l0 K acc S (S.length : Int) (i : Int) = some (sumW acc (S.drop i)) := by
  intro d
  induction d with
  | zero =>
    intro K i acc hi hK
    obtain ⟨K, rfl⟩ : ∃ m, K = m + 1 := ⟨K - 1, by omega⟩
    simp only [impl_sumOf.l0]
    rw [if_neg (by omega), List.drop_eq_nil_of_le (by omega)]; rfl
  | succ d ih =>
    intro K i acc hi hK
    obtain ⟨K, rfl⟩ : ∃ m, K = m + 1 := ⟨K - 1, by omega⟩
    have hlt : i < S.length := by omega
    simp only [impl_sumOf.l0]
    rw [if_pos (lt_cast hlt), if_pos (nn_cast i), if_pos (lt_cast hlt), rd_get hlt, wrap_succ hlt (by omega), ih K (i + 1) _ (by omega) (by omega), List.drop_eq_getElem_cons hlt]; rfl
theorem beats_eq (s : ByteArray) {S : List Int} (M : List Int) (hS : S.length ≤ 1000) {K : Nat} (hK : 1001 ≤ K) : impl_Tala_beats.f K s S M = some (sumW 0 S) := by
  unfold impl_Tala_beats.f impl_sumOf.f
  have := sumOf_l0 S hS S.length K 0 0 (by omega) (by omega)
  rw [List.drop_zero, show ((0 : Nat) : Int) = 0 from rfl] at this
  rw [this]; rfl
theorem ValidTala_eq (s : ByteArray) (S M : List Int) {K : Nat} (hK : 2000 ≤ K) : impl_ValidTala.f K s S M = some (talaB s S M) := by
  unfold impl_ValidTala.f talaB
  rw [IsName_eq s (by omega)]; simp only [Option.bind_some]
  cases hn : nameB s
  · rfl
  rw [if_pos rfl, Bool.true_and]
  by_cases h1 : 1 ≤ S.length
  rotate_left
  · rw [if_pos (by omega), decide_eq_false h1]; rfl
  rw [if_neg (by omega), decide_eq_true h1]
  by_cases h8 : S.length ≤ 8
  rotate_left
  · rw [if_pos (by omega), decide_eq_false h8]; rfl
  rw [if_neg (by omega), decide_eq_true h8, allW_eq]; simp only [Option.bind_some, Bool.true_and]
  cases hw : S.all (wB 1 16)
  · rw [if_neg (by decide), Bool.false_and, Bool.false_and, Bool.and_false]
  rw [if_pos rfl, beats_eq s M (by omega) (by omega)]; simp only [Option.bind_some, Bool.true_and]
  by_cases h32 : sumW 0 S ≤ 32
  rotate_left
  · rw [if_pos (by omega), decide_eq_false h32, Bool.and_false, Bool.and_false]
  rw [if_neg (by omega), decide_eq_true h32, Bool.and_true]
  by_cases hm : M.length = S.length
  rotate_left
  · rw [if_neg (by omega), decide_eq_false hm, Bool.false_and]
  rw [if_pos (by omega), decide_eq_true hm, if_pos (by omega), Bool.true_and]
  cases M with
  | nil => rw [List.length_nil] at hm; omega
  | cons m r =>
    show (if m = 1 then (if 1 ≤ (((m :: r).length : Nat) : Int) then ((impl_allWithin.f r 2 3).bind fun t => some t) else none) else some false) = some (decide (m = 1) && r.all (wB 2 3))
    rw [allW_eq]; simp only [Option.bind_some]
    by_cases h : m = 1
    · rw [if_pos h, if_pos (by rw [List.length_cons]; omega), decide_eq_true h, Bool.true_and]
    · rw [if_neg h, decide_eq_false h, Bool.false_and]
theorem l17Ok_l0 {s : ByteArray} {S M : List Int} (h8 : S.length ≤ 8) (hm : M.length = S.length) : ∀ (d K i : Nat), i + d = S.length → 1 ≤ i → d + 1500 ≤ K → spec_l17Ok_e.l0 K (S.length : Int) (i : Int) [(⟨s, S, M⟩ : S50)] 0 = some (((S.drop i).all (wB 1 16) && (M.drop i).all (wB 2 3)) && decide (sumW 0 S ≤ 32)) := by
  have hr : rd_T50 [(⟨s, S, M⟩ : S50)] 0 = ⟨s, S, M⟩ := rfl
  intro d
  induction d with
  | zero =>
    intro K i hi h1 hK
    obtain ⟨K, rfl⟩ : ∃ m, K = m + 1 := ⟨K - 1, by omega⟩
    simp only [spec_l17Ok_e.l0]
    rw [if_neg (by omega), List.drop_eq_nil_of_le (by omega), List.drop_eq_nil_of_le (by omega), hr]
    show ((spec_l17Sum.f K S).bind fun t => some (decide (t ≤ 32))) = _
    rw [l17Sum_eq (by omega) (by omega)]; rfl
  | succ d ih =>
    intro K i hi h1 hK
    obtain ⟨K, rfl⟩ : ∃ m, K = m + 1 := ⟨K - 1, by omega⟩
    have hlt : i < S.length := by omega
    have hlm : i < M.length := by omega
    simp only [spec_l17Ok_e.l0]
    rw [if_pos (lt_cast hlt), if_pos (nn_cast i), hr]
    dsimp only
    rw [if_pos (lt_cast hlt), rd_get hlt, in_eq]; simp only [Option.bind_some]
    rw [List.drop_eq_getElem_cons hlt, List.drop_eq_getElem_cons hlm, List.all_cons, List.all_cons]
    change (if wB 1 16 S[i] = true then _ else _) = some (((wB 1 16 S[i] && _) && (wB 2 3 M[i] && _)) && _)
    cases wB 1 16 S[i]
    · rfl
    rw [if_pos rfl, if_neg (by omega), if_pos (by omega), if_pos (lt_cast hlm), rd_get hlm, in_eq]; simp only [Option.bind_some]
    change (if wB 2 3 M[i] = true then _ else _) = _
    cases wB 2 3 M[i]
    · rw [if_neg (by decide)]; simp
    rw [if_pos rfl, wrap_succ hlt (by omega), ih K (i + 1) (by omega) (by omega) (by omega)]; simp
theorem l17Ok_eq (s : ByteArray) (S M : List Int) {K : Nat} (hK : 2000 ≤ K) : spec_l17Ok_e.f K [(⟨s, S, M⟩ : S50)] 0 = some (talaB s S M) := by
  have hr : rd_T50 [(⟨s, S, M⟩ : S50)] 0 = ⟨s, S, M⟩ := rfl
  obtain ⟨K, rfl⟩ : ∃ m, K = m + 2 := ⟨K - 2, by omega⟩
  unfold spec_l17Ok_e.f talaB
  rw [hr]
  dsimp only
  rw [l01Name_eq s (by omega)]; simp only [Option.bind_some]
  have hj : ∀ n : Int, spec_l17Ok_e.j0 (K + 2) n true [(⟨s, S, M⟩ : S50)] 0 = some false := fun n => by
    simp only [spec_l17Ok_e.j0]
    rw [if_pos trivial]
  cases hn : nameB s
  · rw [if_neg (by decide), hj]; rfl
  rw [if_pos rfl, in_eq, Bool.true_and]; simp only [Option.bind_some]
  have hc : (decide ((1 : Int) ≤ (S.length : Int)) && decide ((S.length : Int) ≤ 8)) = (decide (1 ≤ S.length) && decide (S.length ≤ 8)) := by
    congr 1
    · exact decide_eq_decide.2 (by omega)
    · exact decide_eq_decide.2 (by omega)
  rw [hc]
  by_cases hl : (decide (1 ≤ S.length) && decide (S.length ≤ 8)) = true
  rotate_left
  · rw [if_neg hl, hj, Bool.eq_false_iff.2 hl]; rfl
  rw [if_pos hl, hl, Bool.true_and]
  rw [Bool.and_eq_true, decide_eq_true_iff, decide_eq_true_iff] at hl
  obtain ⟨h1, h8⟩ := hl
  by_cases hm : M.length = S.length
  rotate_left
  · rw [bne_iff_ne.2 (by omega), hj, decide_eq_false hm]; rfl
  rw [decide_eq_true hm, Bool.true_and, show ((M.length : Int) != (S.length : Int)) = false by rw [hm]; simp]
  simp only [spec_l17Ok_e.j0, Bool.false_eq_true, if_false, spec_l17Ok_e.l0]
  rw [if_pos (by omega), if_pos (by decide), hr]
  dsimp only
  cases S with
  | nil => rw [List.length_nil] at h1; omega
  | cons x q =>
    cases M with
    | nil => rw [List.length_nil, List.length_cons] at hm; omega
    | cons m r =>
      have e1 : rd (x :: q) 0 = x := rd_get (l := x :: q) (i := 0) (by simp)
      have e2 : rd (m :: r) 0 = m := rd_get (l := m :: r) (i := 0) (by simp)
      rw [if_pos (by rw [List.length_cons]; omega), e1, e2, in_eq]; simp only [Option.bind_some]
      rw [List.all_cons]
      change (if wB 1 16 x = true then _ else _) = some (((wB 1 16 x && _) && (decide (m = 1) && r.all (wB 2 3))) && _)
      cases wB 1 16 x
      · rfl
      rw [if_pos rfl, if_pos (c := True) trivial, if_pos (by rw [List.length_cons]; omega)]
      by_cases h : m = 1
      rotate_left
      · rw [if_neg h, decide_eq_false h]; simp
      have hw : wrap64 (0 + 1) = ((1 : Nat) : Int) := by rw [wrap_id (by omega) (by omega)]; rfl
      rw [if_pos h, if_neg (by decide), decide_eq_true h, hw]
      have := l17Ok_l0 (s := s) h8 hm q.length K 1 (by rw [List.length_cons]; omega) (by omega) (by rw [List.length_cons] at h8; omega)
      rw [this]; simp
def codeB (l : List S67) (s : ByteArray) (S M : List Int) (v : Int) : Int := if (melB l && talaB s S M) = true then (if wB 1 8 v = true then 0 else 2) else 1
theorem l25Ask_eq {l : List S67} (hl : l.length ≤ 2000000) (s : ByteArray) (S M : List Int) (v : Int) {K : Nat} (hK : l.length + 3000 ≤ K) : spec_l25Ask_e.f K l [(⟨s, S, M⟩ : S50)] 0 v = some (codeB l s S M v) := by
  obtain ⟨K, rfl⟩ : ∃ m, K = m + 1 := ⟨K - 1, by omega⟩
  unfold spec_l25Ask_e.f codeB
  rw [l09Ok_eq hl (by omega)]; simp only [Option.bind_some]
  cases melB l
  · rfl
  rw [if_pos rfl, l17Ok_eq s S M (by omega), Bool.true_and]; simp only [Option.bind_some, spec_l25Ask_e.j0]
  cases talaB s S M
  · rfl
  rw [in_eq]; simp only [Option.bind_some]
  change (if (!true) = true then _ else (if wB 1 8 v = true then _ else _)) = _
  cases wB 1 8 v <;> rfl
theorem notationCode_eq (l : List S67) (s : ByteArray) (S M : List Int) (v : Int) {K : Nat} (hK : 3000 ≤ K) : impl_notationCode.f K l s S M v = some (codeB l s S M v) := by
  obtain ⟨K, rfl⟩ : ∃ m, K = m + 1 := ⟨K - 1, by omega⟩
  unfold impl_notationCode.f codeB
  rw [ValidMelody_eq (by omega)]; simp only [Option.bind_some]
  cases melB l
  · rfl
  rw [if_pos rfl, ValidTala_eq s S M (by omega), Bool.true_and]; simp only [Option.bind_some, impl_notationCode.j0]
  cases talaB s S M
  · rfl
  rw [within_eq]; simp only [Option.bind_some]
  change (if (!true) = true then _ else (if wB 1 8 v = true then _ else _)) = _
  cases wB 1 8 v <;> rfl
end Go.Proofs.YtmoamoopoifnlaaGreatDoor.P
