/- Part b of what FnNotation stands on: functions of the program as Lean functions with their walks, and plain lemmas. -/
import Derived.Test.YtmoamoopoifnlaaGreatDoorBFnNotationa
import Derived.Test.YtmoamoopoifnlaaGreatDoorK
namespace Go.Proofs.YtmoamoopoifnlaaGreatDoor.P
open Go.RowKit Go.Proofs.YtmoamoopoifnlaaGreatDoorW.PrintWords Go.Proofs.YtmoamoopoifnlaaGreatDoorW.PrintLast Go.Proofs.YtmoamoopoifnlaaGreatDoorW.PrintMore
attribute [local go_sem] max2_int min2_int max_two min_two max_three min_three max_four min_four str_leq str_gtr str_geq
set_option linter.unusedVariables false
set_option linter.unusedSimpArgs false
def impl_Tala_beats.f (k:Nat) (a0_0:ByteArray) (l0_1:List Int) (l0_2:List Int):Option (Int):=(impl_sumOf.f k l0_1).bind fun t102=>(some t102)
set_option maxHeartbeats 8000000 in
set_option maxRecDepth 100000 in
theorem impl_Tala_beats.calls (k:Nat) (a0_0:ByteArray) (A0_1:Option Addr) (c0_1:Nat) (l0_1:List Int) (A0_2:Option Addr) (c0_2:Nat) (l0_2:List Int) (r:Int) (w:World) (hr0_1:Kd.C (Kd.int .i64) w A0_1 l0_1.length l0_1) (hc0_1:l0_1.length≤c0_1) (hr0_2:Kd.C (Kd.int .i64) w A0_2 l0_2.length l0_2) (hc0_2:l0_2.length≤c0_2) (h:impl_Tala_beats.f k a0_0 l0_1 l0_2=some r) :
 Calls Tryz.prog 143 #[.agg #[.string a0_0,.slice A0_1 l0_1.length c0_1,.slice A0_2 l0_2.length c0_2]] w fun e w'=>e = .returned (.int .i64 r)∧Below w.heap.size w w':=by
 have hu50:=Tryz.underlying50
 have HR0_1:=Aside0.mk hr0_1
 have HC0_1:=Aside0.mk hc0_1
 clear hr0_1 hc0_1
 have HR0_2:=Aside0.mk hr0_2
 have HC0_2:=Aside0.mk hc0_2
 clear hr0_2 hc0_2
 have HB:=Aside0.mk (Below.refl w.heap.size w)
 have H:((impl_sumOf.f k l0_1).bind fun t102=>(some t102))=some r:=h
 clear h
 replace H:=Option.bind_eq_some_iff.mp H
 obtain ⟨t102,A20,H⟩:=H
 replace H:(some t102)=some r:=H
 have A2:=Aside0.mk A20
 clear A20
 obtain rfl:=Option.some.inj H
 go_enter Tryz.func143,Tryz.ntmps143
 go_wp2_with (first|((with_reducible refine gate_dst (N:=1) rfl ?_);refine box_event ?hg (N:=1) ?hd (cs:=#[.string a0_0,.slice A0_1 l0_1.length c0_1,.slice A0_2 l0_2.length c0_2]) (t:=50) ?hr ?_;(case hd=>rfl);(case hg=>rfl);(case hr=>exact zy);intro gb101 hg w3 hbox hb;have n0_:=Aside0.mk (below_step za hb);have n1_:=Aside0.mk (hbox);have n2_:=Aside0.mk ((by rw [hg];exact (below_size za):w.heap.size≤gb101));have n3_:=Aside0.mk ((by rw [hg];exact (below_size za):w.heap.size≤gb101));clear HB;have HB:=n0_;have BK101:=n1_;have GW101:=n2_;have GE101:=n3_;clear n0_ n1_ n2_ n3_;clear hb hbox hg;have hcz4_0:w3.cell? ⟨gb101,0,none⟩=some (.string a0_0):=(blk_cell BK101.out 0).trans rfl;have hcz4_1:w3.cell? ⟨gb101,1,none⟩=some (.slice A0_1 l0_1.length c0_1):=(blk_cell BK101.out 1).trans rfl;have hcz4_2:w3.cell? ⟨gb101,2,none⟩=some (.slice A0_2 l0_2.length c0_2):=(blk_cell BK101.out 2).trans rfl;have hfz4_0:=blk_frozen BK101.out 0;have hfz4_1:=blk_frozen BK101.out 1;have hfz4_2:=blk_frozen BK101.out 2)|((with_reducible refine gate_callee (f:=169) rfl ?_);refine goesL_ (some 5) rfl rfl Tryz.func169 zau rfl #[.slice A0_1 l0_1.length c0_1] rfl zd ?_;(with_reducible refine (impl_sumOf.calls k _ _ l0_1 t102 _ ?side1 ?side2 A2.out).mono ?_);(case side1=>exact zcl);(case side2=>exact HC0_1.out);rintro e w' ⟨rfl,⟨nd,rfl⟩⟩;refine ⟨_,rfl,?_⟩))
 go_ret
 exact ⟨zi,zb⟩

def impl_ValidTala.f (k:Nat) (a0_0:ByteArray) (l0_1:List Int) (l0_2:List Int):Option (Bool):=(impl_IsName.f k a0_0).bind fun t102=>(if t102=true then (if (l0_1.length:Int)<1 then (some false) else (if (l0_1.length:Int) > 8 then (some false) else ((impl_allWithin.f l0_1 1 16).bind fun t103=>(if t103=true then ((impl_Tala_beats.f k a0_0 l0_1 l0_2).bind fun t104=>(if t104 > 32 then (some false) else (if (l0_2.length:Int)=(l0_1.length:Int) then (if 0<(l0_2.length:Int) then (if (rd l0_2 0)=1 then (if 1≤(l0_2.length:Int) then ((impl_allWithin.f (l0_2.drop 1) 2 3).bind fun t107=>(some t107)) else (none)) else (some false)) else (none)) else (some false)))) else (some false))))) else (some false))
set_option maxHeartbeats 8000000 in
set_option maxRecDepth 100000 in
theorem impl_ValidTala.calls (k:Nat) (a0_0:ByteArray) (A0_1:Option Addr) (c0_1:Nat) (l0_1:List Int) (A0_2:Option Addr) (c0_2:Nat) (l0_2:List Int) (r:Bool) (w:World) (hr0_1:Kd.C (Kd.int .i64) w A0_1 l0_1.length l0_1) (hc0_1:l0_1.length≤c0_1) (hr0_2:Kd.C (Kd.int .i64) w A0_2 l0_2.length l0_2) (hc0_2:l0_2.length≤c0_2) (h:impl_ValidTala.f k a0_0 l0_1 l0_2=some r) :
 Calls Tryz.prog 110 #[.agg #[.string a0_0,.slice A0_1 l0_1.length c0_1,.slice A0_2 l0_2.length c0_2]] w fun e w'=>e = .returned (.bool r)∧Below w.heap.size w w':=by
 have hu50:=Tryz.underlying50
 have HR0_1:=Aside0.mk hr0_1
 have HC0_1:=Aside0.mk hc0_1
 clear hr0_1 hc0_1
 have HR0_2:=Aside0.mk hr0_2
 have HC0_2:=Aside0.mk hc0_2
 clear hr0_2 hc0_2
 have HB:=Aside0.mk (Below.refl w.heap.size w)
 have H:((impl_IsName.f k a0_0).bind fun t102=>(if t102=true then (if (l0_1.length:Int)<1 then (some false) else (if (l0_1.length:Int) > 8 then (some false) else ((impl_allWithin.f l0_1 1 16).bind fun t103=>(if t103=true then ((impl_Tala_beats.f k a0_0 l0_1 l0_2).bind fun t104=>(if t104 > 32 then (some false) else (if (l0_2.length:Int)=(l0_1.length:Int) then (if 0<(l0_2.length:Int) then (if (rd l0_2 0)=1 then (if 1≤(l0_2.length:Int) then ((impl_allWithin.f (l0_2.drop 1) 2 3).bind fun t107=>(some t107)) else (none)) else (some false)) else (none)) else (some false)))) else (some false))))) else (some false)))=some r:=h
 clear h
 replace H:=Option.bind_eq_some_iff.mp H
 obtain ⟨t102,A20,H⟩:=H
 replace H:(if t102=true then (if (l0_1.length:Int)<1 then (some false) else (if (l0_1.length:Int) > 8 then (some false) else ((impl_allWithin.f l0_1 1 16).bind fun t103=>(if t103=true then ((impl_Tala_beats.f k a0_0 l0_1 l0_2).bind fun t104=>(if t104 > 32 then (some false) else (if (l0_2.length:Int)=(l0_1.length:Int) then (if 0<(l0_2.length:Int) then (if (rd l0_2 0)=1 then (if 1≤(l0_2.length:Int) then ((impl_allWithin.f (l0_2.drop 1) 2 3).bind fun t107=>(some t107)) else (none)) else (some false)) else (none)) else (some false)))) else (some false))))) else (some false))=some r:=H
 have A2:=Aside0.mk A20
 clear A20
 by_cases c3:t102=true
 ·subst c3
  have H1:(if (l0_1.length:Int)<1 then (some false) else (if (l0_1.length:Int) > 8 then (some false) else ((impl_allWithin.f l0_1 1 16).bind fun t103=>(if t103=true then ((impl_Tala_beats.f k a0_0 l0_1 l0_2).bind fun t104=>(if t104 > 32 then (some false) else (if (l0_2.length:Int)=(l0_1.length:Int) then (if 0<(l0_2.length:Int) then (if (rd l0_2 0)=1 then (if 1≤(l0_2.length:Int) then ((impl_allWithin.f (l0_2.drop 1) 2 3).bind fun t107=>(some t107)) else (none)) else (some false)) else (none)) else (some false)))) else (some false)))))=some r:=by rw [if_pos rfl] at H;exact H
  clear H
  have H:=H1
  clear H1
  by_cases c4:(l0_1.length:Int)<1
  ·rw [if_pos c4] at H
   have c4b0:decide ((l0_1.length:Int)<1)=true:=decide_eq_true c4
   have c4b1:decide (l0_1.length<1)=true:=decide_eq_true zdb
   clear c4
   obtain rfl:=Option.some.inj H
   go_enter Tryz.func110,Tryz.ntmps110
   go_wp2_with (first|((with_reducible refine gate_dst (N:=1) rfl ?_);refine box_event ?hg (N:=1) ?hd (cs:=#[.string a0_0,.slice A0_1 l0_1.length c0_1,.slice A0_2 l0_2.length c0_2]) (t:=50) ?hr ?_;(case hd=>rfl);(case hg=>rfl);(case hr=>exact zy);intro gb101 hg w5 hbox hb;have n0_:=Aside0.mk (below_step za hb);have n1_:=Aside0.mk (hbox);have n2_:=Aside0.mk ((by rw [hg];exact (below_size za):w.heap.size≤gb101));have n3_:=Aside0.mk ((by rw [hg];exact (below_size za):w.heap.size≤gb101));clear HB;have HB:=n0_;have BK101:=n1_;have GW101:=n2_;have GE101:=n3_;clear n0_ n1_ n2_ n3_;clear hb hbox hg;have hcz6_0:w5.cell? ⟨gb101,0,none⟩=some (.string a0_0):=(blk_cell BK101.out 0).trans rfl;have hcz6_1:w5.cell? ⟨gb101,1,none⟩=some (.slice A0_1 l0_1.length c0_1):=(blk_cell BK101.out 1).trans rfl;have hcz6_2:w5.cell? ⟨gb101,2,none⟩=some (.slice A0_2 l0_2.length c0_2):=(blk_cell BK101.out 2).trans rfl;have hfz6_0:=blk_frozen BK101.out 0;have hfz6_1:=blk_frozen BK101.out 1;have hfz6_2:=blk_frozen BK101.out 2)|((with_reducible refine gate_callee (f:=141) rfl ?_);refine goesL_ (some 5) rfl rfl Tryz.func141 zau rfl #[.string a0_0] rfl zd ?_;(with_reducible refine (impl_IsName.calls k a0_0 true _ A2.out).mono ?_);rintro e w' ⟨rfl,⟨nd,rfl⟩⟩;refine ⟨_,rfl,?_⟩))
   go_ret
   exact ⟨zi,zb⟩
  ·rw [if_neg c4] at H
   have c4b0:decide ((l0_1.length:Int)<1)=false:=decide_eq_false c4
   have c4b1:decide (l0_1.length<1)=false:=decide_eq_false zdb
   clear c4
   by_cases c7:(l0_1.length:Int) > 8
   ·rw [if_pos c7] at H
    have c7b0:decide (8<(l0_1.length:Int))=true:=decide_eq_true c7
    have c7b1:decide (8<l0_1.length)=true:=decide_eq_true zdb
    clear c7
    obtain rfl:=Option.some.inj H
    go_enter Tryz.func110,Tryz.ntmps110
    go_wp2_with (first|((with_reducible refine gate_dst (N:=1) rfl ?_);refine box_event ?hg (N:=1) ?hd (cs:=#[.string a0_0,.slice A0_1 l0_1.length c0_1,.slice A0_2 l0_2.length c0_2]) (t:=50) ?hr ?_;(case hd=>rfl);(case hg=>rfl);(case hr=>exact zy);intro gb101 hg w8 hbox hb;have n0_:=Aside0.mk (below_step za hb);have n1_:=Aside0.mk (hbox);have n2_:=Aside0.mk ((by rw [hg];exact (below_size za):w.heap.size≤gb101));have n3_:=Aside0.mk ((by rw [hg];exact (below_size za):w.heap.size≤gb101));clear HB;have HB:=n0_;have BK101:=n1_;have GW101:=n2_;have GE101:=n3_;clear n0_ n1_ n2_ n3_;clear hb hbox hg;have hcz9_0:w8.cell? ⟨gb101,0,none⟩=some (.string a0_0):=(blk_cell BK101.out 0).trans rfl;have hcz9_1:w8.cell? ⟨gb101,1,none⟩=some (.slice A0_1 l0_1.length c0_1):=(blk_cell BK101.out 1).trans rfl;have hcz9_2:w8.cell? ⟨gb101,2,none⟩=some (.slice A0_2 l0_2.length c0_2):=(blk_cell BK101.out 2).trans rfl;have hfz9_0:=blk_frozen BK101.out 0;have hfz9_1:=blk_frozen BK101.out 1;have hfz9_2:=blk_frozen BK101.out 2)|((with_reducible refine gate_callee (f:=141) rfl ?_);refine goesL_ (some 5) rfl rfl Tryz.func141 zau rfl #[.string a0_0] rfl zd ?_;(with_reducible refine (impl_IsName.calls k a0_0 true _ A2.out).mono ?_);rintro e w' ⟨rfl,⟨nd,rfl⟩⟩;refine ⟨_,rfl,?_⟩))
    go_ret
    exact ⟨zi,zb⟩
   ·rw [if_neg c7] at H
    have c7b0:decide (8<(l0_1.length:Int))=false:=decide_eq_false c7
    have c7b1:decide (8<l0_1.length)=false:=decide_eq_false zdb
    clear c7
    replace H:=Option.bind_eq_some_iff.mp H
    obtain ⟨t103,A100,H⟩:=H
    replace H:(if t103=true then ((impl_Tala_beats.f k a0_0 l0_1 l0_2).bind fun t104=>(if t104 > 32 then (some false) else (if (l0_2.length:Int)=(l0_1.length:Int) then (if 0<(l0_2.length:Int) then (if (rd l0_2 0)=1 then (if 1≤(l0_2.length:Int) then ((impl_allWithin.f (l0_2.drop 1) 2 3).bind fun t107=>(some t107)) else (none)) else (some false)) else (none)) else (some false)))) else (some false))=some r:=H
    have A10:=Aside0.mk A100
    clear A100
    by_cases c11:t103=true
    ·subst c11
     have H1:((impl_Tala_beats.f k a0_0 l0_1 l0_2).bind fun t104=>(if t104 > 32 then (some false) else (if (l0_2.length:Int)=(l0_1.length:Int) then (if 0<(l0_2.length:Int) then (if (rd l0_2 0)=1 then (if 1≤(l0_2.length:Int) then ((impl_allWithin.f (l0_2.drop 1) 2 3).bind fun t107=>(some t107)) else (none)) else (some false)) else (none)) else (some false))))=some r:=by rw [if_pos rfl] at H;exact H
     clear H
     have H:=H1
     clear H1
     replace H:=Option.bind_eq_some_iff.mp H
     obtain ⟨t104,A120,H⟩:=H
     replace H:(if t104 > 32 then (some false) else (if (l0_2.length:Int)=(l0_1.length:Int) then (if 0<(l0_2.length:Int) then (if (rd l0_2 0)=1 then (if 1≤(l0_2.length:Int) then ((impl_allWithin.f (l0_2.drop 1) 2 3).bind fun t107=>(some t107)) else (none)) else (some false)) else (none)) else (some false)))=some r:=H
     have A12:=Aside0.mk A120
     clear A120
     by_cases c13:t104 > 32
     ·rw [if_pos c13] at H
      have c13b0:decide (32<t104)=true:=decide_eq_true c13
      clear c13
      obtain rfl:=Option.some.inj H
      go_enter Tryz.func110,Tryz.ntmps110
      go_wp2_with (first|((with_reducible refine gate_dst (N:=1) rfl ?_);refine box_event ?hg (N:=1) ?hd (cs:=#[.string a0_0,.slice A0_1 l0_1.length c0_1,.slice A0_2 l0_2.length c0_2]) (t:=50) ?hr ?_;(case hd=>rfl);(case hg=>rfl);(case hr=>exact zy);intro gb101 hg w14 hbox hb;have n0_:=Aside0.mk (below_step za hb);have n1_:=Aside0.mk (hbox);have n2_:=Aside0.mk ((by rw [hg];exact (below_size za):w.heap.size≤gb101));have n3_:=Aside0.mk ((by rw [hg];exact (below_size za):w.heap.size≤gb101));clear HB;have HB:=n0_;have BK101:=n1_;have GW101:=n2_;have GE101:=n3_;clear n0_ n1_ n2_ n3_;clear hb hbox hg;have hcz15_0:w14.cell? ⟨gb101,0,none⟩=some (.string a0_0):=(blk_cell BK101.out 0).trans rfl;have hcz15_1:w14.cell? ⟨gb101,1,none⟩=some (.slice A0_1 l0_1.length c0_1):=(blk_cell BK101.out 1).trans rfl;have hcz15_2:w14.cell? ⟨gb101,2,none⟩=some (.slice A0_2 l0_2.length c0_2):=(blk_cell BK101.out 2).trans rfl;have hfz15_0:=blk_frozen BK101.out 0;have hfz15_1:=blk_frozen BK101.out 1;have hfz15_2:=blk_frozen BK101.out 2)|((with_reducible refine gate_callee (f:=141) rfl ?_);refine goesL_ (some 5) rfl rfl Tryz.func141 zau rfl #[.string a0_0] rfl zd ?_;(with_reducible refine (impl_IsName.calls k a0_0 true _ A2.out).mono ?_);rintro e w' ⟨rfl,⟨nd,rfl⟩⟩;refine ⟨_,rfl,?_⟩)|(go_at_call 142;(with_reducible refine (impl_allWithin.calls _ _ l0_1 1 16 true _ ?side1 ?side2 A10.out).mono ?_);(case side1=>repeat (first|exact (Kd.C_below HR0_1.out zb)|(with_reducible refine Kd.C_alloc ?_ _)|(with_reducible refine Kd.C_drewN ?_ _)|(with_reducible refine Kd.C_drew ?_)));(case side2=>exact HC0_1.out);rintro e w16 ⟨rfl,hb⟩;replace BK101:=Aside0.mk (blk_below (g:=gb101) (o:=.cells #[.string a0_0,.slice A0_1 l0_1.length c0_1,.slice A0_2 l0_2.length c0_2] 50 (0,0)) zc hb);replace HB:=Aside0.mk (below_step zb hb);(try clear hb);(try clear hb2);(try clear hk);(try clear hi);have hcz17_0:w16.cell? ⟨gb101,0,none⟩=some (.string a0_0):=(blk_cell BK101.out 0).trans rfl;have hcz17_1:w16.cell? ⟨gb101,1,none⟩=some (.slice A0_1 l0_1.length c0_1):=(blk_cell BK101.out 1).trans rfl;have hcz17_2:w16.cell? ⟨gb101,2,none⟩=some (.slice A0_2 l0_2.length c0_2):=(blk_cell BK101.out 2).trans rfl;have hfz17_0:=blk_frozen BK101.out 0;have hfz17_1:=blk_frozen BK101.out 1;have hfz17_2:=blk_frozen BK101.out 2)|(go_at_call 143;(with_reducible refine (impl_Tala_beats.calls k a0_0 _ _ l0_1 _ _ l0_2 t104 _ ?side1 ?side2 ?side3 ?side4 A12.out).mono ?_);(case side1=>exact zcl);(case side2=>exact HC0_1.out);(case side3=>exact zda);(case side4=>exact HC0_2.out);rintro e w18 ⟨rfl,hb⟩;replace BK101:=Aside0.mk (blk_below (g:=gb101) (o:=.cells #[.string a0_0,.slice A0_1 l0_1.length c0_1,.slice A0_2 l0_2.length c0_2] 50 (0,0)) zc hb);replace HB:=Aside0.mk (below_step zb hb);(try clear hb);(try clear hb2);(try clear hk);(try clear hi)))
      go_ret
      exact ⟨zi,zb⟩
     ·rw [if_neg c13] at H
      have c13b0:decide (32<t104)=false:=decide_eq_false c13
      clear c13
      by_cases c19:(l0_2.length:Int)=(l0_1.length:Int)
      ·rw [if_pos c19] at H
       have c19b0:((l0_2.length:Int) == (l0_1.length:Int))=true:=beq_iff_eq.mpr c19
       have c19b1:((l0_2.length:Int) != (l0_1.length:Int))=false:=bne_eq_false_iff_eq.mpr c19
       have c19b2:(l0_2.length == l0_1.length)=true:=by first|simpa using c19|(simp at c19 ⊢;omega)
       clear c19
       by_cases c20:0<(l0_2.length:Int)
       ·rw [if_pos c20] at H
        have c20b0:decide (0<(l0_2.length:Int))=true:=decide_eq_true c20
        have c20b1:decide (0<l0_2.length)=true:=decide_eq_true zdb
        clear c20
        by_cases c21:(rd l0_2 0)=1
        ·rw [if_pos c21] at H
         have c21b0:((rd l0_2 0) == 1)=true:=beq_iff_eq.mpr c21
         have c21b1:((rd l0_2 0) != 1)=false:=bne_eq_false_iff_eq.mpr c21
         clear c21
         by_cases c22:1≤(l0_2.length:Int)
         ·rw [if_pos c22] at H
          have c22b0:=eq_true c22
          have c22b1:decide (1≤(l0_2.length:Int))=true:=decide_eq_true c22
          clear c22
          replace H:=Option.bind_eq_some_iff.mp H
          obtain ⟨t107,A230,H⟩:=H
          replace H:(some t107)=some r:=H
          have A23:=Aside0.mk A230
          clear A230
          obtain rfl:=Option.some.inj H
          go_enter Tryz.func110,Tryz.ntmps110
          go_wp2_with (first|((with_reducible refine gate_dst (N:=1) rfl ?_);refine box_event ?hg (N:=1) ?hd (cs:=#[.string a0_0,.slice A0_1 l0_1.length c0_1,.slice A0_2 l0_2.length c0_2]) (t:=50) ?hr ?_;(case hd=>rfl);(case hg=>rfl);(case hr=>exact zy);intro gb101 hg w24 hbox hb;have n0_:=Aside0.mk (below_step za hb);have n1_:=Aside0.mk (hbox);have n2_:=Aside0.mk ((by rw [hg];exact (below_size za):w.heap.size≤gb101));have n3_:=Aside0.mk ((by rw [hg];exact (below_size za):w.heap.size≤gb101));clear HB;have HB:=n0_;have BK101:=n1_;have GW101:=n2_;have GE101:=n3_;clear n0_ n1_ n2_ n3_;clear hb hbox hg;have hcz25_0:w24.cell? ⟨gb101,0,none⟩=some (.string a0_0):=(blk_cell BK101.out 0).trans rfl;have hcz25_1:w24.cell? ⟨gb101,1,none⟩=some (.slice A0_1 l0_1.length c0_1):=(blk_cell BK101.out 1).trans rfl;have hcz25_2:w24.cell? ⟨gb101,2,none⟩=some (.slice A0_2 l0_2.length c0_2):=(blk_cell BK101.out 2).trans rfl;have hfz25_0:=blk_frozen BK101.out 0;have hfz25_1:=blk_frozen BK101.out 1;have hfz25_2:=blk_frozen BK101.out 2)|((with_reducible refine gate_callee (f:=141) rfl ?_);refine goesL_ (some 5) rfl rfl Tryz.func141 zau rfl #[.string a0_0] rfl zd ?_;(with_reducible refine (impl_IsName.calls k a0_0 true _ A2.out).mono ?_);rintro e w' ⟨rfl,⟨nd,rfl⟩⟩;refine ⟨_,rfl,?_⟩)|(go_at_call 142;(with_reducible refine (impl_allWithin.calls _ _ l0_1 1 16 true _ ?side1 ?side2 A10.out).mono ?_);(case side1=>repeat (first|exact (Kd.C_below HR0_1.out zb)|(with_reducible refine Kd.C_alloc ?_ _)|(with_reducible refine Kd.C_drewN ?_ _)|(with_reducible refine Kd.C_drew ?_)));(case side2=>exact HC0_1.out);rintro e w26 ⟨rfl,hb⟩;replace BK101:=Aside0.mk (blk_below (g:=gb101) (o:=.cells #[.string a0_0,.slice A0_1 l0_1.length c0_1,.slice A0_2 l0_2.length c0_2] 50 (0,0)) zc hb);replace HB:=Aside0.mk (below_step zb hb);(try clear hb);(try clear hb2);(try clear hk);(try clear hi);have hcz27_0:w26.cell? ⟨gb101,0,none⟩=some (.string a0_0):=(blk_cell BK101.out 0).trans rfl;have hcz27_1:w26.cell? ⟨gb101,1,none⟩=some (.slice A0_1 l0_1.length c0_1):=(blk_cell BK101.out 1).trans rfl;have hcz27_2:w26.cell? ⟨gb101,2,none⟩=some (.slice A0_2 l0_2.length c0_2):=(blk_cell BK101.out 2).trans rfl;have hfz27_0:=blk_frozen BK101.out 0;have hfz27_1:=blk_frozen BK101.out 1;have hfz27_2:=blk_frozen BK101.out 2)|(go_at_call 143;(with_reducible refine (impl_Tala_beats.calls k a0_0 _ _ l0_1 _ _ l0_2 t104 _ ?side1 ?side2 ?side3 ?side4 A12.out).mono ?_);(case side1=>exact zcl);(case side2=>exact HC0_1.out);(case side3=>exact zda);(case side4=>exact HC0_2.out);rintro e w28 ⟨rfl,hb⟩;replace BK101:=Aside0.mk (blk_below (g:=gb101) (o:=.cells #[.string a0_0,.slice A0_1 l0_1.length c0_1,.slice A0_2 l0_2.length c0_2] 50 (0,0)) zc hb);replace HB:=Aside0.mk (below_step zb hb);(try clear hb);(try clear hb2);(try clear hk);(try clear hi);have hcz29_0:w28.cell? ⟨gb101,0,none⟩=some (.string a0_0):=(blk_cell BK101.out 0).trans rfl;have hcz29_1:w28.cell? ⟨gb101,1,none⟩=some (.slice A0_1 l0_1.length c0_1):=(blk_cell BK101.out 1).trans rfl;have hcz29_2:w28.cell? ⟨gb101,2,none⟩=some (.slice A0_2 l0_2.length c0_2):=(blk_cell BK101.out 2).trans rfl;have hfz29_0:=blk_frozen BK101.out 0;have hfz29_1:=blk_frozen BK101.out 1;have hfz29_2:=blk_frozen BK101.out 2;have p105:0≤(0:Int):=zdb;have q105:0<(l0_2.length:Int):=of_decide_eq_true ze;obtain ⟨ad105,e105,hx105_0⟩:=Kd.at_int HR0_2.out 0 p105 q105;cases e105;have qi105:(0<l0_2.length)=True:=eq_true zdb;(try rw [show ((0:Int)).toNat=0 from rfl] at hx105_0);(try rw [Addr.add_zero'] at hx105_0);replace hx105_0:=(HB.out.cell (World.block_lt_of_cell? w _ hx105_0)).trans hx105_0;replace p105:=eq_true p105;replace q105:=eq_true q105;obtain ⟨i030,hi030,_,hsz30,_⟩:=info_parts info2;obtain ⟨A30,hcut30,hA30,hC30⟩:=print_drop_of (P:=Tryz.prog) (Value.int .i64) 0 37 2 .i64 Tryz.underlying37 hi030 hsz30 (some ad105) c0_2 l0_2 1 zdb (of_decide_eq_true ze) HC0_2.out;have HR106:=Aside0.mk (Kd.C_of_reads (h1:=fun _=>rfl) (hA30 _ (Kd.reads_of_C HR0_2.out)));have HC106:=Aside0.mk hC30;clear hA30 hC30 hi030 hsz30)|(go_at_call 142;refine calls_of_args (args':=#[.slice A30 (l0_2.drop 1).length (c0_2 - 1),.int .i64 2,.int .i64 3]) (by first|(rw [show (l0_2.drop 1).length=(l0_2.length - 1) from List.length_drop]<;>rfl)|rfl) ?_;(with_reducible refine (impl_allWithin.calls _ _ (l0_2.drop 1) 2 3 t107 _ ?side1 ?side2 A23.out).mono ?_);(case side1=>repeat (first|exact (Kd.C_below HR106.out HB.out)|(with_reducible refine Kd.C_alloc ?_ _)|(with_reducible refine Kd.C_drewN ?_ _)|(with_reducible refine Kd.C_drew ?_)));(case side2=>exact HC106.out);rintro e w31 ⟨rfl,hb⟩;replace BK101:=Aside0.mk (blk_below (g:=gb101) (o:=.cells #[.string a0_0,.slice A0_1 l0_1.length c0_1,.slice (some ad105) l0_2.length c0_2] 50 (0,0)) zc hb);replace HB:=Aside0.mk (below_step zb hb);(try clear hb);(try clear hb2);(try clear hk);(try clear hi)))
          go_ret
          exact ⟨zi,zb⟩
         ·rw [if_neg c22] at H
          exact absurd H zdd
        ·rw [if_neg c21] at H
         have c21b0:((rd l0_2 0) == 1)=false:=beq_eq_false_iff_ne.mpr c21
         have c21b1:((rd l0_2 0) != 1)=true:=bne_iff_ne.mpr c21
         obtain rfl:=Option.some.inj H
         go_enter Tryz.func110,Tryz.ntmps110
         go_wp2_with (first|((with_reducible refine gate_dst (N:=1) rfl ?_);refine box_event ?hg (N:=1) ?hd (cs:=#[.string a0_0,.slice A0_1 l0_1.length c0_1,.slice A0_2 l0_2.length c0_2]) (t:=50) ?hr ?_;(case hd=>rfl);(case hg=>rfl);(case hr=>exact zy);intro gb101 hg w32 hbox hb;have n0_:=Aside0.mk (below_step za hb);have n1_:=Aside0.mk (hbox);have n2_:=Aside0.mk ((by rw [hg];exact (below_size za):w.heap.size≤gb101));have n3_:=Aside0.mk ((by rw [hg];exact (below_size za):w.heap.size≤gb101));clear HB;have HB:=n0_;have BK101:=n1_;have GW101:=n2_;have GE101:=n3_;clear n0_ n1_ n2_ n3_;clear hb hbox hg;have hcz33_0:w32.cell? ⟨gb101,0,none⟩=some (.string a0_0):=(blk_cell BK101.out 0).trans rfl;have hcz33_1:w32.cell? ⟨gb101,1,none⟩=some (.slice A0_1 l0_1.length c0_1):=(blk_cell BK101.out 1).trans rfl;have hcz33_2:w32.cell? ⟨gb101,2,none⟩=some (.slice A0_2 l0_2.length c0_2):=(blk_cell BK101.out 2).trans rfl;have hfz33_0:=blk_frozen BK101.out 0;have hfz33_1:=blk_frozen BK101.out 1;have hfz33_2:=blk_frozen BK101.out 2)|((with_reducible refine gate_callee (f:=141) rfl ?_);refine goesL_ (some 5) rfl rfl Tryz.func141 zau rfl #[.string a0_0] rfl zd ?_;(with_reducible refine (impl_IsName.calls k a0_0 true _ A2.out).mono ?_);rintro e w' ⟨rfl,⟨nd,rfl⟩⟩;refine ⟨_,rfl,?_⟩)|(go_at_call 142;(with_reducible refine (impl_allWithin.calls _ _ l0_1 1 16 true _ ?side1 ?side2 A10.out).mono ?_);(case side1=>repeat (first|exact (Kd.C_below HR0_1.out zb)|(with_reducible refine Kd.C_alloc ?_ _)|(with_reducible refine Kd.C_drewN ?_ _)|(with_reducible refine Kd.C_drew ?_)));(case side2=>exact HC0_1.out);rintro e w34 ⟨rfl,hb⟩;replace BK101:=Aside0.mk (blk_below (g:=gb101) (o:=.cells #[.string a0_0,.slice A0_1 l0_1.length c0_1,.slice A0_2 l0_2.length c0_2] 50 (0,0)) zc hb);replace HB:=Aside0.mk (below_step zb hb);(try clear hb);(try clear hb2);(try clear hk);(try clear hi);have hcz35_0:w34.cell? ⟨gb101,0,none⟩=some (.string a0_0):=(blk_cell BK101.out 0).trans rfl;have hcz35_1:w34.cell? ⟨gb101,1,none⟩=some (.slice A0_1 l0_1.length c0_1):=(blk_cell BK101.out 1).trans rfl;have hcz35_2:w34.cell? ⟨gb101,2,none⟩=some (.slice A0_2 l0_2.length c0_2):=(blk_cell BK101.out 2).trans rfl;have hfz35_0:=blk_frozen BK101.out 0;have hfz35_1:=blk_frozen BK101.out 1;have hfz35_2:=blk_frozen BK101.out 2)|(go_at_call 143;(with_reducible refine (impl_Tala_beats.calls k a0_0 _ _ l0_1 _ _ l0_2 t104 _ ?side1 ?side2 ?side3 ?side4 A12.out).mono ?_);(case side1=>exact zcl);(case side2=>exact HC0_1.out);(case side3=>exact zda);(case side4=>exact HC0_2.out);rintro e w36 ⟨rfl,hb⟩;replace BK101:=Aside0.mk (blk_below (g:=gb101) (o:=.cells #[.string a0_0,.slice A0_1 l0_1.length c0_1,.slice A0_2 l0_2.length c0_2] 50 (0,0)) zc hb);replace HB:=Aside0.mk (below_step zb hb);(try clear hb);(try clear hb2);(try clear hk);(try clear hi);have hcz37_0:w36.cell? ⟨gb101,0,none⟩=some (.string a0_0):=(blk_cell BK101.out 0).trans rfl;have hcz37_1:w36.cell? ⟨gb101,1,none⟩=some (.slice A0_1 l0_1.length c0_1):=(blk_cell BK101.out 1).trans rfl;have hcz37_2:w36.cell? ⟨gb101,2,none⟩=some (.slice A0_2 l0_2.length c0_2):=(blk_cell BK101.out 2).trans rfl;have hfz37_0:=blk_frozen BK101.out 0;have hfz37_1:=blk_frozen BK101.out 1;have hfz37_2:=blk_frozen BK101.out 2;have p105:0≤(0:Int):=zdb;have q105:0<(l0_2.length:Int):=of_decide_eq_true ze;obtain ⟨ad105,e105,hx105_0⟩:=Kd.at_int HR0_2.out 0 p105 q105;cases e105;have qi105:(0<l0_2.length)=True:=eq_true zdb;(try rw [show ((0:Int)).toNat=0 from rfl] at hx105_0);(try rw [Addr.add_zero'] at hx105_0);replace hx105_0:=(HB.out.cell (World.block_lt_of_cell? w _ hx105_0)).trans hx105_0;replace p105:=eq_true p105;replace q105:=eq_true q105))
         go_ret
         exact ⟨zi,zb⟩
       ·rw [if_neg c20] at H
        exact absurd H zdd
      ·rw [if_neg c19] at H
       have c19b0:((l0_2.length:Int) == (l0_1.length:Int))=false:=beq_eq_false_iff_ne.mpr c19
       have c19b1:((l0_2.length:Int) != (l0_1.length:Int))=true:=bne_iff_ne.mpr c19
       have c19b2:(l0_2.length == l0_1.length)=false:=by first|simpa using c19|(simp at c19 ⊢;omega)
       obtain rfl:=Option.some.inj H
       go_enter Tryz.func110,Tryz.ntmps110
       go_wp2_with (first|((with_reducible refine gate_dst (N:=1) rfl ?_);refine box_event ?hg (N:=1) ?hd (cs:=#[.string a0_0,.slice A0_1 l0_1.length c0_1,.slice A0_2 l0_2.length c0_2]) (t:=50) ?hr ?_;(case hd=>rfl);(case hg=>rfl);(case hr=>exact zy);intro gb101 hg w38 hbox hb;have n0_:=Aside0.mk (below_step za hb);have n1_:=Aside0.mk (hbox);have n2_:=Aside0.mk ((by rw [hg];exact (below_size za):w.heap.size≤gb101));have n3_:=Aside0.mk ((by rw [hg];exact (below_size za):w.heap.size≤gb101));clear HB;have HB:=n0_;have BK101:=n1_;have GW101:=n2_;have GE101:=n3_;clear n0_ n1_ n2_ n3_;clear hb hbox hg;have hcz39_0:w38.cell? ⟨gb101,0,none⟩=some (.string a0_0):=(blk_cell BK101.out 0).trans rfl;have hcz39_1:w38.cell? ⟨gb101,1,none⟩=some (.slice A0_1 l0_1.length c0_1):=(blk_cell BK101.out 1).trans rfl;have hcz39_2:w38.cell? ⟨gb101,2,none⟩=some (.slice A0_2 l0_2.length c0_2):=(blk_cell BK101.out 2).trans rfl;have hfz39_0:=blk_frozen BK101.out 0;have hfz39_1:=blk_frozen BK101.out 1;have hfz39_2:=blk_frozen BK101.out 2)|((with_reducible refine gate_callee (f:=141) rfl ?_);refine goesL_ (some 5) rfl rfl Tryz.func141 zau rfl #[.string a0_0] rfl zd ?_;(with_reducible refine (impl_IsName.calls k a0_0 true _ A2.out).mono ?_);rintro e w' ⟨rfl,⟨nd,rfl⟩⟩;refine ⟨_,rfl,?_⟩)|(go_at_call 142;(with_reducible refine (impl_allWithin.calls _ _ l0_1 1 16 true _ ?side1 ?side2 A10.out).mono ?_);(case side1=>repeat (first|exact (Kd.C_below HR0_1.out zb)|(with_reducible refine Kd.C_alloc ?_ _)|(with_reducible refine Kd.C_drewN ?_ _)|(with_reducible refine Kd.C_drew ?_)));(case side2=>exact HC0_1.out);rintro e w40 ⟨rfl,hb⟩;replace BK101:=Aside0.mk (blk_below (g:=gb101) (o:=.cells #[.string a0_0,.slice A0_1 l0_1.length c0_1,.slice A0_2 l0_2.length c0_2] 50 (0,0)) zc hb);replace HB:=Aside0.mk (below_step zb hb);(try clear hb);(try clear hb2);(try clear hk);(try clear hi);have hcz41_0:w40.cell? ⟨gb101,0,none⟩=some (.string a0_0):=(blk_cell BK101.out 0).trans rfl;have hcz41_1:w40.cell? ⟨gb101,1,none⟩=some (.slice A0_1 l0_1.length c0_1):=(blk_cell BK101.out 1).trans rfl;have hcz41_2:w40.cell? ⟨gb101,2,none⟩=some (.slice A0_2 l0_2.length c0_2):=(blk_cell BK101.out 2).trans rfl;have hfz41_0:=blk_frozen BK101.out 0;have hfz41_1:=blk_frozen BK101.out 1;have hfz41_2:=blk_frozen BK101.out 2)|(go_at_call 143;(with_reducible refine (impl_Tala_beats.calls k a0_0 _ _ l0_1 _ _ l0_2 t104 _ ?side1 ?side2 ?side3 ?side4 A12.out).mono ?_);(case side1=>exact zcl);(case side2=>exact HC0_1.out);(case side3=>exact zda);(case side4=>exact HC0_2.out);rintro e w42 ⟨rfl,hb⟩;replace BK101:=Aside0.mk (blk_below (g:=gb101) (o:=.cells #[.string a0_0,.slice A0_1 l0_1.length c0_1,.slice A0_2 l0_2.length c0_2] 50 (0,0)) zc hb);replace HB:=Aside0.mk (below_step zb hb);(try clear hb);(try clear hb2);(try clear hk);(try clear hi);have hcz43_0:w42.cell? ⟨gb101,0,none⟩=some (.string a0_0):=(blk_cell BK101.out 0).trans rfl;have hcz43_1:w42.cell? ⟨gb101,1,none⟩=some (.slice A0_1 l0_1.length c0_1):=(blk_cell BK101.out 1).trans rfl;have hcz43_2:w42.cell? ⟨gb101,2,none⟩=some (.slice A0_2 l0_2.length c0_2):=(blk_cell BK101.out 2).trans rfl;have hfz43_0:=blk_frozen BK101.out 0;have hfz43_1:=blk_frozen BK101.out 1;have hfz43_2:=blk_frozen BK101.out 2))
       go_ret
       exact ⟨zi,zb⟩
    ·replace c11:=Bool.eq_false_iff.mpr c11
     subst c11
     have H1:(some false)=some r:=by rw [if_neg (show ¬ (false=true) by decide)] at H;exact H
     clear H
     have H:=H1
     clear H1
     obtain rfl:=Option.some.inj H
     go_enter Tryz.func110,Tryz.ntmps110
     go_wp2_with (first|((with_reducible refine gate_dst (N:=1) rfl ?_);refine box_event ?hg (N:=1) ?hd (cs:=#[.string a0_0,.slice A0_1 l0_1.length c0_1,.slice A0_2 l0_2.length c0_2]) (t:=50) ?hr ?_;(case hd=>rfl);(case hg=>rfl);(case hr=>exact zy);intro gb101 hg w44 hbox hb;have n0_:=Aside0.mk (below_step za hb);have n1_:=Aside0.mk (hbox);have n2_:=Aside0.mk ((by rw [hg];exact (below_size za):w.heap.size≤gb101));have n3_:=Aside0.mk ((by rw [hg];exact (below_size za):w.heap.size≤gb101));clear HB;have HB:=n0_;have BK101:=n1_;have GW101:=n2_;have GE101:=n3_;clear n0_ n1_ n2_ n3_;clear hb hbox hg;have hcz45_0:w44.cell? ⟨gb101,0,none⟩=some (.string a0_0):=(blk_cell BK101.out 0).trans rfl;have hcz45_1:w44.cell? ⟨gb101,1,none⟩=some (.slice A0_1 l0_1.length c0_1):=(blk_cell BK101.out 1).trans rfl;have hcz45_2:w44.cell? ⟨gb101,2,none⟩=some (.slice A0_2 l0_2.length c0_2):=(blk_cell BK101.out 2).trans rfl;have hfz45_0:=blk_frozen BK101.out 0;have hfz45_1:=blk_frozen BK101.out 1;have hfz45_2:=blk_frozen BK101.out 2)|((with_reducible refine gate_callee (f:=141) rfl ?_);refine goesL_ (some 5) rfl rfl Tryz.func141 zau rfl #[.string a0_0] rfl zd ?_;(with_reducible refine (impl_IsName.calls k a0_0 true _ A2.out).mono ?_);rintro e w' ⟨rfl,⟨nd,rfl⟩⟩;refine ⟨_,rfl,?_⟩)|(go_at_call 142;(with_reducible refine (impl_allWithin.calls _ _ l0_1 1 16 false _ ?side1 ?side2 A10.out).mono ?_);(case side1=>repeat (first|exact (Kd.C_below HR0_1.out zb)|(with_reducible refine Kd.C_alloc ?_ _)|(with_reducible refine Kd.C_drewN ?_ _)|(with_reducible refine Kd.C_drew ?_)));(case side2=>exact HC0_1.out);rintro e w46 ⟨rfl,hb⟩;replace BK101:=Aside0.mk (blk_below (g:=gb101) (o:=.cells #[.string a0_0,.slice A0_1 l0_1.length c0_1,.slice A0_2 l0_2.length c0_2] 50 (0,0)) zc hb);replace HB:=Aside0.mk (below_step zb hb);(try clear hb);(try clear hb2);(try clear hk);(try clear hi)))
     go_ret
     exact ⟨zi,zb⟩
 ·replace c3:=Bool.eq_false_iff.mpr c3
  subst c3
  have H1:(some false)=some r:=by rw [if_neg (show ¬ (false=true) by decide)] at H;exact H
  clear H
  have H:=H1
  clear H1
  obtain rfl:=Option.some.inj H
  go_enter Tryz.func110,Tryz.ntmps110
  go_wp2_with (first|((with_reducible refine gate_dst (N:=1) rfl ?_);refine box_event ?hg (N:=1) ?hd (cs:=#[.string a0_0,.slice A0_1 l0_1.length c0_1,.slice A0_2 l0_2.length c0_2]) (t:=50) ?hr ?_;(case hd=>rfl);(case hg=>rfl);(case hr=>exact zy);intro gb101 hg w47 hbox hb;have n0_:=Aside0.mk (below_step za hb);have n1_:=Aside0.mk (hbox);have n2_:=Aside0.mk ((by rw [hg];exact (below_size za):w.heap.size≤gb101));have n3_:=Aside0.mk ((by rw [hg];exact (below_size za):w.heap.size≤gb101));clear HB;have HB:=n0_;have BK101:=n1_;have GW101:=n2_;have GE101:=n3_;clear n0_ n1_ n2_ n3_;clear hb hbox hg;have hcz48_0:w47.cell? ⟨gb101,0,none⟩=some (.string a0_0):=(blk_cell BK101.out 0).trans rfl;have hcz48_1:w47.cell? ⟨gb101,1,none⟩=some (.slice A0_1 l0_1.length c0_1):=(blk_cell BK101.out 1).trans rfl;have hcz48_2:w47.cell? ⟨gb101,2,none⟩=some (.slice A0_2 l0_2.length c0_2):=(blk_cell BK101.out 2).trans rfl;have hfz48_0:=blk_frozen BK101.out 0;have hfz48_1:=blk_frozen BK101.out 1;have hfz48_2:=blk_frozen BK101.out 2)|((with_reducible refine gate_callee (f:=141) rfl ?_);refine goesL_ (some 5) rfl rfl Tryz.func141 zau rfl #[.string a0_0] rfl zd ?_;(with_reducible refine (impl_IsName.calls k a0_0 false _ A2.out).mono ?_);rintro e w' ⟨rfl,⟨nd,rfl⟩⟩;refine ⟨_,rfl,?_⟩))
  go_ret
  exact ⟨zi,zb⟩

def impl_notationCode.j0:Nat→Int→Bool→Option (Int)
 | 0,_,_=>none
 | k+1,x2,x7=>if x7=true then (some 1) else ((impl_within.f x2 1 8).bind fun t104=>(if t104=true then (some 0) else (some 2)))
def impl_notationCode.f (k:Nat) (l0:List (S67)) (a1_0:ByteArray) (l1_1:List Int) (l1_2:List Int) (a2:Int):Option (Int):=(impl_ValidMelody.f k l0).bind fun t102=>(if t102=true then ((impl_ValidTala.f k a1_0 l1_1 l1_2).bind fun t103=>(impl_notationCode.j0 k a2 (!t103))) else (impl_notationCode.j0 k a2 true))
set_option maxHeartbeats 8000000 in
set_option maxRecDepth 100000 in
theorem impl_notationCode.calls (k:Nat) (A0:Option Addr) (c0:Nat) (l0:List (S67)) (a1_0:ByteArray) (A1_1:Option Addr) (c1_1:Nat) (l1_1:List Int) (A1_2:Option Addr) (c1_2:Nat) (l1_2:List Int) (a2:Int) (r:Int) (w:World) (hr0:Kd.C k67 w A0 l0.length l0) (hc0:l0.length≤c0) (hr1_1:Kd.C (Kd.int .i64) w A1_1 l1_1.length l1_1) (hc1_1:l1_1.length≤c1_1) (hr1_2:Kd.C (Kd.int .i64) w A1_2 l1_2.length l1_2) (hc1_2:l1_2.length≤c1_2) (h:impl_notationCode.f k l0 a1_0 l1_1 l1_2 a2=some r) :
 Calls Tryz.prog 74 #[.slice A0 l0.length c0,.agg #[.string a1_0,.slice A1_1 l1_1.length c1_1,.slice A1_2 l1_2.length c1_2],.int .i64 a2] w fun e w'=>e = .returned (.int .i64 r)∧Below w.heap.size w w':=by
 have hu50:=Tryz.underlying50
 have HR0:=Aside0.mk hr0
 have HC0:=Aside0.mk hc0
 clear hr0 hc0
 have HR1_1:=Aside0.mk hr1_1
 have HC1_1:=Aside0.mk hc1_1
 clear hr1_1 hc1_1
 have HR1_2:=Aside0.mk hr1_2
 have HC1_2:=Aside0.mk hc1_2
 clear hr1_2 hc1_2
 have HB:=Aside0.mk (Below.refl w.heap.size w)
 have H:((impl_ValidMelody.f k l0).bind fun t102=>(if t102=true then ((impl_ValidTala.f k a1_0 l1_1 l1_2).bind fun t103=>(impl_notationCode.j0 k a2 (!t103))) else (impl_notationCode.j0 k a2 true)))=some r:=h
 clear h
 have HC4:=Aside0.mk H
 clear H
 go_enter Tryz.func74,Tryz.ntmps74
 go_upto_region 1 with (first|((with_reducible refine gate_dst (N:=4) rfl ?_);refine box_event ?hg (N:=4) ?hd (cs:=#[.string a1_0,.slice A1_1 l1_1.length c1_1,.slice A1_2 l1_2.length c1_2]) (t:=50) ?hr ?_;(case hd=>rfl);(case hg=>rfl);(case hr=>exact zy);intro gb101 hg w5 hbox hb;have n0_:=Aside0.mk (below_step za hb);have n1_:=Aside0.mk (hbox);have n2_:=Aside0.mk ((by rw [hg];exact (below_size za):w.heap.size≤gb101));have n3_:=Aside0.mk ((by rw [hg];exact (below_size za):w.heap.size≤gb101));clear HB;have HB:=n0_;have BK101:=n1_;have GW101:=n2_;have GE101:=n3_;clear n0_ n1_ n2_ n3_;clear hb hbox hg))
 (try simp only [Act.put,List.setIfInBounds_toArray,List.set_cons_zero,List.set_cons_succ])
 go_cut [7] (fun v7 wc=>∃(kq:Nat) (x7_3:Bool),v7 = .bool x7_3∧Aside0 (impl_notationCode.j0 kq a2 x7_3=some r)∧Aside0 (kq≤k)∧Aside0 (wc.heap[gb101]?=some (.cells #[.string a1_0,(.slice A1_1 l1_1.length c1_1),(.slice A1_2 l1_2.length c1_2)] 50 (0,0)))∧Aside0 (Below w.heap.size w wc))
 case first=>
  have H:=HC4.out
  clear HC4
  replace H:=Option.bind_eq_some_iff.mp H
  obtain ⟨t102,A60,H⟩:=H
  replace H:(if t102=true then ((impl_ValidTala.f k a1_0 l1_1 l1_2).bind fun t103=>(impl_notationCode.j0 k a2 (!t103))) else (impl_notationCode.j0 k a2 true))=some r:=H
  have A6:=Aside0.mk A60
  clear A60
  by_cases c7:t102=true
  ·subst c7
   have H1:((impl_ValidTala.f k a1_0 l1_1 l1_2).bind fun t103=>(impl_notationCode.j0 k a2 (!t103)))=some r:=by rw [if_pos rfl] at H;exact H
   clear H
   have H:=H1
   clear H1
   replace H:=Option.bind_eq_some_iff.mp H
   obtain ⟨t103,A80,H⟩:=H
   replace H:(impl_notationCode.j0 k a2 (!t103))=some r:=H
   have A8:=Aside0.mk A80
   clear A80
   have H':=Aside0.mk H
   clear H
   go_wp2_with (first|((with_reducible refine gate_callee (f:=70) rfl ?_);refine goesL_ (some 9) rfl rfl Tryz.func70 zau rfl #[.slice A0 l0.length c0] rfl zd ?_;(with_reducible refine (impl_ValidMelody.calls k _ _ l0 true _ ?side1 ?side2 A6.out).mono ?_);(case side1=>exact zbp);(case side2=>exact HC0.out);rintro e w9 ⟨rfl,hb⟩;refine ⟨_,rfl,?_⟩;replace BK101:=Aside0.mk (blk_below (g:=gb101) (o:=.cells #[.string a1_0,.slice A1_1 l1_1.length c1_1,.slice A1_2 l1_2.length c1_2] 50 (0,0)) zc hb);replace HB:=Aside0.mk (below_step zb hb);(try clear hb);(try clear hb2);(try clear hk);(try clear hi);have hcz10_0:w9.cell? ⟨gb101,0,none⟩=some (.string a1_0):=(blk_cell BK101.out 0).trans rfl;have hcz10_1:w9.cell? ⟨gb101,1,none⟩=some (.slice A1_1 l1_1.length c1_1):=(blk_cell BK101.out 1).trans rfl;have hcz10_2:w9.cell? ⟨gb101,2,none⟩=some (.slice A1_2 l1_2.length c1_2):=(blk_cell BK101.out 2).trans rfl;have hfz10_0:=blk_frozen BK101.out 0;have hfz10_1:=blk_frozen BK101.out 1;have hfz10_2:=blk_frozen BK101.out 2)|(go_at_call 110;(with_reducible refine (impl_ValidTala.calls k a1_0 _ _ l1_1 _ _ l1_2 t103 _ ?side1 ?side2 ?side3 ?side4 A8.out).mono ?_);(case side1=>exact zs);(case side2=>exact HC1_1.out);(case side3=>exact zt);(case side4=>exact HC1_2.out);rintro e w11 ⟨rfl,hb⟩;replace BK101:=Aside0.mk (blk_below (g:=gb101) (o:=.cells #[.string a1_0,.slice A1_1 l1_1.length c1_1,.slice A1_2 l1_2.length c1_2] 50 (0,0)) zc hb);replace HB:=Aside0.mk (below_step zb hb);(try clear hb);(try clear hb2);(try clear hk);(try clear hi)))
   go_meet
   case rel=>exact ⟨_,(!t103),zg,H',⟨zds⟩,⟨zc⟩,⟨zb⟩⟩
  ·replace c7:=Bool.eq_false_iff.mpr c7
   subst c7
   have H1:(impl_notationCode.j0 k a2 true)=some r:=by rw [if_neg (show ¬ (false=true) by decide)] at H;exact H
   clear H
   have H:=H1
   clear H1
   have H':=Aside0.mk H
   clear H
   go_wp2_with (first|((with_reducible refine gate_callee (f:=70) rfl ?_);refine goesL_ (some 9) rfl rfl Tryz.func70 zau rfl #[.slice A0 l0.length c0] rfl zd ?_;(with_reducible refine (impl_ValidMelody.calls k _ _ l0 false _ ?side1 ?side2 A6.out).mono ?_);(case side1=>exact zbp);(case side2=>exact HC0.out);rintro e w12 ⟨rfl,hb⟩;refine ⟨_,rfl,?_⟩;replace BK101:=Aside0.mk (blk_below (g:=gb101) (o:=.cells #[.string a1_0,.slice A1_1 l1_1.length c1_1,.slice A1_2 l1_2.length c1_2] 50 (0,0)) zc hb);replace HB:=Aside0.mk (below_step zb hb);(try clear hb);(try clear hb2);(try clear hk);(try clear hi)))
   go_meet
   case rel=>exact ⟨_,(true),zg,H',⟨zds⟩,⟨zc⟩,⟨zb⟩⟩
 case rest=>
  clear HC4
  try clear c1
  try clear p2
  try clear c7
  try clear hcz10_0
  try clear hcz10_1
  try clear hcz10_2
  try clear hfz10_0
  try clear hfz10_1
  try clear hfz10_2
  obtain ⟨kq,x7_3,rfl,HA,HJ3,BK101,HB⟩:=hcut
  cases kq with
  | zero=>exact absurd HA.out (by simp [impl_notationCode.j0])
  | succ kj3=>
   have H:=HA.out
   clear HA
   simp only [impl_notationCode.j0] at H
   by_cases c13:x7_3=true
   ·subst c13
    have H1:(some 1)=some r:=by rw [if_pos rfl] at H;exact H
    clear H
    have H:=H1
    clear H1
    obtain rfl:=Option.some.inj H
    go_wp2
    go_ret
    exact ⟨zi,zb⟩
   ·replace c13:=Bool.eq_false_iff.mpr c13
    subst c13
    have H1:((impl_within.f a2 1 8).bind fun t104=>(if t104=true then (some 0) else (some 2)))=some r:=by rw [if_neg (show ¬ (false=true) by decide)] at H;exact H
    clear H
    have H:=H1
    clear H1
    replace H:=Option.bind_eq_some_iff.mp H
    obtain ⟨t104,A140,H⟩:=H
    replace H:(if t104=true then (some 0) else (some 2))=some r:=H
    have A14:=Aside0.mk A140
    clear A140
    by_cases c15:t104=true
    ·subst c15
     have H1:(some 0)=some r:=by rw [if_pos rfl] at H;exact H
     clear H
     have H:=H1
     clear H1
     obtain rfl:=Option.some.inj H
     go_wp2_with (first|((with_reducible refine gate_callee (f:=83) rfl ?_);refine goesL_ (some 18) rfl rfl Tryz.func83 zau rfl #[.int .i64 a2,.int .i64 1,.int .i64 8] rfl zd ?_;(with_reducible refine (impl_within.calls a2 1 8 true _ A14.out).mono ?_);rintro e w' ⟨rfl,⟨nd,rfl⟩⟩;refine ⟨_,rfl,?_⟩))
     go_ret
     exact ⟨zi,zb⟩
    ·replace c15:=Bool.eq_false_iff.mpr c15
     subst c15
     have H1:(some 2)=some r:=by rw [if_neg (show ¬ (false=true) by decide)] at H;exact H
     clear H
     have H:=H1
     clear H1
     obtain rfl:=Option.some.inj H
     go_wp2_with (first|((with_reducible refine gate_callee (f:=83) rfl ?_);refine goesL_ (some 18) rfl rfl Tryz.func83 zau rfl #[.int .i64 a2,.int .i64 1,.int .i64 8] rfl zd ?_;(with_reducible refine (impl_within.calls a2 1 8 false _ A14.out).mono ?_);rintro e w' ⟨rfl,⟨nd,rfl⟩⟩;refine ⟨_,rfl,?_⟩))
     go_ret
     exact ⟨zi,zb⟩

def impl_readWords.f (k:Nat) (a0:ByteArray) (a1_0:ByteArray) (l1_1:List Int) (l1_2:List Int) (a2:Int):Option ((List (S95)) × Int):=(impl_notationCode.f k ([]:List (S67)) a1_0 l1_1 l1_2 a2).bind fun t102=>(if t102=0 then (if (a0.size:Int) > 2000 then (some (([]:List (S95)),5)) else ((impl_barWords.f k a0).bind fun bt103=>(if bt103.2=true then (some (bt103.1,0)) else (some (([]:List (S95)),8))))) else (some (([]:List (S95)),t102)))
set_option maxHeartbeats 8000000 in
set_option maxRecDepth 100000 in
theorem impl_readWords.calls (k:Nat) (a0:ByteArray) (a1_0:ByteArray) (A1_1:Option Addr) (c1_1:Nat) (l1_1:List Int) (A1_2:Option Addr) (c1_2:Nat) (l1_2:List Int) (a2:Int) (r1:List (S95)) (r2:Int) (w:World) (hD:Door2 w) (hr1_1:Kd.C (Kd.int .i64) w A1_1 l1_1.length l1_1) (hc1_1:l1_1.length≤c1_1) (hr1_2:Kd.C (Kd.int .i64) w A1_2 l1_2.length l1_2) (hc1_2:l1_2.length≤c1_2) (h:impl_readWords.f k a0 a1_0 l1_1 l1_2 a2=some (r1,r2)) :
 Calls Tryz.prog 68 #[.string a0,.agg #[.string a1_0,.slice A1_1 l1_1.length c1_1,.slice A1_2 l1_2.length c1_2],.int .i64 a2] w fun e w'=>∃v0_:Value,e = .returned (.tuple #[v0_,.int .i64 r2])∧Kd.R k95 95 w' w.heap.size (fun _=>True) v0_ r1∧Below w.heap.size w w':=by
 have hu50:=Tryz.underlying50
 have HD:=Aside0.mk hD
 clear hD
 have HR1_1:=Aside0.mk hr1_1
 have HC1_1:=Aside0.mk hc1_1
 clear hr1_1 hc1_1
 have HR1_2:=Aside0.mk hr1_2
 have HC1_2:=Aside0.mk hc1_2
 clear hr1_2 hc1_2
 have HB:=Aside0.mk (Below.refl w.heap.size w)
 have H:((impl_notationCode.f k ([]:List (S67)) a1_0 l1_1 l1_2 a2).bind fun t102=>(if t102=0 then (if (a0.size:Int) > 2000 then (some (([]:List (S95)),5)) else ((impl_barWords.f k a0).bind fun bt103=>(if bt103.2=true then (some (bt103.1,0)) else (some (([]:List (S95)),8))))) else (some (([]:List (S95)),t102))))=some (r1,r2):=h
 clear h
 replace H:=Option.bind_eq_some_iff.mp H
 obtain ⟨t102,A40,H⟩:=H
 replace H:(if t102=0 then (if (a0.size:Int) > 2000 then (some (([]:List (S95)),5)) else ((impl_barWords.f k a0).bind fun bt103=>(if bt103.2=true then (some (bt103.1,0)) else (some (([]:List (S95)),8))))) else (some (([]:List (S95)),t102)))=some (r1,r2):=H
 have A4:=Aside0.mk A40
 clear A40
 by_cases c5:t102=0
 ·rw [if_pos c5] at H
  have c5b0:(t102 == 0)=true:=beq_iff_eq.mpr c5
  have c5b1:(t102 != 0)=false:=bne_eq_false_iff_eq.mpr c5
  clear c5
  by_cases c6:(a0.size:Int) > 2000
  ·rw [if_pos c6] at H
   have c6b0:decide (2000<(a0.size:Int))=true:=decide_eq_true c6
   have c6b1:decide (2000<a0.size)=true:=decide_eq_true zdb
   clear c6
   simp only [Option.some.injEq,Prod.mk.injEq] at H
   obtain ⟨rfl,rfl⟩:=H
   go_enter Tryz.func68,Tryz.ntmps68
   go_wp2_with (first|((with_reducible refine gate_dst (N:=4) rfl ?_);refine box_event ?hg (N:=4) ?hd (cs:=#[.string a1_0,.slice A1_1 l1_1.length c1_1,.slice A1_2 l1_2.length c1_2]) (t:=50) ?hr ?_;(case hd=>rfl);(case hg=>rfl);(case hr=>exact zy);intro gb101 hg w7 hbox hb;have n0_:=Aside0.mk (below_step za hb);have n1_:=Aside0.mk (hbox);have n2_:=Aside0.mk ((by rw [hg];exact (below_size za):w.heap.size≤gb101));have n3_:=Aside0.mk ((by rw [hg];exact (below_size za):w.heap.size≤gb101));clear HB;have HB:=n0_;have BK101:=n1_;have GW101:=n2_;have GE101:=n3_;clear n0_ n1_ n2_ n3_;clear hb hbox hg;have hcz8_0:w7.cell? ⟨gb101,0,none⟩=some (.string a1_0):=(blk_cell BK101.out 0).trans rfl;have hcz8_1:w7.cell? ⟨gb101,1,none⟩=some (.slice A1_1 l1_1.length c1_1):=(blk_cell BK101.out 1).trans rfl;have hcz8_2:w7.cell? ⟨gb101,2,none⟩=some (.slice A1_2 l1_2.length c1_2):=(blk_cell BK101.out 2).trans rfl;have hfz8_0:=blk_frozen BK101.out 0;have hfz8_1:=blk_frozen BK101.out 1;have hfz8_2:=blk_frozen BK101.out 2)|((with_reducible refine gate_callee (f:=74) rfl ?_);refine goesL_ (some 13) rfl rfl Tryz.func74 zau rfl #[.slice none 0 0,.agg #[.string a1_0,.slice A1_1 l1_1.length c1_1,.slice A1_2 l1_2.length c1_2],.int .i64 a2] rfl zd ?_;(refine (impl_notationCode.calls k _ _ ([]:List (S67)) a1_0 _ _ l1_1 _ _ l1_2 a2 t102 _ ?side1 ?side2 ?side3 ?side4 ?side5 ?side6 A4.out).mono ?_);(case side1=>exact Kd.C_nil _ _);(case side2=>exact Nat.le_refl _);(case side3=>exact zs);(case side4=>exact HC1_1.out);(case side5=>exact zt);(case side6=>exact HC1_2.out);rintro e w9 ⟨rfl,hb⟩;refine ⟨_,rfl,?_⟩;replace BK101:=Aside0.mk (blk_below (g:=gb101) (o:=.cells #[.string a1_0,.slice A1_1 l1_1.length c1_1,.slice A1_2 l1_2.length c1_2] 50 (0,0)) zc hb);replace HB:=Aside0.mk (below_step zb hb);(try clear hb);(try clear hb2);(try clear hk);(try clear hi)))
   go_ret2
   exact ⟨_,zi,zm,zb⟩
  ·rw [if_neg c6] at H
   have c6b0:decide (2000<(a0.size:Int))=false:=decide_eq_false c6
   have c6b1:decide (2000<a0.size)=false:=decide_eq_false zdb
   clear c6
   replace H:=Option.bind_eq_some_iff.mp H
   obtain ⟨⟨t103,t104⟩,A100,H⟩:=H
   replace H:(if t104=true then (some (t103,0)) else (some (([]:List (S95)),8)))=some (r1,r2):=H
   have A10:=Aside0.mk A100
   clear A100
   by_cases c11:t104=true
   ·subst c11
    have H1:(some (t103,0))=some (r1,r2):=by rw [if_pos rfl] at H;exact H
    clear H
    have H:=H1
    clear H1
    simp only [Option.some.injEq,Prod.mk.injEq] at H
    obtain ⟨rfl,rfl⟩:=H
    go_enter Tryz.func68,Tryz.ntmps68
    go_wp2_with (first|((with_reducible refine gate_dst (N:=4) rfl ?_);refine box_event ?hg (N:=4) ?hd (cs:=#[.string a1_0,.slice A1_1 l1_1.length c1_1,.slice A1_2 l1_2.length c1_2]) (t:=50) ?hr ?_;(case hd=>rfl);(case hg=>rfl);(case hr=>exact zy);intro gb101 hg w12 hbox hb;have n0_:=Aside0.mk (below_step za hb);have n1_:=Aside0.mk (hbox);have n2_:=Aside0.mk ((by rw [hg];exact (below_size za):w.heap.size≤gb101));have n3_:=Aside0.mk ((by rw [hg];exact (below_size za):w.heap.size≤gb101));clear HB;have HB:=n0_;have BK101:=n1_;have GW101:=n2_;have GE101:=n3_;clear n0_ n1_ n2_ n3_;clear hb hbox hg;have hcz13_0:w12.cell? ⟨gb101,0,none⟩=some (.string a1_0):=(blk_cell BK101.out 0).trans rfl;have hcz13_1:w12.cell? ⟨gb101,1,none⟩=some (.slice A1_1 l1_1.length c1_1):=(blk_cell BK101.out 1).trans rfl;have hcz13_2:w12.cell? ⟨gb101,2,none⟩=some (.slice A1_2 l1_2.length c1_2):=(blk_cell BK101.out 2).trans rfl;have hfz13_0:=blk_frozen BK101.out 0;have hfz13_1:=blk_frozen BK101.out 1;have hfz13_2:=blk_frozen BK101.out 2)|((with_reducible refine gate_callee (f:=74) rfl ?_);refine goesL_ (some 13) rfl rfl Tryz.func74 zau rfl #[.slice none 0 0,.agg #[.string a1_0,.slice A1_1 l1_1.length c1_1,.slice A1_2 l1_2.length c1_2],.int .i64 a2] rfl zd ?_;(refine (impl_notationCode.calls k _ _ ([]:List (S67)) a1_0 _ _ l1_1 _ _ l1_2 a2 t102 _ ?side1 ?side2 ?side3 ?side4 ?side5 ?side6 A4.out).mono ?_);(case side1=>exact Kd.C_nil _ _);(case side2=>exact Nat.le_refl _);(case side3=>exact zs);(case side4=>exact HC1_1.out);(case side5=>exact zt);(case side6=>exact HC1_2.out);rintro e w14 ⟨rfl,hb⟩;refine ⟨_,rfl,?_⟩;replace BK101:=Aside0.mk (blk_below (g:=gb101) (o:=.cells #[.string a1_0,.slice A1_1 l1_1.length c1_1,.slice A1_2 l1_2.length c1_2] 50 (0,0)) zc hb);replace HB:=Aside0.mk (below_step zb hb);(try clear hb);(try clear hb2);(try clear hk);(try clear hi))|((with_reducible refine gate_callee (f:=63) rfl ?_);refine goesL_ (some 22) rfl rfl Tryz.func63 zau rfl #[.string a0] rfl zd ?_;(with_reducible refine (impl_barWords.calls k a0 t103 true _ ?side1 A10.out).mono ?_);(case side1=>exact Door2.at HD.out zb);rintro e w15 ⟨v105,rfl,ho0,hb⟩;refine ⟨_,rfl,?_⟩;have HO106:=Aside0.mk (Kd.R_lower ho0 (below_size zb));replace BK101:=Aside0.mk (blk_below (g:=gb101) (o:=.cells #[.string a1_0,.slice A1_1 l1_1.length c1_1,.slice A1_2 l1_2.length c1_2] 50 (0,0)) zc hb);replace HB:=Aside0.mk (below_step zb hb);(try clear hb);(try clear hb2);(try clear hk);(try clear hi);(try clear ho0)))
    go_ret2
    exact ⟨_,zi,by (with_reducible repeat (first|apply Kd.R_alloc|apply Kd.R_drewN|apply Kd.R_drew));exact HO106.out,zb⟩
   ·replace c11:=Bool.eq_false_iff.mpr c11
    subst c11
    have H1:(some (([]:List (S95)),8))=some (r1,r2):=by rw [if_neg (show ¬ (false=true) by decide)] at H;exact H
    clear H
    have H:=H1
    clear H1
    simp only [Option.some.injEq,Prod.mk.injEq] at H
    obtain ⟨rfl,rfl⟩:=H
    go_enter Tryz.func68,Tryz.ntmps68
    go_wp2_with (first|((with_reducible refine gate_dst (N:=4) rfl ?_);refine box_event ?hg (N:=4) ?hd (cs:=#[.string a1_0,.slice A1_1 l1_1.length c1_1,.slice A1_2 l1_2.length c1_2]) (t:=50) ?hr ?_;(case hd=>rfl);(case hg=>rfl);(case hr=>exact zy);intro gb101 hg w16 hbox hb;have n0_:=Aside0.mk (below_step za hb);have n1_:=Aside0.mk (hbox);have n2_:=Aside0.mk ((by rw [hg];exact (below_size za):w.heap.size≤gb101));have n3_:=Aside0.mk ((by rw [hg];exact (below_size za):w.heap.size≤gb101));clear HB;have HB:=n0_;have BK101:=n1_;have GW101:=n2_;have GE101:=n3_;clear n0_ n1_ n2_ n3_;clear hb hbox hg;have hcz17_0:w16.cell? ⟨gb101,0,none⟩=some (.string a1_0):=(blk_cell BK101.out 0).trans rfl;have hcz17_1:w16.cell? ⟨gb101,1,none⟩=some (.slice A1_1 l1_1.length c1_1):=(blk_cell BK101.out 1).trans rfl;have hcz17_2:w16.cell? ⟨gb101,2,none⟩=some (.slice A1_2 l1_2.length c1_2):=(blk_cell BK101.out 2).trans rfl;have hfz17_0:=blk_frozen BK101.out 0;have hfz17_1:=blk_frozen BK101.out 1;have hfz17_2:=blk_frozen BK101.out 2)|((with_reducible refine gate_callee (f:=74) rfl ?_);refine goesL_ (some 13) rfl rfl Tryz.func74 zau rfl #[.slice none 0 0,.agg #[.string a1_0,.slice A1_1 l1_1.length c1_1,.slice A1_2 l1_2.length c1_2],.int .i64 a2] rfl zd ?_;(refine (impl_notationCode.calls k _ _ ([]:List (S67)) a1_0 _ _ l1_1 _ _ l1_2 a2 t102 _ ?side1 ?side2 ?side3 ?side4 ?side5 ?side6 A4.out).mono ?_);(case side1=>exact Kd.C_nil _ _);(case side2=>exact Nat.le_refl _);(case side3=>exact zs);(case side4=>exact HC1_1.out);(case side5=>exact zt);(case side6=>exact HC1_2.out);rintro e w18 ⟨rfl,hb⟩;refine ⟨_,rfl,?_⟩;replace BK101:=Aside0.mk (blk_below (g:=gb101) (o:=.cells #[.string a1_0,.slice A1_1 l1_1.length c1_1,.slice A1_2 l1_2.length c1_2] 50 (0,0)) zc hb);replace HB:=Aside0.mk (below_step zb hb);(try clear hb);(try clear hb2);(try clear hk);(try clear hi))|((with_reducible refine gate_callee (f:=63) rfl ?_);refine goesL_ (some 22) rfl rfl Tryz.func63 zau rfl #[.string a0] rfl zd ?_;(with_reducible refine (impl_barWords.calls k a0 t103 false _ ?side1 A10.out).mono ?_);(case side1=>exact Door2.at HD.out zb);rintro e w19 ⟨v105,rfl,ho0,hb⟩;refine ⟨_,rfl,?_⟩;have HO106:=Aside0.mk (Kd.R_lower ho0 (below_size zb));replace BK101:=Aside0.mk (blk_below (g:=gb101) (o:=.cells #[.string a1_0,.slice A1_1 l1_1.length c1_1,.slice A1_2 l1_2.length c1_2] 50 (0,0)) zc hb);replace HB:=Aside0.mk (below_step zb hb);(try clear hb);(try clear hb2);(try clear hk);(try clear hi);(try clear ho0)))
    go_ret2
    exact ⟨_,zi,zm,zb⟩
 ·rw [if_neg c5] at H
  have c5b0:(t102 == 0)=false:=beq_eq_false_iff_ne.mpr c5
  have c5b1:(t102 != 0)=true:=bne_iff_ne.mpr c5
  simp only [Option.some.injEq,Prod.mk.injEq] at H
  obtain ⟨rfl,rfl⟩:=H
  go_enter Tryz.func68,Tryz.ntmps68
  go_wp2_with (first|((with_reducible refine gate_dst (N:=4) rfl ?_);refine box_event ?hg (N:=4) ?hd (cs:=#[.string a1_0,.slice A1_1 l1_1.length c1_1,.slice A1_2 l1_2.length c1_2]) (t:=50) ?hr ?_;(case hd=>rfl);(case hg=>rfl);(case hr=>exact zy);intro gb101 hg w20 hbox hb;have n0_:=Aside0.mk (below_step za hb);have n1_:=Aside0.mk (hbox);have n2_:=Aside0.mk ((by rw [hg];exact (below_size za):w.heap.size≤gb101));have n3_:=Aside0.mk ((by rw [hg];exact (below_size za):w.heap.size≤gb101));clear HB;have HB:=n0_;have BK101:=n1_;have GW101:=n2_;have GE101:=n3_;clear n0_ n1_ n2_ n3_;clear hb hbox hg;have hcz21_0:w20.cell? ⟨gb101,0,none⟩=some (.string a1_0):=(blk_cell BK101.out 0).trans rfl;have hcz21_1:w20.cell? ⟨gb101,1,none⟩=some (.slice A1_1 l1_1.length c1_1):=(blk_cell BK101.out 1).trans rfl;have hcz21_2:w20.cell? ⟨gb101,2,none⟩=some (.slice A1_2 l1_2.length c1_2):=(blk_cell BK101.out 2).trans rfl;have hfz21_0:=blk_frozen BK101.out 0;have hfz21_1:=blk_frozen BK101.out 1;have hfz21_2:=blk_frozen BK101.out 2)|((with_reducible refine gate_callee (f:=74) rfl ?_);refine goesL_ (some 13) rfl rfl Tryz.func74 zau rfl #[.slice none 0 0,.agg #[.string a1_0,.slice A1_1 l1_1.length c1_1,.slice A1_2 l1_2.length c1_2],.int .i64 a2] rfl zd ?_;(refine (impl_notationCode.calls k _ _ ([]:List (S67)) a1_0 _ _ l1_1 _ _ l1_2 a2 t102 _ ?side1 ?side2 ?side3 ?side4 ?side5 ?side6 A4.out).mono ?_);(case side1=>exact Kd.C_nil _ _);(case side2=>exact Nat.le_refl _);(case side3=>exact zs);(case side4=>exact HC1_1.out);(case side5=>exact zt);(case side6=>exact HC1_2.out);rintro e w22 ⟨rfl,hb⟩;refine ⟨_,rfl,?_⟩;replace BK101:=Aside0.mk (blk_below (g:=gb101) (o:=.cells #[.string a1_0,.slice A1_1 l1_1.length c1_1,.slice A1_2 l1_2.length c1_2] 50 (0,0)) zc hb);replace HB:=Aside0.mk (below_step zb hb);(try clear hb);(try clear hb2);(try clear hk);(try clear hi)))
  go_ret2
  exact ⟨_,zi,zm,zb⟩

def impl_WrongBar.l0:Nat→Int→List Int→List Int→Int→Int→ByteArray→List Int→List Int→Option (Int × Int × Int)
 | 0,_,_,_,_,_,_,_,_=>none
 | k+1,x2,x11,x27,x28,x29,x102000,x102001,x102002=>if x29<x28 then (if 0≤x29 then (if x29<(x27.length:Int) then (if (x102001.length:Int)=0 then (none) else (if 0≤(Int.tmod x29 (x102001.length:Int)) then (if (Int.tmod x29 (x102001.length:Int))<(x102001.length:Int) then (if (rd x27 x29)=0 then (some (x29,wrap64 ((rd x102001 (Int.tmod x29 (x102001.length:Int)))*x2),0)) else (if (rd x27 x29) > (wrap64 ((rd x102001 (Int.tmod x29 (x102001.length:Int)))*x2)) then (some (x29,wrap64 ((rd x102001 (Int.tmod x29 (x102001.length:Int)))*x2),0)) else (if (rd x27 x29)<(wrap64 ((rd x102001 (Int.tmod x29 (x102001.length:Int)))*x2)) then (if x29<(wrap64 ((x11.length:Int) - 1)) then (some (x29,wrap64 ((rd x102001 (Int.tmod x29 (x102001.length:Int)))*x2),0)) else (impl_WrongBar.l0 k x2 x11 x27 x28 (wrap64 (x29+1)) x102000 x102001 x102002)) else (impl_WrongBar.l0 k x2 x11 x27 x28 (wrap64 (x29+1)) x102000 x102001 x102002)))) else (none)) else (none))) else (none)) else (none)) else (some (0,0,3))
def impl_WrongBar.f (k:Nat) (a0:ByteArray) (a1_0:ByteArray) (l1_1:List Int) (l1_2:List Int) (a2:Int):Option (Int × Int × Int):=(impl_readWords.f k a0 a1_0 l1_1 l1_2 a2).bind fun bt102=>(if bt102.2=0 then ((impl_barSums.f k bt102.1).bind fun t106=>(impl_WrongBar.l0 k a2 t106 t106 (t106.length:Int) 0 a1_0 l1_1 l1_2)) else (some (0,0,bt102.2)))
set_option maxHeartbeats 8000000 in
set_option maxRecDepth 100000 in
theorem impl_WrongBar.calls (k:Nat) (a0:ByteArray) (a1_0:ByteArray) (A1_1:Option Addr) (c1_1:Nat) (l1_1:List Int) (A1_2:Option Addr) (c1_2:Nat) (l1_2:List Int) (a2:Int) (r1:Int) (r2:Int) (r3:Int) (w:World) (hD:Door2 w) (hr1_1:Kd.C (Kd.int .i64) w A1_1 l1_1.length l1_1) (hc1_1:l1_1.length≤c1_1) (hr1_2:Kd.C (Kd.int .i64) w A1_2 l1_2.length l1_2) (hc1_2:l1_2.length≤c1_2) (h:impl_WrongBar.f k a0 a1_0 l1_1 l1_2 a2=some (r1,r2,r3)) :
 Calls Tryz.prog 28 #[.string a0,.agg #[.string a1_0,.slice A1_1 l1_1.length c1_1,.slice A1_2 l1_2.length c1_2],.int .i64 a2] w fun e w'=>e = .returned (.tuple #[.int .i64 r1,.int .i64 r2,.int .i64 r3])∧Below w.heap.size w w':=by
 have hu50:=Tryz.underlying50
 have HD:=Aside0.mk hD
 clear hD
 have HR1_1:=Aside0.mk hr1_1
 have HC1_1:=Aside0.mk hc1_1
 clear hr1_1 hc1_1
 have HR1_2:=Aside0.mk hr1_2
 have HC1_2:=Aside0.mk hc1_2
 clear hr1_2 hc1_2
 have HB:=Aside0.mk (Below.refl w.heap.size w)
 have H:((impl_readWords.f k a0 a1_0 l1_1 l1_2 a2).bind fun bt102=>(if bt102.2=0 then ((impl_barSums.f k bt102.1).bind fun t106=>(impl_WrongBar.l0 k a2 t106 t106 (t106.length:Int) 0 a1_0 l1_1 l1_2)) else (some (0,0,bt102.2))))=some (r1,r2,r3):=h
 clear h
 replace H:=Option.bind_eq_some_iff.mp H
 obtain ⟨⟨t102,t105⟩,A40,H⟩:=H
 replace H:(if t105=0 then ((impl_barSums.f k t102).bind fun t106=>(impl_WrongBar.l0 k a2 t106 t106 (t106.length:Int) 0 a1_0 l1_1 l1_2)) else (some (0,0,t105)))=some (r1,r2,r3):=H
 have A4:=Aside0.mk A40
 clear A40
 by_cases c5:t105=0
 ·rw [if_pos c5] at H
  have c5b0:(t105 == 0)=true:=beq_iff_eq.mpr c5
  have c5b1:(t105 != 0)=false:=bne_eq_false_iff_eq.mpr c5
  clear c5
  replace H:=Option.bind_eq_some_iff.mp H
  obtain ⟨t106,A60,H⟩:=H
  replace H:(impl_WrongBar.l0 k a2 t106 t106 (t106.length:Int) 0 a1_0 l1_1 l1_2)=some (r1,r2,r3):=H
  have A6:=Aside0.mk A60
  clear A60
  have H':=Aside0.mk H
  clear H
  go_enter Tryz.func28,Tryz.ntmps28
  go_wp2_with (first|((with_reducible refine gate_dst (N:=4) rfl ?_);refine box_event ?hg (N:=4) ?hd (cs:=#[.string a1_0,.slice A1_1 l1_1.length c1_1,.slice A1_2 l1_2.length c1_2]) (t:=50) ?hr ?_;(case hd=>rfl);(case hg=>rfl);(case hr=>exact zy);intro gb101 hg w7 hbox hb;have n0_:=Aside0.mk (below_step za hb);have n1_:=Aside0.mk (hbox);have n2_:=Aside0.mk ((by rw [hg];exact (below_size za):w.heap.size≤gb101));have n3_:=Aside0.mk ((by rw [hg];exact (below_size za):w.heap.size≤gb101));clear HB;have HB:=n0_;have BK101:=n1_;have GW101:=n2_;have GE101:=n3_;clear n0_ n1_ n2_ n3_;clear hb hbox hg;have hcz8_0:w7.cell? ⟨gb101,0,none⟩=some (.string a1_0):=(blk_cell BK101.out 0).trans rfl;have hcz8_1:w7.cell? ⟨gb101,1,none⟩=some (.slice A1_1 l1_1.length c1_1):=(blk_cell BK101.out 1).trans rfl;have hcz8_2:w7.cell? ⟨gb101,2,none⟩=some (.slice A1_2 l1_2.length c1_2):=(blk_cell BK101.out 2).trans rfl;have hfz8_0:=blk_frozen BK101.out 0;have hfz8_1:=blk_frozen BK101.out 1;have hfz8_2:=blk_frozen BK101.out 2)|(go_at_call 68;(with_reducible refine (impl_readWords.calls k a0 a1_0 _ _ l1_1 _ _ l1_2 a2 t102 t105 _ ?side5 ?side1 ?side2 ?side3 ?side4 A4.out).mono ?_);(case side1=>exact zs);(case side2=>exact HC1_1.out);(case side3=>exact zt);(case side4=>exact HC1_2.out);(case side5=>exact Door2.at HD.out zb);rintro e w9 ⟨v103,rfl,ho0,hb⟩;have HO104:=Aside0.mk (Kd.R_lower ho0 (below_size zb));replace BK101:=Aside0.mk (blk_below (g:=gb101) (o:=.cells #[.string a1_0,.slice A1_1 l1_1.length c1_1,.slice A1_2 l1_2.length c1_2] 50 (0,0)) zc hb);replace HB:=Aside0.mk (below_step zb hb);(try clear hb);(try clear hb2);(try clear hk);(try clear hi);(try clear ho0);obtain ⟨Ao10,co10,eo10⟩:=Kd.R_slice HO104.out;subst eo10)|(go_at_call 64;(with_reducible refine (impl_barSums.calls k _ _ t102 t106 _ ?side1 ?side2 A6.out).mono ?_);(case side1=>exact zaq);(case side2=>exact zdi);rintro e w11 ⟨v107,rfl,ho0,hb⟩;replace HO104:=Aside0.mk (Kd.R_below zr hb);have HO108:=Aside0.mk (Kd.R_lower ho0 (below_size zb));replace BK101:=Aside0.mk (blk_below (g:=gb101) (o:=.cells #[.string a1_0,.slice A1_1 l1_1.length c1_1,.slice A1_2 l1_2.length c1_2] 50 (0,0)) zc hb);replace HB:=Aside0.mk (below_step zb hb);(try clear hb);(try clear hb2);(try clear hk);(try clear hi);(try clear ho0);obtain ⟨Ao12,co12,eo12⟩:=Kd.R_slice HO108.out;subst eo12))
  repeat (go_quiet (first|((with_reducible refine gate_dst (N:=4) rfl ?_);refine box_event ?hg (N:=4) ?hd (cs:=#[.string a1_0,.slice A1_1 l1_1.length c1_1,.slice A1_2 l1_2.length c1_2]) (t:=50) ?hr ?_;(case hd=>rfl);(case hg=>rfl);(case hr=>exact zy);intro gb101 hg w7 hbox hb;have n0_:=Aside0.mk (below_step za hb);have n1_:=Aside0.mk (hbox);have n2_:=Aside0.mk ((by rw [hg];exact (below_size za):w.heap.size≤gb101));have n3_:=Aside0.mk ((by rw [hg];exact (below_size za):w.heap.size≤gb101));clear HB;have HB:=n0_;have BK101:=n1_;have GW101:=n2_;have GE101:=n3_;clear n0_ n1_ n2_ n3_;clear hb hbox hg;have hcz8_0:w7.cell? ⟨gb101,0,none⟩=some (.string a1_0):=(blk_cell BK101.out 0).trans rfl;have hcz8_1:w7.cell? ⟨gb101,1,none⟩=some (.slice A1_1 l1_1.length c1_1):=(blk_cell BK101.out 1).trans rfl;have hcz8_2:w7.cell? ⟨gb101,2,none⟩=some (.slice A1_2 l1_2.length c1_2):=(blk_cell BK101.out 2).trans rfl;have hfz8_0:=blk_frozen BK101.out 0;have hfz8_1:=blk_frozen BK101.out 1;have hfz8_2:=blk_frozen BK101.out 2)|(go_at_call 68;(with_reducible refine (impl_readWords.calls k a0 a1_0 _ _ l1_1 _ _ l1_2 a2 t102 t105 _ ?side5 ?side1 ?side2 ?side3 ?side4 A4.out).mono ?_);(case side1=>exact zs);(case side2=>exact HC1_1.out);(case side3=>exact zt);(case side4=>exact HC1_2.out);(case side5=>exact Door2.at HD.out zb);rintro e w9 ⟨v103,rfl,ho0,hb⟩;have HO104:=Aside0.mk (Kd.R_lower ho0 (below_size zb));replace BK101:=Aside0.mk (blk_below (g:=gb101) (o:=.cells #[.string a1_0,.slice A1_1 l1_1.length c1_1,.slice A1_2 l1_2.length c1_2] 50 (0,0)) zc hb);replace HB:=Aside0.mk (below_step zb hb);(try clear hb);(try clear hb2);(try clear hk);(try clear hi);(try clear ho0);obtain ⟨Ao10,co10,eo10⟩:=Kd.R_slice HO104.out;subst eo10)|(go_at_call 64;(with_reducible refine (impl_barSums.calls k _ _ t102 t106 _ ?side1 ?side2 A6.out).mono ?_);(case side1=>exact zaq);(case side2=>exact zdi);rintro e w11 ⟨v107,rfl,ho0,hb⟩;replace HO104:=Aside0.mk (Kd.R_below zr hb);have HO108:=Aside0.mk (Kd.R_lower ho0 (below_size zb));replace BK101:=Aside0.mk (blk_below (g:=gb101) (o:=.cells #[.string a1_0,.slice A1_1 l1_1.length c1_1,.slice A1_2 l1_2.length c1_2] 50 (0,0)) zc hb);replace HB:=Aside0.mk (below_step zb hb);(try clear hb);(try clear hb2);(try clear hk);(try clear hi);(try clear ho0);obtain ⟨Ao12,co12,eo12⟩:=Kd.R_slice HO108.out;subst eo12));try go_wp2_with (first|((with_reducible refine gate_dst (N:=4) rfl ?_);refine box_event ?hg (N:=4) ?hd (cs:=#[.string a1_0,.slice A1_1 l1_1.length c1_1,.slice A1_2 l1_2.length c1_2]) (t:=50) ?hr ?_;(case hd=>rfl);(case hg=>rfl);(case hr=>exact zy);intro gb101 hg w7 hbox hb;have n0_:=Aside0.mk (below_step za hb);have n1_:=Aside0.mk (hbox);have n2_:=Aside0.mk ((by rw [hg];exact (below_size za):w.heap.size≤gb101));have n3_:=Aside0.mk ((by rw [hg];exact (below_size za):w.heap.size≤gb101));clear HB;have HB:=n0_;have BK101:=n1_;have GW101:=n2_;have GE101:=n3_;clear n0_ n1_ n2_ n3_;clear hb hbox hg;have hcz8_0:w7.cell? ⟨gb101,0,none⟩=some (.string a1_0):=(blk_cell BK101.out 0).trans rfl;have hcz8_1:w7.cell? ⟨gb101,1,none⟩=some (.slice A1_1 l1_1.length c1_1):=(blk_cell BK101.out 1).trans rfl;have hcz8_2:w7.cell? ⟨gb101,2,none⟩=some (.slice A1_2 l1_2.length c1_2):=(blk_cell BK101.out 2).trans rfl;have hfz8_0:=blk_frozen BK101.out 0;have hfz8_1:=blk_frozen BK101.out 1;have hfz8_2:=blk_frozen BK101.out 2)|(go_at_call 68;(with_reducible refine (impl_readWords.calls k a0 a1_0 _ _ l1_1 _ _ l1_2 a2 t102 t105 _ ?side5 ?side1 ?side2 ?side3 ?side4 A4.out).mono ?_);(case side1=>exact zs);(case side2=>exact HC1_1.out);(case side3=>exact zt);(case side4=>exact HC1_2.out);(case side5=>exact Door2.at HD.out zb);rintro e w9 ⟨v103,rfl,ho0,hb⟩;have HO104:=Aside0.mk (Kd.R_lower ho0 (below_size zb));replace BK101:=Aside0.mk (blk_below (g:=gb101) (o:=.cells #[.string a1_0,.slice A1_1 l1_1.length c1_1,.slice A1_2 l1_2.length c1_2] 50 (0,0)) zc hb);replace HB:=Aside0.mk (below_step zb hb);(try clear hb);(try clear hb2);(try clear hk);(try clear hi);(try clear ho0);obtain ⟨Ao10,co10,eo10⟩:=Kd.R_slice HO104.out;subst eo10)|(go_at_call 64;(with_reducible refine (impl_barSums.calls k _ _ t102 t106 _ ?side1 ?side2 A6.out).mono ?_);(case side1=>exact zaq);(case side2=>exact zdi);rintro e w11 ⟨v107,rfl,ho0,hb⟩;replace HO104:=Aside0.mk (Kd.R_below zr hb);have HO108:=Aside0.mk (Kd.R_lower ho0 (below_size zb));replace BK101:=Aside0.mk (blk_below (g:=gb101) (o:=.cells #[.string a1_0,.slice A1_1 l1_1.length c1_1,.slice A1_2 l1_2.length c1_2] 50 (0,0)) zc hb);replace HB:=Aside0.mk (below_step zb hb);(try clear hb);(try clear hb2);(try clear hk);(try clear hi);(try clear ho0);obtain ⟨Ao12,co12,eo12⟩:=Kd.R_slice HO108.out;subst eo12)))
  go_loopg [29] k (fun kq v29 w'=>∃(x29_1:Int),v29 = .int .i64 x29_1∧Aside0 (impl_WrongBar.l0 kq a2 t106 t106 (t106.length:Int) x29_1 a1_0 l1_1 l1_2=some (r1,r2,r3))∧Aside0 (kq≤k)∧Aside0 (Kd.R (Kd.int .i64) 2 w' w.heap.size (fun _=>True) (.slice Ao12 t106.length co12) t106)∧Aside0 (Kd.R (Kd.int .i64) 2 w' w.heap.size (fun _=>True) (.slice Ao12 t106.length co12) t106)∧Aside0 (w'.heap[gb101]?=some (.cells #[.string a1_0,(.slice A1_1 l1_1.length c1_1),(.slice A1_2 l1_2.length c1_2)] 50 (0,0)))∧Aside0 (Below w.heap.size w w'))
  case atStart=>exact ⟨(0),zg,H',⟨Nat.le_refl _⟩,⟨zah⟩,⟨zah⟩,⟨zc⟩,⟨zb⟩⟩
  case round=>
   clear H'
   try clear c1
   try clear c2
   try clear p2
   try clear c5
   try clear c5b0
   try clear c5b1
   try clear hcz8_0
   try clear hcz8_1
   try clear hcz8_2
   try clear hfz8_0
   try clear hfz8_1
   try clear hfz8_2
   obtain ⟨x29_1,rfl,HA,HK1,HO_11,HO_27,BK101,HB⟩:=hrel
   cases gk with
   | zero=>exact absurd HA.out (by simp [impl_WrongBar.l0])
   | succ k1=>
    have H:=HA.out
    clear HA
    simp only [impl_WrongBar.l0] at H
    by_cases c13:x29_1<(t106.length:Int)
    ·rw [if_pos c13] at H
     have c13b0:decide (x29_1<(t106.length:Int))=true:=decide_eq_true c13
     clear c13
     by_cases c14:0≤x29_1
     ·rw [if_pos c14] at H
      have c14b0:decide (0≤x29_1)=true:=decide_eq_true c14
      clear c14
      by_cases c15:x29_1<(t106.length:Int)
      ·rw [if_pos c15] at H
       have c15b0:decide (x29_1<(t106.length:Int))=true:=decide_eq_true c15
       clear c15
       by_cases c16:(l1_1.length:Int)=0
       ·rw [if_pos c16] at H
        exact absurd H zdd
       ·rw [if_neg c16] at H
        have c16b0:((l1_1.length:Int) == 0)=false:=beq_eq_false_iff_ne.mpr c16
        have c16b1:((l1_1.length:Int) != 0)=true:=bne_iff_ne.mpr c16
        have c16b2:¬ (l1_1=[]):=fun h_=>c16 (by rw [h_];rfl)
        obtain ⟨ji17,hji17⟩:∃j_:Int,(Int.tmod x29_1 (l1_1.length:Int))=j_:=⟨_,rfl⟩
        replace H:(if 0≤(ji17) then (if (ji17)<(l1_1.length:Int) then (if (rd t106 x29_1)=0 then (some (x29_1,wrap64 ((rd l1_1 (ji17))*a2),0)) else (if (rd t106 x29_1) > (wrap64 ((rd l1_1 (ji17))*a2)) then (some (x29_1,wrap64 ((rd l1_1 (ji17))*a2),0)) else (if (rd t106 x29_1)<(wrap64 ((rd l1_1 (ji17))*a2)) then (if x29_1<(wrap64 ((t106.length:Int) - 1)) then (some (x29_1,wrap64 ((rd l1_1 (ji17))*a2),0)) else (impl_WrongBar.l0 k1 a2 t106 t106 (t106.length:Int) (wrap64 (x29_1+1)) a1_0 l1_1 l1_2)) else (impl_WrongBar.l0 k1 a2 t106 t106 (t106.length:Int) (wrap64 (x29_1+1)) a1_0 l1_1 l1_2)))) else (none)) else (none))=some (r1,r2,r3):=by first|(rw [hji17] at H;exact H)|(simp only [hji17] at H ⊢;exact H)
        by_cases c18:0≤(ji17)
        ·rw [if_pos c18] at H
         have c18b0:decide (0≤(ji17))=true:=decide_eq_true c18
         clear c18
         by_cases c19:(ji17)<(l1_1.length:Int)
         ·rw [if_pos c19] at H
          have c19b0:decide ((ji17)<(l1_1.length:Int))=true:=decide_eq_true c19
          clear c19
          by_cases c20:(rd t106 x29_1)=0
          ·rw [if_pos c20] at H
           have c20b0:((rd t106 x29_1) == 0)=true:=beq_iff_eq.mpr c20
           have c20b1:((rd t106 x29_1) != 0)=false:=bne_eq_false_iff_eq.mpr c20
           clear c20
           simp only [Option.some.injEq,Prod.mk.injEq] at H
           obtain ⟨rfl,rfl,rfl⟩:=H
           have p109:0≤(x29_1:Int):=of_decide_eq_true ze
           have q109:x29_1<(t106.length:Int):=of_decide_eq_true ze
           obtain ⟨ad109,e109,hx109_0⟩:=Kd.at_int (Kd.R_reads' HO_27.out).2.2 x29_1 p109 q109
           cases e109
           replace p109:=eq_true p109
           replace q109:=eq_true q109
           have hcz21_0:wr.cell? ⟨gb101,0,none⟩=some (.string a1_0):=(blk_cell BK101.out 0).trans rfl
           have hcz21_1:wr.cell? ⟨gb101,1,none⟩=some (.slice A1_1 l1_1.length c1_1):=(blk_cell BK101.out 1).trans rfl
           have hcz21_2:wr.cell? ⟨gb101,2,none⟩=some (.slice A1_2 l1_2.length c1_2):=(blk_cell BK101.out 2).trans rfl
           have hfz21_0:=blk_frozen BK101.out 0
           have hfz21_1:=blk_frozen BK101.out 1
           have hfz21_2:=blk_frozen BK101.out 2
           have p110:0≤((ji17):Int):=of_decide_eq_true ze
           have q110:(ji17)<(l1_1.length:Int):=of_decide_eq_true ze
           obtain ⟨ad110,e110,hx110_0⟩:=Kd.at_int HR1_1.out (ji17) p110 q110
           cases e110
           replace hx110_0:=(HB.out.cell (World.block_lt_of_cell? w _ hx110_0)).trans hx110_0
           replace p110:=eq_true p110
           replace q110:=eq_true q110
           go_wp2
           repeat (go_quiet (fail);try go_wp2)
           go_ret3
           exact ⟨zdn,zb⟩
          ·rw [if_neg c20] at H
           have c20b0:((rd t106 x29_1) == 0)=false:=beq_eq_false_iff_ne.mpr c20
           have c20b1:((rd t106 x29_1) != 0)=true:=bne_iff_ne.mpr c20
           by_cases c22:(rd t106 x29_1) > (wrap64 ((rd l1_1 (ji17))*a2))
           ·rw [if_pos c22] at H
            have c22b0:decide ((wrap64 ((rd l1_1 (ji17))*a2))<(rd t106 x29_1))=true:=decide_eq_true c22
            clear c22
            simp only [Option.some.injEq,Prod.mk.injEq] at H
            obtain ⟨rfl,rfl,rfl⟩:=H
            have p109:0≤(x29_1:Int):=of_decide_eq_true ze
            have q109:x29_1<(t106.length:Int):=of_decide_eq_true ze
            obtain ⟨ad109,e109,hx109_0⟩:=Kd.at_int (Kd.R_reads' HO_27.out).2.2 x29_1 p109 q109
            cases e109
            replace p109:=eq_true p109
            replace q109:=eq_true q109
            have hcz23_0:wr.cell? ⟨gb101,0,none⟩=some (.string a1_0):=(blk_cell BK101.out 0).trans rfl
            have hcz23_1:wr.cell? ⟨gb101,1,none⟩=some (.slice A1_1 l1_1.length c1_1):=(blk_cell BK101.out 1).trans rfl
            have hcz23_2:wr.cell? ⟨gb101,2,none⟩=some (.slice A1_2 l1_2.length c1_2):=(blk_cell BK101.out 2).trans rfl
            have hfz23_0:=blk_frozen BK101.out 0
            have hfz23_1:=blk_frozen BK101.out 1
            have hfz23_2:=blk_frozen BK101.out 2
            have p110:0≤((ji17):Int):=of_decide_eq_true ze
            have q110:(ji17)<(l1_1.length:Int):=of_decide_eq_true ze
            obtain ⟨ad110,e110,hx110_0⟩:=Kd.at_int HR1_1.out (ji17) p110 q110
            cases e110
            replace hx110_0:=(HB.out.cell (World.block_lt_of_cell? w _ hx110_0)).trans hx110_0
            replace p110:=eq_true p110
            replace q110:=eq_true q110
            go_wp2
            repeat (go_quiet (fail);try go_wp2)
            go_ret3
            exact ⟨zdn,zb⟩
           ·rw [if_neg c22] at H
            have c22b0:decide ((wrap64 ((rd l1_1 (ji17))*a2))<(rd t106 x29_1))=false:=decide_eq_false c22
            clear c22
            by_cases c24:(rd t106 x29_1)<(wrap64 ((rd l1_1 (ji17))*a2))
            ·rw [if_pos c24] at H
             have c24b0:decide ((rd t106 x29_1)<(wrap64 ((rd l1_1 (ji17))*a2)))=true:=decide_eq_true c24
             clear c24
             by_cases c25:x29_1<(wrap64 ((t106.length:Int) - 1))
             ·rw [if_pos c25] at H
              have c25b0:decide (x29_1<(wrap64 ((t106.length:Int) - 1)))=true:=decide_eq_true c25
              clear c25
              simp only [Option.some.injEq,Prod.mk.injEq] at H
              obtain ⟨rfl,rfl,rfl⟩:=H
              have p109:0≤(x29_1:Int):=of_decide_eq_true ze
              have q109:x29_1<(t106.length:Int):=of_decide_eq_true ze
              obtain ⟨ad109,e109,hx109_0⟩:=Kd.at_int (Kd.R_reads' HO_27.out).2.2 x29_1 p109 q109
              cases e109
              replace p109:=eq_true p109
              replace q109:=eq_true q109
              have hcz26_0:wr.cell? ⟨gb101,0,none⟩=some (.string a1_0):=(blk_cell BK101.out 0).trans rfl
              have hcz26_1:wr.cell? ⟨gb101,1,none⟩=some (.slice A1_1 l1_1.length c1_1):=(blk_cell BK101.out 1).trans rfl
              have hcz26_2:wr.cell? ⟨gb101,2,none⟩=some (.slice A1_2 l1_2.length c1_2):=(blk_cell BK101.out 2).trans rfl
              have hfz26_0:=blk_frozen BK101.out 0
              have hfz26_1:=blk_frozen BK101.out 1
              have hfz26_2:=blk_frozen BK101.out 2
              have p110:0≤((ji17):Int):=of_decide_eq_true ze
              have q110:(ji17)<(l1_1.length:Int):=of_decide_eq_true ze
              obtain ⟨ad110,e110,hx110_0⟩:=Kd.at_int HR1_1.out (ji17) p110 q110
              cases e110
              replace hx110_0:=(HB.out.cell (World.block_lt_of_cell? w _ hx110_0)).trans hx110_0
              replace p110:=eq_true p110
              replace q110:=eq_true q110
              go_wp2
              repeat (go_quiet (fail);try go_wp2)
              go_ret3
              exact ⟨zdn,zb⟩
             ·rw [if_neg c25] at H
              have c25b0:decide (x29_1<(wrap64 ((t106.length:Int) - 1)))=false:=decide_eq_false c25
              clear c25
              have H':=Aside0.mk H
              clear H
              have p109:0≤(x29_1:Int):=of_decide_eq_true ze
              have q109:x29_1<(t106.length:Int):=of_decide_eq_true ze
              obtain ⟨ad109,e109,hx109_0⟩:=Kd.at_int (Kd.R_reads' HO_27.out).2.2 x29_1 p109 q109
              cases e109
              replace p109:=eq_true p109
              replace q109:=eq_true q109
              have hcz27_0:wr.cell? ⟨gb101,0,none⟩=some (.string a1_0):=(blk_cell BK101.out 0).trans rfl
              have hcz27_1:wr.cell? ⟨gb101,1,none⟩=some (.slice A1_1 l1_1.length c1_1):=(blk_cell BK101.out 1).trans rfl
              have hcz27_2:wr.cell? ⟨gb101,2,none⟩=some (.slice A1_2 l1_2.length c1_2):=(blk_cell BK101.out 2).trans rfl
              have hfz27_0:=blk_frozen BK101.out 0
              have hfz27_1:=blk_frozen BK101.out 1
              have hfz27_2:=blk_frozen BK101.out 2
              have p110:0≤((ji17):Int):=of_decide_eq_true ze
              have q110:(ji17)<(l1_1.length:Int):=of_decide_eq_true ze
              obtain ⟨ad110,e110,hx110_0⟩:=Kd.at_int HR1_1.out (ji17) p110 q110
              cases e110
              replace hx110_0:=(HB.out.cell (World.block_lt_of_cell? w _ hx110_0)).trans hx110_0
              replace p110:=eq_true p110
              replace q110:=eq_true q110
              go_wp2
              repeat (go_quiet (fail);try go_wp2)
              go_roundg k1
              case measure=>have:=HK1.out;omega
              case rel=>exact ⟨(wrap64 (x29_1+1)),zg,H',⟨zdo⟩,⟨by (with_reducible repeat (first|apply Kd.R_alloc|apply Kd.R_drewN|apply Kd.R_drew));exact HO_11.out⟩,⟨by (with_reducible repeat (first|apply Kd.R_alloc|apply Kd.R_drewN|apply Kd.R_drew));exact HO_27.out⟩,⟨zc⟩,⟨zb⟩⟩
            ·rw [if_neg c24] at H
             have c24b0:decide ((rd t106 x29_1)<(wrap64 ((rd l1_1 (ji17))*a2)))=false:=decide_eq_false c24
             clear c24
             have H':=Aside0.mk H
             clear H
             have p109:0≤(x29_1:Int):=of_decide_eq_true ze
             have q109:x29_1<(t106.length:Int):=of_decide_eq_true ze
             obtain ⟨ad109,e109,hx109_0⟩:=Kd.at_int (Kd.R_reads' HO_27.out).2.2 x29_1 p109 q109
             cases e109
             replace p109:=eq_true p109
             replace q109:=eq_true q109
             have hcz28_0:wr.cell? ⟨gb101,0,none⟩=some (.string a1_0):=(blk_cell BK101.out 0).trans rfl
             have hcz28_1:wr.cell? ⟨gb101,1,none⟩=some (.slice A1_1 l1_1.length c1_1):=(blk_cell BK101.out 1).trans rfl
             have hcz28_2:wr.cell? ⟨gb101,2,none⟩=some (.slice A1_2 l1_2.length c1_2):=(blk_cell BK101.out 2).trans rfl
             have hfz28_0:=blk_frozen BK101.out 0
             have hfz28_1:=blk_frozen BK101.out 1
             have hfz28_2:=blk_frozen BK101.out 2
             have p110:0≤((ji17):Int):=of_decide_eq_true ze
             have q110:(ji17)<(l1_1.length:Int):=of_decide_eq_true ze
             obtain ⟨ad110,e110,hx110_0⟩:=Kd.at_int HR1_1.out (ji17) p110 q110
             cases e110
             replace hx110_0:=(HB.out.cell (World.block_lt_of_cell? w _ hx110_0)).trans hx110_0
             replace p110:=eq_true p110
             replace q110:=eq_true q110
             go_wp2
             repeat (go_quiet (fail);try go_wp2)
             go_roundg k1
             case measure=>have:=HK1.out;omega
             case rel=>exact ⟨(wrap64 (x29_1+1)),zg,H',⟨zdo⟩,⟨by (with_reducible repeat (first|apply Kd.R_alloc|apply Kd.R_drewN|apply Kd.R_drew));exact HO_11.out⟩,⟨by (with_reducible repeat (first|apply Kd.R_alloc|apply Kd.R_drewN|apply Kd.R_drew));exact HO_27.out⟩,⟨zc⟩,⟨zb⟩⟩
         ·rw [if_neg c19] at H
          exact absurd H zdd
        ·rw [if_neg c18] at H
         exact absurd H zdd
      ·rw [if_neg c15] at H
       exact absurd H zdd
     ·rw [if_neg c14] at H
      exact absurd H zdd
    ·rw [if_neg c13] at H
     have c13b0:decide (x29_1<(t106.length:Int))=false:=decide_eq_false c13
     clear c13
     simp only [Option.some.injEq,Prod.mk.injEq] at H
     obtain ⟨rfl,rfl,rfl⟩:=H
     go_wp2
     repeat (go_quiet (fail);try go_wp2)
     go_ret3
     exact ⟨zi,zb⟩
 ·rw [if_neg c5] at H
  have c5b0:(t105 == 0)=false:=beq_eq_false_iff_ne.mpr c5
  have c5b1:(t105 != 0)=true:=bne_iff_ne.mpr c5
  simp only [Option.some.injEq,Prod.mk.injEq] at H
  obtain ⟨rfl,rfl,rfl⟩:=H
  go_enter Tryz.func28,Tryz.ntmps28
  go_wp2_with (first|((with_reducible refine gate_dst (N:=4) rfl ?_);refine box_event ?hg (N:=4) ?hd (cs:=#[.string a1_0,.slice A1_1 l1_1.length c1_1,.slice A1_2 l1_2.length c1_2]) (t:=50) ?hr ?_;(case hd=>rfl);(case hg=>rfl);(case hr=>exact zy);intro gb101 hg w29 hbox hb;have n0_:=Aside0.mk (below_step za hb);have n1_:=Aside0.mk (hbox);have n2_:=Aside0.mk ((by rw [hg];exact (below_size za):w.heap.size≤gb101));have n3_:=Aside0.mk ((by rw [hg];exact (below_size za):w.heap.size≤gb101));clear HB;have HB:=n0_;have BK101:=n1_;have GW101:=n2_;have GE101:=n3_;clear n0_ n1_ n2_ n3_;clear hb hbox hg;have hcz30_0:w29.cell? ⟨gb101,0,none⟩=some (.string a1_0):=(blk_cell BK101.out 0).trans rfl;have hcz30_1:w29.cell? ⟨gb101,1,none⟩=some (.slice A1_1 l1_1.length c1_1):=(blk_cell BK101.out 1).trans rfl;have hcz30_2:w29.cell? ⟨gb101,2,none⟩=some (.slice A1_2 l1_2.length c1_2):=(blk_cell BK101.out 2).trans rfl;have hfz30_0:=blk_frozen BK101.out 0;have hfz30_1:=blk_frozen BK101.out 1;have hfz30_2:=blk_frozen BK101.out 2)|(go_at_call 68;(with_reducible refine (impl_readWords.calls k a0 a1_0 _ _ l1_1 _ _ l1_2 a2 t102 t105 _ ?side5 ?side1 ?side2 ?side3 ?side4 A4.out).mono ?_);(case side1=>exact zs);(case side2=>exact HC1_1.out);(case side3=>exact zt);(case side4=>exact HC1_2.out);(case side5=>exact Door2.at HD.out zb);rintro e w31 ⟨v103,rfl,ho0,hb⟩;have HO104:=Aside0.mk (Kd.R_lower ho0 (below_size zb));replace BK101:=Aside0.mk (blk_below (g:=gb101) (o:=.cells #[.string a1_0,.slice A1_1 l1_1.length c1_1,.slice A1_2 l1_2.length c1_2] 50 (0,0)) zc hb);replace HB:=Aside0.mk (below_step zb hb);(try clear hb);(try clear hb2);(try clear hk);(try clear hi);(try clear ho0)))
  repeat (go_quiet (first|((with_reducible refine gate_dst (N:=4) rfl ?_);refine box_event ?hg (N:=4) ?hd (cs:=#[.string a1_0,.slice A1_1 l1_1.length c1_1,.slice A1_2 l1_2.length c1_2]) (t:=50) ?hr ?_;(case hd=>rfl);(case hg=>rfl);(case hr=>exact zy);intro gb101 hg w29 hbox hb;have n0_:=Aside0.mk (below_step za hb);have n1_:=Aside0.mk (hbox);have n2_:=Aside0.mk ((by rw [hg];exact (below_size za):w.heap.size≤gb101));have n3_:=Aside0.mk ((by rw [hg];exact (below_size za):w.heap.size≤gb101));clear HB;have HB:=n0_;have BK101:=n1_;have GW101:=n2_;have GE101:=n3_;clear n0_ n1_ n2_ n3_;clear hb hbox hg;have hcz30_0:w29.cell? ⟨gb101,0,none⟩=some (.string a1_0):=(blk_cell BK101.out 0).trans rfl;have hcz30_1:w29.cell? ⟨gb101,1,none⟩=some (.slice A1_1 l1_1.length c1_1):=(blk_cell BK101.out 1).trans rfl;have hcz30_2:w29.cell? ⟨gb101,2,none⟩=some (.slice A1_2 l1_2.length c1_2):=(blk_cell BK101.out 2).trans rfl;have hfz30_0:=blk_frozen BK101.out 0;have hfz30_1:=blk_frozen BK101.out 1;have hfz30_2:=blk_frozen BK101.out 2)|(go_at_call 68;(with_reducible refine (impl_readWords.calls k a0 a1_0 _ _ l1_1 _ _ l1_2 a2 t102 t105 _ ?side5 ?side1 ?side2 ?side3 ?side4 A4.out).mono ?_);(case side1=>exact zs);(case side2=>exact HC1_1.out);(case side3=>exact zt);(case side4=>exact HC1_2.out);(case side5=>exact Door2.at HD.out zb);rintro e w31 ⟨v103,rfl,ho0,hb⟩;have HO104:=Aside0.mk (Kd.R_lower ho0 (below_size zb));replace BK101:=Aside0.mk (blk_below (g:=gb101) (o:=.cells #[.string a1_0,.slice A1_1 l1_1.length c1_1,.slice A1_2 l1_2.length c1_2] 50 (0,0)) zc hb);replace HB:=Aside0.mk (below_step zb hb);(try clear hb);(try clear hb2);(try clear hk);(try clear hi);(try clear ho0)));try go_wp2_with (first|((with_reducible refine gate_dst (N:=4) rfl ?_);refine box_event ?hg (N:=4) ?hd (cs:=#[.string a1_0,.slice A1_1 l1_1.length c1_1,.slice A1_2 l1_2.length c1_2]) (t:=50) ?hr ?_;(case hd=>rfl);(case hg=>rfl);(case hr=>exact zy);intro gb101 hg w29 hbox hb;have n0_:=Aside0.mk (below_step za hb);have n1_:=Aside0.mk (hbox);have n2_:=Aside0.mk ((by rw [hg];exact (below_size za):w.heap.size≤gb101));have n3_:=Aside0.mk ((by rw [hg];exact (below_size za):w.heap.size≤gb101));clear HB;have HB:=n0_;have BK101:=n1_;have GW101:=n2_;have GE101:=n3_;clear n0_ n1_ n2_ n3_;clear hb hbox hg;have hcz30_0:w29.cell? ⟨gb101,0,none⟩=some (.string a1_0):=(blk_cell BK101.out 0).trans rfl;have hcz30_1:w29.cell? ⟨gb101,1,none⟩=some (.slice A1_1 l1_1.length c1_1):=(blk_cell BK101.out 1).trans rfl;have hcz30_2:w29.cell? ⟨gb101,2,none⟩=some (.slice A1_2 l1_2.length c1_2):=(blk_cell BK101.out 2).trans rfl;have hfz30_0:=blk_frozen BK101.out 0;have hfz30_1:=blk_frozen BK101.out 1;have hfz30_2:=blk_frozen BK101.out 2)|(go_at_call 68;(with_reducible refine (impl_readWords.calls k a0 a1_0 _ _ l1_1 _ _ l1_2 a2 t102 t105 _ ?side5 ?side1 ?side2 ?side3 ?side4 A4.out).mono ?_);(case side1=>exact zs);(case side2=>exact HC1_1.out);(case side3=>exact zt);(case side4=>exact HC1_2.out);(case side5=>exact Door2.at HD.out zb);rintro e w31 ⟨v103,rfl,ho0,hb⟩;have HO104:=Aside0.mk (Kd.R_lower ho0 (below_size zb));replace BK101:=Aside0.mk (blk_below (g:=gb101) (o:=.cells #[.string a1_0,.slice A1_1 l1_1.length c1_1,.slice A1_2 l1_2.length c1_2] 50 (0,0)) zc hb);replace HB:=Aside0.mk (below_step zb hb);(try clear hb);(try clear hb2);(try clear hk);(try clear hi);(try clear ho0))))
  go_ret3
  exact ⟨zi,zb⟩

mutual
def impl_split.l0:Nat→Int→List (S136)→Int→Int→List (S67)→Int→Int→ByteArray→List Int→List Int→Option ((List (S136)))
 | 0,_,_,_,_,_,_,_,_,_,_=>none
 | k+1,x2,x7,x8,x9,x16,x17,x18,x102000,x102001,x102002=>if x18<x17 then (if 0≤x18 then (if x18<(x16.length:Int) then (impl_split.l1 k x2 x7 x8 x9 x18 false ((rd_T67 x16 x18).f1) x16 x17 x18 x102000 x102001 x102002) else (none)) else (none)) else (some x7)
def impl_split.l1:Nat→Int→List (S136)→Int→Int→Int→Bool→Int→List (S67)→Int→Int→ByteArray→List Int→List Int→Option ((List (S136)))
 | 0,_,_,_,_,_,_,_,_,_,_,_,_,_=>none
 | k+1,x2,x7,x8,x9,x10,x12,x13,x16,x17,x18,x102000,x102001,x102002=>if x13 > 0 then (if x9=0 then (if (x102001.length:Int)=0 then (none) else (if 0≤(Int.tmod (wrap64 (x8+1)) (x102001.length:Int)) then (if (Int.tmod (wrap64 (x8+1)) (x102001.length:Int))<(x102001.length:Int) then (if x7.length<4398046511104 then (impl_split.l1 k x2 (x7++[(⟨x10,mn x13 (wrap64 ((rd x102001 (Int.tmod (wrap64 (x8+1)) (x102001.length:Int)))*x2)),Int.tmod (wrap64 (x8+1)) (x102001.length:Int),x12⟩:S136)]) (Int.tmod (wrap64 (x8+1)) (x102001.length:Int)) (wrap64 ((wrap64 ((rd x102001 (Int.tmod (wrap64 (x8+1)) (x102001.length:Int)))*x2)) - (mn x13 (wrap64 ((rd x102001 (Int.tmod (wrap64 (x8+1)) (x102001.length:Int)))*x2))))) x10 true (wrap64 (x13 - (mn x13 (wrap64 ((rd x102001 (Int.tmod (wrap64 (x8+1)) (x102001.length:Int)))*x2))))) x16 x17 x18 x102000 x102001 x102002) else (none)) else (none)) else (none))) else (if x7.length<4398046511104 then (impl_split.l1 k x2 (x7++[(⟨x10,mn x13 x9,(-1),x12⟩:S136)]) x8 (wrap64 (x9 - (mn x13 x9))) x10 true (wrap64 (x13 - (mn x13 x9))) x16 x17 x18 x102000 x102001 x102002) else (none))) else (impl_split.l0 k x2 x7 x8 x9 x16 x17 (wrap64 (x18+1)) x102000 x102001 x102002)
end
def impl_split.f (k:Nat) (l0:List (S67)) (a1_0:ByteArray) (l1_1:List Int) (l1_2:List Int) (a2:Int):Option ((List (S136))):=impl_split.l0 k a2 ([]:List (S136)) (-1) 0 l0 (l0.length:Int) 0 a1_0 l1_1 l1_2
set_option maxHeartbeats 8000000 in
set_option maxRecDepth 100000 in
theorem impl_split.calls (k:Nat) (A0:Option Addr) (c0:Nat) (l0:List (S67)) (a1_0:ByteArray) (A1_1:Option Addr) (c1_1:Nat) (l1_1:List Int) (A1_2:Option Addr) (c1_2:Nat) (l1_2:List Int) (a2:Int) (r:List (S136)) (w:World) (hr0:Kd.C k67 w A0 l0.length l0) (hc0:l0.length≤c0) (hr1_1:Kd.C (Kd.int .i64) w A1_1 l1_1.length l1_1) (hc1_1:l1_1.length≤c1_1) (hr1_2:Kd.C (Kd.int .i64) w A1_2 l1_2.length l1_2) (hc1_2:l1_2.length≤c1_2) (h:impl_split.f k l0 a1_0 l1_1 l1_2 a2=some r) :
 Calls Tryz.prog 107 #[.slice A0 l0.length c0,.agg #[.string a1_0,.slice A1_1 l1_1.length c1_1,.slice A1_2 l1_2.length c1_2],.int .i64 a2] w fun e w'=>∃v0_:Value,e = .returned (v0_)∧Kd.R k136 136 w' w.heap.size (fun _=>True) v0_ r∧Below w.heap.size w w':=by
 have hu50:=Tryz.underlying50
 have hu67:=Tryz.underlying67
 have hu136:=Tryz.underlying136
 have HR0:=Aside0.mk hr0
 have HC0:=Aside0.mk hc0
 clear hr0 hc0
 have HR1_1:=Aside0.mk hr1_1
 have HC1_1:=Aside0.mk hc1_1
 clear hr1_1 hc1_1
 have HR1_2:=Aside0.mk hr1_2
 have HC1_2:=Aside0.mk hc1_2
 clear hr1_2 hc1_2
 have HB:=Aside0.mk (Below.refl w.heap.size w)
 have H:(impl_split.l0 k a2 ([]:List (S136)) (-1) 0 l0 (l0.length:Int) 0 a1_0 l1_1 l1_2)=some r:=h
 clear h
 have H':=Aside0.mk H
 clear H
 go_enter Tryz.func107,Tryz.ntmps107
 go_wp2_with (first|((with_reducible refine gate_dst (N:=4) rfl ?_);refine box_event ?hg (N:=4) ?hd (cs:=#[.string a1_0,.slice A1_1 l1_1.length c1_1,.slice A1_2 l1_2.length c1_2]) (t:=50) ?hr ?_;(case hd=>rfl);(case hg=>rfl);(case hr=>exact zy);intro gb101 hg w4 hbox hb;have n0_:=Aside0.mk (below_step za hb);have n1_:=Aside0.mk (hbox);have n2_:=Aside0.mk ((by rw [hg];exact (below_size za):w.heap.size≤gb101));have n3_:=Aside0.mk ((by rw [hg];exact (below_size za):w.heap.size≤gb101));clear HB;have HB:=n0_;have BK101:=n1_;have GW101:=n2_;have GE101:=n3_;clear n0_ n1_ n2_ n3_;clear hb hbox hg))
 go_loopg [7,8,9,18] k (fun kq v7 v8 v9 v18 w'=>∃(x7_1:List (S136)) (x8_1:Int) (x9_1:Int) (x18_1:Int),v8 = .int .i64 x8_1∧v9 = .int .i64 x9_1∧v18 = .int .i64 x18_1∧Aside0 (impl_split.l0 kq a2 x7_1 x8_1 x9_1 l0 (l0.length:Int) x18_1 a1_0 l1_1 l1_2=some r)∧Aside0 (kq≤k)∧Aside0 (Kd.R k136 136 w' w.heap.size (fun _=>True) v7 x7_1)∧Aside0 (w'.heap[gb101]?=some (.cells #[.string a1_0,(.slice A1_1 l1_1.length c1_1),(.slice A1_2 l1_2.length c1_2)] 50 (0,0)))∧Aside0 (Below w.heap.size w w'))
 case atStart=>exact ⟨(([]:List (S136))),((-1)),(0),(0),zg,zg,zg,H',⟨Nat.le_refl _⟩,⟨zm⟩,⟨zc⟩,⟨zb⟩⟩
 case round=>
  clear H'
  try clear c1
  try clear p2
  obtain ⟨x7_1,x8_1,x9_1,x18_1,rfl,rfl,rfl,HA,HK1,HO_7,BK101,HB⟩:=hrel
  cases gk with
  | zero=>exact absurd HA.out (by simp [impl_split.l0])
  | succ k1=>
   have H:=HA.out
   clear HA
   simp only [impl_split.l0] at H
   by_cases c5:x18_1<(l0.length:Int)
   ·rw [if_pos c5] at H
    have c5b0:decide (x18_1<(l0.length:Int))=true:=decide_eq_true c5
    clear c5
    by_cases c6:0≤x18_1
    ·rw [if_pos c6] at H
     have c6b0:decide (0≤x18_1)=true:=decide_eq_true c6
     clear c6
     by_cases c7:x18_1<(l0.length:Int)
     ·rw [if_pos c7] at H
      have c7b0:decide (x18_1<(l0.length:Int))=true:=decide_eq_true c7
      clear c7
      have H':=Aside0.mk H
      clear H
      have p102:0≤(x18_1:Int):=of_decide_eq_true ze
      have q102:x18_1<(l0.length:Int):=of_decide_eq_true ze
      obtain ⟨ad102,e102,hx102_0,hx102_1⟩:=at_T67 HR0.out x18_1 p102 q102
      cases e102
      replace hx102_0:=(HB.out.cell (World.block_lt_of_cell? w _ hx102_0)).trans hx102_0
      replace hx102_1:=(HB.out.cell (World.block_lt_of_cell? w _ hx102_1)).trans hx102_1
      replace p102:=eq_true p102
      replace q102:=eq_true q102
      go_wp2_with (first|((with_reducible refine gate_dst (N:=11) rfl ?_);refine box_event ?hg (N:=11) ?hd (cs:=#[.int .i64 0,.int .i64 0]) (t:=67) ?hr ?_;(case hd=>rfl);(case hg=>rfl);(case hr=>exact zy);intro gb103 hg w8 hbox hb;have n0_:=Aside0.mk (Kd.R_below zdm hb);have n1_:=Aside0.mk (blk_below (g:=gb101) (o:=.cells #[.string a1_0,.slice A1_1 l1_1.length c1_1,.slice A1_2 l1_2.length c1_2] 50 (0,0)) zc hb);have n2_:=Aside0.mk (below_step zb hb);have n3_:=Aside0.mk (hbox);have n4_:=Aside0.mk ((by rw [hg];exact (below_size zb):w.heap.size≤gb103));have n5_:=Aside0.mk ((by rw [hg];exact (below_size zb):w.heap.size≤gb103));have n6_:=Aside0.mk ((by rw [hg];exact Nat.ne_of_lt (blk_lt (g:=gb101) (o:=.cells #[.string a1_0,.slice A1_1 l1_1.length c1_1,.slice A1_2 l1_2.length c1_2] 50 (0,0)) zc):gb101≠gb103));have n7_:=Aside0.mk ((by rw [hg];exact Nat.ne_of_gt (blk_lt (g:=gb101) (o:=.cells #[.string a1_0,.slice A1_1 l1_1.length c1_1,.slice A1_2 l1_2.length c1_2] 50 (0,0)) zc):gb103≠gb101));clear HO_7;clear BK101;clear HB;have HO_7:=n0_;have BK101:=n1_;have HB:=n2_;have BK103:=n3_;have GW103:=n4_;have GE103:=n5_;have NB101_103:=n6_;have NB103_101:=n7_;clear n0_ n1_ n2_ n3_ n4_ n5_ n6_ n7_;clear hb hbox hg;have hnb9:=NB103_101.out;have hnc9:=NB101_103.out;have hcz10_0:w8.cell? ⟨gb103,0,none⟩=some (.int .i64 0):=(blk_cell BK103.out 0).trans rfl;have hcz10_1:w8.cell? ⟨gb103,1,none⟩=some (.int .i64 0):=(blk_cell BK103.out 1).trans rfl;have hfz10_0:=blk_frozen BK103.out 0;have hfz10_1:=blk_frozen BK103.out 1))
      go_loopg [7,8,9,12,13] k1 (fun kq v7 v8 v9 v12 v13 w'=>∃(x7_2:List (S136)) (x8_2:Int) (x9_2:Int) (x12_2:Bool) (x13_2:Int),v8 = .int .i64 x8_2∧v9 = .int .i64 x9_2∧v12 = .bool x12_2∧v13 = .int .i64 x13_2∧Aside0 (impl_split.l1 kq a2 x7_2 x8_2 x9_2 x18_1 x12_2 x13_2 l0 (l0.length:Int) x18_1 a1_0 l1_1 l1_2=some r)∧Aside0 (kq≤k1)∧Aside0 (Kd.R k136 136 w' w.heap.size (fun _=>True) v7 x7_2)∧Aside0 (w'.heap[gb101]?=some (.cells #[.string a1_0,(.slice A1_1 l1_1.length c1_1),(.slice A1_2 l1_2.length c1_2)] 50 (0,0)))∧Aside0 (w'.heap[gb103]?=some (.cells #[.int .i64 ((rd_T67 l0 x18_1).f0),.int .i64 ((rd_T67 l0 x18_1).f1)] 67 (0,0)))∧Aside0 (Below w.heap.size w w'))
      case atStart=>exact ⟨(x7_1),(x8_1),(x9_1),(false),((rd_T67 l0 x18_1).f1),zg,zg,zg,zg,H',⟨Nat.le_refl _⟩,⟨by (with_reducible repeat (first|apply Kd.R_alloc|apply Kd.R_drewN|apply Kd.R_drew));exact Kd.R_mono (Kd.R_far (p:=⟨gb103,1,none⟩) (Kd.R_far (p:=⟨gb103,0,none⟩) (Kd.R_types HO_7.out BK103.out zbl) (fun _ hk=>hk.2) (.int .i64 ((rd_T67 l0 x18_1).f0))) (fun _ hk=>hk.2) (.int .i64 ((rd_T67 l0 x18_1).f1))) (fun _ hk=>trivial)⟩,⟨by (with_reducible repeat (first|refine blk_drewN ?_ _|refine blk_drew ?_|refine blk_alloc ?_ _));refine blk_far ?_ NB101_103.out _;(with_reducible repeat (first|refine blk_drewN ?_ _|refine blk_drew ?_|refine blk_alloc ?_ _));refine blk_far ?_ NB101_103.out _;(with_reducible repeat (first|refine blk_drewN ?_ _|refine blk_drew ?_|refine blk_alloc ?_ _));exact BK101.out⟩,⟨by (with_reducible repeat (first|refine blk_drewN ?_ _|refine blk_drew ?_|refine blk_alloc ?_ _));refine blk_put (cs:=#[.int .i64 ((rd_T67 l0 x18_1).f0),.int .i64 0]) ?_ 1 _ rfl;(with_reducible repeat (first|refine blk_drewN ?_ _|refine blk_drew ?_|refine blk_alloc ?_ _));refine blk_put (cs:=#[.int .i64 0,.int .i64 0]) ?_ 0 _ rfl;(with_reducible repeat (first|refine blk_drewN ?_ _|refine blk_drew ?_|refine blk_alloc ?_ _));exact BK103.out⟩,⟨zbh⟩⟩
      case round=>
       clear H'
       try clear c1
       try clear p1
       try clear q1
       try clear hx1
       try clear p2
       try clear c5
       try clear c5b0
       try clear c6
       try clear c6b0
       try clear c7
       try clear c7b0
       try clear c9
       try clear c10
       try clear p10
       try clear q10
       try clear hx10
       try clear hcz10_0
       try clear hcz10_1
       try clear hfz10_0
       try clear hfz10_1
       try clear hx102_0
       try clear hx102_1
       try clear p102
       try clear p2
       try clear q102
       obtain ⟨x7_2,x8_2,x9_2,x12_2,x13_2,rfl,rfl,rfl,rfl,HA,HK2,HO_7,BK101,BK103,HB⟩:=hrel
       cases gk with
       | zero=>exact absurd HA.out (by simp [impl_split.l1])
       | succ k2=>
        have H:=HA.out
        clear HA
        simp only [impl_split.l1] at H
        by_cases c11:x13_2 > 0
        ·rw [if_pos c11] at H
         have c11b0:decide (0<x13_2)=true:=decide_eq_true c11
         clear c11
         by_cases c12:x9_2=0
         ·rw [if_pos c12] at H
          have c12b0:(x9_2 == 0)=true:=beq_iff_eq.mpr c12
          have c12b1:(x9_2 != 0)=false:=bne_eq_false_iff_eq.mpr c12
          clear c12
          by_cases c13:(l1_1.length:Int)=0
          ·rw [if_pos c13] at H
           exact absurd H zdd
          ·rw [if_neg c13] at H
           have c13b0:((l1_1.length:Int) == 0)=false:=beq_eq_false_iff_ne.mpr c13
           have c13b1:((l1_1.length:Int) != 0)=true:=bne_iff_ne.mpr c13
           have c13b2:¬ (l1_1=[]):=fun h_=>c13 (by rw [h_];rfl)
           obtain ⟨ji14,hji14⟩:∃j_:Int,(Int.tmod (wrap64 (x8_2+1)) (l1_1.length:Int))=j_:=⟨_,rfl⟩
           replace H:(if 0≤(ji14) then (if (ji14)<(l1_1.length:Int) then (if x7_2.length<4398046511104 then (impl_split.l1 k2 a2 (x7_2++[(⟨x18_1,mn x13_2 (wrap64 ((rd l1_1 (ji14))*a2)),ji14,x12_2⟩:S136)]) ji14 (wrap64 ((wrap64 ((rd l1_1 (ji14))*a2)) - (mn x13_2 (wrap64 ((rd l1_1 (ji14))*a2))))) x18_1 true (wrap64 (x13_2 - (mn x13_2 (wrap64 ((rd l1_1 (ji14))*a2))))) l0 (l0.length:Int) x18_1 a1_0 l1_1 l1_2) else (none)) else (none)) else (none))=some r:=by first|(rw [hji14] at H;exact H)|(simp only [hji14] at H ⊢;exact H)
           by_cases c15:0≤(ji14)
           ·rw [if_pos c15] at H
            have c15b0:decide (0≤(ji14))=true:=decide_eq_true c15
            clear c15
            by_cases c16:(ji14)<(l1_1.length:Int)
            ·rw [if_pos c16] at H
             have c16b0:decide ((ji14)<(l1_1.length:Int))=true:=decide_eq_true c16
             clear c16
             obtain ⟨ji17,hji17⟩:∃j_:Int,(mn x13_2 (wrap64 ((rd l1_1 (ji14))*a2)))=j_:=⟨_,rfl⟩
             replace H:(if x7_2.length<4398046511104 then (impl_split.l1 k2 a2 (x7_2++[(⟨x18_1,ji17,ji14,x12_2⟩:S136)]) ji14 (wrap64 ((wrap64 ((rd l1_1 (ji14))*a2)) - (ji17))) x18_1 true (wrap64 (x13_2 - (ji17))) l0 (l0.length:Int) x18_1 a1_0 l1_1 l1_2) else (none))=some r:=by first|(rw [hji17] at H;exact H)|(simp only [hji17] at H ⊢;exact H)
             have hji17_:(if (wrap64 ((rd l1_1 (ji14))*a2))<x13_2 then (wrap64 ((rd l1_1 (ji14))*a2)) else x13_2)=ji17:=hji17
             by_cases c18:x7_2.length<4398046511104
             ·rw [if_pos c18] at H
              have LMc18:=Aside0.mk c18
              clear c18
              obtain ⟨y105,hy105⟩:∃y_:List (S136),y_=(x7_2++[(⟨x18_1,ji17,ji14,x12_2⟩:S136)]):=⟨_,rfl⟩
              replace H:(impl_split.l1 k2 a2 y105 ji14 (wrap64 ((wrap64 ((rd l1_1 (ji14))*a2)) - (ji17))) x18_1 true (wrap64 (x13_2 - (ji17))) l0 (l0.length:Int) x18_1 a1_0 l1_1 l1_2)=some r:=by first|(rw [hy105];with_reducible exact H)|(have H2_:=(Option.bind_some _ _).symm.trans H;rw [hy105];with_reducible exact H2_)|(have H2_:=(Option.bind_some _ _).symm.trans H;with_reducible exact H2_)|with_reducible exact H|(rw [hy105];exact H)|exact H
              have Ny105:=Aside0.mk hy105
              clear hy105
              have H':=Aside0.mk H
              clear H
              have hnb19:=NB101_103.out
              have hnc19:=NB103_101.out
              have hcz20_0:wr.cell? ⟨gb101,0,none⟩=some (.string a1_0):=(blk_cell BK101.out 0).trans rfl
              have hcz20_1:wr.cell? ⟨gb101,1,none⟩=some (.slice A1_1 l1_1.length c1_1):=(blk_cell BK101.out 1).trans rfl
              have hcz20_2:wr.cell? ⟨gb101,2,none⟩=some (.slice A1_2 l1_2.length c1_2):=(blk_cell BK101.out 2).trans rfl
              have hfz20_0:=blk_frozen BK101.out 0
              have hfz20_1:=blk_frozen BK101.out 1
              have hfz20_2:=blk_frozen BK101.out 2
              have p104:0≤((ji14):Int):=of_decide_eq_true ze
              have q104:(ji14)<(l1_1.length:Int):=of_decide_eq_true ze
              obtain ⟨ad104,e104,hx104_0⟩:=Kd.at_int HR1_1.out (ji14) p104 q104
              cases e104
              replace hx104_0:=(HB.out.cell (World.block_lt_of_cell? w _ hx104_0)).trans hx104_0
              replace p104:=eq_true p104
              replace q104:=eq_true q104
              go_wp2_with (first|((with_reducible refine gate_builtin (b:=.append) (xs:=#[.tmp 46,.tmp 52]) rfl ?_);at_builtin;refine Kd.R_append k136 (w0:=w) w.heap.size rfl (.tmp 46) (.tmp 52) 133 136 (.agg #[(.int .i64 0),(.int .i64 0),(.int .i64 0),(.bool false)]) 32 rfl Tryz.underlying133 info136 rfl zbl zdb u7 x7_2 (⟨x18_1,ji17,ji14,x12_2⟩:S136) [.int .i64 x18_1,.int .i64 ji17,.int .i64 ji14,.bool x12_2] (fun _=>True) (fun _=>False) rfl rfl ?aP (fun _ hk=>hk.elim) ?aF ?aO ?aB ?aS ?aL ?_;(case aP=>exact k136_mkM _ _ _ (⟨x18_1,ji17,ji14,x12_2⟩:S136));(case aB=>exact zbh);(case aF=>exact zdj);(case aO=>exact zdm);(case aS=>exact (below_size zbh));(case aL=>have:=LMc18.out;omega);intro v106 w21 ho hb hg hat;rw [←Ny105.out] at ho;replace BK101:=Aside0.mk (blk_grown (g:=gb101) (o:=.cells #[.string a1_0,.slice (some ad104) l1_1.length c1_1,.slice A1_2 l1_2.length c1_2] 50 (0,0)) zc hg (Kd.R_ne HO_7.out BK101.out zbl));replace BK103:=Aside0.mk (blk_grown (g:=gb103) (o:=.cells #[.int .i64 ((rd_T67 l0 x18_1).f0),.int .i64 ((rd_T67 l0 x18_1).f1)] 67 (0,0)) zdr hg (Kd.R_ne HO_7.out BK103.out zbl));replace HB:=Aside0.mk (hb);have HO107:=Aside0.mk (ho);clear HO_7;clear ho hb hg hat))
              go_roundg k2
              case measure=>have:=HK1.out;have:=HK2.out;omega
              case rel=>exact ⟨(y105),(ji14),(wrap64 ((wrap64 ((rd l1_1 (ji14))*a2)) - (ji17))),(true),(wrap64 (x13_2 - (ji17))),(by first|rfl|(simp;done)|(simp only [←hji14]<;>(first|rfl|simp))|(simp [*];done)),(by first|rfl|(simp;done)|(simp only [←hji14,←hji17]<;>(first|rfl|simp))|(simp [*];done)),zg,(by first|rfl|(simp;done)|(simp only [←hji17]<;>(first|rfl|simp))|(simp [*];done)),H',⟨by have:=HK1.out;have:=HK2.out;omega⟩,⟨by (with_reducible repeat (first|apply Kd.R_alloc|apply Kd.R_drewN|apply Kd.R_drew));exact HO107.out⟩,⟨zc⟩,⟨zdr⟩,⟨zbh⟩⟩
             ·rw [if_neg c18] at H
              exact absurd H zdd
            ·rw [if_neg c16] at H
             exact absurd H zdd
           ·rw [if_neg c15] at H
            exact absurd H zdd
         ·rw [if_neg c12] at H
          have c12b0:(x9_2 == 0)=false:=beq_eq_false_iff_ne.mpr c12
          have c12b1:(x9_2 != 0)=true:=bne_iff_ne.mpr c12
          obtain ⟨ji22,hji22⟩:∃j_:Int,(mn x13_2 x9_2)=j_:=⟨_,rfl⟩
          replace H:(if x7_2.length<4398046511104 then (impl_split.l1 k2 a2 (x7_2++[(⟨x18_1,ji22,(-1),x12_2⟩:S136)]) x8_2 (wrap64 (x9_2 - (ji22))) x18_1 true (wrap64 (x13_2 - (ji22))) l0 (l0.length:Int) x18_1 a1_0 l1_1 l1_2) else (none))=some r:=by first|(rw [hji22] at H;exact H)|(simp only [hji22] at H ⊢;exact H)
          have hji22_:(if x9_2<x13_2 then x9_2 else x13_2)=ji22:=hji22
          by_cases c23:x7_2.length<4398046511104
          ·rw [if_pos c23] at H
           have LMc23:=Aside0.mk c23
           clear c23
           obtain ⟨y108,hy108⟩:∃y_:List (S136),y_=(x7_2++[(⟨x18_1,ji22,(-1),x12_2⟩:S136)]):=⟨_,rfl⟩
           replace H:(impl_split.l1 k2 a2 y108 x8_2 (wrap64 (x9_2 - (ji22))) x18_1 true (wrap64 (x13_2 - (ji22))) l0 (l0.length:Int) x18_1 a1_0 l1_1 l1_2)=some r:=by first|(rw [hy108];with_reducible exact H)|(have H2_:=(Option.bind_some _ _).symm.trans H;rw [hy108];with_reducible exact H2_)|(have H2_:=(Option.bind_some _ _).symm.trans H;with_reducible exact H2_)|with_reducible exact H|(rw [hy108];exact H)|exact H
           have Ny108:=Aside0.mk hy108
           clear hy108
           have H':=Aside0.mk H
           clear H
           go_wp2_with (first|((with_reducible refine gate_builtin (b:=.append) (xs:=#[.tmp 46,.tmp 52]) rfl ?_);at_builtin;refine Kd.R_append k136 (w0:=w) w.heap.size rfl (.tmp 46) (.tmp 52) 133 136 (.agg #[(.int .i64 0),(.int .i64 0),(.int .i64 0),(.bool false)]) 32 rfl Tryz.underlying133 info136 rfl zbl zdb u7 x7_2 (⟨x18_1,ji22,(-1),x12_2⟩:S136) [.int .i64 x18_1,.int .i64 ji22,.int .i64 (-1),.bool x12_2] (fun _=>True) (fun _=>False) rfl rfl ?aP (fun _ hk=>hk.elim) ?aF ?aO ?aB ?aS ?aL ?_;(case aP=>exact k136_mkM _ _ _ (⟨x18_1,ji22,(-1),x12_2⟩:S136));(case aB=>exact zbh);(case aF=>exact zdj);(case aO=>exact zdm);(case aS=>exact (below_size zbh));(case aL=>have:=LMc23.out;omega);intro v109 w24 ho hb hg hat;rw [←Ny108.out] at ho;replace BK101:=Aside0.mk (blk_grown (g:=gb101) (o:=.cells #[.string a1_0,.slice A1_1 l1_1.length c1_1,.slice A1_2 l1_2.length c1_2] 50 (0,0)) zc hg (Kd.R_ne HO_7.out BK101.out zbl));replace BK103:=Aside0.mk (blk_grown (g:=gb103) (o:=.cells #[.int .i64 ((rd_T67 l0 x18_1).f0),.int .i64 ((rd_T67 l0 x18_1).f1)] 67 (0,0)) zdr hg (Kd.R_ne HO_7.out BK103.out zbl));replace HB:=Aside0.mk (hb);have HO110:=Aside0.mk (ho);clear HO_7;clear ho hb hg hat))
           go_roundg k2
           case measure=>have:=HK1.out;have:=HK2.out;omega
           case rel=>exact ⟨(y108),(x8_2),(wrap64 (x9_2 - (ji22))),(true),(wrap64 (x13_2 - (ji22))),zg,(by first|rfl|(simp;done)|(simp only [←hji22]<;>(first|rfl|simp))|(simp [*];done)),zg,(by first|rfl|(simp;done)|(simp only [←hji22]<;>(first|rfl|simp))|(simp [*];done)),H',⟨by have:=HK1.out;have:=HK2.out;omega⟩,⟨by (with_reducible repeat (first|apply Kd.R_alloc|apply Kd.R_drewN|apply Kd.R_drew));exact HO110.out⟩,⟨zc⟩,⟨zdr⟩,⟨zbh⟩⟩
          ·rw [if_neg c23] at H
           exact absurd H zdd
        ·rw [if_neg c11] at H
         have c11b0:decide (0<x13_2)=false:=decide_eq_false c11
         clear c11
         have H':=Aside0.mk H
         clear H
         go_wp2
         go_roundg k2
         case measure=>have:=HK1.out;have:=HK2.out;omega
         case rel=>exact ⟨(x7_2),(x8_2),(x9_2),(wrap64 (x18_1+1)),zg,zg,zg,H',⟨by have:=HK1.out;have:=HK2.out;omega⟩,⟨zdm⟩,⟨zc⟩,⟨zbh⟩⟩
     ·rw [if_neg c7] at H
      exact absurd H zdd
    ·rw [if_neg c6] at H
     exact absurd H zdd
   ·rw [if_neg c5] at H
    have c5b0:decide (x18_1<(l0.length:Int))=false:=decide_eq_false c5
    clear c5
    obtain rfl:=Option.some.inj H
    go_wp2
    go_ret
    exact ⟨_,zi,zdm,zb⟩

def impl_noteText.f (a0:Int) (a1:Int):Option (ByteArray):=if a1=1 then ((impl_pitchText.f a0).bind fun t101=>(some t101)) else ((impl_pitchText.f a0).bind fun t102=>((impl_Decimal.f a1).bind fun t103=>(if t102.size+t103.size≤9223372036854775807 then (some (t102++t103)) else (none))))
set_option maxHeartbeats 8000000 in
set_option maxRecDepth 100000 in
theorem impl_noteText.calls (a0:Int) (a1:Int) (r:ByteArray) (w:World) (hD:Door1 w) (h:impl_noteText.f a0 a1=some r) :
 Calls Tryz.prog 108 #[.int .i64 a0,.int .i64 a1] w fun e w'=>e = .returned (.string r)∧Below w.heap.size w w':=by
 have HD:=Aside0.mk hD
 clear hD
 have HB:=Aside0.mk (Below.refl w.heap.size w)
 have H:(if a1=1 then ((impl_pitchText.f a0).bind fun t101=>(some t101)) else ((impl_pitchText.f a0).bind fun t102=>((impl_Decimal.f a1).bind fun t103=>(if t102.size+t103.size≤9223372036854775807 then (some (t102++t103)) else (none)))))=some r:=h
 clear h
 by_cases c3:a1=1
 ·rw [if_pos c3] at H
  have c3b0:(a1 == 1)=true:=beq_iff_eq.mpr c3
  have c3b1:(a1 != 1)=false:=bne_eq_false_iff_eq.mpr c3
  clear c3
  replace H:=Option.bind_eq_some_iff.mp H
  obtain ⟨t101,A40,H⟩:=H
  replace H:(some t101)=some r:=H
  have A4:=Aside0.mk A40
  clear A40
  obtain rfl:=Option.some.inj H
  go_enter Tryz.func108,Tryz.ntmps108
  go_wp2_with (first|((with_reducible refine gate_callee (f:=125) rfl ?_);refine goesL_ (some 8) rfl rfl Tryz.func125 zau rfl #[.int .i64 a0] rfl zd ?_;(with_reducible refine (impl_pitchText.calls a0 t101 _ A4.out).mono ?_);rintro e w' ⟨rfl,⟨nd,rfl⟩⟩;refine ⟨_,rfl,?_⟩))
  go_ret
  exact ⟨zi,za⟩
 ·rw [if_neg c3] at H
  have c3b0:(a1 == 1)=false:=beq_eq_false_iff_ne.mpr c3
  have c3b1:(a1 != 1)=true:=bne_iff_ne.mpr c3
  replace H:=Option.bind_eq_some_iff.mp H
  obtain ⟨t102,A50,H⟩:=H
  replace H:((impl_Decimal.f a1).bind fun t103=>(if t102.size+t103.size≤9223372036854775807 then (some (t102++t103)) else (none)))=some r:=H
  have A5:=Aside0.mk A50
  clear A50
  replace H:=Option.bind_eq_some_iff.mp H
  obtain ⟨t103,A60,H⟩:=H
  replace H:(if t102.size+t103.size≤9223372036854775807 then (some (t102++t103)) else (none))=some r:=H
  have A6:=Aside0.mk A60
  clear A60
  by_cases c7:t102.size+t103.size≤9223372036854775807
  ·rw [if_pos c7] at H
   have c7b0:=eq_true c7
   have c7b1:decide (t102.size+t103.size≤9223372036854775807)=true:=decide_eq_true c7
   try have c7b2:(9223372036854775807<t102.size+t103.size)=False:=eq_false (Nat.not_lt.2 c7)
   obtain rfl:=Option.some.inj H
   go_enter Tryz.func108,Tryz.ntmps108
   go_wp2_with (first|((with_reducible refine gate_callee (f:=125) rfl ?_);refine goesL_ (some 10) rfl rfl Tryz.func125 zau rfl #[.int .i64 a0] rfl zd ?_;(with_reducible refine (impl_pitchText.calls a0 t102 _ A5.out).mono ?_);rintro e w' ⟨rfl,⟨nd,rfl⟩⟩;refine ⟨_,rfl,?_⟩)|((with_reducible refine gate_callee (f:=93) rfl ?_);refine goesL_ (some 12) rfl rfl Tryz.func93 zau rfl #[.int .i64 a1] rfl zd ?_;(with_reducible refine (impl_Decimal.calls a1 t103 _ ?side1 A6.out).mono ?_);(case side1=>exact Door1.at HD.out za);rintro e w8 ⟨rfl,hb⟩;refine ⟨_,rfl,?_⟩;replace HB:=Aside0.mk (below_step za hb);(try clear hb);(try clear hb2);(try clear hk);(try clear hi)))
   go_ret
   exact ⟨zi,za⟩
  ·rw [if_neg c7] at H
   exact absurd H zdd

mutual
def impl_notate.l0:Nat→List (S67)→List (S136)→List ByteArray→List (S136)→Int→Int→Option (ByteArray × Bool)
 | 0,_,_,_,_,_,_=>none
 | k+1,x0,x8,x9,x20,x21,x22=>if x22<x21 then (if 0≤x22 then (if x22<(x20.length:Int) then (if x22=0 then (impl_notate.j1 k x0 x8 x9 x20 x21 x22 true ((rd_T136 x20 x22).f0) ((rd_T136 x20 x22).f1) ((rd_T136 x20 x22).f2) ((rd_T136 x20 x22).f3)) else (impl_notate.j1 k x0 x8 x9 x20 x21 x22 (decide (((rd_T136 x20 x22).f2)<0)) ((rd_T136 x20 x22).f0) ((rd_T136 x20 x22).f1) ((rd_T136 x20 x22).f2) ((rd_T136 x20 x22).f3))) else (none)) else (none)) else ((strings_Join.f x9 (⟨#[32]⟩:ByteArray)).bind fun t105=>(some (t105,decide ((x8.length:Int)≤128))))
def impl_notate.j1:Nat→List (S67)→List (S136)→List ByteArray→List (S136)→Int→Int→Bool→Int→Int→Int→Bool→Option (ByteArray × Bool)
 | 0,_,_,_,_,_,_,_,_,_,_,_=>none
 | k+1,x0,x8,x9,x20,x21,x22,x30,x108000,x108001,x108002,x108003=>if x30=true then (if 0≤x108000 then (if x108000<(x0.length:Int) then ((impl_noteText.f ((rd_T67 x0 x108000).f0) x108001).bind fun t109=>(if x108003=true then (if 1+t109.size≤9223372036854775807 then (if x9.length<8796093022208 then (impl_notate.l0 k x0 x8 (x9++[(⟨#[126]⟩:ByteArray)++t109]) x20 x21 (wrap64 (x22+1))) else (none)) else (none)) else (if x9.length<8796093022208 then (impl_notate.l0 k x0 x8 (x9++[t109]) x20 x21 (wrap64 (x22+1))) else (none)))) else (none)) else (none)) else (if x108002=0 then (if x9.length<8796093022208 then ((some (x9++[(⟨#[124,124]⟩:ByteArray)]:List ByteArray)).bind fun y116=>(if 0≤x108000 then (if x108000<(x0.length:Int) then ((impl_noteText.f ((rd_T67 x0 x108000).f0) x108001).bind fun t120=>(if x108003=true then (if 1+t120.size≤9223372036854775807 then (if y116.length<8796093022208 then (impl_notate.l0 k x0 x8 (y116++[(⟨#[126]⟩:ByteArray)++t120]) x20 x21 (wrap64 (x22+1))) else (none)) else (none)) else (if y116.length<8796093022208 then (impl_notate.l0 k x0 x8 (y116++[t120]) x20 x21 (wrap64 (x22+1))) else (none)))) else (none)) else (none))) else (none)) else (if x9.length<8796093022208 then ((some (x9++[(⟨#[124]⟩:ByteArray)]:List ByteArray)).bind fun y127=>(if 0≤x108000 then (if x108000<(x0.length:Int) then ((impl_noteText.f ((rd_T67 x0 x108000).f0) x108001).bind fun t131=>(if x108003=true then (if 1+t131.size≤9223372036854775807 then (if y127.length<8796093022208 then (impl_notate.l0 k x0 x8 (y127++[(⟨#[126]⟩:ByteArray)++t131]) x20 x21 (wrap64 (x22+1))) else (none)) else (none)) else (if y127.length<8796093022208 then (impl_notate.l0 k x0 x8 (y127++[t131]) x20 x21 (wrap64 (x22+1))) else (none)))) else (none)) else (none))) else (none)))
end
def impl_notate.f (k:Nat) (l0:List (S67)) (a1_0:ByteArray) (l1_1:List Int) (l1_2:List Int) (a2:Int):Option (ByteArray × Bool):=if (l0.length:Int)=0 then (some ((⟨#[45]⟩:ByteArray),true)) else ((impl_split.f k l0 a1_0 l1_1 l1_2 a2).bind fun t102=>(impl_notate.l0 k l0 t102 ([]:List ByteArray) t102 (t102.length:Int) 0))
def impl_notate.T12:Bool × List (List Nat × List Nat):=(true,[([],[]),([],[]),([1],[1]),([0,2],[0,2]),([3],[3]),([4],[4]),([],[]),([6],[6]),([5,7],[5,7]),([8,8,0,1,2,3,4,5,6,7,8],[8])])
def impl_notate.B12:List Nat:=[0,0,2,7,15,31,0,64,255,511]
theorem impl_notate.tab12:rtab .any (opsOf Tryz.f71 12)=impl_notate.T12:=by kernel_rfl
theorem impl_notate.bits12:waitsOk impl_notate.T12.2 impl_notate.B12=true:=by kernel_rfl
set_option maxHeartbeats 8000000 in
set_option maxRecDepth 100000 in
theorem impl_notate.calls (k:Nat) (A0:Option Addr) (c0:Nat) (l0:List (S67)) (a1_0:ByteArray) (A1_1:Option Addr) (c1_1:Nat) (l1_1:List Int) (A1_2:Option Addr) (c1_2:Nat) (l1_2:List Int) (a2:Int) (r1:ByteArray) (r2:Bool) (w:World) (hD:Door1 w) (hr0:Kd.C k67 w A0 l0.length l0) (hc0:l0.length≤c0) (hr1_1:Kd.C (Kd.int .i64) w A1_1 l1_1.length l1_1) (hc1_1:l1_1.length≤c1_1) (hr1_2:Kd.C (Kd.int .i64) w A1_2 l1_2.length l1_2) (hc1_2:l1_2.length≤c1_2) (h:impl_notate.f k l0 a1_0 l1_1 l1_2 a2=some (r1,r2)) :
 Calls Tryz.prog 71 #[.slice A0 l0.length c0,.agg #[.string a1_0,.slice A1_1 l1_1.length c1_1,.slice A1_2 l1_2.length c1_2],.int .i64 a2] w fun e w'=>e = .returned (.tuple #[.string r1,.bool r2])∧Below w.heap.size w w':=by
 have hu50:=Tryz.underlying50
 have hu136:=Tryz.underlying136
 have HD:=Aside0.mk hD
 clear hD
 have HR0:=Aside0.mk hr0
 have HC0:=Aside0.mk hc0
 clear hr0 hc0
 have HR1_1:=Aside0.mk hr1_1
 have HC1_1:=Aside0.mk hc1_1
 clear hr1_1 hc1_1
 have HR1_2:=Aside0.mk hr1_2
 have HC1_2:=Aside0.mk hc1_2
 clear hr1_2 hc1_2
 have HB:=Aside0.mk (Below.refl w.heap.size w)
 have H:(if (l0.length:Int)=0 then (some ((⟨#[45]⟩:ByteArray),true)) else ((impl_split.f k l0 a1_0 l1_1 l1_2 a2).bind fun t102=>(impl_notate.l0 k l0 t102 ([]:List ByteArray) t102 (t102.length:Int) 0)))=some (r1,r2):=h
 clear h
 by_cases c4:(l0.length:Int)=0
 ·rw [if_pos c4] at H
  have c4b0:((l0.length:Int) == 0)=true:=beq_iff_eq.mpr c4
  have c4b1:((l0.length:Int) != 0)=false:=bne_eq_false_iff_eq.mpr c4
  clear c4
  simp only [Option.some.injEq,Prod.mk.injEq] at H
  obtain ⟨rfl,rfl⟩:=H
  go_enter Tryz.func71,Tryz.ntmps71
  go_wp2_with (first|((with_reducible refine gate_dst (N:=4) rfl ?_);refine box_event ?hg (N:=4) ?hd (cs:=#[.string a1_0,.slice A1_1 l1_1.length c1_1,.slice A1_2 l1_2.length c1_2]) (t:=50) ?hr ?_;(case hd=>rfl);(case hg=>rfl);(case hr=>exact zy);intro gb101 hg w5 hbox hb;have n0_:=Aside0.mk (below_step za hb);have n1_:=Aside0.mk (hbox);have n2_:=Aside0.mk ((by rw [hg];exact (below_size za):w.heap.size≤gb101));have n3_:=Aside0.mk ((by rw [hg];exact (below_size za):w.heap.size≤gb101));clear HB;have HB:=n0_;have BK101:=n1_;have GW101:=n2_;have GE101:=n3_;clear n0_ n1_ n2_ n3_;clear hb hbox hg))
  go_ret2
  exact ⟨zi,zb⟩
 ·rw [if_neg c4] at H
  have c4b0:((l0.length:Int) == 0)=false:=beq_eq_false_iff_ne.mpr c4
  have c4b1:((l0.length:Int) != 0)=true:=bne_iff_ne.mpr c4
  have c4b2:¬ (l0=[]):=fun h_=>c4 (by rw [h_];rfl)
  replace H:=Option.bind_eq_some_iff.mp H
  obtain ⟨t102,A60,H⟩:=H
  replace H:(impl_notate.l0 k l0 t102 ([]:List ByteArray) t102 (t102.length:Int) 0)=some (r1,r2):=H
  have A6:=Aside0.mk A60
  clear A60
  have H':=Aside0.mk H
  clear H
  go_enter Tryz.func71,Tryz.ntmps71
  go_wp2_with (first|((with_reducible refine gate_dst (N:=4) rfl ?_);refine box_event ?hg (N:=4) ?hd (cs:=#[.string a1_0,.slice A1_1 l1_1.length c1_1,.slice A1_2 l1_2.length c1_2]) (t:=50) ?hr ?_;(case hd=>rfl);(case hg=>rfl);(case hr=>exact zy);intro gb101 hg w7 hbox hb;have n0_:=Aside0.mk (below_step za hb);have n1_:=Aside0.mk (hbox);have n2_:=Aside0.mk ((by rw [hg];exact (below_size za):w.heap.size≤gb101));have n3_:=Aside0.mk ((by rw [hg];exact (below_size za):w.heap.size≤gb101));clear HB;have HB:=n0_;have BK101:=n1_;have GW101:=n2_;have GE101:=n3_;clear n0_ n1_ n2_ n3_;clear hb hbox hg;have hcz8_0:w7.cell? ⟨gb101,0,none⟩=some (.string a1_0):=(blk_cell BK101.out 0).trans rfl;have hcz8_1:w7.cell? ⟨gb101,1,none⟩=some (.slice A1_1 l1_1.length c1_1):=(blk_cell BK101.out 1).trans rfl;have hcz8_2:w7.cell? ⟨gb101,2,none⟩=some (.slice A1_2 l1_2.length c1_2):=(blk_cell BK101.out 2).trans rfl;have hfz8_0:=blk_frozen BK101.out 0;have hfz8_1:=blk_frozen BK101.out 1;have hfz8_2:=blk_frozen BK101.out 2)|((with_reducible refine gate_callee (f:=107) rfl ?_);refine goesL_ (some 19) rfl rfl Tryz.func107 zau rfl #[.slice A0 l0.length c0,.agg #[.string a1_0,.slice A1_1 l1_1.length c1_1,.slice A1_2 l1_2.length c1_2],.int .i64 a2] rfl zd ?_;(with_reducible refine (impl_split.calls k _ _ l0 a1_0 _ _ l1_1 _ _ l1_2 a2 t102 _ ?side1 ?side2 ?side3 ?side4 ?side5 ?side6 A6.out).mono ?_);(case side1=>exact zbp);(case side2=>exact HC0.out);(case side3=>exact zs);(case side4=>exact HC1_1.out);(case side5=>exact zt);(case side6=>exact HC1_2.out);rintro e w9 ⟨v103,rfl,ho0,hb⟩;refine ⟨_,rfl,?_⟩;have HO104:=Aside0.mk (Kd.R_lower ho0 (below_size zb));replace BK101:=Aside0.mk (blk_below (g:=gb101) (o:=.cells #[.string a1_0,.slice A1_1 l1_1.length c1_1,.slice A1_2 l1_2.length c1_2] 50 (0,0)) zc hb);replace HB:=Aside0.mk (below_step zb hb);(try clear hb);(try clear hb2);(try clear hk);(try clear hi);(try clear ho0);obtain ⟨Ao10,co10,eo10⟩:=Kd.R_slice HO104.out;subst eo10))
  go_loopg [9,22] k (fun kq v9 v22 w'=>∃(x9_1:List ByteArray) (x22_1:Int),v22 = .int .i64 x22_1∧Aside0 (impl_notate.l0 kq l0 t102 x9_1 t102 (t102.length:Int) x22_1=some (r1,r2))∧Aside0 (kq≤k)∧Aside0 (Kd.R k136 136 w' w.heap.size (fun _=>True) (.slice Ao10 t102.length co10) t102)∧Aside0 (Kd.R Kd.string 9 w' w.heap.size (fun _=>True) v9 x9_1)∧Aside0 (Kd.R k136 136 w' w.heap.size (fun _=>True) (.slice Ao10 t102.length co10) t102)∧Aside0 (w'.heap[gb101]?=some (.cells #[.string a1_0,(.slice A1_1 l1_1.length c1_1),(.slice A1_2 l1_2.length c1_2)] 50 (0,0)))∧Aside0 (Below w.heap.size w w'))
  case atStart=>exact ⟨(([]:List ByteArray)),(0),zg,H',⟨Nat.le_refl _⟩,⟨zr⟩,⟨zm⟩,⟨zr⟩,⟨zc⟩,⟨zb⟩⟩
  case round=>
   clear H'
   try clear c1
   try clear p2
   try clear c4
   try clear c4b0
   try clear c4b1
   try clear c4b2
   try clear c7
   try clear c10
   try clear hcz8_0
   try clear hcz8_1
   try clear hcz8_2
   try clear hfz8_0
   try clear hfz8_1
   try clear hfz8_2
   obtain ⟨x9_1,x22_1,rfl,HA,HK1,HO_8,HO_9,HO_20,BK101,HB⟩:=hrel
   cases gk with
   | zero=>exact absurd HA.out (by simp [impl_notate.l0])
   | succ k1=>
    have H:=HA.out
    clear HA
    simp only [impl_notate.l0] at H
    by_cases c11:x22_1<(t102.length:Int)
    ·rw [if_pos c11] at H
     have c11b0:decide (x22_1<(t102.length:Int))=true:=decide_eq_true c11
     clear c11
     by_cases c12:0≤x22_1
     ·rw [if_pos c12] at H
      have c12b0:decide (0≤x22_1)=true:=decide_eq_true c12
      clear c12
      by_cases c13:x22_1<(t102.length:Int)
      ·rw [if_pos c13] at H
       have c13b0:decide (x22_1<(t102.length:Int))=true:=decide_eq_true c13
       clear c13
       have HC14:=Aside0.mk H
       clear H
       have p106:0≤(x22_1:Int):=of_decide_eq_true ze
       have q106:x22_1<(t102.length:Int):=of_decide_eq_true ze
       obtain ⟨ad106,e106,hx106_0,hx106_1,hx106_2,hx106_3⟩:=at_T136 (Kd.R_reads' HO_20.out).2.2 x22_1 p106 q106
       cases e106
       replace p106:=eq_true p106
       replace q106:=eq_true q106
       go_upto_region 9 with (first|((with_reducible refine gate_dst (N:=11) rfl ?_);refine box_event ?hg (N:=11) ?hd (cs:=#[.int .i64 0,.int .i64 0,.int .i64 0,.bool false]) (t:=136) ?hr ?_;(case hd=>rfl);(case hg=>rfl);(case hr=>exact zy);intro gb107 hg w15 hbox hb;have n0_:=Aside0.mk (Kd.R_below (Kd.R_elderB zat gb107 (Nat.le_of_eq hg.symm)) hb);have n1_:=Aside0.mk (Kd.R_below zak hb);have n2_:=Aside0.mk (Kd.R_below (Kd.R_elderB zar gb107 (Nat.le_of_eq hg.symm)) hb);have n3_:=Aside0.mk (blk_below (g:=gb101) (o:=.cells #[.string a1_0,.slice A1_1 l1_1.length c1_1,.slice A1_2 l1_2.length c1_2] 50 (0,0)) zc hb);have n4_:=Aside0.mk (below_step zb hb);have n5_:=Aside0.mk (hbox);have n6_:=Aside0.mk ((by rw [hg];exact (below_size zb):w.heap.size≤gb107));have n7_:=Aside0.mk ((by rw [hg];exact (below_size zb):w.heap.size≤gb107));have n8_:=Aside0.mk ((by rw [hg];exact Nat.ne_of_lt (blk_lt (g:=gb101) (o:=.cells #[.string a1_0,.slice A1_1 l1_1.length c1_1,.slice A1_2 l1_2.length c1_2] 50 (0,0)) zc):gb101≠gb107));have n9_:=Aside0.mk ((by rw [hg];exact Nat.ne_of_gt (blk_lt (g:=gb101) (o:=.cells #[.string a1_0,.slice A1_1 l1_1.length c1_1,.slice A1_2 l1_2.length c1_2] 50 (0,0)) zc):gb107≠gb101));clear HO_8;clear HO_9;clear HO_20;clear BK101;clear HB;have HO_8:=n0_;have HO_9:=n1_;have HO_20:=n2_;have BK101:=n3_;have HB:=n4_;have BK107:=n5_;have GW107:=n6_;have GE107:=n7_;have NB101_107:=n8_;have NB107_101:=n9_;clear n0_ n1_ n2_ n3_ n4_ n5_ n6_ n7_ n8_ n9_;clear hb hbox hg;have hnb16:=NB107_101.out;have hnc16:=NB101_107.out;have hcz17_0:w15.cell? ⟨gb107,0,none⟩=some (.int .i64 0):=(blk_cell BK107.out 0).trans rfl;have hcz17_1:w15.cell? ⟨gb107,1,none⟩=some (.int .i64 0):=(blk_cell BK107.out 1).trans rfl;have hcz17_2:w15.cell? ⟨gb107,2,none⟩=some (.int .i64 0):=(blk_cell BK107.out 2).trans rfl;have hcz17_3:w15.cell? ⟨gb107,3,none⟩=some (.bool false):=(blk_cell BK107.out 3).trans rfl;have hfz17_0:=blk_frozen BK107.out 0;have hfz17_1:=blk_frozen BK107.out 1;have hfz17_2:=blk_frozen BK107.out 2;have hfz17_3:=blk_frozen BK107.out 3))
       (try simp only [Act.put,List.setIfInBounds_toArray,List.set_cons_zero,List.set_cons_succ])
       go_cut [30] (fun v30 wc=>∃(kq:Nat) (x30_13:Bool),v30 = .bool x30_13∧Aside0 (impl_notate.j1 kq l0 t102 x9_1 t102 (t102.length:Int) x22_1 x30_13 ((rd_T136 t102 x22_1).f0) ((rd_T136 t102 x22_1).f1) ((rd_T136 t102 x22_1).f2) ((rd_T136 t102 x22_1).f3)=some (r1,r2))∧Aside0 (kq≤k1)∧Aside0 (Kd.R k136 136 wc w.heap.size (fun k_=>k_≠gb107) (.slice (some ad106) t102.length co10) t102)∧Aside0 (Kd.R Kd.string 9 wc w.heap.size (fun _=>True) u9 x9_1)∧Aside0 (Kd.R k136 136 wc w.heap.size (fun k_=>k_≠gb107) (.slice (some ad106) t102.length co10) t102)∧Aside0 (wc.heap[gb101]?=some (.cells #[.string a1_0,(.slice A1_1 l1_1.length c1_1),(.slice A1_2 l1_2.length c1_2)] 50 (0,0)))∧Aside0 (wc.heap[gb107]?=some (.cells #[.int .i64 ((rd_T136 t102 x22_1).f0),.int .i64 ((rd_T136 t102 x22_1).f1),.int .i64 ((rd_T136 t102 x22_1).f2),.bool ((rd_T136 t102 x22_1).f3)] 136 (0,0)))∧Aside0 (Below w.heap.size w wc))
       case first=>
        have H:=HC14.out
        clear HC14
        by_cases c18:x22_1=0
        ·rw [if_pos c18] at H
         have c18b0:(x22_1 == 0)=true:=beq_iff_eq.mpr c18
         have c18b1:(x22_1 != 0)=false:=bne_eq_false_iff_eq.mpr c18
         clear c18
         (first|rw [c18b0]|(simp only [i64_w,i32_w];rw [c18b0])|skip)
         have H':=Aside0.mk H
         clear H
         go_wp2
         go_meet
         case rel=>exact ⟨_,(true),zg,H',⟨by have:=HK1.out;first|omega|exact Nat.le_refl _⟩,⟨by (with_reducible repeat (first|apply Kd.R_alloc|apply Kd.R_drewN|apply Kd.R_drew));exact Kd.R_mono (Kd.R_far (p:=⟨gb107,3,none⟩) (Kd.R_far (p:=⟨gb107,2,none⟩) (Kd.R_far (p:=⟨gb107,1,none⟩) (Kd.R_far (p:=⟨gb107,0,none⟩) (Kd.R_mono HO_8.out (fun k_ hk=>(⟨hk,hk.2⟩:_∧k_≠gb107))) (fun _ hk=>hk.2) (.int .i64 ((rd_T136 t102 x22_1).f0))) (fun _ hk=>hk.2) (.int .i64 ((rd_T136 t102 x22_1).f1))) (fun _ hk=>hk.2) (.int .i64 ((rd_T136 t102 x22_1).f2))) (fun _ hk=>hk.2) (.bool ((rd_T136 t102 x22_1).f3))) (fun _ hk=>hk.1.2)⟩,⟨by (with_reducible repeat (first|apply Kd.R_alloc|apply Kd.R_drewN|apply Kd.R_drew));exact Kd.R_mono (Kd.R_far (p:=⟨gb107,3,none⟩) (Kd.R_far (p:=⟨gb107,2,none⟩) (Kd.R_far (p:=⟨gb107,1,none⟩) (Kd.R_far (p:=⟨gb107,0,none⟩) (Kd.R_types HO_9.out BK107.out zbl) (fun _ hk=>hk.2) (.int .i64 ((rd_T136 t102 x22_1).f0))) (fun _ hk=>hk.2) (.int .i64 ((rd_T136 t102 x22_1).f1))) (fun _ hk=>hk.2) (.int .i64 ((rd_T136 t102 x22_1).f2))) (fun _ hk=>hk.2) (.bool ((rd_T136 t102 x22_1).f3))) (fun _ hk=>trivial)⟩,⟨by (with_reducible repeat (first|apply Kd.R_alloc|apply Kd.R_drewN|apply Kd.R_drew));exact Kd.R_mono (Kd.R_far (p:=⟨gb107,3,none⟩) (Kd.R_far (p:=⟨gb107,2,none⟩) (Kd.R_far (p:=⟨gb107,1,none⟩) (Kd.R_far (p:=⟨gb107,0,none⟩) (Kd.R_mono HO_20.out (fun k_ hk=>(⟨hk,hk.2⟩:_∧k_≠gb107))) (fun _ hk=>hk.2) (.int .i64 ((rd_T136 t102 x22_1).f0))) (fun _ hk=>hk.2) (.int .i64 ((rd_T136 t102 x22_1).f1))) (fun _ hk=>hk.2) (.int .i64 ((rd_T136 t102 x22_1).f2))) (fun _ hk=>hk.2) (.bool ((rd_T136 t102 x22_1).f3))) (fun _ hk=>hk.1.2)⟩,⟨zx⟩,⟨by (with_reducible repeat (first|refine blk_drewN ?_ _|refine blk_drew ?_|refine blk_alloc ?_ _));refine blk_put (cs:=#[.int .i64 ((rd_T136 t102 x22_1).f0),.int .i64 ((rd_T136 t102 x22_1).f1),.int .i64 ((rd_T136 t102 x22_1).f2),.bool false]) ?_ 3 _ rfl;(with_reducible repeat (first|refine blk_drewN ?_ _|refine blk_drew ?_|refine blk_alloc ?_ _));refine blk_put (cs:=#[.int .i64 ((rd_T136 t102 x22_1).f0),.int .i64 ((rd_T136 t102 x22_1).f1),.int .i64 0,.bool false]) ?_ 2 _ rfl;(with_reducible repeat (first|refine blk_drewN ?_ _|refine blk_drew ?_|refine blk_alloc ?_ _));refine blk_put (cs:=#[.int .i64 ((rd_T136 t102 x22_1).f0),.int .i64 0,.int .i64 0,.bool false]) ?_ 1 _ rfl;(with_reducible repeat (first|refine blk_drewN ?_ _|refine blk_drew ?_|refine blk_alloc ?_ _));refine blk_put (cs:=#[.int .i64 0,.int .i64 0,.int .i64 0,.bool false]) ?_ 0 _ rfl;(with_reducible repeat (first|refine blk_drewN ?_ _|refine blk_drew ?_|refine blk_alloc ?_ _));exact BK107.out⟩,⟨zf⟩⟩
        ·rw [if_neg c18] at H
         have c18b0:(x22_1 == 0)=false:=beq_eq_false_iff_ne.mpr c18
         have c18b1:(x22_1 != 0)=true:=bne_iff_ne.mpr c18
         (first|rw [c18b0]|(simp only [i64_w,i32_w];rw [c18b0])|skip)
         have H':=Aside0.mk H
         clear H
         have hnb19:=NB107_101.out
         have hnc19:=NB101_107.out
         have hcz20_0:w15.cell? ⟨gb107,0,none⟩=some (.int .i64 0):=(blk_cell BK107.out 0).trans rfl
         have hcz20_1:w15.cell? ⟨gb107,1,none⟩=some (.int .i64 0):=(blk_cell BK107.out 1).trans rfl
         have hcz20_2:w15.cell? ⟨gb107,2,none⟩=some (.int .i64 0):=(blk_cell BK107.out 2).trans rfl
         have hcz20_3:w15.cell? ⟨gb107,3,none⟩=some (.bool false):=(blk_cell BK107.out 3).trans rfl
         have hfz20_0:=blk_frozen BK107.out 0
         have hfz20_1:=blk_frozen BK107.out 1
         have hfz20_2:=blk_frozen BK107.out 2
         have hfz20_3:=blk_frozen BK107.out 3
         go_wp2
         go_meet
         case rel=>exact ⟨_,(decide (((rd_T136 t102 x22_1).f2)<0)),zg,H',⟨by have:=HK1.out;first|omega|exact Nat.le_refl _⟩,⟨by (with_reducible repeat (first|apply Kd.R_alloc|apply Kd.R_drewN|apply Kd.R_drew));exact Kd.R_mono (Kd.R_far (p:=⟨gb107,3,none⟩) (Kd.R_far (p:=⟨gb107,2,none⟩) (Kd.R_far (p:=⟨gb107,1,none⟩) (Kd.R_far (p:=⟨gb107,0,none⟩) (Kd.R_mono HO_8.out (fun k_ hk=>(⟨hk,hk.2⟩:_∧k_≠gb107))) (fun _ hk=>hk.2) (.int .i64 ((rd_T136 t102 x22_1).f0))) (fun _ hk=>hk.2) (.int .i64 ((rd_T136 t102 x22_1).f1))) (fun _ hk=>hk.2) (.int .i64 ((rd_T136 t102 x22_1).f2))) (fun _ hk=>hk.2) (.bool ((rd_T136 t102 x22_1).f3))) (fun _ hk=>hk.1.2)⟩,⟨by (with_reducible repeat (first|apply Kd.R_alloc|apply Kd.R_drewN|apply Kd.R_drew));exact Kd.R_mono (Kd.R_far (p:=⟨gb107,3,none⟩) (Kd.R_far (p:=⟨gb107,2,none⟩) (Kd.R_far (p:=⟨gb107,1,none⟩) (Kd.R_far (p:=⟨gb107,0,none⟩) (Kd.R_types HO_9.out BK107.out zbl) (fun _ hk=>hk.2) (.int .i64 ((rd_T136 t102 x22_1).f0))) (fun _ hk=>hk.2) (.int .i64 ((rd_T136 t102 x22_1).f1))) (fun _ hk=>hk.2) (.int .i64 ((rd_T136 t102 x22_1).f2))) (fun _ hk=>hk.2) (.bool ((rd_T136 t102 x22_1).f3))) (fun _ hk=>trivial)⟩,⟨by (with_reducible repeat (first|apply Kd.R_alloc|apply Kd.R_drewN|apply Kd.R_drew));exact Kd.R_mono (Kd.R_far (p:=⟨gb107,3,none⟩) (Kd.R_far (p:=⟨gb107,2,none⟩) (Kd.R_far (p:=⟨gb107,1,none⟩) (Kd.R_far (p:=⟨gb107,0,none⟩) (Kd.R_mono HO_20.out (fun k_ hk=>(⟨hk,hk.2⟩:_∧k_≠gb107))) (fun _ hk=>hk.2) (.int .i64 ((rd_T136 t102 x22_1).f0))) (fun _ hk=>hk.2) (.int .i64 ((rd_T136 t102 x22_1).f1))) (fun _ hk=>hk.2) (.int .i64 ((rd_T136 t102 x22_1).f2))) (fun _ hk=>hk.2) (.bool ((rd_T136 t102 x22_1).f3))) (fun _ hk=>hk.1.2)⟩,⟨zx⟩,⟨by (with_reducible repeat (first|refine blk_drewN ?_ _|refine blk_drew ?_|refine blk_alloc ?_ _));refine blk_put (cs:=#[.int .i64 ((rd_T136 t102 x22_1).f0),.int .i64 ((rd_T136 t102 x22_1).f1),.int .i64 ((rd_T136 t102 x22_1).f2),.bool false]) ?_ 3 _ rfl;(with_reducible repeat (first|refine blk_drewN ?_ _|refine blk_drew ?_|refine blk_alloc ?_ _));refine blk_put (cs:=#[.int .i64 ((rd_T136 t102 x22_1).f0),.int .i64 ((rd_T136 t102 x22_1).f1),.int .i64 0,.bool false]) ?_ 2 _ rfl;(with_reducible repeat (first|refine blk_drewN ?_ _|refine blk_drew ?_|refine blk_alloc ?_ _));refine blk_put (cs:=#[.int .i64 ((rd_T136 t102 x22_1).f0),.int .i64 0,.int .i64 0,.bool false]) ?_ 1 _ rfl;(with_reducible repeat (first|refine blk_drewN ?_ _|refine blk_drew ?_|refine blk_alloc ?_ _));refine blk_put (cs:=#[.int .i64 0,.int .i64 0,.int .i64 0,.bool false]) ?_ 0 _ rfl;(with_reducible repeat (first|refine blk_drewN ?_ _|refine blk_drew ?_|refine blk_alloc ?_ _));exact BK107.out⟩,⟨zf⟩⟩
       case rest=>
        clear HC14
        try clear c1
        try clear p1
        try clear q1
        try clear hx1
        try clear p2
        try clear c4
        try clear c4b0
        try clear c4b1
        try clear c4b2
        try clear c7
        try clear c10
        try clear p10
        try clear q10
        try clear hx10
        try clear c11
        try clear c11b0
        try clear c12
        try clear c12b0
        try clear c13
        try clear c13b0
        try clear c16
        try clear c18
        try clear c18b0
        try clear c18b1
        try clear c19
        try clear hcz17_0
        try clear hcz17_1
        try clear hcz17_2
        try clear hcz17_3
        try clear hcz20_0
        try clear hcz20_1
        try clear hcz20_2
        try clear hcz20_3
        try clear hcz8_0
        try clear hcz8_1
        try clear hcz8_2
        try clear hfz17_0
        try clear hfz17_1
        try clear hfz17_2
        try clear hfz17_3
        try clear hfz20_0
        try clear hfz20_1
        try clear hfz20_2
        try clear hfz20_3
        try clear hfz8_0
        try clear hfz8_1
        try clear hfz8_2
        try clear hx106_0
        try clear hx106_1
        try clear hx106_2
        try clear hx106_3
        try clear p106
        try clear p2
        try clear q106
        obtain ⟨kq,x30_13,rfl,HA,HJ13,HO_8,HO_9,HO_20,BK101,BK107,HB⟩:=hcut
        cases kq with
        | zero=>exact absurd HA.out (by simp [impl_notate.j1])
        | succ kj13=>
         have H:=HA.out
         clear HA
         simp only [impl_notate.j1] at H
         by_cases c21:x30_13=true
         ·subst c21
          have H1:(if 0≤((rd_T136 t102 x22_1).f0) then (if ((rd_T136 t102 x22_1).f0)<(l0.length:Int) then ((impl_noteText.f ((rd_T67 l0 ((rd_T136 t102 x22_1).f0)).f0) ((rd_T136 t102 x22_1).f1)).bind fun t109=>(if ((rd_T136 t102 x22_1).f3)=true then (if 1+t109.size≤9223372036854775807 then (if x9_1.length<8796093022208 then (impl_notate.l0 kj13 l0 t102 (x9_1++[(⟨#[126]⟩:ByteArray)++t109]) t102 (t102.length:Int) (wrap64 (x22_1+1))) else (none)) else (none)) else (if x9_1.length<8796093022208 then (impl_notate.l0 kj13 l0 t102 (x9_1++[t109]) t102 (t102.length:Int) (wrap64 (x22_1+1))) else (none)))) else (none)) else (none))=some (r1,r2):=by rw [if_pos rfl] at H;exact H
          clear H
          have H:=H1
          clear H1
          by_cases c22:0≤((rd_T136 t102 x22_1).f0)
          ·rw [if_pos c22] at H
           have c22b0:decide (0≤((rd_T136 t102 x22_1).f0))=true:=decide_eq_true c22
           clear c22
           by_cases c23:((rd_T136 t102 x22_1).f0)<(l0.length:Int)
           ·rw [if_pos c23] at H
            have c23b0:decide (((rd_T136 t102 x22_1).f0)<(l0.length:Int))=true:=decide_eq_true c23
            clear c23
            replace H:=Option.bind_eq_some_iff.mp H
            obtain ⟨t109,A240,H⟩:=H
            replace H:(if ((rd_T136 t102 x22_1).f3)=true then (if 1+t109.size≤9223372036854775807 then (if x9_1.length<8796093022208 then (impl_notate.l0 kj13 l0 t102 (x9_1++[(⟨#[126]⟩:ByteArray)++t109]) t102 (t102.length:Int) (wrap64 (x22_1+1))) else (none)) else (none)) else (if x9_1.length<8796093022208 then (impl_notate.l0 kj13 l0 t102 (x9_1++[t109]) t102 (t102.length:Int) (wrap64 (x22_1+1))) else (none)))=some (r1,r2):=H
            have A24:=Aside0.mk A240
            clear A240
            by_cases c25:((rd_T136 t102 x22_1).f3)=true
            ·rw [if_pos c25] at H
             have c25b0:((rd_T136 t102 x22_1).f3)=true:=c25
             clear c25
             by_cases c26:1+t109.size≤9223372036854775807
             ·rw [if_pos c26] at H
              have c26b0:=eq_true c26
              have c26b1:decide (1+t109.size≤9223372036854775807)=true:=decide_eq_true c26
              try have c26b2:(9223372036854775807<1+t109.size)=False:=eq_false (Nat.not_lt.2 c26)
              by_cases c27:x9_1.length<8796093022208
              ·rw [if_pos c27] at H
               have LMc27:=Aside0.mk c27
               clear c27
               obtain ⟨y110,hy110⟩:∃y_:List ByteArray,y_=(x9_1++[(⟨#[126]⟩:ByteArray)++t109]):=⟨_,rfl⟩
               replace H:(impl_notate.l0 kj13 l0 t102 y110 t102 (t102.length:Int) (wrap64 (x22_1+1)))=some (r1,r2):=by first|(rw [hy110];with_reducible exact H)|(have H2_:=(Option.bind_some _ _).symm.trans H;rw [hy110];with_reducible exact H2_)|(have H2_:=(Option.bind_some _ _).symm.trans H;with_reducible exact H2_)|with_reducible exact H|(rw [hy110];exact H)|exact H
               have Ny110:=Aside0.mk hy110
               clear hy110
               have H':=Aside0.mk H
               clear H
               try go_wp2
               replace HO_8:=Aside0.mk (Kd.R_drew HO_8.out)
               replace HO_9:=Aside0.mk (Kd.R_drew HO_9.out)
               replace HO_20:=Aside0.mk (Kd.R_drew HO_20.out)
               replace BK101:=Aside0.mk (blk_drew BK101.out)
               replace BK107:=Aside0.mk (blk_drew BK107.out)
               replace HB:=Aside0.mk (below_drew1 HB.out)
               have p108:0≤(((rd_T136 t102 x22_1).f0):Int):=of_decide_eq_true ze
               have q108:((rd_T136 t102 x22_1).f0)<(l0.length:Int):=of_decide_eq_true ze
               obtain ⟨ad108,e108,hx108_0,hx108_1⟩:=at_T67 HR0.out ((rd_T136 t102 x22_1).f0) p108 q108
               have hw108_1:=hx108_1
               have hw108_0:=hx108_0
               cases e108
               replace hx108_0:=(HB.out.cell (World.block_lt_of_cell? w _ hx108_0)).trans hx108_0
               replace hx108_1:=(HB.out.cell (World.block_lt_of_cell? w _ hx108_1)).trans hx108_1
               replace p108:=eq_true p108
               replace q108:=eq_true q108
               refine start_ (n:=10) (S:=fun w'=>w'.cell? ⟨gb107,0,none⟩=some (.int .i64 ((rd_T136 t102 x22_1).f0))∧w'.cell? ⟨gb107,1,none⟩=some (.int .i64 ((rd_T136 t102 x22_1).f1))∧w'.cell? ⟨gb107,2,none⟩=some (.int .i64 ((rd_T136 t102 x22_1).f2))∧w'.cell? ⟨gb107,3,none⟩=some (.bool ((rd_T136 t102 x22_1).f3))∧w'.cell? (ad108.add ((((rd_T136 t102 x22_1).f0)).toNat*2))=some (.int .i64 ((rd_T67 l0 ((rd_T136 t102 x22_1).f0)).f0))∧w'.cell? ⟨(ad108.add ((((rd_T136 t102 x22_1).f0)).toNat*2)).block,(ad108.add ((((rd_T136 t102 x22_1).f0)).toNat*2)).off+1,none⟩=some (.int .i64 ((rd_T67 l0 ((rd_T136 t102 x22_1).f0)).f1))) (ds:=[]) #[false,false,false,false,false,false,false,false,false,false] zau rfl rfl ⟨(blk_cell BK107.out 0).trans rfl,(blk_cell BK107.out 1).trans rfl,(blk_cell BK107.out 2).trans rfl,(blk_cell BK107.out 3).trans rfl,((HB.out.cell (World.block_lt_of_cell? w _ hw108_0)).trans hw108_0),((HB.out.cell (World.block_lt_of_cell? w _ hw108_1)).trans hw108_1)⟩ (fun hHeld=>?_);refine with_tabW impl_notate.tab12 impl_notate.bits12 (fun HT_ HW_=>?_)
               generalize wc.drew=w28 at HO_8 HO_9 HO_20 BK101 BK107 HB hx108_0 hx108_1 hHeld ⊢
               refine pA 0 45 ?_
               refine pA 1 46 ?_
               refine pA 6 51 ?_
               refine pT 2 47 rfl zbu ?_
               refine pA 3 48 ?_
               refine pA 4 49 ?_
               refine pT 5 50 rfl zbu ?_
               refine pT 7 52 rfl zbu ?_
               refine one_ (i:=8) (N:=some 53) #[true,true,true,true,true,true,true,true,true,false] rfl rfl (one_of HT_.out zau) zbl (fun K hK=>?_)
               refine goes_ Tryz.func108 zau rfl #[.int .i64 ((rd_T67 l0 ((rd_T136 t102 x22_1).f0)).f0),.int .i64 ((rd_T136 t102 x22_1).f1)] (by rfl) rfl rfl zd ?_
               with_reducible refine (impl_noteText.calls ((rd_T67 l0 ((rd_T136 t102 x22_1).f0)).f0) ((rd_T136 t102 x22_1).f1) t109 _ ?side1 A24.out).mono ?_
               (case side1=>exact Door1.at HD.out zf)
               rintro e w29 ⟨rfl,hb⟩
               refine ⟨_,rfl,?_⟩
               replace HO_8:=Aside0.mk (Kd.R_below zat hb)
               replace HO_9:=Aside0.mk (Kd.R_below zak hb)
               replace HO_20:=Aside0.mk (Kd.R_below zar hb)
               replace BK101:=Aside0.mk (blk_below (g:=gb101) (o:=.cells #[.string a1_0,.slice A1_1 l1_1.length c1_1,.slice A1_2 l1_2.length c1_2] 50 (0,0)) zc hb)
               replace BK107:=Aside0.mk (blk_below (g:=gb107) (o:=.cells #[.int .i64 ((rd_T136 t102 x22_1).f0),.int .i64 ((rd_T136 t102 x22_1).f1),.int .i64 ((rd_T136 t102 x22_1).f2),.bool ((rd_T136 t102 x22_1).f3)] 136 (0,0)) zas hb)
               replace HB:=Aside0.mk (below_step zf hb)
               (try clear hb)
               (try clear hb2)
               (try clear hk)
               (try clear hi)
               refine hK.out _ _ ⟨(blk_cell BK107.out 0).trans rfl,(blk_cell BK107.out 1).trans rfl,(blk_cell BK107.out 2).trans rfl,(blk_cell BK107.out 3).trans rfl,((HB.out.cell (World.block_lt_of_cell? w _ hw108_0)).trans hw108_0),((HB.out.cell (World.block_lt_of_cell? w _ hw108_1)).trans hw108_1)⟩ (fun hHeld=>?_)
               clear hK K
               refine pN 53 ?_
               refine pA 9 12 ?_
               refine done_ (done_of HT_.out zau) ?_
               have hnb30:=NB107_101.out
               have hnc30:=NB101_107.out
               have hcz31_0:w29.cell? ⟨gb107,0,none⟩=some (.int .i64 ((rd_T136 t102 x22_1).f0)):=(blk_cell BK107.out 0).trans rfl
               have hcz31_1:w29.cell? ⟨gb107,1,none⟩=some (.int .i64 ((rd_T136 t102 x22_1).f1)):=(blk_cell BK107.out 1).trans rfl
               have hcz31_2:w29.cell? ⟨gb107,2,none⟩=some (.int .i64 ((rd_T136 t102 x22_1).f2)):=(blk_cell BK107.out 2).trans rfl
               have hcz31_3:w29.cell? ⟨gb107,3,none⟩=some (.bool ((rd_T136 t102 x22_1).f3)):=(blk_cell BK107.out 3).trans rfl
               have hfz31_0:=blk_frozen BK107.out 0
               have hfz31_1:=blk_frozen BK107.out 1
               have hfz31_2:=blk_frozen BK107.out 2
               have hfz31_3:=blk_frozen BK107.out 3
               try go_wp2_with (first|((with_reducible refine gate_builtin (b:=.append) (xs:=#[.tmp 58,.tmp 60]) rfl ?_);at_builtin;refine Kd.R_append Kd.string (w0:=w) w.heap.size rfl (.tmp 58) (.tmp 60) 104 9 (.string ⟨#[]⟩) 16 rfl Tryz.underlying104 info9 rfl zbl zdb u9 x9_1 ((⟨#[126]⟩:ByteArray)++t109) [.string ((⟨#[126]⟩:ByteArray)++t109)] (fun _=>True) (fun _=>False) rfl rfl ?aP (fun _ hk=>hk.elim) ?aF ?aO ?aB ?aS ?aL ?_;(case aP=>exact rfl);(case aB=>exact zf);(case aF=>exact zdj);(case aO=>exact zak);(case aS=>exact (below_size zf));(case aL=>have:=LMc27.out;omega);intro v111 w32 ho hb hg hat;rw [←Ny110.out] at ho;replace HO_8:=Aside0.mk (Kd.R_over' zat (Kd.R_typed zak) zbl hg);replace HO_20:=Aside0.mk (Kd.R_over' zar (Kd.R_typed zak) zbl hg);replace BK101:=Aside0.mk (blk_grown (g:=gb101) (o:=.cells #[.string a1_0,.slice A1_1 l1_1.length c1_1,.slice A1_2 l1_2.length c1_2] 50 (0,0)) zc hg (Kd.R_ne HO_9.out BK101.out zbl));replace BK107:=Aside0.mk (blk_grown (g:=gb107) (o:=.cells #[.int .i64 ((rd_T136 t102 x22_1).f0),.int .i64 ((rd_T136 t102 x22_1).f1),.int .i64 ((rd_T136 t102 x22_1).f2),.bool ((rd_T136 t102 x22_1).f3)] 136 (0,0)) zas hg (Kd.R_ne HO_9.out BK107.out zbl));replace HB:=Aside0.mk (hb);have HO112:=Aside0.mk (ho);clear HO_9;clear ho hb hg hat))
               go_roundg kj13
               case measure=>have:=HK1.out;have:=HJ13.out;omega
               case rel=>exact ⟨(y110),(wrap64 (x22_1+1)),zg,H',⟨by have:=HK1.out;have:=HJ13.out;omega⟩,⟨zcs⟩,⟨by (with_reducible repeat (first|apply Kd.R_alloc|apply Kd.R_drewN|apply Kd.R_drew));exact HO112.out⟩,⟨zcr⟩,⟨zc⟩,⟨zf⟩⟩
              ·rw [if_neg c27] at H
               exact absurd H zdd
             ·rw [if_neg c26] at H
              exact absurd H zdd
            ·rw [if_neg c25] at H
             have c25b0:((rd_T136 t102 x22_1).f3)=false:=by simpa using c25
             clear c25
             by_cases c33:x9_1.length<8796093022208
             ·rw [if_pos c33] at H
              have LMc33:=Aside0.mk c33
              clear c33
              obtain ⟨y113,hy113⟩:∃y_:List ByteArray,y_=(x9_1++[t109]):=⟨_,rfl⟩
              replace H:(impl_notate.l0 kj13 l0 t102 y113 t102 (t102.length:Int) (wrap64 (x22_1+1)))=some (r1,r2):=by first|(rw [hy113];with_reducible exact H)|(have H2_:=(Option.bind_some _ _).symm.trans H;rw [hy113];with_reducible exact H2_)|(have H2_:=(Option.bind_some _ _).symm.trans H;with_reducible exact H2_)|with_reducible exact H|(rw [hy113];exact H)|exact H
              have Ny113:=Aside0.mk hy113
              clear hy113
              have H':=Aside0.mk H
              clear H
              try go_wp2
              replace HO_8:=Aside0.mk (Kd.R_drew HO_8.out)
              replace HO_9:=Aside0.mk (Kd.R_drew HO_9.out)
              replace HO_20:=Aside0.mk (Kd.R_drew HO_20.out)
              replace BK101:=Aside0.mk (blk_drew BK101.out)
              replace BK107:=Aside0.mk (blk_drew BK107.out)
              replace HB:=Aside0.mk (below_drew1 HB.out)
              have p108:0≤(((rd_T136 t102 x22_1).f0):Int):=of_decide_eq_true ze
              have q108:((rd_T136 t102 x22_1).f0)<(l0.length:Int):=of_decide_eq_true ze
              obtain ⟨ad108,e108,hx108_0,hx108_1⟩:=at_T67 HR0.out ((rd_T136 t102 x22_1).f0) p108 q108
              have hw108_1:=hx108_1
              have hw108_0:=hx108_0
              cases e108
              replace hx108_0:=(HB.out.cell (World.block_lt_of_cell? w _ hx108_0)).trans hx108_0
              replace hx108_1:=(HB.out.cell (World.block_lt_of_cell? w _ hx108_1)).trans hx108_1
              replace p108:=eq_true p108
              replace q108:=eq_true q108
              refine start_ (n:=10) (S:=fun w'=>w'.cell? ⟨gb107,0,none⟩=some (.int .i64 ((rd_T136 t102 x22_1).f0))∧w'.cell? ⟨gb107,1,none⟩=some (.int .i64 ((rd_T136 t102 x22_1).f1))∧w'.cell? ⟨gb107,2,none⟩=some (.int .i64 ((rd_T136 t102 x22_1).f2))∧w'.cell? ⟨gb107,3,none⟩=some (.bool ((rd_T136 t102 x22_1).f3))∧w'.cell? (ad108.add ((((rd_T136 t102 x22_1).f0)).toNat*2))=some (.int .i64 ((rd_T67 l0 ((rd_T136 t102 x22_1).f0)).f0))∧w'.cell? ⟨(ad108.add ((((rd_T136 t102 x22_1).f0)).toNat*2)).block,(ad108.add ((((rd_T136 t102 x22_1).f0)).toNat*2)).off+1,none⟩=some (.int .i64 ((rd_T67 l0 ((rd_T136 t102 x22_1).f0)).f1))) (ds:=[]) #[false,false,false,false,false,false,false,false,false,false] zau rfl rfl ⟨(blk_cell BK107.out 0).trans rfl,(blk_cell BK107.out 1).trans rfl,(blk_cell BK107.out 2).trans rfl,(blk_cell BK107.out 3).trans rfl,((HB.out.cell (World.block_lt_of_cell? w _ hw108_0)).trans hw108_0),((HB.out.cell (World.block_lt_of_cell? w _ hw108_1)).trans hw108_1)⟩ (fun hHeld=>?_);refine with_tabW impl_notate.tab12 impl_notate.bits12 (fun HT_ HW_=>?_)
              generalize wc.drew=w34 at HO_8 HO_9 HO_20 BK101 BK107 HB hx108_0 hx108_1 hHeld ⊢
              refine pA 0 45 ?_
              refine pA 1 46 ?_
              refine pA 6 51 ?_
              refine pT 2 47 rfl zbu ?_
              refine pA 3 48 ?_
              refine pA 4 49 ?_
              refine pT 5 50 rfl zbu ?_
              refine pT 7 52 rfl zbu ?_
              refine one_ (i:=8) (N:=some 53) #[true,true,true,true,true,true,true,true,true,false] rfl rfl (one_of HT_.out zau) zbl (fun K hK=>?_)
              refine goes_ Tryz.func108 zau rfl #[.int .i64 ((rd_T67 l0 ((rd_T136 t102 x22_1).f0)).f0),.int .i64 ((rd_T136 t102 x22_1).f1)] (by rfl) rfl rfl zd ?_
              with_reducible refine (impl_noteText.calls ((rd_T67 l0 ((rd_T136 t102 x22_1).f0)).f0) ((rd_T136 t102 x22_1).f1) t109 _ ?side1 A24.out).mono ?_
              (case side1=>exact Door1.at HD.out zf)
              rintro e w35 ⟨rfl,hb⟩
              refine ⟨_,rfl,?_⟩
              replace HO_8:=Aside0.mk (Kd.R_below zat hb)
              replace HO_9:=Aside0.mk (Kd.R_below zak hb)
              replace HO_20:=Aside0.mk (Kd.R_below zar hb)
              replace BK101:=Aside0.mk (blk_below (g:=gb101) (o:=.cells #[.string a1_0,.slice A1_1 l1_1.length c1_1,.slice A1_2 l1_2.length c1_2] 50 (0,0)) zc hb)
              replace BK107:=Aside0.mk (blk_below (g:=gb107) (o:=.cells #[.int .i64 ((rd_T136 t102 x22_1).f0),.int .i64 ((rd_T136 t102 x22_1).f1),.int .i64 ((rd_T136 t102 x22_1).f2),.bool ((rd_T136 t102 x22_1).f3)] 136 (0,0)) zas hb)
              replace HB:=Aside0.mk (below_step zf hb)
              (try clear hb)
              (try clear hb2)
              (try clear hk)
              (try clear hi)
              refine hK.out _ _ ⟨(blk_cell BK107.out 0).trans rfl,(blk_cell BK107.out 1).trans rfl,(blk_cell BK107.out 2).trans rfl,(blk_cell BK107.out 3).trans rfl,((HB.out.cell (World.block_lt_of_cell? w _ hw108_0)).trans hw108_0),((HB.out.cell (World.block_lt_of_cell? w _ hw108_1)).trans hw108_1)⟩ (fun hHeld=>?_)
              clear hK K
              refine pN 53 ?_
              refine pA 9 12 ?_
              refine done_ (done_of HT_.out zau) ?_
              have hnb36:=NB107_101.out
              have hnc36:=NB101_107.out
              have hcz37_0:w35.cell? ⟨gb107,0,none⟩=some (.int .i64 ((rd_T136 t102 x22_1).f0)):=(blk_cell BK107.out 0).trans rfl
              have hcz37_1:w35.cell? ⟨gb107,1,none⟩=some (.int .i64 ((rd_T136 t102 x22_1).f1)):=(blk_cell BK107.out 1).trans rfl
              have hcz37_2:w35.cell? ⟨gb107,2,none⟩=some (.int .i64 ((rd_T136 t102 x22_1).f2)):=(blk_cell BK107.out 2).trans rfl
              have hcz37_3:w35.cell? ⟨gb107,3,none⟩=some (.bool ((rd_T136 t102 x22_1).f3)):=(blk_cell BK107.out 3).trans rfl
              have hfz37_0:=blk_frozen BK107.out 0
              have hfz37_1:=blk_frozen BK107.out 1
              have hfz37_2:=blk_frozen BK107.out 2
              have hfz37_3:=blk_frozen BK107.out 3
              try go_wp2_with (first|((with_reducible refine gate_builtin (b:=.append) (xs:=#[.tmp 58,.tmp 60]) rfl ?_);at_builtin;refine Kd.R_append Kd.string (w0:=w) w.heap.size rfl (.tmp 58) (.tmp 60) 104 9 (.string ⟨#[]⟩) 16 rfl Tryz.underlying104 info9 rfl zbl zdb u9 x9_1 t109 [.string t109] (fun _=>True) (fun _=>False) rfl rfl ?aP (fun _ hk=>hk.elim) ?aF ?aO ?aB ?aS ?aL ?_;(case aP=>exact rfl);(case aB=>exact zf);(case aF=>exact zdj);(case aO=>exact zak);(case aS=>exact (below_size zf));(case aL=>have:=LMc33.out;omega);intro v114 w38 ho hb hg hat;rw [←Ny113.out] at ho;replace HO_8:=Aside0.mk (Kd.R_over' zat (Kd.R_typed zak) zbl hg);replace HO_20:=Aside0.mk (Kd.R_over' zar (Kd.R_typed zak) zbl hg);replace BK101:=Aside0.mk (blk_grown (g:=gb101) (o:=.cells #[.string a1_0,.slice A1_1 l1_1.length c1_1,.slice A1_2 l1_2.length c1_2] 50 (0,0)) zc hg (Kd.R_ne HO_9.out BK101.out zbl));replace BK107:=Aside0.mk (blk_grown (g:=gb107) (o:=.cells #[.int .i64 ((rd_T136 t102 x22_1).f0),.int .i64 ((rd_T136 t102 x22_1).f1),.int .i64 ((rd_T136 t102 x22_1).f2),.bool ((rd_T136 t102 x22_1).f3)] 136 (0,0)) zas hg (Kd.R_ne HO_9.out BK107.out zbl));replace HB:=Aside0.mk (hb);have HO115:=Aside0.mk (ho);clear HO_9;clear ho hb hg hat))
              go_roundg kj13
              case measure=>have:=HK1.out;have:=HJ13.out;omega
              case rel=>exact ⟨(y113),(wrap64 (x22_1+1)),zg,H',⟨by have:=HK1.out;have:=HJ13.out;omega⟩,⟨zcs⟩,⟨by (with_reducible repeat (first|apply Kd.R_alloc|apply Kd.R_drewN|apply Kd.R_drew));exact HO115.out⟩,⟨zcr⟩,⟨zc⟩,⟨zf⟩⟩
             ·rw [if_neg c33] at H
              exact absurd H zdd
           ·rw [if_neg c23] at H
            exact absurd H zdd
          ·rw [if_neg c22] at H
           exact absurd H zdd
         ·replace c21:=Bool.eq_false_iff.mpr c21
          subst c21
          have H1:(if ((rd_T136 t102 x22_1).f2)=0 then (if x9_1.length<8796093022208 then ((some (x9_1++[(⟨#[124,124]⟩:ByteArray)]:List ByteArray)).bind fun y116=>(if 0≤((rd_T136 t102 x22_1).f0) then (if ((rd_T136 t102 x22_1).f0)<(l0.length:Int) then ((impl_noteText.f ((rd_T67 l0 ((rd_T136 t102 x22_1).f0)).f0) ((rd_T136 t102 x22_1).f1)).bind fun t120=>(if ((rd_T136 t102 x22_1).f3)=true then (if 1+t120.size≤9223372036854775807 then (if y116.length<8796093022208 then (impl_notate.l0 kj13 l0 t102 (y116++[(⟨#[126]⟩:ByteArray)++t120]) t102 (t102.length:Int) (wrap64 (x22_1+1))) else (none)) else (none)) else (if y116.length<8796093022208 then (impl_notate.l0 kj13 l0 t102 (y116++[t120]) t102 (t102.length:Int) (wrap64 (x22_1+1))) else (none)))) else (none)) else (none))) else (none)) else (if x9_1.length<8796093022208 then ((some (x9_1++[(⟨#[124]⟩:ByteArray)]:List ByteArray)).bind fun y127=>(if 0≤((rd_T136 t102 x22_1).f0) then (if ((rd_T136 t102 x22_1).f0)<(l0.length:Int) then ((impl_noteText.f ((rd_T67 l0 ((rd_T136 t102 x22_1).f0)).f0) ((rd_T136 t102 x22_1).f1)).bind fun t131=>(if ((rd_T136 t102 x22_1).f3)=true then (if 1+t131.size≤9223372036854775807 then (if y127.length<8796093022208 then (impl_notate.l0 kj13 l0 t102 (y127++[(⟨#[126]⟩:ByteArray)++t131]) t102 (t102.length:Int) (wrap64 (x22_1+1))) else (none)) else (none)) else (if y127.length<8796093022208 then (impl_notate.l0 kj13 l0 t102 (y127++[t131]) t102 (t102.length:Int) (wrap64 (x22_1+1))) else (none)))) else (none)) else (none))) else (none)))=some (r1,r2):=by rw [if_neg (show ¬ (false=true) by decide)] at H;exact H
          clear H
          have H:=H1
          clear H1
          by_cases c39:((rd_T136 t102 x22_1).f2)=0
          ·rw [if_pos c39] at H
           have c39b0:(((rd_T136 t102 x22_1).f2) == 0)=true:=beq_iff_eq.mpr c39
           have c39b1:(((rd_T136 t102 x22_1).f2) != 0)=false:=bne_eq_false_iff_eq.mpr c39
           clear c39
           by_cases c40:x9_1.length<8796093022208
           ·rw [if_pos c40] at H
            have LMc40:=Aside0.mk c40
            clear c40
            obtain ⟨y116,hy116⟩:∃y_:List ByteArray,y_=(x9_1++[(⟨#[124,124]⟩:ByteArray)]):=⟨_,rfl⟩
            replace H:(if 0≤((rd_T136 t102 x22_1).f0) then (if ((rd_T136 t102 x22_1).f0)<(l0.length:Int) then ((impl_noteText.f ((rd_T67 l0 ((rd_T136 t102 x22_1).f0)).f0) ((rd_T136 t102 x22_1).f1)).bind fun t120=>(if ((rd_T136 t102 x22_1).f3)=true then (if 1+t120.size≤9223372036854775807 then (if y116.length<8796093022208 then (impl_notate.l0 kj13 l0 t102 (y116++[(⟨#[126]⟩:ByteArray)++t120]) t102 (t102.length:Int) (wrap64 (x22_1+1))) else (none)) else (none)) else (if y116.length<8796093022208 then (impl_notate.l0 kj13 l0 t102 (y116++[t120]) t102 (t102.length:Int) (wrap64 (x22_1+1))) else (none)))) else (none)) else (none))=some (r1,r2):=by first|(rw [hy116];with_reducible exact H)|(have H2_:=(Option.bind_some _ _).symm.trans H;rw [hy116];with_reducible exact H2_)|(have H2_:=(Option.bind_some _ _).symm.trans H;with_reducible exact H2_)|with_reducible exact H|(rw [hy116];exact H)|exact H
            have Ny116:=Aside0.mk hy116
            clear hy116
            by_cases c41:0≤((rd_T136 t102 x22_1).f0)
            ·rw [if_pos c41] at H
             have c41b0:decide (0≤((rd_T136 t102 x22_1).f0))=true:=decide_eq_true c41
             clear c41
             by_cases c42:((rd_T136 t102 x22_1).f0)<(l0.length:Int)
             ·rw [if_pos c42] at H
              have c42b0:decide (((rd_T136 t102 x22_1).f0)<(l0.length:Int))=true:=decide_eq_true c42
              clear c42
              replace H:=Option.bind_eq_some_iff.mp H
              obtain ⟨t120,A430,H⟩:=H
              replace H:(if ((rd_T136 t102 x22_1).f3)=true then (if 1+t120.size≤9223372036854775807 then (if y116.length<8796093022208 then (impl_notate.l0 kj13 l0 t102 (y116++[(⟨#[126]⟩:ByteArray)++t120]) t102 (t102.length:Int) (wrap64 (x22_1+1))) else (none)) else (none)) else (if y116.length<8796093022208 then (impl_notate.l0 kj13 l0 t102 (y116++[t120]) t102 (t102.length:Int) (wrap64 (x22_1+1))) else (none)))=some (r1,r2):=H
              have A43:=Aside0.mk A430
              clear A430
              by_cases c44:((rd_T136 t102 x22_1).f3)=true
              ·rw [if_pos c44] at H
               have c44b0:((rd_T136 t102 x22_1).f3)=true:=c44
               clear c44
               by_cases c45:1+t120.size≤9223372036854775807
               ·rw [if_pos c45] at H
                have c45b0:=eq_true c45
                have c45b1:decide (1+t120.size≤9223372036854775807)=true:=decide_eq_true c45
                try have c45b2:(9223372036854775807<1+t120.size)=False:=eq_false (Nat.not_lt.2 c45)
                by_cases c46:y116.length<8796093022208
                ·rw [if_pos c46] at H
                 have LMc46:=Aside0.mk c46
                 clear c46
                 obtain ⟨y121,hy121⟩:∃y_:List ByteArray,y_=(y116++[(⟨#[126]⟩:ByteArray)++t120]):=⟨_,rfl⟩
                 replace H:(impl_notate.l0 kj13 l0 t102 y121 t102 (t102.length:Int) (wrap64 (x22_1+1)))=some (r1,r2):=by first|(rw [hy121];with_reducible exact H)|(have H2_:=(Option.bind_some _ _).symm.trans H;rw [hy121];with_reducible exact H2_)|(have H2_:=(Option.bind_some _ _).symm.trans H;with_reducible exact H2_)|with_reducible exact H|(rw [hy121];exact H)|exact H
                 have Ny121:=Aside0.mk hy121
                 clear hy121
                 have H':=Aside0.mk H
                 clear H
                 have hnb47:=NB107_101.out
                 have hnc47:=NB101_107.out
                 have hcz48_0:wc.cell? ⟨gb107,0,none⟩=some (.int .i64 ((rd_T136 t102 x22_1).f0)):=(blk_cell BK107.out 0).trans rfl
                 have hcz48_1:wc.cell? ⟨gb107,1,none⟩=some (.int .i64 ((rd_T136 t102 x22_1).f1)):=(blk_cell BK107.out 1).trans rfl
                 have hcz48_2:wc.cell? ⟨gb107,2,none⟩=some (.int .i64 ((rd_T136 t102 x22_1).f2)):=(blk_cell BK107.out 2).trans rfl
                 have hcz48_3:wc.cell? ⟨gb107,3,none⟩=some (.bool ((rd_T136 t102 x22_1).f3)):=(blk_cell BK107.out 3).trans rfl
                 have hfz48_0:=blk_frozen BK107.out 0
                 have hfz48_1:=blk_frozen BK107.out 1
                 have hfz48_2:=blk_frozen BK107.out 2
                 have hfz48_3:=blk_frozen BK107.out 3
                 try go_wp2_with (first|((with_reducible refine gate_builtin (b:=.append) (xs:=#[.tmp 42,.tmp 43]) rfl ?_);at_builtin;refine Kd.R_append Kd.string (w0:=w) w.heap.size rfl (.tmp 42) (.tmp 43) 104 9 (.string ⟨#[]⟩) 16 rfl Tryz.underlying104 info9 rfl zbl zdb u9 x9_1 (⟨#[124,124]⟩:ByteArray) [.string (⟨#[124,124]⟩:ByteArray)] (fun _=>True) (fun _=>False) rfl rfl ?aP (fun _ hk=>hk.elim) ?aF ?aO ?aB ?aS ?aL ?_;(case aP=>exact rfl);(case aB=>exact zf);(case aF=>exact zdj);(case aO=>exact zak);(case aS=>exact (below_size zf));(case aL=>have:=LMc40.out;omega);intro v117 w49 ho hb hg hat;rw [←Ny116.out] at ho;replace HO_8:=Aside0.mk (Kd.R_over' zat (Kd.R_typed zak) zbl hg);replace HO_20:=Aside0.mk (Kd.R_over' zar (Kd.R_typed zak) zbl hg);replace BK101:=Aside0.mk (blk_grown (g:=gb101) (o:=.cells #[.string a1_0,.slice A1_1 l1_1.length c1_1,.slice A1_2 l1_2.length c1_2] 50 (0,0)) zc hg (Kd.R_ne HO_9.out BK101.out zbl));replace BK107:=Aside0.mk (blk_grown (g:=gb107) (o:=.cells #[.int .i64 ((rd_T136 t102 x22_1).f0),.int .i64 ((rd_T136 t102 x22_1).f1),.int .i64 ((rd_T136 t102 x22_1).f2),.bool ((rd_T136 t102 x22_1).f3)] 136 (0,0)) zas hg (Kd.R_ne HO_9.out BK107.out zbl));replace HB:=Aside0.mk (hb);have HO118:=Aside0.mk (ho);clear HO_9;clear ho hb hg hat))
                 replace HO_8:=Aside0.mk (Kd.R_drew HO_8.out)
                 replace HO_20:=Aside0.mk (Kd.R_drew HO_20.out)
                 replace HO118:=Aside0.mk (Kd.R_drew HO118.out)
                 replace BK101:=Aside0.mk (blk_drew BK101.out)
                 replace BK107:=Aside0.mk (blk_drew BK107.out)
                 replace HB:=Aside0.mk (below_drew1 HB.out)
                 have p119:0≤(((rd_T136 t102 x22_1).f0):Int):=of_decide_eq_true ze
                 have q119:((rd_T136 t102 x22_1).f0)<(l0.length:Int):=of_decide_eq_true ze
                 obtain ⟨ad119,e119,hx119_0,hx119_1⟩:=at_T67 HR0.out ((rd_T136 t102 x22_1).f0) p119 q119
                 have hw119_1:=hx119_1
                 have hw119_0:=hx119_0
                 cases e119
                 replace hx119_0:=(HB.out.cell (World.block_lt_of_cell? w _ hx119_0)).trans hx119_0
                 replace hx119_1:=(HB.out.cell (World.block_lt_of_cell? w _ hx119_1)).trans hx119_1
                 replace p119:=eq_true p119
                 replace q119:=eq_true q119
                 refine start_ (n:=10) (S:=fun w'=>w'.cell? ⟨gb107,0,none⟩=some (.int .i64 ((rd_T136 t102 x22_1).f0))∧w'.cell? ⟨gb107,1,none⟩=some (.int .i64 ((rd_T136 t102 x22_1).f1))∧w'.cell? ⟨gb107,2,none⟩=some (.int .i64 ((rd_T136 t102 x22_1).f2))∧w'.cell? ⟨gb107,3,none⟩=some (.bool ((rd_T136 t102 x22_1).f3))∧w'.cell? (ad119.add ((((rd_T136 t102 x22_1).f0)).toNat*2))=some (.int .i64 ((rd_T67 l0 ((rd_T136 t102 x22_1).f0)).f0))∧w'.cell? ⟨(ad119.add ((((rd_T136 t102 x22_1).f0)).toNat*2)).block,(ad119.add ((((rd_T136 t102 x22_1).f0)).toNat*2)).off+1,none⟩=some (.int .i64 ((rd_T67 l0 ((rd_T136 t102 x22_1).f0)).f1))) (ds:=[]) #[false,false,false,false,false,false,false,false,false,false] zau rfl rfl ⟨(blk_cell BK107.out 0).trans rfl,(blk_cell BK107.out 1).trans rfl,(blk_cell BK107.out 2).trans rfl,(blk_cell BK107.out 3).trans rfl,((HB.out.cell (World.block_lt_of_cell? w _ hw119_0)).trans hw119_0),((HB.out.cell (World.block_lt_of_cell? w _ hw119_1)).trans hw119_1)⟩ (fun hHeld=>?_);refine with_tabW impl_notate.tab12 impl_notate.bits12 (fun HT_ HW_=>?_)
                 generalize w49.drew=w50 at HO_8 HO_20 HO118 BK101 BK107 HB hx119_0 hx119_1 hHeld ⊢
                 refine pA 0 45 ?_
                 refine pA 1 46 ?_
                 refine pA 6 51 ?_
                 refine pT 2 47 rfl zbu ?_
                 refine pA 3 48 ?_
                 refine pA 4 49 ?_
                 refine pT 5 50 rfl zbu ?_
                 refine pT 7 52 rfl zbu ?_
                 refine one_ (i:=8) (N:=some 53) #[true,true,true,true,true,true,true,true,true,false] rfl rfl (one_of HT_.out zau) zbl (fun K hK=>?_)
                 refine goes_ Tryz.func108 zau rfl #[.int .i64 ((rd_T67 l0 ((rd_T136 t102 x22_1).f0)).f0),.int .i64 ((rd_T136 t102 x22_1).f1)] (by rfl) rfl rfl zd ?_
                 with_reducible refine (impl_noteText.calls ((rd_T67 l0 ((rd_T136 t102 x22_1).f0)).f0) ((rd_T136 t102 x22_1).f1) t120 _ ?side1 A43.out).mono ?_
                 (case side1=>exact Door1.at HD.out zf)
                 rintro e w51 ⟨rfl,hb⟩
                 refine ⟨_,rfl,?_⟩
                 replace HO_8:=Aside0.mk (Kd.R_below zat hb)
                 replace HO_20:=Aside0.mk (Kd.R_below zar hb)
                 replace HO118:=Aside0.mk (Kd.R_below zbn hb)
                 replace BK101:=Aside0.mk (blk_below (g:=gb101) (o:=.cells #[.string a1_0,.slice A1_1 l1_1.length c1_1,.slice A1_2 l1_2.length c1_2] 50 (0,0)) zc hb)
                 replace BK107:=Aside0.mk (blk_below (g:=gb107) (o:=.cells #[.int .i64 ((rd_T136 t102 x22_1).f0),.int .i64 ((rd_T136 t102 x22_1).f1),.int .i64 ((rd_T136 t102 x22_1).f2),.bool ((rd_T136 t102 x22_1).f3)] 136 (0,0)) zas hb)
                 replace HB:=Aside0.mk (below_step zf hb)
                 (try clear hb)
                 (try clear hb2)
                 (try clear hk)
                 (try clear hi)
                 refine hK.out _ _ ⟨(blk_cell BK107.out 0).trans rfl,(blk_cell BK107.out 1).trans rfl,(blk_cell BK107.out 2).trans rfl,(blk_cell BK107.out 3).trans rfl,((HB.out.cell (World.block_lt_of_cell? w _ hw119_0)).trans hw119_0),((HB.out.cell (World.block_lt_of_cell? w _ hw119_1)).trans hw119_1)⟩ (fun hHeld=>?_)
                 clear hK K
                 refine pN 53 ?_
                 refine pA 9 12 ?_
                 refine done_ (done_of HT_.out zau) ?_
                 have hcz52_0:w51.cell? ⟨gb107,0,none⟩=some (.int .i64 ((rd_T136 t102 x22_1).f0)):=(blk_cell BK107.out 0).trans rfl
                 have hcz52_1:w51.cell? ⟨gb107,1,none⟩=some (.int .i64 ((rd_T136 t102 x22_1).f1)):=(blk_cell BK107.out 1).trans rfl
                 have hcz52_2:w51.cell? ⟨gb107,2,none⟩=some (.int .i64 ((rd_T136 t102 x22_1).f2)):=(blk_cell BK107.out 2).trans rfl
                 have hcz52_3:w51.cell? ⟨gb107,3,none⟩=some (.bool ((rd_T136 t102 x22_1).f3)):=(blk_cell BK107.out 3).trans rfl
                 have hfz52_0:=blk_frozen BK107.out 0
                 have hfz52_1:=blk_frozen BK107.out 1
                 have hfz52_2:=blk_frozen BK107.out 2
                 have hfz52_3:=blk_frozen BK107.out 3
                 try go_wp2_with (first|((with_reducible refine gate_builtin (b:=.append) (xs:=#[.tmp 58,.tmp 60]) rfl ?_);at_builtin;refine Kd.R_append Kd.string (w0:=w) w.heap.size rfl (.tmp 58) (.tmp 60) 104 9 (.string ⟨#[]⟩) 16 rfl Tryz.underlying104 info9 rfl zbl zdb v117 y116 ((⟨#[126]⟩:ByteArray)++t120) [.string ((⟨#[126]⟩:ByteArray)++t120)] (fun _=>True) (fun _=>False) rfl rfl ?aP (fun _ hk=>hk.elim) ?aF ?aO ?aB ?aS ?aL ?_;(case aP=>exact rfl);(case aB=>exact zf);(case aF=>exact zdj);(case aO=>exact zbn);(case aS=>exact (below_size zf));(case aL=>have:=LMc46.out;omega);intro v122 w53 ho hb hg hat;rw [←Ny121.out] at ho;replace HO_8:=Aside0.mk (Kd.R_over' zat (Kd.R_typed zbn) zbl hg);replace HO_20:=Aside0.mk (Kd.R_over' zar (Kd.R_typed zbn) zbl hg);replace BK101:=Aside0.mk (blk_grown (g:=gb101) (o:=.cells #[.string a1_0,.slice A1_1 l1_1.length c1_1,.slice A1_2 l1_2.length c1_2] 50 (0,0)) zc hg (Kd.R_ne HO118.out BK101.out zbl));replace BK107:=Aside0.mk (blk_grown (g:=gb107) (o:=.cells #[.int .i64 ((rd_T136 t102 x22_1).f0),.int .i64 ((rd_T136 t102 x22_1).f1),.int .i64 ((rd_T136 t102 x22_1).f2),.bool ((rd_T136 t102 x22_1).f3)] 136 (0,0)) zas hg (Kd.R_ne HO118.out BK107.out zbl));replace HB:=Aside0.mk (hb);have HO123:=Aside0.mk (ho);clear HO118;clear ho hb hg hat))
                 go_roundg kj13
                 case measure=>have:=HK1.out;have:=HJ13.out;omega
                 case rel=>exact ⟨(y121),(wrap64 (x22_1+1)),zg,H',⟨by have:=HK1.out;have:=HJ13.out;omega⟩,⟨zcs⟩,⟨by (with_reducible repeat (first|apply Kd.R_alloc|apply Kd.R_drewN|apply Kd.R_drew));exact HO123.out⟩,⟨zcr⟩,⟨zc⟩,⟨zf⟩⟩
                ·rw [if_neg c46] at H
                 exact absurd H zdd
               ·rw [if_neg c45] at H
                exact absurd H zdd
              ·rw [if_neg c44] at H
               have c44b0:((rd_T136 t102 x22_1).f3)=false:=by simpa using c44
               clear c44
               by_cases c54:y116.length<8796093022208
               ·rw [if_pos c54] at H
                have LMc54:=Aside0.mk c54
                clear c54
                obtain ⟨y124,hy124⟩:∃y_:List ByteArray,y_=(y116++[t120]):=⟨_,rfl⟩
                replace H:(impl_notate.l0 kj13 l0 t102 y124 t102 (t102.length:Int) (wrap64 (x22_1+1)))=some (r1,r2):=by first|(rw [hy124];with_reducible exact H)|(have H2_:=(Option.bind_some _ _).symm.trans H;rw [hy124];with_reducible exact H2_)|(have H2_:=(Option.bind_some _ _).symm.trans H;with_reducible exact H2_)|with_reducible exact H|(rw [hy124];exact H)|exact H
                have Ny124:=Aside0.mk hy124
                clear hy124
                have H':=Aside0.mk H
                clear H
                have hnb55:=NB107_101.out
                have hnc55:=NB101_107.out
                have hcz56_0:wc.cell? ⟨gb107,0,none⟩=some (.int .i64 ((rd_T136 t102 x22_1).f0)):=(blk_cell BK107.out 0).trans rfl
                have hcz56_1:wc.cell? ⟨gb107,1,none⟩=some (.int .i64 ((rd_T136 t102 x22_1).f1)):=(blk_cell BK107.out 1).trans rfl
                have hcz56_2:wc.cell? ⟨gb107,2,none⟩=some (.int .i64 ((rd_T136 t102 x22_1).f2)):=(blk_cell BK107.out 2).trans rfl
                have hcz56_3:wc.cell? ⟨gb107,3,none⟩=some (.bool ((rd_T136 t102 x22_1).f3)):=(blk_cell BK107.out 3).trans rfl
                have hfz56_0:=blk_frozen BK107.out 0
                have hfz56_1:=blk_frozen BK107.out 1
                have hfz56_2:=blk_frozen BK107.out 2
                have hfz56_3:=blk_frozen BK107.out 3
                try go_wp2_with (first|((with_reducible refine gate_builtin (b:=.append) (xs:=#[.tmp 42,.tmp 43]) rfl ?_);at_builtin;refine Kd.R_append Kd.string (w0:=w) w.heap.size rfl (.tmp 42) (.tmp 43) 104 9 (.string ⟨#[]⟩) 16 rfl Tryz.underlying104 info9 rfl zbl zdb u9 x9_1 (⟨#[124,124]⟩:ByteArray) [.string (⟨#[124,124]⟩:ByteArray)] (fun _=>True) (fun _=>False) rfl rfl ?aP (fun _ hk=>hk.elim) ?aF ?aO ?aB ?aS ?aL ?_;(case aP=>exact rfl);(case aB=>exact zf);(case aF=>exact zdj);(case aO=>exact zak);(case aS=>exact (below_size zf));(case aL=>have:=LMc40.out;omega);intro v117 w57 ho hb hg hat;rw [←Ny116.out] at ho;replace HO_8:=Aside0.mk (Kd.R_over' zat (Kd.R_typed zak) zbl hg);replace HO_20:=Aside0.mk (Kd.R_over' zar (Kd.R_typed zak) zbl hg);replace BK101:=Aside0.mk (blk_grown (g:=gb101) (o:=.cells #[.string a1_0,.slice A1_1 l1_1.length c1_1,.slice A1_2 l1_2.length c1_2] 50 (0,0)) zc hg (Kd.R_ne HO_9.out BK101.out zbl));replace BK107:=Aside0.mk (blk_grown (g:=gb107) (o:=.cells #[.int .i64 ((rd_T136 t102 x22_1).f0),.int .i64 ((rd_T136 t102 x22_1).f1),.int .i64 ((rd_T136 t102 x22_1).f2),.bool ((rd_T136 t102 x22_1).f3)] 136 (0,0)) zas hg (Kd.R_ne HO_9.out BK107.out zbl));replace HB:=Aside0.mk (hb);have HO118:=Aside0.mk (ho);clear HO_9;clear ho hb hg hat))
                replace HO_8:=Aside0.mk (Kd.R_drew HO_8.out)
                replace HO_20:=Aside0.mk (Kd.R_drew HO_20.out)
                replace HO118:=Aside0.mk (Kd.R_drew HO118.out)
                replace BK101:=Aside0.mk (blk_drew BK101.out)
                replace BK107:=Aside0.mk (blk_drew BK107.out)
                replace HB:=Aside0.mk (below_drew1 HB.out)
                have p119:0≤(((rd_T136 t102 x22_1).f0):Int):=of_decide_eq_true ze
                have q119:((rd_T136 t102 x22_1).f0)<(l0.length:Int):=of_decide_eq_true ze
                obtain ⟨ad119,e119,hx119_0,hx119_1⟩:=at_T67 HR0.out ((rd_T136 t102 x22_1).f0) p119 q119
                have hw119_1:=hx119_1
                have hw119_0:=hx119_0
                cases e119
                replace hx119_0:=(HB.out.cell (World.block_lt_of_cell? w _ hx119_0)).trans hx119_0
                replace hx119_1:=(HB.out.cell (World.block_lt_of_cell? w _ hx119_1)).trans hx119_1
                replace p119:=eq_true p119
                replace q119:=eq_true q119
                refine start_ (n:=10) (S:=fun w'=>w'.cell? ⟨gb107,0,none⟩=some (.int .i64 ((rd_T136 t102 x22_1).f0))∧w'.cell? ⟨gb107,1,none⟩=some (.int .i64 ((rd_T136 t102 x22_1).f1))∧w'.cell? ⟨gb107,2,none⟩=some (.int .i64 ((rd_T136 t102 x22_1).f2))∧w'.cell? ⟨gb107,3,none⟩=some (.bool ((rd_T136 t102 x22_1).f3))∧w'.cell? (ad119.add ((((rd_T136 t102 x22_1).f0)).toNat*2))=some (.int .i64 ((rd_T67 l0 ((rd_T136 t102 x22_1).f0)).f0))∧w'.cell? ⟨(ad119.add ((((rd_T136 t102 x22_1).f0)).toNat*2)).block,(ad119.add ((((rd_T136 t102 x22_1).f0)).toNat*2)).off+1,none⟩=some (.int .i64 ((rd_T67 l0 ((rd_T136 t102 x22_1).f0)).f1))) (ds:=[]) #[false,false,false,false,false,false,false,false,false,false] zau rfl rfl ⟨(blk_cell BK107.out 0).trans rfl,(blk_cell BK107.out 1).trans rfl,(blk_cell BK107.out 2).trans rfl,(blk_cell BK107.out 3).trans rfl,((HB.out.cell (World.block_lt_of_cell? w _ hw119_0)).trans hw119_0),((HB.out.cell (World.block_lt_of_cell? w _ hw119_1)).trans hw119_1)⟩ (fun hHeld=>?_);refine with_tabW impl_notate.tab12 impl_notate.bits12 (fun HT_ HW_=>?_)
                generalize w57.drew=w58 at HO_8 HO_20 HO118 BK101 BK107 HB hx119_0 hx119_1 hHeld ⊢
                refine pA 0 45 ?_
                refine pA 1 46 ?_
                refine pA 6 51 ?_
                refine pT 2 47 rfl zbu ?_
                refine pA 3 48 ?_
                refine pA 4 49 ?_
                refine pT 5 50 rfl zbu ?_
                refine pT 7 52 rfl zbu ?_
                refine one_ (i:=8) (N:=some 53) #[true,true,true,true,true,true,true,true,true,false] rfl rfl (one_of HT_.out zau) zbl (fun K hK=>?_)
                refine goes_ Tryz.func108 zau rfl #[.int .i64 ((rd_T67 l0 ((rd_T136 t102 x22_1).f0)).f0),.int .i64 ((rd_T136 t102 x22_1).f1)] (by rfl) rfl rfl zd ?_
                with_reducible refine (impl_noteText.calls ((rd_T67 l0 ((rd_T136 t102 x22_1).f0)).f0) ((rd_T136 t102 x22_1).f1) t120 _ ?side1 A43.out).mono ?_
                (case side1=>exact Door1.at HD.out zf)
                rintro e w59 ⟨rfl,hb⟩
                refine ⟨_,rfl,?_⟩
                replace HO_8:=Aside0.mk (Kd.R_below zat hb)
                replace HO_20:=Aside0.mk (Kd.R_below zar hb)
                replace HO118:=Aside0.mk (Kd.R_below zbn hb)
                replace BK101:=Aside0.mk (blk_below (g:=gb101) (o:=.cells #[.string a1_0,.slice A1_1 l1_1.length c1_1,.slice A1_2 l1_2.length c1_2] 50 (0,0)) zc hb)
                replace BK107:=Aside0.mk (blk_below (g:=gb107) (o:=.cells #[.int .i64 ((rd_T136 t102 x22_1).f0),.int .i64 ((rd_T136 t102 x22_1).f1),.int .i64 ((rd_T136 t102 x22_1).f2),.bool ((rd_T136 t102 x22_1).f3)] 136 (0,0)) zas hb)
                replace HB:=Aside0.mk (below_step zf hb)
                (try clear hb)
                (try clear hb2)
                (try clear hk)
                (try clear hi)
                refine hK.out _ _ ⟨(blk_cell BK107.out 0).trans rfl,(blk_cell BK107.out 1).trans rfl,(blk_cell BK107.out 2).trans rfl,(blk_cell BK107.out 3).trans rfl,((HB.out.cell (World.block_lt_of_cell? w _ hw119_0)).trans hw119_0),((HB.out.cell (World.block_lt_of_cell? w _ hw119_1)).trans hw119_1)⟩ (fun hHeld=>?_)
                clear hK K
                refine pN 53 ?_
                refine pA 9 12 ?_
                refine done_ (done_of HT_.out zau) ?_
                have hcz60_0:w59.cell? ⟨gb107,0,none⟩=some (.int .i64 ((rd_T136 t102 x22_1).f0)):=(blk_cell BK107.out 0).trans rfl
                have hcz60_1:w59.cell? ⟨gb107,1,none⟩=some (.int .i64 ((rd_T136 t102 x22_1).f1)):=(blk_cell BK107.out 1).trans rfl
                have hcz60_2:w59.cell? ⟨gb107,2,none⟩=some (.int .i64 ((rd_T136 t102 x22_1).f2)):=(blk_cell BK107.out 2).trans rfl
                have hcz60_3:w59.cell? ⟨gb107,3,none⟩=some (.bool ((rd_T136 t102 x22_1).f3)):=(blk_cell BK107.out 3).trans rfl
                have hfz60_0:=blk_frozen BK107.out 0
                have hfz60_1:=blk_frozen BK107.out 1
                have hfz60_2:=blk_frozen BK107.out 2
                have hfz60_3:=blk_frozen BK107.out 3
                try go_wp2_with (first|((with_reducible refine gate_builtin (b:=.append) (xs:=#[.tmp 58,.tmp 60]) rfl ?_);at_builtin;refine Kd.R_append Kd.string (w0:=w) w.heap.size rfl (.tmp 58) (.tmp 60) 104 9 (.string ⟨#[]⟩) 16 rfl Tryz.underlying104 info9 rfl zbl zdb v117 y116 t120 [.string t120] (fun _=>True) (fun _=>False) rfl rfl ?aP (fun _ hk=>hk.elim) ?aF ?aO ?aB ?aS ?aL ?_;(case aP=>exact rfl);(case aB=>exact zf);(case aF=>exact zdj);(case aO=>exact zbn);(case aS=>exact (below_size zf));(case aL=>have:=LMc54.out;omega);intro v125 w61 ho hb hg hat;rw [←Ny124.out] at ho;replace HO_8:=Aside0.mk (Kd.R_over' zat (Kd.R_typed zbn) zbl hg);replace HO_20:=Aside0.mk (Kd.R_over' zar (Kd.R_typed zbn) zbl hg);replace BK101:=Aside0.mk (blk_grown (g:=gb101) (o:=.cells #[.string a1_0,.slice A1_1 l1_1.length c1_1,.slice A1_2 l1_2.length c1_2] 50 (0,0)) zc hg (Kd.R_ne HO118.out BK101.out zbl));replace BK107:=Aside0.mk (blk_grown (g:=gb107) (o:=.cells #[.int .i64 ((rd_T136 t102 x22_1).f0),.int .i64 ((rd_T136 t102 x22_1).f1),.int .i64 ((rd_T136 t102 x22_1).f2),.bool ((rd_T136 t102 x22_1).f3)] 136 (0,0)) zas hg (Kd.R_ne HO118.out BK107.out zbl));replace HB:=Aside0.mk (hb);have HO126:=Aside0.mk (ho);clear HO118;clear ho hb hg hat))
                go_roundg kj13
                case measure=>have:=HK1.out;have:=HJ13.out;omega
                case rel=>exact ⟨(y124),(wrap64 (x22_1+1)),zg,H',⟨by have:=HK1.out;have:=HJ13.out;omega⟩,⟨zcs⟩,⟨by (with_reducible repeat (first|apply Kd.R_alloc|apply Kd.R_drewN|apply Kd.R_drew));exact HO126.out⟩,⟨zcr⟩,⟨zc⟩,⟨zf⟩⟩
               ·rw [if_neg c54] at H
                exact absurd H zdd
             ·rw [if_neg c42] at H
              exact absurd H zdd
            ·rw [if_neg c41] at H
             exact absurd H zdd
           ·rw [if_neg c40] at H
            exact absurd H zdd
          ·rw [if_neg c39] at H
           have c39b0:(((rd_T136 t102 x22_1).f2) == 0)=false:=beq_eq_false_iff_ne.mpr c39
           have c39b1:(((rd_T136 t102 x22_1).f2) != 0)=true:=bne_iff_ne.mpr c39
           by_cases c62:x9_1.length<8796093022208
           ·rw [if_pos c62] at H
            have LMc62:=Aside0.mk c62
            clear c62
            obtain ⟨y127,hy127⟩:∃y_:List ByteArray,y_=(x9_1++[(⟨#[124]⟩:ByteArray)]):=⟨_,rfl⟩
            replace H:(if 0≤((rd_T136 t102 x22_1).f0) then (if ((rd_T136 t102 x22_1).f0)<(l0.length:Int) then ((impl_noteText.f ((rd_T67 l0 ((rd_T136 t102 x22_1).f0)).f0) ((rd_T136 t102 x22_1).f1)).bind fun t131=>(if ((rd_T136 t102 x22_1).f3)=true then (if 1+t131.size≤9223372036854775807 then (if y127.length<8796093022208 then (impl_notate.l0 kj13 l0 t102 (y127++[(⟨#[126]⟩:ByteArray)++t131]) t102 (t102.length:Int) (wrap64 (x22_1+1))) else (none)) else (none)) else (if y127.length<8796093022208 then (impl_notate.l0 kj13 l0 t102 (y127++[t131]) t102 (t102.length:Int) (wrap64 (x22_1+1))) else (none)))) else (none)) else (none))=some (r1,r2):=by first|(rw [hy127];with_reducible exact H)|(have H2_:=(Option.bind_some _ _).symm.trans H;rw [hy127];with_reducible exact H2_)|(have H2_:=(Option.bind_some _ _).symm.trans H;with_reducible exact H2_)|with_reducible exact H|(rw [hy127];exact H)|exact H
            have Ny127:=Aside0.mk hy127
            clear hy127
            by_cases c63:0≤((rd_T136 t102 x22_1).f0)
            ·rw [if_pos c63] at H
             have c63b0:decide (0≤((rd_T136 t102 x22_1).f0))=true:=decide_eq_true c63
             clear c63
             by_cases c64:((rd_T136 t102 x22_1).f0)<(l0.length:Int)
             ·rw [if_pos c64] at H
              have c64b0:decide (((rd_T136 t102 x22_1).f0)<(l0.length:Int))=true:=decide_eq_true c64
              clear c64
              replace H:=Option.bind_eq_some_iff.mp H
              obtain ⟨t131,A650,H⟩:=H
              replace H:(if ((rd_T136 t102 x22_1).f3)=true then (if 1+t131.size≤9223372036854775807 then (if y127.length<8796093022208 then (impl_notate.l0 kj13 l0 t102 (y127++[(⟨#[126]⟩:ByteArray)++t131]) t102 (t102.length:Int) (wrap64 (x22_1+1))) else (none)) else (none)) else (if y127.length<8796093022208 then (impl_notate.l0 kj13 l0 t102 (y127++[t131]) t102 (t102.length:Int) (wrap64 (x22_1+1))) else (none)))=some (r1,r2):=H
              have A65:=Aside0.mk A650
              clear A650
              by_cases c66:((rd_T136 t102 x22_1).f3)=true
              ·rw [if_pos c66] at H
               have c66b0:((rd_T136 t102 x22_1).f3)=true:=c66
               clear c66
               by_cases c67:1+t131.size≤9223372036854775807
               ·rw [if_pos c67] at H
                have c67b0:=eq_true c67
                have c67b1:decide (1+t131.size≤9223372036854775807)=true:=decide_eq_true c67
                try have c67b2:(9223372036854775807<1+t131.size)=False:=eq_false (Nat.not_lt.2 c67)
                by_cases c68:y127.length<8796093022208
                ·rw [if_pos c68] at H
                 have LMc68:=Aside0.mk c68
                 clear c68
                 obtain ⟨y132,hy132⟩:∃y_:List ByteArray,y_=(y127++[(⟨#[126]⟩:ByteArray)++t131]):=⟨_,rfl⟩
                 replace H:(impl_notate.l0 kj13 l0 t102 y132 t102 (t102.length:Int) (wrap64 (x22_1+1)))=some (r1,r2):=by first|(rw [hy132];with_reducible exact H)|(have H2_:=(Option.bind_some _ _).symm.trans H;rw [hy132];with_reducible exact H2_)|(have H2_:=(Option.bind_some _ _).symm.trans H;with_reducible exact H2_)|with_reducible exact H|(rw [hy132];exact H)|exact H
                 have Ny132:=Aside0.mk hy132
                 clear hy132
                 have H':=Aside0.mk H
                 clear H
                 have hnb69:=NB107_101.out
                 have hnc69:=NB101_107.out
                 have hcz70_0:wc.cell? ⟨gb107,0,none⟩=some (.int .i64 ((rd_T136 t102 x22_1).f0)):=(blk_cell BK107.out 0).trans rfl
                 have hcz70_1:wc.cell? ⟨gb107,1,none⟩=some (.int .i64 ((rd_T136 t102 x22_1).f1)):=(blk_cell BK107.out 1).trans rfl
                 have hcz70_2:wc.cell? ⟨gb107,2,none⟩=some (.int .i64 ((rd_T136 t102 x22_1).f2)):=(blk_cell BK107.out 2).trans rfl
                 have hcz70_3:wc.cell? ⟨gb107,3,none⟩=some (.bool ((rd_T136 t102 x22_1).f3)):=(blk_cell BK107.out 3).trans rfl
                 have hfz70_0:=blk_frozen BK107.out 0
                 have hfz70_1:=blk_frozen BK107.out 1
                 have hfz70_2:=blk_frozen BK107.out 2
                 have hfz70_3:=blk_frozen BK107.out 3
                 try go_wp2_with (first|((with_reducible refine gate_builtin (b:=.append) (xs:=#[.tmp 27,.tmp 28]) rfl ?_);at_builtin;refine Kd.R_append Kd.string (w0:=w) w.heap.size rfl (.tmp 27) (.tmp 28) 104 9 (.string ⟨#[]⟩) 16 rfl Tryz.underlying104 info9 rfl zbl zdb u9 x9_1 (⟨#[124]⟩:ByteArray) [.string (⟨#[124]⟩:ByteArray)] (fun _=>True) (fun _=>False) rfl rfl ?aP (fun _ hk=>hk.elim) ?aF ?aO ?aB ?aS ?aL ?_;(case aP=>exact rfl);(case aB=>exact zf);(case aF=>exact zdj);(case aO=>exact zak);(case aS=>exact (below_size zf));(case aL=>have:=LMc62.out;omega);intro v128 w71 ho hb hg hat;rw [←Ny127.out] at ho;replace HO_8:=Aside0.mk (Kd.R_over' zat (Kd.R_typed zak) zbl hg);replace HO_20:=Aside0.mk (Kd.R_over' zar (Kd.R_typed zak) zbl hg);replace BK101:=Aside0.mk (blk_grown (g:=gb101) (o:=.cells #[.string a1_0,.slice A1_1 l1_1.length c1_1,.slice A1_2 l1_2.length c1_2] 50 (0,0)) zc hg (Kd.R_ne HO_9.out BK101.out zbl));replace BK107:=Aside0.mk (blk_grown (g:=gb107) (o:=.cells #[.int .i64 ((rd_T136 t102 x22_1).f0),.int .i64 ((rd_T136 t102 x22_1).f1),.int .i64 ((rd_T136 t102 x22_1).f2),.bool ((rd_T136 t102 x22_1).f3)] 136 (0,0)) zas hg (Kd.R_ne HO_9.out BK107.out zbl));replace HB:=Aside0.mk (hb);have HO129:=Aside0.mk (ho);clear HO_9;clear ho hb hg hat))
                 replace HO_8:=Aside0.mk (Kd.R_drew HO_8.out)
                 replace HO_20:=Aside0.mk (Kd.R_drew HO_20.out)
                 replace HO129:=Aside0.mk (Kd.R_drew HO129.out)
                 replace BK101:=Aside0.mk (blk_drew BK101.out)
                 replace BK107:=Aside0.mk (blk_drew BK107.out)
                 replace HB:=Aside0.mk (below_drew1 HB.out)
                 have p130:0≤(((rd_T136 t102 x22_1).f0):Int):=of_decide_eq_true ze
                 have q130:((rd_T136 t102 x22_1).f0)<(l0.length:Int):=of_decide_eq_true ze
                 obtain ⟨ad130,e130,hx130_0,hx130_1⟩:=at_T67 HR0.out ((rd_T136 t102 x22_1).f0) p130 q130
                 have hw130_1:=hx130_1
                 have hw130_0:=hx130_0
                 cases e130
                 replace hx130_0:=(HB.out.cell (World.block_lt_of_cell? w _ hx130_0)).trans hx130_0
                 replace hx130_1:=(HB.out.cell (World.block_lt_of_cell? w _ hx130_1)).trans hx130_1
                 replace p130:=eq_true p130
                 replace q130:=eq_true q130
                 refine start_ (n:=10) (S:=fun w'=>w'.cell? ⟨gb107,0,none⟩=some (.int .i64 ((rd_T136 t102 x22_1).f0))∧w'.cell? ⟨gb107,1,none⟩=some (.int .i64 ((rd_T136 t102 x22_1).f1))∧w'.cell? ⟨gb107,2,none⟩=some (.int .i64 ((rd_T136 t102 x22_1).f2))∧w'.cell? ⟨gb107,3,none⟩=some (.bool ((rd_T136 t102 x22_1).f3))∧w'.cell? (ad130.add ((((rd_T136 t102 x22_1).f0)).toNat*2))=some (.int .i64 ((rd_T67 l0 ((rd_T136 t102 x22_1).f0)).f0))∧w'.cell? ⟨(ad130.add ((((rd_T136 t102 x22_1).f0)).toNat*2)).block,(ad130.add ((((rd_T136 t102 x22_1).f0)).toNat*2)).off+1,none⟩=some (.int .i64 ((rd_T67 l0 ((rd_T136 t102 x22_1).f0)).f1))) (ds:=[]) #[false,false,false,false,false,false,false,false,false,false] zau rfl rfl ⟨(blk_cell BK107.out 0).trans rfl,(blk_cell BK107.out 1).trans rfl,(blk_cell BK107.out 2).trans rfl,(blk_cell BK107.out 3).trans rfl,((HB.out.cell (World.block_lt_of_cell? w _ hw130_0)).trans hw130_0),((HB.out.cell (World.block_lt_of_cell? w _ hw130_1)).trans hw130_1)⟩ (fun hHeld=>?_);refine with_tabW impl_notate.tab12 impl_notate.bits12 (fun HT_ HW_=>?_)
                 generalize w71.drew=w72 at HO_8 HO_20 HO129 BK101 BK107 HB hx130_0 hx130_1 hHeld ⊢
                 refine pA 0 45 ?_
                 refine pA 1 46 ?_
                 refine pA 6 51 ?_
                 refine pT 2 47 rfl zbu ?_
                 refine pA 3 48 ?_
                 refine pA 4 49 ?_
                 refine pT 5 50 rfl zbu ?_
                 refine pT 7 52 rfl zbu ?_
                 refine one_ (i:=8) (N:=some 53) #[true,true,true,true,true,true,true,true,true,false] rfl rfl (one_of HT_.out zau) zbl (fun K hK=>?_)
                 refine goes_ Tryz.func108 zau rfl #[.int .i64 ((rd_T67 l0 ((rd_T136 t102 x22_1).f0)).f0),.int .i64 ((rd_T136 t102 x22_1).f1)] (by rfl) rfl rfl zd ?_
                 with_reducible refine (impl_noteText.calls ((rd_T67 l0 ((rd_T136 t102 x22_1).f0)).f0) ((rd_T136 t102 x22_1).f1) t131 _ ?side1 A65.out).mono ?_
                 (case side1=>exact Door1.at HD.out zf)
                 rintro e w73 ⟨rfl,hb⟩
                 refine ⟨_,rfl,?_⟩
                 replace HO_8:=Aside0.mk (Kd.R_below zat hb)
                 replace HO_20:=Aside0.mk (Kd.R_below zar hb)
                 replace HO129:=Aside0.mk (Kd.R_below zcn hb)
                 replace BK101:=Aside0.mk (blk_below (g:=gb101) (o:=.cells #[.string a1_0,.slice A1_1 l1_1.length c1_1,.slice A1_2 l1_2.length c1_2] 50 (0,0)) zc hb)
                 replace BK107:=Aside0.mk (blk_below (g:=gb107) (o:=.cells #[.int .i64 ((rd_T136 t102 x22_1).f0),.int .i64 ((rd_T136 t102 x22_1).f1),.int .i64 ((rd_T136 t102 x22_1).f2),.bool ((rd_T136 t102 x22_1).f3)] 136 (0,0)) zas hb)
                 replace HB:=Aside0.mk (below_step zf hb)
                 (try clear hb)
                 (try clear hb2)
                 (try clear hk)
                 (try clear hi)
                 refine hK.out _ _ ⟨(blk_cell BK107.out 0).trans rfl,(blk_cell BK107.out 1).trans rfl,(blk_cell BK107.out 2).trans rfl,(blk_cell BK107.out 3).trans rfl,((HB.out.cell (World.block_lt_of_cell? w _ hw130_0)).trans hw130_0),((HB.out.cell (World.block_lt_of_cell? w _ hw130_1)).trans hw130_1)⟩ (fun hHeld=>?_)
                 clear hK K
                 refine pN 53 ?_
                 refine pA 9 12 ?_
                 refine done_ (done_of HT_.out zau) ?_
                 have hcz74_0:w73.cell? ⟨gb107,0,none⟩=some (.int .i64 ((rd_T136 t102 x22_1).f0)):=(blk_cell BK107.out 0).trans rfl
                 have hcz74_1:w73.cell? ⟨gb107,1,none⟩=some (.int .i64 ((rd_T136 t102 x22_1).f1)):=(blk_cell BK107.out 1).trans rfl
                 have hcz74_2:w73.cell? ⟨gb107,2,none⟩=some (.int .i64 ((rd_T136 t102 x22_1).f2)):=(blk_cell BK107.out 2).trans rfl
                 have hcz74_3:w73.cell? ⟨gb107,3,none⟩=some (.bool ((rd_T136 t102 x22_1).f3)):=(blk_cell BK107.out 3).trans rfl
                 have hfz74_0:=blk_frozen BK107.out 0
                 have hfz74_1:=blk_frozen BK107.out 1
                 have hfz74_2:=blk_frozen BK107.out 2
                 have hfz74_3:=blk_frozen BK107.out 3
                 try go_wp2_with (first|((with_reducible refine gate_builtin (b:=.append) (xs:=#[.tmp 58,.tmp 60]) rfl ?_);at_builtin;refine Kd.R_append Kd.string (w0:=w) w.heap.size rfl (.tmp 58) (.tmp 60) 104 9 (.string ⟨#[]⟩) 16 rfl Tryz.underlying104 info9 rfl zbl zdb v128 y127 ((⟨#[126]⟩:ByteArray)++t131) [.string ((⟨#[126]⟩:ByteArray)++t131)] (fun _=>True) (fun _=>False) rfl rfl ?aP (fun _ hk=>hk.elim) ?aF ?aO ?aB ?aS ?aL ?_;(case aP=>exact rfl);(case aB=>exact zf);(case aF=>exact zdj);(case aO=>exact zcn);(case aS=>exact (below_size zf));(case aL=>have:=LMc68.out;omega);intro v133 w75 ho hb hg hat;rw [←Ny132.out] at ho;replace HO_8:=Aside0.mk (Kd.R_over' zat (Kd.R_typed zcn) zbl hg);replace HO_20:=Aside0.mk (Kd.R_over' zar (Kd.R_typed zcn) zbl hg);replace BK101:=Aside0.mk (blk_grown (g:=gb101) (o:=.cells #[.string a1_0,.slice A1_1 l1_1.length c1_1,.slice A1_2 l1_2.length c1_2] 50 (0,0)) zc hg (Kd.R_ne HO129.out BK101.out zbl));replace BK107:=Aside0.mk (blk_grown (g:=gb107) (o:=.cells #[.int .i64 ((rd_T136 t102 x22_1).f0),.int .i64 ((rd_T136 t102 x22_1).f1),.int .i64 ((rd_T136 t102 x22_1).f2),.bool ((rd_T136 t102 x22_1).f3)] 136 (0,0)) zas hg (Kd.R_ne HO129.out BK107.out zbl));replace HB:=Aside0.mk (hb);have HO134:=Aside0.mk (ho);clear HO129;clear ho hb hg hat))
                 go_roundg kj13
                 case measure=>have:=HK1.out;have:=HJ13.out;omega
                 case rel=>exact ⟨(y132),(wrap64 (x22_1+1)),zg,H',⟨by have:=HK1.out;have:=HJ13.out;omega⟩,⟨zcs⟩,⟨by (with_reducible repeat (first|apply Kd.R_alloc|apply Kd.R_drewN|apply Kd.R_drew));exact HO134.out⟩,⟨zcr⟩,⟨zc⟩,⟨zf⟩⟩
                ·rw [if_neg c68] at H
                 exact absurd H zdd
               ·rw [if_neg c67] at H
                exact absurd H zdd
              ·rw [if_neg c66] at H
               have c66b0:((rd_T136 t102 x22_1).f3)=false:=by simpa using c66
               clear c66
               by_cases c76:y127.length<8796093022208
               ·rw [if_pos c76] at H
                have LMc76:=Aside0.mk c76
                clear c76
                obtain ⟨y135,hy135⟩:∃y_:List ByteArray,y_=(y127++[t131]):=⟨_,rfl⟩
                replace H:(impl_notate.l0 kj13 l0 t102 y135 t102 (t102.length:Int) (wrap64 (x22_1+1)))=some (r1,r2):=by first|(rw [hy135];with_reducible exact H)|(have H2_:=(Option.bind_some _ _).symm.trans H;rw [hy135];with_reducible exact H2_)|(have H2_:=(Option.bind_some _ _).symm.trans H;with_reducible exact H2_)|with_reducible exact H|(rw [hy135];exact H)|exact H
                have Ny135:=Aside0.mk hy135
                clear hy135
                have H':=Aside0.mk H
                clear H
                have hnb77:=NB107_101.out
                have hnc77:=NB101_107.out
                have hcz78_0:wc.cell? ⟨gb107,0,none⟩=some (.int .i64 ((rd_T136 t102 x22_1).f0)):=(blk_cell BK107.out 0).trans rfl
                have hcz78_1:wc.cell? ⟨gb107,1,none⟩=some (.int .i64 ((rd_T136 t102 x22_1).f1)):=(blk_cell BK107.out 1).trans rfl
                have hcz78_2:wc.cell? ⟨gb107,2,none⟩=some (.int .i64 ((rd_T136 t102 x22_1).f2)):=(blk_cell BK107.out 2).trans rfl
                have hcz78_3:wc.cell? ⟨gb107,3,none⟩=some (.bool ((rd_T136 t102 x22_1).f3)):=(blk_cell BK107.out 3).trans rfl
                have hfz78_0:=blk_frozen BK107.out 0
                have hfz78_1:=blk_frozen BK107.out 1
                have hfz78_2:=blk_frozen BK107.out 2
                have hfz78_3:=blk_frozen BK107.out 3
                try go_wp2_with (first|((with_reducible refine gate_builtin (b:=.append) (xs:=#[.tmp 27,.tmp 28]) rfl ?_);at_builtin;refine Kd.R_append Kd.string (w0:=w) w.heap.size rfl (.tmp 27) (.tmp 28) 104 9 (.string ⟨#[]⟩) 16 rfl Tryz.underlying104 info9 rfl zbl zdb u9 x9_1 (⟨#[124]⟩:ByteArray) [.string (⟨#[124]⟩:ByteArray)] (fun _=>True) (fun _=>False) rfl rfl ?aP (fun _ hk=>hk.elim) ?aF ?aO ?aB ?aS ?aL ?_;(case aP=>exact rfl);(case aB=>exact zf);(case aF=>exact zdj);(case aO=>exact zak);(case aS=>exact (below_size zf));(case aL=>have:=LMc62.out;omega);intro v128 w79 ho hb hg hat;rw [←Ny127.out] at ho;replace HO_8:=Aside0.mk (Kd.R_over' zat (Kd.R_typed zak) zbl hg);replace HO_20:=Aside0.mk (Kd.R_over' zar (Kd.R_typed zak) zbl hg);replace BK101:=Aside0.mk (blk_grown (g:=gb101) (o:=.cells #[.string a1_0,.slice A1_1 l1_1.length c1_1,.slice A1_2 l1_2.length c1_2] 50 (0,0)) zc hg (Kd.R_ne HO_9.out BK101.out zbl));replace BK107:=Aside0.mk (blk_grown (g:=gb107) (o:=.cells #[.int .i64 ((rd_T136 t102 x22_1).f0),.int .i64 ((rd_T136 t102 x22_1).f1),.int .i64 ((rd_T136 t102 x22_1).f2),.bool ((rd_T136 t102 x22_1).f3)] 136 (0,0)) zas hg (Kd.R_ne HO_9.out BK107.out zbl));replace HB:=Aside0.mk (hb);have HO129:=Aside0.mk (ho);clear HO_9;clear ho hb hg hat))
                replace HO_8:=Aside0.mk (Kd.R_drew HO_8.out)
                replace HO_20:=Aside0.mk (Kd.R_drew HO_20.out)
                replace HO129:=Aside0.mk (Kd.R_drew HO129.out)
                replace BK101:=Aside0.mk (blk_drew BK101.out)
                replace BK107:=Aside0.mk (blk_drew BK107.out)
                replace HB:=Aside0.mk (below_drew1 HB.out)
                have p130:0≤(((rd_T136 t102 x22_1).f0):Int):=of_decide_eq_true ze
                have q130:((rd_T136 t102 x22_1).f0)<(l0.length:Int):=of_decide_eq_true ze
                obtain ⟨ad130,e130,hx130_0,hx130_1⟩:=at_T67 HR0.out ((rd_T136 t102 x22_1).f0) p130 q130
                have hw130_1:=hx130_1
                have hw130_0:=hx130_0
                cases e130
                replace hx130_0:=(HB.out.cell (World.block_lt_of_cell? w _ hx130_0)).trans hx130_0
                replace hx130_1:=(HB.out.cell (World.block_lt_of_cell? w _ hx130_1)).trans hx130_1
                replace p130:=eq_true p130
                replace q130:=eq_true q130
                refine start_ (n:=10) (S:=fun w'=>w'.cell? ⟨gb107,0,none⟩=some (.int .i64 ((rd_T136 t102 x22_1).f0))∧w'.cell? ⟨gb107,1,none⟩=some (.int .i64 ((rd_T136 t102 x22_1).f1))∧w'.cell? ⟨gb107,2,none⟩=some (.int .i64 ((rd_T136 t102 x22_1).f2))∧w'.cell? ⟨gb107,3,none⟩=some (.bool ((rd_T136 t102 x22_1).f3))∧w'.cell? (ad130.add ((((rd_T136 t102 x22_1).f0)).toNat*2))=some (.int .i64 ((rd_T67 l0 ((rd_T136 t102 x22_1).f0)).f0))∧w'.cell? ⟨(ad130.add ((((rd_T136 t102 x22_1).f0)).toNat*2)).block,(ad130.add ((((rd_T136 t102 x22_1).f0)).toNat*2)).off+1,none⟩=some (.int .i64 ((rd_T67 l0 ((rd_T136 t102 x22_1).f0)).f1))) (ds:=[]) #[false,false,false,false,false,false,false,false,false,false] zau rfl rfl ⟨(blk_cell BK107.out 0).trans rfl,(blk_cell BK107.out 1).trans rfl,(blk_cell BK107.out 2).trans rfl,(blk_cell BK107.out 3).trans rfl,((HB.out.cell (World.block_lt_of_cell? w _ hw130_0)).trans hw130_0),((HB.out.cell (World.block_lt_of_cell? w _ hw130_1)).trans hw130_1)⟩ (fun hHeld=>?_);refine with_tabW impl_notate.tab12 impl_notate.bits12 (fun HT_ HW_=>?_)
                generalize w79.drew=w80 at HO_8 HO_20 HO129 BK101 BK107 HB hx130_0 hx130_1 hHeld ⊢
                refine pA 0 45 ?_
                refine pA 1 46 ?_
                refine pA 6 51 ?_
                refine pT 2 47 rfl zbu ?_
                refine pA 3 48 ?_
                refine pA 4 49 ?_
                refine pT 5 50 rfl zbu ?_
                refine pT 7 52 rfl zbu ?_
                refine one_ (i:=8) (N:=some 53) #[true,true,true,true,true,true,true,true,true,false] rfl rfl (one_of HT_.out zau) zbl (fun K hK=>?_)
                refine goes_ Tryz.func108 zau rfl #[.int .i64 ((rd_T67 l0 ((rd_T136 t102 x22_1).f0)).f0),.int .i64 ((rd_T136 t102 x22_1).f1)] (by rfl) rfl rfl zd ?_
                with_reducible refine (impl_noteText.calls ((rd_T67 l0 ((rd_T136 t102 x22_1).f0)).f0) ((rd_T136 t102 x22_1).f1) t131 _ ?side1 A65.out).mono ?_
                (case side1=>exact Door1.at HD.out zf)
                rintro e w81 ⟨rfl,hb⟩
                refine ⟨_,rfl,?_⟩
                replace HO_8:=Aside0.mk (Kd.R_below zat hb)
                replace HO_20:=Aside0.mk (Kd.R_below zar hb)
                replace HO129:=Aside0.mk (Kd.R_below zcn hb)
                replace BK101:=Aside0.mk (blk_below (g:=gb101) (o:=.cells #[.string a1_0,.slice A1_1 l1_1.length c1_1,.slice A1_2 l1_2.length c1_2] 50 (0,0)) zc hb)
                replace BK107:=Aside0.mk (blk_below (g:=gb107) (o:=.cells #[.int .i64 ((rd_T136 t102 x22_1).f0),.int .i64 ((rd_T136 t102 x22_1).f1),.int .i64 ((rd_T136 t102 x22_1).f2),.bool ((rd_T136 t102 x22_1).f3)] 136 (0,0)) zas hb)
                replace HB:=Aside0.mk (below_step zf hb)
                (try clear hb)
                (try clear hb2)
                (try clear hk)
                (try clear hi)
                refine hK.out _ _ ⟨(blk_cell BK107.out 0).trans rfl,(blk_cell BK107.out 1).trans rfl,(blk_cell BK107.out 2).trans rfl,(blk_cell BK107.out 3).trans rfl,((HB.out.cell (World.block_lt_of_cell? w _ hw130_0)).trans hw130_0),((HB.out.cell (World.block_lt_of_cell? w _ hw130_1)).trans hw130_1)⟩ (fun hHeld=>?_)
                clear hK K
                refine pN 53 ?_
                refine pA 9 12 ?_
                refine done_ (done_of HT_.out zau) ?_
                have hcz82_0:w81.cell? ⟨gb107,0,none⟩=some (.int .i64 ((rd_T136 t102 x22_1).f0)):=(blk_cell BK107.out 0).trans rfl
                have hcz82_1:w81.cell? ⟨gb107,1,none⟩=some (.int .i64 ((rd_T136 t102 x22_1).f1)):=(blk_cell BK107.out 1).trans rfl
                have hcz82_2:w81.cell? ⟨gb107,2,none⟩=some (.int .i64 ((rd_T136 t102 x22_1).f2)):=(blk_cell BK107.out 2).trans rfl
                have hcz82_3:w81.cell? ⟨gb107,3,none⟩=some (.bool ((rd_T136 t102 x22_1).f3)):=(blk_cell BK107.out 3).trans rfl
                have hfz82_0:=blk_frozen BK107.out 0
                have hfz82_1:=blk_frozen BK107.out 1
                have hfz82_2:=blk_frozen BK107.out 2
                have hfz82_3:=blk_frozen BK107.out 3
                try go_wp2_with (first|((with_reducible refine gate_builtin (b:=.append) (xs:=#[.tmp 58,.tmp 60]) rfl ?_);at_builtin;refine Kd.R_append Kd.string (w0:=w) w.heap.size rfl (.tmp 58) (.tmp 60) 104 9 (.string ⟨#[]⟩) 16 rfl Tryz.underlying104 info9 rfl zbl zdb v128 y127 t131 [.string t131] (fun _=>True) (fun _=>False) rfl rfl ?aP (fun _ hk=>hk.elim) ?aF ?aO ?aB ?aS ?aL ?_;(case aP=>exact rfl);(case aB=>exact zf);(case aF=>exact zdj);(case aO=>exact zcn);(case aS=>exact (below_size zf));(case aL=>have:=LMc76.out;omega);intro v136 w83 ho hb hg hat;rw [←Ny135.out] at ho;replace HO_8:=Aside0.mk (Kd.R_over' zat (Kd.R_typed zcn) zbl hg);replace HO_20:=Aside0.mk (Kd.R_over' zar (Kd.R_typed zcn) zbl hg);replace BK101:=Aside0.mk (blk_grown (g:=gb101) (o:=.cells #[.string a1_0,.slice A1_1 l1_1.length c1_1,.slice A1_2 l1_2.length c1_2] 50 (0,0)) zc hg (Kd.R_ne HO129.out BK101.out zbl));replace BK107:=Aside0.mk (blk_grown (g:=gb107) (o:=.cells #[.int .i64 ((rd_T136 t102 x22_1).f0),.int .i64 ((rd_T136 t102 x22_1).f1),.int .i64 ((rd_T136 t102 x22_1).f2),.bool ((rd_T136 t102 x22_1).f3)] 136 (0,0)) zas hg (Kd.R_ne HO129.out BK107.out zbl));replace HB:=Aside0.mk (hb);have HO137:=Aside0.mk (ho);clear HO129;clear ho hb hg hat))
                go_roundg kj13
                case measure=>have:=HK1.out;have:=HJ13.out;omega
                case rel=>exact ⟨(y135),(wrap64 (x22_1+1)),zg,H',⟨by have:=HK1.out;have:=HJ13.out;omega⟩,⟨zcs⟩,⟨by (with_reducible repeat (first|apply Kd.R_alloc|apply Kd.R_drewN|apply Kd.R_drew));exact HO137.out⟩,⟨zcr⟩,⟨zc⟩,⟨zf⟩⟩
               ·rw [if_neg c76] at H
                exact absurd H zdd
             ·rw [if_neg c64] at H
              exact absurd H zdd
            ·rw [if_neg c63] at H
             exact absurd H zdd
           ·rw [if_neg c62] at H
            exact absurd H zdd
      ·rw [if_neg c13] at H
       exact absurd H zdd
     ·rw [if_neg c12] at H
      exact absurd H zdd
    ·rw [if_neg c11] at H
     have c11b0:decide (x22_1<(t102.length:Int))=false:=decide_eq_false c11
     clear c11
     replace H:=Option.bind_eq_some_iff.mp H
     obtain ⟨t105,A840,H⟩:=H
     replace H:(some (t105,decide ((t102.length:Int)≤128)))=some (r1,r2):=H
     have A84:=Aside0.mk A840
     clear A840
     simp only [Option.some.injEq,Prod.mk.injEq] at H
     obtain ⟨rfl,rfl⟩:=H
     obtain ⟨Ao85,co85,eo85⟩:=Kd.R_slice HO_9.out
     subst eo85
     go_wp2_with (first|((with_reducible refine gate_callee (f:=94) rfl ?_);refine goesL_ (some 64) rfl rfl Tryz.func94 zau rfl #[.slice Ao85 x9_1.length co85,.string (⟨#[32]⟩:ByteArray)] rfl zd ?_;(with_reducible refine (strings_Join.calls _ _ x9_1 (⟨#[32]⟩:ByteArray) t105 _ ?side1 ?side2 A84.out).mono ?_);(case side1=>repeat (first|exact (Kd.R_reads' HO_9.out).2.2|(with_reducible refine Kd.C_alloc ?_ _)|(with_reducible refine Kd.C_drewN ?_ _)|(with_reducible refine Kd.C_drew ?_)));(case side2=>exact (Kd.R_reads' HO_9.out).2.1);rintro e w86 ⟨rfl,hb⟩;refine ⟨_,rfl,?_⟩;replace HO_8:=Aside0.mk (Kd.R_below zat hb);replace HO_9:=Aside0.mk (Kd.R_below zak hb);replace HO_20:=Aside0.mk (Kd.R_below zar hb);replace BK101:=Aside0.mk (blk_below (g:=gb101) (o:=.cells #[.string a1_0,.slice A1_1 l1_1.length c1_1,.slice A1_2 l1_2.length c1_2] 50 (0,0)) zc hb);replace HB:=Aside0.mk (below_step zb hb);(try clear hb);(try clear hb2);(try clear hk);(try clear hi)))
     go_ret2
     exact ⟨zi,zb⟩

def impl_ReadBars.l0:Nat→ByteArray→Int→List (S67)→List (S95)→Int→Int→ByteArray→List Int→List Int→Option ((List (S67)) × Int)
 | 0,_,_,_,_,_,_,_,_,_=>none
 | k+1,x0,x2,x10,x25,x26,x27,x102000,x102001,x102002=>if x27<x26 then (if 0≤x27 then (if x27<(x25.length:Int) then (if (rd_T95 x25 x27).f0=true then (impl_ReadBars.l0 k x0 x2 x10 x25 x26 (wrap64 (x27+1)) x102000 x102001 x102002) else (if (rd_T95 x25 x27).f1=true then (if 0≤(wrap64 ((x10.length:Int) - 1)) then (if (wrap64 ((x10.length:Int) - 1))<(x10.length:Int) then (impl_ReadBars.l0 k x0 x2 (x10.set ((wrap64 ((x10.length:Int) - 1)):Int).toNat (⟨(rd_T67 x10 (wrap64 ((x10.length:Int) - 1))).f0,wrap64 (((rd_T67 x10 (wrap64 ((x10.length:Int) - 1))).f1)+((rd_T95 x25 x27).f2.f1))⟩:S67)) x25 x26 (wrap64 (x27+1)) x102000 x102001 x102002) else (none)) else (none)) else (if x10.length<8796093022208 then (impl_ReadBars.l0 k x0 x2 (x10++[(⟨(rd_T95 x25 x27).f2.f0,(rd_T95 x25 x27).f2.f1⟩:S67)]) x25 x26 (wrap64 (x27+1)) x102000 x102001 x102002) else (none)))) else (none)) else (none)) else ((impl_ValidMelody.f k x10).bind fun t113=>(if t113=true then ((impl_notate.f k x10 x102000 x102001 x102002 x2).bind fun bt114=>(if bt114.2=true then (if bt114.1.toList=x0.toList then (some (x10,0)) else (some (([]:List (S67)),9))) else (some (([]:List (S67)),9)))) else (some (([]:List (S67)),9))))
def impl_ReadBars.f (k:Nat) (a0:ByteArray) (a1_0:ByteArray) (l1_1:List Int) (l1_2:List Int) (a2:Int):Option ((List (S67)) × Int):=(impl_readWords.f k a0 a1_0 l1_1 l1_2 a2).bind fun bt102=>(if bt102.2=0 then (impl_ReadBars.l0 k a0 a2 ([]:List (S67)) bt102.1 (bt102.1.length:Int) 0 a1_0 l1_1 l1_2) else (some (([]:List (S67)),bt102.2)))
def impl_ReadBars.T11:Bool × List (List Nat × List Nat):=(true,[([],[]),([],[]),([1],[1]),([2],[2]),([0,3],[0,3]),([4],[4]),([5],[5]),([],[]),([7],[7]),([8],[8]),([6,9],[6,9]),([0,3,0,1,2,3,4,5,6,7,8,9,10],[0,3]),([11,0,1,2,3,4,5,6,7,8,9,10],[11]),([12,10,0,1,2,3,4,5,6,7,8,9,10],[10,12])])
def impl_ReadBars.B11:List Nat:=[0,0,2,6,15,31,63,0,128,384,1023,2047,4095,8191]
theorem impl_ReadBars.tab11:rtab .any (opsOf Tryz.f31 11)=impl_ReadBars.T11:=by kernel_rfl
theorem impl_ReadBars.bits11:waitsOk impl_ReadBars.T11.2 impl_ReadBars.B11=true:=by kernel_rfl
set_option maxHeartbeats 8000000 in
set_option maxRecDepth 100000 in
theorem impl_ReadBars.calls (k:Nat) (a0:ByteArray) (a1_0:ByteArray) (A1_1:Option Addr) (c1_1:Nat) (l1_1:List Int) (A1_2:Option Addr) (c1_2:Nat) (l1_2:List Int) (a2:Int) (r1:List (S67)) (r2:Int) (w:World) (hD:Door2 w) (hr1_1:Kd.C (Kd.int .i64) w A1_1 l1_1.length l1_1) (hc1_1:l1_1.length≤c1_1) (hr1_2:Kd.C (Kd.int .i64) w A1_2 l1_2.length l1_2) (hc1_2:l1_2.length≤c1_2) (h:impl_ReadBars.f k a0 a1_0 l1_1 l1_2 a2=some (r1,r2)) :
 Calls Tryz.prog 31 #[.string a0,.agg #[.string a1_0,.slice A1_1 l1_1.length c1_1,.slice A1_2 l1_2.length c1_2],.int .i64 a2] w fun e w'=>∃v0_:Value,e = .returned (.tuple #[v0_,.int .i64 r2])∧Kd.R k67 67 w' w.heap.size (fun _=>True) v0_ r1∧Below w.heap.size w w':=by
 have hu50:=Tryz.underlying50
 have hu95:=Tryz.underlying95
 have hu67:=Tryz.underlying67
 have HD:=Aside0.mk hD
 clear hD
 have HR1_1:=Aside0.mk hr1_1
 have HC1_1:=Aside0.mk hc1_1
 clear hr1_1 hc1_1
 have HR1_2:=Aside0.mk hr1_2
 have HC1_2:=Aside0.mk hc1_2
 clear hr1_2 hc1_2
 have HB:=Aside0.mk (Below.refl w.heap.size w)
 have H:((impl_readWords.f k a0 a1_0 l1_1 l1_2 a2).bind fun bt102=>(if bt102.2=0 then (impl_ReadBars.l0 k a0 a2 ([]:List (S67)) bt102.1 (bt102.1.length:Int) 0 a1_0 l1_1 l1_2) else (some (([]:List (S67)),bt102.2))))=some (r1,r2):=h
 clear h
 replace H:=Option.bind_eq_some_iff.mp H
 obtain ⟨⟨t102,t105⟩,A40,H⟩:=H
 replace H:(if t105=0 then (impl_ReadBars.l0 k a0 a2 ([]:List (S67)) t102 (t102.length:Int) 0 a1_0 l1_1 l1_2) else (some (([]:List (S67)),t105)))=some (r1,r2):=H
 have A4:=Aside0.mk A40
 clear A40
 by_cases c5:t105=0
 ·rw [if_pos c5] at H
  have c5b0:(t105 == 0)=true:=beq_iff_eq.mpr c5
  have c5b1:(t105 != 0)=false:=bne_eq_false_iff_eq.mpr c5
  clear c5
  have H':=Aside0.mk H
  clear H
  go_enter Tryz.func31,Tryz.ntmps31
  go_wp2_with (first|((with_reducible refine gate_dst (N:=4) rfl ?_);refine box_event ?hg (N:=4) ?hd (cs:=#[.string a1_0,.slice A1_1 l1_1.length c1_1,.slice A1_2 l1_2.length c1_2]) (t:=50) ?hr ?_;(case hd=>rfl);(case hg=>rfl);(case hr=>exact zy);intro gb101 hg w6 hbox hb;have n0_:=Aside0.mk (below_step za hb);have n1_:=Aside0.mk (hbox);have n2_:=Aside0.mk ((by rw [hg];exact (below_size za):w.heap.size≤gb101));have n3_:=Aside0.mk ((by rw [hg];exact (below_size za):w.heap.size≤gb101));clear HB;have HB:=n0_;have BK101:=n1_;have GW101:=n2_;have GE101:=n3_;clear n0_ n1_ n2_ n3_;clear hb hbox hg;have hcz7_0:w6.cell? ⟨gb101,0,none⟩=some (.string a1_0):=(blk_cell BK101.out 0).trans rfl;have hcz7_1:w6.cell? ⟨gb101,1,none⟩=some (.slice A1_1 l1_1.length c1_1):=(blk_cell BK101.out 1).trans rfl;have hcz7_2:w6.cell? ⟨gb101,2,none⟩=some (.slice A1_2 l1_2.length c1_2):=(blk_cell BK101.out 2).trans rfl;have hfz7_0:=blk_frozen BK101.out 0;have hfz7_1:=blk_frozen BK101.out 1;have hfz7_2:=blk_frozen BK101.out 2)|((with_reducible refine gate_callee (f:=68) rfl ?_);refine goesL_ (some 19) rfl rfl Tryz.func68 zau rfl #[.string a0,.agg #[.string a1_0,.slice A1_1 l1_1.length c1_1,.slice A1_2 l1_2.length c1_2],.int .i64 a2] rfl zd ?_;(with_reducible refine (impl_readWords.calls k a0 a1_0 _ _ l1_1 _ _ l1_2 a2 t102 t105 _ ?side5 ?side1 ?side2 ?side3 ?side4 A4.out).mono ?_);(case side1=>exact zs);(case side2=>exact HC1_1.out);(case side3=>exact zt);(case side4=>exact HC1_2.out);(case side5=>exact Door2.at HD.out zb);rintro e w8 ⟨v103,rfl,ho0,hb⟩;refine ⟨_,rfl,?_⟩;have HO104:=Aside0.mk (Kd.R_lower ho0 (below_size zb));replace BK101:=Aside0.mk (blk_below (g:=gb101) (o:=.cells #[.string a1_0,.slice A1_1 l1_1.length c1_1,.slice A1_2 l1_2.length c1_2] 50 (0,0)) zc hb);replace HB:=Aside0.mk (below_step zb hb);(try clear hb);(try clear hb2);(try clear hk);(try clear hi);(try clear ho0);obtain ⟨Ao9,co9,eo9⟩:=Kd.R_slice HO104.out;subst eo9))
  go_loopg [10,27] k (fun kq v10 v27 w'=>∃(x10_1:List (S67)) (x27_1:Int),v27 = .int .i64 x27_1∧Aside0 (impl_ReadBars.l0 kq a0 a2 x10_1 t102 (t102.length:Int) x27_1 a1_0 l1_1 l1_2=some (r1,r2))∧Aside0 (kq≤k)∧Aside0 (Kd.R k67 67 w' w.heap.size (fun _=>True) v10 x10_1)∧Aside0 (Kd.R k95 95 w' w.heap.size (fun _=>True) (.slice Ao9 t102.length co9) t102)∧Aside0 (w'.heap[gb101]?=some (.cells #[.string a1_0,(.slice A1_1 l1_1.length c1_1),(.slice A1_2 l1_2.length c1_2)] 50 (0,0)))∧Aside0 (Below w.heap.size w w'))
  case atStart=>exact ⟨(([]:List (S67))),(0),zg,H',⟨Nat.le_refl _⟩,⟨zm⟩,⟨zr⟩,⟨zc⟩,⟨zb⟩⟩
  case round=>
   clear H'
   try clear c1
   try clear p2
   try clear c3
   try clear c5
   try clear c5b0
   try clear c5b1
   try clear c6
   try clear hcz7_0
   try clear hcz7_1
   try clear hcz7_2
   try clear hfz7_0
   try clear hfz7_1
   try clear hfz7_2
   obtain ⟨x10_1,x27_1,rfl,HA,HK1,HO_10,HO_25,BK101,HB⟩:=hrel
   cases gk with
   | zero=>exact absurd HA.out (by simp [impl_ReadBars.l0])
   | succ k1=>
    have H:=HA.out
    clear HA
    simp only [impl_ReadBars.l0] at H
    by_cases c10:x27_1<(t102.length:Int)
    ·rw [if_pos c10] at H
     have c10b0:decide (x27_1<(t102.length:Int))=true:=decide_eq_true c10
     clear c10
     by_cases c11:0≤x27_1
     ·rw [if_pos c11] at H
      have c11b0:decide (0≤x27_1)=true:=decide_eq_true c11
      clear c11
      by_cases c12:x27_1<(t102.length:Int)
      ·rw [if_pos c12] at H
       have c12b0:decide (x27_1<(t102.length:Int))=true:=decide_eq_true c12
       clear c12
       obtain ⟨bq13,hbq13⟩:∃b_:Bool,b_=((rd_T95 t102 x27_1).f0):=⟨_,rfl⟩
       replace H:(if bq13=true then (impl_ReadBars.l0 k1 a0 a2 x10_1 t102 (t102.length:Int) (wrap64 (x27_1+1)) a1_0 l1_1 l1_2) else (if (rd_T95 t102 x27_1).f1=true then (if 0≤(wrap64 ((x10_1.length:Int) - 1)) then (if (wrap64 ((x10_1.length:Int) - 1))<(x10_1.length:Int) then (impl_ReadBars.l0 k1 a0 a2 (x10_1.set ((wrap64 ((x10_1.length:Int) - 1)):Int).toNat (⟨(rd_T67 x10_1 (wrap64 ((x10_1.length:Int) - 1))).f0,wrap64 (((rd_T67 x10_1 (wrap64 ((x10_1.length:Int) - 1))).f1)+((rd_T95 t102 x27_1).f2.f1))⟩:S67)) t102 (t102.length:Int) (wrap64 (x27_1+1)) a1_0 l1_1 l1_2) else (none)) else (none)) else (if x10_1.length<8796093022208 then (impl_ReadBars.l0 k1 a0 a2 (x10_1++[(⟨(rd_T95 t102 x27_1).f2.f0,(rd_T95 t102 x27_1).f2.f1⟩:S67)]) t102 (t102.length:Int) (wrap64 (x27_1+1)) a1_0 l1_1 l1_2) else (none))))=some (r1,r2):=by rw [←hbq13] at H;exact H
       have Nbq13:=Aside0.mk hbq13
       clear hbq13
       by_cases c14:bq13=true
       ·subst c14
        have H1:(impl_ReadBars.l0 k1 a0 a2 x10_1 t102 (t102.length:Int) (wrap64 (x27_1+1)) a1_0 l1_1 l1_2)=some (r1,r2):=by rw [if_pos rfl] at H;exact H
        clear H
        have H:=H1
        clear H1
        have H':=Aside0.mk H
        clear H
        have p106:0≤(x27_1:Int):=of_decide_eq_true ze
        have q106:x27_1<(t102.length:Int):=of_decide_eq_true ze
        obtain ⟨ad106,e106,hx106_0,hx106_1,hx106_2,hx106_3⟩:=at_T95 (Kd.R_reads' HO_25.out).2.2 x27_1 p106 q106
        (try rw [←Nbq13.out] at hx106_0)
        (try rw [←Nbq13.out] at hx106_1)
        cases e106
        replace p106:=eq_true p106
        replace q106:=eq_true q106
        go_wp2_with (first|((with_reducible refine gate_dst (N:=12) rfl ?_);refine box_event ?hg (N:=12) ?hd (cs:=#[.bool false,.bool false,.int .i64 0,.int .i64 0]) (t:=95) ?hr ?_;(case hd=>rfl);(case hg=>rfl);(case hr=>exact zy);intro gb107 hg w15 hbox hb;have n0_:=Aside0.mk (Kd.R_below zbi hb);have n1_:=Aside0.mk (Kd.R_below (Kd.R_elderB zcc gb107 (Nat.le_of_eq hg.symm)) hb);have n2_:=Aside0.mk (blk_below (g:=gb101) (o:=.cells #[.string a1_0,.slice A1_1 l1_1.length c1_1,.slice A1_2 l1_2.length c1_2] 50 (0,0)) zc hb);have n3_:=Aside0.mk (below_step zb hb);have n4_:=Aside0.mk (hbox);have n5_:=Aside0.mk ((by rw [hg];exact (below_size zb):w.heap.size≤gb107));have n6_:=Aside0.mk ((by rw [hg];exact (below_size zb):w.heap.size≤gb107));have n7_:=Aside0.mk ((by rw [hg];exact Nat.ne_of_lt (blk_lt (g:=gb101) (o:=.cells #[.string a1_0,.slice A1_1 l1_1.length c1_1,.slice A1_2 l1_2.length c1_2] 50 (0,0)) zc):gb101≠gb107));have n8_:=Aside0.mk ((by rw [hg];exact Nat.ne_of_gt (blk_lt (g:=gb101) (o:=.cells #[.string a1_0,.slice A1_1 l1_1.length c1_1,.slice A1_2 l1_2.length c1_2] 50 (0,0)) zc):gb107≠gb101));clear HO_10;clear HO_25;clear BK101;clear HB;have HO_10:=n0_;have HO_25:=n1_;have BK101:=n2_;have HB:=n3_;have BK107:=n4_;have GW107:=n5_;have GE107:=n6_;have NB101_107:=n7_;have NB107_101:=n8_;clear n0_ n1_ n2_ n3_ n4_ n5_ n6_ n7_ n8_;clear hb hbox hg;have hnb16:=NB107_101.out;have hnc16:=NB101_107.out;have hcz17_0:w15.cell? ⟨gb107,0,none⟩=some (.bool false):=(blk_cell BK107.out 0).trans rfl;have hcz17_1:w15.cell? ⟨gb107,1,none⟩=some (.bool false):=(blk_cell BK107.out 1).trans rfl;have hcz17_2:w15.cell? ⟨gb107,2,none⟩=some (.int .i64 0):=(blk_cell BK107.out 2).trans rfl;have hcz17_3:w15.cell? ⟨gb107,3,none⟩=some (.int .i64 0):=(blk_cell BK107.out 3).trans rfl;have hfz17_0:=blk_frozen BK107.out 0;have hfz17_1:=blk_frozen BK107.out 1;have hfz17_2:=blk_frozen BK107.out 2;have hfz17_3:=blk_frozen BK107.out 3))
        go_roundg k1
        case measure=>have:=HK1.out;omega
        case rel=>exact ⟨(x10_1),(wrap64 (x27_1+1)),zg,H',⟨zdo⟩,⟨by (with_reducible repeat (first|apply Kd.R_alloc|apply Kd.R_drewN|apply Kd.R_drew));exact Kd.R_mono (Kd.R_far (p:=⟨gb107,3,none⟩) (Kd.R_far (p:=⟨gb107,2,none⟩) (Kd.R_far (p:=⟨gb107,1,none⟩) (Kd.R_far (p:=⟨gb107,0,none⟩) (Kd.R_types HO_10.out BK107.out zbl) (fun _ hk=>hk.2) (.bool true)) (fun _ hk=>hk.2) (.bool ((rd_T95 t102 x27_1).f1))) (fun _ hk=>hk.2) (.int .i64 ((rd_T95 t102 x27_1).f2.f0))) (fun _ hk=>hk.2) (.int .i64 ((rd_T95 t102 x27_1).f2.f1))) (fun _ hk=>trivial)⟩,⟨by (with_reducible repeat (first|apply Kd.R_alloc|apply Kd.R_drewN|apply Kd.R_drew));exact Kd.R_mono (Kd.R_far (p:=⟨gb107,3,none⟩) (Kd.R_far (p:=⟨gb107,2,none⟩) (Kd.R_far (p:=⟨gb107,1,none⟩) (Kd.R_far (p:=⟨gb107,0,none⟩) (Kd.R_mono HO_25.out (fun k_ hk=>(⟨hk,hk.2⟩:_∧k_≠gb107))) (fun _ hk=>hk.2) (.bool true)) (fun _ hk=>hk.2) (.bool ((rd_T95 t102 x27_1).f1))) (fun _ hk=>hk.2) (.int .i64 ((rd_T95 t102 x27_1).f2.f0))) (fun _ hk=>hk.2) (.int .i64 ((rd_T95 t102 x27_1).f2.f1))) (fun _ hk=>trivial)⟩,⟨zx⟩,⟨zf⟩⟩
       ·replace c14:=Bool.eq_false_iff.mpr c14
        subst c14
        have H1:(if (rd_T95 t102 x27_1).f1=true then (if 0≤(wrap64 ((x10_1.length:Int) - 1)) then (if (wrap64 ((x10_1.length:Int) - 1))<(x10_1.length:Int) then (impl_ReadBars.l0 k1 a0 a2 (x10_1.set ((wrap64 ((x10_1.length:Int) - 1)):Int).toNat (⟨(rd_T67 x10_1 (wrap64 ((x10_1.length:Int) - 1))).f0,wrap64 (((rd_T67 x10_1 (wrap64 ((x10_1.length:Int) - 1))).f1)+((rd_T95 t102 x27_1).f2.f1))⟩:S67)) t102 (t102.length:Int) (wrap64 (x27_1+1)) a1_0 l1_1 l1_2) else (none)) else (none)) else (if x10_1.length<8796093022208 then (impl_ReadBars.l0 k1 a0 a2 (x10_1++[(⟨(rd_T95 t102 x27_1).f2.f0,(rd_T95 t102 x27_1).f2.f1⟩:S67)]) t102 (t102.length:Int) (wrap64 (x27_1+1)) a1_0 l1_1 l1_2) else (none)))=some (r1,r2):=by rw [if_neg (show ¬ (false=true) by decide)] at H;exact H
        clear H
        have H:=H1
        clear H1
        obtain ⟨bq18,hbq18⟩:∃b_:Bool,b_=((rd_T95 t102 x27_1).f1):=⟨_,rfl⟩
        replace H:(if bq18=true then (if 0≤(wrap64 ((x10_1.length:Int) - 1)) then (if (wrap64 ((x10_1.length:Int) - 1))<(x10_1.length:Int) then (impl_ReadBars.l0 k1 a0 a2 (x10_1.set ((wrap64 ((x10_1.length:Int) - 1)):Int).toNat (⟨(rd_T67 x10_1 (wrap64 ((x10_1.length:Int) - 1))).f0,wrap64 (((rd_T67 x10_1 (wrap64 ((x10_1.length:Int) - 1))).f1)+((rd_T95 t102 x27_1).f2.f1))⟩:S67)) t102 (t102.length:Int) (wrap64 (x27_1+1)) a1_0 l1_1 l1_2) else (none)) else (none)) else (if x10_1.length<8796093022208 then (impl_ReadBars.l0 k1 a0 a2 (x10_1++[(⟨(rd_T95 t102 x27_1).f2.f0,(rd_T95 t102 x27_1).f2.f1⟩:S67)]) t102 (t102.length:Int) (wrap64 (x27_1+1)) a1_0 l1_1 l1_2) else (none)))=some (r1,r2):=by rw [←hbq18] at H;exact H
        have Nbq18:=Aside0.mk hbq18
        clear hbq18
        by_cases c19:bq18=true
        ·subst c19
         have H1:(if 0≤(wrap64 ((x10_1.length:Int) - 1)) then (if (wrap64 ((x10_1.length:Int) - 1))<(x10_1.length:Int) then (impl_ReadBars.l0 k1 a0 a2 (x10_1.set ((wrap64 ((x10_1.length:Int) - 1)):Int).toNat (⟨(rd_T67 x10_1 (wrap64 ((x10_1.length:Int) - 1))).f0,wrap64 (((rd_T67 x10_1 (wrap64 ((x10_1.length:Int) - 1))).f1)+((rd_T95 t102 x27_1).f2.f1))⟩:S67)) t102 (t102.length:Int) (wrap64 (x27_1+1)) a1_0 l1_1 l1_2) else (none)) else (none))=some (r1,r2):=by rw [if_pos rfl] at H;exact H
         clear H
         have H:=H1
         clear H1
         obtain ⟨ji20,hji20⟩:∃j_:Int,(wrap64 ((x10_1.length:Int) - 1))=j_:=⟨_,rfl⟩
         replace H:(if 0≤(ji20) then (if (ji20)<(x10_1.length:Int) then (impl_ReadBars.l0 k1 a0 a2 (x10_1.set ((ji20):Int).toNat (⟨(rd_T67 x10_1 (ji20)).f0,wrap64 (((rd_T67 x10_1 (ji20)).f1)+((rd_T95 t102 x27_1).f2.f1))⟩:S67)) t102 (t102.length:Int) (wrap64 (x27_1+1)) a1_0 l1_1 l1_2) else (none)) else (none))=some (r1,r2):=by first|(rw [hji20] at H;exact H)|(simp only [hji20] at H ⊢;exact H)
         have hji20w:(IntKind.i64.wrap ((x10_1.length:Int) - 1))=ji20:=(i64_w _).trans hji20
         by_cases c21:0≤(ji20)
         ·rw [if_pos c21] at H
          have c21b0:decide (0≤(ji20))=true:=decide_eq_true c21
          clear c21
          by_cases c22:(ji20)<(x10_1.length:Int)
          ·rw [if_pos c22] at H
           have c22b0:decide ((ji20)<(x10_1.length:Int))=true:=decide_eq_true c22
           clear c22
           obtain ⟨y109,hy109⟩:∃y_:List (S67),y_=(x10_1.set ((ji20):Int).toNat (⟨(rd_T67 x10_1 (ji20)).f0,wrap64 (((rd_T67 x10_1 (ji20)).f1)+((rd_T95 t102 x27_1).f2.f1))⟩:S67)):=⟨_,rfl⟩
           replace H:(impl_ReadBars.l0 k1 a0 a2 y109 t102 (t102.length:Int) (wrap64 (x27_1+1)) a1_0 l1_1 l1_2)=some (r1,r2):=by first|(rw [hy109];with_reducible exact H)|(have H2_:=(Option.bind_some _ _).symm.trans H;rw [hy109];with_reducible exact H2_)|(have H2_:=(Option.bind_some _ _).symm.trans H;with_reducible exact H2_)|with_reducible exact H|(rw [hy109];exact H)|exact H
           have Ny109:=Aside0.mk hy109
           clear hy109
           have H':=Aside0.mk H
           clear H
           have p106:0≤(x27_1:Int):=of_decide_eq_true ze
           have q106:x27_1<(t102.length:Int):=of_decide_eq_true ze
           obtain ⟨ad106,e106,hx106_0,hx106_1,hx106_2,hx106_3⟩:=at_T95 (Kd.R_reads' HO_25.out).2.2 x27_1 p106 q106
           (try rw [←Nbq13.out] at hx106_0)
           (try rw [←Nbq18.out] at hx106_0)
           (try rw [←Nbq13.out] at hx106_1)
           (try rw [←Nbq18.out] at hx106_1)
           cases e106
           replace p106:=eq_true p106
           replace q106:=eq_true q106
           try go_wp2_with (first|((with_reducible refine gate_dst (N:=12) rfl ?_);refine box_event ?hg (N:=12) ?hd (cs:=#[.bool false,.bool false,.int .i64 0,.int .i64 0]) (t:=95) ?hr ?_;(case hd=>rfl);(case hg=>rfl);(case hr=>exact zy);intro gb107 hg w24 hbox hb;have n0_:=Aside0.mk (Kd.R_below zbi hb);have n1_:=Aside0.mk (Kd.R_below (Kd.R_elderB zcc gb107 (Nat.le_of_eq hg.symm)) hb);have n2_:=Aside0.mk (blk_below (g:=gb101) (o:=.cells #[.string a1_0,.slice A1_1 l1_1.length c1_1,.slice A1_2 l1_2.length c1_2] 50 (0,0)) zc hb);have n3_:=Aside0.mk (below_step zb hb);have n4_:=Aside0.mk (hbox);have n5_:=Aside0.mk ((by rw [hg];exact (below_size zb):w.heap.size≤gb107));have n6_:=Aside0.mk ((by rw [hg];exact (below_size zb):w.heap.size≤gb107));have n7_:=Aside0.mk ((by rw [hg];exact Nat.ne_of_lt (blk_lt (g:=gb101) (o:=.cells #[.string a1_0,.slice A1_1 l1_1.length c1_1,.slice A1_2 l1_2.length c1_2] 50 (0,0)) zc):gb101≠gb107));have n8_:=Aside0.mk ((by rw [hg];exact Nat.ne_of_gt (blk_lt (g:=gb101) (o:=.cells #[.string a1_0,.slice A1_1 l1_1.length c1_1,.slice A1_2 l1_2.length c1_2] 50 (0,0)) zc):gb107≠gb101));clear HO_10;clear HO_25;clear BK101;clear HB;have HO_10:=n0_;have HO_25:=n1_;have BK101:=n2_;have HB:=n3_;have BK107:=n4_;have GW107:=n5_;have GE107:=n6_;have NB101_107:=n7_;have NB107_101:=n8_;clear n0_ n1_ n2_ n3_ n4_ n5_ n6_ n7_ n8_;clear hb hbox hg;have hnb25:=NB107_101.out;have hnc25:=NB101_107.out;have hcz26_0:w24.cell? ⟨gb107,0,none⟩=some (.bool false):=(blk_cell BK107.out 0).trans rfl;have hcz26_1:w24.cell? ⟨gb107,1,none⟩=some (.bool false):=(blk_cell BK107.out 1).trans rfl;have hcz26_2:w24.cell? ⟨gb107,2,none⟩=some (.int .i64 0):=(blk_cell BK107.out 2).trans rfl;have hcz26_3:w24.cell? ⟨gb107,3,none⟩=some (.int .i64 0):=(blk_cell BK107.out 3).trans rfl;have hfz26_0:=blk_frozen BK107.out 0;have hfz26_1:=blk_frozen BK107.out 1;have hfz26_2:=blk_frozen BK107.out 2;have hfz26_3:=blk_frozen BK107.out 3))
           have n0_:Aside0 (Kd.R k67 67 ((((w24.setCell ⟨gb107,0,none⟩ (.bool false)).setCell ⟨gb107,1,none⟩ (.bool true)).setCell ⟨gb107,2,none⟩ (.int .i64 ((rd_T95 t102 x27_1).f2.f0))).setCell ⟨gb107,3,none⟩ (.int .i64 ((rd_T95 t102 x27_1).f2.f1))) w.heap.size (fun _=>True) u10 x10_1):=⟨by (with_reducible repeat (first|apply Kd.R_alloc|apply Kd.R_drewN|apply Kd.R_drew));exact Kd.R_mono (Kd.R_far (p:=⟨gb107,3,none⟩) (Kd.R_far (p:=⟨gb107,2,none⟩) (Kd.R_far (p:=⟨gb107,1,none⟩) (Kd.R_far (p:=⟨gb107,0,none⟩) (Kd.R_types HO_10.out BK107.out zbl) (fun _ hk=>hk.2) (.bool false)) (fun _ hk=>hk.2) (.bool true)) (fun _ hk=>hk.2) (.int .i64 ((rd_T95 t102 x27_1).f2.f0))) (fun _ hk=>hk.2) (.int .i64 ((rd_T95 t102 x27_1).f2.f1))) (fun _ hk=>trivial)⟩
           have n1_:Aside0 (Kd.R k95 95 ((((w24.setCell ⟨gb107,0,none⟩ (.bool false)).setCell ⟨gb107,1,none⟩ (.bool true)).setCell ⟨gb107,2,none⟩ (.int .i64 ((rd_T95 t102 x27_1).f2.f0))).setCell ⟨gb107,3,none⟩ (.int .i64 ((rd_T95 t102 x27_1).f2.f1))) w.heap.size (fun k_=>k_≠gb107) (.slice (some ad106) t102.length co9) t102):=⟨by (with_reducible repeat (first|apply Kd.R_alloc|apply Kd.R_drewN|apply Kd.R_drew));exact Kd.R_mono (Kd.R_far (p:=⟨gb107,3,none⟩) (Kd.R_far (p:=⟨gb107,2,none⟩) (Kd.R_far (p:=⟨gb107,1,none⟩) (Kd.R_far (p:=⟨gb107,0,none⟩) (Kd.R_mono HO_25.out (fun k_ hk=>(⟨hk,hk.2⟩:_∧k_≠gb107))) (fun _ hk=>hk.2) (.bool false)) (fun _ hk=>hk.2) (.bool true)) (fun _ hk=>hk.2) (.int .i64 ((rd_T95 t102 x27_1).f2.f0))) (fun _ hk=>hk.2) (.int .i64 ((rd_T95 t102 x27_1).f2.f1))) (fun _ hk=>hk.1.2)⟩
           have n2_:Aside0 (((((w24.setCell ⟨gb107,0,none⟩ (.bool false)).setCell ⟨gb107,1,none⟩ (.bool true)).setCell ⟨gb107,2,none⟩ (.int .i64 ((rd_T95 t102 x27_1).f2.f0))).setCell ⟨gb107,3,none⟩ (.int .i64 ((rd_T95 t102 x27_1).f2.f1))).heap[gb101]?=some (.cells #[.string a1_0,.slice A1_1 l1_1.length c1_1,.slice A1_2 l1_2.length c1_2] 50 (0,0))):=⟨zx⟩
           have n3_:Aside0 (((((w24.setCell ⟨gb107,0,none⟩ (.bool false)).setCell ⟨gb107,1,none⟩ (.bool true)).setCell ⟨gb107,2,none⟩ (.int .i64 ((rd_T95 t102 x27_1).f2.f0))).setCell ⟨gb107,3,none⟩ (.int .i64 ((rd_T95 t102 x27_1).f2.f1))).heap[gb107]?=some (.cells #[.bool false,.bool true,.int .i64 ((rd_T95 t102 x27_1).f2.f0),.int .i64 ((rd_T95 t102 x27_1).f2.f1)] 95 (0,0))):=⟨by (with_reducible repeat (first|refine blk_drewN ?_ _|refine blk_drew ?_|refine blk_alloc ?_ _));refine blk_put (cs:=#[.bool false,.bool true,.int .i64 ((rd_T95 t102 x27_1).f2.f0),.int .i64 0]) ?_ 3 _ rfl;(with_reducible repeat (first|refine blk_drewN ?_ _|refine blk_drew ?_|refine blk_alloc ?_ _));refine blk_put (cs:=#[.bool false,.bool true,.int .i64 0,.int .i64 0]) ?_ 2 _ rfl;(with_reducible repeat (first|refine blk_drewN ?_ _|refine blk_drew ?_|refine blk_alloc ?_ _));refine blk_put (cs:=#[.bool false,.bool false,.int .i64 0,.int .i64 0]) ?_ 1 _ rfl;(with_reducible repeat (first|refine blk_drewN ?_ _|refine blk_drew ?_|refine blk_alloc ?_ _));refine blk_put (cs:=#[.bool false,.bool false,.int .i64 0,.int .i64 0]) ?_ 0 _ rfl;(with_reducible repeat (first|refine blk_drewN ?_ _|refine blk_drew ?_|refine blk_alloc ?_ _));exact BK107.out⟩
           have n4_:Aside0 (Below w.heap.size w ((((w24.setCell ⟨gb107,0,none⟩ (.bool false)).setCell ⟨gb107,1,none⟩ (.bool true)).setCell ⟨gb107,2,none⟩ (.int .i64 ((rd_T95 t102 x27_1).f2.f0))).setCell ⟨gb107,3,none⟩ (.int .i64 ((rd_T95 t102 x27_1).f2.f1)))):=⟨zf⟩
           (try clear HO_10)
           (try clear HO_25)
           (try clear BK101)
           (try clear BK107)
           (try clear HB)
           generalize ((((w24.setCell ⟨gb107,0,none⟩ (.bool false)).setCell ⟨gb107,1,none⟩ (.bool true)).setCell ⟨gb107,2,none⟩ (.int .i64 ((rd_T95 t102 x27_1).f2.f0))).setCell ⟨gb107,3,none⟩ (.int .i64 ((rd_T95 t102 x27_1).f2.f1)))=w27 at n0_ n1_ n2_ n3_ n4_ ⊢
           have HO_10:=n0_
           have HO_25:=n1_
           have BK101:=n2_
           have BK107:=n3_
           have HB:=n4_
           clear n0_ n1_ n2_ n3_ n4_
           replace HO_10:=Aside0.mk (Kd.R_drew HO_10.out)
           replace HO_25:=Aside0.mk (Kd.R_drew HO_25.out)
           replace BK101:=Aside0.mk (blk_drew BK101.out)
           replace BK107:=Aside0.mk (blk_drew BK107.out)
           replace HB:=Aside0.mk (below_drew1 HB.out)
           obtain ⟨Ao29,co29,eo29⟩:=Kd.R_slice HO_10.out
           (first|subst eo29|(injection eo29 with f1_ f2_ f3_;have f4_:=f1_.symm;have f5_:=f3_.symm;clear f1_ f2_ f3_;subst f4_;subst f5_))
           have p108:0≤((ji20):Int):=of_decide_eq_true ze
           have q108:(ji20)<(x10_1.length:Int):=of_decide_eq_true ze
           obtain ⟨ad108,e108,hx108_0,hx108_1⟩:=at_T67 (Kd.R_reads' HO_10.out).2.2 (ji20) p108 q108
           cases e108
           replace p108:=eq_true p108
           replace q108:=eq_true q108
           have p23:0≤((ji20):Int):=of_decide_eq_true ze
           have q23:((ji20):Int)<((x10_1.length:Int):Int):=of_decide_eq_true ze
           obtain ⟨go23,co23,eo23,gb23,gl23,cl23,HG23⟩:=Kd.R_form HO_10.out zdb
           (first|cases eo23|(injection eo23 with ea_ en_ ec_;(first|subst ea_|(injection ea_ with ea_;subst ea_));subst ec_;clear en_))
           have GB23:=Aside0.mk gb23
           have GG23:=Aside0.mk HG23
           clear gb23 gl23 HG23
           (first|simp only [add_plain] at hx108_0|skip)
           (first|simp only [add_plain] at hx108_1|skip)
           obtain ⟨ce23,hcl23,hM23,hcc23,hfr23⟩:=Kd.R_elem HO_10.out z67 ((ji20):Int) p23 q23
           obtain rfl:=k67_openM hM23
           have hx23_0:World.cell? _ ⟨go23,((ji20):Int).toNat*2,none⟩=some (.int .i64 ((rd_T67 x10_1 (ji20)).f0)):=hcc23 0 _ rfl
           have hx23_1:World.cell? _ ⟨go23,((ji20):Int).toNat*2+1,none⟩=some (.int .i64 ((rd_T67 x10_1 (ji20)).f1)):=hcc23 1 _ rfl
           have hf23_0:World.frozen? _ ⟨go23,((ji20):Int).toNat*2,none⟩=false:=hfr23 0
           have hf23_1:World.frozen? _ ⟨go23,((ji20):Int).toNat*2+1,none⟩=false:=hfr23 1
           clear hcl23 hcc23 hfr23 hM23
           replace p23:=eq_true p23
           replace q23:=eq_true q23
           obtain ⟨ce30,hcl30,hM30,hcc30,hfr30⟩:=Kd.R_elem HO_10.out z67 ((ji20):Int) (of_decide_eq_true ze) (by have h_:((ji20):Int)<((x10_1.length:Int):Int):=of_decide_eq_true ze;first|exact h_|(have e_:=(Kd.R_reads' HO_10.out).1;omega)|simpa using h_)
           obtain rfl:=k67_openM hM30
           have HP30:=(Kd.R_seg HO_10.out ((ji20):Int) (of_decide_eq_true ze) (by have h_:((ji20):Int)<((x10_1.length:Int):Int):=of_decide_eq_true ze;first|exact h_|(have e_:=(Kd.R_reads' HO_10.out).1;omega)|simpa using h_) (seg:=[.int .i64 (wrap64 (((rd_T67 x10_1 (ji20)).f1)+((rd_T95 t102 x27_1).f2.f1)))]) (j:=1) hcl30 hcc30 (show 2≤2 from by decide) (x':=(⟨(rd_T67 x10_1 (ji20)).f0,wrap64 (((rd_T67 x10_1 (ji20)).f1)+((rd_T95 t102 x27_1).f2.f1))⟩:S67)) (k67_mkM _ _ _ (⟨(rd_T67 x10_1 (ji20)).f0,wrap64 (((rd_T67 x10_1 (ji20)).f1)+((rd_T95 t102 x27_1).f2.f1))⟩:S67)) (fun _ hk=>hk)).1
           rw [←Ny109.out] at HP30
           have HQ30:=Aside0.mk HP30
           clear hcl30 hcc30 hfr30 hM30 HP30
           refine start_ (n:=14) (S:=fun w'=>w'.cell? ⟨gb107,0,none⟩=some (.bool false)∧w'.cell? ⟨gb107,1,none⟩=some (.bool true)∧w'.cell? ⟨gb107,2,none⟩=some (.int .i64 ((rd_T95 t102 x27_1).f2.f0))∧w'.cell? ⟨gb107,3,none⟩=some (.int .i64 ((rd_T95 t102 x27_1).f2.f1))∧w'.cell? ⟨go23,((ji20)).toNat*2,none⟩=some (.int .i64 ((rd_T67 x10_1 (ji20)).f0))∧w'.cell? ⟨go23,((ji20)).toNat*2+1,none⟩=some (.int .i64 ((rd_T67 x10_1 (ji20)).f1))) (ds:=[13]) #[false,false,false,false,false,false,false,false,false,false,false,false,false,false] zau rfl rfl ⟨(blk_cell BK107.out 0).trans rfl,(blk_cell BK107.out 1).trans rfl,(blk_cell BK107.out 2).trans rfl,(blk_cell BK107.out 3).trans rfl,hx108_0,hx108_1⟩ (fun hHeld=>?_);refine with_tabW impl_ReadBars.tab11 impl_ReadBars.bits11 (fun HT_ HW_=>?_)
           generalize w27.drew=w28 at HO_10 HO_25 BK101 BK107 HB GG23 HQ30 hf23_0 hf23_1 hx108_0 hx108_1 hx23_0 hx23_1 hHeld ⊢
           refine pA 0 42 ?_
           refine pA 1 43 ?_
           refine pA 2 44 ?_
           refine pA 3 45 ?_
           refine pA 4 46 ?_
           refine pA 5 47 ?_
           refine pA 7 49 ?_
           refine pA 8 50 ?_
           refine pT 6 48 rfl zbu ?_
           refine pT 9 51 rfl zbu ?_
           refine pA 10 52 ?_
           refine pA 11 53 ?_
           refine pA 12 54 ?_
           refine last_ (i:=13) (N:=none) #[true,true,true,true,true,true,true,true,true,true,true,true,true,true] rfl rfl (one_of HT_.out zau) zbl (fun K hK=>?_)
           refine skip_ (w1:=?_) (by rfl) rfl ?_ ?_
           rotate_left
           ·go_simp
            rfl
           refine hK.out _ _ ?_
           clear hK K
           refine done_ (done_of HT_.out zau) ?_
           try go_wp2
           go_roundg k1
           case measure=>have:=HK1.out;omega
           case rel=>exact ⟨(y109),(wrap64 (x27_1+1)),zg,H',⟨zdo⟩,⟨by (with_reducible repeat (first|apply Kd.R_alloc|apply Kd.R_drewN|apply Kd.R_drew));exact HQ30.out⟩,⟨by (with_reducible repeat (first|apply Kd.R_alloc|apply Kd.R_drewN|apply Kd.R_drew));exact Kd.R_mono (Kd.R_far (p:=⟨go23,((ji20):Int).toNat*2+1,none⟩) (Kd.R_types HO_25.out GG23.out zbl) (fun _ hk=>hk.2) (.int .i64 (wrap64 (((rd_T67 x10_1 (ji20)).f1)+((rd_T95 t102 x27_1).f2.f1))))) (fun _ hk=>trivial)⟩,⟨by (with_reducible repeat (first|refine blk_drewN ?_ _|refine blk_drew ?_|refine blk_alloc ?_ _));refine blk_far ?_ (by have h_:=Kd.R_ne HO_10.out BK101.out zbl;intro e_;exact h_ (by rw [e_];rfl)) _;(with_reducible repeat (first|refine blk_drewN ?_ _|refine blk_drew ?_|refine blk_alloc ?_ _));exact BK101.out⟩,⟨by repeat (first|(with_reducible first|exact HB.out|apply below_alloc|apply pw_below_drewN|apply below_drew1|refine below_set ?_ GB23.out|refine below_set ?_ GE101.out|refine below_set ?_ GE107.out)|exact HB.out)⟩⟩
          ·rw [if_neg c22] at H
           exact absurd H zdd
         ·rw [if_neg c21] at H
          exact absurd H zdd
        ·replace c19:=Bool.eq_false_iff.mpr c19
         subst c19
         have H1:(if x10_1.length<8796093022208 then (impl_ReadBars.l0 k1 a0 a2 (x10_1++[(⟨(rd_T95 t102 x27_1).f2.f0,(rd_T95 t102 x27_1).f2.f1⟩:S67)]) t102 (t102.length:Int) (wrap64 (x27_1+1)) a1_0 l1_1 l1_2) else (none))=some (r1,r2):=by rw [if_neg (show ¬ (false=true) by decide)] at H;exact H
         clear H
         have H:=H1
         clear H1
         by_cases c31:x10_1.length<8796093022208
         ·rw [if_pos c31] at H
          have LMc31:=Aside0.mk c31
          clear c31
          obtain ⟨y110,hy110⟩:∃y_:List (S67),y_=(x10_1++[(⟨(rd_T95 t102 x27_1).f2.f0,(rd_T95 t102 x27_1).f2.f1⟩:S67)]):=⟨_,rfl⟩
          replace H:(impl_ReadBars.l0 k1 a0 a2 y110 t102 (t102.length:Int) (wrap64 (x27_1+1)) a1_0 l1_1 l1_2)=some (r1,r2):=by first|(rw [hy110];with_reducible exact H)|(have H2_:=(Option.bind_some _ _).symm.trans H;rw [hy110];with_reducible exact H2_)|(have H2_:=(Option.bind_some _ _).symm.trans H;with_reducible exact H2_)|with_reducible exact H|(rw [hy110];exact H)|exact H
          have Ny110:=Aside0.mk hy110
          clear hy110
          have H':=Aside0.mk H
          clear H
          have p106:0≤(x27_1:Int):=of_decide_eq_true ze
          have q106:x27_1<(t102.length:Int):=of_decide_eq_true ze
          obtain ⟨ad106,e106,hx106_0,hx106_1,hx106_2,hx106_3⟩:=at_T95 (Kd.R_reads' HO_25.out).2.2 x27_1 p106 q106
          (try rw [←Nbq13.out] at hx106_0)
          (try rw [←Nbq18.out] at hx106_0)
          (try rw [←Nbq13.out] at hx106_1)
          (try rw [←Nbq18.out] at hx106_1)
          cases e106
          replace p106:=eq_true p106
          replace q106:=eq_true q106
          go_wp2_with (first|((with_reducible refine gate_dst (N:=12) rfl ?_);refine box_event ?hg (N:=12) ?hd (cs:=#[.bool false,.bool false,.int .i64 0,.int .i64 0]) (t:=95) ?hr ?_;(case hd=>rfl);(case hg=>rfl);(case hr=>exact zy);intro gb107 hg w32 hbox hb;have n0_:=Aside0.mk (Kd.R_below zbi hb);have n1_:=Aside0.mk (Kd.R_below (Kd.R_elderB zcc gb107 (Nat.le_of_eq hg.symm)) hb);have n2_:=Aside0.mk (blk_below (g:=gb101) (o:=.cells #[.string a1_0,.slice A1_1 l1_1.length c1_1,.slice A1_2 l1_2.length c1_2] 50 (0,0)) zc hb);have n3_:=Aside0.mk (below_step zb hb);have n4_:=Aside0.mk (hbox);have n5_:=Aside0.mk ((by rw [hg];exact (below_size zb):w.heap.size≤gb107));have n6_:=Aside0.mk ((by rw [hg];exact (below_size zb):w.heap.size≤gb107));have n7_:=Aside0.mk ((by rw [hg];exact Nat.ne_of_lt (blk_lt (g:=gb101) (o:=.cells #[.string a1_0,.slice A1_1 l1_1.length c1_1,.slice A1_2 l1_2.length c1_2] 50 (0,0)) zc):gb101≠gb107));have n8_:=Aside0.mk ((by rw [hg];exact Nat.ne_of_gt (blk_lt (g:=gb101) (o:=.cells #[.string a1_0,.slice A1_1 l1_1.length c1_1,.slice A1_2 l1_2.length c1_2] 50 (0,0)) zc):gb107≠gb101));clear HO_10;clear HO_25;clear BK101;clear HB;have HO_10:=n0_;have HO_25:=n1_;have BK101:=n2_;have HB:=n3_;have BK107:=n4_;have GW107:=n5_;have GE107:=n6_;have NB101_107:=n7_;have NB107_101:=n8_;clear n0_ n1_ n2_ n3_ n4_ n5_ n6_ n7_ n8_;clear hb hbox hg;have hnb33:=NB107_101.out;have hnc33:=NB101_107.out;have hcz34_0:w32.cell? ⟨gb107,0,none⟩=some (.bool false):=(blk_cell BK107.out 0).trans rfl;have hcz34_1:w32.cell? ⟨gb107,1,none⟩=some (.bool false):=(blk_cell BK107.out 1).trans rfl;have hcz34_2:w32.cell? ⟨gb107,2,none⟩=some (.int .i64 0):=(blk_cell BK107.out 2).trans rfl;have hcz34_3:w32.cell? ⟨gb107,3,none⟩=some (.int .i64 0):=(blk_cell BK107.out 3).trans rfl;have hfz34_0:=blk_frozen BK107.out 0;have hfz34_1:=blk_frozen BK107.out 1;have hfz34_2:=blk_frozen BK107.out 2;have hfz34_3:=blk_frozen BK107.out 3)|((with_reducible refine gate_builtin (b:=.append) (xs:=#[.tmp 31,.tmp 34]) rfl ?_);at_builtin;refine Kd.R_append k67 (w0:=w) w.heap.size rfl (.tmp 31) (.tmp 34) 30 67 (.agg #[(.int .i64 0),(.int .i64 0)]) 16 rfl Tryz.underlying30 info67 rfl zbl zdb u10 x10_1 (⟨(rd_T95 t102 x27_1).f2.f0,(rd_T95 t102 x27_1).f2.f1⟩:S67) [.int .i64 ((rd_T95 t102 x27_1).f2.f0),.int .i64 ((rd_T95 t102 x27_1).f2.f1)] (fun _=>True) (fun _=>False) rfl zy ?aP (fun _ hk=>hk.elim) ?aF ?aO ?aB ?aS ?aL ?_;(case aP=>exact k67_mkM _ _ _ (⟨(rd_T95 t102 x27_1).f2.f0,(rd_T95 t102 x27_1).f2.f1⟩:S67));(case aB=>exact zf);(case aF=>exact zdj);(case aO=>exact (by (with_reducible repeat (first|apply Kd.R_alloc|apply Kd.R_drewN|apply Kd.R_drew));exact Kd.R_mono (Kd.R_far (p:=⟨gb107,3,none⟩) (Kd.R_far (p:=⟨gb107,2,none⟩) (Kd.R_far (p:=⟨gb107,1,none⟩) (Kd.R_far (p:=⟨gb107,0,none⟩) (Kd.R_types HO_10.out BK107.out zbl) (fun _ hk=>hk.2) (.bool false)) (fun _ hk=>hk.2) (.bool false)) (fun _ hk=>hk.2) (.int .i64 ((rd_T95 t102 x27_1).f2.f0))) (fun _ hk=>hk.2) (.int .i64 ((rd_T95 t102 x27_1).f2.f1))) (fun _ hk=>trivial)));(case aS=>exact (below_size zf));(case aL=>have:=LMc31.out;omega);intro v111 w35 ho hb hg hat;rw [←Ny110.out] at ho;replace HO_25:=Aside0.mk (Kd.R_over' (by (with_reducible repeat (first|apply Kd.R_alloc|apply Kd.R_drewN|apply Kd.R_drew));exact (Kd.R_mono (Kd.R_far (p:=⟨gb107,3,none⟩) (Kd.R_far (p:=⟨gb107,2,none⟩) (Kd.R_far (p:=⟨gb107,1,none⟩) (Kd.R_far (p:=⟨gb107,0,none⟩) (Kd.R_mono HO_25.out (fun k_ hk=>(⟨hk,hk.2⟩:_∧k_≠gb107))) (fun _ hk=>hk.2) (.bool false)) (fun _ hk=>hk.2) (.bool false)) (fun _ hk=>hk.2) (.int .i64 ((rd_T95 t102 x27_1).f2.f0))) (fun _ hk=>hk.2) (.int .i64 ((rd_T95 t102 x27_1).f2.f1))) (fun _ h_=>h_.1))) (Kd.R_typed (by (with_reducible repeat (first|apply Kd.R_alloc|apply Kd.R_drewN|apply Kd.R_drew));exact (Kd.R_mono (Kd.R_far (p:=⟨gb107,3,none⟩) (Kd.R_far (p:=⟨gb107,2,none⟩) (Kd.R_far (p:=⟨gb107,1,none⟩) (Kd.R_far (p:=⟨gb107,0,none⟩) (Kd.R_types HO_10.out BK107.out zbl) (fun _ hk=>hk.2) (.bool false)) (fun _ hk=>hk.2) (.bool false)) (fun _ hk=>hk.2) (.int .i64 ((rd_T95 t102 x27_1).f2.f0))) (fun _ hk=>hk.2) (.int .i64 ((rd_T95 t102 x27_1).f2.f1))) (fun _ h_=>h_.1)))) zbl hg);replace BK101:=Aside0.mk (blk_grown (g:=gb101) (o:=.cells #[.string a1_0,.slice A1_1 l1_1.length c1_1,.slice A1_2 l1_2.length c1_2] 50 (0,0)) zx hg (Kd.R_ne HO_10.out BK101.out zbl));replace BK107:=Aside0.mk (blk_grown (g:=gb107) (o:=.cells #[.bool false,.bool false,.int .i64 ((rd_T95 t102 x27_1).f2.f0),.int .i64 ((rd_T95 t102 x27_1).f2.f1)] 95 (0,0)) (by (with_reducible repeat (first|refine blk_drewN ?_ _|refine blk_drew ?_|refine blk_alloc ?_ _));refine blk_put (cs:=#[.bool false,.bool false,.int .i64 ((rd_T95 t102 x27_1).f2.f0),.int .i64 0]) ?_ 3 _ rfl;(with_reducible repeat (first|refine blk_drewN ?_ _|refine blk_drew ?_|refine blk_alloc ?_ _));refine blk_put (cs:=#[.bool false,.bool false,.int .i64 0,.int .i64 0]) ?_ 2 _ rfl;(with_reducible repeat (first|refine blk_drewN ?_ _|refine blk_drew ?_|refine blk_alloc ?_ _));refine blk_put (cs:=#[.bool false,.bool false,.int .i64 0,.int .i64 0]) ?_ 1 _ rfl;(with_reducible repeat (first|refine blk_drewN ?_ _|refine blk_drew ?_|refine blk_alloc ?_ _));refine blk_put (cs:=#[.bool false,.bool false,.int .i64 0,.int .i64 0]) ?_ 0 _ rfl;(with_reducible repeat (first|refine blk_drewN ?_ _|refine blk_drew ?_|refine blk_alloc ?_ _));exact BK107.out) hg (Kd.R_ne HO_10.out BK107.out zbl));replace HB:=Aside0.mk (hb);have HO112:=Aside0.mk (ho);clear HO_10;clear ho hb hg hat))
          go_roundg k1
          case measure=>have:=HK1.out;omega
          case rel=>exact ⟨(y110),(wrap64 (x27_1+1)),zg,H',⟨zdo⟩,⟨by (with_reducible repeat (first|apply Kd.R_alloc|apply Kd.R_drewN|apply Kd.R_drew));exact HO112.out⟩,⟨by (with_reducible repeat (first|apply Kd.R_alloc|apply Kd.R_drewN|apply Kd.R_drew));exact Kd.R_mono HO_25.out (fun _ hk=>trivial)⟩,⟨zc⟩,⟨zf⟩⟩
         ·rw [if_neg c31] at H
          exact absurd H zdd
      ·rw [if_neg c12] at H
       exact absurd H zdd
     ·rw [if_neg c11] at H
      exact absurd H zdd
    ·rw [if_neg c10] at H
     have c10b0:decide (x27_1<(t102.length:Int))=false:=decide_eq_false c10
     clear c10
     replace H:=Option.bind_eq_some_iff.mp H
     obtain ⟨t113,A360,H⟩:=H
     replace H:(if t113=true then ((impl_notate.f k1 x10_1 a1_0 l1_1 l1_2 a2).bind fun bt114=>(if bt114.2=true then (if bt114.1.toList=a0.toList then (some (x10_1,0)) else (some (([]:List (S67)),9))) else (some (([]:List (S67)),9)))) else (some (([]:List (S67)),9)))=some (r1,r2):=H
     have A36:=Aside0.mk A360
     clear A360
     by_cases c37:t113=true
     ·subst c37
      have H1:((impl_notate.f k1 x10_1 a1_0 l1_1 l1_2 a2).bind fun bt114=>(if bt114.2=true then (if bt114.1.toList=a0.toList then (some (x10_1,0)) else (some (([]:List (S67)),9))) else (some (([]:List (S67)),9))))=some (r1,r2):=by rw [if_pos rfl] at H;exact H
      clear H
      have H:=H1
      clear H1
      replace H:=Option.bind_eq_some_iff.mp H
      obtain ⟨⟨t114,t115⟩,A380,H⟩:=H
      replace H:(if t115=true then (if t114.toList=a0.toList then (some (x10_1,0)) else (some (([]:List (S67)),9))) else (some (([]:List (S67)),9)))=some (r1,r2):=H
      have A38:=Aside0.mk A380
      clear A380
      by_cases c39:t115=true
      ·subst c39
       have H1:(if t114.toList=a0.toList then (some (x10_1,0)) else (some (([]:List (S67)),9)))=some (r1,r2):=by rw [if_pos rfl] at H;exact H
       clear H
       have H:=H1
       clear H1
       by_cases c40:t114.toList=a0.toList
       ·rw [if_pos c40] at H
        have c40b0:(t114.toList == a0.toList)=true:=beq_iff_eq.mpr c40
        have c40b1:(t114.toList != a0.toList)=false:=bne_eq_false_iff_eq.mpr c40
        clear c40
        simp only [Option.some.injEq,Prod.mk.injEq] at H
        obtain ⟨rfl,rfl⟩:=H
        obtain ⟨Ao41,co41,eo41⟩:=Kd.R_slice HO_10.out
        subst eo41
        go_wp2_with (first|((with_reducible refine gate_callee (f:=70) rfl ?_);refine goesL_ (some 57) rfl rfl Tryz.func70 zau rfl #[.slice Ao41 x10_1.length co41] rfl zd ?_;(with_reducible refine (impl_ValidMelody.calls k1 _ _ x10_1 true _ ?side1 ?side2 A36.out).mono ?_);(case side1=>exact zbw);(case side2=>exact (Kd.R_reads' HO_10.out).2.1);rintro e w42 ⟨rfl,hb⟩;refine ⟨_,rfl,?_⟩;replace HO_10:=Aside0.mk (Kd.R_below zbi hb);replace HO_25:=Aside0.mk (Kd.R_below zcc hb);replace BK101:=Aside0.mk (blk_below (g:=gb101) (o:=.cells #[.string a1_0,.slice A1_1 l1_1.length c1_1,.slice A1_2 l1_2.length c1_2] 50 (0,0)) zc hb);replace HB:=Aside0.mk (below_step zb hb);(try clear hb);(try clear hb2);(try clear hk);(try clear hi);have hcz43_0:w42.cell? ⟨gb101,0,none⟩=some (.string a1_0):=(blk_cell BK101.out 0).trans rfl;have hcz43_1:w42.cell? ⟨gb101,1,none⟩=some (.slice A1_1 l1_1.length c1_1):=(blk_cell BK101.out 1).trans rfl;have hcz43_2:w42.cell? ⟨gb101,2,none⟩=some (.slice A1_2 l1_2.length c1_2):=(blk_cell BK101.out 2).trans rfl;have hfz43_0:=blk_frozen BK101.out 0;have hfz43_1:=blk_frozen BK101.out 1;have hfz43_2:=blk_frozen BK101.out 2)|((with_reducible refine gate_callee (f:=71) rfl ?_);refine goesL_ (some 63) rfl rfl Tryz.func71 zau rfl #[.slice Ao41 x10_1.length co41,.agg #[.string a1_0,.slice A1_1 l1_1.length c1_1,.slice A1_2 l1_2.length c1_2],.int .i64 a2] rfl zd ?_;(with_reducible refine (impl_notate.calls k1 _ _ x10_1 a1_0 _ _ l1_1 _ _ l1_2 a2 t114 true _ ?side7 ?side1 ?side2 ?side3 ?side4 ?side5 ?side6 A38.out).mono ?_);(case side1=>exact zbw);(case side2=>exact (Kd.R_reads' HO_10.out).2.1);(case side3=>exact zs);(case side4=>exact HC1_1.out);(case side5=>exact zt);(case side6=>exact HC1_2.out);(case side7=>exact Door2.one (Door2.at HD.out zb));rintro e w44 ⟨rfl,hb⟩;refine ⟨_,rfl,?_⟩;replace HO_10:=Aside0.mk (Kd.R_below zbi hb);replace HO_25:=Aside0.mk (Kd.R_below zcc hb);replace BK101:=Aside0.mk (blk_below (g:=gb101) (o:=.cells #[.string a1_0,.slice A1_1 l1_1.length c1_1,.slice A1_2 l1_2.length c1_2] 50 (0,0)) zc hb);replace HB:=Aside0.mk (below_step zb hb);(try clear hb);(try clear hb2);(try clear hk);(try clear hi)))
        go_ret2
        exact ⟨_,zi,zbi,zb⟩
       ·rw [if_neg c40] at H
        have c40b0:(t114.toList == a0.toList)=false:=beq_eq_false_iff_ne.mpr c40
        have c40b1:(t114.toList != a0.toList)=true:=bne_iff_ne.mpr c40
        simp only [Option.some.injEq,Prod.mk.injEq] at H
        obtain ⟨rfl,rfl⟩:=H
        obtain ⟨Ao45,co45,eo45⟩:=Kd.R_slice HO_10.out
        subst eo45
        go_wp2_with (first|((with_reducible refine gate_callee (f:=70) rfl ?_);refine goesL_ (some 57) rfl rfl Tryz.func70 zau rfl #[.slice Ao45 x10_1.length co45] rfl zd ?_;(with_reducible refine (impl_ValidMelody.calls k1 _ _ x10_1 true _ ?side1 ?side2 A36.out).mono ?_);(case side1=>exact zbw);(case side2=>exact (Kd.R_reads' HO_10.out).2.1);rintro e w46 ⟨rfl,hb⟩;refine ⟨_,rfl,?_⟩;replace HO_10:=Aside0.mk (Kd.R_below zbi hb);replace HO_25:=Aside0.mk (Kd.R_below zcc hb);replace BK101:=Aside0.mk (blk_below (g:=gb101) (o:=.cells #[.string a1_0,.slice A1_1 l1_1.length c1_1,.slice A1_2 l1_2.length c1_2] 50 (0,0)) zc hb);replace HB:=Aside0.mk (below_step zb hb);(try clear hb);(try clear hb2);(try clear hk);(try clear hi);have hcz47_0:w46.cell? ⟨gb101,0,none⟩=some (.string a1_0):=(blk_cell BK101.out 0).trans rfl;have hcz47_1:w46.cell? ⟨gb101,1,none⟩=some (.slice A1_1 l1_1.length c1_1):=(blk_cell BK101.out 1).trans rfl;have hcz47_2:w46.cell? ⟨gb101,2,none⟩=some (.slice A1_2 l1_2.length c1_2):=(blk_cell BK101.out 2).trans rfl;have hfz47_0:=blk_frozen BK101.out 0;have hfz47_1:=blk_frozen BK101.out 1;have hfz47_2:=blk_frozen BK101.out 2)|((with_reducible refine gate_callee (f:=71) rfl ?_);refine goesL_ (some 63) rfl rfl Tryz.func71 zau rfl #[.slice Ao45 x10_1.length co45,.agg #[.string a1_0,.slice A1_1 l1_1.length c1_1,.slice A1_2 l1_2.length c1_2],.int .i64 a2] rfl zd ?_;(with_reducible refine (impl_notate.calls k1 _ _ x10_1 a1_0 _ _ l1_1 _ _ l1_2 a2 t114 true _ ?side7 ?side1 ?side2 ?side3 ?side4 ?side5 ?side6 A38.out).mono ?_);(case side1=>exact zbw);(case side2=>exact (Kd.R_reads' HO_10.out).2.1);(case side3=>exact zs);(case side4=>exact HC1_1.out);(case side5=>exact zt);(case side6=>exact HC1_2.out);(case side7=>exact Door2.one (Door2.at HD.out zb));rintro e w48 ⟨rfl,hb⟩;refine ⟨_,rfl,?_⟩;replace HO_10:=Aside0.mk (Kd.R_below zbi hb);replace HO_25:=Aside0.mk (Kd.R_below zcc hb);replace BK101:=Aside0.mk (blk_below (g:=gb101) (o:=.cells #[.string a1_0,.slice A1_1 l1_1.length c1_1,.slice A1_2 l1_2.length c1_2] 50 (0,0)) zc hb);replace HB:=Aside0.mk (below_step zb hb);(try clear hb);(try clear hb2);(try clear hk);(try clear hi)))
        go_ret2
        exact ⟨_,zi,zm,zb⟩
      ·replace c39:=Bool.eq_false_iff.mpr c39
       subst c39
       have H1:(some (([]:List (S67)),9))=some (r1,r2):=by rw [if_neg (show ¬ (false=true) by decide)] at H;exact H
       clear H
       have H:=H1
       clear H1
       simp only [Option.some.injEq,Prod.mk.injEq] at H
       obtain ⟨rfl,rfl⟩:=H
       obtain ⟨Ao49,co49,eo49⟩:=Kd.R_slice HO_10.out
       subst eo49
       go_wp2_with (first|((with_reducible refine gate_callee (f:=70) rfl ?_);refine goesL_ (some 57) rfl rfl Tryz.func70 zau rfl #[.slice Ao49 x10_1.length co49] rfl zd ?_;(with_reducible refine (impl_ValidMelody.calls k1 _ _ x10_1 true _ ?side1 ?side2 A36.out).mono ?_);(case side1=>exact zbw);(case side2=>exact (Kd.R_reads' HO_10.out).2.1);rintro e w50 ⟨rfl,hb⟩;refine ⟨_,rfl,?_⟩;replace HO_10:=Aside0.mk (Kd.R_below zbi hb);replace HO_25:=Aside0.mk (Kd.R_below zcc hb);replace BK101:=Aside0.mk (blk_below (g:=gb101) (o:=.cells #[.string a1_0,.slice A1_1 l1_1.length c1_1,.slice A1_2 l1_2.length c1_2] 50 (0,0)) zc hb);replace HB:=Aside0.mk (below_step zb hb);(try clear hb);(try clear hb2);(try clear hk);(try clear hi);have hcz51_0:w50.cell? ⟨gb101,0,none⟩=some (.string a1_0):=(blk_cell BK101.out 0).trans rfl;have hcz51_1:w50.cell? ⟨gb101,1,none⟩=some (.slice A1_1 l1_1.length c1_1):=(blk_cell BK101.out 1).trans rfl;have hcz51_2:w50.cell? ⟨gb101,2,none⟩=some (.slice A1_2 l1_2.length c1_2):=(blk_cell BK101.out 2).trans rfl;have hfz51_0:=blk_frozen BK101.out 0;have hfz51_1:=blk_frozen BK101.out 1;have hfz51_2:=blk_frozen BK101.out 2)|((with_reducible refine gate_callee (f:=71) rfl ?_);refine goesL_ (some 63) rfl rfl Tryz.func71 zau rfl #[.slice Ao49 x10_1.length co49,.agg #[.string a1_0,.slice A1_1 l1_1.length c1_1,.slice A1_2 l1_2.length c1_2],.int .i64 a2] rfl zd ?_;(with_reducible refine (impl_notate.calls k1 _ _ x10_1 a1_0 _ _ l1_1 _ _ l1_2 a2 t114 false _ ?side7 ?side1 ?side2 ?side3 ?side4 ?side5 ?side6 A38.out).mono ?_);(case side1=>exact zbw);(case side2=>exact (Kd.R_reads' HO_10.out).2.1);(case side3=>exact zs);(case side4=>exact HC1_1.out);(case side5=>exact zt);(case side6=>exact HC1_2.out);(case side7=>exact Door2.one (Door2.at HD.out zb));rintro e w52 ⟨rfl,hb⟩;refine ⟨_,rfl,?_⟩;replace HO_10:=Aside0.mk (Kd.R_below zbi hb);replace HO_25:=Aside0.mk (Kd.R_below zcc hb);replace BK101:=Aside0.mk (blk_below (g:=gb101) (o:=.cells #[.string a1_0,.slice A1_1 l1_1.length c1_1,.slice A1_2 l1_2.length c1_2] 50 (0,0)) zc hb);replace HB:=Aside0.mk (below_step zb hb);(try clear hb);(try clear hb2);(try clear hk);(try clear hi)))
       go_ret2
       exact ⟨_,zi,zm,zb⟩
     ·replace c37:=Bool.eq_false_iff.mpr c37
      subst c37
      have H1:(some (([]:List (S67)),9))=some (r1,r2):=by rw [if_neg (show ¬ (false=true) by decide)] at H;exact H
      clear H
      have H:=H1
      clear H1
      simp only [Option.some.injEq,Prod.mk.injEq] at H
      obtain ⟨rfl,rfl⟩:=H
      obtain ⟨Ao53,co53,eo53⟩:=Kd.R_slice HO_10.out
      subst eo53
      go_wp2_with (first|((with_reducible refine gate_callee (f:=70) rfl ?_);refine goesL_ (some 57) rfl rfl Tryz.func70 zau rfl #[.slice Ao53 x10_1.length co53] rfl zd ?_;(with_reducible refine (impl_ValidMelody.calls k1 _ _ x10_1 false _ ?side1 ?side2 A36.out).mono ?_);(case side1=>exact zbw);(case side2=>exact (Kd.R_reads' HO_10.out).2.1);rintro e w54 ⟨rfl,hb⟩;refine ⟨_,rfl,?_⟩;replace HO_10:=Aside0.mk (Kd.R_below zbi hb);replace HO_25:=Aside0.mk (Kd.R_below zcc hb);replace BK101:=Aside0.mk (blk_below (g:=gb101) (o:=.cells #[.string a1_0,.slice A1_1 l1_1.length c1_1,.slice A1_2 l1_2.length c1_2] 50 (0,0)) zc hb);replace HB:=Aside0.mk (below_step zb hb);(try clear hb);(try clear hb2);(try clear hk);(try clear hi)))
      go_ret2
      exact ⟨_,zi,zm,zb⟩
 ·rw [if_neg c5] at H
  have c5b0:(t105 == 0)=false:=beq_eq_false_iff_ne.mpr c5
  have c5b1:(t105 != 0)=true:=bne_iff_ne.mpr c5
  simp only [Option.some.injEq,Prod.mk.injEq] at H
  obtain ⟨rfl,rfl⟩:=H
  go_enter Tryz.func31,Tryz.ntmps31
  go_wp2_with (first|((with_reducible refine gate_dst (N:=4) rfl ?_);refine box_event ?hg (N:=4) ?hd (cs:=#[.string a1_0,.slice A1_1 l1_1.length c1_1,.slice A1_2 l1_2.length c1_2]) (t:=50) ?hr ?_;(case hd=>rfl);(case hg=>rfl);(case hr=>exact zy);intro gb101 hg w55 hbox hb;have n0_:=Aside0.mk (below_step za hb);have n1_:=Aside0.mk (hbox);have n2_:=Aside0.mk ((by rw [hg];exact (below_size za):w.heap.size≤gb101));have n3_:=Aside0.mk ((by rw [hg];exact (below_size za):w.heap.size≤gb101));clear HB;have HB:=n0_;have BK101:=n1_;have GW101:=n2_;have GE101:=n3_;clear n0_ n1_ n2_ n3_;clear hb hbox hg;have hcz56_0:w55.cell? ⟨gb101,0,none⟩=some (.string a1_0):=(blk_cell BK101.out 0).trans rfl;have hcz56_1:w55.cell? ⟨gb101,1,none⟩=some (.slice A1_1 l1_1.length c1_1):=(blk_cell BK101.out 1).trans rfl;have hcz56_2:w55.cell? ⟨gb101,2,none⟩=some (.slice A1_2 l1_2.length c1_2):=(blk_cell BK101.out 2).trans rfl;have hfz56_0:=blk_frozen BK101.out 0;have hfz56_1:=blk_frozen BK101.out 1;have hfz56_2:=blk_frozen BK101.out 2)|((with_reducible refine gate_callee (f:=68) rfl ?_);refine goesL_ (some 19) rfl rfl Tryz.func68 zau rfl #[.string a0,.agg #[.string a1_0,.slice A1_1 l1_1.length c1_1,.slice A1_2 l1_2.length c1_2],.int .i64 a2] rfl zd ?_;(with_reducible refine (impl_readWords.calls k a0 a1_0 _ _ l1_1 _ _ l1_2 a2 t102 t105 _ ?side5 ?side1 ?side2 ?side3 ?side4 A4.out).mono ?_);(case side1=>exact zs);(case side2=>exact HC1_1.out);(case side3=>exact zt);(case side4=>exact HC1_2.out);(case side5=>exact Door2.at HD.out zb);rintro e w57 ⟨v103,rfl,ho0,hb⟩;refine ⟨_,rfl,?_⟩;have HO104:=Aside0.mk (Kd.R_lower ho0 (below_size zb));replace BK101:=Aside0.mk (blk_below (g:=gb101) (o:=.cells #[.string a1_0,.slice A1_1 l1_1.length c1_1,.slice A1_2 l1_2.length c1_2] 50 (0,0)) zc hb);replace HB:=Aside0.mk (below_step zb hb);(try clear hb);(try clear hb2);(try clear hk);(try clear hi);(try clear ho0)))
  go_ret2
  exact ⟨_,zi,zm,zb⟩

def laws_r8Long.f (l0:List Int) (l1:List Int):Option (Bool):=if (l0.length:Int) > 1048576 then (some true) else (some (decide ((l1.length:Int) > 1048576)))
set_option maxHeartbeats 8000000 in
set_option maxRecDepth 100000 in
theorem laws_r8Long.calls (A0:Option Addr) (c0:Nat) (l0:List Int) (A1:Option Addr) (c1:Nat) (l1:List Int) (r:Bool) (w:World) (hr0:Kd.C (Kd.int .u8) w A0 l0.length l0) (hc0:l0.length≤c0) (hr1:Kd.C (Kd.int .u8) w A1 l1.length l1) (hc1:l1.length≤c1) (h:laws_r8Long.f l0 l1=some r) :
 Calls Tryz.prog 36 #[.slice A0 l0.length c0,.slice A1 l1.length c1] w fun e w'=>e = .returned (.bool r)∧Drawn0 w w':=by
 have HR0:=Aside0.mk hr0
 have HC0:=Aside0.mk hc0
 clear hr0 hc0
 have HR1:=Aside0.mk hr1
 have HC1:=Aside0.mk hc1
 clear hr1 hc1
 have H:(if (l0.length:Int) > 1048576 then (some true) else (some (decide ((l1.length:Int) > 1048576))))=some r:=h
 clear h
 by_cases c3:(l0.length:Int) > 1048576
 ·rw [if_pos c3] at H
  have c3b0:decide (1048576<(l0.length:Int))=true:=decide_eq_true c3
  have c3b1:decide (1048576<l0.length)=true:=decide_eq_true zdb
  clear c3
  obtain rfl:=Option.some.inj H
  go_enter Tryz.func36,Tryz.ntmps36
  go_wp2
  go_ret
  exact ⟨zg,zj⟩
 ·rw [if_neg c3] at H
  have c3b0:decide (1048576<(l0.length:Int))=false:=decide_eq_false c3
  have c3b1:decide (1048576<l0.length)=false:=decide_eq_false zdb
  clear c3
  obtain rfl:=Option.some.inj H
  go_enter Tryz.func36,Tryz.ntmps36
  go_wp2
  go_ret
  exact ⟨zg,zj⟩

/-- A state of type 119 at block g of W; what its slices lead to came in by w0. -/
def IsS119 (w0 W:World) (g:Nat) (f0:List Int) (f1:Int) (f2:Int):Prop:=∃A0 c0,W.heap[g]?=some (.cells #[.slice A0 f0.length c0,.int .i64 f1,.int .u64 f2] 119 (0,0))∧w0.heap.size≤g∧Kd.C (Kd.int .u8) w0 A0 f0.length f0
theorem IsS119.grown {w0 W:World} {g:Nat} {f0:List Int} {f1:Int} {f2:Int} {W1:World} {row:Option Nat} (h:IsS119 w0 W g f0 f1 f2) (hw:W.grownBy W1 row) (hne:some g≠row):IsS119 w0 W1 g f0 f1 f2:=by
 obtain ⟨A0,c0,hb,hg,hr0⟩:=h
 exact ⟨A0,c0,blk_grown hb hw hne,hg,hr0⟩
theorem IsS119.kept {w0 W:World} {g:Nat} {f0:List Int} {f1:Int} {f2:Int} {W1:World} {S:Nat→Prop} (h:IsS119 w0 W g f0 f1 f2) (hk:Kept W W1 S) (hne:¬ S g):IsS119 w0 W1 g f0 f1 f2:=by
 obtain ⟨A0,c0,hb,hg,hr0⟩:=h
 exact ⟨A0,c0,blk_kept hb hk hne,hg,hr0⟩
theorem IsS119.below {w0 W:World} {g:Nat} {f0:List Int} {f1:Int} {f2:Int} {W1:World} (h:IsS119 w0 W g f0 f1 f2) (hw:Below W.heap.size W W1):IsS119 w0 W1 g f0 f1 f2:=h.grown (grown_of_below hw none) (by simp)
theorem IsS119.alloc {w0 W:World} {g:Nat} {f0:List Int} {f1:Int} {f2:Int} (h:IsS119 w0 W g f0 f1 f2) (o:Obj):IsS119 w0 (W.alloc o) g f0 f1 f2:=h.below (below_alloc (Below.refl _ _) o)
theorem IsS119.drewN {w0 W:World} {g:Nat} {f0:List Int} {f1:Int} {f2:Int} (h:IsS119 w0 W g f0 f1 f2) (m:Nat):IsS119 w0 (W.drewN m) g f0 f1 f2:=h
theorem IsS119.drew {w0 W:World} {g:Nat} {f0:List Int} {f1:Int} {f2:Int} (h:IsS119 w0 W g f0 f1 f2):IsS119 w0 W.drew g f0 f1 f2:=h
theorem IsS119.at_ {w0 W:World} {g:Nat} {f0:List Int} {f1:Int} {f2:Int} {w':World} {m:Nat} (hq:W.drewN m=w') (h:IsS119 w0 W g f0 f1 f2):IsS119 w0 w' g f0 f1 f2:=by subst hq;exact IsS119.drewN h m
theorem IsS119.apart {w0 W:World} {g:Nat} {f0:List Int} {f1:Int} {f2:Int} {α:Type} {d:Kd α} {e:Nat} {base:Nat} {ok:Nat→Prop} {v:Value} {xs:List α} (h:IsS119 w0 W g f0 f1 f2) (ho:d.R e W base ok v xs) (ht:∀q,q∈e :: d.E→q≠119):d.R e W base (fun k=>ok k∧k≠g) v xs:=by
 obtain ⟨A0,c0,hb,hg,hr0⟩:=h
 exact Kd.R_types ho hb ht
theorem IsS119.own_ne {w0 W:World} {g:Nat} {f0:List Int} {f1:Int} {f2:Int} {α:Type} {d:Kd α} {e:Nat} {base:Nat} {ok:Nat→Prop} {v:Value} {xs:List α} (h:IsS119 w0 W g f0 f1 f2) (ho:d.R e W base ok v xs) (ht:e≠119):some g≠v.ownBlock:=by
 obtain ⟨A0,c0,hb,hg,hr0⟩:=h
 exact Kd.R_ne ho hb ht
theorem IsS119.lt {w0 W:World} {g:Nat} {f0:List Int} {f1:Int} {f2:Int} (h:IsS119 w0 W g f0 f1 f2):g<W.heap.size:=by
 obtain ⟨A0,c0,hb,hg,hr0⟩:=h
 exact blk_lt hb
theorem IsS119.ge {w0 W:World} {g:Nat} {f0:List Int} {f1:Int} {f2:Int} (h:IsS119 w0 W g f0 f1 f2):w0.heap.size≤g:=by
 obtain ⟨A0,c0,hb,hg,hr0⟩:=h
 exact hg
theorem IsS119.ne_blk {w0 W:World} {g:Nat} {f0:List Int} {f1:Int} {f2:Int} {a:Nat} {cs:Array Value} {t:TypeId} {fr:Nat × Nat} (h:IsS119 w0 W g f0 f1 f2) (hb2:W.heap[a]?=some (.cells cs t fr)) (ht:t≠119):g≠a:=by
 obtain ⟨A0,c0,hb,hg,hr0⟩:=h
 rintro rfl
 rw [hb] at hb2
 injection hb2 with hb2
 injection hb2 with _ ht2
 exact ht ht2.symm
theorem IsS119.far {w0 W:World} {g:Nat} {f0:List Int} {f1:Int} {f2:Int} {p:Addr} (h:IsS119 w0 W g f0 f1 f2) (hne:g≠p.block) (u:Value):IsS119 w0 (W.setCell p u) g f0 f1 f2:=by
 obtain ⟨A0,c0,hb,hg,hr0⟩:=h
 exact ⟨A0,c0,blk_far hb hne u,hg,hr0⟩
theorem cellS119_0 {W:World} {g:Nat} {A0:Option Addr} {c0:Nat} {f0:List Int} {f1:Int} {f2:Int} (h:W.heap[g]?=some (.cells #[.slice A0 f0.length c0,.int .i64 f1,.int .u64 f2] 119 (0,0))):W.cell? ⟨g,0,none⟩=some (.slice A0 f0.length c0):=(blk_cell h 0).trans rfl
theorem cellS119_1 {W:World} {g:Nat} {A0:Option Addr} {c0:Nat} {f0:List Int} {f1:Int} {f2:Int} (h:W.heap[g]?=some (.cells #[.slice A0 f0.length c0,.int .i64 f1,.int .u64 f2] 119 (0,0))):W.cell? ⟨g,1,none⟩=some (.int .i64 f1):=(blk_cell h 1).trans rfl
theorem IsS119.set_1 {w0 W:World} {g:Nat} {f0:List Int} {f1:Int} {f2:Int} (h:IsS119 w0 W g f0 f1 f2) (x:Int):IsS119 w0 (W.setCell ⟨g,1,none⟩ (.int .i64 x)) g f0 x f2:=by
 obtain ⟨A0,c0,hb,hg,hr0⟩:=h
 exact ⟨A0,c0,by simpa using blk_set hb 1 (.int .i64 x),hg,hr0⟩
theorem cellS119_2 {W:World} {g:Nat} {A0:Option Addr} {c0:Nat} {f0:List Int} {f1:Int} {f2:Int} (h:W.heap[g]?=some (.cells #[.slice A0 f0.length c0,.int .i64 f1,.int .u64 f2] 119 (0,0))):W.cell? ⟨g,2,none⟩=some (.int .u64 f2):=(blk_cell h 2).trans rfl
theorem IsS119.set_2 {w0 W:World} {g:Nat} {f0:List Int} {f1:Int} {f2:Int} (h:IsS119 w0 W g f0 f1 f2) (x:Int):IsS119 w0 (W.setCell ⟨g,2,none⟩ (.int .u64 x)) g f0 f1 x:=by
 obtain ⟨A0,c0,hb,hg,hr0⟩:=h
 exact ⟨A0,c0,by simpa using blk_set hb 2 (.int .u64 x),hg,hr0⟩
def spec_l00From.f (l0:List Int):Option (List Int × Int × Int):=some (l0,0,0)
set_option maxHeartbeats 8000000 in
set_option maxRecDepth 100000 in
theorem spec_l00From.calls (A0:Option Addr) (c0:Nat) (l0:List Int) (r1:List Int) (r2:Int) (r3:Int) (w0 w:World) (hB:Below w0.heap.size w0 w) (hr0:Kd.C (Kd.int .u8) w0 A0 l0.length l0) (hc0:l0.length≤c0) (h:spec_l00From.f l0=some (r1,r2,r3)) :
 Calls Tryz.prog 52 #[.slice A0 l0.length c0] w fun e w'=>∃g_:Nat,e = .returned (.pointer (some ⟨g_,0,none⟩))∧IsS119 w0 w' g_ r1 r2 r3∧Below w0.heap.size w0 w'∧Below w.heap.size w w':=by
 have hu119:=Tryz.underlying119
 have HR0:=Aside0.mk hr0
 have HC0:=Aside0.mk hc0
 clear hr0 hc0
 have HBW:=Aside0.mk (Below.refl w.heap.size w)
 have HW0:=Aside0.mk hB.size
 have HB:=Aside0.mk hB
 clear hB
 have H:(some (l0,0,0))=some (r1,r2,r3):=h
 clear h
 simp only [Option.some.injEq,Prod.mk.injEq] at H
 obtain ⟨rfl,rfl,rfl⟩:=H
 go_enter Tryz.func52,Tryz.ntmps52
 go_wp2_with (first|((with_reducible refine gate_dst (N:=5) rfl ?_);refine box_event ?hg (N:=5) ?hd (cs:=#[.slice A0 l0.length c0,.int .i64 0,.int .u64 0]) (t:=119) ?hr ?_;(case hd=>rfl);(case hg=>rfl);(case hr=>exact zy);intro gb101 hg w2 hbox hb;have n0_:=Aside0.mk (below_step HBW.out hb);have n1_:=Aside0.mk (below_step za hb);have n2_:=Aside0.mk (hbox);have n3_:=Aside0.mk ((by rw [hg];exact (below_size (by repeat (first|(with_reducible first|exact HBW.out|apply below_alloc|apply pw_below_drewN|apply below_drew1)|exact HBW.out))):w.heap.size≤gb101));have n4_:=Aside0.mk ((Nat.le_trans HW0.out (by rw [hg];exact (below_size (by repeat (first|(with_reducible first|exact HBW.out|apply below_alloc|apply pw_below_drewN|apply below_drew1)|exact HBW.out))):w.heap.size≤gb101):w0.heap.size≤gb101));clear HBW;clear HB;have HBW:=n0_;have HB:=n1_;have BK101:=n2_;have GW101:=n3_;have GE101:=n4_;clear n0_ n1_ n2_ n3_ n4_;clear hb hbox hg))
 go_ret
 exact ⟨_,rfl,(show IsS119 w0 _ gb101 l0 0 0 from ⟨_,_,zc,GE101.out,HR0.out⟩),zb,by repeat (first|(with_reducible first|exact HBW.out|apply below_alloc|apply pw_below_drewN|apply below_drew1|refine below_set ?_ GW101.out)|exact HBW.out)⟩

def spec_l00Src_next.f (s0_0:List Int) (s0_1:Int) (s0_2:Int):Option (Int × Int × Int):=if s0_1<(s0_0.length:Int) then (if 0≤s0_1 then (if (wrap64 (s0_1+1))≤(s0_0.length:Int) then (some (wrap64 (rd s0_0 s0_1),wrap64 (s0_1+1),IntKind.u64.wrap ((IntKind.u64.wrap ((IntKind.u64.wrap (s0_2*6364136223846793005))+(IntKind.u64.wrap (wrap64 (rd s0_0 s0_1)))))+1442695040888963407))) else (some (wrap64 (Go.bits .and .u64 ((IntKind.u64.wrap ((IntKind.u64.wrap ((IntKind.u64.wrap (s0_2*6364136223846793005))+(IntKind.u64.wrap (wrap64 (rd s0_0 s0_1)))))+1442695040888963407)) / 1099511627776) 255),wrap64 (s0_1+1),IntKind.u64.wrap ((IntKind.u64.wrap ((IntKind.u64.wrap (s0_2*6364136223846793005))+(IntKind.u64.wrap (wrap64 (rd s0_0 s0_1)))))+1442695040888963407)))) else (none)) else (if (wrap64 (s0_1+1))≤(s0_0.length:Int) then (some (0,wrap64 (s0_1+1),IntKind.u64.wrap ((IntKind.u64.wrap ((IntKind.u64.wrap (s0_2*6364136223846793005))+0))+1442695040888963407))) else (some (wrap64 (Go.bits .and .u64 ((IntKind.u64.wrap ((IntKind.u64.wrap ((IntKind.u64.wrap (s0_2*6364136223846793005))+0))+1442695040888963407)) / 1099511627776) 255),wrap64 (s0_1+1),IntKind.u64.wrap ((IntKind.u64.wrap ((IntKind.u64.wrap (s0_2*6364136223846793005))+0))+1442695040888963407))))
set_option maxHeartbeats 8000000 in
set_option maxRecDepth 100000 in
theorem spec_l00Src_next.calls (g:Nat) (s0_0:List Int) (s0_1:Int) (s0_2:Int) (r1:Int) (r2:Int) (r3:Int) (w0 w:World) (hI:IsS119 w0 w g s0_0 s0_1 s0_2) (hB:Below w0.heap.size w0 w) (h:spec_l00Src_next.f s0_0 s0_1 s0_2=some (r1,r2,r3)) :
 Calls Tryz.prog 96 #[.pointer (some ⟨g,0,none⟩)] w fun e w'=>e = .returned (.int .i64 r1)∧IsS119 w0 w' g s0_0 r2 r3∧Below w0.heap.size w0 w'∧KeepBut w w' g none:=by
 have HI0:=Aside0.mk hI
 have HK:=Aside0.mk (KeepBut.refl w g none)
 have HL:=Aside0.mk hB.size
 clear hI
 have HW0:=Aside0.mk hB.size
 have HB:=Aside0.mk hB
 clear hB
 have H:(if s0_1<(s0_0.length:Int) then (if 0≤s0_1 then (if (wrap64 (s0_1+1))≤(s0_0.length:Int) then (some (wrap64 (rd s0_0 s0_1),wrap64 (s0_1+1),IntKind.u64.wrap ((IntKind.u64.wrap ((IntKind.u64.wrap (s0_2*6364136223846793005))+(IntKind.u64.wrap (wrap64 (rd s0_0 s0_1)))))+1442695040888963407))) else (some (wrap64 (Go.bits .and .u64 ((IntKind.u64.wrap ((IntKind.u64.wrap ((IntKind.u64.wrap (s0_2*6364136223846793005))+(IntKind.u64.wrap (wrap64 (rd s0_0 s0_1)))))+1442695040888963407)) / 1099511627776) 255),wrap64 (s0_1+1),IntKind.u64.wrap ((IntKind.u64.wrap ((IntKind.u64.wrap (s0_2*6364136223846793005))+(IntKind.u64.wrap (wrap64 (rd s0_0 s0_1)))))+1442695040888963407)))) else (none)) else (if (wrap64 (s0_1+1))≤(s0_0.length:Int) then (some (0,wrap64 (s0_1+1),IntKind.u64.wrap ((IntKind.u64.wrap ((IntKind.u64.wrap (s0_2*6364136223846793005))+0))+1442695040888963407))) else (some (wrap64 (Go.bits .and .u64 ((IntKind.u64.wrap ((IntKind.u64.wrap ((IntKind.u64.wrap (s0_2*6364136223846793005))+0))+1442695040888963407)) / 1099511627776) 255),wrap64 (s0_1+1),IntKind.u64.wrap ((IntKind.u64.wrap ((IntKind.u64.wrap (s0_2*6364136223846793005))+0))+1442695040888963407)))))=some (r1,r2,r3):=h
 clear h
 by_cases c2:s0_1<(s0_0.length:Int)
 ·rw [if_pos c2] at H
  have c2b0:decide (s0_1<(s0_0.length:Int))=true:=decide_eq_true c2
  clear c2
  by_cases c3:0≤s0_1
  ·rw [if_pos c3] at H
   have c3b0:decide (0≤s0_1)=true:=decide_eq_true c3
   clear c3
   by_cases c4:(wrap64 (s0_1+1))≤(s0_0.length:Int)
   ·rw [if_pos c4] at H
    have c4b0:decide ((wrap64 (s0_1+1))≤(s0_0.length:Int))=true:=decide_eq_true c4
    clear c4
    simp only [Option.some.injEq,Prod.mk.injEq] at H
    obtain ⟨rfl,rfl,rfl⟩:=H
    obtain ⟨ASz5_0,cSz5_0,HGz5,hgz5,HSz5_0⟩:=HI0.out
    have hcz5_0:=cellS119_0 HGz5
    have hcz5_1:=cellS119_1 HGz5
    have hcz5_2:=cellS119_2 HGz5
    have hfz5_1:=blk_frozen HGz5 1
    have hfz5_2:=blk_frozen HGz5 2
    clear HGz5 hgz5
    have p101:0≤(s0_1:Int):=of_decide_eq_true ze
    have q101:s0_1<(s0_0.length:Int):=of_decide_eq_true ze
    obtain ⟨ad101,e101,hx101_0⟩:=Kd.at_int HSz5_0 s0_1 p101 q101
    cases e101
    replace hx101_0:=pw_cell_below HB.out hx101_0
    replace p101:=eq_true p101
    replace q101:=eq_true q101
    go_enter Tryz.func96,Tryz.ntmps96
    go_wp2
    repeat (go_quiet (fail);try go_wp2)
    go_ret
    exact ⟨zi,zcp,zk,zl⟩
   ·rw [if_neg c4] at H
    have c4b0:decide ((wrap64 (s0_1+1))≤(s0_0.length:Int))=false:=decide_eq_false c4
    clear c4
    simp only [Option.some.injEq,Prod.mk.injEq] at H
    obtain ⟨rfl,rfl,rfl⟩:=H
    obtain ⟨ASz6_0,cSz6_0,HGz6,hgz6,HSz6_0⟩:=HI0.out
    have hcz6_0:=cellS119_0 HGz6
    have hcz6_1:=cellS119_1 HGz6
    have hcz6_2:=cellS119_2 HGz6
    have hfz6_1:=blk_frozen HGz6 1
    have hfz6_2:=blk_frozen HGz6 2
    clear HGz6 hgz6
    have p101:0≤(s0_1:Int):=of_decide_eq_true ze
    have q101:s0_1<(s0_0.length:Int):=of_decide_eq_true ze
    obtain ⟨ad101,e101,hx101_0⟩:=Kd.at_int HSz6_0 s0_1 p101 q101
    cases e101
    replace hx101_0:=pw_cell_below HB.out hx101_0
    replace p101:=eq_true p101
    replace q101:=eq_true q101
    go_enter Tryz.func96,Tryz.ntmps96
    go_wp2
    repeat (go_quiet (fail);try go_wp2)
    go_ret
    exact ⟨zi,zcp,zk,zl⟩
  ·rw [if_neg c3] at H
   exact absurd H zdd
 ·rw [if_neg c2] at H
  have c2b0:decide (s0_1<(s0_0.length:Int))=false:=decide_eq_false c2
  clear c2
  by_cases c7:(wrap64 (s0_1+1))≤(s0_0.length:Int)
  ·rw [if_pos c7] at H
   have c7b0:decide ((wrap64 (s0_1+1))≤(s0_0.length:Int))=true:=decide_eq_true c7
   clear c7
   simp only [Option.some.injEq,Prod.mk.injEq] at H
   obtain ⟨rfl,rfl,rfl⟩:=H
   obtain ⟨ASz8_0,cSz8_0,HGz8,hgz8,HSz8_0⟩:=HI0.out
   have hcz8_0:=cellS119_0 HGz8
   have hcz8_1:=cellS119_1 HGz8
   have hcz8_2:=cellS119_2 HGz8
   have hfz8_1:=blk_frozen HGz8 1
   have hfz8_2:=blk_frozen HGz8 2
   clear HGz8 hgz8
   go_enter Tryz.func96,Tryz.ntmps96
   go_wp2
   repeat (go_quiet (fail);try go_wp2)
   go_ret
   exact ⟨zi,zcp,zk,zl⟩
  ·rw [if_neg c7] at H
   have c7b0:decide ((wrap64 (s0_1+1))≤(s0_0.length:Int))=false:=decide_eq_false c7
   clear c7
   simp only [Option.some.injEq,Prod.mk.injEq] at H
   obtain ⟨rfl,rfl,rfl⟩:=H
   obtain ⟨ASz9_0,cSz9_0,HGz9,hgz9,HSz9_0⟩:=HI0.out
   have hcz9_0:=cellS119_0 HGz9
   have hcz9_1:=cellS119_1 HGz9
   have hcz9_2:=cellS119_2 HGz9
   have hfz9_1:=blk_frozen HGz9 1
   have hfz9_2:=blk_frozen HGz9 2
   clear HGz9 hgz9
   go_enter Tryz.func96,Tryz.ntmps96
   go_wp2
   repeat (go_quiet (fail);try go_wp2)
   go_ret
   exact ⟨zi,zcp,zk,zl⟩

def spec_l00Src_pick.f (s0_0:List Int) (s0_1:Int) (s0_2:Int) (a1:Int):Option (Int × Int × Int):=if a1≤1 then (some (0,s0_1,s0_2)) else ((spec_l00Src_next.f s0_0 s0_1 s0_2).bind fun bt101=>(if a1 > 200 then ((spec_l00Src_next.f s0_0 bt101.2.1 bt101.2.2).bind fun bt104=>(if a1=0 then (none) else (some (Int.tmod (wrap64 ((wrap64 (bt101.1*256))+bt104.1)) a1,bt104.2.1,bt104.2.2)))) else (if a1=0 then (none) else (some (Int.tmod bt101.1 a1,bt101.2.1,bt101.2.2)))))
set_option maxHeartbeats 8000000 in
set_option maxRecDepth 100000 in
theorem spec_l00Src_pick.calls (g:Nat) (s0_0:List Int) (s0_1:Int) (s0_2:Int) (a1:Int) (r1:Int) (r2:Int) (r3:Int) (w0 w:World) (hI:IsS119 w0 w g s0_0 s0_1 s0_2) (hB:Below w0.heap.size w0 w) (h:spec_l00Src_pick.f s0_0 s0_1 s0_2 a1=some (r1,r2,r3)) :
 Calls Tryz.prog 57 #[.pointer (some ⟨g,0,none⟩),.int .i64 a1] w fun e w'=>e = .returned (.int .i64 r1)∧IsS119 w0 w' g s0_0 r2 r3∧Below w0.heap.size w0 w'∧KeepBut w w' g none:=by
 have HI0:=Aside0.mk hI
 have HK:=Aside0.mk (KeepBut.refl w g none)
 have HL:=Aside0.mk hB.size
 clear hI
 have HW0:=Aside0.mk hB.size
 have HB:=Aside0.mk hB
 clear hB
 have H:(if a1≤1 then (some (0,s0_1,s0_2)) else ((spec_l00Src_next.f s0_0 s0_1 s0_2).bind fun bt101=>(if a1 > 200 then ((spec_l00Src_next.f s0_0 bt101.2.1 bt101.2.2).bind fun bt104=>(if a1=0 then (none) else (some (Int.tmod (wrap64 ((wrap64 (bt101.1*256))+bt104.1)) a1,bt104.2.1,bt104.2.2)))) else (if a1=0 then (none) else (some (Int.tmod bt101.1 a1,bt101.2.1,bt101.2.2))))))=some (r1,r2,r3):=h
 clear h
 by_cases c3:a1≤1
 ·rw [if_pos c3] at H
  have c3b0:decide (a1≤1)=true:=decide_eq_true c3
  clear c3
  simp only [Option.some.injEq,Prod.mk.injEq] at H
  obtain ⟨rfl,rfl,rfl⟩:=H
  go_enter Tryz.func57,Tryz.ntmps57
  go_wp2
  go_ret
  exact ⟨zi,zp,zk,zl⟩
 ·rw [if_neg c3] at H
  have c3b0:decide (a1≤1)=false:=decide_eq_false c3
  clear c3
  replace H:=Option.bind_eq_some_iff.mp H
  obtain ⟨⟨t101,t102,t103⟩,A40,H⟩:=H
  replace H:(if a1 > 200 then ((spec_l00Src_next.f s0_0 t102 t103).bind fun bt104=>(if a1=0 then (none) else (some (Int.tmod (wrap64 ((wrap64 (t101*256))+bt104.1)) a1,bt104.2.1,bt104.2.2)))) else (if a1=0 then (none) else (some (Int.tmod t101 a1,t102,t103))))=some (r1,r2,r3):=H
  have A4:=Aside0.mk A40
  clear A40
  by_cases c5:a1 > 200
  ·rw [if_pos c5] at H
   have c5b0:decide (200<a1)=true:=decide_eq_true c5
   clear c5
   replace H:=Option.bind_eq_some_iff.mp H
   obtain ⟨⟨t104,t105,t106⟩,A60,H⟩:=H
   replace H:(if a1=0 then (none) else (some (Int.tmod (wrap64 ((wrap64 (t101*256))+t104)) a1,t105,t106)))=some (r1,r2,r3):=H
   have A6:=Aside0.mk A60
   clear A60
   by_cases c7:a1=0
   ·rw [if_pos c7] at H
    exact absurd H zdd
   ·rw [if_neg c7] at H
    have c7b0:(a1 == 0)=false:=beq_eq_false_iff_ne.mpr c7
    have c7b1:(a1 != 0)=true:=bne_iff_ne.mpr c7
    simp only [Option.some.injEq,Prod.mk.injEq] at H
    obtain ⟨rfl,rfl,rfl⟩:=H
    go_enter Tryz.func57,Tryz.ntmps57
    go_wp2_with (first|((with_reducible refine gate_callee (f:=96) rfl ?_);refine goesL_ (some 9) rfl rfl Tryz.func96 zau rfl #[.pointer (some ⟨g,0,none⟩)] rfl zd ?_;(with_reducible refine (spec_l00Src_next.calls g s0_0 s0_1 s0_2 t101 t102 t103 w0 _ ?side1 ?side2 A4.out).mono ?_);(case side1=>exact zp);(case side2=>exact zk);rintro e w8 ⟨rfl,hi,hb,hk⟩;refine ⟨_,rfl,?_⟩;replace HK:=Aside0.mk (KeepBut.trans zl hk (.inl rfl));replace HB:=Aside0.mk (hb);replace HI0:=Aside0.mk (hi);(try clear hb);(try clear hb2);(try clear hk);(try clear hi))|((with_reducible refine gate_callee (f:=96) rfl ?_);refine goesL_ (some 15) rfl rfl Tryz.func96 zau rfl #[.pointer (some ⟨g,0,none⟩)] rfl zd ?_;(with_reducible refine (spec_l00Src_next.calls g s0_0 t102 t103 t104 t105 t106 w0 _ ?side1 ?side2 A6.out).mono ?_);(case side1=>exact zp);(case side2=>exact zk);rintro e w9 ⟨rfl,hi,hb,hk⟩;refine ⟨_,rfl,?_⟩;replace HK:=Aside0.mk (KeepBut.trans zl hk (.inl rfl));replace HB:=Aside0.mk (hb);replace HI0:=Aside0.mk (hi);(try clear hb);(try clear hb2);(try clear hk);(try clear hi)))
    go_ret
    exact ⟨zi,zp,zk,zl⟩
  ·rw [if_neg c5] at H
   have c5b0:decide (200<a1)=false:=decide_eq_false c5
   clear c5
   by_cases c10:a1=0
   ·rw [if_pos c10] at H
    exact absurd H zdd
   ·rw [if_neg c10] at H
    have c10b0:(a1 == 0)=false:=beq_eq_false_iff_ne.mpr c10
    have c10b1:(a1 != 0)=true:=bne_iff_ne.mpr c10
    simp only [Option.some.injEq,Prod.mk.injEq] at H
    obtain ⟨rfl,rfl,rfl⟩:=H
    go_enter Tryz.func57,Tryz.ntmps57
    go_wp2_with (first|((with_reducible refine gate_callee (f:=96) rfl ?_);refine goesL_ (some 9) rfl rfl Tryz.func96 zau rfl #[.pointer (some ⟨g,0,none⟩)] rfl zd ?_;(with_reducible refine (spec_l00Src_next.calls g s0_0 s0_1 s0_2 t101 t102 t103 w0 _ ?side1 ?side2 A4.out).mono ?_);(case side1=>exact zp);(case side2=>exact zk);rintro e w11 ⟨rfl,hi,hb,hk⟩;refine ⟨_,rfl,?_⟩;replace HK:=Aside0.mk (KeepBut.trans zl hk (.inl rfl));replace HB:=Aside0.mk (hb);replace HI0:=Aside0.mk (hi);(try clear hb);(try clear hb2);(try clear hk);(try clear hi)))
    go_ret
    exact ⟨zi,zp,zk,zl⟩

def spec_l00Src_among.f (s0_0:List Int) (s0_1:Int) (s0_2:Int) (l1:List Int):Option (Int × Int × Int):=(spec_l00Src_pick.f s0_0 s0_1 s0_2 (l1.length:Int)).bind fun bt101=>(if 0≤bt101.1 then (if bt101.1<(l1.length:Int) then (some (rd l1 bt101.1,bt101.2.1,bt101.2.2)) else (none)) else (none))
set_option maxHeartbeats 8000000 in
set_option maxRecDepth 100000 in
theorem spec_l00Src_among.calls (g:Nat) (s0_0:List Int) (s0_1:Int) (s0_2:Int) (A1:Option Addr) (c1:Nat) (l1:List Int) (r1:Int) (r2:Int) (r3:Int) (w0 w:World) (hI:IsS119 w0 w g s0_0 s0_1 s0_2) (hB:Below w0.heap.size w0 w) (hr1:Kd.C (Kd.int .i64) w A1 l1.length l1) (hc1:l1.length≤c1) (hf1:∀ad,A1=some ad→0<l1.length→ad.block≠g) (h:spec_l00Src_among.f s0_0 s0_1 s0_2 l1=some (r1,r2,r3)) :
 Calls Tryz.prog 95 #[.pointer (some ⟨g,0,none⟩),.slice A1 l1.length c1] w fun e w'=>e = .returned (.int .i64 r1)∧IsS119 w0 w' g s0_0 r2 r3∧Below w0.heap.size w0 w'∧KeepBut w w' g none:=by
 have HR1:=Aside0.mk hr1
 have HC1:=Aside0.mk hc1
 clear hr1 hc1
 have HI0:=Aside0.mk hI
 have HK:=Aside0.mk (KeepBut.refl w g none)
 have HL:=Aside0.mk hB.size
 clear hI
 have HW0:=Aside0.mk hB.size
 have HB:=Aside0.mk hB
 clear hB
 have H:((spec_l00Src_pick.f s0_0 s0_1 s0_2 (l1.length:Int)).bind fun bt101=>(if 0≤bt101.1 then (if bt101.1<(l1.length:Int) then (some (rd l1 bt101.1,bt101.2.1,bt101.2.2)) else (none)) else (none)))=some (r1,r2,r3):=h
 clear h
 replace H:=Option.bind_eq_some_iff.mp H
 obtain ⟨⟨t101,t102,t103⟩,A30,H⟩:=H
 replace H:(if 0≤t101 then (if t101<(l1.length:Int) then (some (rd l1 t101,t102,t103)) else (none)) else (none))=some (r1,r2,r3):=H
 have A3:=Aside0.mk A30
 clear A30
 by_cases c4:0≤t101
 ·rw [if_pos c4] at H
  have c4b0:decide (0≤t101)=true:=decide_eq_true c4
  clear c4
  by_cases c5:t101<(l1.length:Int)
  ·rw [if_pos c5] at H
   have c5b0:decide (t101<(l1.length:Int))=true:=decide_eq_true c5
   clear c5
   simp only [Option.some.injEq,Prod.mk.injEq] at H
   obtain ⟨rfl,rfl,rfl⟩:=H
   go_enter Tryz.func95,Tryz.ntmps95
   go_wp2_with (first|((with_reducible refine gate_callee (f:=57) rfl ?_);refine goesL_ (some 9) rfl rfl Tryz.func57 zau rfl #[.pointer (some ⟨g,0,none⟩),.int .i64 (l1.length:Int)] rfl zd ?_;(with_reducible refine (spec_l00Src_pick.calls g s0_0 s0_1 s0_2 (l1.length:Int) t101 t102 t103 w0 _ ?side1 ?side2 A3.out).mono ?_);(case side1=>exact zp);(case side2=>exact zk);rintro e w6 ⟨rfl,hi,hb,hk⟩;refine ⟨_,rfl,?_⟩;replace HK:=Aside0.mk (KeepBut.trans zl hk (.inl rfl));replace HB:=Aside0.mk (hb);replace HI0:=Aside0.mk (hi);(try clear hb);(try clear hb2);(try clear hk);(try clear hi);have p104:0≤(t101:Int):=of_decide_eq_true ze;have q104:t101<(l1.length:Int):=of_decide_eq_true ze;obtain ⟨ad104,e104,hx104_0⟩:=Kd.at_int HR1.out t101 p104 q104;cases e104;replace hx104_0:=keep_cell HK.out hx104_0 (by first|(rw [add_block];exact hf1 _ rfl zdb)|exact hf1 _ rfl zdb|exact hf1 ad104 rfl zdb);replace p104:=eq_true p104;replace q104:=eq_true q104))
   go_ret
   exact ⟨zi,zp,zk,zl⟩
  ·rw [if_neg c5] at H
   exact absurd H zdd
 ·rw [if_neg c4] at H
  exact absurd H zdd

def spec_l00Max.f (a0:Int) (a1:Int):Option (Int):=if a0 > a1 then (some a0) else (some a1)
set_option maxHeartbeats 8000000 in
set_option maxRecDepth 100000 in
theorem spec_l00Max.calls (a0:Int) (a1:Int) (r:Int) (w:World) (h:spec_l00Max.f a0 a1=some r) :
 Calls Tryz.prog 97 #[.int .i64 a0,.int .i64 a1] w fun e w'=>e = .returned (.int .i64 r)∧Drawn0 w w':=by
 have H:(if a0 > a1 then (some a0) else (some a1))=some r:=h
 clear h
 by_cases c3:a0 > a1
 ·rw [if_pos c3] at H
  have c3b0:decide (a1<a0)=true:=decide_eq_true c3
  clear c3
  obtain rfl:=Option.some.inj H
  go_enter Tryz.func97,Tryz.ntmps97
  go_wp2
  go_ret
  exact ⟨zg,zj⟩
 ·rw [if_neg c3] at H
  have c3b0:decide (a1<a0)=false:=decide_eq_false c3
  clear c3
  obtain rfl:=Option.some.inj H
  go_enter Tryz.func97,Tryz.ntmps97
  go_wp2
  go_ret
  exact ⟨zg,zj⟩
end Go.Proofs.YtmoamoopoifnlaaGreatDoor.P
