/- Part d of what FnNotation stands on: functions of the program as Lean functions with their walks, and plain lemmas. -/
import Derived.Test.YtmoamoopoifnlaaGreatDoorBFnNotationa
import Derived.Test.YtmoamoopoifnlaaGreatDoorK
import Derived.Test.YtmoamoopoifnlaaGreatDoorBFnNotationc
import Derived.Test.YtmoamoopoifnlaaGreatDoorBFnNotationb
import Derived.ChangeOld
import Derived.ChangeArms
import Derived.WideShapes
import Derived.Test.YtmoamoopoifnlaaGreatDoorWWords
import Derived.Laws.BitsAllLaws
import Derived.Deep.RegionHeld3
import Derived.KernelRfl
import Derived.Lib.ParseIntBCases
import Derived.Lib.IndexBytes
import Derived.Shelf.Strings.Cut
namespace Go.Proofs.YtmoamoopoifnlaaGreatDoor.P
open Go.RowKit Go.Proofs.YtmoamoopoifnlaaGreatDoorW.PrintWords Go.Proofs.YtmoamoopoifnlaaGreatDoorW.PrintLast Go.Proofs.YtmoamoopoifnlaaGreatDoorW.PrintMore
attribute [local go_sem] max2_int min2_int max_two min_two max_three min_three max_four min_four str_leq str_gtr str_geq
set_option linter.unusedVariables false
set_option linter.unusedSimpArgs false
def spec_l09Ok.l0:Nat→List (S67)→Int→Option (Bool)
 | 0,_,_=>none
 | k+1,x0,x3=>if x3<(x0.length:Int) then (if 0≤x3 then ((spec_l03Pitch.f ((rd_T67 x0 x3).f0)).bind fun t102=>(if t102=true then ((spec_l09Length.f ((rd_T67 x0 x3).f1)).bind fun t104=>(if t104=true then (spec_l09Ok.l0 k x0 (wrap64 (x3+1))) else (some false))) else (some false))) else (none)) else (some (decide ((x0.length:Int)≤48)))
def spec_l09Ok.f (k:Nat) (l0:List (S67)):Option (Bool):=spec_l09Ok.l0 k l0 0
set_option maxHeartbeats 8000000 in
set_option maxRecDepth 100000 in
theorem spec_l09Ok.calls (k:Nat) (A0:Option Addr) (c0:Nat) (l0:List (S67)) (r:Bool) (w:World) (hr0:Kd.C k67 w A0 l0.length l0) (hc0:l0.length≤c0) (h:spec_l09Ok.f k l0=some r) :
 Calls Tryz.prog 75 #[.slice A0 l0.length c0] w fun e w'=>e = .returned (.bool r)∧Drawn0 w w':=by
 have HR0:=Aside0.mk hr0
 have HC0:=Aside0.mk hc0
 clear hr0 hc0
 have H:(spec_l09Ok.l0 k l0 0)=some r:=h
 clear h
 have H':=Aside0.mk H
 clear H
 go_enter Tryz.func75,Tryz.ntmps75
 go_wp2
 go_loopg [3] k (fun kq v3 w'=>∃(x3_1:Int),v3 = .int .i64 x3_1∧Aside0 (spec_l09Ok.l0 kq l0 x3_1=some r)∧Aside0 (kq≤k)∧Drawn0 w w')
 case atStart=>exact ⟨(0),zg,H',⟨Nat.le_refl _⟩,zj⟩
 case round=>
  clear H'
  obtain ⟨x3_1,rfl,HA,HK1,⟨m1,rfl⟩⟩:=hrel
  cases gk with
  | zero=>exact absurd HA.out (by simp [spec_l09Ok.l0])
  | succ k1=>
   have H:=HA.out
   clear HA
   simp only [spec_l09Ok.l0] at H
   by_cases c2:x3_1<(l0.length:Int)
   ·rw [if_pos c2] at H
    have c2b0:decide (x3_1<(l0.length:Int))=true:=decide_eq_true c2
    clear c2
    by_cases c3:0≤x3_1
    ·rw [if_pos c3] at H
     have c3b0:decide (0≤x3_1)=true:=decide_eq_true c3
     clear c3
     replace H:=Option.bind_eq_some_iff.mp H
     obtain ⟨t102,A40,H⟩:=H
     replace H:(if t102=true then ((spec_l09Length.f ((rd_T67 l0 x3_1).f1)).bind fun t104=>(if t104=true then (spec_l09Ok.l0 k1 l0 (wrap64 (x3_1+1))) else (some false))) else (some false))=some r:=H
     have A4:=Aside0.mk A40
     clear A40
     by_cases c5:t102=true
     ·subst c5
      have H1:((spec_l09Length.f ((rd_T67 l0 x3_1).f1)).bind fun t104=>(if t104=true then (spec_l09Ok.l0 k1 l0 (wrap64 (x3_1+1))) else (some false)))=some r:=by rw [if_pos rfl] at H;exact H
      clear H
      have H:=H1
      clear H1
      replace H:=Option.bind_eq_some_iff.mp H
      obtain ⟨t104,A60,H⟩:=H
      replace H:(if t104=true then (spec_l09Ok.l0 k1 l0 (wrap64 (x3_1+1))) else (some false))=some r:=H
      have A6:=Aside0.mk A60
      clear A60
      by_cases c7:t104=true
      ·subst c7
       have H1:(spec_l09Ok.l0 k1 l0 (wrap64 (x3_1+1)))=some r:=by rw [if_pos rfl] at H;exact H
       clear H
       have H:=H1
       clear H1
       have H':=Aside0.mk H
       clear H
       have p101:0≤(x3_1:Int):=of_decide_eq_true ze
       have q101:x3_1<(l0.length:Int):=of_decide_eq_true ze
       obtain ⟨ad101,e101,hx101_0,hx101_1⟩:=at_T67 HR0.out x3_1 p101 q101
       cases e101
       replace p101:=eq_true p101
       replace q101:=eq_true q101
       go_wp2_with (first|((with_reducible refine gate_callee (f:=44) rfl ?_);refine goesL_ (some 15) rfl rfl Tryz.func44 zau rfl #[.int .i64 ((rd_T67 l0 x3_1).f0)] rfl zd ?_;(with_reducible refine (spec_l03Pitch.calls ((rd_T67 l0 x3_1).f0) true _ A4.out).mono ?_);rintro e w' ⟨rfl,⟨nd,rfl⟩⟩;refine ⟨_,rfl,?_⟩;have p103:0≤(x3_1:Int):=of_decide_eq_true ze;have q103:x3_1<(l0.length:Int):=of_decide_eq_true ze;obtain ⟨ad103,e103,hx103_0,hx103_1⟩:=at_T67 HR0.out x3_1 p103 q103;obtain rfl:ad101=ad103:=(by injection e103);replace p103:=eq_true p103;replace q103:=eq_true q103)|(go_at_call 111;(with_reducible refine (spec_l09Length.calls ((rd_T67 l0 x3_1).f1) true _ A6.out).mono ?_);rintro e w' ⟨rfl,⟨nd,rfl⟩⟩))
       go_roundg k1
       case measure=>have:=HK1.out;omega
       case rel=>exact ⟨(wrap64 (x3_1+1)),zg,H',⟨zdo⟩,zj⟩
      ·replace c7:=Bool.eq_false_iff.mpr c7
       subst c7
       have H1:(some false)=some r:=by rw [if_neg (show ¬ (false=true) by decide)] at H;exact H
       clear H
       have H:=H1
       clear H1
       obtain rfl:=Option.some.inj H
       have p101:0≤(x3_1:Int):=of_decide_eq_true ze
       have q101:x3_1<(l0.length:Int):=of_decide_eq_true ze
       obtain ⟨ad101,e101,hx101_0,hx101_1⟩:=at_T67 HR0.out x3_1 p101 q101
       cases e101
       replace p101:=eq_true p101
       replace q101:=eq_true q101
       go_wp2_with (first|((with_reducible refine gate_callee (f:=44) rfl ?_);refine goesL_ (some 15) rfl rfl Tryz.func44 zau rfl #[.int .i64 ((rd_T67 l0 x3_1).f0)] rfl zd ?_;(with_reducible refine (spec_l03Pitch.calls ((rd_T67 l0 x3_1).f0) true _ A4.out).mono ?_);rintro e w' ⟨rfl,⟨nd,rfl⟩⟩;refine ⟨_,rfl,?_⟩;have p103:0≤(x3_1:Int):=of_decide_eq_true ze;have q103:x3_1<(l0.length:Int):=of_decide_eq_true ze;obtain ⟨ad103,e103,hx103_0,hx103_1⟩:=at_T67 HR0.out x3_1 p103 q103;obtain rfl:ad101=ad103:=(by injection e103);replace p103:=eq_true p103;replace q103:=eq_true q103)|(go_at_call 111;(with_reducible refine (spec_l09Length.calls ((rd_T67 l0 x3_1).f1) false _ A6.out).mono ?_);rintro e w' ⟨rfl,⟨nd,rfl⟩⟩))
       go_ret
       exact ⟨zg,zj⟩
     ·replace c5:=Bool.eq_false_iff.mpr c5
      subst c5
      have H1:(some false)=some r:=by rw [if_neg (show ¬ (false=true) by decide)] at H;exact H
      clear H
      have H:=H1
      clear H1
      obtain rfl:=Option.some.inj H
      have p101:0≤(x3_1:Int):=of_decide_eq_true ze
      have q101:x3_1<(l0.length:Int):=of_decide_eq_true ze
      obtain ⟨ad101,e101,hx101_0,hx101_1⟩:=at_T67 HR0.out x3_1 p101 q101
      cases e101
      replace p101:=eq_true p101
      replace q101:=eq_true q101
      go_wp2_with (first|((with_reducible refine gate_callee (f:=44) rfl ?_);refine goesL_ (some 15) rfl rfl Tryz.func44 zau rfl #[.int .i64 ((rd_T67 l0 x3_1).f0)] rfl zd ?_;(with_reducible refine (spec_l03Pitch.calls ((rd_T67 l0 x3_1).f0) false _ A4.out).mono ?_);rintro e w' ⟨rfl,⟨nd,rfl⟩⟩;refine ⟨_,rfl,?_⟩))
      go_ret
      exact ⟨zg,zj⟩
    ·rw [if_neg c3] at H
     exact absurd H zdd
   ·rw [if_neg c2] at H
    have c2b0:decide (x3_1<(l0.length:Int))=false:=decide_eq_false c2
    clear c2
    obtain rfl:=Option.some.inj H
    go_wp2
    go_ret
    exact ⟨zg,zj⟩

def spec_l09Sum.l0:Nat→List (S67)→Int→Int→Option (Int)
 | 0,_,_,_=>none
 | k+1,x0,x3,x4=>if x4<(x0.length:Int) then (if 0≤x4 then (spec_l09Sum.l0 k x0 (wrap64 (x3+((rd_T67 x0 x4).f1))) (wrap64 (x4+1))) else (none)) else (some x3)
def spec_l09Sum.f (k:Nat) (l0:List (S67)):Option (Int):=spec_l09Sum.l0 k l0 0 0
set_option maxHeartbeats 8000000 in
set_option maxRecDepth 100000 in
theorem spec_l09Sum.calls (k:Nat) (A0:Option Addr) (c0:Nat) (l0:List (S67)) (r:Int) (w:World) (hr0:Kd.C k67 w A0 l0.length l0) (hc0:l0.length≤c0) (h:spec_l09Sum.f k l0=some r) :
 Calls Tryz.prog 76 #[.slice A0 l0.length c0] w fun e w'=>e = .returned (.int .i64 r)∧Drawn0 w w':=by
 have HR0:=Aside0.mk hr0
 have HC0:=Aside0.mk hc0
 clear hr0 hc0
 have H:(spec_l09Sum.l0 k l0 0 0)=some r:=h
 clear h
 have H':=Aside0.mk H
 clear H
 go_enter Tryz.func76,Tryz.ntmps76
 go_wp2
 go_loopg [3,4] k (fun kq v3 v4 w'=>∃(x3_1:Int) (x4_1:Int),v3 = .int .i64 x3_1∧v4 = .int .i64 x4_1∧Aside0 (spec_l09Sum.l0 kq l0 x3_1 x4_1=some r)∧Aside0 (kq≤k)∧Drawn0 w w')
 case atStart=>exact ⟨(0),(0),zg,zg,H',⟨Nat.le_refl _⟩,zj⟩
 case round=>
  clear H'
  obtain ⟨x3_1,x4_1,rfl,rfl,HA,HK1,⟨m1,rfl⟩⟩:=hrel
  cases gk with
  | zero=>exact absurd HA.out (by simp [spec_l09Sum.l0])
  | succ k1=>
   have H:=HA.out
   clear HA
   simp only [spec_l09Sum.l0] at H
   by_cases c2:x4_1<(l0.length:Int)
   ·rw [if_pos c2] at H
    have c2b0:decide (x4_1<(l0.length:Int))=true:=decide_eq_true c2
    clear c2
    by_cases c3:0≤x4_1
    ·rw [if_pos c3] at H
     have c3b0:decide (0≤x4_1)=true:=decide_eq_true c3
     clear c3
     have H':=Aside0.mk H
     clear H
     have p101:0≤(x4_1:Int):=of_decide_eq_true ze
     have q101:x4_1<(l0.length:Int):=of_decide_eq_true ze
     obtain ⟨ad101,e101,hx101_0,hx101_1⟩:=at_T67 HR0.out x4_1 p101 q101
     cases e101
     replace p101:=eq_true p101
     replace q101:=eq_true q101
     go_wp2
     go_roundg k1
     case measure=>have:=HK1.out;omega
     case rel=>exact ⟨(wrap64 (x3_1+((rd_T67 l0 x4_1).f1))),(wrap64 (x4_1+1)),zg,zg,H',⟨zdo⟩,zj⟩
    ·rw [if_neg c3] at H
     exact absurd H zdd
   ·rw [if_neg c2] at H
    have c2b0:decide (x4_1<(l0.length:Int))=false:=decide_eq_false c2
    clear c2
    obtain rfl:=Option.some.inj H
    go_wp2
    go_ret
    exact ⟨zg,zj⟩

def spec_DurationOf.f (k:Nat) (l0:List (S67)):Option (Int × Int):=(spec_l09Ok.f k l0).bind fun t101=>(if t101=true then ((spec_l09Sum.f k l0).bind fun t102=>(some (t102,0))) else (some (0,1)))
set_option maxHeartbeats 8000000 in
set_option maxRecDepth 100000 in
theorem spec_DurationOf.calls (k:Nat) (A0:Option Addr) (c0:Nat) (l0:List (S67)) (r1:Int) (r2:Int) (w:World) (hr0:Kd.C k67 w A0 l0.length l0) (hc0:l0.length≤c0) (h:spec_DurationOf.f k l0=some (r1,r2)) :
 Calls Tryz.prog 41 #[.slice A0 l0.length c0] w fun e w'=>e = .returned (.tuple #[.int .i64 r1,.int .i64 r2])∧Drawn0 w w':=by
 have HR0:=Aside0.mk hr0
 have HC0:=Aside0.mk hc0
 clear hr0 hc0
 have H:((spec_l09Ok.f k l0).bind fun t101=>(if t101=true then ((spec_l09Sum.f k l0).bind fun t102=>(some (t102,0))) else (some (0,1))))=some (r1,r2):=h
 clear h
 replace H:=Option.bind_eq_some_iff.mp H
 obtain ⟨t101,A20,H⟩:=H
 replace H:(if t101=true then ((spec_l09Sum.f k l0).bind fun t102=>(some (t102,0))) else (some (0,1)))=some (r1,r2):=H
 have A2:=Aside0.mk A20
 clear A20
 by_cases c3:t101=true
 ·subst c3
  have H1:((spec_l09Sum.f k l0).bind fun t102=>(some (t102,0)))=some (r1,r2):=by rw [if_pos rfl] at H;exact H
  clear H
  have H:=H1
  clear H1
  replace H:=Option.bind_eq_some_iff.mp H
  obtain ⟨t102,A40,H⟩:=H
  replace H:(some (t102,0))=some (r1,r2):=H
  have A4:=Aside0.mk A40
  clear A40
  simp only [Option.some.injEq,Prod.mk.injEq] at H
  obtain ⟨rfl,rfl⟩:=H
  go_enter Tryz.func41,Tryz.ntmps41
  go_wp2_with (first|((with_reducible refine gate_callee (f:=75) rfl ?_);refine goesL_ (some 5) rfl rfl Tryz.func75 zau rfl #[.slice A0 l0.length c0] rfl zd ?_;(with_reducible refine (spec_l09Ok.calls k _ _ l0 true _ ?side1 ?side2 A2.out).mono ?_);(case side1=>exact zw);(case side2=>exact HC0.out);rintro e w' ⟨rfl,⟨nd,rfl⟩⟩;refine ⟨_,rfl,?_⟩)|((with_reducible refine gate_callee (f:=76) rfl ?_);refine goesL_ (some 8) rfl rfl Tryz.func76 zau rfl #[.slice A0 l0.length c0] rfl zd ?_;(with_reducible refine (spec_l09Sum.calls k _ _ l0 t102 _ ?side1 ?side2 A4.out).mono ?_);(case side1=>exact zw);(case side2=>exact HC0.out);rintro e w' ⟨rfl,⟨nd,rfl⟩⟩;refine ⟨_,rfl,?_⟩))
  go_ret2
  exact ⟨zg,zj⟩
 ·replace c3:=Bool.eq_false_iff.mpr c3
  subst c3
  have H1:(some (0,1))=some (r1,r2):=by rw [if_neg (show ¬ (false=true) by decide)] at H;exact H
  clear H
  have H:=H1
  clear H1
  simp only [Option.some.injEq,Prod.mk.injEq] at H
  obtain ⟨rfl,rfl⟩:=H
  go_enter Tryz.func41,Tryz.ntmps41
  go_wp2_with (first|((with_reducible refine gate_callee (f:=75) rfl ?_);refine goesL_ (some 5) rfl rfl Tryz.func75 zau rfl #[.slice A0 l0.length c0] rfl zd ?_;(with_reducible refine (spec_l09Ok.calls k _ _ l0 false _ ?side1 ?side2 A2.out).mono ?_);(case side1=>exact zw);(case side2=>exact HC0.out);rintro e w' ⟨rfl,⟨nd,rfl⟩⟩;refine ⟨_,rfl,?_⟩))
  go_ret2
  exact ⟨zg,zj⟩

mutual
def laws_FnNotation.j0:Nat→Int→List Int→Int→Bool→ByteArray→List Int→List Int→Option (Bool)
 | 0,_,_,_,_,_,_,_=>none
 | k+1,x7,x15,x17,x82,x113000,x113001,x113002=>if x82=true then none else (laws_FnNotation.l0 k x7 x15 x17 0 x113000 x113001 x113002)
def laws_FnNotation.l0:Nat→Int→List Int→Int→Int→ByteArray→List Int→List Int→Option (Bool)
 | 0,_,_,_,_,_,_,_=>none
 | k+1,x7,x15,x17,x19,x113000,x113001,x113002=>if x19<(x15.length:Int) then (if 0≤x19 then (if (x113001.length:Int)=0 then (none) else (if 0≤(Int.tmod x19 (x113001.length:Int)) then (if (Int.tmod x19 (x113001.length:Int))<(x113001.length:Int) then (if (rd x15 x19)<1 then none else (if (rd x15 x19) > (wrap64 ((rd x113001 (Int.tmod x19 (x113001.length:Int)))*x7)) then none else (if x19<(wrap64 ((x15.length:Int) - 1)) then (if (rd x15 x19)=(wrap64 ((rd x113001 (Int.tmod x19 (x113001.length:Int)))*x7)) then (laws_FnNotation.l0 k x7 x15 (wrap64 (x17 - (rd x15 x19))) (wrap64 (x19+1)) x113000 x113001 x113002) else none) else (laws_FnNotation.l0 k x7 x15 (wrap64 (x17 - (rd x15 x19))) (wrap64 (x19+1)) x113000 x113001 x113002)))) else (none)) else (none))) else (none)) else (some (x17 == 0))
end
def laws_FnNotation.f (k:Nat) (l0:List Int) (l1:List Int):Option (Bool):=(laws_r8Long.f l0 l1).bind fun t101=>(if t101=true then (some true) else ((spec_R8Melody.f k l0).bind fun t102=>((spec_R8Tala.f k l1).bind fun bt105=>((laws_r8At.f l1 0 4).bind fun t113=>((impl_NotateBars.f k t102 bt105.1 bt105.2.1 bt105.2.2 (wrap64 (1+t113))).bind fun bt114=>(if bt114.2=0 then ((impl_ReadBars.f k bt114.1 bt105.1 bt105.2.1 bt105.2.2 (wrap64 (1+t113))).bind fun bt116=>((impl_WrongBar.f k bt114.1 bt105.1 bt105.2.1 bt105.2.2 (wrap64 (1+t113))).bind fun bt120=>((impl_BarSums.f k bt114.1).bind fun bt123=>((spec_DurationOf.f k t102).bind fun bt127=>(if bt116.2=0 then ((spec_SameMelody.f k bt116.1 t102).bind fun t129=>(if t129=true then (if bt120.2.2=3 then (laws_FnNotation.j0 k (wrap64 (1+t113)) bt123.1 bt127.1 (bt123.2 != 0) bt105.1 bt105.2.1 bt105.2.2) else none) else none)) else none))))) else (some (bt114.2 == 5))))))))
set_option maxHeartbeats 8000000 in
set_option maxRecDepth 100000 in
theorem laws_FnNotation.calls (k:Nat) (A0:Option Addr) (c0:Nat) (l0:List Int) (A1:Option Addr) (c1:Nat) (l1:List Int) (r:Bool) (w:World) (hD:Door2 w) (hr0:Kd.C (Kd.int .u8) w A0 l0.length l0) (hc0:l0.length≤c0) (hr1:Kd.C (Kd.int .u8) w A1 l1.length l1) (hc1:l1.length≤c1) (h:laws_FnNotation.f k l0 l1=some r) :
 Calls Tryz.prog 8 #[.slice A0 l0.length c0,.slice A1 l1.length c1] w fun e w'=>e = .returned (.bool r)∧Below w.heap.size w w':=by
 have hu50:=Tryz.underlying50
 have HD:=Aside0.mk hD
 clear hD
 have HR0:=Aside0.mk hr0
 have HC0:=Aside0.mk hc0
 clear hr0 hc0
 have HR1:=Aside0.mk hr1
 have HC1:=Aside0.mk hc1
 clear hr1 hc1
 have HB:=Aside0.mk (Below.refl w.heap.size w)
 have H:((laws_r8Long.f l0 l1).bind fun t101=>(if t101=true then (some true) else ((spec_R8Melody.f k l0).bind fun t102=>((spec_R8Tala.f k l1).bind fun bt105=>((laws_r8At.f l1 0 4).bind fun t113=>((impl_NotateBars.f k t102 bt105.1 bt105.2.1 bt105.2.2 (wrap64 (1+t113))).bind fun bt114=>(if bt114.2=0 then ((impl_ReadBars.f k bt114.1 bt105.1 bt105.2.1 bt105.2.2 (wrap64 (1+t113))).bind fun bt116=>((impl_WrongBar.f k bt114.1 bt105.1 bt105.2.1 bt105.2.2 (wrap64 (1+t113))).bind fun bt120=>((impl_BarSums.f k bt114.1).bind fun bt123=>((spec_DurationOf.f k t102).bind fun bt127=>(if bt116.2=0 then ((spec_SameMelody.f k bt116.1 t102).bind fun t129=>(if t129=true then (if bt120.2.2=3 then (laws_FnNotation.j0 k (wrap64 (1+t113)) bt123.1 bt127.1 (bt123.2 != 0) bt105.1 bt105.2.1 bt105.2.2) else none) else none)) else none))))) else (some (bt114.2 == 5)))))))))=some r:=h
 clear h
 replace H:=Option.bind_eq_some_iff.mp H
 obtain ⟨t101,A30,H⟩:=H
 replace H:(if t101=true then (some true) else ((spec_R8Melody.f k l0).bind fun t102=>((spec_R8Tala.f k l1).bind fun bt105=>((laws_r8At.f l1 0 4).bind fun t113=>((impl_NotateBars.f k t102 bt105.1 bt105.2.1 bt105.2.2 (wrap64 (1+t113))).bind fun bt114=>(if bt114.2=0 then ((impl_ReadBars.f k bt114.1 bt105.1 bt105.2.1 bt105.2.2 (wrap64 (1+t113))).bind fun bt116=>((impl_WrongBar.f k bt114.1 bt105.1 bt105.2.1 bt105.2.2 (wrap64 (1+t113))).bind fun bt120=>((impl_BarSums.f k bt114.1).bind fun bt123=>((spec_DurationOf.f k t102).bind fun bt127=>(if bt116.2=0 then ((spec_SameMelody.f k bt116.1 t102).bind fun t129=>(if t129=true then (if bt120.2.2=3 then (laws_FnNotation.j0 k (wrap64 (1+t113)) bt123.1 bt127.1 (bt123.2 != 0) bt105.1 bt105.2.1 bt105.2.2) else none) else none)) else none))))) else (some (bt114.2 == 5))))))))=some r:=H
 have A3:=Aside0.mk A30
 clear A30
 by_cases c4:t101=true
 ·subst c4
  have H1:(some true)=some r:=by rw [if_pos rfl] at H;exact H
  clear H
  have H:=H1
  clear H1
  obtain rfl:=Option.some.inj H
  go_enter Tryz.func8,Tryz.ntmps8
  go_wp2_with (first|(go_at_call 36;(with_reducible refine (laws_r8Long.calls _ _ l0 _ _ l1 true _ ?side1 ?side2 ?side3 ?side4 A3.out).mono ?_);(case side1=>exact zw);(case side2=>exact HC0.out);(case side3=>exact zbj);(case side4=>exact HC1.out);rintro e w' ⟨rfl,⟨nd,rfl⟩⟩;(try first|exact ⟨rfl,_,World.drewN_drewN _ _ _⟩|exact ⟨rfl,_,Eq.trans (World.drewN_drewN _ _ _) (congrArg (World.drewN _) (Nat.add_assoc _ _ _))⟩)))
  repeat (go_quiet (first|(go_at_call 36;(with_reducible refine (laws_r8Long.calls _ _ l0 _ _ l1 true _ ?side1 ?side2 ?side3 ?side4 A3.out).mono ?_);(case side1=>exact zw);(case side2=>exact HC0.out);(case side3=>exact zbj);(case side4=>exact HC1.out);rintro e w' ⟨rfl,⟨nd,rfl⟩⟩;(try first|exact ⟨rfl,_,World.drewN_drewN _ _ _⟩|exact ⟨rfl,_,Eq.trans (World.drewN_drewN _ _ _) (congrArg (World.drewN _) (Nat.add_assoc _ _ _))⟩)));try go_wp2_with (first|(go_at_call 36;(with_reducible refine (laws_r8Long.calls _ _ l0 _ _ l1 true _ ?side1 ?side2 ?side3 ?side4 A3.out).mono ?_);(case side1=>exact zw);(case side2=>exact HC0.out);(case side3=>exact zbj);(case side4=>exact HC1.out);rintro e w' ⟨rfl,⟨nd,rfl⟩⟩;(try first|exact ⟨rfl,_,World.drewN_drewN _ _ _⟩|exact ⟨rfl,_,Eq.trans (World.drewN_drewN _ _ _) (congrArg (World.drewN _) (Nat.add_assoc _ _ _))⟩))))
  go_ret
  exact ⟨zi,za⟩
 ·replace c4:=Bool.eq_false_iff.mpr c4
  subst c4
  have H1:((spec_R8Melody.f k l0).bind fun t102=>((spec_R8Tala.f k l1).bind fun bt105=>((laws_r8At.f l1 0 4).bind fun t113=>((impl_NotateBars.f k t102 bt105.1 bt105.2.1 bt105.2.2 (wrap64 (1+t113))).bind fun bt114=>(if bt114.2=0 then ((impl_ReadBars.f k bt114.1 bt105.1 bt105.2.1 bt105.2.2 (wrap64 (1+t113))).bind fun bt116=>((impl_WrongBar.f k bt114.1 bt105.1 bt105.2.1 bt105.2.2 (wrap64 (1+t113))).bind fun bt120=>((impl_BarSums.f k bt114.1).bind fun bt123=>((spec_DurationOf.f k t102).bind fun bt127=>(if bt116.2=0 then ((spec_SameMelody.f k bt116.1 t102).bind fun t129=>(if t129=true then (if bt120.2.2=3 then (laws_FnNotation.j0 k (wrap64 (1+t113)) bt123.1 bt127.1 (bt123.2 != 0) bt105.1 bt105.2.1 bt105.2.2) else none) else none)) else none))))) else (some (bt114.2 == 5)))))))=some r:=by rw [if_neg (show ¬ (false=true) by decide)] at H;exact H
  clear H
  have H:=H1
  clear H1
  replace H:=Option.bind_eq_some_iff.mp H
  obtain ⟨t102,A50,H⟩:=H
  replace H:((spec_R8Tala.f k l1).bind fun bt105=>((laws_r8At.f l1 0 4).bind fun t113=>((impl_NotateBars.f k t102 bt105.1 bt105.2.1 bt105.2.2 (wrap64 (1+t113))).bind fun bt114=>(if bt114.2=0 then ((impl_ReadBars.f k bt114.1 bt105.1 bt105.2.1 bt105.2.2 (wrap64 (1+t113))).bind fun bt116=>((impl_WrongBar.f k bt114.1 bt105.1 bt105.2.1 bt105.2.2 (wrap64 (1+t113))).bind fun bt120=>((impl_BarSums.f k bt114.1).bind fun bt123=>((spec_DurationOf.f k t102).bind fun bt127=>(if bt116.2=0 then ((spec_SameMelody.f k bt116.1 t102).bind fun t129=>(if t129=true then (if bt120.2.2=3 then (laws_FnNotation.j0 k (wrap64 (1+t113)) bt123.1 bt127.1 (bt123.2 != 0) bt105.1 bt105.2.1 bt105.2.2) else none) else none)) else none))))) else (some (bt114.2 == 5))))))=some r:=H
  have A5:=Aside0.mk A50
  clear A50
  replace H:=Option.bind_eq_some_iff.mp H
  obtain ⟨⟨t105,t106,t109⟩,A60,H⟩:=H
  replace H:((laws_r8At.f l1 0 4).bind fun t113=>((impl_NotateBars.f k t102 t105 t106 t109 (wrap64 (1+t113))).bind fun bt114=>(if bt114.2=0 then ((impl_ReadBars.f k bt114.1 t105 t106 t109 (wrap64 (1+t113))).bind fun bt116=>((impl_WrongBar.f k bt114.1 t105 t106 t109 (wrap64 (1+t113))).bind fun bt120=>((impl_BarSums.f k bt114.1).bind fun bt123=>((spec_DurationOf.f k t102).bind fun bt127=>(if bt116.2=0 then ((spec_SameMelody.f k bt116.1 t102).bind fun t129=>(if t129=true then (if bt120.2.2=3 then (laws_FnNotation.j0 k (wrap64 (1+t113)) bt123.1 bt127.1 (bt123.2 != 0) t105 t106 t109) else none) else none)) else none))))) else (some (bt114.2 == 5)))))=some r:=H
  have A6:=Aside0.mk A60
  clear A60
  replace H:=Option.bind_eq_some_iff.mp H
  obtain ⟨t113,A70,H⟩:=H
  replace H:((impl_NotateBars.f k t102 t105 t106 t109 (wrap64 (1+t113))).bind fun bt114=>(if bt114.2=0 then ((impl_ReadBars.f k bt114.1 t105 t106 t109 (wrap64 (1+t113))).bind fun bt116=>((impl_WrongBar.f k bt114.1 t105 t106 t109 (wrap64 (1+t113))).bind fun bt120=>((impl_BarSums.f k bt114.1).bind fun bt123=>((spec_DurationOf.f k t102).bind fun bt127=>(if bt116.2=0 then ((spec_SameMelody.f k bt116.1 t102).bind fun t129=>(if t129=true then (if bt120.2.2=3 then (laws_FnNotation.j0 k (wrap64 (1+t113)) bt123.1 bt127.1 (bt123.2 != 0) t105 t106 t109) else none) else none)) else none))))) else (some (bt114.2 == 5))))=some r:=H
  have A7:=Aside0.mk A70
  clear A70
  replace H:=Option.bind_eq_some_iff.mp H
  obtain ⟨⟨t114,t115⟩,A80,H⟩:=H
  replace H:(if t115=0 then ((impl_ReadBars.f k t114 t105 t106 t109 (wrap64 (1+t113))).bind fun bt116=>((impl_WrongBar.f k t114 t105 t106 t109 (wrap64 (1+t113))).bind fun bt120=>((impl_BarSums.f k t114).bind fun bt123=>((spec_DurationOf.f k t102).bind fun bt127=>(if bt116.2=0 then ((spec_SameMelody.f k bt116.1 t102).bind fun t129=>(if t129=true then (if bt120.2.2=3 then (laws_FnNotation.j0 k (wrap64 (1+t113)) bt123.1 bt127.1 (bt123.2 != 0) t105 t106 t109) else none) else none)) else none))))) else (some (t115 == 5)))=some r:=H
  have A8:=Aside0.mk A80
  clear A80
  by_cases c9:t115=0
  ·rw [if_pos c9] at H
   have c9b0:(t115 == 0)=true:=beq_iff_eq.mpr c9
   have c9b1:(t115 != 0)=false:=bne_eq_false_iff_eq.mpr c9
   clear c9
   replace H:=Option.bind_eq_some_iff.mp H
   obtain ⟨⟨t116,t119⟩,A100,H⟩:=H
   replace H:((impl_WrongBar.f k t114 t105 t106 t109 (wrap64 (1+t113))).bind fun bt120=>((impl_BarSums.f k t114).bind fun bt123=>((spec_DurationOf.f k t102).bind fun bt127=>(if t119=0 then ((spec_SameMelody.f k t116 t102).bind fun t129=>(if t129=true then (if bt120.2.2=3 then (laws_FnNotation.j0 k (wrap64 (1+t113)) bt123.1 bt127.1 (bt123.2 != 0) t105 t106 t109) else none) else none)) else none))))=some r:=H
   have A10:=Aside0.mk A100
   clear A100
   replace H:=Option.bind_eq_some_iff.mp H
   obtain ⟨⟨t120,t121,t122⟩,A110,H⟩:=H
   replace H:((impl_BarSums.f k t114).bind fun bt123=>((spec_DurationOf.f k t102).bind fun bt127=>(if t119=0 then ((spec_SameMelody.f k t116 t102).bind fun t129=>(if t129=true then (if t122=3 then (laws_FnNotation.j0 k (wrap64 (1+t113)) bt123.1 bt127.1 (bt123.2 != 0) t105 t106 t109) else none) else none)) else none)))=some r:=H
   have A11:=Aside0.mk A110
   clear A110
   replace H:=Option.bind_eq_some_iff.mp H
   obtain ⟨⟨t123,t124⟩,A120,H⟩:=H
   replace H:((spec_DurationOf.f k t102).bind fun bt127=>(if t119=0 then ((spec_SameMelody.f k t116 t102).bind fun t129=>(if t129=true then (if t122=3 then (laws_FnNotation.j0 k (wrap64 (1+t113)) t123 bt127.1 (t124 != 0) t105 t106 t109) else none) else none)) else none))=some r:=H
   have A12:=Aside0.mk A120
   clear A120
   replace H:=Option.bind_eq_some_iff.mp H
   obtain ⟨⟨t127,t128⟩,A130,H⟩:=H
   replace H:(if t119=0 then ((spec_SameMelody.f k t116 t102).bind fun t129=>(if t129=true then (if t122=3 then (laws_FnNotation.j0 k (wrap64 (1+t113)) t123 t127 (t124 != 0) t105 t106 t109) else none) else none)) else none)=some r:=H
   have A13:=Aside0.mk A130
   clear A130
   have HC14:=Aside0.mk H
   clear H
   go_enter Tryz.func8,Tryz.ntmps8
   go_upto_region 13 with (first|(go_at_call 36;(with_reducible refine (laws_r8Long.calls _ _ l0 _ _ l1 false _ ?side1 ?side2 ?side3 ?side4 A3.out).mono ?_);(case side1=>exact zw);(case side2=>exact HC0.out);(case side3=>exact zbj);(case side4=>exact HC1.out);rintro e w' ⟨rfl,⟨nd,rfl⟩⟩;(try first|exact ⟨rfl,_,World.drewN_drewN _ _ _⟩|exact ⟨rfl,_,Eq.trans (World.drewN_drewN _ _ _) (congrArg (World.drewN _) (Nat.add_assoc _ _ _))⟩))|(go_at_call 37;(with_reducible refine (spec_R8Melody.calls k _ _ l0 t102 _ ?side1 ?side2 A5.out).mono ?_);(case side1=>exact zw);(case side2=>exact HC0.out);rintro e w15 ⟨v103,rfl,ho0,hb⟩;have HO104:=Aside0.mk (Kd.R_lower ho0 (below_size za));replace HB:=Aside0.mk (below_step za hb);(try clear hb);(try clear hb2);(try clear hk);(try clear hi);(try clear ho0))|(go_at_call 38;(with_reducible refine (spec_R8Tala.calls k _ _ l1 t105 t106 t109 _ ?side1 ?side2 A6.out).mono ?_);(case side1=>exact zcd);(case side2=>exact HC1.out);rintro e w16 ⟨v107,v110,rfl,ho0,ho1,hb⟩;replace HO104:=Aside0.mk (Kd.R_below zr hb);have HO108:=Aside0.mk (Kd.R_lower ho0 (below_size za));have HO111:=Aside0.mk (Kd.R_lower ho1 (below_size za));replace HB:=Aside0.mk (below_step za hb);(try clear hb);(try clear hb2);(try clear hk);(try clear hi);(try clear ho0);(try clear ho1))|((with_reducible refine gate_dst (N:=6) rfl ?_);refine box_event ?hg (N:=6) ?hd (cs:=#[.string (⟨#[]⟩:ByteArray),.slice none 0 0,.slice none 0 0]) (t:=50) ?hr ?_;(case hd=>rfl);(case hg=>rfl);(case hr=>exact zy);intro gb112 hg w17 hbox hb;have n0_:=Aside0.mk (Kd.R_below zr hb);have n1_:=Aside0.mk (Kd.R_below zah hb);have n2_:=Aside0.mk (Kd.R_below zam hb);have n3_:=Aside0.mk (below_step za hb);have n4_:=Aside0.mk (hbox);have n5_:=Aside0.mk ((by rw [hg];exact (below_size za):w.heap.size≤gb112));have n6_:=Aside0.mk ((by rw [hg];exact (below_size za):w.heap.size≤gb112));clear HO104;clear HO108;clear HO111;clear HB;have HO104:=n0_;have HO108:=n1_;have HO111:=n2_;have HB:=n3_;have BK112:=n4_;have GW112:=n5_;have GE112:=n6_;clear n0_ n1_ n2_ n3_ n4_ n5_ n6_;clear hb hbox hg;have hcz18_0:w17.cell? ⟨gb112,0,none⟩=some (.string (⟨#[]⟩:ByteArray)):=(blk_cell BK112.out 0).trans rfl;have hcz18_1:w17.cell? ⟨gb112,1,none⟩=some (.slice none 0 0):=(blk_cell BK112.out 1).trans rfl;have hcz18_2:w17.cell? ⟨gb112,2,none⟩=some (.slice none 0 0):=(blk_cell BK112.out 2).trans rfl;have hfz18_0:=blk_frozen BK112.out 0;have hfz18_1:=blk_frozen BK112.out 1;have hfz18_2:=blk_frozen BK112.out 2;obtain ⟨Ao19,co19,eo19⟩:=Kd.R_slice HO108.out;subst eo19;obtain ⟨Ao20,co20,eo20⟩:=Kd.R_slice HO111.out;subst eo20)|(go_at_call 39;(with_reducible refine (laws_r8At.calls _ _ l1 0 4 t113 _ ?side1 ?side2 A7.out).mono ?_);(case side1=>exact Kd.C_below HR1.out zh);(case side2=>exact HC1.out);rintro e w' ⟨rfl,⟨nd,rfl⟩⟩;(try first|exact ⟨rfl,_,World.drewN_drewN _ _ _⟩|exact ⟨rfl,_,Eq.trans (World.drewN_drewN _ _ _) (congrArg (World.drewN _) (Nat.add_assoc _ _ _))⟩);obtain ⟨Ao21,co21,eo21⟩:=Kd.R_slice HO104.out;subst eo21)|(go_at_call 40;(with_reducible refine (impl_NotateBars.calls k _ _ t102 t105 _ _ t106 _ _ t109 (wrap64 (1+t113)) t114 t115 _ ?side7 ?side1 ?side2 ?side3 ?side4 ?side5 ?side6 A8.out).mono ?_);(case side1=>refine (Kd.R_reads' (e:=67) (base:=w.heap.size) (ok:=fun k_=>True) (n:=t102.length) (c:=co21) ?_).2.2;exact zaa);(case side2=>exact zdi);(case side3=>refine (Kd.R_reads' (e:=2) (base:=w.heap.size) (ok:=fun k_=>some k_≠(.slice Ao20 t109.length co20:Value).ownBlock) (n:=t106.length) (c:=co19) ?_).2.2;exact zab);(case side4=>exact zdu);(case side5=>refine (Kd.R_reads' (e:=2) (base:=w.heap.size) (ok:=fun k_=>some k_≠(.slice Ao19 t106.length co19:Value).ownBlock) (n:=t109.length) (c:=co20) ?_).2.2;exact zac);(case side6=>exact zdv);(case side7=>exact Door2.one (Door2.at HD.out zh));rintro e w22 ⟨rfl,hb⟩;replace HO104:=Aside0.mk (Kd.R_below zaa hb);replace HO108:=Aside0.mk (Kd.R_below zab hb);replace HO111:=Aside0.mk (Kd.R_below zac hb);replace BK112:=Aside0.mk (blk_below (g:=gb112) (o:=.cells #[.string t105,.slice Ao19 t106.length co19,.slice Ao20 t109.length co20] 50 (0,0)) zao hb);replace HB:=Aside0.mk (below_step zh hb);(try clear hb);(try clear hb2);(try clear hk);(try clear hi);have hcz23_0:w22.cell? ⟨gb112,0,none⟩=some (.string t105):=(blk_cell BK112.out 0).trans rfl;have hcz23_1:w22.cell? ⟨gb112,1,none⟩=some (.slice Ao19 t106.length co19):=(blk_cell BK112.out 1).trans rfl;have hcz23_2:w22.cell? ⟨gb112,2,none⟩=some (.slice Ao20 t109.length co20):=(blk_cell BK112.out 2).trans rfl;have hfz23_0:=blk_frozen BK112.out 0;have hfz23_1:=blk_frozen BK112.out 1;have hfz23_2:=blk_frozen BK112.out 2)|(go_at_call 31;(with_reducible refine (impl_ReadBars.calls k t114 t105 _ _ t106 _ _ t109 (wrap64 (1+t113)) t116 t119 _ ?side5 ?side1 ?side2 ?side3 ?side4 A10.out).mono ?_);(case side1=>exact zce);(case side2=>exact zdu);(case side3=>exact zcf);(case side4=>exact zdv);(case side5=>exact Door2.at HD.out zh);rintro e w24 ⟨v117,rfl,ho0,hb⟩;have n0_:=Aside0.mk (Kd.R_elder' zr (Kd.R_base ho0) hb);have n1_:=Aside0.mk (Kd.R_below zah hb);have n2_:=Aside0.mk (Kd.R_below zam hb);have n3_:=Aside0.mk (Kd.R_lower (Kd.R_new' ho0 (Kd.R_lt zr)) (below_size zh));have n4_:=Aside0.mk (blk_below (g:=gb112) (o:=.cells #[.string t105,.slice Ao19 t106.length co19,.slice Ao20 t109.length co20] 50 (0,0)) zbk hb);have n5_:=Aside0.mk (below_step zh hb);clear HO104;clear HO108;clear HO111;clear BK112;clear HB;have HO104:=n0_;have HO108:=n1_;have HO111:=n2_;have HO118:=n3_;have BK112:=n4_;have HB:=n5_;clear n0_ n1_ n2_ n3_ n4_ n5_;(try clear hb);(try clear hb2);(try clear hk);(try clear hi);(try clear ho0);have hcz25_0:w24.cell? ⟨gb112,0,none⟩=some (.string t105):=(blk_cell BK112.out 0).trans rfl;have hcz25_1:w24.cell? ⟨gb112,1,none⟩=some (.slice Ao19 t106.length co19):=(blk_cell BK112.out 1).trans rfl;have hcz25_2:w24.cell? ⟨gb112,2,none⟩=some (.slice Ao20 t109.length co20):=(blk_cell BK112.out 2).trans rfl;have hfz25_0:=blk_frozen BK112.out 0;have hfz25_1:=blk_frozen BK112.out 1;have hfz25_2:=blk_frozen BK112.out 2)|(go_at_call 28;(with_reducible refine (impl_WrongBar.calls k t114 t105 _ _ t106 _ _ t109 (wrap64 (1+t113)) t120 t121 t122 _ ?side5 ?side1 ?side2 ?side3 ?side4 A11.out).mono ?_);(case side1=>exact zce);(case side2=>exact zdu);(case side3=>exact zcf);(case side4=>exact zdv);(case side5=>exact Door2.at HD.out zh);rintro e w26 ⟨rfl,hb⟩;replace HO104:=Aside0.mk (Kd.R_below zr hb);replace HO108:=Aside0.mk (Kd.R_below zah hb);replace HO111:=Aside0.mk (Kd.R_below zam hb);replace HO118:=Aside0.mk (Kd.R_below zbn hb);replace BK112:=Aside0.mk (blk_below (g:=gb112) (o:=.cells #[.string t105,.slice Ao19 t106.length co19,.slice Ao20 t109.length co20] 50 (0,0)) zbk hb);replace HB:=Aside0.mk (below_step zh hb);(try clear hb);(try clear hb2);(try clear hk);(try clear hi))|(go_at_call 21;(with_reducible refine (impl_BarSums.calls k t114 t123 t124 _ ?side1 A12.out).mono ?_);(case side1=>exact Door2.at HD.out zh);rintro e w27 ⟨v125,rfl,ho0,hb⟩;have n0_:=Aside0.mk (Kd.R_below zr hb);have n1_:=Aside0.mk (Kd.R_elder' zah (Kd.R_base ho0) hb);have n2_:=Aside0.mk (Kd.R_elder' zam (Kd.R_base ho0) hb);have n3_:=Aside0.mk (Kd.R_below zbn hb);have n4_:=Aside0.mk (Kd.R_lower (Kd.R_new' (Kd.R_new' ho0 (Kd.R_lt zah)) (Kd.R_lt zam)) (below_size zh));have n5_:=Aside0.mk (blk_below (g:=gb112) (o:=.cells #[.string t105,.slice Ao19 t106.length co19,.slice Ao20 t109.length co20] 50 (0,0)) zbk hb);have n6_:=Aside0.mk (below_step zh hb);clear HO104;clear HO108;clear HO111;clear HO118;clear BK112;clear HB;have HO104:=n0_;have HO108:=n1_;have HO111:=n2_;have HO118:=n3_;have HO126:=n4_;have BK112:=n5_;have HB:=n6_;clear n0_ n1_ n2_ n3_ n4_ n5_ n6_;(try clear hb);(try clear hb2);(try clear hk);(try clear hi);(try clear ho0))|(go_at_call 41;(with_reducible refine (spec_DurationOf.calls k _ _ t102 t127 t128 _ ?side1 ?side2 A13.out).mono ?_);(case side1=>exact zaq);(case side2=>exact zdi);rintro e w' ⟨rfl,⟨nd,rfl⟩⟩;(try first|exact ⟨rfl,_,World.drewN_drewN _ _ _⟩|exact ⟨rfl,_,Eq.trans (World.drewN_drewN _ _ _) (congrArg (World.drewN _) (Nat.add_assoc _ _ _))⟩)))
   repeat (go_quiet (first|(go_at_call 36;(with_reducible refine (laws_r8Long.calls _ _ l0 _ _ l1 false _ ?side1 ?side2 ?side3 ?side4 A3.out).mono ?_);(case side1=>exact zw);(case side2=>exact HC0.out);(case side3=>exact zbj);(case side4=>exact HC1.out);rintro e w' ⟨rfl,⟨nd,rfl⟩⟩;(try first|exact ⟨rfl,_,World.drewN_drewN _ _ _⟩|exact ⟨rfl,_,Eq.trans (World.drewN_drewN _ _ _) (congrArg (World.drewN _) (Nat.add_assoc _ _ _))⟩))|(go_at_call 37;(with_reducible refine (spec_R8Melody.calls k _ _ l0 t102 _ ?side1 ?side2 A5.out).mono ?_);(case side1=>exact zw);(case side2=>exact HC0.out);rintro e w15 ⟨v103,rfl,ho0,hb⟩;have HO104:=Aside0.mk (Kd.R_lower ho0 (below_size za));replace HB:=Aside0.mk (below_step za hb);(try clear hb);(try clear hb2);(try clear hk);(try clear hi);(try clear ho0))|(go_at_call 38;(with_reducible refine (spec_R8Tala.calls k _ _ l1 t105 t106 t109 _ ?side1 ?side2 A6.out).mono ?_);(case side1=>exact zcd);(case side2=>exact HC1.out);rintro e w16 ⟨v107,v110,rfl,ho0,ho1,hb⟩;replace HO104:=Aside0.mk (Kd.R_below zr hb);have HO108:=Aside0.mk (Kd.R_lower ho0 (below_size za));have HO111:=Aside0.mk (Kd.R_lower ho1 (below_size za));replace HB:=Aside0.mk (below_step za hb);(try clear hb);(try clear hb2);(try clear hk);(try clear hi);(try clear ho0);(try clear ho1))|((with_reducible refine gate_dst (N:=6) rfl ?_);refine box_event ?hg (N:=6) ?hd (cs:=#[.string (⟨#[]⟩:ByteArray),.slice none 0 0,.slice none 0 0]) (t:=50) ?hr ?_;(case hd=>rfl);(case hg=>rfl);(case hr=>exact zy);intro gb112 hg w17 hbox hb;have n0_:=Aside0.mk (Kd.R_below zr hb);have n1_:=Aside0.mk (Kd.R_below zah hb);have n2_:=Aside0.mk (Kd.R_below zam hb);have n3_:=Aside0.mk (below_step za hb);have n4_:=Aside0.mk (hbox);have n5_:=Aside0.mk ((by rw [hg];exact (below_size za):w.heap.size≤gb112));have n6_:=Aside0.mk ((by rw [hg];exact (below_size za):w.heap.size≤gb112));clear HO104;clear HO108;clear HO111;clear HB;have HO104:=n0_;have HO108:=n1_;have HO111:=n2_;have HB:=n3_;have BK112:=n4_;have GW112:=n5_;have GE112:=n6_;clear n0_ n1_ n2_ n3_ n4_ n5_ n6_;clear hb hbox hg;have hcz18_0:w17.cell? ⟨gb112,0,none⟩=some (.string (⟨#[]⟩:ByteArray)):=(blk_cell BK112.out 0).trans rfl;have hcz18_1:w17.cell? ⟨gb112,1,none⟩=some (.slice none 0 0):=(blk_cell BK112.out 1).trans rfl;have hcz18_2:w17.cell? ⟨gb112,2,none⟩=some (.slice none 0 0):=(blk_cell BK112.out 2).trans rfl;have hfz18_0:=blk_frozen BK112.out 0;have hfz18_1:=blk_frozen BK112.out 1;have hfz18_2:=blk_frozen BK112.out 2;obtain ⟨Ao19,co19,eo19⟩:=Kd.R_slice HO108.out;subst eo19;obtain ⟨Ao20,co20,eo20⟩:=Kd.R_slice HO111.out;subst eo20)|(go_at_call 39;(with_reducible refine (laws_r8At.calls _ _ l1 0 4 t113 _ ?side1 ?side2 A7.out).mono ?_);(case side1=>exact Kd.C_below HR1.out zh);(case side2=>exact HC1.out);rintro e w' ⟨rfl,⟨nd,rfl⟩⟩;(try first|exact ⟨rfl,_,World.drewN_drewN _ _ _⟩|exact ⟨rfl,_,Eq.trans (World.drewN_drewN _ _ _) (congrArg (World.drewN _) (Nat.add_assoc _ _ _))⟩);obtain ⟨Ao21,co21,eo21⟩:=Kd.R_slice HO104.out;subst eo21)|(go_at_call 40;(with_reducible refine (impl_NotateBars.calls k _ _ t102 t105 _ _ t106 _ _ t109 (wrap64 (1+t113)) t114 t115 _ ?side7 ?side1 ?side2 ?side3 ?side4 ?side5 ?side6 A8.out).mono ?_);(case side1=>refine (Kd.R_reads' (e:=67) (base:=w.heap.size) (ok:=fun k_=>True) (n:=t102.length) (c:=co21) ?_).2.2;exact zaa);(case side2=>exact zdi);(case side3=>refine (Kd.R_reads' (e:=2) (base:=w.heap.size) (ok:=fun k_=>some k_≠(.slice Ao20 t109.length co20:Value).ownBlock) (n:=t106.length) (c:=co19) ?_).2.2;exact zab);(case side4=>exact zdu);(case side5=>refine (Kd.R_reads' (e:=2) (base:=w.heap.size) (ok:=fun k_=>some k_≠(.slice Ao19 t106.length co19:Value).ownBlock) (n:=t109.length) (c:=co20) ?_).2.2;exact zac);(case side6=>exact zdv);(case side7=>exact Door2.one (Door2.at HD.out zh));rintro e w22 ⟨rfl,hb⟩;replace HO104:=Aside0.mk (Kd.R_below zaa hb);replace HO108:=Aside0.mk (Kd.R_below zab hb);replace HO111:=Aside0.mk (Kd.R_below zac hb);replace BK112:=Aside0.mk (blk_below (g:=gb112) (o:=.cells #[.string t105,.slice Ao19 t106.length co19,.slice Ao20 t109.length co20] 50 (0,0)) zao hb);replace HB:=Aside0.mk (below_step zh hb);(try clear hb);(try clear hb2);(try clear hk);(try clear hi);have hcz23_0:w22.cell? ⟨gb112,0,none⟩=some (.string t105):=(blk_cell BK112.out 0).trans rfl;have hcz23_1:w22.cell? ⟨gb112,1,none⟩=some (.slice Ao19 t106.length co19):=(blk_cell BK112.out 1).trans rfl;have hcz23_2:w22.cell? ⟨gb112,2,none⟩=some (.slice Ao20 t109.length co20):=(blk_cell BK112.out 2).trans rfl;have hfz23_0:=blk_frozen BK112.out 0;have hfz23_1:=blk_frozen BK112.out 1;have hfz23_2:=blk_frozen BK112.out 2)|(go_at_call 31;(with_reducible refine (impl_ReadBars.calls k t114 t105 _ _ t106 _ _ t109 (wrap64 (1+t113)) t116 t119 _ ?side5 ?side1 ?side2 ?side3 ?side4 A10.out).mono ?_);(case side1=>exact zce);(case side2=>exact zdu);(case side3=>exact zcf);(case side4=>exact zdv);(case side5=>exact Door2.at HD.out zh);rintro e w24 ⟨v117,rfl,ho0,hb⟩;have n0_:=Aside0.mk (Kd.R_elder' zr (Kd.R_base ho0) hb);have n1_:=Aside0.mk (Kd.R_below zah hb);have n2_:=Aside0.mk (Kd.R_below zam hb);have n3_:=Aside0.mk (Kd.R_lower (Kd.R_new' ho0 (Kd.R_lt zr)) (below_size zh));have n4_:=Aside0.mk (blk_below (g:=gb112) (o:=.cells #[.string t105,.slice Ao19 t106.length co19,.slice Ao20 t109.length co20] 50 (0,0)) zbk hb);have n5_:=Aside0.mk (below_step zh hb);clear HO104;clear HO108;clear HO111;clear BK112;clear HB;have HO104:=n0_;have HO108:=n1_;have HO111:=n2_;have HO118:=n3_;have BK112:=n4_;have HB:=n5_;clear n0_ n1_ n2_ n3_ n4_ n5_;(try clear hb);(try clear hb2);(try clear hk);(try clear hi);(try clear ho0);have hcz25_0:w24.cell? ⟨gb112,0,none⟩=some (.string t105):=(blk_cell BK112.out 0).trans rfl;have hcz25_1:w24.cell? ⟨gb112,1,none⟩=some (.slice Ao19 t106.length co19):=(blk_cell BK112.out 1).trans rfl;have hcz25_2:w24.cell? ⟨gb112,2,none⟩=some (.slice Ao20 t109.length co20):=(blk_cell BK112.out 2).trans rfl;have hfz25_0:=blk_frozen BK112.out 0;have hfz25_1:=blk_frozen BK112.out 1;have hfz25_2:=blk_frozen BK112.out 2)|(go_at_call 28;(with_reducible refine (impl_WrongBar.calls k t114 t105 _ _ t106 _ _ t109 (wrap64 (1+t113)) t120 t121 t122 _ ?side5 ?side1 ?side2 ?side3 ?side4 A11.out).mono ?_);(case side1=>exact zce);(case side2=>exact zdu);(case side3=>exact zcf);(case side4=>exact zdv);(case side5=>exact Door2.at HD.out zh);rintro e w26 ⟨rfl,hb⟩;replace HO104:=Aside0.mk (Kd.R_below zr hb);replace HO108:=Aside0.mk (Kd.R_below zah hb);replace HO111:=Aside0.mk (Kd.R_below zam hb);replace HO118:=Aside0.mk (Kd.R_below zbn hb);replace BK112:=Aside0.mk (blk_below (g:=gb112) (o:=.cells #[.string t105,.slice Ao19 t106.length co19,.slice Ao20 t109.length co20] 50 (0,0)) zbk hb);replace HB:=Aside0.mk (below_step zh hb);(try clear hb);(try clear hb2);(try clear hk);(try clear hi))|(go_at_call 21;(with_reducible refine (impl_BarSums.calls k t114 t123 t124 _ ?side1 A12.out).mono ?_);(case side1=>exact Door2.at HD.out zh);rintro e w27 ⟨v125,rfl,ho0,hb⟩;have n0_:=Aside0.mk (Kd.R_below zr hb);have n1_:=Aside0.mk (Kd.R_elder' zah (Kd.R_base ho0) hb);have n2_:=Aside0.mk (Kd.R_elder' zam (Kd.R_base ho0) hb);have n3_:=Aside0.mk (Kd.R_below zbn hb);have n4_:=Aside0.mk (Kd.R_lower (Kd.R_new' (Kd.R_new' ho0 (Kd.R_lt zah)) (Kd.R_lt zam)) (below_size zh));have n5_:=Aside0.mk (blk_below (g:=gb112) (o:=.cells #[.string t105,.slice Ao19 t106.length co19,.slice Ao20 t109.length co20] 50 (0,0)) zbk hb);have n6_:=Aside0.mk (below_step zh hb);clear HO104;clear HO108;clear HO111;clear HO118;clear BK112;clear HB;have HO104:=n0_;have HO108:=n1_;have HO111:=n2_;have HO118:=n3_;have HO126:=n4_;have BK112:=n5_;have HB:=n6_;clear n0_ n1_ n2_ n3_ n4_ n5_ n6_;(try clear hb);(try clear hb2);(try clear hk);(try clear hi);(try clear ho0))|(go_at_call 41;(with_reducible refine (spec_DurationOf.calls k _ _ t102 t127 t128 _ ?side1 ?side2 A13.out).mono ?_);(case side1=>exact zaq);(case side2=>exact zdi);rintro e w' ⟨rfl,⟨nd,rfl⟩⟩;(try first|exact ⟨rfl,_,World.drewN_drewN _ _ _⟩|exact ⟨rfl,_,Eq.trans (World.drewN_drewN _ _ _) (congrArg (World.drewN _) (Nat.add_assoc _ _ _))⟩)));go_upto_region 13 with (first|(go_at_call 36;(with_reducible refine (laws_r8Long.calls _ _ l0 _ _ l1 false _ ?side1 ?side2 ?side3 ?side4 A3.out).mono ?_);(case side1=>exact zw);(case side2=>exact HC0.out);(case side3=>exact zbj);(case side4=>exact HC1.out);rintro e w' ⟨rfl,⟨nd,rfl⟩⟩;(try first|exact ⟨rfl,_,World.drewN_drewN _ _ _⟩|exact ⟨rfl,_,Eq.trans (World.drewN_drewN _ _ _) (congrArg (World.drewN _) (Nat.add_assoc _ _ _))⟩))|(go_at_call 37;(with_reducible refine (spec_R8Melody.calls k _ _ l0 t102 _ ?side1 ?side2 A5.out).mono ?_);(case side1=>exact zw);(case side2=>exact HC0.out);rintro e w15 ⟨v103,rfl,ho0,hb⟩;have HO104:=Aside0.mk (Kd.R_lower ho0 (below_size za));replace HB:=Aside0.mk (below_step za hb);(try clear hb);(try clear hb2);(try clear hk);(try clear hi);(try clear ho0))|(go_at_call 38;(with_reducible refine (spec_R8Tala.calls k _ _ l1 t105 t106 t109 _ ?side1 ?side2 A6.out).mono ?_);(case side1=>exact zcd);(case side2=>exact HC1.out);rintro e w16 ⟨v107,v110,rfl,ho0,ho1,hb⟩;replace HO104:=Aside0.mk (Kd.R_below zr hb);have HO108:=Aside0.mk (Kd.R_lower ho0 (below_size za));have HO111:=Aside0.mk (Kd.R_lower ho1 (below_size za));replace HB:=Aside0.mk (below_step za hb);(try clear hb);(try clear hb2);(try clear hk);(try clear hi);(try clear ho0);(try clear ho1))|((with_reducible refine gate_dst (N:=6) rfl ?_);refine box_event ?hg (N:=6) ?hd (cs:=#[.string (⟨#[]⟩:ByteArray),.slice none 0 0,.slice none 0 0]) (t:=50) ?hr ?_;(case hd=>rfl);(case hg=>rfl);(case hr=>exact zy);intro gb112 hg w17 hbox hb;have n0_:=Aside0.mk (Kd.R_below zr hb);have n1_:=Aside0.mk (Kd.R_below zah hb);have n2_:=Aside0.mk (Kd.R_below zam hb);have n3_:=Aside0.mk (below_step za hb);have n4_:=Aside0.mk (hbox);have n5_:=Aside0.mk ((by rw [hg];exact (below_size za):w.heap.size≤gb112));have n6_:=Aside0.mk ((by rw [hg];exact (below_size za):w.heap.size≤gb112));clear HO104;clear HO108;clear HO111;clear HB;have HO104:=n0_;have HO108:=n1_;have HO111:=n2_;have HB:=n3_;have BK112:=n4_;have GW112:=n5_;have GE112:=n6_;clear n0_ n1_ n2_ n3_ n4_ n5_ n6_;clear hb hbox hg;have hcz18_0:w17.cell? ⟨gb112,0,none⟩=some (.string (⟨#[]⟩:ByteArray)):=(blk_cell BK112.out 0).trans rfl;have hcz18_1:w17.cell? ⟨gb112,1,none⟩=some (.slice none 0 0):=(blk_cell BK112.out 1).trans rfl;have hcz18_2:w17.cell? ⟨gb112,2,none⟩=some (.slice none 0 0):=(blk_cell BK112.out 2).trans rfl;have hfz18_0:=blk_frozen BK112.out 0;have hfz18_1:=blk_frozen BK112.out 1;have hfz18_2:=blk_frozen BK112.out 2;obtain ⟨Ao19,co19,eo19⟩:=Kd.R_slice HO108.out;subst eo19;obtain ⟨Ao20,co20,eo20⟩:=Kd.R_slice HO111.out;subst eo20)|(go_at_call 39;(with_reducible refine (laws_r8At.calls _ _ l1 0 4 t113 _ ?side1 ?side2 A7.out).mono ?_);(case side1=>exact Kd.C_below HR1.out zh);(case side2=>exact HC1.out);rintro e w' ⟨rfl,⟨nd,rfl⟩⟩;(try first|exact ⟨rfl,_,World.drewN_drewN _ _ _⟩|exact ⟨rfl,_,Eq.trans (World.drewN_drewN _ _ _) (congrArg (World.drewN _) (Nat.add_assoc _ _ _))⟩);obtain ⟨Ao21,co21,eo21⟩:=Kd.R_slice HO104.out;subst eo21)|(go_at_call 40;(with_reducible refine (impl_NotateBars.calls k _ _ t102 t105 _ _ t106 _ _ t109 (wrap64 (1+t113)) t114 t115 _ ?side7 ?side1 ?side2 ?side3 ?side4 ?side5 ?side6 A8.out).mono ?_);(case side1=>refine (Kd.R_reads' (e:=67) (base:=w.heap.size) (ok:=fun k_=>True) (n:=t102.length) (c:=co21) ?_).2.2;exact zaa);(case side2=>exact zdi);(case side3=>refine (Kd.R_reads' (e:=2) (base:=w.heap.size) (ok:=fun k_=>some k_≠(.slice Ao20 t109.length co20:Value).ownBlock) (n:=t106.length) (c:=co19) ?_).2.2;exact zab);(case side4=>exact zdu);(case side5=>refine (Kd.R_reads' (e:=2) (base:=w.heap.size) (ok:=fun k_=>some k_≠(.slice Ao19 t106.length co19:Value).ownBlock) (n:=t109.length) (c:=co20) ?_).2.2;exact zac);(case side6=>exact zdv);(case side7=>exact Door2.one (Door2.at HD.out zh));rintro e w22 ⟨rfl,hb⟩;replace HO104:=Aside0.mk (Kd.R_below zaa hb);replace HO108:=Aside0.mk (Kd.R_below zab hb);replace HO111:=Aside0.mk (Kd.R_below zac hb);replace BK112:=Aside0.mk (blk_below (g:=gb112) (o:=.cells #[.string t105,.slice Ao19 t106.length co19,.slice Ao20 t109.length co20] 50 (0,0)) zao hb);replace HB:=Aside0.mk (below_step zh hb);(try clear hb);(try clear hb2);(try clear hk);(try clear hi);have hcz23_0:w22.cell? ⟨gb112,0,none⟩=some (.string t105):=(blk_cell BK112.out 0).trans rfl;have hcz23_1:w22.cell? ⟨gb112,1,none⟩=some (.slice Ao19 t106.length co19):=(blk_cell BK112.out 1).trans rfl;have hcz23_2:w22.cell? ⟨gb112,2,none⟩=some (.slice Ao20 t109.length co20):=(blk_cell BK112.out 2).trans rfl;have hfz23_0:=blk_frozen BK112.out 0;have hfz23_1:=blk_frozen BK112.out 1;have hfz23_2:=blk_frozen BK112.out 2)|(go_at_call 31;(with_reducible refine (impl_ReadBars.calls k t114 t105 _ _ t106 _ _ t109 (wrap64 (1+t113)) t116 t119 _ ?side5 ?side1 ?side2 ?side3 ?side4 A10.out).mono ?_);(case side1=>exact zce);(case side2=>exact zdu);(case side3=>exact zcf);(case side4=>exact zdv);(case side5=>exact Door2.at HD.out zh);rintro e w24 ⟨v117,rfl,ho0,hb⟩;have n0_:=Aside0.mk (Kd.R_elder' zr (Kd.R_base ho0) hb);have n1_:=Aside0.mk (Kd.R_below zah hb);have n2_:=Aside0.mk (Kd.R_below zam hb);have n3_:=Aside0.mk (Kd.R_lower (Kd.R_new' ho0 (Kd.R_lt zr)) (below_size zh));have n4_:=Aside0.mk (blk_below (g:=gb112) (o:=.cells #[.string t105,.slice Ao19 t106.length co19,.slice Ao20 t109.length co20] 50 (0,0)) zbk hb);have n5_:=Aside0.mk (below_step zh hb);clear HO104;clear HO108;clear HO111;clear BK112;clear HB;have HO104:=n0_;have HO108:=n1_;have HO111:=n2_;have HO118:=n3_;have BK112:=n4_;have HB:=n5_;clear n0_ n1_ n2_ n3_ n4_ n5_;(try clear hb);(try clear hb2);(try clear hk);(try clear hi);(try clear ho0);have hcz25_0:w24.cell? ⟨gb112,0,none⟩=some (.string t105):=(blk_cell BK112.out 0).trans rfl;have hcz25_1:w24.cell? ⟨gb112,1,none⟩=some (.slice Ao19 t106.length co19):=(blk_cell BK112.out 1).trans rfl;have hcz25_2:w24.cell? ⟨gb112,2,none⟩=some (.slice Ao20 t109.length co20):=(blk_cell BK112.out 2).trans rfl;have hfz25_0:=blk_frozen BK112.out 0;have hfz25_1:=blk_frozen BK112.out 1;have hfz25_2:=blk_frozen BK112.out 2)|(go_at_call 28;(with_reducible refine (impl_WrongBar.calls k t114 t105 _ _ t106 _ _ t109 (wrap64 (1+t113)) t120 t121 t122 _ ?side5 ?side1 ?side2 ?side3 ?side4 A11.out).mono ?_);(case side1=>exact zce);(case side2=>exact zdu);(case side3=>exact zcf);(case side4=>exact zdv);(case side5=>exact Door2.at HD.out zh);rintro e w26 ⟨rfl,hb⟩;replace HO104:=Aside0.mk (Kd.R_below zr hb);replace HO108:=Aside0.mk (Kd.R_below zah hb);replace HO111:=Aside0.mk (Kd.R_below zam hb);replace HO118:=Aside0.mk (Kd.R_below zbn hb);replace BK112:=Aside0.mk (blk_below (g:=gb112) (o:=.cells #[.string t105,.slice Ao19 t106.length co19,.slice Ao20 t109.length co20] 50 (0,0)) zbk hb);replace HB:=Aside0.mk (below_step zh hb);(try clear hb);(try clear hb2);(try clear hk);(try clear hi))|(go_at_call 21;(with_reducible refine (impl_BarSums.calls k t114 t123 t124 _ ?side1 A12.out).mono ?_);(case side1=>exact Door2.at HD.out zh);rintro e w27 ⟨v125,rfl,ho0,hb⟩;have n0_:=Aside0.mk (Kd.R_below zr hb);have n1_:=Aside0.mk (Kd.R_elder' zah (Kd.R_base ho0) hb);have n2_:=Aside0.mk (Kd.R_elder' zam (Kd.R_base ho0) hb);have n3_:=Aside0.mk (Kd.R_below zbn hb);have n4_:=Aside0.mk (Kd.R_lower (Kd.R_new' (Kd.R_new' ho0 (Kd.R_lt zah)) (Kd.R_lt zam)) (below_size zh));have n5_:=Aside0.mk (blk_below (g:=gb112) (o:=.cells #[.string t105,.slice Ao19 t106.length co19,.slice Ao20 t109.length co20] 50 (0,0)) zbk hb);have n6_:=Aside0.mk (below_step zh hb);clear HO104;clear HO108;clear HO111;clear HO118;clear BK112;clear HB;have HO104:=n0_;have HO108:=n1_;have HO111:=n2_;have HO118:=n3_;have HO126:=n4_;have BK112:=n5_;have HB:=n6_;clear n0_ n1_ n2_ n3_ n4_ n5_ n6_;(try clear hb);(try clear hb2);(try clear hk);(try clear hi);(try clear ho0))|(go_at_call 41;(with_reducible refine (spec_DurationOf.calls k _ _ t102 t127 t128 _ ?side1 ?side2 A13.out).mono ?_);(case side1=>exact zaq);(case side2=>exact zdi);rintro e w' ⟨rfl,⟨nd,rfl⟩⟩;(try first|exact ⟨rfl,_,World.drewN_drewN _ _ _⟩|exact ⟨rfl,_,Eq.trans (World.drewN_drewN _ _ _) (congrArg (World.drewN _) (Nat.add_assoc _ _ _))⟩))))
   (try simp only [Act.put,List.setIfInBounds_toArray,List.set_cons_zero,List.set_cons_succ])
   go_cut [82] (fun v82 wc=>∃(kq:Nat) (x82_13:Bool),v82 = .bool x82_13∧Aside0 (laws_FnNotation.j0 kq (wrap64 (1+t113)) t123 t127 x82_13 t105 t106 t109=some r)∧Aside0 (kq≤k)∧Aside0 (Kd.R (Kd.int .i64) 2 wc w.heap.size (fun k_=>some k_≠((.slice Ao19 t106.length co19):Value).ownBlock∧some k_≠((.slice Ao20 t109.length co20):Value).ownBlock) v125 t123)∧Aside0 (Kd.R (Kd.int .i64) 2 wc w.heap.size (fun k_=>some k_≠(v125:Value).ownBlock∧some k_≠((.slice Ao20 t109.length co20):Value).ownBlock) (.slice Ao19 t106.length co19) t106)∧Aside0 (Kd.R (Kd.int .i64) 2 wc w.heap.size (fun k_=>some k_≠(v125:Value).ownBlock∧some k_≠((.slice Ao19 t106.length co19):Value).ownBlock) (.slice Ao20 t109.length co20) t109)∧Aside0 (wc.heap[gb112]?=some (.cells #[.string t105,(.slice Ao19 t106.length co19),(.slice Ao20 t109.length co20)] 50 (0,0)))∧Aside0 (Below w.heap.size w wc))
   case first=>
    have H:=HC14.out
    clear HC14
    by_cases c28:t119=0
    ·rw [if_pos c28] at H
     have c28b0:(t119 == 0)=true:=beq_iff_eq.mpr c28
     have c28b1:(t119 != 0)=false:=bne_eq_false_iff_eq.mpr c28
     clear c28
     (first|rw [c28b0]|(simp only [i64_w,i32_w];rw [c28b0])|skip)
     replace H:=Option.bind_eq_some_iff.mp H
     obtain ⟨t129,A290,H⟩:=H
     replace H:(if t129=true then (if t122=3 then (laws_FnNotation.j0 k (wrap64 (1+t113)) t123 t127 (t124 != 0) t105 t106 t109) else none) else none)=some r:=H
     have A29:=Aside0.mk A290
     clear A290
     by_cases c30:t129=true
     ·subst c30
      have H1:(if t122=3 then (laws_FnNotation.j0 k (wrap64 (1+t113)) t123 t127 (t124 != 0) t105 t106 t109) else none)=some r:=by rw [if_pos rfl] at H;exact H
      clear H
      have H:=H1
      clear H1
      by_cases c31:t122=3
      ·rw [if_pos c31] at H
       have c31b0:(t122 == 3)=true:=beq_iff_eq.mpr c31
       have c31b1:(t122 != 3)=false:=bne_eq_false_iff_eq.mpr c31
       clear c31
       have H':=Aside0.mk H
       clear H
       obtain ⟨Ao32,co32,eo32⟩:=Kd.R_slice HO118.out
       subst eo32
       go_wp2_with (first|(go_at_call 15;(with_reducible refine (spec_SameMelody.calls k _ _ t116 _ _ t102 true _ ?side1 ?side2 ?side3 ?side4 A29.out).mono ?_);(case side1=>exact zdl);(case side2=>exact (Kd.R_reads' HO118.out).2.1);(case side3=>exact zaq);(case side4=>exact zdi);rintro e w' ⟨rfl,⟨nd,rfl⟩⟩;(try first|exact ⟨rfl,_,World.drewN_drewN _ _ _⟩|exact ⟨rfl,_,Eq.trans (World.drewN_drewN _ _ _) (congrArg (World.drewN _) (Nat.add_assoc _ _ _))⟩)))
       repeat (go_quiet (first|(go_at_call 15;(with_reducible refine (spec_SameMelody.calls k _ _ t116 _ _ t102 true _ ?side1 ?side2 ?side3 ?side4 A29.out).mono ?_);(case side1=>exact zdl);(case side2=>exact (Kd.R_reads' HO118.out).2.1);(case side3=>exact zaq);(case side4=>exact zdi);rintro e w' ⟨rfl,⟨nd,rfl⟩⟩;(try first|exact ⟨rfl,_,World.drewN_drewN _ _ _⟩|exact ⟨rfl,_,Eq.trans (World.drewN_drewN _ _ _) (congrArg (World.drewN _) (Nat.add_assoc _ _ _))⟩)));try go_wp2_with (first|(go_at_call 15;(with_reducible refine (spec_SameMelody.calls k _ _ t116 _ _ t102 true _ ?side1 ?side2 ?side3 ?side4 A29.out).mono ?_);(case side1=>exact zdl);(case side2=>exact (Kd.R_reads' HO118.out).2.1);(case side3=>exact zaq);(case side4=>exact zdi);rintro e w' ⟨rfl,⟨nd,rfl⟩⟩;(try first|exact ⟨rfl,_,World.drewN_drewN _ _ _⟩|exact ⟨rfl,_,Eq.trans (World.drewN_drewN _ _ _) (congrArg (World.drewN _) (Nat.add_assoc _ _ _))⟩))))
       go_meet
       case rel=>exact ⟨_,((t124 != 0)),zg,H',⟨zds⟩,⟨by (with_reducible repeat (first|apply Kd.R_alloc|apply Kd.R_drewN|apply Kd.R_drew));exact Kd.R_mono HO126.out (fun _ hk=>⟨hk.1.2,hk.2⟩)⟩,⟨by (with_reducible repeat (first|apply Kd.R_alloc|apply Kd.R_drewN|apply Kd.R_drew));exact Kd.R_mono HO108.out (fun _ hk=>⟨hk.2,hk.1⟩)⟩,⟨by (with_reducible repeat (first|apply Kd.R_alloc|apply Kd.R_drewN|apply Kd.R_drew));exact Kd.R_mono HO111.out (fun _ hk=>⟨hk.2,hk.1⟩)⟩,⟨zbk⟩,⟨zh⟩⟩
      ·rw [if_neg c31] at H
       cases H
     ·replace c30:=Bool.eq_false_iff.mpr c30
      subst c30
      have H1:none=some r:=by rw [if_neg (show ¬ (false=true) by decide)] at H;exact H
      cases H1
    ·rw [if_neg c28] at H
     cases H
   case rest=>
    clear HC14
    try clear c1
    try clear c2
    try clear p2
    try clear c3
    try clear c4
    try clear p6
    try clear c8
    try clear c9
    try clear c9b0
    try clear c9b1
    try clear c28
    try clear c28b0
    try clear c28b1
    try clear c30
    try clear c31
    try clear c31b0
    try clear c31b1
    try clear hcz18_0
    try clear hcz18_1
    try clear hcz18_2
    try clear hcz23_0
    try clear hcz23_1
    try clear hcz23_2
    try clear hcz25_0
    try clear hcz25_1
    try clear hcz25_2
    try clear hfz18_0
    try clear hfz18_1
    try clear hfz18_2
    try clear hfz23_0
    try clear hfz23_1
    try clear hfz23_2
    try clear hfz25_0
    try clear hfz25_1
    try clear hfz25_2
    obtain ⟨kq,x82_13,rfl,HA,HJ13,HO_15,HO_113001,HO_113002,BK112,HB⟩:=hcut
    cases kq with
    | zero=>exact absurd HA.out (by simp [laws_FnNotation.j0])
    | succ kj13=>
     have H:=HA.out
     clear HA
     simp only [laws_FnNotation.j0] at H
     by_cases c35:x82_13=true
     ·subst c35
      have H1:none=some r:=by rw [if_pos rfl] at H;exact H
      cases H1
     ·replace c35:=Bool.eq_false_iff.mpr c35
      subst c35
      have H1:(laws_FnNotation.l0 kj13 (wrap64 (1+t113)) t123 t127 0 t105 t106 t109)=some r:=by rw [if_neg (show ¬ (false=true) by decide)] at H;exact H
      clear H
      have H:=H1
      clear H1
      have H':=Aside0.mk H
      clear H
      go_wp2
      repeat (go_quiet (fail);try go_wp2)
      go_loopg [17,19] kj13 (fun kq v17 v19 w'=>∃(x17_2:Int) (x19_2:Int),v17 = .int .i64 x17_2∧v19 = .int .i64 x19_2∧Aside0 (laws_FnNotation.l0 kq (wrap64 (1+t113)) t123 x17_2 x19_2 t105 t106 t109=some r)∧Aside0 (kq≤kj13)∧Aside0 (Kd.R (Kd.int .i64) 2 w' w.heap.size (fun k_=>some k_≠((.slice Ao19 t106.length co19):Value).ownBlock∧some k_≠((.slice Ao20 t109.length co20):Value).ownBlock) v125 t123)∧Aside0 (Kd.R (Kd.int .i64) 2 w' w.heap.size (fun k_=>some k_≠(v125:Value).ownBlock∧some k_≠((.slice Ao20 t109.length co20):Value).ownBlock) (.slice Ao19 t106.length co19) t106)∧Aside0 (Kd.R (Kd.int .i64) 2 w' w.heap.size (fun k_=>some k_≠(v125:Value).ownBlock∧some k_≠((.slice Ao19 t106.length co19):Value).ownBlock) (.slice Ao20 t109.length co20) t109)∧Aside0 (w'.heap[gb112]?=some (.cells #[.string t105,(.slice Ao19 t106.length co19),(.slice Ao20 t109.length co20)] 50 (0,0)))∧Aside0 (Below w.heap.size w w'))
      case atStart=>exact ⟨(t127),(0),zg,zg,H',⟨Nat.le_refl _⟩,⟨by (with_reducible repeat (first|apply Kd.R_alloc|apply Kd.R_drewN|apply Kd.R_drew));exact HO_15.out⟩,⟨by (with_reducible repeat (first|apply Kd.R_alloc|apply Kd.R_drewN|apply Kd.R_drew));exact HO_113001.out⟩,⟨by (with_reducible repeat (first|apply Kd.R_alloc|apply Kd.R_drewN|apply Kd.R_drew));exact HO_113002.out⟩,⟨zbk⟩,⟨zh⟩⟩
      case round=>
       clear H'
       try clear c1
       try clear c2
       try clear p2
       try clear c3
       try clear c4
       try clear p6
       try clear c8
       try clear c9
       try clear c9b0
       try clear c9b1
       try clear c28
       try clear c28b0
       try clear c28b1
       try clear c30
       try clear c31
       try clear c31b0
       try clear c31b1
       try clear c35
       try clear hcz18_0
       try clear hcz18_1
       try clear hcz18_2
       try clear hcz23_0
       try clear hcz23_1
       try clear hcz23_2
       try clear hcz25_0
       try clear hcz25_1
       try clear hcz25_2
       try clear hfz18_0
       try clear hfz18_1
       try clear hfz18_2
       try clear hfz23_0
       try clear hfz23_1
       try clear hfz23_2
       try clear hfz25_0
       try clear hfz25_1
       try clear hfz25_2
       try clear p2
       try clear p6
       obtain ⟨x17_2,x19_2,rfl,rfl,HA,HK2,HO_15,HO_113001,HO_113002,BK112,HB⟩:=hrel
       cases gk with
       | zero=>exact absurd HA.out (by simp [laws_FnNotation.l0])
       | succ k2=>
        have H:=HA.out
        clear HA
        simp only [laws_FnNotation.l0] at H
        by_cases c36:x19_2<(t123.length:Int)
        ·rw [if_pos c36] at H
         have c36b0:decide (x19_2<(t123.length:Int))=true:=decide_eq_true c36
         clear c36
         by_cases c37:0≤x19_2
         ·rw [if_pos c37] at H
          have c37b0:decide (0≤x19_2)=true:=decide_eq_true c37
          clear c37
          by_cases c38:(t106.length:Int)=0
          ·rw [if_pos c38] at H
           exact absurd H zdd
          ·rw [if_neg c38] at H
           have c38b0:((t106.length:Int) == 0)=false:=beq_eq_false_iff_ne.mpr c38
           have c38b1:((t106.length:Int) != 0)=true:=bne_iff_ne.mpr c38
           have c38b2:¬ (t106=[]):=fun h_=>c38 (by rw [h_];rfl)
           obtain ⟨ji39,hji39⟩:∃j_:Int,(Int.tmod x19_2 (t106.length:Int))=j_:=⟨_,rfl⟩
           replace H:(if 0≤(ji39) then (if (ji39)<(t106.length:Int) then (if (rd t123 x19_2)<1 then none else (if (rd t123 x19_2) > (wrap64 ((rd t106 (ji39))*(wrap64 (1+t113)))) then none else (if x19_2<(wrap64 ((t123.length:Int) - 1)) then (if (rd t123 x19_2)=(wrap64 ((rd t106 (ji39))*(wrap64 (1+t113)))) then (laws_FnNotation.l0 k2 (wrap64 (1+t113)) t123 (wrap64 (x17_2 - (rd t123 x19_2))) (wrap64 (x19_2+1)) t105 t106 t109) else none) else (laws_FnNotation.l0 k2 (wrap64 (1+t113)) t123 (wrap64 (x17_2 - (rd t123 x19_2))) (wrap64 (x19_2+1)) t105 t106 t109)))) else (none)) else (none))=some r:=by first|(rw [hji39] at H;exact H)|(simp only [hji39] at H ⊢;exact H)
           by_cases c40:0≤(ji39)
           ·rw [if_pos c40] at H
            have c40b0:decide (0≤(ji39))=true:=decide_eq_true c40
            clear c40
            by_cases c41:(ji39)<(t106.length:Int)
            ·rw [if_pos c41] at H
             have c41b0:decide ((ji39)<(t106.length:Int))=true:=decide_eq_true c41
             clear c41
             by_cases c42:(rd t123 x19_2)<1
             ·rw [if_pos c42] at H
              cases H
             ·rw [if_neg c42] at H
              have c42b0:decide ((rd t123 x19_2)<1)=false:=decide_eq_false c42
              clear c42
              by_cases c45:(rd t123 x19_2) > (wrap64 ((rd t106 (ji39))*(wrap64 (1+t113))))
              ·rw [if_pos c45] at H
               cases H
              ·rw [if_neg c45] at H
               have c45b0:decide ((wrap64 ((rd t106 (ji39))*(wrap64 (1+t113))))<(rd t123 x19_2))=false:=decide_eq_false c45
               clear c45
               by_cases c48:x19_2<(wrap64 ((t123.length:Int) - 1))
               ·rw [if_pos c48] at H
                have c48b0:decide (x19_2<(wrap64 ((t123.length:Int) - 1)))=true:=decide_eq_true c48
                clear c48
                by_cases c49:(rd t123 x19_2)=(wrap64 ((rd t106 (ji39))*(wrap64 (1+t113))))
                ·rw [if_pos c49] at H
                 have c49b0:((rd t123 x19_2) == (wrap64 ((rd t106 (ji39))*(wrap64 (1+t113)))))=true:=beq_iff_eq.mpr c49
                 have c49b1:((rd t123 x19_2) != (wrap64 ((rd t106 (ji39))*(wrap64 (1+t113)))))=false:=bne_eq_false_iff_eq.mpr c49
                 clear c49
                 have H':=Aside0.mk H
                 clear H
                 obtain ⟨Ao50,co50,eo50⟩:=Kd.R_slice HO_15.out
                 subst eo50
                 have p130:0≤(x19_2:Int):=of_decide_eq_true ze
                 have q130:x19_2<(t123.length:Int):=of_decide_eq_true ze
                 obtain ⟨ad130,e130,hx130_0⟩:=Kd.at_int (Kd.R_reads' HO_15.out).2.2 x19_2 p130 q130
                 cases e130
                 replace p130:=eq_true p130
                 replace q130:=eq_true q130
                 have hcz51_0:wr.cell? ⟨gb112,0,none⟩=some (.string t105):=(blk_cell BK112.out 0).trans rfl
                 have hcz51_1:wr.cell? ⟨gb112,1,none⟩=some (.slice Ao19 t106.length co19):=(blk_cell BK112.out 1).trans rfl
                 have hcz51_2:wr.cell? ⟨gb112,2,none⟩=some (.slice Ao20 t109.length co20):=(blk_cell BK112.out 2).trans rfl
                 have hfz51_0:=blk_frozen BK112.out 0
                 have hfz51_1:=blk_frozen BK112.out 1
                 have hfz51_2:=blk_frozen BK112.out 2
                 have p131:0≤((ji39):Int):=of_decide_eq_true ze
                 have q131:(ji39)<(t106.length:Int):=of_decide_eq_true ze
                 obtain ⟨ad131,e131,hx131_0⟩:=Kd.at_int (Kd.R_reads' HO_113001.out).2.2 (ji39) p131 q131
                 cases e131
                 replace p131:=eq_true p131
                 replace q131:=eq_true q131
                 have p132:0≤(x19_2:Int):=of_decide_eq_true ze
                 have q132:x19_2<(t123.length:Int):=of_decide_eq_true ze
                 obtain ⟨ad132,e132,hx132_0⟩:=Kd.at_int (Kd.R_reads' HO_15.out).2.2 x19_2 p132 q132
                 obtain rfl:ad130=ad132:=(by injection e132)
                 replace p132:=eq_true p132
                 replace q132:=eq_true q132
                 have p133:0≤(x19_2:Int):=of_decide_eq_true ze
                 have q133:x19_2<(t123.length:Int):=of_decide_eq_true ze
                 obtain ⟨ad133,e133,hx133_0⟩:=Kd.at_int (Kd.R_reads' HO_15.out).2.2 x19_2 p133 q133
                 obtain rfl:ad130=ad133:=(by injection e133)
                 replace p133:=eq_true p133
                 replace q133:=eq_true q133
                 have p134:0≤(x19_2:Int):=of_decide_eq_true ze
                 have q134:x19_2<(t123.length:Int):=of_decide_eq_true ze
                 obtain ⟨ad134,e134,hx134_0⟩:=Kd.at_int (Kd.R_reads' HO_15.out).2.2 x19_2 p134 q134
                 obtain rfl:ad130=ad134:=(by injection e134)
                 replace p134:=eq_true p134
                 replace q134:=eq_true q134
                 go_wp2
                 repeat (go_quiet (fail);try go_wp2)
                 go_roundg k2
                 case measure=>have:=HJ13.out;have:=HK2.out;omega
                 case rel=>exact ⟨(wrap64 (x17_2 - (rd t123 x19_2))),(wrap64 (x19_2+1)),zg,zg,H',⟨by have:=HJ13.out;have:=HK2.out;omega⟩,⟨by (with_reducible repeat (first|apply Kd.R_alloc|apply Kd.R_drewN|apply Kd.R_drew));exact HO_15.out⟩,⟨by (with_reducible repeat (first|apply Kd.R_alloc|apply Kd.R_drewN|apply Kd.R_drew));exact HO_113001.out⟩,⟨by (with_reducible repeat (first|apply Kd.R_alloc|apply Kd.R_drewN|apply Kd.R_drew));exact HO_113002.out⟩,⟨zbk⟩,⟨zh⟩⟩
                ·rw [if_neg c49] at H
                 cases H
               ·rw [if_neg c48] at H
                have c48b0:decide (x19_2<(wrap64 ((t123.length:Int) - 1)))=false:=decide_eq_false c48
                clear c48
                have H':=Aside0.mk H
                clear H
                obtain ⟨Ao54,co54,eo54⟩:=Kd.R_slice HO_15.out
                subst eo54
                have p130:0≤(x19_2:Int):=of_decide_eq_true ze
                have q130:x19_2<(t123.length:Int):=of_decide_eq_true ze
                obtain ⟨ad130,e130,hx130_0⟩:=Kd.at_int (Kd.R_reads' HO_15.out).2.2 x19_2 p130 q130
                cases e130
                replace p130:=eq_true p130
                replace q130:=eq_true q130
                have hcz55_0:wr.cell? ⟨gb112,0,none⟩=some (.string t105):=(blk_cell BK112.out 0).trans rfl
                have hcz55_1:wr.cell? ⟨gb112,1,none⟩=some (.slice Ao19 t106.length co19):=(blk_cell BK112.out 1).trans rfl
                have hcz55_2:wr.cell? ⟨gb112,2,none⟩=some (.slice Ao20 t109.length co20):=(blk_cell BK112.out 2).trans rfl
                have hfz55_0:=blk_frozen BK112.out 0
                have hfz55_1:=blk_frozen BK112.out 1
                have hfz55_2:=blk_frozen BK112.out 2
                have p131:0≤((ji39):Int):=of_decide_eq_true ze
                have q131:(ji39)<(t106.length:Int):=of_decide_eq_true ze
                obtain ⟨ad131,e131,hx131_0⟩:=Kd.at_int (Kd.R_reads' HO_113001.out).2.2 (ji39) p131 q131
                cases e131
                replace p131:=eq_true p131
                replace q131:=eq_true q131
                have p132:0≤(x19_2:Int):=of_decide_eq_true ze
                have q132:x19_2<(t123.length:Int):=of_decide_eq_true ze
                obtain ⟨ad132,e132,hx132_0⟩:=Kd.at_int (Kd.R_reads' HO_15.out).2.2 x19_2 p132 q132
                obtain rfl:ad130=ad132:=(by injection e132)
                replace p132:=eq_true p132
                replace q132:=eq_true q132
                have p133:0≤(x19_2:Int):=of_decide_eq_true ze
                have q133:x19_2<(t123.length:Int):=of_decide_eq_true ze
                obtain ⟨ad133,e133,hx133_0⟩:=Kd.at_int (Kd.R_reads' HO_15.out).2.2 x19_2 p133 q133
                obtain rfl:ad130=ad133:=(by injection e133)
                replace p133:=eq_true p133
                replace q133:=eq_true q133
                go_wp2
                repeat (go_quiet (fail);try go_wp2)
                go_roundg k2
                case measure=>have:=HJ13.out;have:=HK2.out;omega
                case rel=>exact ⟨(wrap64 (x17_2 - (rd t123 x19_2))),(wrap64 (x19_2+1)),zg,zg,H',⟨by have:=HJ13.out;have:=HK2.out;omega⟩,⟨by (with_reducible repeat (first|apply Kd.R_alloc|apply Kd.R_drewN|apply Kd.R_drew));exact HO_15.out⟩,⟨by (with_reducible repeat (first|apply Kd.R_alloc|apply Kd.R_drewN|apply Kd.R_drew));exact HO_113001.out⟩,⟨by (with_reducible repeat (first|apply Kd.R_alloc|apply Kd.R_drewN|apply Kd.R_drew));exact HO_113002.out⟩,⟨zbk⟩,⟨zh⟩⟩
            ·rw [if_neg c41] at H
             exact absurd H zdd
           ·rw [if_neg c40] at H
            exact absurd H zdd
         ·rw [if_neg c37] at H
          exact absurd H zdd
        ·rw [if_neg c36] at H
         have c36b0:decide (x19_2<(t123.length:Int))=false:=decide_eq_false c36
         clear c36
         obtain rfl:=Option.some.inj H
         obtain ⟨Ao56,co56,eo56⟩:=Kd.R_slice HO_15.out
         subst eo56
         go_wp2
         repeat (go_quiet (fail);try go_wp2)
         go_ret
         exact ⟨zi,zh⟩
  ·rw [if_neg c9] at H
   have c9b0:(t115 == 0)=false:=beq_eq_false_iff_ne.mpr c9
   have c9b1:(t115 != 0)=true:=bne_iff_ne.mpr c9
   obtain rfl:=Option.some.inj H
   go_enter Tryz.func8,Tryz.ntmps8
   go_wp2_with (first|(go_at_call 36;(with_reducible refine (laws_r8Long.calls _ _ l0 _ _ l1 false _ ?side1 ?side2 ?side3 ?side4 A3.out).mono ?_);(case side1=>exact zw);(case side2=>exact HC0.out);(case side3=>exact zbj);(case side4=>exact HC1.out);rintro e w' ⟨rfl,⟨nd,rfl⟩⟩;(try first|exact ⟨rfl,_,World.drewN_drewN _ _ _⟩|exact ⟨rfl,_,Eq.trans (World.drewN_drewN _ _ _) (congrArg (World.drewN _) (Nat.add_assoc _ _ _))⟩))|(go_at_call 37;(with_reducible refine (spec_R8Melody.calls k _ _ l0 t102 _ ?side1 ?side2 A5.out).mono ?_);(case side1=>exact zw);(case side2=>exact HC0.out);rintro e w57 ⟨v103,rfl,ho0,hb⟩;have HO104:=Aside0.mk (Kd.R_lower ho0 (below_size za));replace HB:=Aside0.mk (below_step za hb);(try clear hb);(try clear hb2);(try clear hk);(try clear hi);(try clear ho0))|(go_at_call 38;(with_reducible refine (spec_R8Tala.calls k _ _ l1 t105 t106 t109 _ ?side1 ?side2 A6.out).mono ?_);(case side1=>exact zcd);(case side2=>exact HC1.out);rintro e w58 ⟨v107,v110,rfl,ho0,ho1,hb⟩;replace HO104:=Aside0.mk (Kd.R_below zr hb);have HO108:=Aside0.mk (Kd.R_lower ho0 (below_size za));have HO111:=Aside0.mk (Kd.R_lower ho1 (below_size za));replace HB:=Aside0.mk (below_step za hb);(try clear hb);(try clear hb2);(try clear hk);(try clear hi);(try clear ho0);(try clear ho1))|((with_reducible refine gate_dst (N:=6) rfl ?_);refine box_event ?hg (N:=6) ?hd (cs:=#[.string (⟨#[]⟩:ByteArray),.slice none 0 0,.slice none 0 0]) (t:=50) ?hr ?_;(case hd=>rfl);(case hg=>rfl);(case hr=>exact zy);intro gb112 hg w59 hbox hb;have n0_:=Aside0.mk (Kd.R_below zr hb);have n1_:=Aside0.mk (Kd.R_below zah hb);have n2_:=Aside0.mk (Kd.R_below zam hb);have n3_:=Aside0.mk (below_step za hb);have n4_:=Aside0.mk (hbox);have n5_:=Aside0.mk ((by rw [hg];exact (below_size za):w.heap.size≤gb112));have n6_:=Aside0.mk ((by rw [hg];exact (below_size za):w.heap.size≤gb112));clear HO104;clear HO108;clear HO111;clear HB;have HO104:=n0_;have HO108:=n1_;have HO111:=n2_;have HB:=n3_;have BK112:=n4_;have GW112:=n5_;have GE112:=n6_;clear n0_ n1_ n2_ n3_ n4_ n5_ n6_;clear hb hbox hg;have hcz60_0:w59.cell? ⟨gb112,0,none⟩=some (.string (⟨#[]⟩:ByteArray)):=(blk_cell BK112.out 0).trans rfl;have hcz60_1:w59.cell? ⟨gb112,1,none⟩=some (.slice none 0 0):=(blk_cell BK112.out 1).trans rfl;have hcz60_2:w59.cell? ⟨gb112,2,none⟩=some (.slice none 0 0):=(blk_cell BK112.out 2).trans rfl;have hfz60_0:=blk_frozen BK112.out 0;have hfz60_1:=blk_frozen BK112.out 1;have hfz60_2:=blk_frozen BK112.out 2;obtain ⟨Ao61,co61,eo61⟩:=Kd.R_slice HO108.out;subst eo61;obtain ⟨Ao62,co62,eo62⟩:=Kd.R_slice HO111.out;subst eo62)|(go_at_call 39;(with_reducible refine (laws_r8At.calls _ _ l1 0 4 t113 _ ?side1 ?side2 A7.out).mono ?_);(case side1=>exact Kd.C_below HR1.out zh);(case side2=>exact HC1.out);rintro e w' ⟨rfl,⟨nd,rfl⟩⟩;(try first|exact ⟨rfl,_,World.drewN_drewN _ _ _⟩|exact ⟨rfl,_,Eq.trans (World.drewN_drewN _ _ _) (congrArg (World.drewN _) (Nat.add_assoc _ _ _))⟩);obtain ⟨Ao63,co63,eo63⟩:=Kd.R_slice HO104.out;subst eo63)|(go_at_call 40;(with_reducible refine (impl_NotateBars.calls k _ _ t102 t105 _ _ t106 _ _ t109 (wrap64 (1+t113)) t114 t115 _ ?side7 ?side1 ?side2 ?side3 ?side4 ?side5 ?side6 A8.out).mono ?_);(case side1=>refine (Kd.R_reads' (e:=67) (base:=w.heap.size) (ok:=fun k_=>True) (n:=t102.length) (c:=co63) ?_).2.2;exact zad);(case side2=>exact zdi);(case side3=>refine (Kd.R_reads' (e:=2) (base:=w.heap.size) (ok:=fun k_=>some k_≠(.slice Ao62 t109.length co62:Value).ownBlock) (n:=t106.length) (c:=co61) ?_).2.2;exact zae);(case side4=>exact zdu);(case side5=>refine (Kd.R_reads' (e:=2) (base:=w.heap.size) (ok:=fun k_=>some k_≠(.slice Ao61 t106.length co61:Value).ownBlock) (n:=t109.length) (c:=co62) ?_).2.2;exact zaf);(case side6=>exact zdv);(case side7=>exact Door2.one (Door2.at HD.out zh));rintro e w64 ⟨rfl,hb⟩;replace HO104:=Aside0.mk (Kd.R_below zad hb);replace HO108:=Aside0.mk (Kd.R_below zae hb);replace HO111:=Aside0.mk (Kd.R_below zaf hb);replace BK112:=Aside0.mk (blk_below (g:=gb112) (o:=.cells #[.string t105,.slice Ao61 t106.length co61,.slice Ao62 t109.length co62] 50 (0,0)) zap hb);replace HB:=Aside0.mk (below_step zh hb);(try clear hb);(try clear hb2);(try clear hk);(try clear hi)))
   repeat (go_quiet (first|(go_at_call 36;(with_reducible refine (laws_r8Long.calls _ _ l0 _ _ l1 false _ ?side1 ?side2 ?side3 ?side4 A3.out).mono ?_);(case side1=>exact zw);(case side2=>exact HC0.out);(case side3=>exact zbj);(case side4=>exact HC1.out);rintro e w' ⟨rfl,⟨nd,rfl⟩⟩;(try first|exact ⟨rfl,_,World.drewN_drewN _ _ _⟩|exact ⟨rfl,_,Eq.trans (World.drewN_drewN _ _ _) (congrArg (World.drewN _) (Nat.add_assoc _ _ _))⟩))|(go_at_call 37;(with_reducible refine (spec_R8Melody.calls k _ _ l0 t102 _ ?side1 ?side2 A5.out).mono ?_);(case side1=>exact zw);(case side2=>exact HC0.out);rintro e w57 ⟨v103,rfl,ho0,hb⟩;have HO104:=Aside0.mk (Kd.R_lower ho0 (below_size za));replace HB:=Aside0.mk (below_step za hb);(try clear hb);(try clear hb2);(try clear hk);(try clear hi);(try clear ho0))|(go_at_call 38;(with_reducible refine (spec_R8Tala.calls k _ _ l1 t105 t106 t109 _ ?side1 ?side2 A6.out).mono ?_);(case side1=>exact zcd);(case side2=>exact HC1.out);rintro e w58 ⟨v107,v110,rfl,ho0,ho1,hb⟩;replace HO104:=Aside0.mk (Kd.R_below zr hb);have HO108:=Aside0.mk (Kd.R_lower ho0 (below_size za));have HO111:=Aside0.mk (Kd.R_lower ho1 (below_size za));replace HB:=Aside0.mk (below_step za hb);(try clear hb);(try clear hb2);(try clear hk);(try clear hi);(try clear ho0);(try clear ho1))|((with_reducible refine gate_dst (N:=6) rfl ?_);refine box_event ?hg (N:=6) ?hd (cs:=#[.string (⟨#[]⟩:ByteArray),.slice none 0 0,.slice none 0 0]) (t:=50) ?hr ?_;(case hd=>rfl);(case hg=>rfl);(case hr=>exact zy);intro gb112 hg w59 hbox hb;have n0_:=Aside0.mk (Kd.R_below zr hb);have n1_:=Aside0.mk (Kd.R_below zah hb);have n2_:=Aside0.mk (Kd.R_below zam hb);have n3_:=Aside0.mk (below_step za hb);have n4_:=Aside0.mk (hbox);have n5_:=Aside0.mk ((by rw [hg];exact (below_size za):w.heap.size≤gb112));have n6_:=Aside0.mk ((by rw [hg];exact (below_size za):w.heap.size≤gb112));clear HO104;clear HO108;clear HO111;clear HB;have HO104:=n0_;have HO108:=n1_;have HO111:=n2_;have HB:=n3_;have BK112:=n4_;have GW112:=n5_;have GE112:=n6_;clear n0_ n1_ n2_ n3_ n4_ n5_ n6_;clear hb hbox hg;have hcz60_0:w59.cell? ⟨gb112,0,none⟩=some (.string (⟨#[]⟩:ByteArray)):=(blk_cell BK112.out 0).trans rfl;have hcz60_1:w59.cell? ⟨gb112,1,none⟩=some (.slice none 0 0):=(blk_cell BK112.out 1).trans rfl;have hcz60_2:w59.cell? ⟨gb112,2,none⟩=some (.slice none 0 0):=(blk_cell BK112.out 2).trans rfl;have hfz60_0:=blk_frozen BK112.out 0;have hfz60_1:=blk_frozen BK112.out 1;have hfz60_2:=blk_frozen BK112.out 2;obtain ⟨Ao61,co61,eo61⟩:=Kd.R_slice HO108.out;subst eo61;obtain ⟨Ao62,co62,eo62⟩:=Kd.R_slice HO111.out;subst eo62)|(go_at_call 39;(with_reducible refine (laws_r8At.calls _ _ l1 0 4 t113 _ ?side1 ?side2 A7.out).mono ?_);(case side1=>exact Kd.C_below HR1.out zh);(case side2=>exact HC1.out);rintro e w' ⟨rfl,⟨nd,rfl⟩⟩;(try first|exact ⟨rfl,_,World.drewN_drewN _ _ _⟩|exact ⟨rfl,_,Eq.trans (World.drewN_drewN _ _ _) (congrArg (World.drewN _) (Nat.add_assoc _ _ _))⟩);obtain ⟨Ao63,co63,eo63⟩:=Kd.R_slice HO104.out;subst eo63)|(go_at_call 40;(with_reducible refine (impl_NotateBars.calls k _ _ t102 t105 _ _ t106 _ _ t109 (wrap64 (1+t113)) t114 t115 _ ?side7 ?side1 ?side2 ?side3 ?side4 ?side5 ?side6 A8.out).mono ?_);(case side1=>refine (Kd.R_reads' (e:=67) (base:=w.heap.size) (ok:=fun k_=>True) (n:=t102.length) (c:=co63) ?_).2.2;exact zad);(case side2=>exact zdi);(case side3=>refine (Kd.R_reads' (e:=2) (base:=w.heap.size) (ok:=fun k_=>some k_≠(.slice Ao62 t109.length co62:Value).ownBlock) (n:=t106.length) (c:=co61) ?_).2.2;exact zae);(case side4=>exact zdu);(case side5=>refine (Kd.R_reads' (e:=2) (base:=w.heap.size) (ok:=fun k_=>some k_≠(.slice Ao61 t106.length co61:Value).ownBlock) (n:=t109.length) (c:=co62) ?_).2.2;exact zaf);(case side6=>exact zdv);(case side7=>exact Door2.one (Door2.at HD.out zh));rintro e w64 ⟨rfl,hb⟩;replace HO104:=Aside0.mk (Kd.R_below zad hb);replace HO108:=Aside0.mk (Kd.R_below zae hb);replace HO111:=Aside0.mk (Kd.R_below zaf hb);replace BK112:=Aside0.mk (blk_below (g:=gb112) (o:=.cells #[.string t105,.slice Ao61 t106.length co61,.slice Ao62 t109.length co62] 50 (0,0)) zap hb);replace HB:=Aside0.mk (below_step zh hb);(try clear hb);(try clear hb2);(try clear hk);(try clear hi)));try go_wp2_with (first|(go_at_call 36;(with_reducible refine (laws_r8Long.calls _ _ l0 _ _ l1 false _ ?side1 ?side2 ?side3 ?side4 A3.out).mono ?_);(case side1=>exact zw);(case side2=>exact HC0.out);(case side3=>exact zbj);(case side4=>exact HC1.out);rintro e w' ⟨rfl,⟨nd,rfl⟩⟩;(try first|exact ⟨rfl,_,World.drewN_drewN _ _ _⟩|exact ⟨rfl,_,Eq.trans (World.drewN_drewN _ _ _) (congrArg (World.drewN _) (Nat.add_assoc _ _ _))⟩))|(go_at_call 37;(with_reducible refine (spec_R8Melody.calls k _ _ l0 t102 _ ?side1 ?side2 A5.out).mono ?_);(case side1=>exact zw);(case side2=>exact HC0.out);rintro e w57 ⟨v103,rfl,ho0,hb⟩;have HO104:=Aside0.mk (Kd.R_lower ho0 (below_size za));replace HB:=Aside0.mk (below_step za hb);(try clear hb);(try clear hb2);(try clear hk);(try clear hi);(try clear ho0))|(go_at_call 38;(with_reducible refine (spec_R8Tala.calls k _ _ l1 t105 t106 t109 _ ?side1 ?side2 A6.out).mono ?_);(case side1=>exact zcd);(case side2=>exact HC1.out);rintro e w58 ⟨v107,v110,rfl,ho0,ho1,hb⟩;replace HO104:=Aside0.mk (Kd.R_below zr hb);have HO108:=Aside0.mk (Kd.R_lower ho0 (below_size za));have HO111:=Aside0.mk (Kd.R_lower ho1 (below_size za));replace HB:=Aside0.mk (below_step za hb);(try clear hb);(try clear hb2);(try clear hk);(try clear hi);(try clear ho0);(try clear ho1))|((with_reducible refine gate_dst (N:=6) rfl ?_);refine box_event ?hg (N:=6) ?hd (cs:=#[.string (⟨#[]⟩:ByteArray),.slice none 0 0,.slice none 0 0]) (t:=50) ?hr ?_;(case hd=>rfl);(case hg=>rfl);(case hr=>exact zy);intro gb112 hg w59 hbox hb;have n0_:=Aside0.mk (Kd.R_below zr hb);have n1_:=Aside0.mk (Kd.R_below zah hb);have n2_:=Aside0.mk (Kd.R_below zam hb);have n3_:=Aside0.mk (below_step za hb);have n4_:=Aside0.mk (hbox);have n5_:=Aside0.mk ((by rw [hg];exact (below_size za):w.heap.size≤gb112));have n6_:=Aside0.mk ((by rw [hg];exact (below_size za):w.heap.size≤gb112));clear HO104;clear HO108;clear HO111;clear HB;have HO104:=n0_;have HO108:=n1_;have HO111:=n2_;have HB:=n3_;have BK112:=n4_;have GW112:=n5_;have GE112:=n6_;clear n0_ n1_ n2_ n3_ n4_ n5_ n6_;clear hb hbox hg;have hcz60_0:w59.cell? ⟨gb112,0,none⟩=some (.string (⟨#[]⟩:ByteArray)):=(blk_cell BK112.out 0).trans rfl;have hcz60_1:w59.cell? ⟨gb112,1,none⟩=some (.slice none 0 0):=(blk_cell BK112.out 1).trans rfl;have hcz60_2:w59.cell? ⟨gb112,2,none⟩=some (.slice none 0 0):=(blk_cell BK112.out 2).trans rfl;have hfz60_0:=blk_frozen BK112.out 0;have hfz60_1:=blk_frozen BK112.out 1;have hfz60_2:=blk_frozen BK112.out 2;obtain ⟨Ao61,co61,eo61⟩:=Kd.R_slice HO108.out;subst eo61;obtain ⟨Ao62,co62,eo62⟩:=Kd.R_slice HO111.out;subst eo62)|(go_at_call 39;(with_reducible refine (laws_r8At.calls _ _ l1 0 4 t113 _ ?side1 ?side2 A7.out).mono ?_);(case side1=>exact Kd.C_below HR1.out zh);(case side2=>exact HC1.out);rintro e w' ⟨rfl,⟨nd,rfl⟩⟩;(try first|exact ⟨rfl,_,World.drewN_drewN _ _ _⟩|exact ⟨rfl,_,Eq.trans (World.drewN_drewN _ _ _) (congrArg (World.drewN _) (Nat.add_assoc _ _ _))⟩);obtain ⟨Ao63,co63,eo63⟩:=Kd.R_slice HO104.out;subst eo63)|(go_at_call 40;(with_reducible refine (impl_NotateBars.calls k _ _ t102 t105 _ _ t106 _ _ t109 (wrap64 (1+t113)) t114 t115 _ ?side7 ?side1 ?side2 ?side3 ?side4 ?side5 ?side6 A8.out).mono ?_);(case side1=>refine (Kd.R_reads' (e:=67) (base:=w.heap.size) (ok:=fun k_=>True) (n:=t102.length) (c:=co63) ?_).2.2;exact zad);(case side2=>exact zdi);(case side3=>refine (Kd.R_reads' (e:=2) (base:=w.heap.size) (ok:=fun k_=>some k_≠(.slice Ao62 t109.length co62:Value).ownBlock) (n:=t106.length) (c:=co61) ?_).2.2;exact zae);(case side4=>exact zdu);(case side5=>refine (Kd.R_reads' (e:=2) (base:=w.heap.size) (ok:=fun k_=>some k_≠(.slice Ao61 t106.length co61:Value).ownBlock) (n:=t109.length) (c:=co62) ?_).2.2;exact zaf);(case side6=>exact zdv);(case side7=>exact Door2.one (Door2.at HD.out zh));rintro e w64 ⟨rfl,hb⟩;replace HO104:=Aside0.mk (Kd.R_below zad hb);replace HO108:=Aside0.mk (Kd.R_below zae hb);replace HO111:=Aside0.mk (Kd.R_below zaf hb);replace BK112:=Aside0.mk (blk_below (g:=gb112) (o:=.cells #[.string t105,.slice Ao61 t106.length co61,.slice Ao62 t109.length co62] 50 (0,0)) zap hb);replace HB:=Aside0.mk (below_step zh hb);(try clear hb);(try clear hb2);(try clear hk);(try clear hi))))
   go_ret
   exact ⟨zi,zh⟩
end Go.Proofs.YtmoamoopoifnlaaGreatDoor.P

namespace Go.Proofs.YtmoamoopoifnlaaGreatDoorO
open Go.RowKit Go.WideShapes Go.Proofs.YtmoamoopoifnlaaGreatDoorW.PrintWords
set_option linter.unusedVariables false
set_option linter.unusedSimpArgs false

theorem addr_add_add (a : Addr) (m i : Nat) : (a.add m).add i = a.add (m + i) := by
  unfold Addr.add
  by_cases h1 : m = 0
  · subst h1; simp
  · by_cases h2 : i = 0
    · subst h2; simp [h1]
    · have h3 : ¬ (m + i = 0) := by omega
      simp [h1, h2, Nat.add_assoc]

/-- Whatever the claim reads at this type is a value of this kind, of which G holds. -/
def Opens {α : Type} (P : Program) (t : TypeId) (d : Kd α) (G : α → Prop) : Prop :=
  ∀ (H : Type) (enc : TypeId × Value → H) (w : World) (base : Nat) (spare : Nat → Bool) (held : Bool) (fuel : Nat) (cs : List Value) (x : DataW H × List MemPlace),
    DataW.trod enc P w base spare held fuel t cs = some x → ∃ a : α, d.K w a cs ∧ G a

section
variable {α β : Type} {P : Program} {t e : TypeId} {d : Kd α} {G : α → Prop}

theorem opens_int {k : IntKind} (ht : P.underlying t = some (.int k)) : Opens P t (Kd.int k) (fun n => (Lit.int k n).wf = true) := by
  intro H enc w base spare held fuel cs x h
  obtain ⟨n, rfl, _, hw⟩ := DataW.trod_int ht h
  exact ⟨n, rfl, hw⟩
theorem list_of_each {p : Nat → α → Prop} : ∀ n : Nat, (∀ i, i < n → ∃ a, p i a) → ∃ l : List α, l.length = n ∧ ∀ i a, l[i]? = some a → p i a
  | 0, _ => ⟨[], rfl, fun i a h => by simp at h⟩
  | n + 1, h => by
    obtain ⟨l, hl, hp⟩ := list_of_each n (fun i hi => h i (by omega))
    obtain ⟨a, ha⟩ := h n (by omega)
    refine ⟨l ++ [a], by simp [hl], fun i b hb => ?_⟩
    by_cases hi : i < l.length
    · rw [List.getElem?_append_left hi] at hb
      exact hp i b hb
    · rw [List.getElem?_append_right (by omega)] at hb
      have h0 : i - l.length = 0 := by
        have := (List.getElem?_eq_some_iff.1 hb).1
        simp at this
        omega
      rw [h0] at hb
      have hi2 : i = n := by omega
      subst hi2
      simp at hb
      subst hb
      exact ha

theorem opens_slice (ht : P.underlying t = some (.slice e)) (hc : P.cellsOf e = d.sz) (hd : Opens P e d G) : Opens P t (Kd.slice e d) (fun l => l.length ≤ maxLen ∧ ∀ x ∈ l, G x) := by
  intro H enc w base spare held fuel cs x h
  rcases DataW.trod_slice ht h with ⟨rfl, _⟩ | ⟨a, len, cap, elems, rest, n, _, rfl, _, hb, hl, hm, hlen, hel, _, _⟩
  · exact ⟨[], ⟨none, 0, rfl, Nat.le_refl _, rfl, by simp, fun hp => by simp at hp⟩, by simp, by simp⟩
  · have each : ∀ i, i < len → ∃ x : α, G x ∧ ∃ c, c.length = d.sz ∧ d.K w x c ∧ ∀ j u, c[j]? = some u → w.cell? (a.add (i * d.sz + j)) = some u := by
      intro i hi
      have h1 := hel i hi
      have h2 : ∃ y, elems[i]? = some y := ⟨elems[i]'(by omega), List.getElem?_eq_getElem (by omega)⟩
      obtain ⟨y, hy⟩ := h2
      rw [hy, Option.bind_eq_some_iff] at h1
      obtain ⟨c, hcs, hy'⟩ := h1
      obtain ⟨x, hK, hG⟩ := hd H enc w base spare held n c y hy'
      refine ⟨x, hG, c, d.K_len hK, hK, fun j u hu => ?_⟩
      have hx := World.cells?_some hcs
      have hj : j < P.cellsOf e := by
        have := (List.getElem?_eq_some_iff.1 hu).1
        have := hx.2.1
        omega
      have hz := hx.2.2 j hj
      rw [addr_add_add, hc, hu] at hz
      exact hz
    obtain ⟨l, hll, hp⟩ := list_of_each len each
    refine ⟨l, ⟨some a, cap, by rw [hll], by omega, rfl, by simp only [maxLen] at hm; omega, fun _ => ⟨a, rfl, fun j p hj => ?_⟩⟩, by simp only [maxLen] at hm ⊢; omega, fun x hx => ?_⟩
    · exact (hp j p hj).2
    · obtain ⟨i, hi, hi2⟩ := List.getElem_of_mem hx
      exact (hp i x (by rw [List.getElem?_eq_getElem hi, hi2])).1

end
end Go.Proofs.YtmoamoopoifnlaaGreatDoorO

namespace Go.Proofs.YtmoamoopoifnlaaGreatDoorL
open Go.RowKit Go.Proofs.YtmoamoopoifnlaaGreatDoorW.PrintWords
set_option linter.unusedVariables false
set_option linter.unusedSimpArgs false

theorem wrap_id {x : Int} (h0 : -9223372036854775808 ≤ x) (h1 : x ≤ 9223372036854775807) : wrap64 x = x := by unfold wrap64; omega
theorem wrap_succ {i n : Nat} (h : i < n) (hn : n ≤ 4611686018427387904) : wrap64 ((i : Int) + 1) = ((i + 1 : Nat) : Int) := by
  rw [wrap_id (by omega) (by omega)]; omega
theorem lt_cast {i n : Nat} (h : i < n) : (i : Int) < (n : Int) := by omega
theorem nn_cast (i : Nat) : 0 ≤ (i : Int) := by omega
theorem nlt_cast (n : Nat) : ¬ ((n : Int) < (n : Int)) := by omega
theorem drop_cons {α : Type} {l : List α} {i : Nat} (h : i < l.length) : l.drop i = l[i] :: l.drop (i + 1) := List.drop_eq_getElem_cons h

/-- A loop over a list: at each element it answers, or it goes on behind it. G: what it answers from a rest on. -/
theorem list_loop {α σ ρ : Type} (L : Nat → σ → Int → Option ρ) (l : List α) (G : List α → σ → ρ) (Inv : Nat → σ → Prop) (B : Nat)
    (step : ∀ (k i : Nat) (hi : i < l.length) (s : σ), Inv i s → B ≤ k →
      L (k + 1) s (i : Int) = some (G (l[i] :: l.drop (i + 1)) s) ∨ ∃ s', Inv (i + 1) s' ∧ G (l[i] :: l.drop (i + 1)) s = G (l.drop (i + 1)) s' ∧ L (k + 1) s (i : Int) = L k s' ((i + 1 : Nat) : Int))
    (stop : ∀ (k : Nat) (s : σ), Inv l.length s → L (k + 1) s (l.length : Int) = some (G [] s)) :
    ∀ (k : Nat) (s : σ), B + l.length < k → Inv 0 s → L k s 0 = some (G l s) := by
  have main : ∀ (d k i : Nat) (s : σ), i + d = l.length → B + d < k → Inv i s → L k s (i : Int) = some (G (l.drop i) s) := by
    intro d
    induction d with
    | zero =>
      intro k i s hi hk hI
      obtain ⟨k, rfl⟩ : ∃ m, k = m + 1 := ⟨k - 1, by omega⟩
      have : i = l.length := by omega
      subst this
      rw [stop k s hI, List.drop_length]
    | succ d ih =>
      intro k i s hi hk hI
      obtain ⟨k, rfl⟩ : ∃ m, k = m + 1 := ⟨k - 1, by omega⟩
      have hlt : i < l.length := by omega
      rw [drop_cons hlt]
      rcases step k i hlt s hI (by omega) with h | ⟨s', hI', hG, hL⟩
      · exact h
      · rw [hL, hG]
        exact ih k (i + 1) s' (by omega) (by omega) hI'
  intro k s hk hI
  have := main l.length k 0 s (by omega) hk hI
  simpa using this

/-- The same without a state. -/
theorem list_loop0 {α ρ : Type} (L : Nat → Int → Option ρ) (l : List α) (G : List α → ρ) (B : Nat)
    (step : ∀ (k i : Nat) (hi : i < l.length), B ≤ k →
      L (k + 1) (i : Int) = some (G (l[i] :: l.drop (i + 1))) ∨ (G (l[i] :: l.drop (i + 1)) = G (l.drop (i + 1)) ∧ L (k + 1) (i : Int) = L k ((i + 1 : Nat) : Int)))
    (stop : ∀ (k : Nat), L (k + 1) (l.length : Int) = some (G [])) :
    ∀ (k : Nat), B + l.length < k → L k 0 = some (G l) := by
  intro k hk
  exact list_loop (σ := Unit) (fun k _ i => L k i) l (fun l _ => G l) (fun _ _ => True) B (fun k i hi s _ hB => by
    rcases step k i hi hB with h | ⟨h1, h2⟩
    · exact .inl h
    · exact .inr ⟨(), trivial, h1, h2⟩) (fun k _ _ => stop k) k () hk trivial

/-- A loop that asks each index below n and stops at the first that says no. -/
theorem all_loop (L : Nat → Int → Option Bool) (n : Nat) (p : Nat → Bool) (fin : Bool) (B : Nat)
    (step : ∀ (k i : Nat), i < n → B ≤ k → L (k + 1) (i : Int) = if p i = true then L k ((i + 1 : Nat) : Int) else some false)
    (stop : ∀ (k : Nat), B ≤ k → L (k + 1) (n : Int) = some fin) :
    ∀ (k : Nat), B + n < k → L k 0 = some ((List.range n).all p && fin) := by
  have main : ∀ (d k i : Nat), i + d = n → B + d < k → L k (i : Int) = some ((List.range' i d).all p && fin) := by
    intro d
    induction d with
    | zero =>
      intro k i hi hk
      obtain ⟨k, rfl⟩ : ∃ m, k = m + 1 := ⟨k - 1, by omega⟩
      obtain rfl : i = n := by omega
      rw [stop k (by omega)]; simp
    | succ d ih =>
      intro k i hi hk
      obtain ⟨k, rfl⟩ : ∃ m, k = m + 1 := ⟨k - 1, by omega⟩
      rw [step k i (by omega) (by omega), List.range'_succ, List.all_cons]
      by_cases h : p i = true
      · rw [if_pos h, ih k (i + 1) (by omega) (by omega), h]; simp
      · rw [if_neg h]; simp [h]
  intro k hk
  have := main n k 0 (by omega) hk
  rw [List.range_eq_range']
  exact this

theorem rd_get {l : List Int} {i : Nat} (h : i < l.length) : rd l (i : Int) = l[i] := by
  simp [rd, List.getD_eq_getElem?_getD, List.getElem?_eq_getElem h]
theorem rdOf_get {α : Type} {z : α} {l : List α} {i : Nat} (h : i < l.length) : rdOf z l (i : Int) = l[i] := by
  simp [rdOf, List.getD_eq_getElem?_getD, List.getElem?_eq_getElem h]

theorem bytes_eq {a b : ByteArray} : a.toList = b.toList ↔ a = b := by
  constructor
  · intro h
    have h2 : a.data.toList = b.data.toList := by
      have e : ∀ x : ByteArray, x.toList = x.data.toList := ByteArray.toList_eq
      rw [← e, ← e]; exact h
    cases a; cases b
    simp at h2
    rw [h2]
  · intro h; rw [h]
end Go.Proofs.YtmoamoopoifnlaaGreatDoorL

namespace Go.Proofs.YtmoamoopoifnlaaGreatDoor.P
open Go.RowKit Go.Proofs.YtmoamoopoifnlaaGreatDoorW.PrintWords Go.Proofs.YtmoamoopoifnlaaGreatDoorL
set_option linter.unusedVariables false
set_option linter.unusedSimpArgs false
def Bts (l : List Int) : Prop := ∀ y ∈ l, 0 ≤ y ∧ y ≤ 255
theorem and_bound (x : Int) : 0 ≤ wrap64 (Go.bits .and .u64 (IntKind.u64.wrap x / 1099511627776) 255) ∧ wrap64 (Go.bits .and .u64 (IntKind.u64.wrap x / 1099511627776) 255) ≤ 255 := by
  rw [IntKind.wrap_u64]
  obtain ⟨n, hn⟩ : ∃ n : Nat, (x % 18446744073709551616) / 1099511627776 = (n : Int) := ⟨((x % 18446744073709551616) / 1099511627776).toNat, by omega⟩
  rw [hn, show (255 : Int) = ((255 : Nat) : Int) from rfl, u64_and_nat n 255 (by omega) (by omega)]
  have h : n &&& 255 ≤ 255 := Nat.and_le_right
  rw [wrap_id (by omega) (by omega)]
  omega
/-- A drawer's answer: within P, and the place has not run far. -/
def Dr {α : Type} (r : Option (α × Int × Int)) (P : α → Prop) (B : Int) : Prop := ∃ v i s, r = some (v, i, s) ∧ P v ∧ 0 ≤ i ∧ i ≤ B
theorem next_ok {l : List Int} (hl : Bts l) {i : Int} (s : Int) {B : Int} (h0 : 0 ≤ i) (h1 : i ≤ B) (hB : B ≤ 4000000000) : Dr (spec_l00Src_next.f l i s) (fun v => 0 ≤ v ∧ v ≤ 255) (B + 1) := by
  unfold spec_l00Src_next.f
  rw [wrap_id (x := i + 1) (by omega) (by omega)]
  by_cases h : i < (l.length : Int)
  · obtain ⟨n, rfl⟩ : ∃ n : Nat, i = (n : Int) := ⟨i.toNat, by omega⟩
    have hlt : n < l.length := by omega
    have hb := hl l[n] (List.getElem_mem hlt)
    rw [if_pos h, if_pos h0, if_pos (by omega), rd_get hlt, wrap_id (x := l[n]) (by omega) (by omega)]
    exact ⟨_, _, _, rfl, hb, by omega, by omega⟩
  · rw [if_neg h, if_neg (by omega)]
    exact ⟨_, _, _, rfl, and_bound _, by omega, by omega⟩
theorem pick_ok {l : List Int} (hl : Bts l) {i : Int} (s : Int) {B : Int} (h0 : 0 ≤ i) (h1 : i ≤ B) (hB : B ≤ 4000000000) {n : Int} (n0 : 1 ≤ n) (n1 : n ≤ 200) : Dr (spec_l00Src_pick.f l i s n) (fun v => 0 ≤ v ∧ v < n) (B + 1) := by
  unfold spec_l00Src_pick.f
  by_cases h : n ≤ 1
  · rw [if_pos h]; exact ⟨_, _, _, rfl, by omega, h0, by omega⟩
  rw [if_neg h]
  obtain ⟨v, j, t, e, ⟨v0, v1⟩, j0, j1⟩ := next_ok hl s h0 h1 hB
  rw [e]; simp only [Option.bind_some]
  rw [if_neg (by omega), if_neg (by omega)]
  refine ⟨_, _, _, rfl, ⟨?_, ?_⟩, j0, j1⟩
  · rw [Int.tmod_eq_emod_of_nonneg v0]; exact Int.emod_nonneg _ (by omega)
  · rw [Int.tmod_eq_emod_of_nonneg v0]; exact Int.emod_lt_of_pos _ (by omega)
theorem among_ok {l : List Int} (hl : Bts l) {i : Int} (s : Int) {B : Int} (h0 : 0 ≤ i) (h1 : i ≤ B) (hB : B ≤ 4000000000) {c : List Int} (n0 : 1 ≤ c.length) (n1 : c.length ≤ 200) : Dr (spec_l00Src_among.f l i s c) (fun v => v ∈ c) (B + 1) := by
  unfold spec_l00Src_among.f
  obtain ⟨v, j, t, e, ⟨v0, v1⟩, j0, j1⟩ := pick_ok hl s h0 h1 hB (n := (c.length : Int)) (by omega) (by omega)
  rw [e]; simp only [Option.bind_some]
  rw [if_pos v0, if_pos v1]
  obtain ⟨m, rfl⟩ : ∃ m : Nat, v = (m : Int) := ⟨v.toNat, by omega⟩
  have hm : m < c.length := by omega
  refine ⟨_, _, _, rfl, ?_, j0, j1⟩
  rw [rd_get hm]; exact List.getElem_mem hm
/-- A drawn note: valid, and short. -/
def smallN (x : S67) : Prop := (-12 ≤ x.f0 ∧ x.f0 ≤ 23) ∧ 1 ≤ x.f1 ∧ x.f1 ≤ 6
theorem Draw_l0 {l : List Int} (hl : Bts l) : ∀ (n K : Nat) (acc : List S67) (p i s B : Int), n < K → acc.length + n ≤ 1000 → -12 ≤ p → p ≤ 23 → 0 ≤ i → i ≤ B → B + 2 * n ≤ 1000000 → (∀ x ∈ acc, smallN x) → Dr (spec_l09Draw.l0 K acc p (n : Int) l i s) (fun m => m.length ≤ acc.length + n ∧ ∀ x ∈ m, smallN x) (B + 2 * n) := by
  intro n
  induction n with
  | zero =>
    intro K acc p i s B hK _ _ _ h0 h1 hB hs
    obtain ⟨K, rfl⟩ : ∃ m, K = m + 1 := ⟨K - 1, by omega⟩
    simp only [spec_l09Draw.l0]
    rw [if_neg (by omega)]
    exact ⟨_, _, _, rfl, ⟨by omega, hs⟩, h0, by omega⟩
  | succ n ih =>
    intro K acc p i s B hK ha p0 p1 h0 h1 hB hs
    obtain ⟨K, rfl⟩ : ∃ m, K = m + 1 := ⟨K - 1, by omega⟩
    simp only [spec_l09Draw.l0]
    rw [if_pos (by omega)]
    obtain ⟨v, j, t, e, ⟨v0, v1⟩, j0, j1⟩ := pick_ok hl s h0 h1 (by omega) (n := 9) (by decide) (by decide)
    rw [e]; simp only [Option.bind_some]
    rw [wrap_id (x := p + v) (by omega) (by omega), wrap_id (x := p + v - 4) (by omega) (by omega)]
    obtain ⟨q, hq, q0, q1⟩ : ∃ q, ((spec_l00Min.f 23 (p + v - 4)).bind fun t113 => spec_l00Max.f (-12) t113) = some q ∧ -12 ≤ q ∧ q ≤ 23 := by
      unfold spec_l00Min.f spec_l00Max.f
      by_cases c1 : 23 < p + v - 4
      · rw [if_pos c1]; simp only [Option.bind_some]
        rw [if_neg (by decide)]; exact ⟨_, rfl, by omega, by omega⟩
      · rw [if_neg c1]; simp only [Option.bind_some]
        by_cases c2 : -12 > p + v - 4
        · rw [if_pos c2]; exact ⟨_, rfl, by omega, by omega⟩
        · rw [if_neg c2]; exact ⟨_, rfl, by omega, by omega⟩
    obtain ⟨t113, e113, e114⟩ := Option.bind_eq_some_iff.1 hq
    rw [e113]; simp only [Option.bind_some]
    rw [e114]; simp only [Option.bind_some]
    obtain ⟨v2, j2, t2, e2, hv2, j20, j21⟩ := among_ok hl t j0 j1 (by omega) (c := [1, 1, 2, 2, 3, 4, 6]) (by decide) (by decide)
    rw [e2]; simp only [Option.bind_some]
    rw [if_pos (by omega), show wrap64 (((n + 1 : Nat) : Int) - 1) = (n : Int) by rw [wrap_id (by omega) (by omega)]; omega]
    have hv : 1 ≤ v2 ∧ v2 ≤ 6 := by
      simp only [List.mem_cons, List.not_mem_nil, or_false] at hv2
      omega
    obtain ⟨m, j3, t3, e3, ⟨hm, hm2⟩, j30, j31⟩ := ih K (acc ++ [⟨q, v2⟩]) q j2 t2 (B + 1 + 1) (by omega) (by rw [List.length_append]; simp; omega) q0 q1 j20 j21 (by omega) (fun x hx => by
      rcases List.mem_append.1 hx with hx | hx
      · exact hs x hx
      · rw [List.mem_singleton] at hx; subst hx; exact ⟨⟨q0, q1⟩, hv⟩)
    rw [List.length_append] at hm
    exact ⟨m, j3, t3, e3, ⟨by simp at hm; omega, hm2⟩, j30, by omega⟩
theorem l09Draw_ok {l : List Int} (hl : Bts l) {i : Int} (s : Int) {B : Int} (h0 : 0 ≤ i) (h1 : i ≤ B) (hB : B ≤ 100) {K : Nat} (hK : 100 ≤ K) : Dr (spec_l09Draw.f K l i s) (fun m => m.length ≤ 10 ∧ ∀ x ∈ m, smallN x) (B + 30) := by
  unfold spec_l09Draw.f
  obtain ⟨v, j, t, e, ⟨v0, v1⟩, j0, j1⟩ := pick_ok hl s h0 h1 (by omega) (n := 12) (by decide) (by decide)
  rw [e]; simp only [Option.bind_some]
  obtain ⟨v2, j2, t2, e2, ⟨v20, v21⟩, j20, j21⟩ := pick_ok hl t j0 j1 (by omega) (n := 10) (by decide) (by decide)
  rw [e2]; simp only [Option.bind_some]
  obtain ⟨n, rfl⟩ : ∃ n : Nat, v2 = (n : Int) := ⟨v2.toNat, by omega⟩
  obtain ⟨m, j3, t3, e3, ⟨hm, hm2⟩, j30, j31⟩ := Draw_l0 hl n K [] v j2 t2 (B + 1 + 1) (by omega) (by simp; omega) (by omega) (by omega) j20 j21 (by omega) (fun x hx => by cases hx)
  exact ⟨m, j3, t3, e3, ⟨by simp at hm; omega, hm2⟩, j30, by omega⟩
end Go.Proofs.YtmoamoopoifnlaaGreatDoor.P

namespace Go.Proofs.YtmoamoopoifnlaaGreatDoor.P
open Go.RowKit Go.Proofs.YtmoamoopoifnlaaGreatDoorW.PrintWords Go.Proofs.YtmoamoopoifnlaaGreatDoorW.PrintLast Go.Proofs.YtmoamoopoifnlaaGreatDoorW.PrintMore
attribute [local go_sem] max2_int min2_int max_two min_two max_three min_three max_four min_four str_leq str_gtr str_geq
set_option linter.unusedVariables false
set_option linter.unusedSimpArgs false
def spec_l26Pitch.M:List ByteArray:=[⟨#[49]⟩,⟨#[50,98]⟩,⟨#[50]⟩,⟨#[51,98]⟩,⟨#[51]⟩,⟨#[52]⟩,⟨#[52,35]⟩,⟨#[53]⟩,⟨#[54,98]⟩,⟨#[54]⟩,⟨#[55,98]⟩,⟨#[55]⟩]
def spec_l26Pitch.at_ (l:List ByteArray) (t:Int):ByteArray:=l.getD t.toNat ByteArray.empty
theorem spec_l26Pitch.cell {W:World} {g:Nat} {t:TypeId} {L:List ByteArray} (h:W.heap[g]?=some (.cells (L.map Value.string).toArray t (0,0))) {j:Nat} (hj:j<L.length):W.cell? ⟨g,j,none⟩=some (.string (L.getD j ByteArray.empty)):=by
 rw [blk_cell h j,List.getElem?_toArray,List.getElem?_map,List.getElem?_eq_getElem hj,List.getD_eq_getElem?_getD,List.getElem?_eq_getElem hj]
 rfl

def impl_pitchIn.L:List ByteArray:=[⟨#[67]⟩,⟨#[68,98]⟩,⟨#[68]⟩,⟨#[69,98]⟩,⟨#[69]⟩,⟨#[70]⟩,⟨#[71,98]⟩,⟨#[71]⟩,⟨#[65,98]⟩,⟨#[65]⟩,⟨#[66,98]⟩,⟨#[66]⟩]
def impl_pitchIn.M:List ByteArray:=[⟨#[49]⟩,⟨#[50,98]⟩,⟨#[50]⟩,⟨#[51,98]⟩,⟨#[51]⟩,⟨#[52]⟩,⟨#[52,35]⟩,⟨#[53]⟩,⟨#[54,98]⟩,⟨#[54]⟩,⟨#[55,98]⟩,⟨#[55]⟩]
def impl_pitchIn.at_ (l:List ByteArray) (t:Int):ByteArray:=l.getD t.toNat ByteArray.empty
def impl_pitchIn.o3 (m:ByteArray) (o:Int):Option ByteArray:=if o = -1 then some ((⟨#[95]⟩:ByteArray)++m) else if o=0 then some ((⟨#[]⟩:ByteArray)++m) else if o=1 then some ((⟨#[94]⟩:ByteArray)++m) else none
def impl_pitchIn.f (s k p:Int):Option ByteArray:=
 if s=2 then (impl_ToneOf.f (wrap64 (p+k))).bind fun t=>(impl_octaveOf.f (wrap64 (p+k))).bind fun o=>(impl_Decimal.f (wrap64 (o+4))).bind fun d=>if (0≤t∧t<12)∧(impl_pitchIn.at_ impl_pitchIn.L t).size+d.size≤9223372036854775807 then some (impl_pitchIn.at_ impl_pitchIn.L t++d) else none
 else if s=3 then (impl_octaveOf.f p).bind fun o=>(impl_ToneOf.f p).bind fun t=>if (0≤t∧t<12)∧1+(impl_pitchIn.at_ impl_pitchIn.M t).size≤9223372036854775807 then impl_pitchIn.o3 (impl_pitchIn.at_ impl_pitchIn.M t) o else none
 else if s=4 then impl_Decimal.f (wrap64 (wrap64 (p+k)+60))
 else impl_pitchText.f p
theorem impl_pitchIn.cell {W:World} {g:Nat} {t:TypeId} {L:List ByteArray} (h:W.heap[g]?=some (.cells (L.map Value.string).toArray t (0,0))) {j:Nat} (hj:j<L.length):W.cell? ⟨g,j,none⟩=some (.string (L.getD j ByteArray.empty)):=by
 rw [blk_cell h j,List.getElem?_toArray,List.getElem?_map,List.getElem?_eq_getElem hj,List.getD_eq_getElem?_getD,List.getElem?_eq_getElem hj]
 rfl
set_option maxHeartbeats 3200000 in
set_option maxRecDepth 100000 in
theorem impl_pitchIn.c0 (s k p:Int) (r:ByteArray) (w:World) (h2:¬ s=2) (h3:¬ s=3) (h4:¬ s=4) (h:impl_pitchText.f p=some r) :
 Calls Tryz.prog 92 #[.int .i64 s,.int .i64 k,.int .i64 p] w fun e w'=>e = .returned (.string r)∧Below w.heap.size w w':=by
 have A1:=Aside0.mk (fun W=>impl_pitchText.calls p r W h)
 have HB:=Aside0.mk (Below.refl w.heap.size w)
 have b2:(s == 2)=false:=beq_eq_false_iff_ne.2 h2
 have b3:(s == 3)=false:=beq_eq_false_iff_ne.2 h3
 have b4:(s == 4)=false:=beq_eq_false_iff_ne.2 h4
 clear h h2 h3 h4
 go_enter Tryz.func92,Tryz.ntmps92
 go_wp2_with (first
  | (go_at_call 125;(with_reducible refine (A1.out _).mono ?_);rintro e w1 ⟨rfl,⟨nd,rfl⟩⟩))
 all_goals go_ret
 all_goals exact ⟨rfl,za⟩
end Go.Proofs.YtmoamoopoifnlaaGreatDoor.P

namespace Go.Proofs.YtmoamoopoifnlaaGreatDoor.P
open Go.RowKit Go.Proofs.YtmoamoopoifnlaaGreatDoorW.PrintWords Go.Proofs.YtmoamoopoifnlaaGreatDoorL
set_option linter.unusedVariables false
set_option linter.unusedSimpArgs false
/-- The digits of a number from behind, as the reference lays them. -/
def rdig (u : Nat) : List Int := if h : u = 0 then [] else (48 + (u % 10 : Nat) : Int) :: rdig (u / 10)
termination_by u
decreasing_by omega
theorem rdig_zero : rdig 0 = [] := by rw [rdig, dif_pos rfl]
theorem rdig_pos {u : Nat} (h : u ≠ 0) : rdig u = (48 + (u % 10 : Nat) : Int) :: rdig (u / 10) := by rw [rdig, dif_neg h]
theorem rdig_dec : ∀ (n u : Nat), u ≤ n → u ≠ 0 → (rdig u).reverse.map (fun z => UInt8.ofNat z.toNat) = Lib.decDigits u := by
  intro n
  induction n with
  | zero => intro u h h0; omega
  | succ n ih =>
    intro u h h0
    rw [rdig_pos h0, List.reverse_cons, List.map_append, Lib.decDigits]
    by_cases h10 : u < 10
    · rw [dif_pos h10, show u / 10 = 0 by omega, rdig_zero]
      have : (48 + ((u % 10 : Nat) : Int)).toNat = 48 + u := by omega
      show [UInt8.ofNat (48 + ((u % 10 : Nat) : Int)).toNat] = _
      rw [this]
    · rw [dif_neg h10, ih (u / 10) (by omega) (by omega)]
      have : (48 + ((u % 10 : Nat) : Int)).toNat = 48 + u % 10 := by omega
      show _ ++ [UInt8.ofNat (48 + ((u % 10 : Nat) : Int)).toNat] = _
      rw [this]
theorem rdig_length : ∀ (n u : Nat), u < 10 ^ n → (rdig u).length ≤ n := by
  intro n
  induction n with
  | zero => intro u h; have : u = 0 := by simpa using h
            subst this; simp [rdig_zero]
  | succ n ih =>
    intro u h
    by_cases h0 : u = 0
    · subst h0; simp [rdig_zero]
    · rw [rdig_pos h0, List.length_cons]
      have := ih (u / 10) (by rw [Nat.pow_succ] at h; omega)
      omega
theorem Decimal_eq {n : Int} (h0 : -9223372036854775808 ≤ n) (h1 : n ≤ 9223372036854775807) : impl_Decimal.f n = some (impl_Decimal.t n) := if_pos ⟨h0, h1⟩
theorem Decimal_size {n : Int} (h0 : -9223372036854775808 ≤ n) (h1 : n ≤ 9223372036854775807) : (impl_Decimal.t n).size ≤ 21 := by
  have hr := rdig_length 20 n.natAbs (by omega)
  have hs : (impl_Decimal.t n).size = (Lib.itoa n).length := by unfold impl_Decimal.t; show (Lib.itoa n).toArray.size = _; simp
  have hd : ∀ u : Nat, u ≠ 0 → u = n.natAbs → (Lib.decDigits u).length ≤ 20 := fun u hu e => by
    rw [← rdig_dec u u (Nat.le_refl _) hu, List.length_map, List.length_reverse, e]; exact hr
  rw [hs]
  unfold Lib.itoa
  by_cases hz : n = 0
  · subst hz
    have : Lib.decDigits (Int.toNat 0) = [48] := Lib.decDigits_one (i := 0) (by decide)
    rw [if_neg (by decide), this]; decide
  · by_cases hx : n < 0
    · rw [if_pos hx, List.length_cons]; have := hd n.natAbs (by omega) rfl; omega
    · rw [if_neg hx]; have := hd n.toNat (by omega) (by omega); omega

theorem in_eq (a b c : Int) : spec_l00In.f a b c = some (decide (b ≤ a) && decide (a ≤ c)) := by
  unfold spec_l00In.f
  by_cases h : a ≥ b
  · rw [if_pos h]; simp [ge_iff_le.1 h]
  · rw [if_neg h]
    have h' : ¬ b ≤ a := h
    simp [h']
theorem within_eq (a b c : Int) : impl_within.f a b c = some (decide (b ≤ a) && decide (a ≤ c)) := by
  unfold impl_within.f
  by_cases h : a ≥ b
  · rw [if_pos h]; simp [ge_iff_le.1 h]
  · rw [if_neg h]
    have h' : ¬ b ≤ a := h
    simp [h']
def keyB (s k : Int) : Bool := (decide (1 ≤ s) && decide (s ≤ 4)) && (decide (0 ≤ k) && decide (k ≤ 11))
theorem keyB_iff {s k : Int} : keyB s k = true ↔ (1 ≤ s ∧ s ≤ 4) ∧ 0 ≤ k ∧ k ≤ 11 := by
  unfold keyB
  rw [Bool.and_eq_true, Bool.and_eq_true, Bool.and_eq_true, decide_eq_true_iff, decide_eq_true_iff, decide_eq_true_iff, decide_eq_true_iff]
theorem tone_eq {q : Int} (h0 : -1000 ≤ q) (h1 : q ≤ 1000) : Int.tmod (wrap64 (Int.tmod q 12 + 12)) 12 = q % 12 := by
  rcases Int.le_total 0 q with h | h
  · have t2 : Int.tmod q 12 = q % 12 := Int.tmod_eq_emod_of_nonneg h
    rw [t2, wrap_id (by omega) (by omega), Int.tmod_eq_emod_of_nonneg (by omega)]; omega
  · obtain ⟨a, ha, rfl⟩ : ∃ a : Int, 0 ≤ a ∧ q = -a := ⟨-q, by omega, by omega⟩
    have t2 : Int.tmod (-a) 12 = -(a % 12) := by rw [Int.neg_tmod, Int.tmod_eq_emod_of_nonneg ha]
    rw [t2, wrap_id (by omega) (by omega), Int.tmod_eq_emod_of_nonneg (by omega)]; omega
theorem ToneOf_eq {q : Int} (h0 : -1000 ≤ q) (h1 : q ≤ 1000) : impl_ToneOf.f q = some (q % 12) := by unfold impl_ToneOf.f; rw [tone_eq h0 h1]
theorem floor_eq {q : Int} (h0 : -1000 ≤ q) (h1 : q ≤ 1000) : wrap64 (Int.tdiv (wrap64 (q - q % 12)) 12) = q / 12 := by
  rw [wrap_id (x := q - q % 12) (by omega) (by omega), show q - q % 12 = 12 * (q / 12) by omega, Int.mul_tdiv_cancel_left _ (by decide), wrap_id (by omega) (by omega)]
theorem octaveOf_eq {q : Int} (h0 : -1000 ≤ q) (h1 : q ≤ 1000) : impl_octaveOf.f q = some (q / 12) := by
  unfold impl_octaveOf.f; rw [ToneOf_eq h0 h1]; simp only [Option.bind_some]; rw [floor_eq h0 h1]
def nameT (t : Int) : ByteArray := (⟨#[83, 114, 82, 103, 71, 109, 77, 80, 100, 68, 110, 78]⟩ : ByteArray).extract t.toNat (wrap64 (t + 1)).toNat
def pt (s k p : Int) : ByteArray :=
  if s = 1 then (if p / 12 < 0 then nameT (p % 12) ++ (⟨#[44]⟩ : ByteArray) else if p / 12 > 0 then nameT (p % 12) ++ (⟨#[39]⟩ : ByteArray) else nameT (p % 12))
  else if s = 2 then impl_pitchIn.at_ impl_pitchIn.L ((p + k) % 12) ++ impl_Decimal.t ((p + k) / 12 + 4)
  else if s = 3 then (if p / 12 < 0 then (⟨#[95]⟩ : ByteArray) ++ impl_pitchIn.at_ impl_pitchIn.M (p % 12) else if p / 12 > 0 then (⟨#[94]⟩ : ByteArray) ++ impl_pitchIn.at_ impl_pitchIn.M (p % 12) else impl_pitchIn.at_ impl_pitchIn.M (p % 12))
  else impl_Decimal.t (p + k + 60)
theorem at_size {l : List ByteArray} (hl : ∀ x ∈ l, x.size ≤ 2) (t : Int) : (impl_pitchIn.at_ l t).size ≤ 2 := by
  unfold impl_pitchIn.at_
  rw [List.getD_eq_getElem?_getD]
  cases h : l[t.toNat]? with
  | none => exact Nat.zero_le _
  | some x => exact hl x (List.mem_of_getElem? h)
theorem L_two : ∀ x ∈ impl_pitchIn.L, x.size ≤ 2 := by decide
theorem M_two : ∀ x ∈ impl_pitchIn.M, x.size ≤ 2 := by decide
theorem nameT_size {t : Int} (h0 : 0 ≤ t) (h1 : t < 12) : (nameT t).size ≤ 1 := by
  unfold nameT
  rw [ByteArray.size_extract, wrap_id (by omega) (by omega)]; omega
theorem pt_size {s k p : Int} (h : keyB s k = true) (h0 : -12 ≤ p) (h1 : p ≤ 23) : (pt s k p).size ≤ 30 := by
  obtain ⟨⟨a1, a2⟩, b1, b2⟩ := keyB_iff.1 h
  have z1 : (⟨#[44]⟩ : ByteArray).size = 1 := rfl
  have z2 : (⟨#[39]⟩ : ByteArray).size = 1 := rfl
  have z3 : (⟨#[95]⟩ : ByteArray).size = 1 := rfl
  have z4 : (⟨#[94]⟩ : ByteArray).size = 1 := rfl
  have n1 := nameT_size (t := p % 12) (by omega) (by omega)
  have n2 := at_size L_two ((p + k) % 12)
  have n3 := at_size M_two (p % 12)
  have n4 := Decimal_size (n := (p + k) / 12 + 4) (by omega) (by omega)
  have n5 := Decimal_size (n := p + k + 60) (by omega) (by omega)
  unfold pt
  repeat' split
  all_goals (try simp only [ByteArray.size_append])
  all_goals omega
theorem ba_nil (n : ByteArray) : n ++ (⟨#[]⟩ : ByteArray) = n := ByteArray.append_empty
theorem ba_nil' (n : ByteArray) : (⟨#[]⟩ : ByteArray) ++ n = n := ByteArray.empty_append
theorem ToneName_eq {t : Int} (h0 : 0 ≤ t) (h1 : t < 12) : impl_ToneName.f t = some (nameT t) := by
  unfold impl_ToneName.f impl_toneOk.f nameT
  rw [within_eq, decide_eq_true h0, decide_eq_true (by omega : t ≤ 11)]
  simp only [Option.bind_some, Bool.and_true, if_true]
  rw [if_pos h0, wrap_id (by omega) (by omega), if_pos (by omega), if_pos (by omega)]
theorem pitchIn_eq {s k p : Int} (h : keyB s k = true) (h0 : -12 ≤ p) (h1 : p ≤ 23) : impl_pitchIn.f s k p = some (pt s k p) := by
  obtain ⟨⟨a1, a2⟩, b1, b2⟩ := keyB_iff.1 h
  unfold impl_pitchIn.f pt
  by_cases s2 : s = 2
  · subst s2
    have n2 := at_size L_two ((p + k) % 12)
    have n4 := Decimal_size (n := (p + k) / 12 + 4) (by omega) (by omega)
    rw [if_pos rfl, if_neg (by decide), if_pos rfl, wrap_id (x := p + k) (by omega) (by omega), ToneOf_eq (by omega) (by omega), octaveOf_eq (by omega) (by omega)]
    simp only [Option.bind_some]
    rw [wrap_id (by omega) (by omega), Decimal_eq (by omega) (by omega)]
    simp only [Option.bind_some]
    rw [if_pos ⟨by omega, by omega⟩]
  rw [if_neg s2]
  by_cases s3 : s = 3
  · subst s3
    have n3 := at_size M_two (p % 12)
    rw [if_pos rfl, if_neg (by decide), if_neg (by decide), if_pos rfl, octaveOf_eq (by omega) (by omega), ToneOf_eq (by omega) (by omega)]
    simp only [Option.bind_some]
    rw [if_pos ⟨by omega, by omega⟩]
    unfold impl_pitchIn.o3
    by_cases o1 : p / 12 = -1
    · rw [if_pos o1, if_pos (by omega)]
    rw [if_neg o1]
    by_cases o2 : p / 12 = 0
    · rw [if_pos o2, if_neg (by omega), if_neg (by omega), ba_nil']
    · rw [if_neg o2, if_pos (by omega), if_neg (by omega), if_pos (by omega)]
  rw [if_neg s3]
  by_cases s4 : s = 4
  · subst s4
    rw [if_pos rfl, if_neg (by decide), if_neg (by decide), if_neg (by decide), wrap_id (x := p + k) (by omega) (by omega), wrap_id (by omega) (by omega), Decimal_eq (by omega) (by omega)]
  rw [if_neg s4]
  obtain rfl : s = 1 := by omega
  have n1 := nameT_size (t := p % 12) (by omega) (by omega)
  unfold impl_pitchText.f
  rw [if_pos rfl, ToneOf_eq (by omega) (by omega)]
  simp only [Option.bind_some]
  rw [ToneName_eq (by omega) (by omega)]
  simp only [Option.bind_some]
  rw [octaveOf_eq (by omega) (by omega)]
  simp only [Option.bind_some]
  rw [if_pos (by omega)]
  by_cases o1 : p / 12 = -1
  · rw [if_pos o1, if_pos (by omega)]
  rw [if_neg o1]
  by_cases o2 : p / 12 = 0
  · rw [if_pos o2, if_neg (by omega), if_neg (by omega), ba_nil]
  · rw [if_neg o2, if_pos (by omega), if_neg (by omega), if_pos (by omega)]

def nameByte (c : Int) : Bool := (decide (97 ≤ c) && decide (c ≤ 122)) || (decide (48 ≤ c) && decide (c ≤ 57))
def nameB (s : ByteArray) : Bool := decide (1 ≤ s.size) && decide (s.size ≤ 10) && (decide (97 ≤ bt s 0) && decide (bt s 0 ≤ 122)) && (List.range s.size).all fun i => nameByte (bt s (i : Int))
theorem size_zero {s : ByteArray} : s.toList = ([] : List UInt8) ↔ s.size = 0 := by
  rw [ByteArray.toList_eq]
  constructor
  · intro h; have := congrArg List.length h; simpa using this
  · intro h
    apply List.eq_nil_of_length_eq_zero
    simpa using h
theorem l01Name_eq (s : ByteArray) {k : Nat} (hk : 20 ≤ k) : spec_l01Name.f k s = some (nameB s) := by
  obtain ⟨k, rfl⟩ : ∃ m, k = m + 1 := ⟨k - 1, by omega⟩
  unfold spec_l01Name.f nameB
  by_cases h0 : s.size = 0
  · rw [if_pos (size_zero.2 h0)]; simp [spec_l01Name.j0, h0]
  rw [if_neg (fun e => h0 (size_zero.1 e))]
  by_cases h1 : (s.size : Int) > 10
  · rw [if_pos h1]
    have : ¬ s.size ≤ 10 := by omega
    simp [spec_l01Name.j0, this]
  rw [if_neg h1, if_pos (by omega)]
  unfold spec_l01Small.f
  have h1' : s.size ≤ 10 := by omega
  have h0' : 1 ≤ s.size := by omega
  by_cases h2 : bt s 0 ≥ 97
  · rw [if_pos h2]; simp only [Option.bind_some, spec_l01Name.j0]
    by_cases h3 : bt s 0 ≤ 122
    · rw [if_neg (by simp [h3])]
      rw [all_loop (fun k i => spec_l01Name.l0 k s i) s.size (fun i => nameByte (bt s (i : Int))) true 1 (fun k i hi hB => ?_) (fun k _ => ?_) k (by omega)]
      · simp [h1', h0', h3, ge_iff_le.1 h2]
      · obtain ⟨k, rfl⟩ : ∃ m, k = m + 1 := ⟨k - 1, by omega⟩
        show spec_l01Name.l0 (k + 1 + 1) s (i : Int) = _
        rw [spec_l01Name.l0]
        rw [if_pos (by omega), if_pos (nn_cast i), wrap_succ hi (by omega)]
        unfold spec_l01Small.f spec_l01Digit.f nameByte
        by_cases e1 : bt s (i : Int) ≥ 97
        · rw [if_pos e1]
          by_cases e2 : bt s (i : Int) ≤ 122
          · simp [e2, ge_iff_le.1 e1]
          · have e3 : bt s (i : Int) ≥ 48 := by omega
            have e4 : ¬ bt s (i : Int) ≤ 57 := by omega
            simp [e2, e4, ge_iff_le.1 e3]
        · rw [if_neg e1]
          have e1' : ¬ 97 ≤ bt s (i : Int) := e1
          by_cases e2 : bt s (i : Int) ≥ 48
          · rw [if_pos e2]
            by_cases e3 : bt s (i : Int) ≤ 57
            · simp [e3, ge_iff_le.1 e2]
            · simp [e3, e1']
          · rw [if_neg e2]
            have e2' : ¬ 48 ≤ bt s (i : Int) := e2
            simp [e1', e2']
      · show spec_l01Name.l0 (_ + 1) s (s.size : Int) = _
        rw [spec_l01Name.l0, if_neg (nlt_cast _)]
    · rw [if_pos (by simp [h3])]; simp [h3]
  · rw [if_neg h2]; simp only [Option.bind_some, spec_l01Name.j0]
    have h2' : ¬ 97 ≤ bt s 0 := h2
    rw [if_pos (by rfl)]; simp [h2']

theorem IsName_eq (s : ByteArray) {k : Nat} (hk : 20 ≤ k) : impl_IsName.f k s = some (nameB s) := by
  unfold impl_IsName.f nameB
  by_cases h0 : (s.size : Int) < 1
  · rw [if_pos h0]
    have : ¬ 1 ≤ s.size := by omega
    simp [this]
  rw [if_neg h0]
  by_cases h1 : (s.size : Int) > 10
  · rw [if_pos h1]
    have : ¬ s.size ≤ 10 := by omega
    simp [this]
  rw [if_neg h1, if_pos (by omega)]
  have h1' : s.size ≤ 10 := by omega
  have h0' : 1 ≤ s.size := by omega
  by_cases h2 : bt s 0 < 97
  · rw [if_pos h2]
    have h2' : ¬ 97 ≤ bt s 0 := by omega
    simp [h2']
  rw [if_neg h2]
  by_cases h3 : bt s 0 > 122
  · rw [if_pos h3]
    have h3' : ¬ bt s 0 ≤ 122 := by omega
    simp [h3']
  rw [if_neg h3]
  have h2' : 97 ≤ bt s 0 := by omega
  have h3' : bt s 0 ≤ 122 := by omega
  unfold impl_onlyNameBytes.f
  rw [all_loop (fun k i => impl_onlyNameBytes.l0 k s (s.size : Int) i) s.size (fun i => nameByte (bt s (i : Int))) true 0 (fun k i hi hB => ?_) (fun k _ => ?_) k (by omega)]
  · simp [h1', h0', h3', h2']
  · show impl_onlyNameBytes.l0 (k + 1) s (s.size : Int) (i : Int) = _
    rw [impl_onlyNameBytes.l0]
    rw [if_pos (lt_cast hi), if_pos (nn_cast i), if_pos (lt_cast hi), wrap_succ hi (by omega)]
    unfold nameByte
    repeat' split
    all_goals first | rfl | (exfalso; simp_all; done) | (exfalso; simp_all; omega)
  · show impl_onlyNameBytes.l0 (k + 1) s (s.size : Int) (s.size : Int) = _
    rw [impl_onlyNameBytes.l0, if_neg (nlt_cast _)]

def catS (acc : ByteArray) (r : List ByteArray) : ByteArray := r.foldl (fun s x => (s ++ (⟨#[32]⟩ : ByteArray)) ++ x) acc
theorem ba_mk {a b : ByteArray} (h : a.data.toList = b.data.toList) : a = b := ByteArray.ext (Array.toList_inj.1 h)
theorem ba_app (a b : ByteArray) : (a ++ b).data.toList = a.data.toList ++ b.data.toList := by rw [ByteArray.data_append, Array.toList_append]
theorem catS_data : ∀ (r : List ByteArray) (acc : ByteArray), (catS acc r).data.toList = acc.data.toList ++ Lib.joinTail [32] (r.map (·.data.toList))
  | [], acc => by simp [catS, Lib.joinTail]
  | x :: r, acc => by
    have ih := catS_data r ((acc ++ (⟨#[32]⟩ : ByteArray)) ++ x)
    show (catS ((acc ++ (⟨#[32]⟩ : ByteArray)) ++ x) r).data.toList = _
    rw [ih, ba_app, ba_app]
    simp [Lib.joinTail]
def joinT : List ByteArray → ByteArray | [] => ⟨#[]⟩ | x :: r => catS x r
theorem join_T (l : List ByteArray) : strings_Join.t l ⟨#[32]⟩ = joinT l := by
  cases l with
  | nil => rfl
  | cons x r =>
    refine ba_mk ?_
    unfold joinT
    rw [catS_data]
    unfold strings_Join.t
    show (Lib.join _ _ : List UInt8) = _
    rw [List.map_cons, Lib.join_cons]
theorem catS_size : ∀ (r : List ByteArray) (acc : ByteArray), (∀ x ∈ r, x.size ≤ 99) → (catS acc r).size ≤ acc.size + 100 * r.length
  | [], acc, _ => by simp [catS]
  | x :: r, acc, h => by
    have ih := catS_size r ((acc ++ (⟨#[32]⟩ : ByteArray)) ++ x) (fun y hy => h y (List.mem_cons_of_mem _ hy))
    have hx := h x List.mem_cons_self
    have e1 : (⟨#[32]⟩ : ByteArray).size = 1 := rfl
    rw [ByteArray.size_append, ByteArray.size_append] at ih
    show (catS ((acc ++ (⟨#[32]⟩ : ByteArray)) ++ x) r).size ≤ _
    rw [List.length_cons]; omega
theorem joinT_size {l : List ByteArray} (h : ∀ x ∈ l, x.size ≤ 99) : (joinT l).size ≤ 100 * l.length := by
  cases l with
  | nil => exact Nat.zero_le _
  | cons x r =>
    have h1 := catS_size r x (fun y hy => h y (List.mem_cons_of_mem _ hy))
    have h2 := h x List.mem_cons_self
    show (catS x r).size ≤ _
    rw [List.length_cons]; omega
theorem Join_eq {l : List ByteArray} (hl : l.length ≤ 1000) (h : ∀ x ∈ l, x.size ≤ 99) : strings_Join.f l (⟨#[32]⟩ : ByteArray) = some (joinT l) := by
  have hz := joinT_size h
  unfold strings_Join.f
  rw [join_T, if_pos ⟨by omega, by omega⟩]

theorem ext_iNote {a b : S67} : a = b ↔ a.f0 = b.f0 ∧ a.f1 = b.f1 := by
  cases a; cases b; simp
instance : DecidableEq S67 := fun _ _ => decidable_of_iff _ ext_iNote.symm
theorem ext_iTala {a b : S50} : a = b ↔ a.f0.toList = b.f0.toList ∧ a.f1 = b.f1 ∧ a.f2 = b.f2 := by
  simp only [bytes_eq]; cases a; cases b; simp
instance : DecidableEq S50 := fun _ _ => decidable_of_iff _ ext_iTala.symm

theorem rdN_get {l : List S67} {i : Nat} (h : i < l.length) : rd_T67 l (i : Int) = l[i] := by
  simp [rd_T67, List.getD_eq_getElem?_getD, List.getElem?_eq_getElem h]
def noteB (x : S67) : Bool := (decide (-12 ≤ x.f0) && decide (x.f0 ≤ 23)) && (decide (1 ≤ x.f1) && decide (x.f1 ≤ 64))
def melB (l : List S67) : Bool := l.all noteB && decide (l.length ≤ 48)
theorem ValidMelody_eq {l : List S67} {k : Nat} (hk : 100 ≤ k) : impl_ValidMelody.f k l = some (melB l) := by
  unfold impl_ValidMelody.f melB
  by_cases hl : l.length ≤ 48
  rotate_left
  · rw [if_pos (by omega), decide_eq_false hl, Bool.and_false]
  rw [if_neg (by omega), decide_eq_true hl, Bool.and_true]
  refine list_loop0 (fun k i => impl_ValidMelody.l0 k l (l.length : Int) i) l (fun r => r.all noteB) 0 (fun k i hi _ => ?_) (fun k => ?_) k (by omega)
  · simp only [impl_ValidMelody.l0]
    rw [if_pos (lt_cast hi), if_pos (nn_cast i), if_pos (lt_cast hi), rdN_get hi, wrap_succ hi (by omega)]
    unfold impl_pitchOk.f impl_lengthOk.f
    rw [within_eq, within_eq]; simp only [Option.bind_some]
    rw [List.all_cons]
    change _ = some (((decide (-12 ≤ l[i].f0) && decide (l[i].f0 ≤ 23)) && (decide (1 ≤ l[i].f1) && decide (l[i].f1 ≤ 64))) && _) ∨ (((((decide (-12 ≤ l[i].f0) && decide (l[i].f0 ≤ 23)) && (decide (1 ≤ l[i].f1) && decide (l[i].f1 ≤ 64))) && _) = _) ∧ _)
    cases (decide (-12 ≤ l[i].f0) && decide (l[i].f0 ≤ 23))
    · left; rfl
    · cases (decide (1 ≤ l[i].f1) && decide (l[i].f1 ≤ 64))
      · left; rfl
      · right; exact ⟨rfl, rfl⟩
  · simp only [impl_ValidMelody.l0]
    rw [if_neg (nlt_cast _)]; rfl
theorem l09Ok_eq {l : List S67} (hl : l.length ≤ 2000000) {k : Nat} (hk : l.length + 100 ≤ k) : spec_l09Ok.f k l = some (melB l) := by
  unfold spec_l09Ok.f melB
  refine list_loop0 (fun k i => spec_l09Ok.l0 k l i) l (fun r => r.all noteB && decide (l.length ≤ 48)) 0 (fun k i hi _ => ?_) (fun k => ?_) k (by omega)
  · simp only [spec_l09Ok.l0]
    rw [if_pos (lt_cast hi), if_pos (nn_cast i), rdN_get hi, wrap_succ hi (by omega)]
    unfold spec_l03Pitch.f spec_l09Length.f
    rw [in_eq, in_eq]; simp only [Option.bind_some]
    rw [List.all_cons]
    change _ = some ((((decide (-12 ≤ l[i].f0) && decide (l[i].f0 ≤ 23)) && (decide (1 ≤ l[i].f1) && decide (l[i].f1 ≤ 64))) && _) && _) ∨ ((((((decide (-12 ≤ l[i].f0) && decide (l[i].f0 ≤ 23)) && (decide (1 ≤ l[i].f1) && decide (l[i].f1 ≤ 64))) && _) && _) = _) ∧ _)
    cases (decide (-12 ≤ l[i].f0) && decide (l[i].f0 ≤ 23))
    · left; rfl
    · cases (decide (1 ≤ l[i].f1) && decide (l[i].f1 ≤ 64))
      · left; rfl
      · right; exact ⟨rfl, rfl⟩
  · simp only [spec_l09Ok.l0]
    rw [if_neg (nlt_cast _)]
    simp
    omega
def okNote (x : S67) : Prop := (-12 ≤ x.f0 ∧ x.f0 ≤ 23) ∧ -1000000000000 ≤ x.f1 ∧ x.f1 ≤ 1000000000000
theorem melB_ok {l : List S67} (h : melB l = true) : l.length ≤ 48 ∧ ∀ x ∈ l, okNote x := by
  unfold melB at h
  rw [Bool.and_eq_true, decide_eq_true_iff] at h
  refine ⟨h.2, fun x hx => ?_⟩
  have := List.all_eq_true.1 h.1 x hx
  unfold noteB at this
  rw [Bool.and_eq_true, Bool.and_eq_true, Bool.and_eq_true, decide_eq_true_iff, decide_eq_true_iff, decide_eq_true_iff, decide_eq_true_iff] at this
  unfold okNote
  omega

def wB (a b n : Int) : Bool := decide (a ≤ n) && decide (n ≤ b)
def sumW (acc : Int) : List Int → Int
  | [] => acc
  | x :: r => sumW (wrap64 (acc + x)) r
def markB : List Int → Bool
  | [] => true
  | m :: r => decide (m = 1) && r.all (wB 2 3)
def talaB (s : ByteArray) (S M : List Int) : Bool := nameB s && ((decide (1 ≤ S.length) && decide (S.length ≤ 8)) && (decide (M.length = S.length) && ((S.all (wB 1 16) && markB M) && decide (sumW 0 S ≤ 32))))
theorem allW_eq (l : List Int) (a b : Int) : impl_allWithin.f l a b = some (l.all (wB a b)) := by
  unfold impl_allWithin.f
  congr 1
  induction l with
  | nil => rfl
  | cons x r ih =>
    rw [List.any_cons, List.all_cons, Bool.not_or, ih]
    congr 1
    unfold impl_allWithin.p wB
    cases decide (a ≤ x) <;> cases decide (x ≤ b) <;> rfl
theorem l17Sum_l0 (S : List Int) (hS : S.length ≤ 1000) : ∀ (d K i : Nat) (acc : Int), i + d = S.length → d + 1 ≤ K → spec_l17Sum.l0 K S acc (i : Int) = some (sumW acc (S.drop i)) := by
  intro d
  induction d with
  | zero =>
    intro K i acc hi hK
    obtain ⟨K, rfl⟩ : ∃ m, K = m + 1 := ⟨K - 1, by omega⟩
    simp only [spec_l17Sum.l0]
    rw [if_neg (by omega), List.drop_eq_nil_of_le (by omega)]; rfl
  | succ d ih =>
    intro K i acc hi hK
    obtain ⟨K, rfl⟩ : ∃ m, K = m + 1 := ⟨K - 1, by omega⟩
    have hlt : i < S.length := by omega
    simp only [spec_l17Sum.l0]
    rw [if_pos (lt_cast hlt), if_pos (nn_cast i), rd_get hlt, wrap_succ hlt (by omega), ih K (i + 1) _ (by omega) (by omega), List.drop_eq_getElem_cons hlt]; rfl
theorem l17Sum_eq {S : List Int} (hS : S.length ≤ 1000) {K : Nat} (hK : 1001 ≤ K) : spec_l17Sum.f K S = some (sumW 0 S) := l17Sum_l0 S hS S.length K 0 0 (by omega) (by omega)
theorem sumOf_l0 (S : List Int) (hS : S.length ≤ 1000) : ∀ (d K i : Nat) (acc : Int), i + d = S.length → d + 1 ≤ K → impl_sumOf.l0 K acc S (S.length : Int) (i : Int) = some (sumW acc (S.drop i)) := by
  intro d
  induction d with
  | zero =>
    intro K i acc hi hK
    obtain ⟨K, rfl⟩ : ∃ m, K = m + 1 := ⟨K - 1, by omega⟩
    simp only [impl_sumOf.l0]
    rw [if_neg (by omega), List.drop_eq_nil_of_le (by omega)]; rfl
  | succ d ih =>
    intro K i acc hi hK
    obtain ⟨K, rfl⟩ : ∃ m, K = m + 1 := ⟨K - 1, by omega⟩
    have hlt : i < S.length := by omega
    simp only [impl_sumOf.l0]
    rw [if_pos (lt_cast hlt), if_pos (nn_cast i), if_pos (lt_cast hlt), rd_get hlt, wrap_succ hlt (by omega), ih K (i + 1) _ (by omega) (by omega), List.drop_eq_getElem_cons hlt]; rfl
theorem beats_eq (s : ByteArray) {S : List Int} (M : List Int) (hS : S.length ≤ 1000) {K : Nat} (hK : 1001 ≤ K) : impl_Tala_beats.f K s S M = some (sumW 0 S) := by
  unfold impl_Tala_beats.f impl_sumOf.f
  have := sumOf_l0 S hS S.length K 0 0 (by omega) (by omega)
  rw [List.drop_zero, show ((0 : Nat) : Int) = 0 from rfl] at this
  rw [this]; rfl
theorem ValidTala_eq (s : ByteArray) (S M : List Int) {K : Nat} (hK : 2000 ≤ K) : impl_ValidTala.f K s S M = some (talaB s S M) := by
  unfold impl_ValidTala.f talaB
  rw [IsName_eq s (by omega)]; simp only [Option.bind_some]
  cases hn : nameB s
  · rfl
  rw [if_pos rfl, Bool.true_and]
  by_cases h1 : 1 ≤ S.length
  rotate_left
  · rw [if_pos (by omega), decide_eq_false h1]; rfl
  rw [if_neg (by omega), decide_eq_true h1]
  by_cases h8 : S.length ≤ 8
  rotate_left
  · rw [if_pos (by omega), decide_eq_false h8]; rfl
  rw [if_neg (by omega), decide_eq_true h8, allW_eq]; simp only [Option.bind_some, Bool.true_and]
  cases hw : S.all (wB 1 16)
  · rw [if_neg (by decide), Bool.false_and, Bool.false_and, Bool.and_false]
  rw [if_pos rfl, beats_eq s M (by omega) (by omega)]; simp only [Option.bind_some, Bool.true_and]
  by_cases h32 : sumW 0 S ≤ 32
  rotate_left
  · rw [if_pos (by omega), decide_eq_false h32, Bool.and_false, Bool.and_false]
  rw [if_neg (by omega), decide_eq_true h32, Bool.and_true]
  by_cases hm : M.length = S.length
  rotate_left
  · rw [if_neg (by omega), decide_eq_false hm, Bool.false_and]
  rw [if_pos (by omega), decide_eq_true hm, if_pos (by omega), Bool.true_and]
  cases M with
  | nil => rw [List.length_nil] at hm; omega
  | cons m r =>
    show (if m = 1 then (if 1 ≤ (((m :: r).length : Nat) : Int) then ((impl_allWithin.f r 2 3).bind fun t => some t) else none) else some false) = some (decide (m = 1) && r.all (wB 2 3))
    rw [allW_eq]; simp only [Option.bind_some]
    by_cases h : m = 1
    · rw [if_pos h, if_pos (by rw [List.length_cons]; omega), decide_eq_true h, Bool.true_and]
    · rw [if_neg h, decide_eq_false h, Bool.false_and]
theorem l17Ok_l0 {s : ByteArray} {S M : List Int} (h8 : S.length ≤ 8) (hm : M.length = S.length) : ∀ (d K i : Nat), i + d = S.length → 1 ≤ i → d + 1500 ≤ K → spec_l17Ok_e.l0 K (S.length : Int) (i : Int) [(⟨s, S, M⟩ : S50)] 0 = some (((S.drop i).all (wB 1 16) && (M.drop i).all (wB 2 3)) && decide (sumW 0 S ≤ 32)) := by
  have hr : rd_T50 [(⟨s, S, M⟩ : S50)] 0 = ⟨s, S, M⟩ := rfl
  intro d
  induction d with
  | zero =>
    intro K i hi h1 hK
    obtain ⟨K, rfl⟩ : ∃ m, K = m + 1 := ⟨K - 1, by omega⟩
    simp only [spec_l17Ok_e.l0]
    rw [if_neg (by omega), List.drop_eq_nil_of_le (by omega), List.drop_eq_nil_of_le (by omega), hr]
    show ((spec_l17Sum.f K S).bind fun t => some (decide (t ≤ 32))) = _
    rw [l17Sum_eq (by omega) (by omega)]; rfl
  | succ d ih =>
    intro K i hi h1 hK
    obtain ⟨K, rfl⟩ : ∃ m, K = m + 1 := ⟨K - 1, by omega⟩
    have hlt : i < S.length := by omega
    have hlm : i < M.length := by omega
    simp only [spec_l17Ok_e.l0]
    rw [if_pos (lt_cast hlt), if_pos (nn_cast i), hr]
    dsimp only
    rw [if_pos (lt_cast hlt), rd_get hlt, in_eq]; simp only [Option.bind_some]
    rw [List.drop_eq_getElem_cons hlt, List.drop_eq_getElem_cons hlm, List.all_cons, List.all_cons]
    change (if wB 1 16 S[i] = true then _ else _) = some (((wB 1 16 S[i] && _) && (wB 2 3 M[i] && _)) && _)
    cases wB 1 16 S[i]
    · rfl
    rw [if_pos rfl, if_neg (by omega), if_pos (by omega), if_pos (lt_cast hlm), rd_get hlm, in_eq]; simp only [Option.bind_some]
    change (if wB 2 3 M[i] = true then _ else _) = _
    cases wB 2 3 M[i]
    · rw [if_neg (by decide)]; simp
    rw [if_pos rfl, wrap_succ hlt (by omega), ih K (i + 1) (by omega) (by omega) (by omega)]; simp
theorem l17Ok_eq (s : ByteArray) (S M : List Int) {K : Nat} (hK : 2000 ≤ K) : spec_l17Ok_e.f K [(⟨s, S, M⟩ : S50)] 0 = some (talaB s S M) := by
  have hr : rd_T50 [(⟨s, S, M⟩ : S50)] 0 = ⟨s, S, M⟩ := rfl
  obtain ⟨K, rfl⟩ : ∃ m, K = m + 2 := ⟨K - 2, by omega⟩
  unfold spec_l17Ok_e.f talaB
  rw [hr]
  dsimp only
  rw [l01Name_eq s (by omega)]; simp only [Option.bind_some]
  have hj : ∀ n : Int, spec_l17Ok_e.j0 (K + 2) n true [(⟨s, S, M⟩ : S50)] 0 = some false := fun n => by
    simp only [spec_l17Ok_e.j0]
    rw [if_pos trivial]
  cases hn : nameB s
  · rw [if_neg (by decide), hj]; rfl
  rw [if_pos rfl, in_eq, Bool.true_and]; simp only [Option.bind_some]
  have hc : (decide ((1 : Int) ≤ (S.length : Int)) && decide ((S.length : Int) ≤ 8)) = (decide (1 ≤ S.length) && decide (S.length ≤ 8)) := by
    congr 1
    · exact decide_eq_decide.2 (by omega)
    · exact decide_eq_decide.2 (by omega)
  rw [hc]
  by_cases hl : (decide (1 ≤ S.length) && decide (S.length ≤ 8)) = true
  rotate_left
  · rw [if_neg hl, hj, Bool.eq_false_iff.2 hl]; rfl
  rw [if_pos hl, hl, Bool.true_and]
  rw [Bool.and_eq_true, decide_eq_true_iff, decide_eq_true_iff] at hl
  obtain ⟨h1, h8⟩ := hl
  by_cases hm : M.length = S.length
  rotate_left
  · rw [bne_iff_ne.2 (by omega), hj, decide_eq_false hm]; rfl
  rw [decide_eq_true hm, Bool.true_and, show ((M.length : Int) != (S.length : Int)) = false by rw [hm]; simp]
  simp only [spec_l17Ok_e.j0, Bool.false_eq_true, if_false, spec_l17Ok_e.l0]
  rw [if_pos (by omega), if_pos (by decide), hr]
  dsimp only
  cases S with
  | nil => rw [List.length_nil] at h1; omega
  | cons x q =>
    cases M with
    | nil => rw [List.length_nil, List.length_cons] at hm; omega
    | cons m r =>
      have e1 : rd (x :: q) 0 = x := rd_get (l := x :: q) (i := 0) (by simp)
      have e2 : rd (m :: r) 0 = m := rd_get (l := m :: r) (i := 0) (by simp)
      rw [if_pos (by rw [List.length_cons]; omega), e1, e2, in_eq]; simp only [Option.bind_some]
      rw [List.all_cons]
      change (if wB 1 16 x = true then _ else _) = some (((wB 1 16 x && _) && (decide (m = 1) && r.all (wB 2 3))) && _)
      cases wB 1 16 x
      · rfl
      rw [if_pos rfl, if_pos (c := True) trivial, if_pos (by rw [List.length_cons]; omega)]
      by_cases h : m = 1
      rotate_left
      · rw [if_neg h, decide_eq_false h]; simp
      have hw : wrap64 (0 + 1) = ((1 : Nat) : Int) := by rw [wrap_id (by omega) (by omega)]; rfl
      rw [if_pos h, if_neg (by decide), decide_eq_true h, hw]
      have := l17Ok_l0 (s := s) h8 hm q.length K 1 (by rw [List.length_cons]; omega) (by omega) (by rw [List.length_cons] at h8; omega)
      rw [this]; simp
def codeB (l : List S67) (s : ByteArray) (S M : List Int) (v : Int) : Int := if (melB l && talaB s S M) = true then (if wB 1 8 v = true then 0 else 2) else 1
theorem notationCode_eq (l : List S67) (s : ByteArray) (S M : List Int) (v : Int) {K : Nat} (hK : 3000 ≤ K) : impl_notationCode.f K l s S M v = some (codeB l s S M v) := by
  obtain ⟨K, rfl⟩ : ∃ m, K = m + 1 := ⟨K - 1, by omega⟩
  unfold impl_notationCode.f codeB
  rw [ValidMelody_eq (by omega)]; simp only [Option.bind_some]
  cases melB l
  · rfl
  rw [if_pos rfl, ValidTala_eq s S M (by omega), Bool.true_and]; simp only [Option.bind_some, impl_notationCode.j0]
  cases talaB s S M
  · rfl
  rw [within_eq]; simp only [Option.bind_some]
  change (if (!true) = true then _ else (if wB 1 8 v = true then _ else _)) = _
  cases wB 1 8 v <;> rfl

def digB (c : UInt8) : Bool := decide (48 ≤ c.toNat) && decide (c.toNat ≤ 57)
def valD (acc : Nat) (d : List UInt8) : Nat := d.foldl (fun a c => a * 10 + (c.toNat - 48)) acc
def okN (neg : Bool) (d : List UInt8) : Bool := decide (1 ≤ d.length) && decide (d.length ≤ 18) && (decide (d.head? ≠ some 48) || (!neg && decide (d.length = 1))) && d.all digB
def sgn (neg : Bool) (n : Nat) : Int := if neg = true then -(n : Int) else (n : Int)
def numN (neg : Bool) (d : List UInt8) : Option Int := if okN neg d = true then some (sgn neg (valD 0 d)) else none
def numV (s : List UInt8) : Option Int := if s.head? = some 45 then numN true (s.drop 1) else numN false s
def pairN : Option Int → Int × Bool | some n => (n, true) | none => (0, false)
theorem digB_iff {c : UInt8} : digB c = true ↔ 48 ≤ c.toNat ∧ c.toNat ≤ 57 := by
  unfold digB
  rw [Bool.and_eq_true, decide_eq_true_iff, decide_eq_true_iff]
theorem valD_cons (acc : Nat) (c : UInt8) (r : List UInt8) : valD acc (c :: r) = valD (acc * 10 + (c.toNat - 48)) r := by
  unfold valD; rw [List.foldl_cons]
theorem valD_ge : ∀ (d : List UInt8) (acc : Nat), acc ≤ valD acc d
  | [], _ => Nat.le_refl _
  | c :: r, acc => by rw [valD_cons]; have := valD_ge r (acc * 10 + (c.toNat - 48)); omega
theorem valD_lt : ∀ (d : List UInt8) (acc j : Nat), d.all digB = true → acc < 10 ^ j → valD acc d < 10 ^ (j + d.length)
  | [], acc, j, _, h => h
  | c :: r, acc, j, ha, h => by
    rw [List.all_cons, Bool.and_eq_true, digB_iff] at ha
    have := valD_lt r (acc * 10 + (c.toNat - 48)) (j + 1) ha.2 (by rw [Nat.pow_succ]; omega)
    rw [valD_cons, List.length_cons, show j + (r.length + 1) = j + 1 + r.length by omega]; exact this
theorem pow17 {j : Nat} (h : j ≤ 17) : 10 ^ j ≤ 100000000000000000 := Nat.le_trans (Nat.pow_le_pow_right (by decide) h) (by decide)
theorem bt_drop {s : ByteArray} {i : Nat} {c : UInt8} {r : List UInt8} (h : s.data.toList.drop i = c :: r) : bt s (i : Int) = (c.toNat : Int) := by
  have hl : i < s.size := by
    have := congrArg List.length h
    rw [List.length_drop, List.length_cons, ← Lib.size_eq] at this; omega
  have e : s.data.toList[i]? = some c := by
    have := List.getElem?_drop (xs := s.data.toList) (i := i) (j := 0)
    rw [h] at this; simpa using this.symm
  rw [Lib.data_getElem? s i hl] at e
  have e' := Option.some.inj e
  have hi : ((i : Int)).toNat = i := by omega
  unfold bt
  rw [dif_pos (by omega)]
  simp only [hi]
  rw [e']
theorem Digit_eq (c : UInt8) : spec_l01Digit.f (c.toNat : Int) = some (digB c) := by
  unfold spec_l01Digit.f digB
  by_cases h : (c.toNat : Int) ≥ 48
  · rw [if_pos h]
    have h1 : 48 ≤ c.toNat := by omega
    by_cases h2 : c.toNat ≤ 57
    · have h3 : (c.toNat : Int) ≤ 57 := by omega
      simp [h1, h2, h3]
    · have h3 : ¬ (c.toNat : Int) ≤ 57 := by omega
      simp [h1, h2, h3]
  · rw [if_neg h]
    have h1 : ¬ 48 ≤ c.toNat := by omega
    simp [h1]
theorem Num_l0 (s : ByteArray) (neg : Bool) (hs : s.size ≤ 1048576) : ∀ (d k i acc j : Nat), i + d = s.size → acc < 10 ^ j → j + d ≤ 18 → d + 1 ≤ k →
    spec_l01Number.l0 k s (if neg = true then 1 else 0) (acc : Int) (i : Int) = some (if (s.data.toList.drop i).all digB = true then (sgn neg (valD acc (s.data.toList.drop i)), true) else (0, false)) := by
  intro d
  induction d with
  | zero =>
    intro k i acc j hi ha hj hk
    obtain ⟨k, rfl⟩ : ∃ m, k = m + 1 := ⟨k - 1, by omega⟩
    have hd : s.data.toList.drop i = [] := List.drop_eq_nil_of_le (by rw [← Lib.size_eq]; omega)
    have := pow17 (j := 17) (by omega)
    have hlt : acc < 1000000000000000000 := Nat.lt_of_lt_of_le ha (Nat.le_trans (Nat.pow_le_pow_right (by decide) (show j ≤ 18 by omega)) (by decide))
    simp only [spec_l01Number.l0]
    rw [if_neg (by omega), hd]
    cases neg
    · simp [sgn, valD]
    · simp [sgn, valD, wrap_id (x := -(acc : Int)) (by omega) (by omega)]
  | succ d ih =>
    intro k i acc j hi ha hj hk
    obtain ⟨k, rfl⟩ : ∃ m, k = m + 1 := ⟨k - 1, by omega⟩
    have hlt : i < s.data.toList.length := by rw [← Lib.size_eq]; omega
    obtain ⟨c, r, hd⟩ : ∃ c r, s.data.toList.drop i = c :: r := ⟨_, _, List.drop_eq_getElem_cons hlt⟩
    have hr : s.data.toList.drop (i + 1) = r := by
      rw [← List.drop_drop, hd]; rfl
    have hp := pow17 (j := j) (by omega)
    simp only [spec_l01Number.l0]
    rw [if_pos (by omega), if_pos (nn_cast i), bt_drop hd, Digit_eq, hd, List.all_cons]
    simp only [Option.bind_some]
    by_cases hc : digB c = true
    · rw [if_pos hc, hc, Bool.true_and]
      rw [digB_iff] at hc
      have e1 : wrap64 (wrap64 (10 * (acc : Int)) + ((c.toNat : Int) - 48) % 256) = ((acc * 10 + (c.toNat - 48) : Nat) : Int) := by
        rw [wrap_id (x := 10 * (acc : Int)) (by omega) (by omega), wrap_id (by omega) (by omega)]; omega
      have e2 : wrap64 ((i : Int) + 1) = ((i + 1 : Nat) : Int) := by rw [wrap_id (by omega) (by omega)]; omega
      rw [e1, e2, ih k (i + 1) _ (j + 1) (by omega) (by rw [Nat.pow_succ]; omega) (by omega) (by omega), hr, valD_cons]
    · rw [if_neg hc]
      rw [Bool.not_eq_true] at hc
      simp [hc]
theorem Num_j1 (s : ByteArray) (neg : Bool) (x4 : Nat) (hx : x4 = if neg = true then 1 else 0) (hle : x4 ≤ s.size) (hs : s.size ≤ 1048576) {k : Nat} (hk : 50 ≤ k) :
    spec_l01Number.j1 k s (x4 : Int) = some (pairN (numN neg (s.data.toList.drop x4))) := by
  obtain ⟨k, rfl⟩ : ∃ m, k = m + 2 := ⟨k - 2, by omega⟩
  have hd : (s.data.toList.drop x4).length = s.size - x4 := by rw [List.length_drop, ← Lib.size_eq]
  have j2t : spec_l01Number.j2 (k + 1) s (x4 : Int) true = some (0, false) := by simp only [spec_l01Number.j2]; rw [if_pos trivial]
  have j2f : s.size - x4 ≤ 18 → spec_l01Number.j2 (k + 1) s (x4 : Int) false = some (if (s.data.toList.drop x4).all digB = true then (sgn neg (valD 0 (s.data.toList.drop x4)), true) else (0, false)) := fun h18 => by
    have := Num_l0 s neg hs (s.size - x4) k x4 0 0 (by omega) (by decide) (by omega) (by omega)
    have e : ((if neg = true then 1 else 0 : Int)) = (x4 : Int) := by rw [hx]; cases neg <;> rfl
    rw [e] at this
    simp only [spec_l01Number.j2]
    rw [if_neg (by decide)]
    exact this
  show spec_l01Number.j1 (k + 1 + 1) s (x4 : Int) = _
  simp only [spec_l01Number.j1]
  unfold numN okN
  by_cases h1 : (s.size : Int) = (x4 : Int)
  · rw [if_pos h1, j2t, hd, show s.size - x4 = 0 by omega]; rfl
  rw [if_neg h1, wrap_id (by omega) (by omega)]
  by_cases h2 : (s.size : Int) - (x4 : Int) > 18
  · have h3 : ¬ s.size - x4 ≤ 18 := by omega
    rw [if_pos h2, j2t, hd, decide_eq_false h3]; simp [pairN]
  have hlt : x4 < s.data.toList.length := by rw [← Lib.size_eq]; omega
  rw [if_neg h2, if_pos (nn_cast x4), if_pos (by omega), hd]
  obtain ⟨c, r, hc⟩ : ∃ c r, s.data.toList.drop x4 = c :: r := ⟨_, _, List.drop_eq_getElem_cons hlt⟩
  have h18 : s.size - x4 ≤ 18 := by omega
  have h1' : 1 ≤ s.size - x4 := by omega
  rw [bt_drop hc]
  have key : ∀ b : Bool, (b = (decide ((s.data.toList.drop x4).head? ≠ some 48) || (!neg && decide (s.size - x4 = 1)))) → (if b = true then spec_l01Number.j2 (k + 1) s (x4 : Int) false else spec_l01Number.j2 (k + 1) s (x4 : Int) true) = some (pairN (if (decide (1 ≤ s.size - x4) && decide (s.size - x4 ≤ 18) && (decide ((s.data.toList.drop x4).head? ≠ some 48) || (!neg && decide (s.size - x4 = 1))) && (s.data.toList.drop x4).all digB) = true then some (sgn neg (valD 0 (s.data.toList.drop x4))) else none)) := by
    intro b hb
    rw [← hb, decide_eq_true h1', decide_eq_true h18]
    cases b
    · rw [if_neg (by decide), j2t]; rfl
    · rw [if_pos rfl, j2f h18]
      cases (s.data.toList.drop x4).all digB <;> rfl
  by_cases h48 : (c.toNat : Int) = 48
  · have hc48 : c = 48 := UInt8.toNat_inj.1 (by rw [show c.toNat = 48 by omega]; rfl)
    rw [if_pos h48]
    have hh : decide ((s.data.toList.drop x4).head? ≠ some 48) = false := by rw [hc, hc48]; rfl
    have := key (!decide ((s.size : Int) > 1)) (by
      rw [hh, Bool.false_or]
      cases neg
      · have : x4 = 0 := hx
        subst this
        by_cases hz : s.size = 1
        · simp [hz]
        · have : (s.size : Int) > 1 := by omega
          simp [hz, this]
      · have : x4 = 1 := hx
        subst this
        have : (s.size : Int) > 1 := by omega
        simp [this])
    rw [← this]
    cases decide ((s.size : Int) > 1) <;> rfl
  · rw [if_neg h48]
    have hh : decide ((s.data.toList.drop x4).head? ≠ some 48) = true := by
      rw [hc]; refine decide_eq_true ?_
      intro e; apply h48; rw [show c = 48 from Option.some.inj e]; rfl
    have := key true (by rw [hh, Bool.true_or])
    rw [← this]; rfl
theorem Number_eq (s : ByteArray) (hs : s.size ≤ 1048576) {k : Nat} (hk : 60 ≤ k) : spec_l01Number.f k s = some (pairN (numV s.data.toList)) := by
  obtain ⟨k, rfl⟩ : ∃ m, k = m + 1 := ⟨k - 1, by omega⟩
  unfold spec_l01Number.f numV
  by_cases h0 : (s.size : Int) > 0
  · have hlt : 0 < s.data.toList.length := by rw [← Lib.size_eq]; omega
    obtain ⟨c, r, hc⟩ : ∃ c r, s.data.toList.drop 0 = c :: r := ⟨_, _, List.drop_eq_getElem_cons hlt⟩
    rw [if_pos h0, if_pos (by omega), show (0 : Int) = ((0 : Nat) : Int) from rfl, bt_drop hc]
    rw [List.drop_zero] at hc
    have hh : s.data.toList.head? = some c := by rw [hc]; rfl
    rw [hh]
    simp only [spec_l01Number.j0]
    by_cases h45 : c = 45
    · subst h45
      rw [if_pos (by decide), if_pos rfl]
      exact Num_j1 s true 1 rfl (by omega) hs (by omega)
    · have : ¬ ((((c.toNat : Nat) : Int)) == 45) = true := by
        intro e; apply h45; exact UInt8.toNat_inj.1 (by have := beq_iff_eq.1 e; rw [show c.toNat = 45 by omega]; rfl)
      rw [if_neg this, if_neg (fun e => h45 (Option.some.inj e))]
      have := Num_j1 s false 0 rfl (by omega) hs (k := k) (by omega)
      rw [List.drop_zero] at this; exact this
  · have hz : s.size = 0 := by omega
    have hn : s.data.toList = [] := List.eq_nil_of_length_eq_zero (by rw [← Lib.size_eq]; exact hz)
    rw [if_neg h0, hn]
    simp only [spec_l01Number.j0]
    rw [if_neg (by decide)]
    have := Num_j1 s false 0 rfl (by omega) hs (k := k) (by omega)
    rw [List.drop_zero, hn] at this; exact this
theorem valD_snoc (l : List UInt8) (b : UInt8) : valD 0 (l ++ [b]) = valD 0 l * 10 + (b.toNat - 48) := by unfold valD; rw [List.foldl_append]; rfl
theorem valD_pos {d : List UInt8} (h0 : d ≠ []) (ha : d.all digB = true) (h : d.head? ≠ some 48) : 1 ≤ valD 0 d := by
  cases d with
  | nil => exact absurd rfl h0
  | cons c r =>
    rw [List.all_cons, Bool.and_eq_true, digB_iff] at ha
    have hc : c.toNat ≠ 48 := fun e => h (by rw [List.head?_cons]; congr 1; exact UInt8.toNat_inj.1 (by rw [e]; rfl))
    have := valD_ge r (0 * 10 + (c.toNat - 48))
    rw [valD_cons]; omega
theorem dec_val : ∀ (n : Nat) (d : List UInt8), d.length ≤ n → d ≠ [] → d.all digB = true → (d.head? ≠ some 48 ∨ d.length = 1) → Lib.decDigits (valD 0 d) = d := by
  intro n
  induction n with
  | zero => intro d h h0; exact absurd (List.eq_nil_of_length_eq_zero (by omega)) h0
  | succ n ih =>
    intro d h h0 ha hh
    rcases List.eq_nil_or_concat d with rfl | ⟨l, b, rfl⟩
    · exact absurd rfl h0
    rw [List.concat_eq_append] at h ha hh ⊢
    rw [List.all_append, Bool.and_eq_true, List.all_cons, Bool.and_eq_true, digB_iff] at ha
    have hb := ha.2.1
    have eb : UInt8.ofNat (48 + (b.toNat - 48)) = b := by rw [show 48 + (b.toNat - 48) = b.toNat by omega]; exact UInt8.ofNat_toNat
    rw [valD_snoc, Lib.decDigits]
    cases l with
    | nil =>
      rw [dif_pos (by show 0 * 10 + _ < 10; omega)]
      show [UInt8.ofNat (48 + (0 * 10 + (b.toNat - 48)))] = _
      rw [Nat.zero_mul, Nat.zero_add, eb]; rfl
    | cons c r =>
      have h48 : (c :: r).head? ≠ some 48 := by
        rcases hh with hh | hh
        · simpa using hh
        · simp at hh
      have hp := valD_pos (by simp) ha.1 h48
      rw [dif_neg (by omega), show (valD 0 (c :: r) * 10 + (b.toNat - 48)) / 10 = valD 0 (c :: r) by omega, show (valD 0 (c :: r) * 10 + (b.toNat - 48)) % 10 = b.toNat - 48 by omega, eb]
      rw [ih (c :: r) (by simp at h ⊢; omega) (by simp) ha.1 (Or.inl h48)]
theorem toNat_dig {u : Nat} (h : u < 10) : (UInt8.ofNat (48 + u)).toNat = 48 + u := by
  rw [UInt8.toNat_ofNat']; omega
theorem dec_spec : ∀ (n u : Nat), u ≤ n → Lib.decDigits u ≠ [] ∧ (Lib.decDigits u).all digB = true ∧ valD 0 (Lib.decDigits u) = u ∧ (u ≠ 0 → (Lib.decDigits u).head? ≠ some 48) ∧ (u = 0 → (Lib.decDigits u).length = 1) := by
  intro n
  induction n with
  | zero =>
    intro u h
    obtain rfl : u = 0 := by omega
    rw [Lib.decDigits_one (by decide)]
    exact ⟨by simp, by decide, by decide, fun h => absurd rfl h, fun _ => rfl⟩
  | succ n ih =>
    intro u h
    rw [Lib.decDigits]
    by_cases h10 : u < 10
    · rw [dif_pos h10]
      have e := toNat_dig h10
      refine ⟨by simp, ?_, ?_, ?_, fun _ => rfl⟩
      · rw [List.all_cons, Bool.and_eq_true, digB_iff, e]; exact ⟨by omega, rfl⟩
      · rw [valD_cons, e]; show 0 * 10 + (48 + u - 48) = u; omega
      · intro h0 e2
        rw [List.head?_cons] at e2
        have := congrArg UInt8.toNat (Option.some.inj e2)
        rw [e] at this
        have e48 : (48 : UInt8).toNat = 48 := rfl
        omega
    · rw [dif_neg h10]
      obtain ⟨i1, i2, i3, i4, _⟩ := ih (u / 10) (by omega)
      have e := toNat_dig (u := u % 10) (by omega)
      refine ⟨by simp, ?_, ?_, ?_, fun h0 => by omega⟩
      · rw [List.all_append, i2, List.all_cons, Bool.true_and, Bool.and_eq_true, digB_iff, e]; exact ⟨by omega, rfl⟩
      · rw [valD_snoc, i3, e]; omega
      · intro _
        have := i4 (by omega)
        revert this i1
        generalize Lib.decDigits (u / 10) = l
        intro i1 i4
        cases l with
        | nil => exact absurd rfl i1
        | cons c r => simpa using i4
theorem parseM : ∀ (d : List UInt8) (acc j : Nat), d.all digB = true → acc < 10 ^ j → j + d.length ≤ 18 → Lib.parseUintM (2 ^ 64 - 1) acc d = .ok (valD acc d)
  | [], acc, j, _, _, _ => rfl
  | c :: r, acc, j, ha, hj, hl => by
    rw [List.all_cons, Bool.and_eq_true, digB_iff] at ha
    rw [List.length_cons] at hl
    have hp := pow17 (j := j) (by omega)
    rw [Lib.parseUintM, if_pos ha.1, if_neg (by omega), if_neg (by omega), valD_cons]
    exact parseM r _ (j + 1) ha.2 (by rw [Nat.pow_succ]; omega) (by omega)
theorem okN_iff {neg : Bool} {d : List UInt8} : okN neg d = true ↔ (1 ≤ d.length ∧ d.length ≤ 18) ∧ (d.head? ≠ some 48 ∨ (neg = false ∧ d.length = 1)) ∧ d.all digB = true := by
  unfold okN
  simp only [Bool.and_eq_true, Bool.or_eq_true, decide_eq_true_iff, Bool.not_eq_true', and_assoc]
theorem parseU {neg : Bool} {d : List UInt8} (h : okN neg d = true) : Lib.parseUintB 64 d = .ok (valD 0 d) ∧ valD 0 d < 1000000000000000000 := by
  obtain ⟨⟨h1, h2⟩, _, h3⟩ := okN_iff.1 h
  unfold Lib.parseUintB
  rw [if_neg (by intro e; rw [e] at h1; simp at h1)]
  refine ⟨parseM d 0 0 h3 (by decide) (by omega), ?_⟩
  have := valD_lt d 0 0 h3 (by decide)
  exact Nat.lt_of_lt_of_le this (Nat.le_trans (Nat.pow_le_pow_right (by decide) (show 0 + d.length ≤ 18 by omega)) (by decide))
theorem dec_list (n : Int) : (impl_Decimal.t n).data.toList = Lib.itoa n := by unfold impl_Decimal.t; simp
theorem trim_minus (r : List UInt8) : Lib.trimPrefix (45 :: r) [45] = r := by
  unfold Lib.trimPrefix Lib.hasPrefix
  rw [if_pos (by simp [List.isPrefixOf])]; rfl
theorem trim_other {c : UInt8} (r : List UInt8) (h : c ≠ 45) : Lib.trimPrefix (c :: r) [45] = c :: r := by
  unfold Lib.trimPrefix Lib.hasPrefix
  rw [if_neg (by simp [List.isPrefixOf]; exact fun e => h e.symm)]
theorem num_itoa {s : List UInt8} {n : Int} (h : numV s = some n) : Lib.itoa n = s ∧ Lib.parseIntB 64 s = .ok n ∧ (Lib.trimPrefix s [45]).length ≤ 18 := by
  unfold numV at h
  by_cases h45 : s.head? = some 45
  · rw [if_pos h45] at h
    obtain ⟨r, rfl⟩ : ∃ r, s = 45 :: r := by
      cases s with
      | nil => simp at h45
      | cons c r => exact ⟨r, by rw [List.head?_cons] at h45; rw [Option.some.inj h45]⟩
    rw [show (45 :: r).drop 1 = r from rfl] at h
    unfold numN at h
    by_cases ho : okN true r = true
    · rw [if_pos ho] at h
      obtain rfl := Option.some.inj h
      obtain ⟨p1, p2⟩ := parseU ho
      obtain ⟨⟨h1, h2⟩, h3, h4⟩ := okN_iff.1 ho
      have h48 : r.head? ≠ some 48 := h3.resolve_right (fun e => by simp at e)
      have hne : r ≠ [] := by intro e; rw [e] at h1; simp at h1
      have hp := valD_pos hne h4 h48
      refine ⟨?_, ?_, by rw [trim_minus]; exact h2⟩
      · unfold Lib.itoa sgn
        rw [if_pos rfl, if_pos (by omega), show (-((valD 0 r : Nat) : Int)).natAbs = valD 0 r by omega, dec_val _ r (Nat.le_refl _) hne h4 (Or.inl h48)]
      · rw [Lib.parseIntB_minus, p1]
        show (if 2 ^ (64 - 1) < valD 0 r then _ else _) = _
        rw [if_neg (by omega)]; rfl
    · rw [if_neg ho] at h; cases h
  · rw [if_neg h45] at h
    unfold numN at h
    by_cases ho : okN false s = true
    · rw [if_pos ho] at h
      obtain rfl := Option.some.inj h
      obtain ⟨p1, p2⟩ := parseU ho
      obtain ⟨⟨h1, h2⟩, h3, h4⟩ := okN_iff.1 ho
      cases s with
      | nil => simp at h1
      | cons c r =>
        have hc : 48 ≤ c.toNat ∧ c.toNat ≤ 57 := by
          rw [List.all_cons, Bool.and_eq_true, digB_iff] at h4; exact h4.1
        have hc45 : c ≠ 45 := fun e => h45 (by rw [e]; rfl)
        refine ⟨?_, ?_, by rw [trim_other r hc45]; exact h2⟩
        · unfold Lib.itoa sgn
          show (if ((valD 0 (c :: r) : Nat) : Int) < 0 then _ else Lib.decDigits (((valD 0 (c :: r) : Nat) : Int)).toNat) = _
          rw [if_neg (by omega), show (((valD 0 (c :: r) : Nat) : Int)).toNat = valD 0 (c :: r) by omega, dec_val _ _ (Nat.le_refl _) (by simp) h4 (h3.imp id (fun e => e.2))]
        · rw [Lib.parseIntB_plain 64 c r (by omega) (by omega), p1]
          show (if 2 ^ (64 - 1) ≤ valD 0 (c :: r) then _ else _) = _
          rw [if_neg (by omega)]; rfl
    · rw [if_neg ho] at h; cases h
theorem num_of_itoa {n : Int} (h : (Lib.trimPrefix (Lib.itoa n) [45]).length ≤ 18) : numV (Lib.itoa n) = some n := by
  unfold Lib.itoa at h ⊢
  by_cases hn : n < 0
  · rw [if_pos hn] at h ⊢
    rw [trim_minus] at h
    obtain ⟨i1, i2, i3, i4, _⟩ := dec_spec n.natAbs n.natAbs (Nat.le_refl _)
    unfold numV
    rw [if_pos (show (45 :: Lib.decDigits n.natAbs).head? = some 45 from rfl), show (45 :: Lib.decDigits n.natAbs).drop 1 = Lib.decDigits n.natAbs from rfl]
    unfold numN
    have hl : 1 ≤ (Lib.decDigits n.natAbs).length := List.length_pos_iff.2 i1
    rw [if_pos (okN_iff.2 ⟨⟨hl, h⟩, Or.inl (i4 (by omega)), i2⟩), i3]
    unfold sgn
    rw [if_pos rfl]; congr 1; omega
  · rw [if_neg hn] at h ⊢
    obtain ⟨i1, i2, i3, i4, i5⟩ := dec_spec n.toNat n.toNat (Nat.le_refl _)
    have hl : 1 ≤ (Lib.decDigits n.toNat).length := List.length_pos_iff.2 i1
    have h45 : (Lib.decDigits n.toNat).head? ≠ some 45 ∧ Lib.trimPrefix (Lib.decDigits n.toNat) [45] = Lib.decDigits n.toNat := by
      revert i1 i2
      generalize Lib.decDigits n.toNat = l
      intro i1 i2
      cases l with
      | nil => exact absurd rfl i1
      | cons c r =>
        rw [List.all_cons, Bool.and_eq_true, digB_iff] at i2
        have hc : c ≠ 45 := fun e => by rw [e] at i2; exact absurd i2.1.1 (by decide)
        exact ⟨fun e => hc (Option.some.inj e), trim_other r hc⟩
    rw [h45.2] at h
    unfold numV
    rw [if_neg h45.1]
    unfold numN
    have hx : (Lib.decDigits n.toNat).head? ≠ some 48 ∨ (false = false ∧ (Lib.decDigits n.toNat).length = 1) := by
      by_cases hz : n.toNat = 0
      · exact Or.inr ⟨rfl, i5 hz⟩
      · exact Or.inl (i4 hz)
    rw [if_pos (okN_iff.2 ⟨⟨hl, h⟩, hx, i2⟩), i3]
    unfold sgn
    rw [if_neg (by decide)]; congr 1; omega
theorem RD_eq (s : ByteArray) : impl_ReadDecimal.v s = numV s.data.toList := by
  cases hn : numV s.data.toList with
  | some n =>
    obtain ⟨h1, h2, h3⟩ := num_itoa hn
    unfold impl_ReadDecimal.v
    rw [h2]
    show (if 18 < (Lib.trimPrefix s.data.toList [45]).length then none else if (impl_Decimal.t n).toList = s.toList then some n else none) = some n
    rw [if_neg (by omega), if_pos (by rw [ByteArray.toList_eq, ByteArray.toList_eq, dec_list, h1])]
  | none =>
    cases hv : impl_ReadDecimal.v s with
    | none => rfl
    | some v =>
      exfalso
      unfold impl_ReadDecimal.v at hv
      rcases hp : Lib.parseIntB 64 s.data.toList with w | _ | _ <;> rw [hp] at hv
      · replace hv : (if 18 < (Lib.trimPrefix s.data.toList [45]).length then none else if (impl_Decimal.t w).toList = s.toList then some w else none) = some v := hv
        by_cases h18 : 18 < (Lib.trimPrefix s.data.toList [45]).length
        · rw [if_pos h18] at hv; cases hv
        rw [if_neg h18] at hv
        by_cases he : (impl_Decimal.t w).toList = s.toList
        · rw [ByteArray.toList_eq, ByteArray.toList_eq, dec_list] at he
          rw [← he] at h18 hn
          rw [num_of_itoa (by omega)] at hn; cases hn
        · rw [if_neg he] at hv; cases hv
      · cases hv
      · cases hv
theorem ReadDecimal_eq (s : ByteArray) (hs : s.size ≤ 1048576) : impl_ReadDecimal.f s = some (pairN (numV s.data.toList)) := by
  unfold impl_ReadDecimal.f
  rw [if_pos (by omega), RD_eq]
  cases numV s.data.toList <;> rfl

def baL (l : List UInt8) : ByteArray := ⟨l.toArray⟩
def splitL (c : UInt8) (cur : List UInt8) : List UInt8 → List (List UInt8)
  | [] => [cur]
  | b :: r => if b = c then cur :: splitL c [] r else splitL c (cur ++ [b]) r
theorem baL_data (l : List UInt8) : (baL l).data.toList = l := by unfold baL; simp
theorem data_baL (s : ByteArray) : baL s.data.toList = s := Lib.mk_data s
theorem Split_l0 (s : ByteArray) (c : UInt8) (hs : s.size ≤ 1048576) : ∀ (d k b i : Nat) (acc : List ByteArray), i + d = s.size → b ≤ i → acc.length ≤ i → d + 1 ≤ k →
    spec_l01Split.l0 k s (c.toNat : Int) acc (b : Int) (i : Int) = some (acc ++ (splitL c ((s.data.toList.drop b).take (i - b)) (s.data.toList.drop i)).map baL) := by
  intro d
  induction d with
  | zero =>
    intro k b i acc hi hb ha hk
    obtain ⟨k, rfl⟩ : ∃ m, k = m + 1 := ⟨k - 1, by omega⟩
    have hd : s.data.toList.drop i = [] := List.drop_eq_nil_of_le (by rw [← Lib.size_eq]; omega)
    simp only [spec_l01Split.l0]
    rw [if_neg (by omega), if_pos (nn_cast b), if_pos (by omega), if_pos (by omega), hd, Lib.extract_eq]
    show some (acc ++ [baL _]) = some (acc ++ [baL _])
    rw [show ((b : Int)).toNat = b by omega, show s.size - b = i - b by omega]
  | succ d ih =>
    intro k b i acc hi hb ha hk
    obtain ⟨k, rfl⟩ : ∃ m, k = m + 1 := ⟨k - 1, by omega⟩
    have hlt : i < s.data.toList.length := by rw [← Lib.size_eq]; omega
    obtain ⟨x, r, hd⟩ : ∃ x r, s.data.toList.drop i = x :: r := ⟨_, _, List.drop_eq_getElem_cons hlt⟩
    have hr : s.data.toList.drop (i + 1) = r := by rw [← List.drop_drop, hd]; rfl
    have e2 : wrap64 ((i : Int) + 1) = ((i + 1 : Nat) : Int) := by rw [wrap_id (by omega) (by omega)]; omega
    simp only [spec_l01Split.l0]
    rw [if_pos (by omega), if_pos (nn_cast i), bt_drop hd, e2, hd]
    by_cases hc : x = c
    · subst hc
      rw [if_pos rfl, if_pos (nn_cast b), if_pos (by omega), if_pos (by omega), if_pos (by omega), ih k (i + 1) (i + 1) _ (by omega) (by omega) (by rw [List.length_append]; simp; omega) (by omega), hr, Lib.extract_eq]
      rw [show splitL x ((s.data.toList.drop b).take (i - b)) (x :: r) = ((s.data.toList.drop b).take (i - b)) :: splitL x [] r from if_pos rfl]
      rw [Nat.sub_self, List.take_zero, List.map_cons, List.append_assoc, show ((b : Int)).toNat = b by omega, show ((i : Int)).toNat = i by omega]
      rfl
    · rw [if_neg (fun e => hc (UInt8.toNat_inj.1 (by omega))), ih k b (i + 1) _ (by omega) (by omega) (by omega) (by omega), hr]
      rw [show splitL c ((s.data.toList.drop b).take (i - b)) (x :: r) = splitL c (((s.data.toList.drop b).take (i - b)) ++ [x]) r from if_neg hc]
      have : (s.data.toList.drop b).take (i + 1 - b) = (s.data.toList.drop b).take (i - b) ++ [x] := by
        rw [show i + 1 - b = (i - b) + 1 by omega, List.take_add_one, List.getElem?_drop, show b + (i - b) = i by omega]
        have : s.data.toList[i]? = some x := by
          have := List.getElem?_drop (xs := s.data.toList) (i := i) (j := 0)
          rw [hd] at this; simpa using this.symm
        rw [this]; rfl
      rw [this]
theorem Split_eq (s : ByteArray) (c : UInt8) (hs : s.size ≤ 1048576) {k : Nat} (hk : s.size + 1 ≤ k) : spec_l01Split.f k s (c.toNat : Int) = some ((splitL c [] s.data.toList).map baL) := by
  unfold spec_l01Split.f
  have := Split_l0 s c hs s.size k 0 0 [] (by omega) (by omega) (by simp) (by omega)
  simpa using this
theorem splitL_none {c : UInt8} : ∀ (l cur : List UInt8), c ∉ l → splitL c cur l = [cur ++ l]
  | [], cur, _ => by simp [splitL]
  | b :: r, cur, h => by
    rw [show splitL c cur (b :: r) = splitL c (cur ++ [b]) r from if_neg (fun e => h (by rw [e]; exact List.mem_cons_self)), splitL_none r _ (fun e => h (List.mem_cons_of_mem _ e))]
    simp
theorem splitL_at {c : UInt8} : ∀ (a cur b : List UInt8), c ∉ a → splitL c cur (a ++ c :: b) = (cur ++ a) :: splitL c [] b
  | [], cur, b, _ => by
    rw [List.nil_append, List.append_nil]; exact if_pos rfl
  | x :: r, cur, b, h => by
    rw [List.cons_append, show splitL c cur (x :: (r ++ c :: b)) = splitL c (cur ++ [x]) (r ++ c :: b) from if_neg (fun e => h (by rw [e]; exact List.mem_cons_self)), splitL_at r _ b (fun e => h (List.mem_cons_of_mem _ e))]
    simp
theorem splitL_pos (c : UInt8) : ∀ (l cur : List UInt8), 1 ≤ (splitL c cur l).length
  | [], _ => Nat.le_refl _
  | b :: r, cur => by
    unfold splitL
    split
    · simp
    · exact splitL_pos c r _
theorem indexByte_at {c : UInt8} : ∀ (a b : List UInt8), c ∉ a → Lib.indexByte (a ++ c :: b) c = (a.length : Int)
  | [], b, _ => by simp [Lib.indexByte]
  | x :: r, b, h => by
    have ih := indexByte_at r b (fun e => h (List.mem_cons_of_mem _ e))
    have hx : (x == c) = false := beq_eq_false_iff_ne.2 (fun e => h (by rw [e]; exact List.mem_cons_self))
    rw [List.cons_append, Lib.indexByte, hx, ih]
    have : ((r.length : Int) == -1) = false := beq_eq_false_iff_ne.2 (by omega)
    simp [this]
theorem indexByte_no {c : UInt8} : ∀ (l : List UInt8), c ∉ l → Lib.indexByte l c = -1
  | [], _ => rfl
  | x :: r, h => by
    have ih := indexByte_no r (fun e => h (List.mem_cons_of_mem _ e))
    have hx : (x == c) = false := beq_eq_false_iff_ne.2 (fun e => h (by rw [e]; exact List.mem_cons_self))
    rw [Lib.indexByte, hx, ih]; rfl
theorem cut_at {c : UInt8} (a b : List UInt8) (h : c ∉ a) : Lib.cut (a ++ c :: b) [c] = (a, b, true) := by
  unfold Lib.cut
  rw [Lib.index_one, indexByte_at a b h, if_pos (by omega), show ((a.length : Int)).toNat = a.length by omega]
  simp
theorem cut_no {c : UInt8} (l : List UInt8) (h : c ∉ l) : Lib.cut l [c] = (l, [], false) := by
  unfold Lib.cut
  rw [Lib.index_one, indexByte_no l h, if_neg (by decide)]
end Go.Proofs.YtmoamoopoifnlaaGreatDoor.P

namespace Go.Proofs.YtmoamoopoifnlaaGreatDoor.P
open Go.RowKit Go.Proofs.YtmoamoopoifnlaaGreatDoorW.PrintWords Go.Proofs.YtmoamoopoifnlaaGreatDoorW.PrintLast Go.Proofs.YtmoamoopoifnlaaGreatDoorW.PrintMore
attribute [local go_sem] max2_int min2_int max_two min_two max_three min_three max_four min_four str_leq str_gtr str_geq
set_option linter.unusedVariables false
set_option linter.unusedSimpArgs false
def impl_readPitchIn.q (s k:Int) (a:ByteArray) (p:Int):Option Bool:=(impl_pitchIn.f s k p).bind fun r=>some (r.toList == a.toList)
def impl_readPitchIn.lst (q:Int→Option Bool):Nat→Int→Option (Int × Bool)
 | 0,_=>some (0,false)
 | n+1,p=>(q p).bind fun b=>if b=true then some (p,true) else impl_readPitchIn.lst q n (p+1)
end Go.Proofs.YtmoamoopoifnlaaGreatDoor.P

namespace Go.Proofs.YtmoamoopoifnlaaGreatDoor.P
open Go.RowKit Go.Proofs.YtmoamoopoifnlaaGreatDoorW.PrintWords Go.Proofs.YtmoamoopoifnlaaGreatDoorL
set_option linter.unusedVariables false
set_option linter.unusedSimpArgs false
def readL (s k : Int) (a : ByteArray) : Nat → Int → Int × Bool
  | 0, _ => (0, false)
  | n + 1, p => if (pt s k p).toList = a.toList then (p, true) else readL s k a n (p + 1)
def readPt (s k : Int) (a : ByteArray) : Int × Bool := readL s k a 36 (-12)
theorem readPitch_lst {s k : Int} (a : ByteArray) (h : keyB s k = true) : ∀ (n : Nat) (p : Int), -12 ≤ p → p + n = 24 → impl_readPitchIn.lst (impl_readPitchIn.q s k a) n p = some (readL s k a n p) := by
  intro n
  induction n with
  | zero => intro p _ _; rfl
  | succ n ih =>
    intro p h0 h1
    simp only [impl_readPitchIn.lst, readL, impl_readPitchIn.q]
    rw [pitchIn_eq h h0 (by omega)]
    simp only [Option.bind_some]
    by_cases he : (pt s k p).toList = a.toList
    · rw [if_pos (beq_iff_eq.2 he), if_pos he]
    · rw [if_neg (fun e => he (beq_iff_eq.1 e)), if_neg he]
      exact ih (p + 1) (by omega) (by omega)
/-- A pitch that is read lies within the pitches. -/
theorem readL_bounds {s k : Int} {a : ByteArray} : ∀ (n : Nat) (p : Int), (readL s k a n p).2 = true → p ≤ (readL s k a n p).1 ∧ (readL s k a n p).1 < p + n ∧ (pt s k (readL s k a n p).1).toList = a.toList := by
  intro n
  induction n with
  | zero => intro p h; simp [readL] at h
  | succ n ih =>
    intro p h
    simp only [readL] at h ⊢
    by_cases he : (pt s k p).toList = a.toList
    · rw [if_pos he] at h ⊢; exact ⟨by simp, by simp; omega, he⟩
    · rw [if_neg he] at h ⊢
      obtain ⟨h1, h2, h3⟩ := ih (p + 1) h
      exact ⟨by omega, by omega, h3⟩

def twoN (x : Int × Bool) (y : Option Int) : Option S67 := match x.2, y with | true, some n => some ⟨x.1, n⟩ | _, _ => none
def piece (s k : Int) (t : List UInt8) : Option S67 := twoN (readPt s k (baL (Lib.cut t [58]).1)) (numV (Lib.cut t [58]).2.1)
theorem baL_size (l : List UInt8) : (baL l).size = l.length := by unfold baL; show l.toArray.size = _; simp
theorem itoa_mem {n : Int} {b : UInt8} (h : b ∈ Lib.itoa n) : b = 45 ∨ digB b = true := by
  unfold Lib.itoa at h
  split at h
  · rcases List.mem_cons.1 h with rfl | h
    · exact Or.inl rfl
    · exact Or.inr (List.all_eq_true.1 (dec_spec n.natAbs n.natAbs (Nat.le_refl _)).2.1 b h)
  · exact Or.inr (List.all_eq_true.1 (dec_spec n.toNat n.toNat (Nat.le_refl _)).2.1 b h)
theorem itoa_no {n : Int} {b : UInt8} (h0 : b ≠ 45) (h1 : digB b = false) : b ∉ Lib.itoa n := fun h => by
  rcases itoa_mem h with rfl | h
  · exact h0 rfl
  · rw [h1] at h; cases h
theorem cut_shape (l : List UInt8) (c : UInt8) : (∃ a b, Lib.cut l [c] = (a, b, true) ∧ l = a ++ c :: b ∧ c ∉ a) ∨ (Lib.cut l [c] = (l, [], false) ∧ c ∉ l) := by
  by_cases hm : c ∈ l
  · obtain ⟨a, b, rfl, ha⟩ := List.eq_append_cons_of_mem hm
    exact Or.inl ⟨a, b, cut_at a b ha, rfl, ha⟩
  · exact Or.inr ⟨cut_no l hm, hm⟩
theorem splitL_le {c : UInt8} : ∀ (l cur : List UInt8), (splitL c cur l).length ≤ l.length + 1 ∧ ∀ t ∈ splitL c cur l, t.length ≤ cur.length + l.length
  | [], cur => ⟨by simp [splitL], fun t ht => by simp [splitL] at ht; rw [ht]; omega⟩
  | b :: r, cur => by
    unfold splitL
    by_cases hb : b = c
    · rw [if_pos hb]
      have ih := splitL_le (c := c) r []
      refine ⟨by rw [List.length_cons, List.length_cons]; have := ih.1; omega, fun t ht => ?_⟩
      rcases List.mem_cons.1 ht with rfl | ht
      · omega
      · have := ih.2 t ht
        rw [List.length_cons]; simp at this; omega
    · rw [if_neg hb]
      have ih := splitL_le (c := c) r (cur ++ [b])
      refine ⟨by rw [List.length_cons]; have := ih.1; omega, fun t ht => ?_⟩
      have := ih.2 t ht
      rw [List.length_cons]; simp at this; omega
theorem index_at {c : UInt8} (a b : List UInt8) (h : c ∉ a) : Lib.index (a ++ c :: b) [c] = (a.length : Int) := by rw [Lib.index_one, indexByte_at a b h]
theorem index_no {c : UInt8} (l : List UInt8) (h : c ∉ l) : Lib.index l [c] = -1 := by rw [Lib.index_one, indexByte_no l h]
theorem splitK_at {c : UInt8} (k : Nat) (a b : List UInt8) (h : c ∉ a) : Lib.splitK [c] 0 (k + 1) (a ++ c :: b) = a :: Lib.splitK [c] 0 k b := by
  have e1 : ((a.length : Int) == -1) = false := beq_eq_false_iff_ne.2 (by omega)
  rw [Lib.splitK, index_at a b h, e1, if_neg (by decide), show ((a.length : Int)).toNat = a.length by omega]
  simp
theorem splitK_no {c : UInt8} (k : Nat) (l : List UInt8) (h : c ∉ l) : Lib.splitK [c] 0 k l = [l] := by
  cases k with
  | zero => rfl
  | succ k => rw [Lib.splitK, index_no l h]; rfl
theorem splitK_same {c : UInt8} : ∀ (k : Nat) (l : List UInt8), (splitL c [] l).length ≤ k + 1 → Lib.splitK [c] 0 k l = splitL c [] l := by
  intro k
  induction k with
  | zero =>
    intro l h
    by_cases hm : c ∈ l
    · obtain ⟨a, b, rfl, ha⟩ := List.eq_append_cons_of_mem hm
      rw [splitL_at a [] b ha, List.length_cons] at h
      have := splitL_pos c b []
      omega
    · rw [splitL_none l [] hm]; rfl
  | succ k ih =>
    intro l h
    by_cases hm : c ∈ l
    · obtain ⟨a, b, rfl, ha⟩ := List.eq_append_cons_of_mem hm
      rw [splitL_at a [] b ha, List.length_cons] at h
      rw [splitK_at k a b ha, splitL_at a [] b ha, ih b (by omega)]; rfl
    · rw [splitL_none l [] hm, splitK_no _ l hm]; rfl
theorem map_baL_get {ps : List (List UInt8)} {i : Nat} (h : i < ps.length) : rdOf ByteArray.empty (ps.map baL) (i : Int) = baL ps[i] := by
  rw [rdOf_get (by simpa using h)]; simp

theorem text_ok {l : List Int} (hl : Bts l) {i : Int} (s : Int) {B : Int} (h0 : 0 ≤ i) (h1 : i ≤ B) (hB : B ≤ 4000000000) {c : List ByteArray} (n0 : 1 ≤ c.length) (n1 : c.length ≤ 200) : Dr (spec_l00Src_text.f l i s c) (fun v => v ∈ c) (B + 1) := by
  unfold spec_l00Src_text.f
  obtain ⟨v, j, t, e, ⟨v0, v1⟩, j0, j1⟩ := pick_ok hl s h0 h1 hB (n := (c.length : Int)) (by omega) (by omega)
  rw [e]; simp only [Option.bind_some]
  rw [if_pos v0, if_pos v1]
  obtain ⟨m, rfl⟩ : ∃ m : Nat, v = (m : Int) := ⟨v.toNat, by omega⟩
  have hm : m < c.length := by omega
  refine ⟨_, _, _, rfl, ?_, j0, j1⟩
  rw [rdOf_get hm]; exact List.getElem_mem hm
theorem one_ok {l : List Int} (hl : Bts l) {i : Int} (s : Int) {B : Int} (h0 : 0 ≤ i) (h1 : i ≤ B) (hB : B ≤ 4000000000) {n : Int} (n0 : 1 ≤ n) (n1 : n ≤ 200) : Dr (spec_l00Src_one.f l i s n) (fun _ => True) (B + 1) := by
  unfold spec_l00Src_one.f
  obtain ⟨v, j, t, e, _, j0, j1⟩ := pick_ok hl s h0 h1 hB n0 n1
  rw [e]; exact ⟨_, _, _, rfl, trivial, j0, j1⟩
theorem sumW_snoc : ∀ (S : List Int) (acc x : Int), sumW acc (S ++ [x]) = wrap64 (sumW acc S + x)
  | [], _, _ => rfl
  | y :: r, acc, x => sumW_snoc r (wrap64 (acc + y)) x
theorem markB_snoc {M : List Int} {x : Int} (h : markB M = true) (hM : 1 ≤ M.length) (hx : wB 2 3 x = true) : markB (M ++ [x]) = true := by
  cases M with
  | nil => simp at hM
  | cons m r =>
    unfold markB at h
    rw [Bool.and_eq_true] at h
    show (decide (m = 1) && (r ++ [x]).all (wB 2 3)) = true
    rw [h.1, List.all_append, h.2]
    show (true && (true && (wB 2 3 x && true))) = true
    rw [hx]; rfl
theorem Read_l1 {ws : List ByteArray} {g : ByteArray} (hg : g.size ≤ 100) {i : Nat} (hi : i < ws.length) {p : Int} (p0 : 0 ≤ p) (p1 : p < ((rdOf ByteArray.empty ws (i : Int)).size : Int)) (n : Int) (s : ByteArray) {S M : List Int} (hS : S.length ≤ 10000) (hM : M.length ≤ 10000) : ∀ (d K q : Nat) (mark : Int), q + d = g.size → d + 1 ≤ K → ∃ (K' : Nat) (mark' : Int), K ≤ K' + d + 1 ∧ spec_l17Read.l1 K ws g (i : Int) p n mark (q : Int) s S M = spec_l17Read.l0 K' ws g (wrap64 ((i : Int) + 1)) s (S ++ [n]) (M ++ [mark']) := by
  intro d
  induction d with
  | zero =>
    intro K q mark hq hK
    obtain ⟨K, rfl⟩ : ∃ m, K = m + 1 := ⟨K - 1, by omega⟩
    refine ⟨K, mark, by omega, ?_⟩
    simp only [spec_l17Read.l1]
    rw [if_neg (by omega), if_pos (by omega), if_pos (by omega)]
  | succ d ih =>
    intro K q mark hq hK
    obtain ⟨K, rfl⟩ : ∃ m, K = m + 1 := ⟨K - 1, by omega⟩
    have hw : wrap64 ((q : Int) + 1) = ((q + 1 : Nat) : Int) := by rw [wrap_id (by omega) (by omega)]; omega
    simp only [spec_l17Read.l1]
    rw [if_pos (by omega), if_pos (nn_cast q), if_pos (nn_cast i), if_pos (lt_cast hi), if_pos p0, if_pos p1, hw]
    by_cases h : bt g (q : Int) = bt (rdOf ByteArray.empty ws (i : Int)) p
    · rw [if_pos h]
      obtain ⟨K', m', h1, h2⟩ := ih K (q + 1) (q : Int) (by omega) (by omega)
      exact ⟨K', m', by omega, h2⟩
    · rw [if_neg h]
      obtain ⟨K', m', h1, h2⟩ := ih K (q + 1) mark (by omega) (by omega)
      exact ⟨K', m', by omega, h2⟩
theorem Read_l0 {ws : List ByteArray} {g : ByteArray} (hg : g.size ≤ 100) (hn : ws.length ≤ 1010) (hp : ∀ t ∈ ws, t.size ≤ 1010) (s : ByteArray) : ∀ (d K i : Nat) (S M : List Int), i + d = ws.length → S.length ≤ i → M.length ≤ i → 200 * d + 3000 ≤ K → ∃ s' S' M' ok, spec_l17Read.l0 K ws g (i : Int) s S M = some (s', S', M', ok) ∧ (ok = true → talaB s' S' M' = true) := by
  intro d
  induction d with
  | zero =>
    intro K i S M hi hS hM hK
    obtain ⟨K, rfl⟩ : ∃ m, K = m + 1 := ⟨K - 1, by omega⟩
    simp only [spec_l17Read.l0]
    rw [if_neg (by omega), l17Ok_eq s S M (by omega)]; simp only [Option.bind_some]
    by_cases h : talaB s S M = true
    · rw [if_pos h]; exact ⟨_, _, _, _, rfl, fun _ => h⟩
    · rw [if_neg h]; exact ⟨_, _, _, _, rfl, fun h => by cases h⟩
  | succ d ih =>
    intro K i S M hi hS hM hK
    obtain ⟨K, rfl⟩ : ∃ m, K = m + 1 := ⟨K - 1, by omega⟩
    have hlt : i < ws.length := by omega
    have hz := hp ws[i] (List.getElem_mem hlt)
    have hr : rdOf ByteArray.empty ws (i : Int) = ws[i] := rdOf_get hlt
    simp only [spec_l17Read.l0]
    rw [if_pos (lt_cast hlt), if_pos (nn_cast i), hr]
    by_cases h2 : (ws[i].size : Int) < 2
    · rw [if_pos h2]; exact ⟨_, _, _, _, rfl, fun h => by cases h⟩
    rw [if_neg h2, wrap_id (x := (ws[i].size : Int) - 1) (by omega) (by omega), if_pos (by omega), if_pos (by omega)]
    have he : (ws[i].extract 0 ((ws[i].size : Int) - 1).toNat).size ≤ 1048576 := by rw [ByteArray.size_extract]; omega
    rw [Number_eq _ he (by omega)]; simp only [Option.bind_some]
    cases numV (ws[i].extract 0 ((ws[i].size : Int) - 1).toNat).data.toList with
    | none => exact ⟨_, _, _, _, rfl, fun h => by cases h⟩
    | some n =>
      show ∃ s' S' M' ok, (if true = true then spec_l17Read.l1 K ws g (i : Int) ((ws[i].size : Int) - 1) n (-1) 0 s S M else _) = _ ∧ _
      rw [if_pos rfl]
      obtain ⟨K', m', k1, k2⟩ := Read_l1 hg hlt (p := (ws[i].size : Int) - 1) (by omega) (by rw [hr]; omega) n s (S := S) (M := M) (by omega) (by omega) g.size K 0 (-1) (by omega) (by omega)
      have k2' : spec_l17Read.l1 K ws g (i : Int) ((ws[i].size : Int) - 1) n (-1) 0 s S M = _ := k2
      rw [k2', wrap_succ hlt (by omega)]
      exact ih K' (i + 1) (S ++ [n]) (M ++ [m']) (by omega) (by rw [List.length_append]; simp; omega) (by rw [List.length_append]; simp; omega) (by omega)
theorem l17Read_ok (a : ByteArray) (ha : a.size ≤ 1000) {K : Nat} (hK : 300000 ≤ K) : ∃ s S M ok, spec_l17Read.f K a = some (s, S, M, ok) ∧ (ok = true → talaB s S M = true) := by
  unfold spec_l17Read.f spec_l17Signs.f
  have hz : a.data.toList.length = a.size := (Lib.size_eq a).symm
  obtain ⟨s1, s2⟩ := splitL_le (c := 32) a.data.toList []
  have hpos := splitL_pos 32 a.data.toList []
  have E1 : spec_l01Split.f K a 32 = some ((splitL 32 [] a.data.toList).map baL) := Split_eq a 32 (by omega) (k := K) (by omega)
  rw [E1]; simp only [Option.bind_some]
  rw [if_pos (by rw [List.length_map]; omega)]
  exact Read_l0 (ws := (splitL 32 [] a.data.toList).map baL) (g := (⟨#[45, 88, 43, 111]⟩ : ByteArray)) (by decide) (by rw [List.length_map]; omega) (fun t ht => by
    obtain ⟨x, hx, rfl⟩ := List.mem_map.1 ht
    have := s2 x hx
    rw [baL_size]
    simp at this; omega) _ ((splitL 32 [] a.data.toList).map baL).length.pred K 1 [] [] (by rw [List.length_map]; simp only [Nat.pred_eq_sub_one]; omega) (by simp) (by simp) (by rw [List.length_map]; simp only [Nat.pred_eq_sub_one]; omega)
def newB : ByteArray := (⟨#[110, 101, 119]⟩ : ByteArray)
theorem new_ok : nameB newB = true := by decide +kernel
theorem Tala_l0 {l : List Int} (hl : Bts l) : ∀ (n K : Nat) (i s B : Int) (S M : List Int), n < K → n ≤ 3 → 0 ≤ i → i ≤ B → B + 2 * n ≤ 1000000 → 1 ≤ S.length → S.length + n ≤ 8 → M.length = S.length → S.all (wB 1 16) = true → markB M = true → 0 ≤ sumW 0 S → sumW 0 S + 6 * n ≤ 32 → ∃ S' M' i' s', spec_l17Draw.l0 K (n : Int) l i s newB S M = some (newB, S', M', i', s') ∧ talaB newB S' M' = true := by
  intro n
  induction n with
  | zero =>
    intro K i s B S M hK _ h0 h1 hB s1 s8 hm ha hb u0 u1
    obtain ⟨K, rfl⟩ : ∃ m, K = m + 1 := ⟨K - 1, by omega⟩
    simp only [spec_l17Draw.l0]
    rw [if_neg (by omega)]
    refine ⟨S, M, _, _, rfl, ?_⟩
    unfold talaB
    rw [new_ok, decide_eq_true s1, decide_eq_true (by omega : S.length ≤ 8), decide_eq_true hm, ha, hb, decide_eq_true (by omega : sumW 0 S ≤ 32)]; rfl
  | succ n ih =>
    intro K i s B S M hK h3 h0 h1 hB s1 s8 hm ha hb u0 u1
    obtain ⟨K, rfl⟩ : ∃ m, K = m + 1 := ⟨K - 1, by omega⟩
    simp only [spec_l17Draw.l0]
    rw [if_pos (by omega)]
    obtain ⟨v, j, t, e, ⟨v0, v1⟩, j0, j1⟩ := pick_ok hl s h0 h1 (by omega) (n := 6) (by decide) (by decide)
    rw [e]; simp only [Option.bind_some]
    rw [if_pos (by omega)]
    obtain ⟨v2, j2, t2, e2, ⟨v20, v21⟩, j20, j21⟩ := pick_ok hl t j0 j1 (by omega) (n := 2) (by decide) (by decide)
    rw [e2]; simp only [Option.bind_some]
    rw [if_pos (by omega), show wrap64 (((n + 1 : Nat) : Int) - 1) = (n : Int) by rw [wrap_id (by omega) (by omega)]; omega, wrap_id (x := 1 + v) (by omega) (by omega), wrap_id (x := 2 + v2) (by omega) (by omega)]
    have hu : sumW 0 (S ++ [1 + v]) = sumW 0 S + (1 + v) := by rw [sumW_snoc, wrap_id (by omega) (by omega)]
    refine ih K j2 t2 (B + 1 + 1) (S ++ [1 + v]) (M ++ [2 + v2]) (by omega) (by omega) j20 j21 (by omega) (by rw [List.length_append]; simp) (by rw [List.length_append]; simp; omega) (by rw [List.length_append, List.length_append, hm]; rfl) ?_ (markB_snoc hb (by omega) ?_) (by omega) (by omega)
    · rw [List.all_append, ha]
      show (true && (wB 1 16 (1 + v) && true)) = true
      unfold wB
      rw [decide_eq_true (by omega), decide_eq_true (by omega)]; rfl
    · unfold wB
      rw [decide_eq_true (by omega), decide_eq_true (by omega)]; rfl
theorem l17Draw_ok {l : List Int} (hl : Bts l) {i : Int} (s : Int) {B : Int} (h0 : 0 ≤ i) (h1 : i ≤ B) (hB : B ≤ 100) {K : Nat} (hK : 400000 ≤ K) : ∃ n S M i' s', spec_l17Draw.f K l i s = some (n, S, M, i', s') ∧ talaB n S M = true := by
  unfold spec_l17Draw.f
  obtain ⟨a, j, t, e, ha, j0, j1⟩ := text_ok hl s h0 h1 (by omega) (c := [(⟨#[116, 105, 110, 116, 97, 108, 32, 52, 88, 32, 52, 43, 32, 52, 111, 32, 52, 43]⟩ : ByteArray), (⟨#[106, 104, 97, 112, 116, 97, 108, 32, 50, 88, 32, 51, 43, 32, 50, 111, 32, 51, 43]⟩ : ByteArray), (⟨#[114, 117, 112, 97, 107, 32, 51, 88, 32, 50, 43, 32, 50, 43]⟩ : ByteArray), (⟨#[101, 107, 116, 97, 108, 32, 50, 88, 32, 50, 111, 32, 50, 43, 32, 50, 111, 32, 50, 43, 32, 50, 43]⟩ : ByteArray), (⟨#[100, 97, 100, 114, 97, 32, 51, 88, 32, 51, 111]⟩ : ByteArray), (⟨#[111, 110, 101, 32, 49, 88]⟩ : ByteArray)]) (by decide) (by decide)
  rw [e]; simp only [Option.bind_some]
  have hz : a.size ≤ 1000 := by
    have h : ∀ x ∈ [(⟨#[116, 105, 110, 116, 97, 108, 32, 52, 88, 32, 52, 43, 32, 52, 111, 32, 52, 43]⟩ : ByteArray), (⟨#[106, 104, 97, 112, 116, 97, 108, 32, 50, 88, 32, 51, 43, 32, 50, 111, 32, 51, 43]⟩ : ByteArray), (⟨#[114, 117, 112, 97, 107, 32, 51, 88, 32, 50, 43, 32, 50, 43]⟩ : ByteArray), (⟨#[101, 107, 116, 97, 108, 32, 50, 88, 32, 50, 111, 32, 50, 43, 32, 50, 111, 32, 50, 43, 32, 50, 43]⟩ : ByteArray), (⟨#[100, 97, 100, 114, 97, 32, 51, 88, 32, 51, 111]⟩ : ByteArray), (⟨#[111, 110, 101, 32, 49, 88]⟩ : ByteArray)], x.size ≤ 1000 := by decide
    exact h a ha
  obtain ⟨n, S, M, ok, e2, hok⟩ := l17Read_ok a hz (K := K) (by omega)
  rw [e2]; simp only [Option.bind_some]
  obtain ⟨K, rfl⟩ : ∃ m, K = m + 1 := ⟨K - 1, by omega⟩
  have new : ∀ (i s : Int), 0 ≤ i → i ≤ B + 2 → ∃ n' S' M' i' s', spec_l17Draw.j0 (K + 1) true l i s n S M = some (n', S', M', i', s') ∧ talaB n' S' M' = true := by
    intro i s i0 i1
    simp only [spec_l17Draw.j0]
    rw [if_pos trivial]
    obtain ⟨v, j, t, e, ⟨v0, v1⟩, j0, j1⟩ := pick_ok hl s i0 i1 (by omega) (n := 8) (by decide) (by decide)
    rw [e]; simp only [Option.bind_some]
    obtain ⟨v2, j2, t2, e2, ⟨v20, v21⟩, j20, j21⟩ := pick_ok hl t j0 j1 (by omega) (n := 4) (by decide) (by decide)
    rw [e2]; simp only [Option.bind_some]
    obtain ⟨m, rfl⟩ : ∃ m : Nat, v2 = (m : Int) := ⟨v2.toNat, by omega⟩
    rw [wrap_id (x := 1 + v) (by omega) (by omega)]
    have hu : sumW 0 [1 + v] = 1 + v := by
      show wrap64 (0 + (1 + v)) = _
      rw [wrap_id (by omega) (by omega)]; omega
    obtain ⟨S', M', i', s', e3, h3⟩ := Tala_l0 hl m K j2 t2 (B + 2 + 1 + 1) [1 + v] [1] (by omega) (by omega) j20 j21 (by omega) (by simp) (by simp; omega) rfl (by
      show (wB 1 16 (1 + v) && true) = true
      unfold wB
      rw [decide_eq_true (by omega), decide_eq_true (by omega)]; rfl) (by decide) (by omega) (by omega)
    exact ⟨_, _, _, _, _, e3, h3⟩
  by_cases hk : ok = true
  · rw [if_pos hk]
    obtain ⟨v, j2, t2, e3, _, j20, j21⟩ := one_ok hl t j0 j1 (by omega) (n := 4) (by decide) (by decide)
    rw [e3]; simp only [Option.bind_some]
    cases v
    · simp only [spec_l17Draw.j0]
      rw [if_neg (by decide)]
      exact ⟨_, _, _, _, _, rfl, hok hk⟩
    · exact new j2 t2 j20 (by omega)
  · rw [if_neg hk]
    exact new j t j0 (by omega)
theorem R8Tala_ok {l : List Int} (hl : Bts l) {K : Nat} (hK : 400000 ≤ K) : ∃ s S M, spec_R8Tala.f K l = some (s, S, M) ∧ talaB s S M = true := by
  unfold spec_R8Tala.f spec_l00From.f
  simp only [Option.bind_some]
  obtain ⟨n, S, M, i', s', e, h⟩ := l17Draw_ok hl (i := 0) (B := 0) 0 (by omega) (by omega) (by omega) hK
  rw [e]; exact ⟨_, _, _, rfl, h⟩

def p1 (p : Int) : List UInt8 := ([83, 114, 82, 103, 71, 109, 77, 80, 100, 68, 110, 78] : List UInt8).getD (p % 12).toNat 0 :: (if p / 12 < 0 then [44] else if p / 12 > 0 then [39] else [])
def tabL : List (List UInt8) := [[67], [68, 98], [68], [69, 98], [69], [70], [71, 98], [71], [65, 98], [65], [66, 98], [66]]
def tabM : List (List UInt8) := [[49], [50, 98], [50], [51, 98], [51], [52], [52, 35], [53], [54, 98], [54], [55, 98], [55]]
def p2 (q : Int) : List UInt8 := tabL.getD (q % 12).toNat [] ++ [UInt8.ofNat (48 + (q / 12 + 4).toNat)]
def p3 (p : Int) : List UInt8 := (if p / 12 < 0 then [95] else if p / 12 > 0 then [94] else []) ++ tabM.getD (p % 12).toNat []
theorem p1_inj : ∀ a b : Fin 36, p1 ((a.val : Int) - 12) = p1 ((b.val : Int) - 12) → a = b := by decide +kernel
theorem p2_inj : ∀ a b : Fin 47, p2 ((a.val : Int) - 12) = p2 ((b.val : Int) - 12) → a = b := by decide +kernel
theorem p3_inj : ∀ a b : Fin 36, p3 ((a.val : Int) - 12) = p3 ((b.val : Int) - 12) → a = b := by decide +kernel
theorem fin_inj {f : Int → List UInt8} {n : Nat} (h : ∀ a b : Fin n, f ((a.val : Int) - 12) = f ((b.val : Int) - 12) → a = b) {x y : Int} (x0 : -12 ≤ x) (x1 : x < (n : Int) - 12) (y0 : -12 ≤ y) (y1 : y < (n : Int) - 12) (e : f x = f y) : x = y := by
  have := h ⟨(x + 12).toNat, by omega⟩ ⟨(y + 12).toNat, by omega⟩ (by
    show f (((x + 12).toNat : Int) - 12) = f (((y + 12).toNat : Int) - 12)
    rw [show (((x + 12).toNat : Int) - 12) = x by omega, show (((y + 12).toNat : Int) - 12) = y by omega]; exact e)
  have := congrArg Fin.val this
  simp only at this
  omega
theorem name_tab : ∀ j : Fin 12, (nameT (j.val : Int)).data.toList = [([83, 114, 82, 103, 71, 109, 77, 80, 100, 68, 110, 78] : List UInt8).getD j.val 0] := by decide +kernel
theorem L_tab : ∀ j : Fin 12, (impl_pitchIn.at_ impl_pitchIn.L (j.val : Int)).data.toList = tabL.getD j.val [] := by decide +kernel
theorem M_tab : ∀ j : Fin 12, (impl_pitchIn.at_ impl_pitchIn.M (j.val : Int)).data.toList = tabM.getD j.val [] := by decide +kernel
theorem tab_at {α : Type} {g : Int → α} {h : Nat → α} (e : ∀ j : Fin 12, g (j.val : Int) = h j.val) (q : Int) : g (q % 12) = h (q % 12).toNat := by
  have := e ⟨(q % 12).toNat, by omega⟩
  simp only at this
  rw [show (((q % 12).toNat : Nat) : Int) = q % 12 by omega] at this
  exact this
theorem dec_one {n : Int} (h0 : 0 ≤ n) (h1 : n < 10) : (impl_Decimal.t n).data.toList = [UInt8.ofNat (48 + n.toNat)] := by
  rw [dec_list]
  unfold Lib.itoa
  rw [if_neg (by omega), Lib.decDigits_one (by omega)]
theorem itoa_short {n : Int} (h0 : 0 ≤ n) (h1 : n < 1000) : numV (Lib.itoa n) = some n := by
  refine num_of_itoa ?_
  have h2 := Lib.trimPrefix_le (Lib.itoa n) [45]
  have h3 : (Lib.itoa n).length ≤ 18 := by
    unfold Lib.itoa
    rw [if_neg (by omega), Lib.decDigits_length]
    by_cases a : n.toNat < 10
    · rw [Lib.nDigits_small a]; omega
    · rw [Lib.nDigits_big a]
      by_cases b : n.toNat / 10 < 10
      · rw [Lib.nDigits_small b]; omega
      · rw [Lib.nDigits_big b, Lib.nDigits_small (by omega)]; omega
  omega
theorem pt_inj {s k p q : Int} (h : keyB s k = true) (p0 : -12 ≤ p) (p9 : p ≤ 23) (q0 : -12 ≤ q) (q9 : q ≤ 23) (e : (pt s k p).toList = (pt s k q).toList) : p = q := by
  rw [ByteArray.toList_eq, ByteArray.toList_eq] at e
  obtain ⟨⟨a1, a2⟩, b1, b2⟩ := keyB_iff.1 h
  unfold pt at e
  by_cases s1 : s = 1
  · rw [if_pos s1, if_pos s1] at e
    have key : ∀ x : Int, (if x / 12 < 0 then nameT (x % 12) ++ (⟨#[44]⟩ : ByteArray) else if x / 12 > 0 then nameT (x % 12) ++ (⟨#[39]⟩ : ByteArray) else nameT (x % 12)).data.toList = p1 x := fun x => by
      have hn := tab_at (g := fun t => (nameT t).data.toList) (h := fun j => [([83, 114, 82, 103, 71, 109, 77, 80, 100, 68, 110, 78] : List UInt8).getD j 0]) name_tab x
      (try simp only at hn)
      unfold p1
      split
      · first | (rw [ba_app, hn]; done) | (rw [ba_app, hn]; rfl)
      · split
        · first | (rw [ba_app, hn]; done) | (rw [ba_app, hn]; rfl)
        · exact hn
    rw [key, key] at e
    exact fin_inj p1_inj p0 (by omega) q0 (by omega) e
  rw [if_neg s1, if_neg s1] at e
  by_cases s2 : s = 2
  · rw [if_pos s2, if_pos s2] at e
    have key : ∀ x : Int, -12 ≤ x → x < 35 → (impl_pitchIn.at_ impl_pitchIn.L (x % 12) ++ impl_Decimal.t (x / 12 + 4)).data.toList = p2 x := fun x x0 x1 => by
      have hn := tab_at (g := fun t => (impl_pitchIn.at_ impl_pitchIn.L t).data.toList) (h := fun j => tabL.getD j []) L_tab x
      (try simp only at hn)
      unfold p2
      rw [ba_app, hn, dec_one (by omega) (by omega)]
    rw [key _ (by omega) (by omega), key _ (by omega) (by omega)] at e
    have := fin_inj p2_inj (x := p + k) (y := q + k) (by omega) (by omega) (by omega) (by omega) e
    omega
  rw [if_neg s2, if_neg s2] at e
  by_cases s3 : s = 3
  · rw [if_pos s3, if_pos s3] at e
    have key : ∀ x : Int, (if x / 12 < 0 then (⟨#[95]⟩ : ByteArray) ++ impl_pitchIn.at_ impl_pitchIn.M (x % 12) else if x / 12 > 0 then (⟨#[94]⟩ : ByteArray) ++ impl_pitchIn.at_ impl_pitchIn.M (x % 12) else impl_pitchIn.at_ impl_pitchIn.M (x % 12)).data.toList = p3 x := fun x => by
      have hn := tab_at (g := fun t => (impl_pitchIn.at_ impl_pitchIn.M t).data.toList) (h := fun j => tabM.getD j []) M_tab x
      (try simp only at hn)
      unfold p3
      split
      · first | (rw [ba_app, hn]; done) | (rw [ba_app, hn]; rfl)
      · split
        · first | (rw [ba_app, hn]; done) | (rw [ba_app, hn]; rfl)
        · exact hn
    rw [key, key] at e
    exact fin_inj p3_inj p0 (by omega) q0 (by omega) e
  rw [if_neg s3, if_neg s3, dec_list, dec_list] at e
  have e1 := itoa_short (n := p + k + 60) (by omega) (by omega)
  have e2 := itoa_short (n := q + k + 60) (by omega) (by omega)
  rw [e, e2] at e1
  have := Option.some.inj e1
  omega
theorem readL_hit {s k p : Int} (h : keyB s k = true) (p9 : p ≤ 23) : ∀ (n : Nat) (x : Int), -12 ≤ x → x ≤ p → p < x + n → x + n = 24 → readL s k (pt s k p) n x = (p, true) := by
  intro n
  induction n with
  | zero => intro x _ _ _ _; omega
  | succ n ih =>
    intro x x0 x1 x2 x3
    unfold readL
    by_cases e : (pt s k x).toList = (pt s k p).toList
    · rw [if_pos e, pt_inj h x0 (by omega) (by omega) p9 e]
    · rw [if_neg e]
      have hne : x ≠ p := fun h => e (by rw [h])
      exact ih (x + 1) (by omega) (by omega) (by omega) (by omega)
theorem readPt_pt {s k p : Int} (h : keyB s k = true) (p0 : -12 ≤ p) (p9 : p ≤ 23) : readPt s k (pt s k p) = (p, true) := readL_hit h p9 36 (-12) (by omega) p0 (by omega) (by omega)
theorem split_join {c : UInt8} : ∀ (r : List (List UInt8)) (a : List UInt8), c ∉ a → (∀ b ∈ r, c ∉ b) → splitL c [] (a ++ Lib.joinTail [c] r) = a :: r
  | [], a, ha, _ => by
    rw [show Lib.joinTail [c] [] = [] from rfl, List.append_nil, splitL_none a [] ha]; rfl
  | b :: r, a, ha, hr => by
    have e : Lib.joinTail [c] (b :: r) = c :: (b ++ Lib.joinTail [c] r) := by simp [Lib.joinTail]
    rw [e, splitL_at a [] _ ha, split_join r b (hr b List.mem_cons_self) (fun x hx => hr x (List.mem_cons_of_mem _ hx))]; rfl

def NM : List UInt8 := [83, 114, 82, 103, 71, 109, 77, 80, 100, 68, 110, 78]
def DG : List UInt8 := [48, 49, 50, 51, 52, 53, 54, 55, 56, 57]
def noteW (x : S67) : List UInt8 := p1 x.f0 ++ (if x.f1 = 1 then [] else Lib.itoa x.f1)
def nameOf (l : List UInt8) : List UInt8 := Lib.trimRightS l DG
def oneX (l : List UInt8) : S67 := ⟨(readPt 1 0 (baL (nameOf l))).1, if nameOf l = l then 1 else (pairN (numV (l.drop (nameOf l).length))).1⟩
def oneN (l : List UInt8) : Option S67 := if (readPt 1 0 (baL (nameOf l))).2 = true then (if noteB (oneX l) = true ∧ noteW (oneX l) = l then some (oneX l) else none) else none
theorem key10 : keyB 1 0 = true := by decide
theorem pt1_data (p : Int) : (pt 1 0 p).data.toList = p1 p := by
  have hn := tab_at (g := fun t => (nameT t).data.toList) (h := fun j => [([83, 114, 82, 103, 71, 109, 77, 80, 100, 68, 110, 78] : List UInt8).getD j 0]) name_tab p
  (try simp only at hn)
  unfold pt p1
  rw [if_pos rfl]
  split
  · rw [ba_app, hn]; rfl
  · split
    · rw [ba_app, hn]; rfl
    · exact hn
theorem pitchText_eq {p : Int} (h0 : -12 ≤ p) (h1 : p ≤ 23) : impl_pitchText.f p = some (pt 1 0 p) := by
  have := pitchIn_eq key10 h0 h1
  unfold impl_pitchIn.f at this
  simpa using this
theorem named_lst (a : ByteArray) : ∀ (n : Nat) (p : Int), -12 ≤ p → p + n = 24 → impl_pitchNamed.lst (impl_pitchNamed.q a) n p = some (readL 1 0 a n p) := by
  intro n
  induction n with
  | zero => intro p _ _; rfl
  | succ n ih =>
    intro p h0 h1
    have := readPitch_lst a key10 (n + 1) p h0 h1
    rw [← this]
    simp only [impl_pitchNamed.lst, impl_readPitchIn.lst, impl_pitchNamed.q, impl_readPitchIn.q]
    rw [pitchText_eq h0 (by omega), pitchIn_eq key10 h0 (by omega)]
    simp only [Option.bind_some]
    have e := ih (p + 1) (by omega) (by omega)
    have e2 := readPitch_lst a key10 n (p + 1) (by omega) (by omega)
    have e3 : impl_pitchNamed.lst (impl_pitchNamed.q a) n (p + 1) = impl_readPitchIn.lst (impl_readPitchIn.q 1 0 a) n (p + 1) := by rw [e, e2]
    split
    · rfl
    · exact e3
theorem pitchNamed_eq (a : ByteArray) : impl_pitchNamed.f a = some (readPt 1 0 a) := named_lst a 36 (-12) (by omega) (by omega)
theorem dg_iff : ∀ b : Fin 256, DG.contains (UInt8.ofNat b.val) = digB (UInt8.ofNat b.val) := by decide +kernel
theorem u8_all {P : UInt8 → Prop} (h : ∀ b : Fin 256, P (UInt8.ofNat b.val)) (c : UInt8) : P c := by
  have := h ⟨c.toNat, c.toNat_lt⟩
  simpa using this
theorem dg_eq (c : UInt8) : DG.contains c = digB c := u8_all (P := fun c => DG.contains c = digB c) dg_iff c
theorem trim_app (l : List UInt8) : ∀ (s : List UInt8), s.all digB = true → nameOf (l ++ s) = nameOf l := by
  intro s h
  unfold nameOf Lib.trimRightS
  rw [List.reverse_append]
  congr 1
  refine List.dropWhile_append_of_pos (fun a ha => ?_)
  rw [dg_eq]
  exact List.all_eq_true.1 h a (List.mem_reverse.1 ha)
theorem trim_le (l : List UInt8) : (nameOf l).length ≤ l.length := by
  unfold nameOf Lib.trimRightS
  rw [List.length_reverse]
  have := (List.dropWhile_sublist (l := l.reverse) (DG.contains ·)).length_le
  rw [List.length_reverse] at this
  exact this
theorem p1_trim : ∀ p : Fin 36, nameOf (p1 ((p.val : Int) - 12)) = p1 ((p.val : Int) - 12) := by decide +kernel
theorem p1_name {p : Int} (h0 : -12 ≤ p) (h1 : p ≤ 23) : nameOf (p1 p) = p1 p := by
  have := p1_trim ⟨(p + 12).toNat, by omega⟩
  simp only at this
  rw [show (((p + 12).toNat : Nat) : Int) - 12 = p by omega] at this
  exact this
theorem itoa_dig {n : Int} (h : 0 ≤ n) : (Lib.itoa n).all digB = true ∧ Lib.itoa n ≠ [] := by
  unfold Lib.itoa
  rw [if_neg (by omega)]
  have := dec_spec n.toNat n.toNat (Nat.le_refl _)
  exact ⟨this.2.1, this.1⟩
theorem noteB_iff {x : S67} : noteB x = true ↔ (-12 ≤ x.f0 ∧ x.f0 ≤ 23) ∧ 1 ≤ x.f1 ∧ x.f1 ≤ 64 := by
  unfold noteB
  rw [Bool.and_eq_true, Bool.and_eq_true, Bool.and_eq_true, decide_eq_true_iff, decide_eq_true_iff, decide_eq_true_iff, decide_eq_true_iff]
theorem baL_p1 (p : Int) : baL (p1 p) = pt 1 0 p := by rw [← pt1_data, data_baL]
theorem one_back {x : S67} (hx : noteB x = true) : oneN (noteW x) = some x := by
  obtain ⟨⟨a1, a2⟩, b1, b2⟩ := noteB_iff.1 hx
  have hd := itoa_dig (n := x.f1) (by omega)
  have hn : nameOf (noteW x) = p1 x.f0 := by
    unfold noteW
    rw [trim_app _ _ (by split; rfl; exact hd.1), p1_name a1 a2]
  have hr : readPt 1 0 (baL (nameOf (noteW x))) = (x.f0, true) := by rw [hn, baL_p1, readPt_pt key10 a1 a2]
  have he : oneX (noteW x) = x := by
    unfold oneX
    rw [hr, hn]
    obtain ⟨p, n⟩ := x
    dsimp only at *
    by_cases h1 : n = 1
    · subst h1
      rw [if_pos (by unfold noteW; simp)]
    · have hw : noteW ⟨p, n⟩ = p1 p ++ Lib.itoa n := by unfold noteW; rw [if_neg h1]
      rw [hw, if_neg (fun e => hd.2 (by have := congrArg List.length e; rw [List.length_append] at this; exact List.eq_nil_of_length_eq_zero (by omega))), List.drop_left, itoa_short (by omega) (by omega)]
      rfl
  unfold oneN
  rw [hr, if_pos rfl, he, if_pos ⟨hx, rfl⟩]
theorem one_of {l : List UInt8} {x : S67} (h : oneN l = some x) : noteB x = true ∧ noteW x = l := by
  unfold oneN at h
  split at h
  · split at h
    · next hc => rw [← Option.some.inj h]; exact hc
    · cases h
  · cases h
/-- The reference's road over a word's letters. -/
def namedL : List UInt8 → Nat → UInt8 → Int
  | [], _, _ => -1
  | b :: r, i, c => if b = c then (i : Int) else namedL r (i + 1) c
def named (c : UInt8) : Int := namedL NM 0 c
theorem named_of : ∀ t : Fin 12, named (NM.getD t.val 0) = (t.val : Int) := by decide +kernel
theorem p1_cons (p : Int) : p1 p = NM.getD (p % 12).toNat 0 :: (if p / 12 < 0 then [44] else if p / 12 > 0 then [39] else []) := rfl

theorem tl_iff (a b : ByteArray) : a.toList = b.toList ↔ a.data.toList = b.data.toList := by rw [ByteArray.toList_eq, ByteArray.toList_eq]
theorem MelodyText_one (x : S67) {K : Nat} (hK : 200 ≤ K) : impl_MelodyText.f K [x] = some (if noteB x = true then baL (noteW x) else (⟨#[]⟩ : ByteArray)) := by
  obtain ⟨K, rfl⟩ : ∃ m, K = m + 2 := ⟨K - 2, by omega⟩
  unfold impl_MelodyText.f
  rw [ValidMelody_eq (by omega)]; simp only [Option.bind_some]
  have hm : melB [x] = noteB x := by unfold melB; simp
  rw [hm]
  by_cases hx : noteB x = true
  rotate_left
  · rw [if_neg hx, if_neg hx]
  rw [if_pos hx, if_pos hx, if_neg (by simp)]
  obtain ⟨⟨a1, a2⟩, b1, b2⟩ := noteB_iff.1 hx
  have hsz := pt_size key10 a1 a2
  have hd := Decimal_size (n := x.f1) (by omega) (by omega)
  have fin : ∀ y : ByteArray, y.size ≤ 99 → y.data.toList = noteW x → impl_MelodyText.l0 (K + 1) [y] [x] (([x] : List S67).length : Int) (wrap64 (0 + 1)) = some (baL (noteW x)) := fun y hy hy2 => by
    have e1 : wrap64 (0 + 1) = 1 := by rw [wrap_id (by omega) (by omega)]; rfl
    simp only [impl_MelodyText.l0]
    rw [if_neg (by rw [e1]; simp), Join_eq (by simp) (fun z hz => by rw [List.mem_singleton] at hz; rw [hz]; exact hy)]
    show some y = _
    rw [← hy2, data_baL]
  simp only [impl_MelodyText.l0]
  rw [if_pos (by simp), if_pos (by decide), if_pos (by simp), show rd_T67 [x] 0 = x from rfl, pitchText_eq a1 a2]
  simp only [Option.bind_some]
  by_cases h1 : x.f1 = 1
  · rw [if_pos h1, if_pos (by simp)]
    exact fin _ (by omega) (by rw [pt1_data]; unfold noteW; rw [if_pos h1, List.append_nil])
  · rw [if_neg h1, Decimal_eq (by omega) (by omega)]
    simp only [Option.bind_some]
    rw [if_pos (by omega), if_pos (by simp)]
    exact fin _ (by rw [ByteArray.size_append]; omega) (by rw [ba_app, pt1_data, dec_list]; unfold noteW; rw [if_neg h1])
def oneR (l : List UInt8) : List S67 × Bool := if l = [45] then ([], true) else match oneN l with | some x => ([x], true) | none => ([], false)
theorem p1_ne (p : Int) : p1 p ≠ [] := by rw [p1_cons]; simp
theorem SplitN_one (a : ByteArray) (ha : a.size ≤ 1048576) (h : (32 : UInt8) ∉ a.data.toList) : strings_SplitN.f a (⟨#[32]⟩ : ByteArray) 49 = some [a] := by
  unfold strings_SplitN.f
  rw [if_pos ⟨⟨by omega, by decide⟩, by decide, by decide⟩]
  unfold strings_SplitN.t
  have h1 := Lib.splitB_data (⟨#[32]⟩ : ByteArray) 0 (min (49 : Int).toNat (a.size + 1) - 1) a
  rw [show (⟨#[32]⟩ : ByteArray).data.toList = [32] from rfl, splitK_no _ _ h] at h1
  have h2 := congrArg (List.map baL) h1
  rw [List.map_map] at h2
  have e : (baL ∘ fun x : ByteArray => x.data.toList) = id := by funext x; exact data_baL x
  rw [e, List.map_id] at h2
  rw [h2]
  show some [baL a.data.toList] = _
  rw [data_baL]
theorem ReadMelody_eq (a : ByteArray) (ha : a.size ≤ 1048576) (h : (32 : UInt8) ∉ a.data.toList) {K : Nat} (hK : 300 ≤ K) : impl_ReadMelody.f K a = some (oneR a.data.toList) := by
  obtain ⟨K, rfl⟩ : ∃ m, K = m + 2 := ⟨K - 2, by omega⟩
  unfold impl_ReadMelody.f oneR
  by_cases h45 : a.data.toList = [45]
  · rw [if_pos (by rw [ByteArray.toList_eq]; exact h45), if_pos h45]
  rw [if_neg (fun e => h45 (by rw [ByteArray.toList_eq] at e; exact e)), if_neg h45, SplitN_one a ha h]
  simp only [Option.bind_some]
  have hz : a.data.toList.length = a.size := (Lib.size_eq a).symm
  have hle := trim_le a.data.toList
  have hT : strings_TrimRight.f a (⟨#[48, 49, 50, 51, 52, 53, 54, 55, 56, 57]⟩ : ByteArray) = some (baL (nameOf a.data.toList)) := by
    unfold strings_TrimRight.f
    rw [if_pos ⟨by omega, by decide, by decide⟩]; rfl
  have e1 : wrap64 (0 + 1) = 1 := by rw [wrap_id (by omega) (by omega)]; rfl
  have fin : ∀ x : S67, (readPt 1 0 (baL (nameOf a.data.toList))).2 = true → x = oneX a.data.toList → impl_ReadMelody.l0 (K + 1) a [x] [a] (([a] : List ByteArray).length : Int) (wrap64 (0 + 1)) = some (match oneN a.data.toList with | some x => ([x], true) | none => ([], false)) := fun x hr hx => by
    simp only [impl_ReadMelody.l0]
    rw [if_neg (by rw [e1]; simp), MelodyText_one x (by omega)]
    simp only [Option.bind_some]
    unfold oneN
    rw [if_pos hr, ← hx]
    by_cases hb : noteB x = true
    · rw [if_pos hb]
      by_cases hw : noteW x = a.data.toList
      · rw [if_pos ((tl_iff _ _).2 (by rw [baL_data]; exact hw)), if_pos ⟨hb, hw⟩]
      · rw [if_neg (fun e => hw (by have := (tl_iff _ _).1 e; rw [baL_data] at this; exact this)), if_neg (fun e => hw e.2)]
    · rw [if_neg hb]
      rw [if_neg (c := (⟨#[]⟩ : ByteArray).toList = a.toList) (fun e => by
        have h0 : a.data.toList = [] := ((tl_iff _ _).1 e).symm
        have h1 := (readL_bounds 36 (-12) hr).2.2
        have h2 := (tl_iff _ _).1 h1
        rw [pt1_data, baL_data, h0] at h2
        exact p1_ne _ h2), if_neg (fun e => hb e.1)]
  simp only [impl_ReadMelody.l0]
  rw [if_pos (by simp), if_pos (by decide), if_pos (by simp), show rdOf ByteArray.empty [a] 0 = a from rfl, hT]
  simp only [Option.bind_some]
  rw [pitchNamed_eq]
  simp only [Option.bind_some]
  by_cases hn : nameOf a.data.toList = a.data.toList
  · rw [if_pos ((tl_iff _ _).2 (by rw [baL_data]; exact hn))]
    by_cases hr : (readPt 1 0 (baL (nameOf a.data.toList))).2 = true
    · rw [if_pos hr, if_pos (by simp)]
      exact fin _ hr (by unfold oneX; rw [if_pos hn])
    · rw [if_neg hr]; unfold oneN; rw [if_neg hr]
  · rw [if_neg (fun e => hn (by have := (tl_iff _ _).1 e; rw [baL_data] at this; exact this)), baL_size, if_pos (by omega), if_pos (by omega)]
    have hx : (a.extract ((((nameOf a.data.toList).length : Nat) : Int)).toNat a.size).data.toList = a.data.toList.drop (nameOf a.data.toList).length := by
      rw [Lib.extract_eq, Int.toNat_natCast]
      refine (baL_data _).trans ?_
      rw [List.take_of_length_le]
      rw [List.length_drop]; omega
    rw [ReadDecimal_eq _ (by rw [Lib.size_eq, hx, List.length_drop]; omega), hx]
    simp only [Option.bind_some]
    by_cases hr : (readPt 1 0 (baL (nameOf a.data.toList))).2 = true
    · rw [if_pos hr, if_pos (by simp)]
      exact fin _ hr (by unfold oneX; rw [if_neg hn])
    · rw [if_neg hr]; unfold oneN; rw [if_neg hr]

def barB (t : List UInt8) : Bool := decide (t = [124]) || decide (t = [124, 124])
def tieB (t : List UInt8) : Bool := t.head? == some 126
def restW (t : List UInt8) : List UInt8 := if tieB t = true then t.drop 1 else t
def addS (s : List Int) (n : Int) : List Int := s.set ((wrap64 ((s.length : Int) - 1)) : Int).toNat (wrap64 ((rd s (wrap64 ((s.length : Int) - 1))) + n))
def addN (o : List S67) (n : Int) : List S67 := o.set ((wrap64 ((o.length : Int) - 1)) : Int).toNat (⟨(rd_T67 o (wrap64 ((o.length : Int) - 1))).f0, wrap64 (((rd_T67 o (wrap64 ((o.length : Int) - 1))).f1) + n)⟩ : S67)
def wrd : List (List UInt8) → Bool → Int → Option (List S95)
  | [], _, _ => some []
  | t :: r, lb, lp => if barB t = true then (wrd r lb lp).map ((⟨true, false, ⟨0, 0⟩⟩ : S95) :: ·) else match oneN (restW t) with
    | none => none
    | some x => if tieB t = true ∧ (lb = true ∨ ¬ lp = x.f0) then none else (wrd r false x.f0).map ((⟨false, tieB t, x⟩ : S95) :: ·)
def foldS : List S95 → List Int → List Int
  | [], s => s
  | w :: r, s => if w.f0 = true then foldS r (s ++ [0]) else foldS r (addS s w.f2.f1)
def foldN : List S95 → List S67 → List S67
  | [], o => o
  | w :: r, o => if w.f0 = true then foldN r o else if w.f1 = true then foldN r (addN o w.f2.f1) else foldN r (o ++ [w.f2])
theorem addS_length (s : List Int) (n : Int) : (addS s n).length = s.length := by unfold addS; rw [List.length_set]
theorem addN_length (o : List S67) (n : Int) : (addN o n).length = o.length := by unfold addN; rw [List.length_set]
theorem last_ix {n : Nat} (h1 : 1 ≤ n) (h2 : n ≤ 100000000) : wrap64 ((n : Int) - 1) = ((n - 1 : Nat) : Int) := by rw [wrap_id (by omega) (by omega)]; omega
def wrdP (acc : List S95) : Option (List S95) → List S95 × Bool | some b => (acc ++ b, true) | none => ([], false)
theorem baL_iff (l m : List UInt8) (b : ByteArray) (h : b = baL l) : b.toList = m ↔ l = m := by rw [h, ByteArray.toList_eq, baL_data]
theorem rest_size (t : List UInt8) : (restW t).length ≤ t.length := by unfold restW; split; rw [List.length_drop]; omega; omega
theorem CutP_eq (t : List UInt8) : strings_CutPrefix.f (baL t) (⟨#[126]⟩ : ByteArray) = some (baL (restW t), tieB t) := by
  unfold strings_CutPrefix.f
  rw [baL_data, show (⟨#[126]⟩ : ByteArray).data.toList = [126] from rfl]
  have h : Lib.hasPrefix t [126] = tieB t := by
    unfold Lib.hasPrefix tieB
    cases t with
    | nil => rfl
    | cons c q =>
      show ((126 : UInt8) == c && [].isPrefixOf q) = (some c == some (126 : UInt8))
      by_cases h6 : c = 126
      · rw [h6]; simp
      · rw [beq_eq_false_iff_ne.2 (fun e => h6 e.symm), beq_eq_false_iff_ne.2 (fun e => h6 (Option.some.inj e)), Bool.false_and]
  unfold Lib.trimPrefix
  rw [h]; rfl
theorem oneR_flag (l : List UInt8) : (match oneN l with | some _ => False | none => True) → ¬ ((oneR l).2 = true ∧ (oneR l).1.length = 1) := by
  intro h
  unfold oneR
  by_cases h45 : l = [45]
  · rw [if_pos h45]; rintro ⟨_, e⟩; cases e
  · rw [if_neg h45]
    cases hx : oneN l with
    | none => rintro ⟨e, _⟩; cases e
    | some x => rw [hx] at h; exact h.elim
theorem one45 : oneN [45] = none := by
  cases h : oneN [45] with
  | none => rfl
  | some x =>
    obtain ⟨h1, h2⟩ := one_of h
    obtain ⟨⟨a1, a2⟩, _⟩ := noteB_iff.1 h1
    unfold noteW at h2
    rw [p1_cons, List.cons_append] at h2
    have h3 := (List.cons.inj h2).1
    have := named_of ⟨(x.f0 % 12).toNat, by omega⟩
    simp only at this
    rw [h3] at this
    exact absurd this (by have e : named 45 = -1 := by decide +kernel
                          rw [e]; omega)
theorem barWords_l0 {ws : List (List UInt8)} (hn : ws.length ≤ 10000) (hp : ∀ t ∈ ws, t.length ≤ 10000 ∧ (32 : UInt8) ∉ t) : ∀ (d K i : Nat) (acc : List S95) (lb go : Bool) (lp ln : Int), i + d = ws.length → acc.length ≤ i → 3 * d + 400 ≤ K → impl_barWords.l0 K acc (ws.map baL) ((ws.map baL).length : Int) (i : Int) lb go lp ln = some (wrdP acc (wrd (ws.drop i) lb lp)) := by
  intro d
  induction d with
  | zero =>
    intro K i acc lb go lp ln hi ho hK
    obtain ⟨K, rfl⟩ : ∃ m, K = m + 1 := ⟨K - 1, by omega⟩
    simp only [impl_barWords.l0]
    rw [if_neg (by rw [List.length_map]; omega), List.drop_eq_nil_of_le (by omega)]
    show some (acc, true) = some (acc ++ [], true)
    rw [List.append_nil]
  | succ d ih =>
    intro K i acc lb go lp ln hi ho hK
    obtain ⟨K, rfl⟩ : ∃ m, K = m + 3 := ⟨K - 3, by omega⟩
    have hlt : i < ws.length := by omega
    obtain ⟨ht, hno⟩ := hp ws[i] (List.getElem_mem hlt)
    have hml : (i : Int) < ((ws.map baL).length : Int) := by rw [List.length_map]; omega
    have hz : (baL ws[i]).size = ws[i].length := baL_size _
    have hwp : ∀ (y : S95) (q : Option (List S95)), wrdP (acc ++ [y]) q = wrdP acc (q.map (y :: ·)) := fun y q => by
      cases q with
      | none => rfl
      | some b => show ((acc ++ [y]) ++ b, true) = (acc ++ (y :: b), true); rw [List.append_assoc]; rfl
    rw [List.drop_eq_getElem_cons hlt]
    simp only [impl_barWords.l0]
    rw [if_pos hml, if_pos (nn_cast i), if_pos hml, map_baL_get hlt]
    have hflag : (if (baL ws[i]).toList = ([124] : List UInt8) then impl_barWords.j1 (K + 2) acc (baL ws[i]) (ws.map baL) ((ws.map baL).length : Int) (i : Int) true lb go lp ln else impl_barWords.j1 (K + 2) acc (baL ws[i]) (ws.map baL) ((ws.map baL).length : Int) (i : Int) ((baL ws[i]).toList == ([124, 124] : List UInt8)) lb go lp ln) = impl_barWords.j1 (K + 2) acc (baL ws[i]) (ws.map baL) ((ws.map baL).length : Int) (i : Int) (barB ws[i]) lb go lp ln := by
      unfold barB
      by_cases c1 : ws[i] = [124]
      · rw [if_pos ((baL_iff _ _ _ rfl).2 c1), decide_eq_true c1, Bool.true_or]
      · rw [if_neg (fun e => c1 ((baL_iff _ _ _ rfl).1 e)), decide_eq_false c1, Bool.false_or]
        congr 1
        by_cases c2 : ws[i] = [124, 124]
        · rw [decide_eq_true c2]; exact beq_iff_eq.2 ((baL_iff _ _ _ rfl).2 c2)
        · rw [decide_eq_false c2]; exact beq_eq_false_iff_ne.2 (fun e => c2 ((baL_iff _ _ _ rfl).1 e))
    rw [hflag]
    simp only [impl_barWords.j1]
    unfold wrd
    by_cases hb : barB ws[i] = true
    · rw [if_pos hb, if_pos hb, if_pos (by omega), wrap_succ hlt (by omega), ih (K + 1) (i + 1) _ lb go lp ln (by omega) (by rw [List.length_append]; simp; omega) (by omega), hwp]
    rw [if_neg hb, if_neg hb, CutP_eq]
    simp only [Option.bind_some]
    have hr := rest_size ws[i]
    have hno2 : (32 : UInt8) ∉ restW ws[i] := by
      unfold restW
      split
      · exact fun h => hno (List.mem_of_mem_drop h)
      · exact hno
    rw [ReadMelody_eq (baL (restW ws[i])) (by rw [baL_size]; omega) (by rw [baL_data]; exact hno2) (by omega), baL_data]
    simp only [Option.bind_some]
    cases hx : oneN (restW ws[i]) with
    | none =>
      have hf := oneR_flag (restW ws[i]) (by rw [hx]; trivial)
      have : ∀ m : List S67, impl_barWords.j2 (K + 1) acc (tieB ws[i]) m (ws.map baL) ((ws.map baL).length : Int) (i : Int) true lb go lp ln = some (([] : List S95), false) := fun m => by
        simp only [impl_barWords.j2]
        rw [if_pos trivial]
      by_cases h2 : (oneR (restW ws[i])).2 = true
      · rw [if_pos h2, bne_iff_ne.2 (fun e => hf ⟨h2, by omega⟩), this]; rfl
      · rw [if_neg h2, this]; rfl
    | some x =>
      have h45 : ¬ restW ws[i] = [45] := fun e => by rw [e, one45] at hx; cases hx
      have ho1 : oneR (restW ws[i]) = ([x], true) := by unfold oneR; rw [if_neg h45, hx]
      rw [ho1]
      show (if true = true then impl_barWords.j2 (K + 1) acc (tieB ws[i]) [x] (ws.map baL) ((ws.map baL).length : Int) (i : Int) ((([x] : List S67).length : Int) != 1) lb go lp ln else _) = _
      rw [if_pos rfl, show ((([x] : List S67).length : Int) != 1) = false from rfl]
      simp only [impl_barWords.j2]
      rw [if_neg (by decide), if_pos (by simp), show rd_T67 [x] 0 = x from rfl]
      try dsimp only
      have hih := ih K (i + 1) (acc ++ [(⟨false, tieB ws[i], x⟩ : S95)]) false (tieB ws[i]) x.f0 x.f1 (by omega) (by rw [List.length_append]; simp; omega) (by omega)
      rw [hwp] at hih
      by_cases h6 : tieB ws[i] = true
      · rw [if_pos h6]
        by_cases hlb : lb = true
        · rw [if_pos hlb, if_pos ⟨h6, Or.inl hlb⟩]; rfl
        rw [if_neg hlb]
        by_cases hlp : lp = x.f0
        · rw [if_pos hlp, if_pos (by omega), if_neg (by rintro ⟨_, h | h⟩; exact hlb h; exact h hlp), wrap_succ hlt (by omega)]
          exact hih
        · rw [if_neg hlp, if_pos ⟨h6, Or.inr hlp⟩]; rfl
      · rw [if_neg h6, if_pos (by omega), if_neg (fun e => h6 e.1), wrap_succ hlt (by omega)]
        exact hih
theorem rdW_get {l : List S95} {i : Nat} (h : i < l.length) : rd_T95 l (i : Int) = l[i] := by
  simp [rd_T95, List.getD_eq_getElem?_getD, List.getElem?_eq_getElem h]
theorem barSums_l0 {b : List S95} (hn : b.length ≤ 10000) : ∀ (d K i : Nat) (s : List Int), i + d = b.length → 1 ≤ s.length → s.length ≤ i + 1 → d + 1 ≤ K → impl_barSums.l0 K s b (b.length : Int) (i : Int) = some (foldS (b.drop i) s) := by
  intro d
  induction d with
  | zero =>
    intro K i s hi h1 hs hK
    obtain ⟨K, rfl⟩ : ∃ m, K = m + 1 := ⟨K - 1, by omega⟩
    simp only [impl_barSums.l0]
    rw [if_neg (by omega), List.drop_eq_nil_of_le (by omega)]; rfl
  | succ d ih =>
    intro K i s hi h1 hs hK
    obtain ⟨K, rfl⟩ : ∃ m, K = m + 1 := ⟨K - 1, by omega⟩
    have hlt : i < b.length := by omega
    have hsl := last_ix h1 (by omega)
    simp only [impl_barSums.l0]
    rw [if_pos (lt_cast hlt), if_pos (nn_cast i), if_pos (lt_cast hlt), rdW_get hlt, List.drop_eq_getElem_cons hlt]
    unfold foldS
    by_cases hb : b[i].f0 = true
    · rw [if_pos hb, if_pos hb, if_pos (by omega), wrap_succ hlt (by omega), ih K (i + 1) (s ++ [0]) (by omega) (by rw [List.length_append]; simp) (by rw [List.length_append]; simp; omega) (by omega)]
    · rw [if_neg hb, if_neg hb, if_pos (by rw [hsl]; omega), if_pos (by rw [hsl]; omega), wrap_succ hlt (by omega)]
      exact ih K (i + 1) (addS s b[i].f2.f1) (by omega) (by rw [addS_length]; omega) (by rw [addS_length]; omega) (by omega)
theorem split_count {c : UInt8} : ∀ (n : Nat) (l : List UInt8), l.length ≤ n → (splitL c [] l).length = Lib.count l [c] + 1 := by
  intro n
  induction n with
  | zero =>
    intro l h
    obtain rfl := List.eq_nil_of_length_eq_zero (by omega : l.length = 0)
    rw [splitL_none [] [] (by simp), Lib.count_miss (index_no [] (by simp))]; rfl
  | succ n ih =>
    intro l h
    rcases cut_shape l c with ⟨a, b, _, e, ha⟩ | ⟨_, hno⟩
    · subst e
      rw [splitL_at a [] b ha, List.length_cons, ih b (by rw [List.length_append, List.length_cons] at h; omega), Lib.count_hit (by simp) (index_at a b ha)]
      rw [List.length_singleton, show (a ++ c :: b).drop (a.length + 1) = b by rw [List.drop_append]; simp]
      omega
    · rw [splitL_none l [] hno, Lib.count_miss (index_no l hno)]; rfl
theorem SplitF_eq (a : ByteArray) (ha : a.size ≤ 1048576) : strings_Split.f a (⟨#[32]⟩ : ByteArray) = some ((splitL 32 [] a.data.toList).map baL) := by
  unfold strings_Split.f
  rw [if_pos ⟨by omega, by decide⟩]
  unfold strings_Split.t
  have h1 := Lib.splitB_data (⟨#[32]⟩ : ByteArray) 0 (Lib.countB a ⟨#[32]⟩) a
  have hc := split_count (c := 32) a.data.toList.length a.data.toList (Nat.le_refl _)
  have hk : Lib.countB a ⟨#[32]⟩ = Lib.count a.data.toList [32] := rfl
  rw [show (⟨#[32]⟩ : ByteArray).data.toList = [32] from rfl, splitK_same _ _ (by rw [hc, hk]; exact Nat.le_refl _)] at h1
  rw [← h1, List.map_map]
  have e : (baL ∘ fun x : ByteArray => x.data.toList) = id := by funext x; exact data_baL x
  rw [e, List.map_id]
theorem split_no {c : UInt8} : ∀ (l cur : List UInt8), c ∉ cur → ∀ t ∈ splitL c cur l, c ∉ t := by
  intro l
  induction l with
  | nil => intro cur hc t ht; unfold splitL at ht; rw [List.mem_singleton] at ht; rw [ht]; exact hc
  | cons b r ih =>
    intro cur hc t ht
    unfold splitL at ht
    split at ht
    · rcases List.mem_cons.1 ht with rfl | h
      · exact hc
      · exact ih [] (by simp) t h
    · next hb => exact ih _ (by rw [List.mem_append, List.mem_singleton]; rintro (h | h); exact hc h; exact hb (by first | exact h.symm | exact beq_iff_eq.2 h.symm | (rw [h]))) t ht
/-- What the words of a text come to. -/
def wordsOf (l : List UInt8) : Option (List S95) := if l = [45] then some [] else wrd (splitL 32 [] l) true 0
def sumsOf (b : List S95) : List Int := if b = [] then [] else foldS b [0]
theorem wrd_length : ∀ (ws : List (List UInt8)) (lb : Bool) (lp : Int) (b : List S95), wrd ws lb lp = some b → b.length = ws.length
  | [], _, _, b, h => by rw [← Option.some.inj h]; rfl
  | t :: r, lb, lp, b, h => by
    unfold wrd at h
    split at h
    · obtain ⟨q, hq, rfl⟩ := Option.map_eq_some_iff.1 h
      rw [List.length_cons, wrd_length r _ _ q hq, List.length_cons]
    · split at h
      · cases h
      · split at h
        · cases h
        · obtain ⟨q, hq, rfl⟩ := Option.map_eq_some_iff.1 h
          rw [List.length_cons, wrd_length r _ _ q hq, List.length_cons]
theorem barWords_eq (a : ByteArray) (ha : a.size ≤ 2000) {K : Nat} (hK : 10000 ≤ K) : impl_barWords.f K a = some (wrdP [] (wordsOf a.data.toList)) := by
  unfold impl_barWords.f wordsOf
  by_cases h45 : a.data.toList = [45]
  · rw [if_pos (by rw [ByteArray.toList_eq]; exact h45), if_pos h45]; rfl
  rw [if_neg (fun e => h45 (by rw [ByteArray.toList_eq] at e; exact e)), if_neg h45, SplitF_eq a (by omega)]
  simp only [Option.bind_some]
  have hz : a.data.toList.length = a.size := (Lib.size_eq a).symm
  obtain ⟨s1, s2⟩ := splitL_le (c := 32) a.data.toList []
  have := barWords_l0 (ws := splitL 32 [] a.data.toList) (by omega) (fun t ht => ⟨by have := s2 t ht; simp at this; omega, split_no _ _ (by simp) t ht⟩) (splitL 32 [] a.data.toList).length K 0 [] true false 0 0 (by omega) (by simp) (by omega)
  rw [List.drop_zero] at this
  exact this
theorem wordsOf_length {l : List UInt8} {b : List S95} (h : wordsOf l = some b) : b.length ≤ l.length + 1 := by
  unfold wordsOf at h
  split at h
  · rw [← Option.some.inj h]; simp
  · rw [wrd_length _ _ _ _ h]; exact (splitL_le (c := 32) l []).1
theorem barSums_eq (b : List S95) (hb : b.length ≤ 5000) {K : Nat} (hK : 10000 ≤ K) : impl_barSums.f K b = some (sumsOf b) := by
  unfold impl_barSums.f sumsOf
  by_cases h0 : b = []
  · subst h0; rfl
  have hp := List.length_pos_iff.2 h0
  rw [if_neg (by omega), if_neg h0]
  exact barSums_l0 (by omega) b.length K 0 [0] (by omega) (by simp) (by simp) (by omega)

def ps : List Int → Nat → Int
  | _, 0 => 0
  | [], _ + 1 => 0
  | x :: r, j + 1 => x + ps r j
def Lj (S : List Int) (v : Int) (j : Nat) : Int := rd S (j : Int) * v
def tot (S : List Int) (v : Int) : Int := ps S S.length * v
structure TG (S : List Int) (v : Int) : Prop where
  n1 : 1 ≤ S.length
  n8 : S.length ≤ 8
  sec : ∀ x ∈ S, 1 ≤ x ∧ x ≤ 16
  v1 : 1 ≤ v
  v8 : v ≤ 8
theorem TG_of {s : ByteArray} {S M : List Int} {v : Int} (h : talaB s S M = true) (hv : wB 1 8 v = true) : TG S v := by
  unfold talaB at h
  unfold wB at hv
  rw [Bool.and_eq_true, decide_eq_true_iff, decide_eq_true_iff] at hv
  rw [Bool.and_eq_true, Bool.and_eq_true, Bool.and_eq_true, decide_eq_true_iff, decide_eq_true_iff, Bool.and_eq_true, Bool.and_eq_true, Bool.and_eq_true] at h
  refine ⟨h.2.1.1, h.2.1.2, fun x hx => ?_, hv.1, hv.2⟩
  have := List.all_eq_true.1 h.2.2.2.1.1 x hx
  unfold wB at this
  rw [Bool.and_eq_true, decide_eq_true_iff, decide_eq_true_iff] at this
  exact this
theorem ps_succ : ∀ {S : List Int} {j : Nat} (h : j < S.length), ps S (j + 1) = ps S j + S[j]
  | [], j, h => by simp at h
  | x :: r, 0, _ => by show x + ps r 0 = 0 + x; cases r <;> simp [ps]
  | x :: r, j + 1, h => by
    have hj : j < r.length := by simpa using h
    have := ps_succ (S := r) (j := j) hj
    show x + ps r (j + 1) = (x + ps r j) + r[j]
    omega
theorem ps_bound {S : List Int} (hs : ∀ x ∈ S, 1 ≤ x ∧ x ≤ 16) : ∀ j, j ≤ S.length → 0 ≤ ps S j ∧ ps S j ≤ 16 * j := by
  intro j
  induction j with
  | zero => intro _; cases S <;> simp [ps]
  | succ j ih =>
    intro h
    have := ih (by omega)
    have h2 := hs S[j] (List.getElem_mem (by omega))
    rw [ps_succ (by omega)]
    omega
theorem ps_le {S : List Int} (hs : ∀ x ∈ S, 1 ≤ x ∧ x ≤ 16) {i : Nat} : ∀ d, i + d ≤ S.length → ps S i + d ≤ ps S (i + d) := by
  intro d
  induction d with
  | zero => intro _; simp
  | succ d ih =>
    intro h
    have := ih (by omega)
    have h2 := hs S[i + d] (List.getElem_mem (by omega))
    rw [← Nat.add_assoc, ps_succ (by omega)]
    omega
theorem Lj_at {S : List Int} {v : Int} {j : Nat} (h : j < S.length) : Lj S v j = S[j] * v := by unfold Lj; rw [rd_get h]
theorem Lj_bound {S : List Int} {v : Int} (g : TG S v) {j : Nat} (h : j < S.length) : 1 ≤ Lj S v j ∧ Lj S v j ≤ 128 := by
  have h2 := g.sec S[j] (List.getElem_mem h)
  have h1 := g.v1
  have h8 := g.v8
  rw [Lj_at h]
  generalize S[j] = x at h2
  obtain rfl | rfl | rfl | rfl | rfl | rfl | rfl | rfl : v = 1 ∨ v = 2 ∨ v = 3 ∨ v = 4 ∨ v = 5 ∨ v = 6 ∨ v = 7 ∨ v = 8 := by omega
  all_goals omega
theorem pv_succ {S : List Int} {v : Int} {j : Nat} (h : j < S.length) : ps S (j + 1) * v = ps S j * v + Lj S v j := by rw [ps_succ h, Lj_at h, Int.add_mul]
theorem pv_bound {S : List Int} {v : Int} (g : TG S v) {j : Nat} (h : j ≤ S.length) : 0 ≤ ps S j * v ∧ ps S j * v ≤ 1024 := by
  have h2 := ps_bound g.sec j h
  have h1 := g.v1
  have h8 := g.v8
  have n8 := g.n8
  generalize ps S j = x at h2
  obtain rfl | rfl | rfl | rfl | rfl | rfl | rfl | rfl : v = 1 ∨ v = 2 ∨ v = 3 ∨ v = 4 ∨ v = 5 ∨ v = 6 ∨ v = 7 ∨ v = 8 := by omega
  all_goals omega
theorem pv_tot {S : List Int} {v : Int} (g : TG S v) {j : Nat} (h : j < S.length) : ps S j * v + Lj S v j ≤ tot S v ∧ (j + 1 < S.length → ps S j * v + Lj S v j < tot S v) := by
  have h2 := ps_le g.sec (i := j + 1) (S.length - (j + 1)) (by omega)
  rw [show j + 1 + (S.length - (j + 1)) = S.length by omega] at h2
  have h1 := g.v1
  have h8 := g.v8
  rw [← pv_succ h]
  unfold tot
  generalize ps S (j + 1) = x at h2
  generalize ps S S.length = y at h2
  obtain rfl | rfl | rfl | rfl | rfl | rfl | rfl | rfl : v = 1 ∨ v = 2 ∨ v = 3 ∨ v = 4 ∨ v = 5 ∨ v = 6 ∨ v = 7 ∨ v = 8 := by omega
  all_goals omega
theorem tot_pos {S : List Int} {v : Int} (g : TG S v) : 1 ≤ tot S v ∧ tot S v ≤ 1024 := by
  have h0 : 0 < S.length := by have := g.n1; omega
  have h1 := (pv_tot g h0).1
  have h2 := Lj_bound g h0
  have h3 := pv_bound g (j := 0) (by omega)
  exact ⟨by omega, (pv_bound g (Nat.le_refl _)).2⟩
/-- A time stands in section j, c units behind its beginning. -/
structure Pos (S : List Int) (v T : Int) (j : Nat) (c : Int) : Prop where
  t0 : 0 ≤ T
  t9 : T ≤ 1000000
  jl : j < S.length
  c0 : 0 ≤ c
  c9 : c < Lj S v j
  at_ : T % tot S v = ps S j * v + c
theorem place {S : List Int} {v T : Int} (g : TG S v) {j : Nat} {c : Int} (p : Pos S v T j c) : Int.tmod T (tot S v) = ps S j * v + c ∧ Int.tdiv (ps S j * v + c) v = ps S j + c / v ∧ Int.tmod (ps S j * v + c) v = c % v ∧ 0 ≤ c / v ∧ c / v < S[j]'p.jl := by
  have hp := pv_bound g (j := j) (by have := p.jl; omega)
  have h1 := g.v1
  have c0 := p.c0
  have c9 := p.c9
  rw [Lj_at p.jl] at c9
  refine ⟨by rw [Int.tmod_eq_emod_of_nonneg p.t0]; exact p.at_, ?_, ?_, Int.ediv_nonneg c0 (by omega), Int.ediv_lt_of_lt_mul (by omega) c9⟩
  · rw [Int.tdiv_eq_ediv_of_nonneg (by omega), Int.add_comm (ps S j * v) c, Int.add_mul_ediv_right _ _ (by omega)]; omega
  · rw [Int.tmod_eq_emod_of_nonneg (by omega), Int.add_comm (ps S j * v) c, Int.add_mul_emod_self_right]
def nx (S : List Int) (v : Int) (j : Nat) (c : Int) : Nat × Int := if c = Lj S v j then ((j + 1) % S.length, 0) else (j, c)
theorem nx_st {S : List Int} {v : Int} (g : TG S v) {j : Nat} {c : Int} (h : j < S.length) (c0 : 0 ≤ c) (c9 : c ≤ Lj S v j) : (nx S v j c).1 < S.length ∧ 0 ≤ (nx S v j c).2 ∧ (nx S v j c).2 < Lj S v (nx S v j c).1 := by
  unfold nx
  by_cases hc : c = Lj S v j
  · rw [if_pos hc]
    have hm : (j + 1) % S.length < S.length := Nat.mod_lt _ (by omega)
    have := Lj_bound g hm
    exact ⟨hm, Int.le_refl _, by show (0 : Int) < Lj S v ((j + 1) % S.length); omega⟩
  · rw [if_neg hc]; exact ⟨h, c0, by show c < Lj S v j; omega⟩
theorem Pos_nx {S : List Int} {v T : Int} (g : TG S v) {j : Nat} {c n : Int} (p : Pos S v T j c) (n0 : 0 ≤ n) (n9 : c + n ≤ Lj S v j) (ht : T + n ≤ 1000000) : Pos S v (T + n) (nx S v j (c + n)).1 (nx S v j (c + n)).2 := by
  have t0 := p.t0
  have c0 := p.c0
  obtain ⟨a1, a2, a3⟩ := nx_st g p.jl (c := c + n) (by omega) n9
  refine ⟨by omega, ht, a1, a2, a3, ?_⟩
  have hU := tot_pos g
  obtain ⟨b1, b2⟩ := pv_tot g p.jl
  have hp := pv_bound g (j := j) (by have := p.jl; omega)
  rw [← Int.emod_add_emod, p.at_]
  unfold nx
  by_cases hc : c + n = Lj S v j
  · rw [if_pos hc]
    dsimp only
    by_cases hj : j + 1 < S.length
    · have := b2 hj
      rw [Nat.mod_eq_of_lt hj, pv_succ p.jl, Int.emod_eq_of_lt (by omega) (by omega)]; omega
    · have hj2 : j + 1 = S.length := by have := p.jl; omega
      have e : ps S j * v + c + n = tot S v := by
        unfold tot
        rw [← hj2, pv_succ p.jl]; omega
      have e0 : ps S 0 * v + 0 = 0 := by
        have : ps S 0 = 0 := by cases S <;> rfl
        rw [this]; omega
      rw [e, Int.emod_self, hj2, Nat.mod_self, e0]
  · rw [if_neg hc]
    dsimp only
    rw [Int.emod_eq_of_lt (by omega) (by omega)]; omega
def cutN (S : List Int) (v : Int) : Nat → Int → Bool → Int → Nat → Int → List S136 × Nat × Int
  | 0, _, _, _, j, c => ([], j, c)
  | f + 1, i, lt, x, j, c => if x > 0 then ((⟨i, mn x (Lj S v j - c), if c = 0 then (j : Int) else -1, lt⟩ : S136) :: (cutN S v f i true (x - mn x (Lj S v j - c)) (nx S v j (c + mn x (Lj S v j - c))).1 (nx S v j (c + mn x (Lj S v j - c))).2).1, (cutN S v f i true (x - mn x (Lj S v j - c)) (nx S v j (c + mn x (Lj S v j - c))).1 (nx S v j (c + mn x (Lj S v j - c))).2).2) else ([], j, c)
def segs (S : List Int) (v : Int) : List S67 → Int → Nat → Int → List S136
  | [], _, _, _ => []
  | x :: r, i, j, c => (cutN S v 64 i false x.f1 j c).1 ++ segs S v r (i + 1) (cutN S v 64 i false x.f1 j c).2.1 (cutN S v 64 i false x.f1 j c).2.2
theorem mn_le {a b : Int} : mn a b ≤ a ∧ mn a b ≤ b ∧ (mn a b = a ∨ mn a b = b) := by unfold mn; split <;> omega
theorem cutN_length (S : List Int) (v : Int) : ∀ (f : Nat) (i : Int) (lt : Bool) (x : Int) (j : Nat) (c : Int), (cutN S v f i lt x j c).1.length ≤ f := by
  intro f
  induction f with
  | zero => intros; exact Nat.le_refl _
  | succ f ih =>
    intro i lt x j c
    unfold cutN
    split
    · rw [List.length_cons]; have := ih i true (x - mn x (Lj S v j - c)) (nx S v j (c + mn x (Lj S v j - c))).1 (nx S v j (c + mn x (Lj S v j - c))).2; omega
    · exact Nat.zero_le _
theorem cutN_st {S : List Int} {v : Int} (g : TG S v) : ∀ (f : Nat) (i : Int) (lt : Bool) (x : Int) (j : Nat) (c : Int), j < S.length → 0 ≤ c → c < Lj S v j → (cutN S v f i lt x j c).2.1 < S.length ∧ 0 ≤ (cutN S v f i lt x j c).2.2 ∧ (cutN S v f i lt x j c).2.2 < Lj S v (cutN S v f i lt x j c).2.1 := by
  intro f
  induction f with
  | zero => intro i lt x j c h1 h2 h3; exact ⟨h1, h2, h3⟩
  | succ f ih =>
    intro i lt x j c h1 h2 h3
    unfold cutN
    by_cases hx : x > 0
    · rw [if_pos hx]
      obtain ⟨m1, m2, m3⟩ := @mn_le x (Lj S v j - c)
      obtain ⟨a1, a2, a3⟩ := nx_st g h1 (c := c + mn x (Lj S v j - c)) (by omega) (by omega)
      exact ih _ _ _ _ _ a1 a2 a3
    · rw [if_neg hx]; exact ⟨h1, h2, h3⟩
def RelS (S : List Int) (v sec left : Int) (j : Nat) (c : Int) : Prop := (c = 0 ∧ left = 0 ∧ -1 ≤ sec ∧ sec < (S.length : Int) ∧ Int.tmod (sec + 1) (S.length : Int) = (j : Int)) ∨ (0 < c ∧ left = Lj S v j - c ∧ sec = (j : Int))
theorem RelS_nx {S : List Int} {v : Int} {j : Nat} {c : Int} (h : j < S.length) (c0 : 0 < c) (c9 : c ≤ Lj S v j) : RelS S v (j : Int) (Lj S v j - c) (nx S v j c).1 (nx S v j c).2 := by
  unfold nx RelS
  by_cases hc : c = Lj S v j
  · rw [if_pos hc]
    left
    refine ⟨rfl, by omega, by omega, by omega, ?_⟩
    rw [Int.tmod_eq_emod_of_nonneg (by omega)]
    show ((j : Int) + 1) % (S.length : Int) = (((j + 1) % S.length : Nat) : Int)
    rw [Int.natCast_emod]; rfl
  · rw [if_neg hc]
    right
    exact ⟨c0, rfl, rfl⟩
theorem split_l1 {S : List Int} {v : Int} (g : TG S v) (s : ByteArray) (M : List Int) (m : List S67) (len q : Int) : ∀ (f : Nat) (x : Int) (lt : Bool) (j : Nat) (c sec left : Int) (K : Nat) (acc : List S136) (i : Int), 0 ≤ x → x ≤ f → x ≤ 64 → RelS S v sec left j c → j < S.length → 0 ≤ c → c < Lj S v j → acc.length + f ≤ 1000000 → f + 1 ≤ K →
    ∃ (K' : Nat) (sec' left' : Int), K ≤ K' + f + 1 ∧ RelS S v sec' left' (cutN S v f i lt x j c).2.1 (cutN S v f i lt x j c).2.2 ∧ impl_split.l1 K v acc sec left i lt x m len q s S M = impl_split.l0 K' v (acc ++ (cutN S v f i lt x j c).1) sec' left' m len (wrap64 (q + 1)) s S M := by
  have n8 := g.n8
  have n1 := g.n1
  intro f
  induction f with
  | zero =>
    intro x lt j c sec left K acc i x0 x1 x2 hR h1 h2 h3 ha hK
    obtain ⟨K, rfl⟩ : ∃ z, K = z + 1 := ⟨K - 1, by omega⟩
    refine ⟨K, sec, left, by omega, hR, ?_⟩
    simp only [impl_split.l1]
    rw [if_neg (by omega)]
    show _ = impl_split.l0 K v (acc ++ []) sec left m len (wrap64 (q + 1)) s S M
    rw [List.append_nil]
  | succ f ih =>
    intro x lt j c sec left K acc i x0 x1 x2 hR h1 h2 h3 ha hK
    obtain ⟨K, rfl⟩ : ∃ z, K = z + 1 := ⟨K - 1, by omega⟩
    by_cases hx : x > 0
    rotate_left
    · refine ⟨K, sec, left, by omega, ?_, ?_⟩
      · unfold cutN; rw [if_neg hx]; exact hR
      · simp only [impl_split.l1]
        unfold cutN
        rw [if_neg hx, if_neg hx]
        show _ = impl_split.l0 K v (acc ++ []) sec left m len (wrap64 (q + 1)) s S M
        rw [List.append_nil]
    have hL := Lj_bound g h1
    obtain ⟨m1, m2, m3⟩ := @mn_le x (Lj S v j - c)
    obtain ⟨a1, a2, a3⟩ := nx_st g h1 (c := c + mn x (Lj S v j - c)) (by omega) (by omega)
    have hR2 := RelS_nx (v := v) h1 (c := c + mn x (Lj S v j - c)) (by omega) (by omega)
    have hcut : cutN S v (f + 1) i lt x j c = ((⟨i, mn x (Lj S v j - c), if c = 0 then (j : Int) else -1, lt⟩ : S136) :: (cutN S v f i true (x - mn x (Lj S v j - c)) (nx S v j (c + mn x (Lj S v j - c))).1 (nx S v j (c + mn x (Lj S v j - c))).2).1, (cutN S v f i true (x - mn x (Lj S v j - c)) (nx S v j (c + mn x (Lj S v j - c))).1 (nx S v j (c + mn x (Lj S v j - c))).2).2) := by
      conv => lhs; unfold cutN
      rw [if_pos hx]
    obtain ⟨K', sec', left', k1, k2, k3⟩ := ih (x - mn x (Lj S v j - c)) true _ _ (j : Int) (Lj S v j - (c + mn x (Lj S v j - c))) K (acc ++ [(⟨i, mn x (Lj S v j - c), if c = 0 then (j : Int) else -1, lt⟩ : S136)]) i (by omega) (by omega) (by omega) hR2 a1 a2 a3 (by rw [List.length_append]; simp; omega) (by omega)
    rw [hcut]
    refine ⟨K', sec', left', by omega, k2, ?_⟩
    rw [List.append_assoc, List.singleton_append] at k3
    rw [← k3]
    simp only [impl_split.l1]
    rw [if_pos hx]
    rcases hR with ⟨r1, r2, r3, r4, r5⟩ | ⟨r1, r2, r3⟩
    · have hw : wrap64 (sec + 1) = sec + 1 := wrap_id (by omega) (by omega)
      have hl : wrap64 (rd S (j : Int) * v) = Lj S v j := by show wrap64 (Lj S v j) = _; exact wrap_id (by omega) (by omega)
      subst r1
      rw [if_pos r2, if_neg (by omega), hw, r5, if_pos (nn_cast j), if_pos (lt_cast h1), if_pos (by omega), hl, if_pos rfl]
      rw [Int.sub_zero] at m1 m2 m3 ⊢
      rw [wrap_id (x := Lj S v j - mn x (Lj S v j)) (by omega) (by omega), wrap_id (x := x - mn x (Lj S v j)) (by omega) (by omega), Int.zero_add]
    · have hc0 : ¬ c = 0 := by omega
      rw [if_neg (by omega), if_pos (by omega), r2, r3, if_neg hc0, wrap_id (x := Lj S v j - c - mn x (Lj S v j - c)) (by omega) (by omega), wrap_id (x := x - mn x (Lj S v j - c)) (by omega) (by omega), show Lj S v j - c - mn x (Lj S v j - c) = Lj S v j - (c + mn x (Lj S v j - c)) by omega]
theorem split_l0 {S : List Int} {v : Int} (g : TG S v) (s : ByteArray) (M : List Int) {m : List S67} (hm : m.length ≤ 48) (hn : ∀ y ∈ m, 1 ≤ y.f1 ∧ y.f1 ≤ 64) : ∀ (d K i : Nat) (acc : List S136) (j : Nat) (c sec left : Int), i + d = m.length → RelS S v sec left j c → j < S.length → 0 ≤ c → c < Lj S v j → acc.length ≤ 64 * i → 66 * d + 1 ≤ K → impl_split.l0 K v acc sec left m (m.length : Int) (i : Int) s S M = some (acc ++ segs S v (m.drop i) (i : Int) j c) := by
  intro d
  induction d with
  | zero =>
    intro K i acc j c sec left hi hR h1 h2 h3 ha hK
    obtain ⟨K, rfl⟩ : ∃ z, K = z + 1 := ⟨K - 1, by omega⟩
    simp only [impl_split.l0]
    rw [if_neg (by omega), List.drop_eq_nil_of_le (by omega)]
    show some acc = some (acc ++ [])
    rw [List.append_nil]
  | succ d ih =>
    intro K i acc j c sec left hi hR h1 h2 h3 ha hK
    obtain ⟨K, rfl⟩ : ∃ z, K = z + 1 := ⟨K - 1, by omega⟩
    have hlt : i < m.length := by omega
    have hx := hn m[i] (List.getElem_mem hlt)
    simp only [impl_split.l0]
    rw [if_pos (lt_cast hlt), if_pos (nn_cast i), if_pos (lt_cast hlt), rdN_get hlt]
    obtain ⟨K', sec', left', k1, k2, k3⟩ := split_l1 g s M m (m.length : Int) (i : Int) 64 m[i].f1 false j c sec left K acc (i : Int) (by omega) (by omega) (by omega) hR h1 h2 h3 (by omega) (by omega)
    obtain ⟨a1, a2, a3⟩ := cutN_st g 64 (i : Int) false m[i].f1 j c h1 h2 h3
    have hl := cutN_length S v 64 (i : Int) false m[i].f1 j c
    rw [k3, wrap_succ hlt (by omega), ih K' (i + 1) _ _ _ sec' left' (by omega) k2 a1 a2 a3 (by rw [List.length_append]; omega) (by omega), List.drop_eq_getElem_cons hlt, List.append_assoc]
    rfl
theorem split_eq {S : List Int} {v : Int} (g : TG S v) (s : ByteArray) (M : List Int) {m : List S67} (hm : melB m = true) {K : Nat} (hK : 4000 ≤ K) : impl_split.f K m s S M v = some (segs S v m 0 0 0) := by
  have hl := (melB_ok hm).1
  have hL := Lj_bound g (j := 0) (by have := g.n1; omega)
  have hn : ∀ y ∈ m, 1 ≤ y.f1 ∧ y.f1 ≤ 64 := fun y hy => by
    unfold melB at hm
    rw [Bool.and_eq_true] at hm
    have := List.all_eq_true.1 hm.1 y hy
    unfold noteB at this
    rw [Bool.and_eq_true, Bool.and_eq_true, Bool.and_eq_true, decide_eq_true_iff, decide_eq_true_iff, decide_eq_true_iff, decide_eq_true_iff] at this
    exact this.2
  have := split_l0 g s M hl hn m.length K 0 [] 0 0 (-1) 0 (by omega) (Or.inl ⟨rfl, rfl, by omega, by have := g.n1; omega, by rw [show (-1 : Int) + 1 = 0 by omega]; exact Int.zero_tmod _⟩) (by have := g.n1; omega) (by omega) (by omega) (by simp) (by omega)
  rw [List.drop_zero, List.nil_append] at this
  exact this
def pr (p : S136) : List Int := [p.f0, p.f1]
theorem Pos_zero {S : List Int} {v : Int} (g : TG S v) : Pos S v 0 0 0 := by
  have n1 := g.n1
  have hL := Lj_bound g (j := 0) (by omega)
  refine ⟨by omega, by omega, by omega, by omega, by omega, ?_⟩
  have : ps S 0 = 0 := by cases S <;> rfl
  rw [this, Int.zero_emod]; omega
theorem mel_len {m : List S67} (hm : melB m = true) : ∀ y ∈ m, 1 ≤ y.f1 ∧ y.f1 ≤ 64 := fun y hy => by
  unfold melB at hm
  rw [Bool.and_eq_true] at hm
  have := List.all_eq_true.1 hm.1 y hy
  unfold noteB at this
  rw [Bool.and_eq_true, Bool.and_eq_true, Bool.and_eq_true, decide_eq_true_iff, decide_eq_true_iff, decide_eq_true_iff, decide_eq_true_iff] at this
  exact this.2
theorem code_ok {m : List S67} {s : ByteArray} {S M : List Int} {v : Int} (h : codeB m s S M v = 0) : melB m = true ∧ TG S v := by
  unfold codeB at h
  cases hm : melB m
  · rw [hm, Bool.false_and, if_neg (by decide)] at h; exact absurd h (by decide)
  cases ht : talaB s S M
  · rw [hm, ht, Bool.and_false, if_neg (by decide)] at h; exact absurd h (by decide)
  cases hv : wB 1 8 v
  · rw [hm, ht, hv] at h; exact absurd h (by decide)
  exact ⟨rfl, TG_of ht hv⟩

def ntP (m : List S67) (p : S136) : ByteArray := baL (noteW ⟨(rd_T67 m p.f0).f0, p.f1⟩)
def wdP (m : List S67) (p : S136) : ByteArray := if p.f3 = true then (⟨#[126]⟩ : ByteArray) ++ ntP m p else ntP m p
def barP (b : Bool) (p : S136) : List ByteArray := if b = true then [] else if p.f2 < 0 then [] else if p.f2 = 0 then [(⟨#[124, 124]⟩ : ByteArray)] else [(⟨#[124]⟩ : ByteArray)]
def wds (m : List S67) : Bool → List S136 → List ByteArray
  | _, [] => []
  | b, p :: r => barP b p ++ wdP m p :: wds m false r
def okP (m : List S67) (p : S136) : Prop := (0 ≤ p.f0 ∧ p.f0 < (m.length : Int)) ∧ 1 ≤ p.f1 ∧ p.f1 ≤ 64
theorem noteText_eq {p n : Int} (h : noteB ⟨p, n⟩ = true) : impl_noteText.f p n = some (baL (noteW ⟨p, n⟩)) := by
  obtain ⟨⟨a1, a2⟩, b1, b2⟩ := noteB_iff.1 h
  dsimp only at a1 a2 b1 b2
  have hsz := pt_size key10 a1 a2
  have hd := Decimal_size (n := n) (by omega) (by omega)
  unfold impl_noteText.f
  rw [pitchText_eq a1 a2]
  simp only [Option.bind_some]
  by_cases h1 : n = 1
  · rw [if_pos h1]
    congr 1
    refine ba_mk ?_
    rw [pt1_data, baL_data]
    unfold noteW
    rw [if_pos h1, List.append_nil]
  · rw [if_neg h1, Decimal_eq (by omega) (by omega)]
    simp only [Option.bind_some]
    rw [if_pos (by omega)]
    congr 1
    refine ba_mk ?_
    rw [ba_app, pt1_data, dec_list, baL_data]
    unfold noteW
    rw [if_neg h1]
theorem noteW_size {p n : Int} (h : noteB ⟨p, n⟩ = true) : (baL (noteW ⟨p, n⟩)).size ≤ 51 := by
  obtain ⟨⟨a1, a2⟩, b1, b2⟩ := noteB_iff.1 h
  dsimp only at a1 a2 b1 b2
  have hsz := pt_size key10 a1 a2
  have hd := Decimal_size (n := n) (by omega) (by omega)
  rw [Lib.size_eq, pt1_data] at hsz
  rw [Lib.size_eq, dec_list] at hd
  rw [baL_size]
  unfold noteW
  rw [List.length_append]
  split
  · simp; omega
  · dsimp only; omega
theorem rd_in {m : List S67} {i : Int} (h0 : 0 ≤ i) (h1 : i < (m.length : Int)) : rd_T67 m i ∈ m := by
  obtain ⟨n, rfl⟩ : ∃ n : Nat, i = (n : Int) := ⟨i.toNat, by omega⟩
  rw [rdN_get (by omega)]; exact List.getElem_mem _
theorem piece_note {m : List S67} (hm : melB m = true) {p : S136} (h : okP m p) : noteB ⟨(rd_T67 m p.f0).f0, p.f1⟩ = true := by
  obtain ⟨⟨h0, h1⟩, h2, h3⟩ := h
  unfold melB at hm
  rw [Bool.and_eq_true] at hm
  have := List.all_eq_true.1 hm.1 _ (rd_in h0 h1)
  exact noteB_iff.2 ⟨(noteB_iff.1 this).1, h2, h3⟩
theorem ntP_size {m : List S67} (hm : melB m = true) {p : S136} (h : okP m p) : (ntP m p).size ≤ 51 := noteW_size (piece_note hm h)
theorem wdP_size {m : List S67} (hm : melB m = true) {p : S136} (h : okP m p) : (wdP m p).size ≤ 52 := by
  have := ntP_size hm h
  have e : (⟨#[126]⟩ : ByteArray).size = 1 := rfl
  unfold wdP
  split
  · rw [ByteArray.size_append]; omega
  · omega
theorem Join_eq2 {l : List ByteArray} (hl : l.length ≤ 100000) (h : ∀ x ∈ l, x.size ≤ 99) : strings_Join.f l (⟨#[32]⟩ : ByteArray) = some (joinT l) := by
  have hz := joinT_size h
  unfold strings_Join.f
  rw [join_T, if_pos ⟨by omega, by omega⟩]
theorem rdP_get {l : List S136} {i : Nat} (h : i < l.length) : rd_T136 l (i : Int) = l[i] := by
  simp [rd_T136, List.getD_eq_getElem?_getD, List.getElem?_eq_getElem h]
theorem barP_size {b : Bool} {p : S136} : ∀ x ∈ barP b p, x.size ≤ 99 := by
  unfold barP
  intro x hx
  split at hx
  · cases hx
  · split at hx
    · cases hx
    · split at hx
      · rw [List.mem_singleton] at hx; rw [hx]; decide
      · rw [List.mem_singleton] at hx; rw [hx]; decide
theorem notate_l0 {m : List S67} (hm : melB m = true) (q : List S136) {l : List S136} (hl : l.length ≤ 10000) (ho : ∀ p ∈ l, okP m p) : ∀ (d K i : Nat) (acc : List ByteArray), i + d = l.length → acc.length ≤ 2 * i → (∀ x ∈ acc, x.size ≤ 99) → 2 * d + 1 ≤ K → impl_notate.l0 K m q acc l (l.length : Int) (i : Int) = some (joinT (acc ++ wds m (decide (i = 0)) (l.drop i)), decide ((q.length : Int) ≤ 128)) := by
  intro d
  induction d with
  | zero =>
    intro K i acc hi ha hs hK
    obtain ⟨K, rfl⟩ : ∃ z, K = z + 1 := ⟨K - 1, by omega⟩
    simp only [impl_notate.l0]
    rw [if_neg (by omega), List.drop_eq_nil_of_le (by omega), Join_eq2 (by omega) hs]
    simp only [Option.bind_some]
    show _ = some (joinT (acc ++ []), _)
    rw [List.append_nil]
  | succ d ih =>
    intro K i acc hi ha hs hK
    obtain ⟨K, rfl⟩ : ∃ z, K = z + 2 := ⟨K - 2, by omega⟩
    have hlt : i < l.length := by omega
    have hp := ho l[i] (List.getElem_mem hlt)
    have hw := wdP_size hm hp
    have hnt := ntP_size hm hp
    have htx : impl_noteText.f (rd_T67 m l[i].f0).f0 l[i].f1 = some (ntP m l[i]) := noteText_eq (piece_note hm hp)
    have e126 : (⟨#[126]⟩ : ByteArray).size = 1 := rfl
    -- the round's end
    have fin : ∀ (B : List ByteArray), (∀ x ∈ B, x.size ≤ 99) → B.length ≤ 1 → B = barP (decide (i = 0)) l[i] → impl_notate.l0 K m q ((acc ++ B) ++ [wdP m l[i]]) l (l.length : Int) (wrap64 ((i : Int) + 1)) = some (joinT (acc ++ wds m (decide (i = 0)) (l.drop i)), decide ((q.length : Int) ≤ 128)) := fun B h1 h2 h3 => by
      rw [wrap_succ hlt (by omega), ih K (i + 1) _ (by omega) (by rw [List.length_append, List.length_append]; simp; omega) (fun x hx => by
        rcases List.mem_append.1 hx with hx | hx
        · rcases List.mem_append.1 hx with hx | hx
          · exact hs x hx
          · exact h1 x hx
        · rw [List.mem_singleton] at hx; rw [hx]; omega) (by omega), List.drop_eq_getElem_cons hlt]
      congr 3
      rw [decide_eq_false (by omega : ¬ i + 1 = 0), List.append_assoc, List.append_assoc, h3]
      rfl
    have hj : impl_notate.j1 (K + 1) m q acc l (l.length : Int) (i : Int) (decide (i = 0) || decide (l[i].f2 < 0)) l[i].f0 l[i].f1 l[i].f2 l[i].f3 = some (joinT (acc ++ wds m (decide (i = 0)) (l.drop i)), decide ((q.length : Int) ≤ 128)) := by
      simp only [impl_notate.j1]
      by_cases hc : (decide (i = 0) || decide (l[i].f2 < 0)) = true
      · have hB : barP (decide (i = 0)) l[i] = [] := by
          unfold barP
          by_cases h0 : i = 0
          · rw [if_pos (decide_eq_true h0)]
          · rw [decide_eq_false h0, Bool.false_or, decide_eq_true_iff] at hc
            rw [if_neg (by rw [decide_eq_false h0]; decide), if_pos hc]
        have f := fin [] (by simp) (by simp) hB.symm
        rw [List.append_nil] at f
        rw [if_pos hc, if_pos hp.1.1, if_pos hp.1.2, htx]
        simp only [Option.bind_some]
        rw [← f]
        unfold wdP
        by_cases h3 : l[i].f3 = true
        · rw [if_pos h3, if_pos h3, if_pos (by omega), if_pos (by omega)]
        · rw [if_neg h3, if_neg h3, if_pos (by omega)]
      · rw [if_neg hc]
        rw [Bool.or_eq_true, decide_eq_true_iff, decide_eq_true_iff] at hc
        have h0 : ¬ i = 0 := fun e => hc (Or.inl e)
        have h2 : ¬ l[i].f2 < 0 := fun e => hc (Or.inr e)
        by_cases hz : l[i].f2 = 0
        · have hB : barP (decide (i = 0)) l[i] = [(⟨#[124, 124]⟩ : ByteArray)] := by
            unfold barP
            rw [if_neg (by rw [decide_eq_false h0]; decide), if_neg h2, if_pos hz]
          have f := fin [(⟨#[124, 124]⟩ : ByteArray)] (by rw [← hB]; exact barP_size) (by simp) hB.symm
          rw [if_pos hz, if_pos (by omega)]
          simp only [Option.bind_some]
          rw [if_pos hp.1.1, if_pos hp.1.2, htx]
          simp only [Option.bind_some]
          have hal : (acc ++ [(⟨#[124, 124]⟩ : ByteArray)]).length < 8796093022208 := by rw [List.length_append]; simp; omega
          rw [← f]
          unfold wdP
          by_cases h3 : l[i].f3 = true
          · rw [if_pos h3, if_pos h3, if_pos (by omega), if_pos hal]
          · rw [if_neg h3, if_neg h3, if_pos hal]
        · have hB : barP (decide (i = 0)) l[i] = [(⟨#[124]⟩ : ByteArray)] := by
            unfold barP
            rw [if_neg (by rw [decide_eq_false h0]; decide), if_neg h2, if_neg hz]
          have f := fin [(⟨#[124]⟩ : ByteArray)] (by rw [← hB]; exact barP_size) (by simp) hB.symm
          rw [if_neg hz, if_pos (by omega)]
          simp only [Option.bind_some]
          rw [if_pos hp.1.1, if_pos hp.1.2, htx]
          simp only [Option.bind_some]
          have hal : (acc ++ [(⟨#[124]⟩ : ByteArray)]).length < 8796093022208 := by rw [List.length_append]; simp; omega
          rw [← f]
          unfold wdP
          by_cases h3 : l[i].f3 = true
          · rw [if_pos h3, if_pos h3, if_pos (by omega), if_pos hal]
          · rw [if_neg h3, if_neg h3, if_pos hal]
    simp only [impl_notate.l0]
    rw [if_pos (lt_cast hlt), if_pos (nn_cast i), if_pos (lt_cast hlt), rdP_get hlt, ← hj]
    by_cases h0 : i = 0
    · rw [if_pos (by omega), decide_eq_true h0, Bool.true_or]
    · rw [if_neg (by omega), decide_eq_false h0, Bool.false_or]
/-- What the pieces of a melody know of time, of sections and of the notes before them. -/
def GoodL (S : List Int) (v : Int) (n : Nat) : Int → Int → List S136 → Prop
  | _, _, [] => True
  | T, prev, p :: r => (∃ j c, Pos S v T j c ∧ p.f2 = (if c = 0 then (j : Int) else -1)) ∧ p.f3 = decide (prev = p.f0) ∧ ((0 ≤ p.f0 ∧ p.f0 < (n : Int)) ∧ 1 ≤ p.f1 ∧ p.f1 ≤ 64) ∧ GoodL S v n (T + p.f1) p.f0 r
theorem cut_pos {S : List Int} {v : Int} (g : TG S v) : ∀ (f : Nat) (x : Int) (lt : Bool) (j : Nat) (c T : Int) (i : Int), 0 ≤ x → x ≤ f → Pos S v T j c → T + x ≤ 1000000 → Pos S v (T + x) (cutN S v f i lt x j c).2.1 (cutN S v f i lt x j c).2.2 := by
  intro f
  induction f with
  | zero =>
    intro x lt j c T i x0 x1 hP ht
    obtain rfl : x = 0 := by omega
    rw [Int.add_zero]; exact hP
  | succ f ih =>
    intro x lt j c T i x0 x1 hP ht
    unfold cutN
    by_cases hx : x > 0
    · rw [if_pos hx]
      have hL := Lj_bound g hP.jl
      have h2 := hP.c0
      have h3 := hP.c9
      obtain ⟨m1, m2, m3⟩ := @mn_le x (Lj S v j - c)
      have := ih (x - mn x (Lj S v j - c)) true _ _ (T + mn x (Lj S v j - c)) i (by omega) (by omega) (Pos_nx g hP (n := mn x (Lj S v j - c)) (by omega) (by omega) (by omega)) (by omega)
      rw [show T + mn x (Lj S v j - c) + (x - mn x (Lj S v j - c)) = T + x by omega] at this
      exact this
    · obtain rfl : x = 0 := by omega
      rw [if_neg hx, Int.add_zero]; exact hP
theorem good_cut {S : List Int} {v : Int} (g : TG S v) (n : Nat) (i : Int) (i0 : 0 ≤ i) (i1 : i < (n : Int)) (tail : List S136) : ∀ (f : Nat) (x : Int) (lt : Bool) (j : Nat) (c T prev : Int), 0 ≤ x → x ≤ f → x ≤ 64 → Pos S v T j c → T + x ≤ 1000000 → lt = decide (prev = i) → GoodL S v n (T + x) (if x > 0 then i else prev) tail → GoodL S v n T prev ((cutN S v f i lt x j c).1 ++ tail) := by
  intro f
  induction f with
  | zero =>
    intro x lt j c T prev x0 x1 x2 hP ht hl hg
    obtain rfl : x = 0 := by omega
    rw [Int.add_zero, if_neg (by omega)] at hg
    exact hg
  | succ f ih =>
    intro x lt j c T prev x0 x1 x2 hP ht hl hg
    unfold cutN
    by_cases hx : x > 0
    · rw [if_pos hx] at hg ⊢
      have hL := Lj_bound g hP.jl
      have h2 := hP.c0
      have h3 := hP.c9
      obtain ⟨m1, m2, m3⟩ := @mn_le x (Lj S v j - c)
      refine ⟨⟨j, c, hP, rfl⟩, hl, ⟨⟨i0, i1⟩, by show 1 ≤ mn x (Lj S v j - c); omega, by show mn x (Lj S v j - c) ≤ 64; omega⟩, ?_⟩
      refine ih (x - mn x (Lj S v j - c)) true _ _ (T + mn x (Lj S v j - c)) i (by omega) (by omega) (by omega) (Pos_nx g hP (n := mn x (Lj S v j - c)) (by omega) (by omega) (by omega)) (by omega) (by simp) ?_
      rw [show T + mn x (Lj S v j - c) + (x - mn x (Lj S v j - c)) = T + x by omega, ite_self]
      exact hg
    · obtain rfl : x = 0 := by omega
      rw [if_neg hx, Int.add_zero] at hg
      rw [if_neg hx]
      exact hg
theorem good_segs {S : List Int} {v : Int} (g : TG S v) (n : Nat) : ∀ (m : List S67) (i : Int) (j : Nat) (c T prev : Int), Pos S v T j c → T + 64 * m.length ≤ 1000000 → prev < i → 0 ≤ i → i + m.length ≤ (n : Int) → (∀ y ∈ m, 1 ≤ y.f1 ∧ y.f1 ≤ 64) → GoodL S v n T prev (segs S v m i j c)
  | [], _, _, _, _, _, _, _, _, _, _, _ => trivial
  | x :: r, i, j, c, T, prev, hP, ht, hp, i0, i1, hy => by
    have hx := hy x List.mem_cons_self
    rw [List.length_cons] at ht i1
    have hP2 := cut_pos g 64 x.f1 false j c T i (by omega) (by omega) hP (by omega)
    have ih := good_segs g n r (i + 1) _ _ (T + x.f1) i hP2 (by omega) (by omega) (by omega) (by omega) (fun y h => hy y (List.mem_cons_of_mem _ h))
    show GoodL S v n T prev ((cutN S v 64 i false x.f1 j c).1 ++ _)
    refine good_cut g n i i0 (by omega) _ 64 x.f1 false j c T prev (by omega) (by omega) (by omega) hP (by omega) (by rw [decide_eq_false (by omega)]) ?_
    rw [if_pos (by omega)]
    exact ih
theorem good_ok {S : List Int} {v : Int} {n : Nat} : ∀ {l : List S136} {T prev : Int}, GoodL S v n T prev l → ∀ p ∈ l, (0 ≤ p.f0 ∧ p.f0 < (n : Int)) ∧ 1 ≤ p.f1 ∧ p.f1 ≤ 64
  | [], _, _, _, p, hp => by cases hp
  | q :: r, T, prev, h, p, hp => by
    rcases List.mem_cons.1 hp with rfl | hp
    · exact h.2.2.1
    · exact good_ok h.2.2.2 p hp
theorem segs_nil_iff {S : List Int} {v : Int} {m : List S67} (hy : ∀ y ∈ m, 1 ≤ y.f1 ∧ y.f1 ≤ 64) {i : Int} {j : Nat} {c : Int} : segs S v m i j c = [] ↔ m = [] := by
  cases m with
  | nil => exact ⟨fun _ => rfl, fun _ => rfl⟩
  | cons x r =>
    have hx := hy x List.mem_cons_self
    constructor
    · intro h
      unfold segs at h
      have := (List.append_eq_nil_iff.1 h).1
      unfold cutN at this
      rw [if_pos (by omega)] at this
      cases this
    · intro h; cases h
theorem segs_length {S : List Int} {v : Int} : ∀ (m : List S67) (i : Int) (j : Nat) (c : Int), (segs S v m i j c).length ≤ 64 * m.length
  | [], _, _, _ => Nat.le_refl _
  | x :: r, i, j, c => by
    unfold segs
    have h1 := cutN_length S v 64 i false x.f1 j c
    have h2 := segs_length (S := S) (v := v) r (i + 1) (cutN S v 64 i false x.f1 j c).2.1 (cutN S v 64 i false x.f1 j c).2.2
    rw [List.length_append, List.length_cons]; omega
def notT (S : List Int) (v : Int) (m : List S67) : ByteArray := if m = [] then (⟨#[45]⟩ : ByteArray) else joinT (wds m true (segs S v m 0 0 0))
theorem notate_eq {S : List Int} {v : Int} (g : TG S v) (s : ByteArray) (M : List Int) {m : List S67} (hm : melB m = true) {K : Nat} (hK : 20000 ≤ K) : impl_notate.f K m s S M v = some (notT S v m, decide (((segs S v m 0 0 0).length : Int) ≤ 128)) := by
  have h48 := (melB_ok hm).1
  have hy := mel_len hm
  have hz := segs_length (S := S) (v := v) m 0 0 0
  unfold impl_notate.f notT
  by_cases h0 : m = []
  · subst h0; rfl
  have hp := List.length_pos_iff.2 h0
  have hgd := good_segs g m.length m 0 0 0 0 (-1) (Pos_zero g) (by omega) (by omega) (by omega) (by omega) hy
  rw [if_neg (by omega), if_neg h0, split_eq g s M hm (by omega)]
  simp only [Option.bind_some]
  have := notate_l0 hm (segs S v m 0 0 0) (l := segs S v m 0 0 0) (by omega) (good_ok hgd) (segs S v m 0 0 0).length K 0 [] (by omega) (by simp) (by simp) (by omega)
  rw [List.drop_zero, List.nil_append, decide_eq_true rfl] at this
  exact this
end Go.Proofs.YtmoamoopoifnlaaGreatDoor.P
