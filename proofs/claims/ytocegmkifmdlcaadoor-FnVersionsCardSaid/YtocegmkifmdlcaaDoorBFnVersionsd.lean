/- Part d of what FnVersions stands on: functions of the program as Lean functions with their walks, and plain lemmas. -/
import Derived.Test.YtocegmkifmdlcaaDoorBFnVersionsa
import Derived.Test.YtocegmkifmdlcaaDoorK
import Derived.Test.YtocegmkifmdlcaaDoorBFnVersionsb
import Derived.Test.YtocegmkifmdlcaaDoorBFnVersionsc
import Derived.ChangeOld
import Derived.ChangeArms
import Derived.WideShapes
import Derived.Test.YtocegmkifmdlcaaDoorWWords
import Derived.KernelRfl
import Derived.Sort.Grow
import Derived.Sort.EncStr
import Derived.Lib.SlicesCompact
import Derived.Laws.BitsAllLaws
namespace Go.Proofs.YtocegmkifmdlcaaDoor.P
open Go.RowKit Go.Proofs.YtocegmkifmdlcaaDoorW.PrintWords Go.Proofs.YtocegmkifmdlcaaDoorW.PrintLast Go.Proofs.YtocegmkifmdlcaaDoorW.PrintMore
attribute [local go_sem] max2_int min2_int max_two min_two max_three min_three max_four min_four str_leq str_gtr str_geq
set_option linter.unusedVariables false
set_option linter.unusedSimpArgs false
mutual
def laws_FnVersions.j0:Nat→List Int→List (S48)→List (S57)→Bool→Option (Bool)
 | 0,_,_,_,_=>none
 | k+1,x1,x5,x6,x59=>if x59=true then none else ((laws_r8At.f x1 0 (wrap64 ((x5.length:Int)+1))).bind fun t120=>((impl_CommitState.f k x5 t120 (⟨#[110,101,120,116]⟩:ByteArray) x6).bind fun bt121=>((impl_UndoVersion.f k bt121.1 (wrap64 ((x5.length:Int)+1))).bind fun bt125=>((impl_AncestorsOf.f k bt121.1 (wrap64 ((x5.length:Int)+1))).bind fun bt129=>((impl_HeadsOf.f k bt121.1).bind fun bt133=>((impl_CommonAncestor.f k bt121.1 (wrap64 ((x5.length:Int)+1)) (wrap64 ((x5.length:Int)+1))).bind fun bt137=>(if bt121.2=0 then (if (bt121.1.length:Int)=(wrap64 ((x5.length:Int)+1)) then (if bt125.2=0 then (if (bt125.1.length:Int)=(wrap64 ((wrap64 ((x5.length:Int)+1))+1)) then (if bt129.2=0 then (if bt133.2=0 then ((laws_r8Has.f k bt133.1 (wrap64 ((x5.length:Int)+1))).bind fun t139=>(if t139=true then (if bt137.2=0 then (if bt137.1=(wrap64 ((x5.length:Int)+1)) then ((spec_ValidHistory.f k bt125.1).bind fun t140=>(laws_FnVersions.j1 k x5 t120 bt121.1 (wrap64 ((x5.length:Int)+1)) bt125.1 bt129.1 (!t140))) else none) else none) else none)) else none) else none) else none) else none) else none) else none)))))))
def laws_FnVersions.j1:Nat→List (S48)→Int→List (S48)→Int→List (S48)→List Int→Bool→Option (Bool)
 | 0,_,_,_,_,_,_,_=>none
 | k+1,x5,x12,x13,x15,x16,x18,x145=>if x145=true then none else (if x12 > 0 then (if 0≤(wrap64 (x12 - 1)) then (if (wrap64 (x12 - 1))<(x5.length:Int) then (if 0≤x15 then (if x15<(x16.length:Int) then ((spec_SameState.f k ((rd_T48 x16 x15).f3) ((rd_T48 x5 (wrap64 (x12 - 1))).f3)).bind fun t146=>(if t146=true then ((laws_r8Has.f k x18 x12).bind fun t147=>(laws_FnVersions.j2 k x13 x15 x18 ((decide (x12 > 0)) != t147))) else none)) else (none)) else (none)) else (none)) else (none)) else (if 0≤x15 then (if x15<(x16.length:Int) then ((spec_SameState.f k ((rd_T48 x16 x15).f3) (([]:List (S57)))).bind fun t155=>(if t155=true then ((laws_r8Has.f k x18 x12).bind fun t156=>(laws_FnVersions.j4 k x13 x15 x18 ((decide (x12 > 0)) != t156))) else none)) else (none)) else (none)))
def laws_FnVersions.j2:Nat→List (S48)→Int→List Int→Bool→Option (Bool)
 | 0,_,_,_,_=>none
 | k+1,x13,x15,x18,x170=>if x170=true then none else (laws_FnVersions.l0 k x13 x15 x18 0)
def laws_FnVersions.l0:Nat→List (S48)→Int→List Int→Int→Option (Bool)
 | 0,_,_,_,_=>none
 | k+1,x13,x15,x18,x25=>if x25<(x18.length:Int) then (if 0≤x25 then (if (rd x18 x25)<1 then none else (if (rd x18 x25)≥x15 then none else (if x25 > 0 then (if 0≤(wrap64 (x25 - 1)) then (if (wrap64 (x25 - 1))<(x18.length:Int) then (if (rd x18 x25)≥(rd x18 (wrap64 (x25 - 1))) then none else (laws_FnVersions.l0 k x13 x15 x18 (wrap64 (x25+1)))) else (none)) else (none)) else (laws_FnVersions.l0 k x13 x15 x18 (wrap64 (x25+1)))))) else (none)) else (if 0≤(wrap64 (x15 - 1)) then (if (wrap64 (x15 - 1))<(x13.length:Int) then ((impl_VersionText.f k ((rd_T48 x13 (wrap64 (x15 - 1))).f0) ((rd_T48 x13 (wrap64 (x15 - 1))).f1) ((rd_T48 x13 (wrap64 (x15 - 1))).f2) ((rd_T48 x13 (wrap64 (x15 - 1))).f3)).bind fun t153=>(some (t153.toList != ([]:List UInt8)))) else (none)) else (none))
def laws_FnVersions.j4:Nat→List (S48)→Int→List Int→Bool→Option (Bool)
 | 0,_,_,_,_=>none
 | k+1,x13,x15,x18,x170=>if x170=true then none else (laws_FnVersions.l1 k x13 x15 x18 0)
def laws_FnVersions.l1:Nat→List (S48)→Int→List Int→Int→Option (Bool)
 | 0,_,_,_,_=>none
 | k+1,x13,x15,x18,x25=>if x25<(x18.length:Int) then (if 0≤x25 then (if (rd x18 x25)<1 then none else (if (rd x18 x25)≥x15 then none else (if x25 > 0 then (if 0≤(wrap64 (x25 - 1)) then (if (wrap64 (x25 - 1))<(x18.length:Int) then (if (rd x18 x25)≥(rd x18 (wrap64 (x25 - 1))) then none else (laws_FnVersions.l1 k x13 x15 x18 (wrap64 (x25+1)))) else (none)) else (none)) else (laws_FnVersions.l1 k x13 x15 x18 (wrap64 (x25+1)))))) else (none)) else (if 0≤(wrap64 (x15 - 1)) then (if (wrap64 (x15 - 1))<(x13.length:Int) then ((impl_VersionText.f k ((rd_T48 x13 (wrap64 (x15 - 1))).f0) ((rd_T48 x13 (wrap64 (x15 - 1))).f1) ((rd_T48 x13 (wrap64 (x15 - 1))).f2) ((rd_T48 x13 (wrap64 (x15 - 1))).f3)).bind fun t162=>(some (t162.toList != ([]:List UInt8)))) else (none)) else (none))
end
def laws_FnVersions.f (k:Nat) (l0:List Int) (l1:List Int):Option (Bool):=(laws_r8Long.f l0 l1).bind fun t101=>(if t101=true then (some true) else ((spec_R8History.f k l0).bind fun t102=>((spec_R8State.f k l1).bind fun t105=>((spec_R8Changed.f k l0 t105).bind fun t108=>((impl_DiffStates.f k t105 t108).bind fun bt111=>((impl_ApplyChanges.f k t105 bt111.1).bind fun bt115=>(if bt111.2=0 then (if bt115.2=0 then ((spec_SameState.f k bt115.1 t108).bind fun t119=>(laws_FnVersions.j0 k l1 t102 t105 (!t119))) else none) else none)))))))
set_option maxHeartbeats 8000000 in
set_option maxRecDepth 100000 in
theorem laws_FnVersions.calls (k:Nat) (A0:Option Addr) (c0:Nat) (l0:List Int) (A1:Option Addr) (c1:Nat) (l1:List Int) (r:Bool) (w:World) (hD:Door1 w) (hr0:Kd.C (Kd.int .u8) w A0 l0.length l0) (hc0:l0.length≤c0) (hr1:Kd.C (Kd.int .u8) w A1 l1.length l1) (hc1:l1.length≤c1) (h:laws_FnVersions.f k l0 l1=some r) :
 Calls Tryd.prog 3 #[.slice A0 l0.length c0,.slice A1 l1.length c1] w fun e w'=>e = .returned (.bool r)∧Below w.heap.size w w':=by
 have hu48:=Tryd.underlying48
 have HD:=Aside0.mk hD
 clear hD
 have HR0:=Aside0.mk hr0
 have HC0:=Aside0.mk hc0
 clear hr0 hc0
 have HR1:=Aside0.mk hr1
 have HC1:=Aside0.mk hc1
 clear hr1 hc1
 have HB:=Aside0.mk (Below.refl w.heap.size w)
 have H:((laws_r8Long.f l0 l1).bind fun t101=>(if t101=true then (some true) else ((spec_R8History.f k l0).bind fun t102=>((spec_R8State.f k l1).bind fun t105=>((spec_R8Changed.f k l0 t105).bind fun t108=>((impl_DiffStates.f k t105 t108).bind fun bt111=>((impl_ApplyChanges.f k t105 bt111.1).bind fun bt115=>(if bt111.2=0 then (if bt115.2=0 then ((spec_SameState.f k bt115.1 t108).bind fun t119=>(laws_FnVersions.j0 k l1 t102 t105 (!t119))) else none) else none))))))))=some r:=h
 clear h
 replace H:=Option.bind_eq_some_iff.mp H
 obtain ⟨t101,A30,H⟩:=H
 replace H:(if t101=true then (some true) else ((spec_R8History.f k l0).bind fun t102=>((spec_R8State.f k l1).bind fun t105=>((spec_R8Changed.f k l0 t105).bind fun t108=>((impl_DiffStates.f k t105 t108).bind fun bt111=>((impl_ApplyChanges.f k t105 bt111.1).bind fun bt115=>(if bt111.2=0 then (if bt115.2=0 then ((spec_SameState.f k bt115.1 t108).bind fun t119=>(laws_FnVersions.j0 k l1 t102 t105 (!t119))) else none) else none)))))))=some r:=H
 have A3:=Aside0.mk A30
 clear A30
 by_cases c4:t101=true
 ·subst c4
  have H1:(some true)=some r:=by rw [if_pos rfl] at H;exact H
  clear H
  have H:=H1
  clear H1
  obtain rfl:=Option.some.inj H
  go_enter Tryd.func3,Tryd.ntmps3
  go_wp2_with (first|(go_at_call 4;(with_reducible refine (laws_r8Long.calls _ _ l0 _ _ l1 true _ ?side1 ?side2 ?side3 ?side4 A3.out).mono ?_);(case side1=>exact zo);(case side2=>exact HC0.out);(case side3=>exact zbb);(case side4=>exact HC1.out);rintro e w' ⟨rfl,⟨nd,rfl⟩⟩;(try first|exact ⟨rfl,_,World.drewN_drewN _ _ _⟩|exact ⟨rfl,_,Eq.trans (World.drewN_drewN _ _ _) (congrArg (World.drewN _) (Nat.add_assoc _ _ _))⟩)))
  repeat (go_quiet (first|(go_at_call 4;(with_reducible refine (laws_r8Long.calls _ _ l0 _ _ l1 true _ ?side1 ?side2 ?side3 ?side4 A3.out).mono ?_);(case side1=>exact zo);(case side2=>exact HC0.out);(case side3=>exact zbb);(case side4=>exact HC1.out);rintro e w' ⟨rfl,⟨nd,rfl⟩⟩;(try first|exact ⟨rfl,_,World.drewN_drewN _ _ _⟩|exact ⟨rfl,_,Eq.trans (World.drewN_drewN _ _ _) (congrArg (World.drewN _) (Nat.add_assoc _ _ _))⟩)));try go_wp2_with (first|(go_at_call 4;(with_reducible refine (laws_r8Long.calls _ _ l0 _ _ l1 true _ ?side1 ?side2 ?side3 ?side4 A3.out).mono ?_);(case side1=>exact zo);(case side2=>exact HC0.out);(case side3=>exact zbb);(case side4=>exact HC1.out);rintro e w' ⟨rfl,⟨nd,rfl⟩⟩;(try first|exact ⟨rfl,_,World.drewN_drewN _ _ _⟩|exact ⟨rfl,_,Eq.trans (World.drewN_drewN _ _ _) (congrArg (World.drewN _) (Nat.add_assoc _ _ _))⟩))))
  go_ret
  exact ⟨by first|rfl|(generalize t153.toList=q_;cases q_<;>rfl)|(generalize t162.toList=q_;cases q_<;>rfl)|(simp [errW_none,errW_some]<;>rfl)|(simp [*,errW_none,errW_some]<;>rfl),za⟩
 ·replace c4:=Bool.eq_false_iff.mpr c4
  subst c4
  have H1:((spec_R8History.f k l0).bind fun t102=>((spec_R8State.f k l1).bind fun t105=>((spec_R8Changed.f k l0 t105).bind fun t108=>((impl_DiffStates.f k t105 t108).bind fun bt111=>((impl_ApplyChanges.f k t105 bt111.1).bind fun bt115=>(if bt111.2=0 then (if bt115.2=0 then ((spec_SameState.f k bt115.1 t108).bind fun t119=>(laws_FnVersions.j0 k l1 t102 t105 (!t119))) else none) else none))))))=some r:=by rw [if_neg (show ¬ (false=true) by decide)] at H;exact H
  clear H
  have H:=H1
  clear H1
  replace H:=Option.bind_eq_some_iff.mp H
  obtain ⟨t102,A50,H⟩:=H
  replace H:((spec_R8State.f k l1).bind fun t105=>((spec_R8Changed.f k l0 t105).bind fun t108=>((impl_DiffStates.f k t105 t108).bind fun bt111=>((impl_ApplyChanges.f k t105 bt111.1).bind fun bt115=>(if bt111.2=0 then (if bt115.2=0 then ((spec_SameState.f k bt115.1 t108).bind fun t119=>(laws_FnVersions.j0 k l1 t102 t105 (!t119))) else none) else none)))))=some r:=H
  have A5:=Aside0.mk A50
  clear A50
  replace H:=Option.bind_eq_some_iff.mp H
  obtain ⟨t105,A60,H⟩:=H
  replace H:((spec_R8Changed.f k l0 t105).bind fun t108=>((impl_DiffStates.f k t105 t108).bind fun bt111=>((impl_ApplyChanges.f k t105 bt111.1).bind fun bt115=>(if bt111.2=0 then (if bt115.2=0 then ((spec_SameState.f k bt115.1 t108).bind fun t119=>(laws_FnVersions.j0 k l1 t102 t105 (!t119))) else none) else none))))=some r:=H
  have A6:=Aside0.mk A60
  clear A60
  replace H:=Option.bind_eq_some_iff.mp H
  obtain ⟨t108,A70,H⟩:=H
  replace H:((impl_DiffStates.f k t105 t108).bind fun bt111=>((impl_ApplyChanges.f k t105 bt111.1).bind fun bt115=>(if bt111.2=0 then (if bt115.2=0 then ((spec_SameState.f k bt115.1 t108).bind fun t119=>(laws_FnVersions.j0 k l1 t102 t105 (!t119))) else none) else none)))=some r:=H
  have A7:=Aside0.mk A70
  clear A70
  replace H:=Option.bind_eq_some_iff.mp H
  obtain ⟨⟨t111,t112⟩,A80,H⟩:=H
  replace H:((impl_ApplyChanges.f k t105 t111).bind fun bt115=>(if t112=0 then (if bt115.2=0 then ((spec_SameState.f k bt115.1 t108).bind fun t119=>(laws_FnVersions.j0 k l1 t102 t105 (!t119))) else none) else none))=some r:=H
  have A8:=Aside0.mk A80
  clear A80
  replace H:=Option.bind_eq_some_iff.mp H
  obtain ⟨⟨t115,t116⟩,A90,H⟩:=H
  replace H:(if t112=0 then (if t116=0 then ((spec_SameState.f k t115 t108).bind fun t119=>(laws_FnVersions.j0 k l1 t102 t105 (!t119))) else none) else none)=some r:=H
  have A9:=Aside0.mk A90
  clear A90
  have HC10:=Aside0.mk H
  clear H
  go_enter Tryd.func3,Tryd.ntmps3
  go_upto_region 8 with (first|(go_at_call 4;(with_reducible refine (laws_r8Long.calls _ _ l0 _ _ l1 false _ ?side1 ?side2 ?side3 ?side4 A3.out).mono ?_);(case side1=>exact zo);(case side2=>exact HC0.out);(case side3=>exact zbb);(case side4=>exact HC1.out);rintro e w' ⟨rfl,⟨nd,rfl⟩⟩;(try first|exact ⟨rfl,_,World.drewN_drewN _ _ _⟩|exact ⟨rfl,_,Eq.trans (World.drewN_drewN _ _ _) (congrArg (World.drewN _) (Nat.add_assoc _ _ _))⟩))|(go_at_call 5;(with_reducible refine (spec_R8History.calls k _ _ l0 t102 _ ?side1 ?side2 A5.out).mono ?_);(case side1=>exact zo);(case side2=>exact HC0.out);rintro e w11 ⟨v103,rfl,ho0,hb⟩;have HO104:=Aside0.mk (Kd.S_lower ho0 (below_size za));replace HB:=Aside0.mk (below_step za hb);(try clear hb);(try clear hb2);(try clear hk);(try clear hi);(try clear ho0))|(go_at_call 6;(with_reducible refine (spec_R8State.calls k _ _ l1 t105 _ ?side1 ?side2 A6.out).mono ?_);(case side1=>exact zab);(case side2=>exact HC1.out);rintro e w12 ⟨v106,rfl,ho0,hb⟩;replace HO104:=Aside0.mk (Kd.S_elder' zav (Kd.R_base ho0) hb);have HO107:=Aside0.mk (Kd.R_lower ho0 (below_size za));replace HB:=Aside0.mk (below_step za hb);(try clear hb);(try clear hb2);(try clear hk);(try clear hi);(try clear ho0);obtain ⟨Ao13,co13,eo13⟩:=Kd.R_slice HO107.out;subst eo13)|(go_at_call 7;(with_reducible refine (spec_R8Changed.calls k _ _ l0 _ _ t105 t108 _ ?side1 ?side2 ?side3 ?side4 A7.out).mono ?_);(case side1=>exact zm);(case side2=>exact HC0.out);(case side3=>exact zao);(case side4=>exact (Kd.R_reads' HO107.out).2.1);rintro e w14 ⟨v109,rfl,ho0,hb⟩;have n0_:=Aside0.mk (Kd.S_elder' zav (Kd.R_base ho0) hb);have n1_:=Aside0.mk (Kd.R_elder' zak (Kd.R_base ho0) hb);have n2_:=Aside0.mk (Kd.R_lower (Kd.R_new' ho0 (Kd.R_lt zak)) (below_size za));have n3_:=Aside0.mk (below_step za hb);clear HO104;clear HO107;clear HB;have HO104:=n0_;have HO107:=n1_;have HO110:=n2_;have HB:=n3_;clear n0_ n1_ n2_ n3_;(try clear hb);(try clear hb2);(try clear hk);(try clear hi);(try clear ho0);obtain ⟨Ao15,co15,eo15⟩:=Kd.R_slice HO110.out;subst eo15)|(go_at_call 8;(with_reducible refine (impl_DiffStates.calls k _ _ t105 _ _ t108 t111 t112 _ ?side1 ?side2 ?side3 ?side4 A8.out).mono ?_);(case side1=>exact zao);(case side2=>exact (Kd.R_reads' HO107.out).2.1);(case side3=>exact zbd);(case side4=>exact (Kd.R_reads' HO110.out).2.1);rintro e w16 ⟨v113,rfl,ho0,hb⟩;replace HO104:=Aside0.mk (Kd.S_below zav hb);replace HO107:=Aside0.mk (Kd.R_below zak hb);replace HO110:=Aside0.mk (Kd.R_below zbo hb);have HO114:=Aside0.mk (Kd.R_lower ho0 (below_size za));replace HB:=Aside0.mk (below_step za hb);(try clear hb);(try clear hb2);(try clear hk);(try clear hi);(try clear ho0);obtain ⟨Ao17,co17,eo17⟩:=Kd.R_slice HO114.out;subst eo17)|(go_at_call 9;(with_reducible refine (impl_ApplyChanges.calls k _ _ t105 _ _ t111 t115 t116 _ ?side1 ?side2 ?side3 ?side4 A9.out).mono ?_);(case side1=>exact zao);(case side2=>exact (Kd.R_reads' HO107.out).2.1);(case side3=>exact zcl);(case side4=>exact (Kd.R_reads' HO114.out).2.1);rintro e w18 ⟨v117,rfl,ho0,hb⟩;have n0_:=Aside0.mk (Kd.S_elder' zav (Kd.R_base ho0) hb);have n1_:=Aside0.mk (Kd.R_elder' zak (Kd.R_base ho0) hb);have n2_:=Aside0.mk (Kd.R_elder' zbo (Kd.R_base ho0) hb);have n3_:=Aside0.mk (Kd.R_below (by (with_reducible repeat (first|apply Kd.R_alloc|apply Kd.R_drewN|apply Kd.R_drew));exact HO114.out) hb);have n4_:=Aside0.mk (Kd.R_lower (Kd.R_new' (Kd.R_new' ho0 (Kd.R_lt zak)) (Kd.R_lt zbo)) (below_size za));have n5_:=Aside0.mk (below_step za hb);clear HO104;clear HO107;clear HO110;clear HO114;clear HB;have HO104:=n0_;have HO107:=n1_;have HO110:=n2_;have HO114:=n3_;have HO118:=n4_;have HB:=n5_;clear n0_ n1_ n2_ n3_ n4_ n5_;(try clear hb);(try clear hb2);(try clear hk);(try clear hi);(try clear ho0)))
  repeat (go_quiet (first|(go_at_call 4;(with_reducible refine (laws_r8Long.calls _ _ l0 _ _ l1 false _ ?side1 ?side2 ?side3 ?side4 A3.out).mono ?_);(case side1=>exact zo);(case side2=>exact HC0.out);(case side3=>exact zbb);(case side4=>exact HC1.out);rintro e w' ⟨rfl,⟨nd,rfl⟩⟩;(try first|exact ⟨rfl,_,World.drewN_drewN _ _ _⟩|exact ⟨rfl,_,Eq.trans (World.drewN_drewN _ _ _) (congrArg (World.drewN _) (Nat.add_assoc _ _ _))⟩))|(go_at_call 5;(with_reducible refine (spec_R8History.calls k _ _ l0 t102 _ ?side1 ?side2 A5.out).mono ?_);(case side1=>exact zo);(case side2=>exact HC0.out);rintro e w11 ⟨v103,rfl,ho0,hb⟩;have HO104:=Aside0.mk (Kd.S_lower ho0 (below_size za));replace HB:=Aside0.mk (below_step za hb);(try clear hb);(try clear hb2);(try clear hk);(try clear hi);(try clear ho0))|(go_at_call 6;(with_reducible refine (spec_R8State.calls k _ _ l1 t105 _ ?side1 ?side2 A6.out).mono ?_);(case side1=>exact zab);(case side2=>exact HC1.out);rintro e w12 ⟨v106,rfl,ho0,hb⟩;replace HO104:=Aside0.mk (Kd.S_elder' zav (Kd.R_base ho0) hb);have HO107:=Aside0.mk (Kd.R_lower ho0 (below_size za));replace HB:=Aside0.mk (below_step za hb);(try clear hb);(try clear hb2);(try clear hk);(try clear hi);(try clear ho0);obtain ⟨Ao13,co13,eo13⟩:=Kd.R_slice HO107.out;subst eo13)|(go_at_call 7;(with_reducible refine (spec_R8Changed.calls k _ _ l0 _ _ t105 t108 _ ?side1 ?side2 ?side3 ?side4 A7.out).mono ?_);(case side1=>exact zm);(case side2=>exact HC0.out);(case side3=>exact zao);(case side4=>exact (Kd.R_reads' HO107.out).2.1);rintro e w14 ⟨v109,rfl,ho0,hb⟩;have n0_:=Aside0.mk (Kd.S_elder' zav (Kd.R_base ho0) hb);have n1_:=Aside0.mk (Kd.R_elder' zak (Kd.R_base ho0) hb);have n2_:=Aside0.mk (Kd.R_lower (Kd.R_new' ho0 (Kd.R_lt zak)) (below_size za));have n3_:=Aside0.mk (below_step za hb);clear HO104;clear HO107;clear HB;have HO104:=n0_;have HO107:=n1_;have HO110:=n2_;have HB:=n3_;clear n0_ n1_ n2_ n3_;(try clear hb);(try clear hb2);(try clear hk);(try clear hi);(try clear ho0);obtain ⟨Ao15,co15,eo15⟩:=Kd.R_slice HO110.out;subst eo15)|(go_at_call 8;(with_reducible refine (impl_DiffStates.calls k _ _ t105 _ _ t108 t111 t112 _ ?side1 ?side2 ?side3 ?side4 A8.out).mono ?_);(case side1=>exact zao);(case side2=>exact (Kd.R_reads' HO107.out).2.1);(case side3=>exact zbd);(case side4=>exact (Kd.R_reads' HO110.out).2.1);rintro e w16 ⟨v113,rfl,ho0,hb⟩;replace HO104:=Aside0.mk (Kd.S_below zav hb);replace HO107:=Aside0.mk (Kd.R_below zak hb);replace HO110:=Aside0.mk (Kd.R_below zbo hb);have HO114:=Aside0.mk (Kd.R_lower ho0 (below_size za));replace HB:=Aside0.mk (below_step za hb);(try clear hb);(try clear hb2);(try clear hk);(try clear hi);(try clear ho0);obtain ⟨Ao17,co17,eo17⟩:=Kd.R_slice HO114.out;subst eo17)|(go_at_call 9;(with_reducible refine (impl_ApplyChanges.calls k _ _ t105 _ _ t111 t115 t116 _ ?side1 ?side2 ?side3 ?side4 A9.out).mono ?_);(case side1=>exact zao);(case side2=>exact (Kd.R_reads' HO107.out).2.1);(case side3=>exact zcl);(case side4=>exact (Kd.R_reads' HO114.out).2.1);rintro e w18 ⟨v117,rfl,ho0,hb⟩;have n0_:=Aside0.mk (Kd.S_elder' zav (Kd.R_base ho0) hb);have n1_:=Aside0.mk (Kd.R_elder' zak (Kd.R_base ho0) hb);have n2_:=Aside0.mk (Kd.R_elder' zbo (Kd.R_base ho0) hb);have n3_:=Aside0.mk (Kd.R_below (by (with_reducible repeat (first|apply Kd.R_alloc|apply Kd.R_drewN|apply Kd.R_drew));exact HO114.out) hb);have n4_:=Aside0.mk (Kd.R_lower (Kd.R_new' (Kd.R_new' ho0 (Kd.R_lt zak)) (Kd.R_lt zbo)) (below_size za));have n5_:=Aside0.mk (below_step za hb);clear HO104;clear HO107;clear HO110;clear HO114;clear HB;have HO104:=n0_;have HO107:=n1_;have HO110:=n2_;have HO114:=n3_;have HO118:=n4_;have HB:=n5_;clear n0_ n1_ n2_ n3_ n4_ n5_;(try clear hb);(try clear hb2);(try clear hk);(try clear hi);(try clear ho0)));go_upto_region 8 with (first|(go_at_call 4;(with_reducible refine (laws_r8Long.calls _ _ l0 _ _ l1 false _ ?side1 ?side2 ?side3 ?side4 A3.out).mono ?_);(case side1=>exact zo);(case side2=>exact HC0.out);(case side3=>exact zbb);(case side4=>exact HC1.out);rintro e w' ⟨rfl,⟨nd,rfl⟩⟩;(try first|exact ⟨rfl,_,World.drewN_drewN _ _ _⟩|exact ⟨rfl,_,Eq.trans (World.drewN_drewN _ _ _) (congrArg (World.drewN _) (Nat.add_assoc _ _ _))⟩))|(go_at_call 5;(with_reducible refine (spec_R8History.calls k _ _ l0 t102 _ ?side1 ?side2 A5.out).mono ?_);(case side1=>exact zo);(case side2=>exact HC0.out);rintro e w11 ⟨v103,rfl,ho0,hb⟩;have HO104:=Aside0.mk (Kd.S_lower ho0 (below_size za));replace HB:=Aside0.mk (below_step za hb);(try clear hb);(try clear hb2);(try clear hk);(try clear hi);(try clear ho0))|(go_at_call 6;(with_reducible refine (spec_R8State.calls k _ _ l1 t105 _ ?side1 ?side2 A6.out).mono ?_);(case side1=>exact zab);(case side2=>exact HC1.out);rintro e w12 ⟨v106,rfl,ho0,hb⟩;replace HO104:=Aside0.mk (Kd.S_elder' zav (Kd.R_base ho0) hb);have HO107:=Aside0.mk (Kd.R_lower ho0 (below_size za));replace HB:=Aside0.mk (below_step za hb);(try clear hb);(try clear hb2);(try clear hk);(try clear hi);(try clear ho0);obtain ⟨Ao13,co13,eo13⟩:=Kd.R_slice HO107.out;subst eo13)|(go_at_call 7;(with_reducible refine (spec_R8Changed.calls k _ _ l0 _ _ t105 t108 _ ?side1 ?side2 ?side3 ?side4 A7.out).mono ?_);(case side1=>exact zm);(case side2=>exact HC0.out);(case side3=>exact zao);(case side4=>exact (Kd.R_reads' HO107.out).2.1);rintro e w14 ⟨v109,rfl,ho0,hb⟩;have n0_:=Aside0.mk (Kd.S_elder' zav (Kd.R_base ho0) hb);have n1_:=Aside0.mk (Kd.R_elder' zak (Kd.R_base ho0) hb);have n2_:=Aside0.mk (Kd.R_lower (Kd.R_new' ho0 (Kd.R_lt zak)) (below_size za));have n3_:=Aside0.mk (below_step za hb);clear HO104;clear HO107;clear HB;have HO104:=n0_;have HO107:=n1_;have HO110:=n2_;have HB:=n3_;clear n0_ n1_ n2_ n3_;(try clear hb);(try clear hb2);(try clear hk);(try clear hi);(try clear ho0);obtain ⟨Ao15,co15,eo15⟩:=Kd.R_slice HO110.out;subst eo15)|(go_at_call 8;(with_reducible refine (impl_DiffStates.calls k _ _ t105 _ _ t108 t111 t112 _ ?side1 ?side2 ?side3 ?side4 A8.out).mono ?_);(case side1=>exact zao);(case side2=>exact (Kd.R_reads' HO107.out).2.1);(case side3=>exact zbd);(case side4=>exact (Kd.R_reads' HO110.out).2.1);rintro e w16 ⟨v113,rfl,ho0,hb⟩;replace HO104:=Aside0.mk (Kd.S_below zav hb);replace HO107:=Aside0.mk (Kd.R_below zak hb);replace HO110:=Aside0.mk (Kd.R_below zbo hb);have HO114:=Aside0.mk (Kd.R_lower ho0 (below_size za));replace HB:=Aside0.mk (below_step za hb);(try clear hb);(try clear hb2);(try clear hk);(try clear hi);(try clear ho0);obtain ⟨Ao17,co17,eo17⟩:=Kd.R_slice HO114.out;subst eo17)|(go_at_call 9;(with_reducible refine (impl_ApplyChanges.calls k _ _ t105 _ _ t111 t115 t116 _ ?side1 ?side2 ?side3 ?side4 A9.out).mono ?_);(case side1=>exact zao);(case side2=>exact (Kd.R_reads' HO107.out).2.1);(case side3=>exact zcl);(case side4=>exact (Kd.R_reads' HO114.out).2.1);rintro e w18 ⟨v117,rfl,ho0,hb⟩;have n0_:=Aside0.mk (Kd.S_elder' zav (Kd.R_base ho0) hb);have n1_:=Aside0.mk (Kd.R_elder' zak (Kd.R_base ho0) hb);have n2_:=Aside0.mk (Kd.R_elder' zbo (Kd.R_base ho0) hb);have n3_:=Aside0.mk (Kd.R_below (by (with_reducible repeat (first|apply Kd.R_alloc|apply Kd.R_drewN|apply Kd.R_drew));exact HO114.out) hb);have n4_:=Aside0.mk (Kd.R_lower (Kd.R_new' (Kd.R_new' ho0 (Kd.R_lt zak)) (Kd.R_lt zbo)) (below_size za));have n5_:=Aside0.mk (below_step za hb);clear HO104;clear HO107;clear HO110;clear HO114;clear HB;have HO104:=n0_;have HO107:=n1_;have HO110:=n2_;have HO114:=n3_;have HO118:=n4_;have HB:=n5_;clear n0_ n1_ n2_ n3_ n4_ n5_;(try clear hb);(try clear hb2);(try clear hk);(try clear hi);(try clear ho0))))
  (try simp only [Act.put,List.setIfInBounds_toArray,List.set_cons_zero,List.set_cons_succ])
  go_cut [59] (fun v59 wc=>∃(kq:Nat) (x59_9:Bool),v59 = .bool x59_9∧Aside0 (laws_FnVersions.j0 kq l1 t102 t105 x59_9=some r)∧Aside0 (kq≤k)∧Aside0 (Kd.S k48 48 wc w.heap.size (fun k_=>some k_≠((.slice Ao13 t105.length co13):Value).ownBlock) v103 t102)∧Aside0 (Kd.R k57 57 wc w.heap.size (fun _=>True) (.slice Ao13 t105.length co13) t105)∧Aside0 (Below w.heap.size w wc))
  case first=>
   have H:=HC10.out
   clear HC10
   by_cases c19:t112=0
   ·rw [if_pos c19] at H
    have c19b0:(t112 == 0)=true:=beq_iff_eq.mpr c19
    have c19b1:(t112 != 0)=false:=bne_eq_false_iff_eq.mpr c19
    clear c19
    (first|rw [c19b0]|(simp only [i64_w,i32_w];rw [c19b0])|skip)
    by_cases c20:t116=0
    ·rw [if_pos c20] at H
     have c20b0:(t116 == 0)=true:=beq_iff_eq.mpr c20
     have c20b1:(t116 != 0)=false:=bne_eq_false_iff_eq.mpr c20
     clear c20
     replace H:=Option.bind_eq_some_iff.mp H
     obtain ⟨t119,A210,H⟩:=H
     replace H:(laws_FnVersions.j0 k l1 t102 t105 (!t119))=some r:=H
     have A21:=Aside0.mk A210
     clear A210
     have H':=Aside0.mk H
     clear H
     obtain ⟨Ao22,co22,eo22⟩:=Kd.R_slice HO118.out
     subst eo22
     go_wp2_with (first|(go_at_call 10;(with_reducible refine (spec_SameState.calls k _ _ t115 _ _ t108 t119 _ ?side1 ?side2 ?side3 ?side4 A21.out).mono ?_);(case side1=>exact zcm);(case side2=>exact (Kd.R_reads' HO118.out).2.1);(case side3=>exact zbd);(case side4=>exact (Kd.R_reads' HO110.out).2.1);rintro e w' ⟨rfl,⟨nd,rfl⟩⟩;(try first|exact ⟨rfl,_,World.drewN_drewN _ _ _⟩|exact ⟨rfl,_,Eq.trans (World.drewN_drewN _ _ _) (congrArg (World.drewN _) (Nat.add_assoc _ _ _))⟩)))
     repeat (go_quiet (first|(go_at_call 10;(with_reducible refine (spec_SameState.calls k _ _ t115 _ _ t108 t119 _ ?side1 ?side2 ?side3 ?side4 A21.out).mono ?_);(case side1=>exact zcm);(case side2=>exact (Kd.R_reads' HO118.out).2.1);(case side3=>exact zbd);(case side4=>exact (Kd.R_reads' HO110.out).2.1);rintro e w' ⟨rfl,⟨nd,rfl⟩⟩;(try first|exact ⟨rfl,_,World.drewN_drewN _ _ _⟩|exact ⟨rfl,_,Eq.trans (World.drewN_drewN _ _ _) (congrArg (World.drewN _) (Nat.add_assoc _ _ _))⟩)));try go_wp2_with (first|(go_at_call 10;(with_reducible refine (spec_SameState.calls k _ _ t115 _ _ t108 t119 _ ?side1 ?side2 ?side3 ?side4 A21.out).mono ?_);(case side1=>exact zcm);(case side2=>exact (Kd.R_reads' HO118.out).2.1);(case side3=>exact zbd);(case side4=>exact (Kd.R_reads' HO110.out).2.1);rintro e w' ⟨rfl,⟨nd,rfl⟩⟩;(try first|exact ⟨rfl,_,World.drewN_drewN _ _ _⟩|exact ⟨rfl,_,Eq.trans (World.drewN_drewN _ _ _) (congrArg (World.drewN _) (Nat.add_assoc _ _ _))⟩))))
     go_meet
     case rel=>exact ⟨_,(!t119),zi,H',⟨zcj⟩,⟨by (with_reducible repeat (first|apply Kd.S_alloc|apply Kd.S_drewN|apply Kd.S_drew));exact Kd.S_mono HO104.out (fun _ hk=>hk.1.1.2)⟩,⟨by (with_reducible repeat (first|apply Kd.R_alloc|apply Kd.R_drewN|apply Kd.R_drew));exact Kd.R_mono HO107.out (fun _ hk=>trivial)⟩,⟨za⟩⟩
    ·rw [if_neg c20] at H
     cases H
   ·rw [if_neg c19] at H
    cases H
  case rest=>
   clear HC10
   try clear c1
   try clear c2
   try clear p2
   try clear c3
   try clear c4
   try clear c19
   try clear c19b0
   try clear c19b1
   try clear c20
   try clear c20b0
   try clear c20b1
   obtain ⟨kq,x59_9,rfl,HA,HJ9,HO_5,HO_6,HB⟩:=hcut
   cases kq with
   | zero=>exact absurd HA.out (by simp [laws_FnVersions.j0])
   | succ kj9=>
    have H:=HA.out
    clear HA
    simp only [laws_FnVersions.j0] at H
    by_cases c23:x59_9=true
    ·subst c23
     have H1:none=some r:=by rw [if_pos rfl] at H;exact H
     cases H1
    ·replace c23:=Bool.eq_false_iff.mpr c23
     subst c23
     have H1:((laws_r8At.f l1 0 (wrap64 ((t102.length:Int)+1))).bind fun t120=>((impl_CommitState.f kj9 t102 t120 (⟨#[110,101,120,116]⟩:ByteArray) t105).bind fun bt121=>((impl_UndoVersion.f kj9 bt121.1 (wrap64 ((t102.length:Int)+1))).bind fun bt125=>((impl_AncestorsOf.f kj9 bt121.1 (wrap64 ((t102.length:Int)+1))).bind fun bt129=>((impl_HeadsOf.f kj9 bt121.1).bind fun bt133=>((impl_CommonAncestor.f kj9 bt121.1 (wrap64 ((t102.length:Int)+1)) (wrap64 ((t102.length:Int)+1))).bind fun bt137=>(if bt121.2=0 then (if (bt121.1.length:Int)=(wrap64 ((t102.length:Int)+1)) then (if bt125.2=0 then (if (bt125.1.length:Int)=(wrap64 ((wrap64 ((t102.length:Int)+1))+1)) then (if bt129.2=0 then (if bt133.2=0 then ((laws_r8Has.f kj9 bt133.1 (wrap64 ((t102.length:Int)+1))).bind fun t139=>(if t139=true then (if bt137.2=0 then (if bt137.1=(wrap64 ((t102.length:Int)+1)) then ((spec_ValidHistory.f kj9 bt125.1).bind fun t140=>(laws_FnVersions.j1 kj9 t102 t120 bt121.1 (wrap64 ((t102.length:Int)+1)) bt125.1 bt129.1 (!t140))) else none) else none) else none)) else none) else none) else none) else none) else none) else none)))))))=some r:=by rw [if_neg (show ¬ (false=true) by decide)] at H;exact H
     clear H
     have H:=H1
     clear H1
     replace H:=Option.bind_eq_some_iff.mp H
     obtain ⟨t120,A240,H⟩:=H
     replace H:((impl_CommitState.f kj9 t102 t120 (⟨#[110,101,120,116]⟩:ByteArray) t105).bind fun bt121=>((impl_UndoVersion.f kj9 bt121.1 (wrap64 ((t102.length:Int)+1))).bind fun bt125=>((impl_AncestorsOf.f kj9 bt121.1 (wrap64 ((t102.length:Int)+1))).bind fun bt129=>((impl_HeadsOf.f kj9 bt121.1).bind fun bt133=>((impl_CommonAncestor.f kj9 bt121.1 (wrap64 ((t102.length:Int)+1)) (wrap64 ((t102.length:Int)+1))).bind fun bt137=>(if bt121.2=0 then (if (bt121.1.length:Int)=(wrap64 ((t102.length:Int)+1)) then (if bt125.2=0 then (if (bt125.1.length:Int)=(wrap64 ((wrap64 ((t102.length:Int)+1))+1)) then (if bt129.2=0 then (if bt133.2=0 then ((laws_r8Has.f kj9 bt133.1 (wrap64 ((t102.length:Int)+1))).bind fun t139=>(if t139=true then (if bt137.2=0 then (if bt137.1=(wrap64 ((t102.length:Int)+1)) then ((spec_ValidHistory.f kj9 bt125.1).bind fun t140=>(laws_FnVersions.j1 kj9 t102 t120 bt121.1 (wrap64 ((t102.length:Int)+1)) bt125.1 bt129.1 (!t140))) else none) else none) else none)) else none) else none) else none) else none) else none) else none))))))=some r:=H
     have A24:=Aside0.mk A240
     clear A240
     replace H:=Option.bind_eq_some_iff.mp H
     obtain ⟨⟨t121,t122⟩,A250,H⟩:=H
     replace H:((impl_UndoVersion.f kj9 t121 (wrap64 ((t102.length:Int)+1))).bind fun bt125=>((impl_AncestorsOf.f kj9 t121 (wrap64 ((t102.length:Int)+1))).bind fun bt129=>((impl_HeadsOf.f kj9 t121).bind fun bt133=>((impl_CommonAncestor.f kj9 t121 (wrap64 ((t102.length:Int)+1)) (wrap64 ((t102.length:Int)+1))).bind fun bt137=>(if t122=0 then (if (t121.length:Int)=(wrap64 ((t102.length:Int)+1)) then (if bt125.2=0 then (if (bt125.1.length:Int)=(wrap64 ((wrap64 ((t102.length:Int)+1))+1)) then (if bt129.2=0 then (if bt133.2=0 then ((laws_r8Has.f kj9 bt133.1 (wrap64 ((t102.length:Int)+1))).bind fun t139=>(if t139=true then (if bt137.2=0 then (if bt137.1=(wrap64 ((t102.length:Int)+1)) then ((spec_ValidHistory.f kj9 bt125.1).bind fun t140=>(laws_FnVersions.j1 kj9 t102 t120 t121 (wrap64 ((t102.length:Int)+1)) bt125.1 bt129.1 (!t140))) else none) else none) else none)) else none) else none) else none) else none) else none) else none)))))=some r:=H
     have A25:=Aside0.mk A250
     clear A250
     replace H:=Option.bind_eq_some_iff.mp H
     obtain ⟨⟨t125,t126⟩,A260,H⟩:=H
     replace H:((impl_AncestorsOf.f kj9 t121 (wrap64 ((t102.length:Int)+1))).bind fun bt129=>((impl_HeadsOf.f kj9 t121).bind fun bt133=>((impl_CommonAncestor.f kj9 t121 (wrap64 ((t102.length:Int)+1)) (wrap64 ((t102.length:Int)+1))).bind fun bt137=>(if t122=0 then (if (t121.length:Int)=(wrap64 ((t102.length:Int)+1)) then (if t126=0 then (if (t125.length:Int)=(wrap64 ((wrap64 ((t102.length:Int)+1))+1)) then (if bt129.2=0 then (if bt133.2=0 then ((laws_r8Has.f kj9 bt133.1 (wrap64 ((t102.length:Int)+1))).bind fun t139=>(if t139=true then (if bt137.2=0 then (if bt137.1=(wrap64 ((t102.length:Int)+1)) then ((spec_ValidHistory.f kj9 t125).bind fun t140=>(laws_FnVersions.j1 kj9 t102 t120 t121 (wrap64 ((t102.length:Int)+1)) t125 bt129.1 (!t140))) else none) else none) else none)) else none) else none) else none) else none) else none) else none))))=some r:=H
     have A26:=Aside0.mk A260
     clear A260
     replace H:=Option.bind_eq_some_iff.mp H
     obtain ⟨⟨t129,t130⟩,A270,H⟩:=H
     replace H:((impl_HeadsOf.f kj9 t121).bind fun bt133=>((impl_CommonAncestor.f kj9 t121 (wrap64 ((t102.length:Int)+1)) (wrap64 ((t102.length:Int)+1))).bind fun bt137=>(if t122=0 then (if (t121.length:Int)=(wrap64 ((t102.length:Int)+1)) then (if t126=0 then (if (t125.length:Int)=(wrap64 ((wrap64 ((t102.length:Int)+1))+1)) then (if t130=0 then (if bt133.2=0 then ((laws_r8Has.f kj9 bt133.1 (wrap64 ((t102.length:Int)+1))).bind fun t139=>(if t139=true then (if bt137.2=0 then (if bt137.1=(wrap64 ((t102.length:Int)+1)) then ((spec_ValidHistory.f kj9 t125).bind fun t140=>(laws_FnVersions.j1 kj9 t102 t120 t121 (wrap64 ((t102.length:Int)+1)) t125 t129 (!t140))) else none) else none) else none)) else none) else none) else none) else none) else none) else none)))=some r:=H
     have A27:=Aside0.mk A270
     clear A270
     replace H:=Option.bind_eq_some_iff.mp H
     obtain ⟨⟨t133,t134⟩,A280,H⟩:=H
     replace H:((impl_CommonAncestor.f kj9 t121 (wrap64 ((t102.length:Int)+1)) (wrap64 ((t102.length:Int)+1))).bind fun bt137=>(if t122=0 then (if (t121.length:Int)=(wrap64 ((t102.length:Int)+1)) then (if t126=0 then (if (t125.length:Int)=(wrap64 ((wrap64 ((t102.length:Int)+1))+1)) then (if t130=0 then (if t134=0 then ((laws_r8Has.f kj9 t133 (wrap64 ((t102.length:Int)+1))).bind fun t139=>(if t139=true then (if bt137.2=0 then (if bt137.1=(wrap64 ((t102.length:Int)+1)) then ((spec_ValidHistory.f kj9 t125).bind fun t140=>(laws_FnVersions.j1 kj9 t102 t120 t121 (wrap64 ((t102.length:Int)+1)) t125 t129 (!t140))) else none) else none) else none)) else none) else none) else none) else none) else none) else none))=some r:=H
     have A28:=Aside0.mk A280
     clear A280
     replace H:=Option.bind_eq_some_iff.mp H
     obtain ⟨⟨t137,t138⟩,A290,H⟩:=H
     replace H:(if t122=0 then (if (t121.length:Int)=(wrap64 ((t102.length:Int)+1)) then (if t126=0 then (if (t125.length:Int)=(wrap64 ((wrap64 ((t102.length:Int)+1))+1)) then (if t130=0 then (if t134=0 then ((laws_r8Has.f kj9 t133 (wrap64 ((t102.length:Int)+1))).bind fun t139=>(if t139=true then (if t138=0 then (if t137=(wrap64 ((t102.length:Int)+1)) then ((spec_ValidHistory.f kj9 t125).bind fun t140=>(laws_FnVersions.j1 kj9 t102 t120 t121 (wrap64 ((t102.length:Int)+1)) t125 t129 (!t140))) else none) else none) else none)) else none) else none) else none) else none) else none) else none)=some r:=H
     have A29:=Aside0.mk A290
     clear A290
     have HC30:=Aside0.mk H
     clear H
     obtain ⟨Ao31,co31,eo31⟩:=Kd.S_slice HO_5.out
     subst eo31
     go_upto_region 17 with (first|(go_at_call 11;(with_reducible refine (laws_r8At.calls _ _ l1 0 (wrap64 ((t102.length:Int)+1)) t120 _ ?side1 ?side2 A24.out).mono ?_);(case side1=>exact zab);(case side2=>exact HC1.out);rintro e w' ⟨rfl,⟨nd,rfl⟩⟩;(try first|exact ⟨rfl,_,World.drewN_drewN _ _ _⟩|exact ⟨rfl,_,Eq.trans (World.drewN_drewN _ _ _) (congrArg (World.drewN _) (Nat.add_assoc _ _ _))⟩))|(go_at_call 12;(with_reducible refine (impl_CommitState.calls kj9 _ _ t102 t120 (⟨#[110,101,120,116]⟩:ByteArray) _ _ t105 t121 t122 _ ?side1 ?side2 ?side3 ?side4 A25.out).mono ?_);(case side1=>exact zcq);(case side2=>exact (Kd.S_reads' HO_5.out).2.1);(case side3=>exact zcr);(case side4=>exact (Kd.R_reads' HO_6.out).2.1);rintro e w32 ⟨v123,rfl,ho0,hb⟩;have n0_:=Aside0.mk (Kd.S_elder' zt (Kd.S_base ho0) hb);have n1_:=Aside0.mk (Kd.R_below zl hb);have n2_:=Aside0.mk (Kd.S_lower (Kd.S_new' (Kd.S_new' ho0 (Kd.S_lt zt)) (Kd.R_lt zl)) (below_size za));have n3_:=Aside0.mk (below_step za hb);clear HO_5;clear HO_6;clear HB;have HO_5:=n0_;have HO_6:=n1_;have HO124:=n2_;have HB:=n3_;clear n0_ n1_ n2_ n3_;(try clear hb);(try clear hb2);(try clear hk);(try clear hi);(try clear ho0);obtain ⟨Ao33,co33,eo33⟩:=Kd.S_slice HO124.out;subst eo33)|(go_at_call 13;(with_reducible refine (impl_UndoVersion.calls kj9 _ _ t121 (wrap64 ((t102.length:Int)+1)) t125 t126 _ ?side3 ?side1 ?side2 A26.out).mono ?_);(case side1=>exact zac);(case side2=>exact zcx);(case side3=>exact Door1.at HD.out za);rintro e w34 ⟨v127,rfl,ho0,hb⟩;have n0_:=Aside0.mk (Kd.S_elder' zt (Kd.S_base ho0) hb);have n1_:=Aside0.mk (Kd.R_below zl hb);have n2_:=Aside0.mk (Kd.S_elder' zai (Kd.S_base ho0) hb);have n3_:=Aside0.mk (Kd.S_lower (Kd.S_new' (Kd.S_new' (Kd.S_new' ho0 (Kd.S_lt zt)) (Kd.R_lt zl)) (Kd.S_lt zai)) (below_size za));have n4_:=Aside0.mk (below_step za hb);clear HO_5;clear HO_6;clear HO124;clear HB;have HO_5:=n0_;have HO_6:=n1_;have HO124:=n2_;have HO128:=n3_;have HB:=n4_;clear n0_ n1_ n2_ n3_ n4_;(try clear hb);(try clear hb2);(try clear hk);(try clear hi);(try clear ho0))|(go_at_call 14;(with_reducible refine (impl_AncestorsOf.calls kj9 _ _ t121 (wrap64 ((t102.length:Int)+1)) t129 t130 _ ?side1 ?side2 A27.out).mono ?_);(case side1=>exact zac);(case side2=>exact zcx);rintro e w35 ⟨v131,rfl,ho0,hb⟩;replace HO_5:=Aside0.mk (Kd.S_below zt hb);replace HO_6:=Aside0.mk (Kd.R_below zl hb);replace HO124:=Aside0.mk (Kd.S_below zai hb);replace HO128:=Aside0.mk (Kd.S_below zaw hb);have HO132:=Aside0.mk (Kd.Q_lower ho0 (below_size za));replace HB:=Aside0.mk (below_step za hb);(try clear hb);(try clear hb2);(try clear hk);(try clear hi);(try clear ho0))|(go_at_call 15;(with_reducible refine (impl_HeadsOf.calls kj9 _ _ t121 t133 t134 _ ?side1 ?side2 A28.out).mono ?_);(case side1=>exact zac);(case side2=>exact zcx);rintro e w36 ⟨v135,rfl,ho0,hb⟩;have n0_:=Aside0.mk (Kd.S_below zt hb);have n1_:=Aside0.mk (Kd.R_below zl hb);have n2_:=Aside0.mk (Kd.S_below zai hb);have n3_:=Aside0.mk (Kd.S_below zaw hb);have n4_:=Aside0.mk (Kd.Q_elder' zax (Kd.R_base ho0) hb);have n5_:=Aside0.mk (Kd.R_lower (Kd.R_new' ho0 (Kd.Q_lt zax)) (below_size za));have n6_:=Aside0.mk (below_step za hb);clear HO_5;clear HO_6;clear HO124;clear HO128;clear HO132;clear HB;have HO_5:=n0_;have HO_6:=n1_;have HO124:=n2_;have HO128:=n3_;have HO132:=n4_;have HO136:=n5_;have HB:=n6_;clear n0_ n1_ n2_ n3_ n4_ n5_ n6_;(try clear hb);(try clear hb2);(try clear hk);(try clear hi);(try clear ho0))|(go_at_call 16;(with_reducible refine (impl_CommonAncestor.calls kj9 _ _ t121 (wrap64 ((t102.length:Int)+1)) (wrap64 ((t102.length:Int)+1)) t137 t138 _ ?side1 ?side2 A29.out).mono ?_);(case side1=>exact zac);(case side2=>exact zcx);rintro e w37 ⟨rfl,hb⟩;replace HO_5:=Aside0.mk (Kd.S_below zt hb);replace HO_6:=Aside0.mk (Kd.R_below zl hb);replace HO124:=Aside0.mk (Kd.S_below zai hb);replace HO128:=Aside0.mk (Kd.S_below zaw hb);replace HO132:=Aside0.mk (Kd.Q_below zax hb);replace HO136:=Aside0.mk (Kd.R_below zcb hb);replace HB:=Aside0.mk (below_step za hb);(try clear hb);(try clear hb2);(try clear hk);(try clear hi)))
     repeat (go_quiet (first|(go_at_call 11;(with_reducible refine (laws_r8At.calls _ _ l1 0 (wrap64 ((t102.length:Int)+1)) t120 _ ?side1 ?side2 A24.out).mono ?_);(case side1=>exact zab);(case side2=>exact HC1.out);rintro e w' ⟨rfl,⟨nd,rfl⟩⟩;(try first|exact ⟨rfl,_,World.drewN_drewN _ _ _⟩|exact ⟨rfl,_,Eq.trans (World.drewN_drewN _ _ _) (congrArg (World.drewN _) (Nat.add_assoc _ _ _))⟩))|(go_at_call 12;(with_reducible refine (impl_CommitState.calls kj9 _ _ t102 t120 (⟨#[110,101,120,116]⟩:ByteArray) _ _ t105 t121 t122 _ ?side1 ?side2 ?side3 ?side4 A25.out).mono ?_);(case side1=>exact zcq);(case side2=>exact (Kd.S_reads' HO_5.out).2.1);(case side3=>exact zcr);(case side4=>exact (Kd.R_reads' HO_6.out).2.1);rintro e w32 ⟨v123,rfl,ho0,hb⟩;have n0_:=Aside0.mk (Kd.S_elder' zt (Kd.S_base ho0) hb);have n1_:=Aside0.mk (Kd.R_below zl hb);have n2_:=Aside0.mk (Kd.S_lower (Kd.S_new' (Kd.S_new' ho0 (Kd.S_lt zt)) (Kd.R_lt zl)) (below_size za));have n3_:=Aside0.mk (below_step za hb);clear HO_5;clear HO_6;clear HB;have HO_5:=n0_;have HO_6:=n1_;have HO124:=n2_;have HB:=n3_;clear n0_ n1_ n2_ n3_;(try clear hb);(try clear hb2);(try clear hk);(try clear hi);(try clear ho0);obtain ⟨Ao33,co33,eo33⟩:=Kd.S_slice HO124.out;subst eo33)|(go_at_call 13;(with_reducible refine (impl_UndoVersion.calls kj9 _ _ t121 (wrap64 ((t102.length:Int)+1)) t125 t126 _ ?side3 ?side1 ?side2 A26.out).mono ?_);(case side1=>exact zac);(case side2=>exact zcx);(case side3=>exact Door1.at HD.out za);rintro e w34 ⟨v127,rfl,ho0,hb⟩;have n0_:=Aside0.mk (Kd.S_elder' zt (Kd.S_base ho0) hb);have n1_:=Aside0.mk (Kd.R_below zl hb);have n2_:=Aside0.mk (Kd.S_elder' zai (Kd.S_base ho0) hb);have n3_:=Aside0.mk (Kd.S_lower (Kd.S_new' (Kd.S_new' (Kd.S_new' ho0 (Kd.S_lt zt)) (Kd.R_lt zl)) (Kd.S_lt zai)) (below_size za));have n4_:=Aside0.mk (below_step za hb);clear HO_5;clear HO_6;clear HO124;clear HB;have HO_5:=n0_;have HO_6:=n1_;have HO124:=n2_;have HO128:=n3_;have HB:=n4_;clear n0_ n1_ n2_ n3_ n4_;(try clear hb);(try clear hb2);(try clear hk);(try clear hi);(try clear ho0))|(go_at_call 14;(with_reducible refine (impl_AncestorsOf.calls kj9 _ _ t121 (wrap64 ((t102.length:Int)+1)) t129 t130 _ ?side1 ?side2 A27.out).mono ?_);(case side1=>exact zac);(case side2=>exact zcx);rintro e w35 ⟨v131,rfl,ho0,hb⟩;replace HO_5:=Aside0.mk (Kd.S_below zt hb);replace HO_6:=Aside0.mk (Kd.R_below zl hb);replace HO124:=Aside0.mk (Kd.S_below zai hb);replace HO128:=Aside0.mk (Kd.S_below zaw hb);have HO132:=Aside0.mk (Kd.Q_lower ho0 (below_size za));replace HB:=Aside0.mk (below_step za hb);(try clear hb);(try clear hb2);(try clear hk);(try clear hi);(try clear ho0))|(go_at_call 15;(with_reducible refine (impl_HeadsOf.calls kj9 _ _ t121 t133 t134 _ ?side1 ?side2 A28.out).mono ?_);(case side1=>exact zac);(case side2=>exact zcx);rintro e w36 ⟨v135,rfl,ho0,hb⟩;have n0_:=Aside0.mk (Kd.S_below zt hb);have n1_:=Aside0.mk (Kd.R_below zl hb);have n2_:=Aside0.mk (Kd.S_below zai hb);have n3_:=Aside0.mk (Kd.S_below zaw hb);have n4_:=Aside0.mk (Kd.Q_elder' zax (Kd.R_base ho0) hb);have n5_:=Aside0.mk (Kd.R_lower (Kd.R_new' ho0 (Kd.Q_lt zax)) (below_size za));have n6_:=Aside0.mk (below_step za hb);clear HO_5;clear HO_6;clear HO124;clear HO128;clear HO132;clear HB;have HO_5:=n0_;have HO_6:=n1_;have HO124:=n2_;have HO128:=n3_;have HO132:=n4_;have HO136:=n5_;have HB:=n6_;clear n0_ n1_ n2_ n3_ n4_ n5_ n6_;(try clear hb);(try clear hb2);(try clear hk);(try clear hi);(try clear ho0))|(go_at_call 16;(with_reducible refine (impl_CommonAncestor.calls kj9 _ _ t121 (wrap64 ((t102.length:Int)+1)) (wrap64 ((t102.length:Int)+1)) t137 t138 _ ?side1 ?side2 A29.out).mono ?_);(case side1=>exact zac);(case side2=>exact zcx);rintro e w37 ⟨rfl,hb⟩;replace HO_5:=Aside0.mk (Kd.S_below zt hb);replace HO_6:=Aside0.mk (Kd.R_below zl hb);replace HO124:=Aside0.mk (Kd.S_below zai hb);replace HO128:=Aside0.mk (Kd.S_below zaw hb);replace HO132:=Aside0.mk (Kd.Q_below zax hb);replace HO136:=Aside0.mk (Kd.R_below zcb hb);replace HB:=Aside0.mk (below_step za hb);(try clear hb);(try clear hb2);(try clear hk);(try clear hi)));go_upto_region 17 with (first|(go_at_call 11;(with_reducible refine (laws_r8At.calls _ _ l1 0 (wrap64 ((t102.length:Int)+1)) t120 _ ?side1 ?side2 A24.out).mono ?_);(case side1=>exact zab);(case side2=>exact HC1.out);rintro e w' ⟨rfl,⟨nd,rfl⟩⟩;(try first|exact ⟨rfl,_,World.drewN_drewN _ _ _⟩|exact ⟨rfl,_,Eq.trans (World.drewN_drewN _ _ _) (congrArg (World.drewN _) (Nat.add_assoc _ _ _))⟩))|(go_at_call 12;(with_reducible refine (impl_CommitState.calls kj9 _ _ t102 t120 (⟨#[110,101,120,116]⟩:ByteArray) _ _ t105 t121 t122 _ ?side1 ?side2 ?side3 ?side4 A25.out).mono ?_);(case side1=>exact zcq);(case side2=>exact (Kd.S_reads' HO_5.out).2.1);(case side3=>exact zcr);(case side4=>exact (Kd.R_reads' HO_6.out).2.1);rintro e w32 ⟨v123,rfl,ho0,hb⟩;have n0_:=Aside0.mk (Kd.S_elder' zt (Kd.S_base ho0) hb);have n1_:=Aside0.mk (Kd.R_below zl hb);have n2_:=Aside0.mk (Kd.S_lower (Kd.S_new' (Kd.S_new' ho0 (Kd.S_lt zt)) (Kd.R_lt zl)) (below_size za));have n3_:=Aside0.mk (below_step za hb);clear HO_5;clear HO_6;clear HB;have HO_5:=n0_;have HO_6:=n1_;have HO124:=n2_;have HB:=n3_;clear n0_ n1_ n2_ n3_;(try clear hb);(try clear hb2);(try clear hk);(try clear hi);(try clear ho0);obtain ⟨Ao33,co33,eo33⟩:=Kd.S_slice HO124.out;subst eo33)|(go_at_call 13;(with_reducible refine (impl_UndoVersion.calls kj9 _ _ t121 (wrap64 ((t102.length:Int)+1)) t125 t126 _ ?side3 ?side1 ?side2 A26.out).mono ?_);(case side1=>exact zac);(case side2=>exact zcx);(case side3=>exact Door1.at HD.out za);rintro e w34 ⟨v127,rfl,ho0,hb⟩;have n0_:=Aside0.mk (Kd.S_elder' zt (Kd.S_base ho0) hb);have n1_:=Aside0.mk (Kd.R_below zl hb);have n2_:=Aside0.mk (Kd.S_elder' zai (Kd.S_base ho0) hb);have n3_:=Aside0.mk (Kd.S_lower (Kd.S_new' (Kd.S_new' (Kd.S_new' ho0 (Kd.S_lt zt)) (Kd.R_lt zl)) (Kd.S_lt zai)) (below_size za));have n4_:=Aside0.mk (below_step za hb);clear HO_5;clear HO_6;clear HO124;clear HB;have HO_5:=n0_;have HO_6:=n1_;have HO124:=n2_;have HO128:=n3_;have HB:=n4_;clear n0_ n1_ n2_ n3_ n4_;(try clear hb);(try clear hb2);(try clear hk);(try clear hi);(try clear ho0))|(go_at_call 14;(with_reducible refine (impl_AncestorsOf.calls kj9 _ _ t121 (wrap64 ((t102.length:Int)+1)) t129 t130 _ ?side1 ?side2 A27.out).mono ?_);(case side1=>exact zac);(case side2=>exact zcx);rintro e w35 ⟨v131,rfl,ho0,hb⟩;replace HO_5:=Aside0.mk (Kd.S_below zt hb);replace HO_6:=Aside0.mk (Kd.R_below zl hb);replace HO124:=Aside0.mk (Kd.S_below zai hb);replace HO128:=Aside0.mk (Kd.S_below zaw hb);have HO132:=Aside0.mk (Kd.Q_lower ho0 (below_size za));replace HB:=Aside0.mk (below_step za hb);(try clear hb);(try clear hb2);(try clear hk);(try clear hi);(try clear ho0))|(go_at_call 15;(with_reducible refine (impl_HeadsOf.calls kj9 _ _ t121 t133 t134 _ ?side1 ?side2 A28.out).mono ?_);(case side1=>exact zac);(case side2=>exact zcx);rintro e w36 ⟨v135,rfl,ho0,hb⟩;have n0_:=Aside0.mk (Kd.S_below zt hb);have n1_:=Aside0.mk (Kd.R_below zl hb);have n2_:=Aside0.mk (Kd.S_below zai hb);have n3_:=Aside0.mk (Kd.S_below zaw hb);have n4_:=Aside0.mk (Kd.Q_elder' zax (Kd.R_base ho0) hb);have n5_:=Aside0.mk (Kd.R_lower (Kd.R_new' ho0 (Kd.Q_lt zax)) (below_size za));have n6_:=Aside0.mk (below_step za hb);clear HO_5;clear HO_6;clear HO124;clear HO128;clear HO132;clear HB;have HO_5:=n0_;have HO_6:=n1_;have HO124:=n2_;have HO128:=n3_;have HO132:=n4_;have HO136:=n5_;have HB:=n6_;clear n0_ n1_ n2_ n3_ n4_ n5_ n6_;(try clear hb);(try clear hb2);(try clear hk);(try clear hi);(try clear ho0))|(go_at_call 16;(with_reducible refine (impl_CommonAncestor.calls kj9 _ _ t121 (wrap64 ((t102.length:Int)+1)) (wrap64 ((t102.length:Int)+1)) t137 t138 _ ?side1 ?side2 A29.out).mono ?_);(case side1=>exact zac);(case side2=>exact zcx);rintro e w37 ⟨rfl,hb⟩;replace HO_5:=Aside0.mk (Kd.S_below zt hb);replace HO_6:=Aside0.mk (Kd.R_below zl hb);replace HO124:=Aside0.mk (Kd.S_below zai hb);replace HO128:=Aside0.mk (Kd.S_below zaw hb);replace HO132:=Aside0.mk (Kd.Q_below zax hb);replace HO136:=Aside0.mk (Kd.R_below zcb hb);replace HB:=Aside0.mk (below_step za hb);(try clear hb);(try clear hb2);(try clear hk);(try clear hi))))
     (try simp only [Act.put,List.setIfInBounds_toArray,List.set_cons_zero,List.set_cons_succ])
     go_cut [145] (fun v145 wc=>∃(kq:Nat) (x145_29:Bool),v145 = .bool x145_29∧Aside0 (laws_FnVersions.j1 kq t102 t120 t121 (wrap64 ((t102.length:Int)+1)) t125 t129 x145_29=some r)∧Aside0 (kq≤kj9)∧Aside0 (Kd.S k48 48 wc w.heap.size (fun k_=>some k_≠((.slice Ao33 t121.length co33):Value).ownBlock∧some k_≠(v127:Value).ownBlock) (.slice Ao31 t102.length co31) t102)∧Aside0 (Kd.S k48 48 wc w.heap.size (fun k_=>some k_≠((.slice Ao31 t102.length co31):Value).ownBlock∧some k_≠(v127:Value).ownBlock) (.slice Ao33 t121.length co33) t121)∧Aside0 (Kd.S k48 48 wc w.heap.size (fun k_=>some k_≠((.slice Ao31 t102.length co31):Value).ownBlock∧some k_≠((.slice Ao33 t121.length co33):Value).ownBlock) v127 t125)∧Aside0 (Kd.Q (Kd.int .i64) 2 wc w.heap.size (fun _=>True) v131 t129)∧Aside0 (Below w.heap.size w wc))
     case first=>
      have H:=HC30.out
      clear HC30
      by_cases c38:t122=0
      ·rw [if_pos c38] at H
       have c38b0:(t122 == 0)=true:=beq_iff_eq.mpr c38
       have c38b1:(t122 != 0)=false:=bne_eq_false_iff_eq.mpr c38
       clear c38
       (first|rw [c38b0]|(simp only [i64_w,i32_w];rw [c38b0])|skip)
       by_cases c39:(t121.length:Int)=(wrap64 ((t102.length:Int)+1))
       ·rw [if_pos c39] at H
        have c39b0:((t121.length:Int) == (wrap64 ((t102.length:Int)+1)))=true:=beq_iff_eq.mpr c39
        have c39b1:((t121.length:Int) != (wrap64 ((t102.length:Int)+1)))=false:=bne_eq_false_iff_eq.mpr c39
        clear c39
        by_cases c40:t126=0
        ·rw [if_pos c40] at H
         have c40b0:(t126 == 0)=true:=beq_iff_eq.mpr c40
         have c40b1:(t126 != 0)=false:=bne_eq_false_iff_eq.mpr c40
         clear c40
         by_cases c41:(t125.length:Int)=(wrap64 ((wrap64 ((t102.length:Int)+1))+1))
         ·rw [if_pos c41] at H
          have c41b0:((t125.length:Int) == (wrap64 ((wrap64 ((t102.length:Int)+1))+1)))=true:=beq_iff_eq.mpr c41
          have c41b1:((t125.length:Int) != (wrap64 ((wrap64 ((t102.length:Int)+1))+1)))=false:=bne_eq_false_iff_eq.mpr c41
          clear c41
          by_cases c42:t130=0
          ·rw [if_pos c42] at H
           have c42b0:(t130 == 0)=true:=beq_iff_eq.mpr c42
           have c42b1:(t130 != 0)=false:=bne_eq_false_iff_eq.mpr c42
           clear c42
           by_cases c43:t134=0
           ·rw [if_pos c43] at H
            have c43b0:(t134 == 0)=true:=beq_iff_eq.mpr c43
            have c43b1:(t134 != 0)=false:=bne_eq_false_iff_eq.mpr c43
            clear c43
            replace H:=Option.bind_eq_some_iff.mp H
            obtain ⟨t139,A440,H⟩:=H
            replace H:(if t139=true then (if t138=0 then (if t137=(wrap64 ((t102.length:Int)+1)) then ((spec_ValidHistory.f kj9 t125).bind fun t140=>(laws_FnVersions.j1 kj9 t102 t120 t121 (wrap64 ((t102.length:Int)+1)) t125 t129 (!t140))) else none) else none) else none)=some r:=H
            have A44:=Aside0.mk A440
            clear A440
            by_cases c45:t139=true
            ·subst c45
             have H1:(if t138=0 then (if t137=(wrap64 ((t102.length:Int)+1)) then ((spec_ValidHistory.f kj9 t125).bind fun t140=>(laws_FnVersions.j1 kj9 t102 t120 t121 (wrap64 ((t102.length:Int)+1)) t125 t129 (!t140))) else none) else none)=some r:=by rw [if_pos rfl] at H;exact H
             clear H
             have H:=H1
             clear H1
             by_cases c46:t138=0
             ·rw [if_pos c46] at H
              have c46b0:(t138 == 0)=true:=beq_iff_eq.mpr c46
              have c46b1:(t138 != 0)=false:=bne_eq_false_iff_eq.mpr c46
              clear c46
              by_cases c47:t137=(wrap64 ((t102.length:Int)+1))
              ·rw [if_pos c47] at H
               have c47b0:(t137 == (wrap64 ((t102.length:Int)+1)))=true:=beq_iff_eq.mpr c47
               have c47b1:(t137 != (wrap64 ((t102.length:Int)+1)))=false:=bne_eq_false_iff_eq.mpr c47
               clear c47
               replace H:=Option.bind_eq_some_iff.mp H
               obtain ⟨t140,A480,H⟩:=H
               replace H:(laws_FnVersions.j1 kj9 t102 t120 t121 (wrap64 ((t102.length:Int)+1)) t125 t129 (!t140))=some r:=H
               have A48:=Aside0.mk A480
               clear A480
               have H':=Aside0.mk H
               clear H
               obtain ⟨Ao49,co49,eo49⟩:=Kd.S_slice HO128.out
               subst eo49
               obtain ⟨Ao50,co50,eo50⟩:=Kd.R_slice HO136.out
               subst eo50
               go_wp2_with (first|(go_at_call 17;(with_reducible refine (laws_r8Has.calls kj9 _ _ t133 (wrap64 ((t102.length:Int)+1)) true _ ?side1 ?side2 A44.out).mono ?_);(case side1=>exact zcn);(case side2=>exact (Kd.R_reads' HO136.out).2.1);rintro e w' ⟨rfl,⟨nd,rfl⟩⟩;(try first|exact ⟨rfl,_,World.drewN_drewN _ _ _⟩|exact ⟨rfl,_,Eq.trans (World.drewN_drewN _ _ _) (congrArg (World.drewN _) (Nat.add_assoc _ _ _))⟩))|(go_at_call 18;(with_reducible refine (spec_ValidHistory.calls kj9 _ _ t125 t140 _ ?side1 ?side2 A48.out).mono ?_);(case side1=>exact zco);(case side2=>exact (Kd.S_reads' HO128.out).2.1);rintro e w51 ⟨rfl,hb⟩;replace HO_5:=Aside0.mk (Kd.S_below zt hb);replace HO_6:=Aside0.mk (Kd.R_below zl hb);replace HO124:=Aside0.mk (Kd.S_below zai hb);replace HO128:=Aside0.mk (Kd.S_below zaw hb);replace HO132:=Aside0.mk (Kd.Q_below zax hb);replace HO136:=Aside0.mk (Kd.R_below zcb hb);replace HB:=Aside0.mk (below_step za hb);(try clear hb);(try clear hb2);(try clear hk);(try clear hi)))
               repeat (go_quiet (first|(go_at_call 17;(with_reducible refine (laws_r8Has.calls kj9 _ _ t133 (wrap64 ((t102.length:Int)+1)) true _ ?side1 ?side2 A44.out).mono ?_);(case side1=>exact zcn);(case side2=>exact (Kd.R_reads' HO136.out).2.1);rintro e w' ⟨rfl,⟨nd,rfl⟩⟩;(try first|exact ⟨rfl,_,World.drewN_drewN _ _ _⟩|exact ⟨rfl,_,Eq.trans (World.drewN_drewN _ _ _) (congrArg (World.drewN _) (Nat.add_assoc _ _ _))⟩))|(go_at_call 18;(with_reducible refine (spec_ValidHistory.calls kj9 _ _ t125 t140 _ ?side1 ?side2 A48.out).mono ?_);(case side1=>exact zco);(case side2=>exact (Kd.S_reads' HO128.out).2.1);rintro e w51 ⟨rfl,hb⟩;replace HO_5:=Aside0.mk (Kd.S_below zt hb);replace HO_6:=Aside0.mk (Kd.R_below zl hb);replace HO124:=Aside0.mk (Kd.S_below zai hb);replace HO128:=Aside0.mk (Kd.S_below zaw hb);replace HO132:=Aside0.mk (Kd.Q_below zax hb);replace HO136:=Aside0.mk (Kd.R_below zcb hb);replace HB:=Aside0.mk (below_step za hb);(try clear hb);(try clear hb2);(try clear hk);(try clear hi)));try go_wp2_with (first|(go_at_call 17;(with_reducible refine (laws_r8Has.calls kj9 _ _ t133 (wrap64 ((t102.length:Int)+1)) true _ ?side1 ?side2 A44.out).mono ?_);(case side1=>exact zcn);(case side2=>exact (Kd.R_reads' HO136.out).2.1);rintro e w' ⟨rfl,⟨nd,rfl⟩⟩;(try first|exact ⟨rfl,_,World.drewN_drewN _ _ _⟩|exact ⟨rfl,_,Eq.trans (World.drewN_drewN _ _ _) (congrArg (World.drewN _) (Nat.add_assoc _ _ _))⟩))|(go_at_call 18;(with_reducible refine (spec_ValidHistory.calls kj9 _ _ t125 t140 _ ?side1 ?side2 A48.out).mono ?_);(case side1=>exact zco);(case side2=>exact (Kd.S_reads' HO128.out).2.1);rintro e w51 ⟨rfl,hb⟩;replace HO_5:=Aside0.mk (Kd.S_below zt hb);replace HO_6:=Aside0.mk (Kd.R_below zl hb);replace HO124:=Aside0.mk (Kd.S_below zai hb);replace HO128:=Aside0.mk (Kd.S_below zaw hb);replace HO132:=Aside0.mk (Kd.Q_below zax hb);replace HO136:=Aside0.mk (Kd.R_below zcb hb);replace HB:=Aside0.mk (below_step za hb);(try clear hb);(try clear hb2);(try clear hk);(try clear hi))))
               go_meet
               case rel=>exact ⟨_,(!t140),zi,H',⟨by have:=HJ9.out;first|omega|exact Nat.le_refl _⟩,⟨by (with_reducible repeat (first|apply Kd.S_alloc|apply Kd.S_drewN|apply Kd.S_drew));exact Kd.S_mono HO_5.out (fun _ hk=>⟨hk.1.2,hk.2⟩)⟩,⟨by (with_reducible repeat (first|apply Kd.S_alloc|apply Kd.S_drewN|apply Kd.S_drew));exact Kd.S_mono HO124.out (fun _ hk=>⟨hk.1.1.2,hk.2⟩)⟩,⟨by (with_reducible repeat (first|apply Kd.S_alloc|apply Kd.S_drewN|apply Kd.S_drew));exact Kd.S_mono HO128.out (fun _ hk=>⟨hk.1.1.2,hk.2⟩)⟩,⟨by (with_reducible repeat (first|apply Kd.Q_alloc|apply Kd.Q_drewN|apply Kd.Q_drew));exact Kd.Q_mono HO132.out (fun _ hk=>trivial)⟩,⟨za⟩⟩
              ·rw [if_neg c47] at H
               cases H
             ·rw [if_neg c46] at H
              cases H
            ·replace c45:=Bool.eq_false_iff.mpr c45
             subst c45
             have H1:none=some r:=by rw [if_neg (show ¬ (false=true) by decide)] at H;exact H
             cases H1
           ·rw [if_neg c43] at H
            cases H
          ·rw [if_neg c42] at H
           cases H
         ·rw [if_neg c41] at H
          cases H
        ·rw [if_neg c40] at H
         cases H
       ·rw [if_neg c39] at H
        cases H
      ·rw [if_neg c38] at H
       cases H
     case rest=>
      clear HC30
      try clear c1
      try clear c2
      try clear p2
      try clear c3
      try clear c4
      try clear p6
      try clear c19
      try clear c19b0
      try clear c19b1
      try clear c20
      try clear c20b0
      try clear c20b1
      try clear c23
      try clear c38
      try clear c38b0
      try clear c38b1
      try clear c39
      try clear c39b0
      try clear c39b1
      try clear c40
      try clear c40b0
      try clear c40b1
      try clear c41
      try clear c41b0
      try clear c41b1
      try clear c42
      try clear c42b0
      try clear c42b1
      try clear c43
      try clear c43b0
      try clear c43b1
      try clear c45
      try clear c46
      try clear c46b0
      try clear c46b1
      try clear c47
      try clear c47b0
      try clear c47b1
      try clear p2
      obtain ⟨kq,x145_29,rfl,HA,HJ29,HO_5,HO_13,HO_16,HO_18,HB⟩:=hcut
      cases kq with
      | zero=>exact absurd HA.out (by simp [laws_FnVersions.j1])
      | succ kj29=>
       have H:=HA.out
       clear HA
       simp only [laws_FnVersions.j1] at H
       by_cases c61:x145_29=true
       ·subst c61
        have H1:none=some r:=by rw [if_pos rfl] at H;exact H
        cases H1
       ·replace c61:=Bool.eq_false_iff.mpr c61
        subst c61
        have H1:(if t120 > 0 then (if 0≤(wrap64 (t120 - 1)) then (if (wrap64 (t120 - 1))<(t102.length:Int) then (if 0≤(wrap64 ((t102.length:Int)+1)) then (if (wrap64 ((t102.length:Int)+1))<(t125.length:Int) then ((spec_SameState.f kj29 ((rd_T48 t125 (wrap64 ((t102.length:Int)+1))).f3) ((rd_T48 t102 (wrap64 (t120 - 1))).f3)).bind fun t146=>(if t146=true then ((laws_r8Has.f kj29 t129 t120).bind fun t147=>(laws_FnVersions.j2 kj29 t121 (wrap64 ((t102.length:Int)+1)) t129 ((decide (t120 > 0)) != t147))) else none)) else (none)) else (none)) else (none)) else (none)) else (if 0≤(wrap64 ((t102.length:Int)+1)) then (if (wrap64 ((t102.length:Int)+1))<(t125.length:Int) then ((spec_SameState.f kj29 ((rd_T48 t125 (wrap64 ((t102.length:Int)+1))).f3) (([]:List (S57)))).bind fun t155=>(if t155=true then ((laws_r8Has.f kj29 t129 t120).bind fun t156=>(laws_FnVersions.j4 kj29 t121 (wrap64 ((t102.length:Int)+1)) t129 ((decide (t120 > 0)) != t156))) else none)) else (none)) else (none)))=some r:=by rw [if_neg (show ¬ (false=true) by decide)] at H;exact H
        clear H
        have H:=H1
        clear H1
        obtain ⟨y141,hy141⟩:∃y_:List (S57),y_=(([]:List (S57))):=⟨_,rfl⟩
        replace H:(if t120 > 0 then (if 0≤(wrap64 (t120 - 1)) then (if (wrap64 (t120 - 1))<(t102.length:Int) then (if 0≤(wrap64 ((t102.length:Int)+1)) then (if (wrap64 ((t102.length:Int)+1))<(t125.length:Int) then ((spec_SameState.f kj29 ((rd_T48 t125 (wrap64 ((t102.length:Int)+1))).f3) ((rd_T48 t102 (wrap64 (t120 - 1))).f3)).bind fun t146=>(if t146=true then ((laws_r8Has.f kj29 t129 t120).bind fun t147=>(laws_FnVersions.j2 kj29 t121 (wrap64 ((t102.length:Int)+1)) t129 ((decide (t120 > 0)) != t147))) else none)) else (none)) else (none)) else (none)) else (none)) else (if 0≤(wrap64 ((t102.length:Int)+1)) then (if (wrap64 ((t102.length:Int)+1))<(t125.length:Int) then ((spec_SameState.f kj29 ((rd_T48 t125 (wrap64 ((t102.length:Int)+1))).f3) y141).bind fun t155=>(if t155=true then ((laws_r8Has.f kj29 t129 t120).bind fun t156=>(laws_FnVersions.j4 kj29 t121 (wrap64 ((t102.length:Int)+1)) t129 ((decide (t120 > 0)) != t156))) else none)) else (none)) else (none)))=some r:=by first|(rw [hy141];with_reducible exact H)|(have H2_:=(Option.bind_some _ _).symm.trans H;rw [hy141];with_reducible exact H2_)|(have H2_:=(Option.bind_some _ _).symm.trans H;with_reducible exact H2_)|with_reducible exact H|(rw [hy141];exact H)|exact H
        have Ny141:=Aside0.mk hy141
        clear hy141
        by_cases c62:t120 > 0
        ·rw [if_pos c62] at H
         have c62b0:decide (0<t120)=true:=decide_eq_true c62
         clear c62
         obtain ⟨ji63,hji63⟩:∃j_:Int,(wrap64 (t120 - 1))=j_:=⟨_,rfl⟩
         replace H:(if 0≤(ji63) then (if (ji63)<(t102.length:Int) then (if 0≤(wrap64 ((t102.length:Int)+1)) then (if (wrap64 ((t102.length:Int)+1))<(t125.length:Int) then ((spec_SameState.f kj29 ((rd_T48 t125 (wrap64 ((t102.length:Int)+1))).f3) ((rd_T48 t102 (ji63)).f3)).bind fun t146=>(if t146=true then ((laws_r8Has.f kj29 t129 t120).bind fun t147=>(laws_FnVersions.j2 kj29 t121 (wrap64 ((t102.length:Int)+1)) t129 ((decide (t120 > 0)) != t147))) else none)) else (none)) else (none)) else (none)) else (none))=some r:=by first|(rw [hji63] at H;exact H)|(simp only [hji63] at H ⊢;exact H)
         have hji63w:(IntKind.i64.wrap (t120 - 1))=ji63:=(i64_w _).trans hji63
         by_cases c64:0≤(ji63)
         ·rw [if_pos c64] at H
          have c64b0:decide (0≤(ji63))=true:=decide_eq_true c64
          clear c64
          by_cases c65:(ji63)<(t102.length:Int)
          ·rw [if_pos c65] at H
           have c65b0:decide ((ji63)<(t102.length:Int))=true:=decide_eq_true c65
           clear c65
           have HC66:=Aside0.mk H
           clear H
           go_upto_region 22 with (first|((with_reducible refine gate_dst (N:=146) rfl ?_);refine Kd.R_lit k57 _ 57 ?hg (N:=146) ?hd (xs:=([]:List (S57))) (inner:=[]) (ok:=fun _=>True) (okp:=fun _=>True) ?hr ?hp (fun _ hk=>hk) trivial (Below.refl _ _) (Nat.le_refl _) zca ?_;(case hd=>rfl);(case hg=>rfl);(case hr=>exact zv);(case hp=>exact (Reps.none _ _));intro v142 w67 ho68 hb hg_ hnew_;clear hg_ hnew_;(first|rw [←Ny141.out] at ho68|(simp only [Int.reduceToNat] at ho68;rw [←Ny141.out] at ho68));replace HO_5:=Aside0.mk (Kd.S_elder' zt (Kd.R_base ho68) hb);replace HO_13:=Aside0.mk (Kd.S_elder' zaj (Kd.R_base ho68) hb);replace HO_16:=Aside0.mk (Kd.S_elder' zcc (Kd.R_base ho68) hb);replace HO_18:=Aside0.mk (Kd.Q_below zaa hb);have HO143:=Aside0.mk (Kd.R_lower ho68 (below_size za));replace HB:=Aside0.mk (below_step za hb);clear hb ho68;have p144:0≤((ji63):Int):=of_decide_eq_true zb;have q144:(ji63)<(t102.length:Int):=of_decide_eq_true zb;obtain ⟨ad144,A144_3,c144_3,e144,hx144_0,hx144_1,hx144_2,hx144_3,hl144_3,hi144_3⟩:=at_T48 (Kd.S_reads' HO_5.out).2.2 (ji63) p144 q144;cases e144;obtain ⟨ce144,hce144,hMe144,hcc144⟩:=Kd.S_get HO_5.out z48 (ji63) p144 (by first|exact q144|exact of_decide_eq_true zb|(have e_:=(Kd.S_reads' HO_5.out).1;omega));obtain ⟨ve144_3,rfl,ge144_3⟩:=k48_openM hMe144;have hv144_3:=hcc144 3 _ rfl;rw [add_field _ _ 3 zbn] at hv144_3;replace hv144_3:=Option.some.inj (hv144_3.symm.trans hx144_3);rw [hv144_3] at ge144_3;have HL144_3:=Aside0.mk (show Kd.R k57 57 _ _ _ _ ((rd_T48 t102 (ji63)).f3) from ge144_3);clear hv144_3 ge144_3;clear hcc144 hce144;have HR144_3:=Aside0.mk hi144_3;have HC144_3:=Aside0.mk hl144_3;clear hi144_3 hl144_3;replace p144:=eq_true p144;replace q144:=eq_true q144))
           repeat (go_quiet (first|((with_reducible refine gate_dst (N:=146) rfl ?_);refine Kd.R_lit k57 _ 57 ?hg (N:=146) ?hd (xs:=([]:List (S57))) (inner:=[]) (ok:=fun _=>True) (okp:=fun _=>True) ?hr ?hp (fun _ hk=>hk) trivial (Below.refl _ _) (Nat.le_refl _) zca ?_;(case hd=>rfl);(case hg=>rfl);(case hr=>exact zv);(case hp=>exact (Reps.none _ _));intro v142 w67 ho68 hb hg_ hnew_;clear hg_ hnew_;(first|rw [←Ny141.out] at ho68|(simp only [Int.reduceToNat] at ho68;rw [←Ny141.out] at ho68));replace HO_5:=Aside0.mk (Kd.S_elder' zt (Kd.R_base ho68) hb);replace HO_13:=Aside0.mk (Kd.S_elder' zaj (Kd.R_base ho68) hb);replace HO_16:=Aside0.mk (Kd.S_elder' zcc (Kd.R_base ho68) hb);replace HO_18:=Aside0.mk (Kd.Q_below zaa hb);have HO143:=Aside0.mk (Kd.R_lower ho68 (below_size za));replace HB:=Aside0.mk (below_step za hb);clear hb ho68;have p144:0≤((ji63):Int):=of_decide_eq_true zb;have q144:(ji63)<(t102.length:Int):=of_decide_eq_true zb;obtain ⟨ad144,A144_3,c144_3,e144,hx144_0,hx144_1,hx144_2,hx144_3,hl144_3,hi144_3⟩:=at_T48 (Kd.S_reads' HO_5.out).2.2 (ji63) p144 q144;cases e144;obtain ⟨ce144,hce144,hMe144,hcc144⟩:=Kd.S_get HO_5.out z48 (ji63) p144 (by first|exact q144|exact of_decide_eq_true zb|(have e_:=(Kd.S_reads' HO_5.out).1;omega));obtain ⟨ve144_3,rfl,ge144_3⟩:=k48_openM hMe144;have hv144_3:=hcc144 3 _ rfl;rw [add_field _ _ 3 zbn] at hv144_3;replace hv144_3:=Option.some.inj (hv144_3.symm.trans hx144_3);rw [hv144_3] at ge144_3;have HL144_3:=Aside0.mk (show Kd.R k57 57 _ _ _ _ ((rd_T48 t102 (ji63)).f3) from ge144_3);clear hv144_3 ge144_3;clear hcc144 hce144;have HR144_3:=Aside0.mk hi144_3;have HC144_3:=Aside0.mk hl144_3;clear hi144_3 hl144_3;replace p144:=eq_true p144;replace q144:=eq_true q144));go_upto_region 22 with (first|((with_reducible refine gate_dst (N:=146) rfl ?_);refine Kd.R_lit k57 _ 57 ?hg (N:=146) ?hd (xs:=([]:List (S57))) (inner:=[]) (ok:=fun _=>True) (okp:=fun _=>True) ?hr ?hp (fun _ hk=>hk) trivial (Below.refl _ _) (Nat.le_refl _) zca ?_;(case hd=>rfl);(case hg=>rfl);(case hr=>exact zv);(case hp=>exact (Reps.none _ _));intro v142 w67 ho68 hb hg_ hnew_;clear hg_ hnew_;(first|rw [←Ny141.out] at ho68|(simp only [Int.reduceToNat] at ho68;rw [←Ny141.out] at ho68));replace HO_5:=Aside0.mk (Kd.S_elder' zt (Kd.R_base ho68) hb);replace HO_13:=Aside0.mk (Kd.S_elder' zaj (Kd.R_base ho68) hb);replace HO_16:=Aside0.mk (Kd.S_elder' zcc (Kd.R_base ho68) hb);replace HO_18:=Aside0.mk (Kd.Q_below zaa hb);have HO143:=Aside0.mk (Kd.R_lower ho68 (below_size za));replace HB:=Aside0.mk (below_step za hb);clear hb ho68;have p144:0≤((ji63):Int):=of_decide_eq_true zb;have q144:(ji63)<(t102.length:Int):=of_decide_eq_true zb;obtain ⟨ad144,A144_3,c144_3,e144,hx144_0,hx144_1,hx144_2,hx144_3,hl144_3,hi144_3⟩:=at_T48 (Kd.S_reads' HO_5.out).2.2 (ji63) p144 q144;cases e144;obtain ⟨ce144,hce144,hMe144,hcc144⟩:=Kd.S_get HO_5.out z48 (ji63) p144 (by first|exact q144|exact of_decide_eq_true zb|(have e_:=(Kd.S_reads' HO_5.out).1;omega));obtain ⟨ve144_3,rfl,ge144_3⟩:=k48_openM hMe144;have hv144_3:=hcc144 3 _ rfl;rw [add_field _ _ 3 zbn] at hv144_3;replace hv144_3:=Option.some.inj (hv144_3.symm.trans hx144_3);rw [hv144_3] at ge144_3;have HL144_3:=Aside0.mk (show Kd.R k57 57 _ _ _ _ ((rd_T48 t102 (ji63)).f3) from ge144_3);clear hv144_3 ge144_3;clear hcc144 hce144;have HR144_3:=Aside0.mk hi144_3;have HC144_3:=Aside0.mk hl144_3;clear hi144_3 hl144_3;replace p144:=eq_true p144;replace q144:=eq_true q144)))
           (try simp only [Act.put,List.setIfInBounds_toArray,List.set_cons_zero,List.set_cons_succ])
           go_cut [170] (fun v170 wc=>∃(kq:Nat) (x170_65:Bool),v170 = .bool x170_65∧Aside0 (laws_FnVersions.j2 kq t121 (wrap64 ((t102.length:Int)+1)) t129 x170_65=some r)∧Aside0 (kq≤kj29)∧Aside0 (Kd.S k48 48 wc w.heap.size (fun _=>True) (.slice Ao33 t121.length co33) t121)∧Aside0 (Kd.Q (Kd.int .i64) 2 wc w.heap.size (fun _=>True) v131 t129)∧Aside0 (Kd.C k57 wc A144_3 ((rd_T48 t102 (ji63)).f3).length ((rd_T48 t102 (ji63)).f3))∧Aside0 (Below w.heap.size w wc))
           case first=>
            have H:=HC66.out
            clear HC66
            obtain ⟨ji69,hji69⟩:∃j_:Int,(wrap64 ((t102.length:Int)+1))=j_:=⟨_,rfl⟩
            replace H:(if 0≤(ji69) then (if (ji69)<(t125.length:Int) then ((spec_SameState.f kj29 ((rd_T48 t125 (ji69)).f3) ((rd_T48 t102 (ji63)).f3)).bind fun t146=>(if t146=true then ((laws_r8Has.f kj29 t129 t120).bind fun t147=>(laws_FnVersions.j2 kj29 t121 (ji69) t129 ((decide (t120 > 0)) != t147))) else none)) else (none)) else (none))=some r:=by first|(rw [hji69] at H;exact H)|(simp only [hji69] at H ⊢;exact H)
            have hji69w:(IntKind.i64.wrap ((t102.length:Int)+1))=ji69:=(i64_w _).trans hji69
            by_cases c70:0≤(ji69)
            ·rw [if_pos c70] at H
             have c70b0:decide (0≤(ji69))=true:=decide_eq_true c70
             clear c70
             (first|rw [c70b0]|(simp only [i64_w,i32_w];rw [c70b0])|skip)
             by_cases c71:(ji69)<(t125.length:Int)
             ·rw [if_pos c71] at H
              have c71b0:decide ((ji69)<(t125.length:Int))=true:=decide_eq_true c71
              clear c71
              replace H:=Option.bind_eq_some_iff.mp H
              obtain ⟨t146,A720,H⟩:=H
              replace H:(if t146=true then ((laws_r8Has.f kj29 t129 t120).bind fun t147=>(laws_FnVersions.j2 kj29 t121 (ji69) t129 ((decide (t120 > 0)) != t147))) else none)=some r:=H
              have A72:=Aside0.mk A720
              clear A720
              by_cases c73:t146=true
              ·subst c73
               have H1:((laws_r8Has.f kj29 t129 t120).bind fun t147=>(laws_FnVersions.j2 kj29 t121 (ji69) t129 ((decide (t120 > 0)) != t147)))=some r:=by rw [if_pos rfl] at H;exact H
               clear H
               have H:=H1
               clear H1
               replace H:=Option.bind_eq_some_iff.mp H
               obtain ⟨t147,A740,H⟩:=H
               replace H:(laws_FnVersions.j2 kj29 t121 (ji69) t129 ((decide (t120 > 0)) != t147))=some r:=H
               have A74:=Aside0.mk A740
               clear A740
               have H':=Aside0.mk H
               clear H
               obtain ⟨Ao75,co75,eo75⟩:=Kd.S_slice HO_16.out
               subst eo75
               have p145:0≤((ji69):Int):=of_decide_eq_true zb
               have q145:(ji69)<(t125.length:Int):=of_decide_eq_true zb
               obtain ⟨ad145,A145_3,c145_3,e145,hx145_0,hx145_1,hx145_2,hx145_3,hl145_3,hi145_3⟩:=at_T48 (Kd.S_reads' HO_16.out).2.2 (ji69) p145 q145
               cases e145
               obtain ⟨ce145,hce145,hMe145,hcc145⟩:=Kd.S_get HO_16.out z48 (ji69) p145 (by first|exact q145|exact of_decide_eq_true zb|(have e_:=(Kd.S_reads' HO_16.out).1;omega))
               obtain ⟨ve145_3,rfl,ge145_3⟩:=k48_openM hMe145
               have hv145_3:=hcc145 3 _ rfl
               rw [add_field _ _ 3 zbn] at hv145_3
               replace hv145_3:=Option.some.inj (hv145_3.symm.trans hx145_3)
               rw [hv145_3] at ge145_3
               have HL145_3:=Aside0.mk (show Kd.R k57 57 _ _ _ _ ((rd_T48 t125 (ji69)).f3) from ge145_3)
               clear hv145_3 ge145_3
               clear hcc145 hce145
               have HR145_3:=Aside0.mk hi145_3
               have HC145_3:=Aside0.mk hl145_3
               clear hi145_3 hl145_3
               replace p145:=eq_true p145
               replace q145:=eq_true q145
               go_wp2_with (first|(go_at_call 10;(with_reducible refine (spec_SameState.calls kj29 _ _ ((rd_T48 t125 (ji69)).f3) _ _ ((rd_T48 t102 (ji63)).f3) true _ ?side1 ?side2 ?side3 ?side4 A72.out).mono ?_);(case side1=>repeat (first|exact zcf|(with_reducible refine Kd.C_alloc ?_ _)|(with_reducible refine Kd.C_drewN ?_ _)|(with_reducible refine Kd.C_drew ?_)));(case side2=>exact HC145_3.out);(case side3=>repeat (first|exact zaf|(with_reducible refine Kd.C_alloc ?_ _)|(with_reducible refine Kd.C_drewN ?_ _)|(with_reducible refine Kd.C_drew ?_)));(case side4=>exact HC144_3.out);rintro e w' ⟨rfl,⟨nd,rfl⟩⟩;(try first|exact ⟨rfl,_,World.drewN_drewN _ _ _⟩|exact ⟨rfl,_,Eq.trans (World.drewN_drewN _ _ _) (congrArg (World.drewN _) (Nat.add_assoc _ _ _))⟩);obtain ⟨Ao76,co76,eo76,_⟩:=Kd.Q_slice HO_18.out;subst eo76)|(go_at_call 17;(with_reducible refine (laws_r8Has.calls kj29 _ _ t129 t120 t147 _ ?side1 ?side2 A74.out).mono ?_);(case side1=>exact zbe);(case side2=>exact (Kd.Q_reads' HO_18.out).2.1);rintro e w' ⟨rfl,⟨nd,rfl⟩⟩;(try first|exact ⟨rfl,_,World.drewN_drewN _ _ _⟩|exact ⟨rfl,_,Eq.trans (World.drewN_drewN _ _ _) (congrArg (World.drewN _) (Nat.add_assoc _ _ _))⟩)))
               repeat (go_quiet (first|(go_at_call 10;(with_reducible refine (spec_SameState.calls kj29 _ _ ((rd_T48 t125 (ji69)).f3) _ _ ((rd_T48 t102 (ji63)).f3) true _ ?side1 ?side2 ?side3 ?side4 A72.out).mono ?_);(case side1=>repeat (first|exact zcf|(with_reducible refine Kd.C_alloc ?_ _)|(with_reducible refine Kd.C_drewN ?_ _)|(with_reducible refine Kd.C_drew ?_)));(case side2=>exact HC145_3.out);(case side3=>repeat (first|exact zaf|(with_reducible refine Kd.C_alloc ?_ _)|(with_reducible refine Kd.C_drewN ?_ _)|(with_reducible refine Kd.C_drew ?_)));(case side4=>exact HC144_3.out);rintro e w' ⟨rfl,⟨nd,rfl⟩⟩;(try first|exact ⟨rfl,_,World.drewN_drewN _ _ _⟩|exact ⟨rfl,_,Eq.trans (World.drewN_drewN _ _ _) (congrArg (World.drewN _) (Nat.add_assoc _ _ _))⟩);obtain ⟨Ao76,co76,eo76,_⟩:=Kd.Q_slice HO_18.out;subst eo76)|(go_at_call 17;(with_reducible refine (laws_r8Has.calls kj29 _ _ t129 t120 t147 _ ?side1 ?side2 A74.out).mono ?_);(case side1=>exact zbe);(case side2=>exact (Kd.Q_reads' HO_18.out).2.1);rintro e w' ⟨rfl,⟨nd,rfl⟩⟩;(try first|exact ⟨rfl,_,World.drewN_drewN _ _ _⟩|exact ⟨rfl,_,Eq.trans (World.drewN_drewN _ _ _) (congrArg (World.drewN _) (Nat.add_assoc _ _ _))⟩)));try go_wp2_with (first|(go_at_call 10;(with_reducible refine (spec_SameState.calls kj29 _ _ ((rd_T48 t125 (ji69)).f3) _ _ ((rd_T48 t102 (ji63)).f3) true _ ?side1 ?side2 ?side3 ?side4 A72.out).mono ?_);(case side1=>repeat (first|exact zcf|(with_reducible refine Kd.C_alloc ?_ _)|(with_reducible refine Kd.C_drewN ?_ _)|(with_reducible refine Kd.C_drew ?_)));(case side2=>exact HC145_3.out);(case side3=>repeat (first|exact zaf|(with_reducible refine Kd.C_alloc ?_ _)|(with_reducible refine Kd.C_drewN ?_ _)|(with_reducible refine Kd.C_drew ?_)));(case side4=>exact HC144_3.out);rintro e w' ⟨rfl,⟨nd,rfl⟩⟩;(try first|exact ⟨rfl,_,World.drewN_drewN _ _ _⟩|exact ⟨rfl,_,Eq.trans (World.drewN_drewN _ _ _) (congrArg (World.drewN _) (Nat.add_assoc _ _ _))⟩);obtain ⟨Ao76,co76,eo76,_⟩:=Kd.Q_slice HO_18.out;subst eo76)|(go_at_call 17;(with_reducible refine (laws_r8Has.calls kj29 _ _ t129 t120 t147 _ ?side1 ?side2 A74.out).mono ?_);(case side1=>exact zbe);(case side2=>exact (Kd.Q_reads' HO_18.out).2.1);rintro e w' ⟨rfl,⟨nd,rfl⟩⟩;(try first|exact ⟨rfl,_,World.drewN_drewN _ _ _⟩|exact ⟨rfl,_,Eq.trans (World.drewN_drewN _ _ _) (congrArg (World.drewN _) (Nat.add_assoc _ _ _))⟩))))
               try subst hji69
               go_meet
               case rel=>exact ⟨_,(((decide (t120 > 0)) != t147)),zi,H',⟨by have:=HJ9.out;have:=HJ29.out;first|omega|exact Nat.le_refl _⟩,⟨by (with_reducible repeat (first|apply Kd.S_alloc|apply Kd.S_drewN|apply Kd.S_drew));exact Kd.S_mono HO_13.out (fun _ hk=>trivial)⟩,⟨zaa⟩,⟨zaf⟩,⟨za⟩⟩
              ·replace c73:=Bool.eq_false_iff.mpr c73
               subst c73
               have H1:none=some r:=by rw [if_neg (show ¬ (false=true) by decide)] at H;exact H
               cases H1
             ·rw [if_neg c71] at H
              exact absurd H zca
            ·rw [if_neg c70] at H
             exact absurd H zca
           case rest=>
            clear HC66
            try clear c1
            try clear p1
            try clear q1
            try clear hx1
            try clear c2
            try clear p2
            try clear c3
            try clear c4
            try clear c6
            try clear p6
            try clear c7
            try clear c14
            try clear p14
            try clear q14
            try clear hx14
            try clear c19
            try clear c19b0
            try clear c19b1
            try clear c20
            try clear c20b0
            try clear c20b1
            try clear c23
            try clear c38
            try clear c38b0
            try clear c38b1
            try clear c39
            try clear c39b0
            try clear c39b1
            try clear c40
            try clear c40b0
            try clear c40b1
            try clear c41
            try clear c41b0
            try clear c41b1
            try clear c42
            try clear c42b0
            try clear c42b1
            try clear c43
            try clear c43b0
            try clear c43b1
            try clear c45
            try clear c46
            try clear c46b0
            try clear c46b1
            try clear c47
            try clear c47b0
            try clear c47b1
            try clear c61
            try clear c62
            try clear c62b0
            try clear c64
            try clear c64b0
            try clear p64
            try clear c65
            try clear c65b0
            try clear c70
            try clear c70b0
            try clear c71
            try clear c71b0
            try clear c73
            try clear hx144_0
            try clear hx144_1
            try clear hx144_2
            try clear hx144_3
            try clear hx145_0
            try clear hx145_1
            try clear hx145_2
            try clear hx145_3
            try clear p144
            try clear p145
            try clear p2
            try clear p6
            try clear q144
            try clear q145
            obtain ⟨kq,x170_65,rfl,HA,HJ65,HO_13,HO_18,HR144_3,HB⟩:=hcut
            cases kq with
            | zero=>exact absurd HA.out (by simp [laws_FnVersions.j2])
            | succ kj65=>
             have H:=HA.out
             clear HA
             simp only [laws_FnVersions.j2] at H
             by_cases c78:x170_65=true
             ·subst c78
              have H1:none=some r:=by rw [if_pos rfl] at H;exact H
              cases H1
             ·replace c78:=Bool.eq_false_iff.mpr c78
              subst c78
              have H1:(laws_FnVersions.l0 kj65 t121 (wrap64 ((t102.length:Int)+1)) t129 0)=some r:=by rw [if_neg (show ¬ (false=true) by decide)] at H;exact H
              clear H
              have H:=H1
              clear H1
              have H':=Aside0.mk H
              clear H
              go_wp2
              repeat (go_quiet (fail);try go_wp2)
              go_loopg [25] kj65 (fun kq v25 w'=>∃(x25_4:Int),v25 = .int .i64 x25_4∧Aside0 (laws_FnVersions.l0 kq t121 (wrap64 ((t102.length:Int)+1)) t129 x25_4=some r)∧Aside0 (kq≤kj65)∧Aside0 (Kd.S k48 48 w' w.heap.size (fun _=>True) (.slice Ao33 t121.length co33) t121)∧Aside0 (Kd.Q (Kd.int .i64) 2 w' w.heap.size (fun _=>True) v131 t129)∧Aside0 (Kd.C k57 w' A144_3 ((rd_T48 t102 (ji63)).f3).length ((rd_T48 t102 (ji63)).f3))∧Aside0 (Below w.heap.size w w'))
              case atStart=>exact ⟨(0),zi,H',⟨Nat.le_refl _⟩,⟨zaj⟩,⟨zaa⟩,⟨zaf⟩,⟨za⟩⟩
              case round=>
               clear H'
               try clear c1
               try clear p1
               try clear q1
               try clear hx1
               try clear c2
               try clear p2
               try clear c3
               try clear c4
               try clear c6
               try clear p6
               try clear c7
               try clear c14
               try clear p14
               try clear q14
               try clear hx14
               try clear c19
               try clear c19b0
               try clear c19b1
               try clear c20
               try clear c20b0
               try clear c20b1
               try clear c23
               try clear c38
               try clear c38b0
               try clear c38b1
               try clear c39
               try clear c39b0
               try clear c39b1
               try clear c40
               try clear c40b0
               try clear c40b1
               try clear c41
               try clear c41b0
               try clear c41b1
               try clear c42
               try clear c42b0
               try clear c42b1
               try clear c43
               try clear c43b0
               try clear c43b1
               try clear c45
               try clear c46
               try clear c46b0
               try clear c46b1
               try clear c47
               try clear c47b0
               try clear c47b1
               try clear c61
               try clear c62
               try clear c62b0
               try clear c64
               try clear c64b0
               try clear p64
               try clear c65
               try clear c65b0
               try clear c70
               try clear c70b0
               try clear c71
               try clear c71b0
               try clear c73
               try clear c78
               try clear hx144_0
               try clear hx144_1
               try clear hx144_2
               try clear hx144_3
               try clear hx145_0
               try clear hx145_1
               try clear hx145_2
               try clear hx145_3
               try clear p1
               try clear p14
               try clear p144
               try clear p145
               try clear p2
               try clear p6
               try clear p64
               try clear q1
               try clear q14
               try clear q144
               try clear q145
               obtain ⟨x25_4,rfl,HA,HK4,HO_13,HO_18,HR144_3,HB⟩:=hrel
               cases gk with
               | zero=>exact absurd HA.out (by simp [laws_FnVersions.l0])
               | succ k4=>
                have H:=HA.out
                clear HA
                simp only [laws_FnVersions.l0] at H
                by_cases c79:x25_4<(t129.length:Int)
                ·rw [if_pos c79] at H
                 have c79b0:decide (x25_4<(t129.length:Int))=true:=decide_eq_true c79
                 clear c79
                 by_cases c80:0≤x25_4
                 ·rw [if_pos c80] at H
                  have c80b0:decide (0≤x25_4)=true:=decide_eq_true c80
                  clear c80
                  by_cases c81:(rd t129 x25_4)<1
                  ·rw [if_pos c81] at H
                   cases H
                  ·rw [if_neg c81] at H
                   have c81b0:decide ((rd t129 x25_4)<1)=false:=decide_eq_false c81
                   clear c81
                   by_cases c83:(rd t129 x25_4)≥(wrap64 ((t102.length:Int)+1))
                   ·rw [if_pos c83] at H
                    cases H
                   ·rw [if_neg c83] at H
                    have c83b0:decide ((wrap64 ((t102.length:Int)+1))≤(rd t129 x25_4))=false:=decide_eq_false c83
                    clear c83
                    by_cases c85:x25_4 > 0
                    ·rw [if_pos c85] at H
                     have c85b0:decide (0<x25_4)=true:=decide_eq_true c85
                     clear c85
                     obtain ⟨ji86,hji86⟩:∃j_:Int,(wrap64 (x25_4 - 1))=j_:=⟨_,rfl⟩
                     replace H:(if 0≤(ji86) then (if (ji86)<(t129.length:Int) then (if (rd t129 x25_4)≥(rd t129 (ji86)) then none else (laws_FnVersions.l0 k4 t121 (wrap64 ((t102.length:Int)+1)) t129 (wrap64 (x25_4+1)))) else (none)) else (none))=some r:=by first|(rw [hji86] at H;exact H)|(simp only [hji86] at H ⊢;exact H)
                     have hji86w:(IntKind.i64.wrap (x25_4 - 1))=ji86:=(i64_w _).trans hji86
                     by_cases c87:0≤(ji86)
                     ·rw [if_pos c87] at H
                      have c87b0:decide (0≤(ji86))=true:=decide_eq_true c87
                      clear c87
                      by_cases c88:(ji86)<(t129.length:Int)
                      ·rw [if_pos c88] at H
                       have c88b0:decide ((ji86)<(t129.length:Int))=true:=decide_eq_true c88
                       clear c88
                       by_cases c89:(rd t129 x25_4)≥(rd t129 (ji86))
                       ·rw [if_pos c89] at H
                        cases H
                       ·rw [if_neg c89] at H
                        have c89b0:decide ((rd t129 (ji86))≤(rd t129 x25_4))=false:=decide_eq_false c89
                        clear c89
                        have H':=Aside0.mk H
                        clear H
                        obtain ⟨Ao91,co91,eo91,_⟩:=Kd.Q_slice HO_18.out
                        subst eo91
                        have p148:0≤(x25_4:Int):=of_decide_eq_true zb
                        have q148:x25_4<(t129.length:Int):=of_decide_eq_true zb
                        obtain ⟨ad148,e148,hx148_0⟩:=Kd.at_int (Kd.Q_reads' HO_18.out).2.2 x25_4 p148 q148
                        cases e148
                        replace p148:=eq_true p148
                        replace q148:=eq_true q148
                        have p149:0≤(x25_4:Int):=of_decide_eq_true zb
                        have q149:x25_4<(t129.length:Int):=of_decide_eq_true zb
                        obtain ⟨ad149,e149,hx149_0⟩:=Kd.at_int (Kd.Q_reads' HO_18.out).2.2 x25_4 p149 q149
                        obtain rfl:ad148=ad149:=(by injection e149)
                        replace p149:=eq_true p149
                        replace q149:=eq_true q149
                        have p150:0≤(x25_4:Int):=of_decide_eq_true zb
                        have q150:x25_4<(t129.length:Int):=of_decide_eq_true zb
                        obtain ⟨ad150,e150,hx150_0⟩:=Kd.at_int (Kd.Q_reads' HO_18.out).2.2 x25_4 p150 q150
                        obtain rfl:ad148=ad150:=(by injection e150)
                        replace p150:=eq_true p150
                        replace q150:=eq_true q150
                        have p151:0≤((ji86):Int):=of_decide_eq_true zb
                        have q151:(ji86)<(t129.length:Int):=of_decide_eq_true zb
                        obtain ⟨ad151,e151,hx151_0⟩:=Kd.at_int (Kd.Q_reads' HO_18.out).2.2 (ji86) p151 q151
                        obtain rfl:ad148=ad151:=(by injection e151)
                        replace p151:=eq_true p151
                        replace q151:=eq_true q151
                        go_wp2
                        repeat (go_quiet (fail);try go_wp2)
                        go_roundg k4
                        case measure=>have:=HJ9.out;have:=HJ29.out;have:=HJ65.out;have:=HK4.out;omega
                        case rel=>exact ⟨(wrap64 (x25_4+1)),zi,H',⟨by have:=HJ9.out;have:=HJ29.out;have:=HJ65.out;have:=HK4.out;omega⟩,⟨zaj⟩,⟨zaa⟩,⟨zaf⟩,⟨za⟩⟩
                      ·rw [if_neg c88] at H
                       exact absurd H zca
                     ·rw [if_neg c87] at H
                      exact absurd H zca
                    ·rw [if_neg c85] at H
                     have c85b0:decide (0<x25_4)=false:=decide_eq_false c85
                     clear c85
                     have H':=Aside0.mk H
                     clear H
                     obtain ⟨Ao92,co92,eo92,_⟩:=Kd.Q_slice HO_18.out
                     subst eo92
                     have p148:0≤(x25_4:Int):=of_decide_eq_true zb
                     have q148:x25_4<(t129.length:Int):=of_decide_eq_true zb
                     obtain ⟨ad148,e148,hx148_0⟩:=Kd.at_int (Kd.Q_reads' HO_18.out).2.2 x25_4 p148 q148
                     cases e148
                     replace p148:=eq_true p148
                     replace q148:=eq_true q148
                     have p149:0≤(x25_4:Int):=of_decide_eq_true zb
                     have q149:x25_4<(t129.length:Int):=of_decide_eq_true zb
                     obtain ⟨ad149,e149,hx149_0⟩:=Kd.at_int (Kd.Q_reads' HO_18.out).2.2 x25_4 p149 q149
                     obtain rfl:ad148=ad149:=(by injection e149)
                     replace p149:=eq_true p149
                     replace q149:=eq_true q149
                     go_wp2
                     repeat (go_quiet (fail);try go_wp2)
                     go_roundg k4
                     case measure=>have:=HJ9.out;have:=HJ29.out;have:=HJ65.out;have:=HK4.out;omega
                     case rel=>exact ⟨(wrap64 (x25_4+1)),zi,H',⟨by have:=HJ9.out;have:=HJ29.out;have:=HJ65.out;have:=HK4.out;omega⟩,⟨zaj⟩,⟨zaa⟩,⟨zaf⟩,⟨za⟩⟩
                 ·rw [if_neg c80] at H
                  exact absurd H zca
                ·rw [if_neg c79] at H
                 have c79b0:decide (x25_4<(t129.length:Int))=false:=decide_eq_false c79
                 clear c79
                 obtain ⟨ji93,hji93⟩:∃j_:Int,(wrap64 ((wrap64 ((t102.length:Int)+1)) - 1))=j_:=⟨_,rfl⟩
                 replace H:(if 0≤(ji93) then (if (ji93)<(t121.length:Int) then ((impl_VersionText.f k4 ((rd_T48 t121 (ji93)).f0) ((rd_T48 t121 (ji93)).f1) ((rd_T48 t121 (ji93)).f2) ((rd_T48 t121 (ji93)).f3)).bind fun t153=>(some (t153.toList != ([]:List UInt8)))) else (none)) else (none))=some r:=by first|(rw [hji93] at H;exact H)|(simp only [hji93] at H ⊢;exact H)
                 have hji93w:(IntKind.i64.wrap ((wrap64 ((t102.length:Int)+1)) - 1))=ji93:=(i64_w _).trans hji93
                 by_cases c94:0≤(ji93)
                 ·rw [if_pos c94] at H
                  have c94b0:decide (0≤(ji93))=true:=decide_eq_true c94
                  clear c94
                  by_cases c95:(ji93)<(t121.length:Int)
                  ·rw [if_pos c95] at H
                   have c95b0:decide ((ji93)<(t121.length:Int))=true:=decide_eq_true c95
                   clear c95
                   replace H:=Option.bind_eq_some_iff.mp H
                   obtain ⟨t153,A960,H⟩:=H
                   replace H:(some (t153.toList != ([]:List UInt8)))=some r:=H
                   have A96:=Aside0.mk A960
                   clear A960
                   obtain rfl:=Option.some.inj H
                   obtain ⟨Ao97,co97,eo97,_⟩:=Kd.Q_slice HO_18.out
                   subst eo97
                   have p152:0≤((ji93):Int):=of_decide_eq_true zb
                   have q152:(ji93)<(t121.length:Int):=of_decide_eq_true zb
                   obtain ⟨ad152,A152_3,c152_3,e152,hx152_0,hx152_1,hx152_2,hx152_3,hl152_3,hi152_3⟩:=at_T48 (Kd.S_reads' HO_13.out).2.2 (ji93) p152 q152
                   cases e152
                   obtain ⟨ce152,hce152,hMe152,hcc152⟩:=Kd.S_get HO_13.out z48 (ji93) p152 (by first|exact q152|exact of_decide_eq_true zb|(have e_:=(Kd.S_reads' HO_13.out).1;omega))
                   obtain ⟨ve152_3,rfl,ge152_3⟩:=k48_openM hMe152
                   have hv152_3:=hcc152 3 _ rfl
                   rw [add_field _ _ 3 zbn] at hv152_3
                   replace hv152_3:=Option.some.inj (hv152_3.symm.trans hx152_3)
                   rw [hv152_3] at ge152_3
                   have HL152_3:=Aside0.mk (show Kd.R k57 57 _ _ _ _ ((rd_T48 t121 (ji93)).f3) from ge152_3)
                   clear hv152_3 ge152_3
                   clear hcc152 hce152
                   have HR152_3:=Aside0.mk hi152_3
                   have HC152_3:=Aside0.mk hl152_3
                   clear hi152_3 hl152_3
                   replace p152:=eq_true p152
                   replace q152:=eq_true q152
                   go_wp2_with (first|(go_at_call 19;(with_reducible refine (impl_VersionText.calls k4 ((rd_T48 t121 (ji93)).f0) ((rd_T48 t121 (ji93)).f1) ((rd_T48 t121 (ji93)).f2) _ _ ((rd_T48 t121 (ji93)).f3) t153 _ ?side3 ?side1 ?side2 A96.out).mono ?_);(case side1=>repeat (first|exact zay|(with_reducible refine Kd.C_alloc ?_ _)|(with_reducible refine Kd.C_drewN ?_ _)|(with_reducible refine Kd.C_drew ?_)));(case side2=>exact HC152_3.out);(case side3=>exact Door1.at HD.out za);rintro e w98 ⟨rfl,hb⟩;replace HO_13:=Aside0.mk (Kd.S_below zaj hb);replace HO_18:=Aside0.mk (Kd.Q_below zaa hb);replace HL152_3:=Aside0.mk (Kd.R_below (by (with_reducible repeat (first|apply Kd.R_alloc|apply Kd.R_drewN|apply Kd.R_drew));exact HL152_3.out) hb);replace HR144_3:=Aside0.mk (Kd.C_below zaf hb);replace HR152_3:=Aside0.mk (Kd.C_below zay hb);replace HB:=Aside0.mk (below_step za hb);(try clear hb);(try clear hb2);(try clear hk);(try clear hi)))
                   repeat (go_quiet (first|(go_at_call 19;(with_reducible refine (impl_VersionText.calls k4 ((rd_T48 t121 (ji93)).f0) ((rd_T48 t121 (ji93)).f1) ((rd_T48 t121 (ji93)).f2) _ _ ((rd_T48 t121 (ji93)).f3) t153 _ ?side3 ?side1 ?side2 A96.out).mono ?_);(case side1=>repeat (first|exact zay|(with_reducible refine Kd.C_alloc ?_ _)|(with_reducible refine Kd.C_drewN ?_ _)|(with_reducible refine Kd.C_drew ?_)));(case side2=>exact HC152_3.out);(case side3=>exact Door1.at HD.out za);rintro e w98 ⟨rfl,hb⟩;replace HO_13:=Aside0.mk (Kd.S_below zaj hb);replace HO_18:=Aside0.mk (Kd.Q_below zaa hb);replace HL152_3:=Aside0.mk (Kd.R_below (by (with_reducible repeat (first|apply Kd.R_alloc|apply Kd.R_drewN|apply Kd.R_drew));exact HL152_3.out) hb);replace HR144_3:=Aside0.mk (Kd.C_below zaf hb);replace HR152_3:=Aside0.mk (Kd.C_below zay hb);replace HB:=Aside0.mk (below_step za hb);(try clear hb);(try clear hb2);(try clear hk);(try clear hi)));try go_wp2_with (first|(go_at_call 19;(with_reducible refine (impl_VersionText.calls k4 ((rd_T48 t121 (ji93)).f0) ((rd_T48 t121 (ji93)).f1) ((rd_T48 t121 (ji93)).f2) _ _ ((rd_T48 t121 (ji93)).f3) t153 _ ?side3 ?side1 ?side2 A96.out).mono ?_);(case side1=>repeat (first|exact zay|(with_reducible refine Kd.C_alloc ?_ _)|(with_reducible refine Kd.C_drewN ?_ _)|(with_reducible refine Kd.C_drew ?_)));(case side2=>exact HC152_3.out);(case side3=>exact Door1.at HD.out za);rintro e w98 ⟨rfl,hb⟩;replace HO_13:=Aside0.mk (Kd.S_below zaj hb);replace HO_18:=Aside0.mk (Kd.Q_below zaa hb);replace HL152_3:=Aside0.mk (Kd.R_below (by (with_reducible repeat (first|apply Kd.R_alloc|apply Kd.R_drewN|apply Kd.R_drew));exact HL152_3.out) hb);replace HR144_3:=Aside0.mk (Kd.C_below zaf hb);replace HR152_3:=Aside0.mk (Kd.C_below zay hb);replace HB:=Aside0.mk (below_step za hb);(try clear hb);(try clear hb2);(try clear hk);(try clear hi))))
                   go_ret
                   exact ⟨by first|rfl|(generalize t153.toList=q_;cases q_<;>rfl)|(generalize t162.toList=q_;cases q_<;>rfl)|(simp [errW_none,errW_some]<;>rfl)|(simp only [←hji63,←hji93];first|rfl|(simp [errW_none,errW_some]<;>rfl))|(simp [*,errW_none,errW_some]<;>rfl),za⟩
                  ·rw [if_neg c95] at H
                   exact absurd H zca
                 ·rw [if_neg c94] at H
                  exact absurd H zca
          ·rw [if_neg c65] at H
           exact absurd H zca
         ·rw [if_neg c64] at H
          exact absurd H zca
        ·rw [if_neg c62] at H
         have c62b0:decide (0<t120)=false:=decide_eq_false c62
         clear c62
         have HC99:=Aside0.mk H
         clear H
         go_upto_region 22 with (first|((with_reducible refine gate_dst (N:=146) rfl ?_);refine Kd.R_lit k57 _ 57 ?hg (N:=146) ?hd (xs:=([]:List (S57))) (inner:=[]) (ok:=fun _=>True) (okp:=fun _=>True) ?hr ?hp (fun _ hk=>hk) trivial (Below.refl _ _) (Nat.le_refl _) zca ?_;(case hd=>rfl);(case hg=>rfl);(case hr=>exact zv);(case hp=>exact (Reps.none _ _));intro v142 w100 ho101 hb hg_ hnew_;clear hg_ hnew_;(first|rw [←Ny141.out] at ho101|(simp only [Int.reduceToNat] at ho101;rw [←Ny141.out] at ho101));replace HO_5:=Aside0.mk (Kd.S_elder' zt (Kd.R_base ho101) hb);replace HO_13:=Aside0.mk (Kd.S_elder' zaj (Kd.R_base ho101) hb);replace HO_16:=Aside0.mk (Kd.S_elder' zcc (Kd.R_base ho101) hb);replace HO_18:=Aside0.mk (Kd.Q_below zaa hb);have HO143:=Aside0.mk (Kd.R_lower ho101 (below_size za));replace HB:=Aside0.mk (below_step za hb);clear hb ho101))
         repeat (go_quiet (first|((with_reducible refine gate_dst (N:=146) rfl ?_);refine Kd.R_lit k57 _ 57 ?hg (N:=146) ?hd (xs:=([]:List (S57))) (inner:=[]) (ok:=fun _=>True) (okp:=fun _=>True) ?hr ?hp (fun _ hk=>hk) trivial (Below.refl _ _) (Nat.le_refl _) zca ?_;(case hd=>rfl);(case hg=>rfl);(case hr=>exact zv);(case hp=>exact (Reps.none _ _));intro v142 w100 ho101 hb hg_ hnew_;clear hg_ hnew_;(first|rw [←Ny141.out] at ho101|(simp only [Int.reduceToNat] at ho101;rw [←Ny141.out] at ho101));replace HO_5:=Aside0.mk (Kd.S_elder' zt (Kd.R_base ho101) hb);replace HO_13:=Aside0.mk (Kd.S_elder' zaj (Kd.R_base ho101) hb);replace HO_16:=Aside0.mk (Kd.S_elder' zcc (Kd.R_base ho101) hb);replace HO_18:=Aside0.mk (Kd.Q_below zaa hb);have HO143:=Aside0.mk (Kd.R_lower ho101 (below_size za));replace HB:=Aside0.mk (below_step za hb);clear hb ho101));go_upto_region 22 with (first|((with_reducible refine gate_dst (N:=146) rfl ?_);refine Kd.R_lit k57 _ 57 ?hg (N:=146) ?hd (xs:=([]:List (S57))) (inner:=[]) (ok:=fun _=>True) (okp:=fun _=>True) ?hr ?hp (fun _ hk=>hk) trivial (Below.refl _ _) (Nat.le_refl _) zca ?_;(case hd=>rfl);(case hg=>rfl);(case hr=>exact zv);(case hp=>exact (Reps.none _ _));intro v142 w100 ho101 hb hg_ hnew_;clear hg_ hnew_;(first|rw [←Ny141.out] at ho101|(simp only [Int.reduceToNat] at ho101;rw [←Ny141.out] at ho101));replace HO_5:=Aside0.mk (Kd.S_elder' zt (Kd.R_base ho101) hb);replace HO_13:=Aside0.mk (Kd.S_elder' zaj (Kd.R_base ho101) hb);replace HO_16:=Aside0.mk (Kd.S_elder' zcc (Kd.R_base ho101) hb);replace HO_18:=Aside0.mk (Kd.Q_below zaa hb);have HO143:=Aside0.mk (Kd.R_lower ho101 (below_size za));replace HB:=Aside0.mk (below_step za hb);clear hb ho101)))
         (try simp only [Act.put,List.setIfInBounds_toArray,List.set_cons_zero,List.set_cons_succ])
         go_cut [170] (fun v170 wc=>∃(kq:Nat) (x170_98:Bool),v170 = .bool x170_98∧Aside0 (laws_FnVersions.j4 kq t121 (wrap64 ((t102.length:Int)+1)) t129 x170_98=some r)∧Aside0 (kq≤kj29)∧Aside0 (Kd.S k48 48 wc w.heap.size (fun _=>True) (.slice Ao33 t121.length co33) t121)∧Aside0 (Kd.Q (Kd.int .i64) 2 wc w.heap.size (fun _=>True) v131 t129)∧Aside0 (Below w.heap.size w wc))
         case first=>
          have H:=HC99.out
          clear HC99
          obtain ⟨ji102,hji102⟩:∃j_:Int,(wrap64 ((t102.length:Int)+1))=j_:=⟨_,rfl⟩
          replace H:(if 0≤(ji102) then (if (ji102)<(t125.length:Int) then ((spec_SameState.f kj29 ((rd_T48 t125 (ji102)).f3) y141).bind fun t155=>(if t155=true then ((laws_r8Has.f kj29 t129 t120).bind fun t156=>(laws_FnVersions.j4 kj29 t121 (ji102) t129 ((decide (t120 > 0)) != t156))) else none)) else (none)) else (none))=some r:=by first|(rw [hji102] at H;exact H)|(simp only [hji102] at H ⊢;exact H)
          have hji102w:(IntKind.i64.wrap ((t102.length:Int)+1))=ji102:=(i64_w _).trans hji102
          by_cases c103:0≤(ji102)
          ·rw [if_pos c103] at H
           have c103b0:decide (0≤(ji102))=true:=decide_eq_true c103
           clear c103
           (first|rw [c103b0]|(simp only [i64_w,i32_w];rw [c103b0])|skip)
           by_cases c104:(ji102)<(t125.length:Int)
           ·rw [if_pos c104] at H
            have c104b0:decide ((ji102)<(t125.length:Int))=true:=decide_eq_true c104
            clear c104
            replace H:=Option.bind_eq_some_iff.mp H
            obtain ⟨t155,A1050,H⟩:=H
            replace H:(if t155=true then ((laws_r8Has.f kj29 t129 t120).bind fun t156=>(laws_FnVersions.j4 kj29 t121 (ji102) t129 ((decide (t120 > 0)) != t156))) else none)=some r:=H
            have A105:=Aside0.mk A1050
            clear A1050
            by_cases c106:t155=true
            ·subst c106
             have H1:((laws_r8Has.f kj29 t129 t120).bind fun t156=>(laws_FnVersions.j4 kj29 t121 (ji102) t129 ((decide (t120 > 0)) != t156)))=some r:=by rw [if_pos rfl] at H;exact H
             clear H
             have H:=H1
             clear H1
             replace H:=Option.bind_eq_some_iff.mp H
             obtain ⟨t156,A1070,H⟩:=H
             replace H:(laws_FnVersions.j4 kj29 t121 (ji102) t129 ((decide (t120 > 0)) != t156))=some r:=H
             have A107:=Aside0.mk A1070
             clear A1070
             have H':=Aside0.mk H
             clear H
             obtain ⟨Ao108,co108,eo108⟩:=Kd.S_slice HO_16.out
             subst eo108
             have p154:0≤((ji102):Int):=of_decide_eq_true zb
             have q154:(ji102)<(t125.length:Int):=of_decide_eq_true zb
             obtain ⟨ad154,A154_3,c154_3,e154,hx154_0,hx154_1,hx154_2,hx154_3,hl154_3,hi154_3⟩:=at_T48 (Kd.S_reads' HO_16.out).2.2 (ji102) p154 q154
             cases e154
             obtain ⟨ce154,hce154,hMe154,hcc154⟩:=Kd.S_get HO_16.out z48 (ji102) p154 (by first|exact q154|exact of_decide_eq_true zb|(have e_:=(Kd.S_reads' HO_16.out).1;omega))
             obtain ⟨ve154_3,rfl,ge154_3⟩:=k48_openM hMe154
             have hv154_3:=hcc154 3 _ rfl
             rw [add_field _ _ 3 zbn] at hv154_3
             replace hv154_3:=Option.some.inj (hv154_3.symm.trans hx154_3)
             rw [hv154_3] at ge154_3
             have HL154_3:=Aside0.mk (show Kd.R k57 57 _ _ _ _ ((rd_T48 t125 (ji102)).f3) from ge154_3)
             clear hv154_3 ge154_3
             clear hcc154 hce154
             have HR154_3:=Aside0.mk hi154_3
             have HC154_3:=Aside0.mk hl154_3
             clear hi154_3 hl154_3
             replace p154:=eq_true p154
             replace q154:=eq_true q154
             obtain ⟨Ao109,co109,eo109⟩:=Kd.R_slice HO143.out
             subst eo109
             go_wp2_with (first|(go_at_call 10;(with_reducible refine (spec_SameState.calls kj29 _ _ ((rd_T48 t125 (ji102)).f3) _ _ y141 true _ ?side1 ?side2 ?side3 ?side4 A105.out).mono ?_);(case side1=>repeat (first|exact zcg|(with_reducible refine Kd.C_alloc ?_ _)|(with_reducible refine Kd.C_drewN ?_ _)|(with_reducible refine Kd.C_drew ?_)));(case side2=>exact HC154_3.out);(case side3=>exact zcp);(case side4=>exact (Kd.R_reads' HO143.out).2.1);rintro e w' ⟨rfl,⟨nd,rfl⟩⟩;(try first|exact ⟨rfl,_,World.drewN_drewN _ _ _⟩|exact ⟨rfl,_,Eq.trans (World.drewN_drewN _ _ _) (congrArg (World.drewN _) (Nat.add_assoc _ _ _))⟩);obtain ⟨Ao110,co110,eo110,_⟩:=Kd.Q_slice HO_18.out;subst eo110)|(go_at_call 17;(with_reducible refine (laws_r8Has.calls kj29 _ _ t129 t120 t156 _ ?side1 ?side2 A107.out).mono ?_);(case side1=>exact zbe);(case side2=>exact (Kd.Q_reads' HO_18.out).2.1);rintro e w' ⟨rfl,⟨nd,rfl⟩⟩;(try first|exact ⟨rfl,_,World.drewN_drewN _ _ _⟩|exact ⟨rfl,_,Eq.trans (World.drewN_drewN _ _ _) (congrArg (World.drewN _) (Nat.add_assoc _ _ _))⟩)))
             repeat (go_quiet (first|(go_at_call 10;(with_reducible refine (spec_SameState.calls kj29 _ _ ((rd_T48 t125 (ji102)).f3) _ _ y141 true _ ?side1 ?side2 ?side3 ?side4 A105.out).mono ?_);(case side1=>repeat (first|exact zcg|(with_reducible refine Kd.C_alloc ?_ _)|(with_reducible refine Kd.C_drewN ?_ _)|(with_reducible refine Kd.C_drew ?_)));(case side2=>exact HC154_3.out);(case side3=>exact zcp);(case side4=>exact (Kd.R_reads' HO143.out).2.1);rintro e w' ⟨rfl,⟨nd,rfl⟩⟩;(try first|exact ⟨rfl,_,World.drewN_drewN _ _ _⟩|exact ⟨rfl,_,Eq.trans (World.drewN_drewN _ _ _) (congrArg (World.drewN _) (Nat.add_assoc _ _ _))⟩);obtain ⟨Ao110,co110,eo110,_⟩:=Kd.Q_slice HO_18.out;subst eo110)|(go_at_call 17;(with_reducible refine (laws_r8Has.calls kj29 _ _ t129 t120 t156 _ ?side1 ?side2 A107.out).mono ?_);(case side1=>exact zbe);(case side2=>exact (Kd.Q_reads' HO_18.out).2.1);rintro e w' ⟨rfl,⟨nd,rfl⟩⟩;(try first|exact ⟨rfl,_,World.drewN_drewN _ _ _⟩|exact ⟨rfl,_,Eq.trans (World.drewN_drewN _ _ _) (congrArg (World.drewN _) (Nat.add_assoc _ _ _))⟩)));try go_wp2_with (first|(go_at_call 10;(with_reducible refine (spec_SameState.calls kj29 _ _ ((rd_T48 t125 (ji102)).f3) _ _ y141 true _ ?side1 ?side2 ?side3 ?side4 A105.out).mono ?_);(case side1=>repeat (first|exact zcg|(with_reducible refine Kd.C_alloc ?_ _)|(with_reducible refine Kd.C_drewN ?_ _)|(with_reducible refine Kd.C_drew ?_)));(case side2=>exact HC154_3.out);(case side3=>exact zcp);(case side4=>exact (Kd.R_reads' HO143.out).2.1);rintro e w' ⟨rfl,⟨nd,rfl⟩⟩;(try first|exact ⟨rfl,_,World.drewN_drewN _ _ _⟩|exact ⟨rfl,_,Eq.trans (World.drewN_drewN _ _ _) (congrArg (World.drewN _) (Nat.add_assoc _ _ _))⟩);obtain ⟨Ao110,co110,eo110,_⟩:=Kd.Q_slice HO_18.out;subst eo110)|(go_at_call 17;(with_reducible refine (laws_r8Has.calls kj29 _ _ t129 t120 t156 _ ?side1 ?side2 A107.out).mono ?_);(case side1=>exact zbe);(case side2=>exact (Kd.Q_reads' HO_18.out).2.1);rintro e w' ⟨rfl,⟨nd,rfl⟩⟩;(try first|exact ⟨rfl,_,World.drewN_drewN _ _ _⟩|exact ⟨rfl,_,Eq.trans (World.drewN_drewN _ _ _) (congrArg (World.drewN _) (Nat.add_assoc _ _ _))⟩))))
             try subst hji102
             go_meet
             case rel=>exact ⟨_,(((decide (t120 > 0)) != t156)),zi,H',⟨by have:=HJ9.out;have:=HJ29.out;first|omega|exact Nat.le_refl _⟩,⟨by (with_reducible repeat (first|apply Kd.S_alloc|apply Kd.S_drewN|apply Kd.S_drew));exact Kd.S_mono HO_13.out (fun _ hk=>trivial)⟩,⟨zaa⟩,⟨za⟩⟩
            ·replace c106:=Bool.eq_false_iff.mpr c106
             subst c106
             have H1:none=some r:=by rw [if_neg (show ¬ (false=true) by decide)] at H;exact H
             cases H1
           ·rw [if_neg c104] at H
            exact absurd H zca
          ·rw [if_neg c103] at H
           exact absurd H zca
         case rest=>
          clear HC99
          try clear c1
          try clear p1
          try clear q1
          try clear hx1
          try clear c2
          try clear p2
          try clear c3
          try clear c4
          try clear c6
          try clear p6
          try clear c7
          try clear c8
          try clear c9
          try clear c10
          try clear c14
          try clear p14
          try clear q14
          try clear hx14
          try clear c15
          try clear p15
          try clear q15
          try clear hx15
          try clear c19
          try clear c19b0
          try clear c19b1
          try clear c20
          try clear c20b0
          try clear c20b1
          try clear c23
          try clear c38
          try clear c38b0
          try clear c38b1
          try clear c39
          try clear c39b0
          try clear c39b1
          try clear c40
          try clear c40b0
          try clear c40b1
          try clear c41
          try clear c41b0
          try clear c41b1
          try clear c42
          try clear c42b0
          try clear c42b1
          try clear c43
          try clear c43b0
          try clear c43b1
          try clear c45
          try clear c46
          try clear c46b0
          try clear c46b1
          try clear c47
          try clear c47b0
          try clear c47b1
          try clear c61
          try clear c62
          try clear c62b0
          try clear c64
          try clear c64b0
          try clear p64
          try clear c65
          try clear c65b0
          try clear c70
          try clear c70b0
          try clear c71
          try clear c71b0
          try clear c73
          try clear c78
          try clear c79
          try clear c79b0
          try clear c80
          try clear c80b0
          try clear c81
          try clear c81b0
          try clear c83
          try clear c83b0
          try clear c85
          try clear c85b0
          try clear c87
          try clear c87b0
          try clear c88
          try clear c88b0
          try clear c89
          try clear c89b0
          try clear c94
          try clear c94b0
          try clear c95
          try clear c95b0
          try clear c103
          try clear c103b0
          try clear c104
          try clear c104b0
          try clear c106
          try clear hx144_0
          try clear hx144_1
          try clear hx144_2
          try clear hx144_3
          try clear hx145_0
          try clear hx145_1
          try clear hx145_2
          try clear hx145_3
          try clear hx148_0
          try clear hx149_0
          try clear hx150_0
          try clear hx151_0
          try clear hx152_0
          try clear hx152_1
          try clear hx152_2
          try clear hx152_3
          try clear hx154_0
          try clear hx154_1
          try clear hx154_2
          try clear hx154_3
          try clear p1
          try clear p14
          try clear p144
          try clear p145
          try clear p148
          try clear p149
          try clear p150
          try clear p151
          try clear p152
          try clear p154
          try clear p2
          try clear p6
          try clear p64
          try clear q1
          try clear q14
          try clear q144
          try clear q145
          try clear q148
          try clear q149
          try clear q150
          try clear q151
          try clear q152
          try clear q154
          obtain ⟨kq,x170_98,rfl,HA,HJ98,HO_13,HO_18,HB⟩:=hcut
          cases kq with
          | zero=>exact absurd HA.out (by simp [laws_FnVersions.j4])
          | succ kj98=>
           have H:=HA.out
           clear HA
           simp only [laws_FnVersions.j4] at H
           by_cases c113:x170_98=true
           ·subst c113
            have H1:none=some r:=by rw [if_pos rfl] at H;exact H
            cases H1
           ·replace c113:=Bool.eq_false_iff.mpr c113
            subst c113
            have H1:(laws_FnVersions.l1 kj98 t121 (wrap64 ((t102.length:Int)+1)) t129 0)=some r:=by rw [if_neg (show ¬ (false=true) by decide)] at H;exact H
            clear H
            have H:=H1
            clear H1
            have H':=Aside0.mk H
            clear H
            go_wp2
            repeat (go_quiet (fail);try go_wp2)
            go_loopg [25] kj98 (fun kq v25 w'=>∃(x25_4:Int),v25 = .int .i64 x25_4∧Aside0 (laws_FnVersions.l1 kq t121 (wrap64 ((t102.length:Int)+1)) t129 x25_4=some r)∧Aside0 (kq≤kj98)∧Aside0 (Kd.S k48 48 w' w.heap.size (fun _=>True) (.slice Ao33 t121.length co33) t121)∧Aside0 (Kd.Q (Kd.int .i64) 2 w' w.heap.size (fun _=>True) v131 t129)∧Aside0 (Below w.heap.size w w'))
            case atStart=>exact ⟨(0),zi,H',⟨Nat.le_refl _⟩,⟨zaj⟩,⟨zaa⟩,⟨za⟩⟩
            case round=>
             clear H'
             try clear c1
             try clear p1
             try clear q1
             try clear hx1
             try clear c2
             try clear p2
             try clear c3
             try clear c4
             try clear c6
             try clear p6
             try clear c7
             try clear c8
             try clear c9
             try clear c10
             try clear c11
             try clear c14
             try clear p14
             try clear q14
             try clear hx14
             try clear c15
             try clear p15
             try clear q15
             try clear hx15
             try clear c19
             try clear c19b0
             try clear c19b1
             try clear c20
             try clear c20b0
             try clear c20b1
             try clear c23
             try clear c38
             try clear c38b0
             try clear c38b1
             try clear c39
             try clear c39b0
             try clear c39b1
             try clear c40
             try clear c40b0
             try clear c40b1
             try clear c41
             try clear c41b0
             try clear c41b1
             try clear c42
             try clear c42b0
             try clear c42b1
             try clear c43
             try clear c43b0
             try clear c43b1
             try clear c45
             try clear c46
             try clear c46b0
             try clear c46b1
             try clear c47
             try clear c47b0
             try clear c47b1
             try clear c61
             try clear c62
             try clear c62b0
             try clear c64
             try clear c64b0
             try clear p64
             try clear c65
             try clear c65b0
             try clear c70
             try clear c70b0
             try clear c71
             try clear c71b0
             try clear c73
             try clear c78
             try clear c79
             try clear c79b0
             try clear c80
             try clear c80b0
             try clear c81
             try clear c81b0
             try clear c83
             try clear c83b0
             try clear c85
             try clear c85b0
             try clear c87
             try clear c87b0
             try clear c88
             try clear c88b0
             try clear c89
             try clear c89b0
             try clear c94
             try clear c94b0
             try clear c95
             try clear c95b0
             try clear c103
             try clear c103b0
             try clear c104
             try clear c104b0
             try clear c106
             try clear c113
             try clear hx144_0
             try clear hx144_1
             try clear hx144_2
             try clear hx144_3
             try clear hx145_0
             try clear hx145_1
             try clear hx145_2
             try clear hx145_3
             try clear hx148_0
             try clear hx149_0
             try clear hx150_0
             try clear hx151_0
             try clear hx152_0
             try clear hx152_1
             try clear hx152_2
             try clear hx152_3
             try clear hx154_0
             try clear hx154_1
             try clear hx154_2
             try clear hx154_3
             try clear p1
             try clear p14
             try clear p144
             try clear p145
             try clear p148
             try clear p149
             try clear p15
             try clear p150
             try clear p151
             try clear p152
             try clear p154
             try clear p2
             try clear p6
             try clear p64
             try clear q1
             try clear q14
             try clear q144
             try clear q145
             try clear q148
             try clear q149
             try clear q15
             try clear q150
             try clear q151
             try clear q152
             try clear q154
             obtain ⟨x25_4,rfl,HA,HK4,HO_13,HO_18,HB⟩:=hrel
             cases gk with
             | zero=>exact absurd HA.out (by simp [laws_FnVersions.l1])
             | succ k4=>
              have H:=HA.out
              clear HA
              simp only [laws_FnVersions.l1] at H
              by_cases c114:x25_4<(t129.length:Int)
              ·rw [if_pos c114] at H
               have c114b0:decide (x25_4<(t129.length:Int))=true:=decide_eq_true c114
               clear c114
               by_cases c115:0≤x25_4
               ·rw [if_pos c115] at H
                have c115b0:decide (0≤x25_4)=true:=decide_eq_true c115
                clear c115
                by_cases c116:(rd t129 x25_4)<1
                ·rw [if_pos c116] at H
                 cases H
                ·rw [if_neg c116] at H
                 have c116b0:decide ((rd t129 x25_4)<1)=false:=decide_eq_false c116
                 clear c116
                 by_cases c118:(rd t129 x25_4)≥(wrap64 ((t102.length:Int)+1))
                 ·rw [if_pos c118] at H
                  cases H
                 ·rw [if_neg c118] at H
                  have c118b0:decide ((wrap64 ((t102.length:Int)+1))≤(rd t129 x25_4))=false:=decide_eq_false c118
                  clear c118
                  by_cases c120:x25_4 > 0
                  ·rw [if_pos c120] at H
                   have c120b0:decide (0<x25_4)=true:=decide_eq_true c120
                   clear c120
                   obtain ⟨ji121,hji121⟩:∃j_:Int,(wrap64 (x25_4 - 1))=j_:=⟨_,rfl⟩
                   replace H:(if 0≤(ji121) then (if (ji121)<(t129.length:Int) then (if (rd t129 x25_4)≥(rd t129 (ji121)) then none else (laws_FnVersions.l1 k4 t121 (wrap64 ((t102.length:Int)+1)) t129 (wrap64 (x25_4+1)))) else (none)) else (none))=some r:=by first|(rw [hji121] at H;exact H)|(simp only [hji121] at H ⊢;exact H)
                   have hji121w:(IntKind.i64.wrap (x25_4 - 1))=ji121:=(i64_w _).trans hji121
                   by_cases c122:0≤(ji121)
                   ·rw [if_pos c122] at H
                    have c122b0:decide (0≤(ji121))=true:=decide_eq_true c122
                    clear c122
                    by_cases c123:(ji121)<(t129.length:Int)
                    ·rw [if_pos c123] at H
                     have c123b0:decide ((ji121)<(t129.length:Int))=true:=decide_eq_true c123
                     clear c123
                     by_cases c124:(rd t129 x25_4)≥(rd t129 (ji121))
                     ·rw [if_pos c124] at H
                      cases H
                     ·rw [if_neg c124] at H
                      have c124b0:decide ((rd t129 (ji121))≤(rd t129 x25_4))=false:=decide_eq_false c124
                      clear c124
                      have H':=Aside0.mk H
                      clear H
                      obtain ⟨Ao126,co126,eo126,_⟩:=Kd.Q_slice HO_18.out
                      subst eo126
                      have p157:0≤(x25_4:Int):=of_decide_eq_true zb
                      have q157:x25_4<(t129.length:Int):=of_decide_eq_true zb
                      obtain ⟨ad157,e157,hx157_0⟩:=Kd.at_int (Kd.Q_reads' HO_18.out).2.2 x25_4 p157 q157
                      cases e157
                      replace p157:=eq_true p157
                      replace q157:=eq_true q157
                      have p158:0≤(x25_4:Int):=of_decide_eq_true zb
                      have q158:x25_4<(t129.length:Int):=of_decide_eq_true zb
                      obtain ⟨ad158,e158,hx158_0⟩:=Kd.at_int (Kd.Q_reads' HO_18.out).2.2 x25_4 p158 q158
                      obtain rfl:ad157=ad158:=(by injection e158)
                      replace p158:=eq_true p158
                      replace q158:=eq_true q158
                      have p159:0≤(x25_4:Int):=of_decide_eq_true zb
                      have q159:x25_4<(t129.length:Int):=of_decide_eq_true zb
                      obtain ⟨ad159,e159,hx159_0⟩:=Kd.at_int (Kd.Q_reads' HO_18.out).2.2 x25_4 p159 q159
                      obtain rfl:ad157=ad159:=(by injection e159)
                      replace p159:=eq_true p159
                      replace q159:=eq_true q159
                      have p160:0≤((ji121):Int):=of_decide_eq_true zb
                      have q160:(ji121)<(t129.length:Int):=of_decide_eq_true zb
                      obtain ⟨ad160,e160,hx160_0⟩:=Kd.at_int (Kd.Q_reads' HO_18.out).2.2 (ji121) p160 q160
                      obtain rfl:ad157=ad160:=(by injection e160)
                      replace p160:=eq_true p160
                      replace q160:=eq_true q160
                      go_wp2
                      repeat (go_quiet (fail);try go_wp2)
                      go_roundg k4
                      case measure=>have:=HJ9.out;have:=HJ29.out;have:=HJ98.out;have:=HK4.out;omega
                      case rel=>exact ⟨(wrap64 (x25_4+1)),zi,H',⟨by have:=HJ9.out;have:=HJ29.out;have:=HJ98.out;have:=HK4.out;omega⟩,⟨zaj⟩,⟨zaa⟩,⟨za⟩⟩
                    ·rw [if_neg c123] at H
                     exact absurd H zca
                   ·rw [if_neg c122] at H
                    exact absurd H zca
                  ·rw [if_neg c120] at H
                   have c120b0:decide (0<x25_4)=false:=decide_eq_false c120
                   clear c120
                   have H':=Aside0.mk H
                   clear H
                   obtain ⟨Ao127,co127,eo127,_⟩:=Kd.Q_slice HO_18.out
                   subst eo127
                   have p157:0≤(x25_4:Int):=of_decide_eq_true zb
                   have q157:x25_4<(t129.length:Int):=of_decide_eq_true zb
                   obtain ⟨ad157,e157,hx157_0⟩:=Kd.at_int (Kd.Q_reads' HO_18.out).2.2 x25_4 p157 q157
                   cases e157
                   replace p157:=eq_true p157
                   replace q157:=eq_true q157
                   have p158:0≤(x25_4:Int):=of_decide_eq_true zb
                   have q158:x25_4<(t129.length:Int):=of_decide_eq_true zb
                   obtain ⟨ad158,e158,hx158_0⟩:=Kd.at_int (Kd.Q_reads' HO_18.out).2.2 x25_4 p158 q158
                   obtain rfl:ad157=ad158:=(by injection e158)
                   replace p158:=eq_true p158
                   replace q158:=eq_true q158
                   go_wp2
                   repeat (go_quiet (fail);try go_wp2)
                   go_roundg k4
                   case measure=>have:=HJ9.out;have:=HJ29.out;have:=HJ98.out;have:=HK4.out;omega
                   case rel=>exact ⟨(wrap64 (x25_4+1)),zi,H',⟨by have:=HJ9.out;have:=HJ29.out;have:=HJ98.out;have:=HK4.out;omega⟩,⟨zaj⟩,⟨zaa⟩,⟨za⟩⟩
               ·rw [if_neg c115] at H
                exact absurd H zca
              ·rw [if_neg c114] at H
               have c114b0:decide (x25_4<(t129.length:Int))=false:=decide_eq_false c114
               clear c114
               obtain ⟨ji128,hji128⟩:∃j_:Int,(wrap64 ((wrap64 ((t102.length:Int)+1)) - 1))=j_:=⟨_,rfl⟩
               replace H:(if 0≤(ji128) then (if (ji128)<(t121.length:Int) then ((impl_VersionText.f k4 ((rd_T48 t121 (ji128)).f0) ((rd_T48 t121 (ji128)).f1) ((rd_T48 t121 (ji128)).f2) ((rd_T48 t121 (ji128)).f3)).bind fun t162=>(some (t162.toList != ([]:List UInt8)))) else (none)) else (none))=some r:=by first|(rw [hji128] at H;exact H)|(simp only [hji128] at H ⊢;exact H)
               have hji128w:(IntKind.i64.wrap ((wrap64 ((t102.length:Int)+1)) - 1))=ji128:=(i64_w _).trans hji128
               by_cases c129:0≤(ji128)
               ·rw [if_pos c129] at H
                have c129b0:decide (0≤(ji128))=true:=decide_eq_true c129
                clear c129
                by_cases c130:(ji128)<(t121.length:Int)
                ·rw [if_pos c130] at H
                 have c130b0:decide ((ji128)<(t121.length:Int))=true:=decide_eq_true c130
                 clear c130
                 replace H:=Option.bind_eq_some_iff.mp H
                 obtain ⟨t162,A1310,H⟩:=H
                 replace H:(some (t162.toList != ([]:List UInt8)))=some r:=H
                 have A131:=Aside0.mk A1310
                 clear A1310
                 obtain rfl:=Option.some.inj H
                 obtain ⟨Ao132,co132,eo132,_⟩:=Kd.Q_slice HO_18.out
                 subst eo132
                 have p161:0≤((ji128):Int):=of_decide_eq_true zb
                 have q161:(ji128)<(t121.length:Int):=of_decide_eq_true zb
                 obtain ⟨ad161,A161_3,c161_3,e161,hx161_0,hx161_1,hx161_2,hx161_3,hl161_3,hi161_3⟩:=at_T48 (Kd.S_reads' HO_13.out).2.2 (ji128) p161 q161
                 cases e161
                 obtain ⟨ce161,hce161,hMe161,hcc161⟩:=Kd.S_get HO_13.out z48 (ji128) p161 (by first|exact q161|exact of_decide_eq_true zb|(have e_:=(Kd.S_reads' HO_13.out).1;omega))
                 obtain ⟨ve161_3,rfl,ge161_3⟩:=k48_openM hMe161
                 have hv161_3:=hcc161 3 _ rfl
                 rw [add_field _ _ 3 zbn] at hv161_3
                 replace hv161_3:=Option.some.inj (hv161_3.symm.trans hx161_3)
                 rw [hv161_3] at ge161_3
                 have HL161_3:=Aside0.mk (show Kd.R k57 57 _ _ _ _ ((rd_T48 t121 (ji128)).f3) from ge161_3)
                 clear hv161_3 ge161_3
                 clear hcc161 hce161
                 have HR161_3:=Aside0.mk hi161_3
                 have HC161_3:=Aside0.mk hl161_3
                 clear hi161_3 hl161_3
                 replace p161:=eq_true p161
                 replace q161:=eq_true q161
                 go_wp2_with (first|(go_at_call 19;(with_reducible refine (impl_VersionText.calls k4 ((rd_T48 t121 (ji128)).f0) ((rd_T48 t121 (ji128)).f1) ((rd_T48 t121 (ji128)).f2) _ _ ((rd_T48 t121 (ji128)).f3) t162 _ ?side3 ?side1 ?side2 A131.out).mono ?_);(case side1=>repeat (first|exact zaz|(with_reducible refine Kd.C_alloc ?_ _)|(with_reducible refine Kd.C_drewN ?_ _)|(with_reducible refine Kd.C_drew ?_)));(case side2=>exact HC161_3.out);(case side3=>exact Door1.at HD.out za);rintro e w133 ⟨rfl,hb⟩;replace HO_13:=Aside0.mk (Kd.S_below zaj hb);replace HO_18:=Aside0.mk (Kd.Q_below zaa hb);replace HL161_3:=Aside0.mk (Kd.R_below (by (with_reducible repeat (first|apply Kd.R_alloc|apply Kd.R_drewN|apply Kd.R_drew));exact HL161_3.out) hb);replace HR161_3:=Aside0.mk (Kd.C_below zaz hb);replace HB:=Aside0.mk (below_step za hb);(try clear hb);(try clear hb2);(try clear hk);(try clear hi)))
                 repeat (go_quiet (first|(go_at_call 19;(with_reducible refine (impl_VersionText.calls k4 ((rd_T48 t121 (ji128)).f0) ((rd_T48 t121 (ji128)).f1) ((rd_T48 t121 (ji128)).f2) _ _ ((rd_T48 t121 (ji128)).f3) t162 _ ?side3 ?side1 ?side2 A131.out).mono ?_);(case side1=>repeat (first|exact zaz|(with_reducible refine Kd.C_alloc ?_ _)|(with_reducible refine Kd.C_drewN ?_ _)|(with_reducible refine Kd.C_drew ?_)));(case side2=>exact HC161_3.out);(case side3=>exact Door1.at HD.out za);rintro e w133 ⟨rfl,hb⟩;replace HO_13:=Aside0.mk (Kd.S_below zaj hb);replace HO_18:=Aside0.mk (Kd.Q_below zaa hb);replace HL161_3:=Aside0.mk (Kd.R_below (by (with_reducible repeat (first|apply Kd.R_alloc|apply Kd.R_drewN|apply Kd.R_drew));exact HL161_3.out) hb);replace HR161_3:=Aside0.mk (Kd.C_below zaz hb);replace HB:=Aside0.mk (below_step za hb);(try clear hb);(try clear hb2);(try clear hk);(try clear hi)));try go_wp2_with (first|(go_at_call 19;(with_reducible refine (impl_VersionText.calls k4 ((rd_T48 t121 (ji128)).f0) ((rd_T48 t121 (ji128)).f1) ((rd_T48 t121 (ji128)).f2) _ _ ((rd_T48 t121 (ji128)).f3) t162 _ ?side3 ?side1 ?side2 A131.out).mono ?_);(case side1=>repeat (first|exact zaz|(with_reducible refine Kd.C_alloc ?_ _)|(with_reducible refine Kd.C_drewN ?_ _)|(with_reducible refine Kd.C_drew ?_)));(case side2=>exact HC161_3.out);(case side3=>exact Door1.at HD.out za);rintro e w133 ⟨rfl,hb⟩;replace HO_13:=Aside0.mk (Kd.S_below zaj hb);replace HO_18:=Aside0.mk (Kd.Q_below zaa hb);replace HL161_3:=Aside0.mk (Kd.R_below (by (with_reducible repeat (first|apply Kd.R_alloc|apply Kd.R_drewN|apply Kd.R_drew));exact HL161_3.out) hb);replace HR161_3:=Aside0.mk (Kd.C_below zaz hb);replace HB:=Aside0.mk (below_step za hb);(try clear hb);(try clear hb2);(try clear hk);(try clear hi))))
                 go_ret
                 exact ⟨by first|rfl|(generalize t153.toList=q_;cases q_<;>rfl)|(generalize t162.toList=q_;cases q_<;>rfl)|(simp [errW_none,errW_some]<;>rfl)|(simp only [←hji128];first|rfl|(simp [errW_none,errW_some]<;>rfl))|(simp [*,errW_none,errW_some]<;>rfl),za⟩
                ·rw [if_neg c130] at H
                 exact absurd H zca
               ·rw [if_neg c129] at H
                exact absurd H zca
end Go.Proofs.YtocegmkifmdlcaaDoor.P

namespace Go.Proofs.YtocegmkifmdlcaaDoorO
open Go.RowKit Go.WideShapes Go.Proofs.YtocegmkifmdlcaaDoorW.PrintWords
set_option linter.unusedVariables false
set_option linter.unusedSimpArgs false

theorem addr_add_add (a : Addr) (m i : Nat) : (a.add m).add i = a.add (m + i) := by
  unfold Addr.add
  by_cases h1 : m = 0
  · subst h1; simp
  · by_cases h2 : i = 0
    · subst h2; simp [h1]
    · have h3 : ¬ (m + i = 0) := by omega
      simp [h1, h2, Nat.add_assoc]

/-- Whatever the claim reads at this type is a value of this kind, of which G holds. -/
def Opens {α : Type} (P : Program) (t : TypeId) (d : Kd α) (G : α → Prop) : Prop :=
  ∀ (H : Type) (enc : TypeId × Value → H) (w : World) (base : Nat) (spare : Nat → Bool) (held : Bool) (fuel : Nat) (cs : List Value) (x : DataW H × List MemPlace),
    DataW.trod enc P w base spare held fuel t cs = some x → ∃ a : α, d.K w a cs ∧ G a

section
variable {α β : Type} {P : Program} {t e : TypeId} {d : Kd α} {G : α → Prop}

theorem opens_int {k : IntKind} (ht : P.underlying t = some (.int k)) : Opens P t (Kd.int k) (fun n => (Lit.int k n).wf = true) := by
  intro H enc w base spare held fuel cs x h
  obtain ⟨n, rfl, _, hw⟩ := DataW.trod_int ht h
  exact ⟨n, rfl, hw⟩
theorem list_of_each {p : Nat → α → Prop} : ∀ n : Nat, (∀ i, i < n → ∃ a, p i a) → ∃ l : List α, l.length = n ∧ ∀ i a, l[i]? = some a → p i a
  | 0, _ => ⟨[], rfl, fun i a h => by simp at h⟩
  | n + 1, h => by
    obtain ⟨l, hl, hp⟩ := list_of_each n (fun i hi => h i (by omega))
    obtain ⟨a, ha⟩ := h n (by omega)
    refine ⟨l ++ [a], by simp [hl], fun i b hb => ?_⟩
    by_cases hi : i < l.length
    · rw [List.getElem?_append_left hi] at hb
      exact hp i b hb
    · rw [List.getElem?_append_right (by omega)] at hb
      have h0 : i - l.length = 0 := by
        have := (List.getElem?_eq_some_iff.1 hb).1
        simp at this
        omega
      rw [h0] at hb
      have hi2 : i = n := by omega
      subst hi2
      simp at hb
      subst hb
      exact ha

theorem opens_slice (ht : P.underlying t = some (.slice e)) (hc : P.cellsOf e = d.sz) (hd : Opens P e d G) : Opens P t (Kd.slice e d) (fun l => l.length ≤ maxLen ∧ ∀ x ∈ l, G x) := by
  intro H enc w base spare held fuel cs x h
  rcases DataW.trod_slice ht h with ⟨rfl, _⟩ | ⟨a, len, cap, elems, rest, n, _, rfl, _, hb, hl, hm, hlen, hel, _, _⟩
  · exact ⟨[], ⟨none, 0, rfl, Nat.le_refl _, rfl, by simp, fun hp => by simp at hp⟩, by simp, by simp⟩
  · have each : ∀ i, i < len → ∃ x : α, G x ∧ ∃ c, c.length = d.sz ∧ d.K w x c ∧ ∀ j u, c[j]? = some u → w.cell? (a.add (i * d.sz + j)) = some u := by
      intro i hi
      have h1 := hel i hi
      have h2 : ∃ y, elems[i]? = some y := ⟨elems[i]'(by omega), List.getElem?_eq_getElem (by omega)⟩
      obtain ⟨y, hy⟩ := h2
      rw [hy, Option.bind_eq_some_iff] at h1
      obtain ⟨c, hcs, hy'⟩ := h1
      obtain ⟨x, hK, hG⟩ := hd H enc w base spare held n c y hy'
      refine ⟨x, hG, c, d.K_len hK, hK, fun j u hu => ?_⟩
      have hx := World.cells?_some hcs
      have hj : j < P.cellsOf e := by
        have := (List.getElem?_eq_some_iff.1 hu).1
        have := hx.2.1
        omega
      have hz := hx.2.2 j hj
      rw [addr_add_add, hc, hu] at hz
      exact hz
    obtain ⟨l, hll, hp⟩ := list_of_each len each
    refine ⟨l, ⟨some a, cap, by rw [hll], by omega, rfl, by simp only [maxLen] at hm; omega, fun _ => ⟨a, rfl, fun j p hj => ?_⟩⟩, by simp only [maxLen] at hm ⊢; omega, fun x hx => ?_⟩
    · exact (hp j p hj).2
    · obtain ⟨i, hi, hi2⟩ := List.getElem_of_mem hx
      exact (hp i x (by rw [List.getElem?_eq_getElem hi, hi2])).1

end
end Go.Proofs.YtocegmkifmdlcaaDoorO

namespace Go.Proofs.YtocegmkifmdlcaaDoor.P
open Go.RowKit Go.Proofs.YtocegmkifmdlcaaDoorW.PrintWords Go.Proofs.YtocegmkifmdlcaaDoorL
set_option linter.unusedVariables false
set_option linter.unusedSimpArgs false

def nameByte (c : Int) : Bool := (decide (97 ≤ c) && decide (c ≤ 122)) || (decide (48 ≤ c) && decide (c ≤ 57))
def nameB (s : ByteArray) : Bool := decide (1 ≤ s.size) && decide (s.size ≤ 10) && (decide (97 ≤ bt s 0) && decide (bt s 0 ≤ 122)) && (List.range s.size).all fun i => nameByte (bt s (i : Int))
theorem size_zero {s : ByteArray} : s.toList = ([] : List UInt8) ↔ s.size = 0 := by
  rw [ByteArray.toList_eq]
  constructor
  · intro h; have := congrArg List.length h; simpa using this
  · intro h
    apply List.eq_nil_of_length_eq_zero
    simpa using h
theorem l01Name_eq (s : ByteArray) {k : Nat} (hk : 20 ≤ k) : spec_l01Name.f k s = some (nameB s) := by
  obtain ⟨k, rfl⟩ : ∃ m, k = m + 1 := ⟨k - 1, by omega⟩
  unfold spec_l01Name.f nameB
  by_cases h0 : s.size = 0
  · rw [if_pos (size_zero.2 h0)]; simp [spec_l01Name.j0, h0]
  rw [if_neg (fun e => h0 (size_zero.1 e))]
  by_cases h1 : (s.size : Int) > 10
  · rw [if_pos h1]
    have : ¬ s.size ≤ 10 := by omega
    simp [spec_l01Name.j0, this]
  rw [if_neg h1, if_pos (by omega)]
  unfold spec_l01Small.f
  have h1' : s.size ≤ 10 := by omega
  have h0' : 1 ≤ s.size := by omega
  by_cases h2 : bt s 0 ≥ 97
  · rw [if_pos h2]; simp only [Option.bind_some, spec_l01Name.j0]
    by_cases h3 : bt s 0 ≤ 122
    · rw [if_neg (by simp [h3])]
      rw [all_loop (fun k i => spec_l01Name.l0 k s i) s.size (fun i => nameByte (bt s (i : Int))) true 1 (fun k i hi hB => ?_) (fun k _ => ?_) k (by omega)]
      · simp [h1', h0', h3, ge_iff_le.1 h2]
      · obtain ⟨k, rfl⟩ : ∃ m, k = m + 1 := ⟨k - 1, by omega⟩
        show spec_l01Name.l0 (k + 1 + 1) s (i : Int) = _
        rw [spec_l01Name.l0]
        rw [if_pos (by omega), if_pos (nn_cast i), wrap_succ hi (by omega)]
        unfold spec_l01Small.f spec_l01Digit.f nameByte
        by_cases e1 : bt s (i : Int) ≥ 97
        · rw [if_pos e1]
          by_cases e2 : bt s (i : Int) ≤ 122
          · simp [e2, ge_iff_le.1 e1]
          · have e3 : bt s (i : Int) ≥ 48 := by omega
            have e4 : ¬ bt s (i : Int) ≤ 57 := by omega
            simp [e2, e4, ge_iff_le.1 e3]
        · rw [if_neg e1]
          have e1' : ¬ 97 ≤ bt s (i : Int) := e1
          by_cases e2 : bt s (i : Int) ≥ 48
          · rw [if_pos e2]
            by_cases e3 : bt s (i : Int) ≤ 57
            · simp [e3, ge_iff_le.1 e2]
            · simp [e3, e1']
          · rw [if_neg e2]
            have e2' : ¬ 48 ≤ bt s (i : Int) := e2
            simp [e1', e2']
      · show spec_l01Name.l0 (_ + 1) s (s.size : Int) = _
        rw [spec_l01Name.l0, if_neg (nlt_cast _)]
    · rw [if_pos (by simp [h3])]; simp [h3]
  · rw [if_neg h2]; simp only [Option.bind_some, spec_l01Name.j0]
    have h2' : ¬ 97 ≤ bt s 0 := h2
    rw [if_pos (by rfl)]; simp [h2']

theorem IsName_eq (s : ByteArray) {k : Nat} (hk : 20 ≤ k) : impl_IsName.f k s = some (nameB s) := by
  unfold impl_IsName.f nameB
  by_cases h0 : (s.size : Int) < 1
  · rw [if_pos h0]
    have : ¬ 1 ≤ s.size := by omega
    simp [this]
  rw [if_neg h0]
  by_cases h1 : (s.size : Int) > 10
  · rw [if_pos h1]
    have : ¬ s.size ≤ 10 := by omega
    simp [this]
  rw [if_neg h1, if_pos (by omega)]
  have h1' : s.size ≤ 10 := by omega
  have h0' : 1 ≤ s.size := by omega
  by_cases h2 : bt s 0 < 97
  · rw [if_pos h2]
    have h2' : ¬ 97 ≤ bt s 0 := by omega
    simp [h2']
  rw [if_neg h2]
  by_cases h3 : bt s 0 > 122
  · rw [if_pos h3]
    have h3' : ¬ bt s 0 ≤ 122 := by omega
    simp [h3']
  rw [if_neg h3]
  have h2' : 97 ≤ bt s 0 := by omega
  have h3' : bt s 0 ≤ 122 := by omega
  unfold impl_onlyNameBytes.f
  rw [all_loop (fun k i => impl_onlyNameBytes.l0 k s (s.size : Int) i) s.size (fun i => nameByte (bt s (i : Int))) true 0 (fun k i hi hB => ?_) (fun k _ => ?_) k (by omega)]
  · simp [h1', h0', h3', h2']
  · show impl_onlyNameBytes.l0 (k + 1) s (s.size : Int) (i : Int) = _
    rw [impl_onlyNameBytes.l0]
    rw [if_pos (lt_cast hi), if_pos (nn_cast i), if_pos (lt_cast hi), wrap_succ hi (by omega)]
    unfold nameByte
    repeat' split
    all_goals first | rfl | (exfalso; simp_all; done) | (exfalso; simp_all; omega)
  · show impl_onlyNameBytes.l0 (k + 1) s (s.size : Int) (s.size : Int) = _
    rw [impl_onlyNameBytes.l0, if_neg (nlt_cast _)]

theorem in_eq (a b c : Int) : spec_l00In.f a b c = some (decide (b ≤ a) && decide (a ≤ c)) := by
  unfold spec_l00In.f
  by_cases h : a ≥ b
  · rw [if_pos h]; simp [ge_iff_le.1 h]
  · rw [if_neg h]
    have h' : ¬ b ≤ a := h
    simp [h']
theorem within_eq (a b c : Int) : impl_within.f a b c = some (decide (b ≤ a) && decide (a ≤ c)) := by
  unfold impl_within.f
  by_cases h : a ≥ b
  · rw [if_pos h]; simp [ge_iff_le.1 h]
  · rw [if_neg h]
    have h' : ¬ b ≤ a := h
    simp [h']

def settingB (x : S57) : Bool := nameB x.f0 && (decide (0 ≤ x.f1) && decide (x.f1 ≤ 1000))
def stateAt (l : List S57) (i : Nat) : Bool := settingB (rd_T57 l (i : Int)) && (decide (i = 0) || Op.bytesLess (rd_T57 l ((i - 1 : Nat) : Int)).f0.toList (rd_T57 l (i : Int)).f0.toList)
def stateB (l : List S57) : Bool := (List.range l.length).all (stateAt l) && decide (l.length ≤ 24)

theorem l27Setting_e_eq (l : List S57) (i : Int) {k : Nat} (hk : 20 ≤ k) : spec_l27Setting_e.f k l i = some (settingB (rd_T57 l i)) := by
  unfold spec_l27Setting_e.f settingB
  rw [l01Name_eq _ hk]; simp only [Option.bind_some, in_eq]
  by_cases h : nameB (rd_T57 l i).f0 = true
  · rw [if_pos h]; simp [h]
  · rw [if_neg h]; simp [h]
theorem Setting_valid_eq (x : S57) {k : Nat} (hk : 20 ≤ k) : impl_Setting_valid.f k x.f0 x.f1 = some (settingB x) := by
  unfold impl_Setting_valid.f settingB
  rw [IsName_eq _ hk]; simp only [Option.bind_some, within_eq]
  by_cases h : nameB x.f0 = true
  · rw [if_pos h]; simp [h]
  · rw [if_neg h]; simp [h]

theorem l27State_eq {l : List S57} (hl : l.length ≤ 1048576) {k : Nat} (hk : 1048600 ≤ k) : spec_l27State.f k l = some (stateB l) := by
  unfold spec_l27State.f stateB
  refine all_loop (fun k i => spec_l27State.l0 k l i) l.length (stateAt l) (decide (l.length ≤ 24)) 20 (fun k i hi hB => ?_) (fun k _ => ?_) k (by omega)
  · simp only [spec_l27State.l0]
    rw [if_pos (lt_cast hi), if_pos (nn_cast i), l27Setting_e_eq _ _ hB, wrap_succ hi (by omega)]
    simp only [Option.bind_some, stateAt]
    by_cases h : settingB (rd_T57 l (i : Int)) = true
    · rw [if_pos h]
      by_cases h0 : i = 0
      · rw [if_neg (by omega)]; simp only [h, decide_eq_true h0, Bool.true_or, Bool.and_self, if_true]
      · rw [if_pos (by omega), pred_cast (by omega) hi (by omega), if_pos (nn_cast _), if_pos (by omega)]
        simp [h, h0]
    · rw [if_neg h]; simp [h]
  · simp only [spec_l27State.l0]
    rw [if_neg (nlt_cast _)]
    congr 2
    exact propext (by omega)
theorem ValidState_eq {l : List S57} (hl : l.length ≤ 1048576) {k : Nat} (hk : 1048600 ≤ k) : impl_ValidState.f k l = some (stateB l) := by
  unfold impl_ValidState.f stateB
  by_cases h24 : (l.length : Int) > 24
  · rw [if_pos h24]
    have : ¬ l.length ≤ 24 := by omega
    simp [this]
  · rw [if_neg h24]
    have h24' : l.length ≤ 24 := by omega
    rw [decide_eq_true h24']
    refine all_loop (fun k i => impl_ValidState.l0 k l l (l.length : Int) i) l.length (stateAt l) true 20 (fun k i hi hB => ?_) (fun k _ => ?_) k (by omega)
    · simp only [impl_ValidState.l0]
      rw [if_pos (lt_cast hi), if_pos (nn_cast i), if_pos (lt_cast hi), Setting_valid_eq _ hB, wrap_succ hi (by omega)]
      simp only [Option.bind_some, stateAt]
      by_cases h : settingB (rd_T57 l (i : Int)) = true
      · rw [if_pos h]
        by_cases h0 : i = 0
        · rw [if_neg (by omega)]; simp only [h, decide_eq_true h0, Bool.true_or, Bool.and_self, if_true]
        · rw [if_pos (by omega), pred_cast (by omega) hi (by omega), if_pos (nn_cast _), if_pos (by omega)]
          simp [h, h0]
      · rw [if_neg h]; simp [h]
    · simp only [impl_ValidState.l0]
      rw [if_neg (nlt_cast _)]

theorem Ev.le {α : Type} {g : Nat → Option α} {r : α} (K : Nat) (h : ∀ k, K ≤ k → g k = some r) : Ev g r := ⟨K, h⟩
theorem Ev.const {α : Type} {x : Option α} {r : α} (h : x = some r) : Ev (fun _ => x) r := ⟨0, fun _ _ => h⟩
theorem Ev.pos {α : Type} {c : Prop} [Decidable c] {f g : Nat → Option α} {r : α} (h : c) (k : Ev f r) : Ev (fun n => if c then f n else g n) r := Ev.congr (fun _ => if_pos h) k
theorem Ev.neg {α : Type} {c : Prop} [Decidable c] {f g : Nat → Option α} {r : α} (h : ¬ c) (k : Ev g r) : Ev (fun n => if c then f n else g n) r := Ev.congr (fun _ => if_neg h) k

theorem rd_set27 {l : List S57} {i : Nat} (h : i < l.length) : rd_T57 l (i : Int) = l[i] := by simp [rd_T57, List.getD_eq_getElem?_getD, List.getElem?_eq_getElem h]
def at27 (nm : ByteArray) : Nat → List S57 → Int
  | _, [] => -1
  | n, x :: r => if x.f0.toList = nm.toList then (n : Int) else at27 nm (n + 1) r
def val27 (nm : ByteArray) : List S57 → Int × Bool
  | [] => (0, false)
  | x :: r => if x.f0.toList = nm.toList then (x.f1, true) else val27 nm r
theorem at27_ev {l : List S57} (hl : l.length ≤ 1048576) (nm : ByteArray) : Ev (fun k => spec_l27At.f k l nm) (at27 nm 0 l) := by
  unfold spec_l27At.f
  have main : ∀ (d i : Nat), i + d = l.length → Ev (fun k => spec_l27At.l0 k l nm (i : Int)) (at27 nm i (l.drop i)) := by
    intro d
    induction d with
    | zero =>
      intro i hi
      obtain rfl : i = l.length := by omega
      refine Ev.step (f := fun _ => some (-1)) (fun k => ?_) ?_
      · simp only [spec_l27At.l0]; rw [if_neg (nlt_cast _)]
      · rw [List.drop_length]; exact Ev.now _
    | succ d ih =>
      intro i hi
      have hlt : i < l.length := by omega
      rw [drop_cons hlt, at27]
      by_cases h1 : l[i].f0.toList = nm.toList
      · rw [if_pos h1]
        refine Ev.step (f := fun _ => some (i : Int)) (fun k => ?_) (Ev.now _)
        simp only [spec_l27At.l0]
        rw [if_pos (lt_cast hlt), if_pos (nn_cast i), rd_set27 hlt, if_pos h1]
      · rw [if_neg h1]
        refine Ev.step (fun k => ?_) (ih (i + 1) (by omega))
        simp only [spec_l27At.l0]
        rw [if_pos (lt_cast hlt), if_pos (nn_cast i), rd_set27 hlt, if_neg h1, wrap_succ hlt (by omega)]
  have := main l.length 0 (by omega)
  simpa using this
theorem val27_ev {l : List S57} (hl : l.length ≤ 1048576) (nm : ByteArray) : Ev (fun k => impl_valueAt.f k l nm) (val27 nm l) := by
  unfold impl_valueAt.f
  have main : ∀ (d i : Nat), i + d = l.length → Ev (fun k => impl_valueAt.l0 k nm l (l.length : Int) (i : Int)) (val27 nm (l.drop i)) := by
    intro d
    induction d with
    | zero =>
      intro i hi
      obtain rfl : i = l.length := by omega
      refine Ev.step (f := fun _ => some (0, false)) (fun k => ?_) ?_
      · simp only [impl_valueAt.l0]; rw [if_neg (nlt_cast _)]
      · rw [List.drop_length]; exact Ev.now _
    | succ d ih =>
      intro i hi
      have hlt : i < l.length := by omega
      rw [drop_cons hlt, val27]
      by_cases h1 : l[i].f0.toList = nm.toList
      · rw [if_pos h1]
        refine Ev.step (f := fun _ => some (l[i].f1, true)) (fun k => ?_) (Ev.now _)
        simp only [impl_valueAt.l0]
        rw [if_pos (lt_cast hlt), if_pos (nn_cast i), if_pos (lt_cast hlt), rd_set27 hlt, if_pos h1]
      · rw [if_neg h1]
        refine Ev.step (fun k => ?_) (ih (i + 1) (by omega))
        simp only [impl_valueAt.l0]
        rw [if_pos (lt_cast hlt), if_pos (nn_cast i), if_pos (lt_cast hlt), rd_set27 hlt, if_neg h1, wrap_succ hlt (by omega)]
  have := main l.length 0 (by omega)
  simpa using this
theorem at27_cases (nm : ByteArray) : ∀ (l : List S57) (n : Nat), (at27 nm n l = -1 ∧ val27 nm l = (0, false) ∧ ∀ x ∈ l, x.f0.toList ≠ nm.toList) ∨ ∃ (j : Nat) (h : j < l.length), at27 nm n l = ((n + j : Nat) : Int) ∧ val27 nm l = (l[j].f1, true) ∧ l[j].f0.toList = nm.toList
  | [], n => .inl ⟨rfl, rfl, by simp⟩
  | x :: r, n => by
    by_cases h : x.f0.toList = nm.toList
    · exact .inr ⟨0, by simp, by rw [at27, if_pos h]; rfl, by rw [val27, if_pos h]; rfl, h⟩
    · rcases at27_cases nm r (n + 1) with ⟨h1, h2, h3⟩ | ⟨j, hj, h1, h2, h3⟩
      · refine .inl ⟨by rw [at27, if_neg h]; exact h1, by rw [val27, if_neg h]; exact h2, fun y hy => ?_⟩
        rcases List.mem_cons.1 hy with e | hy
        · subst e; exact h
        · exact h3 y hy
      · exact .inr ⟨j + 1, by simp; omega, by rw [at27, if_neg h, h1]; congr 1; omega, by rw [val27, if_neg h, h2]; rfl, h3⟩
theorem State_impl_ev {l : List S57} (hl : l.length ≤ 1048576) : Ev (fun k => impl_ValidState.f k l) (stateB l) := Ev.le 1048600 (fun k hk => ValidState_eq hl hk)
theorem state_len {l : List S57} (h : stateB l = true) : l.length ≤ 24 := by
  unfold stateB at h; simp only [Bool.and_eq_true, decide_eq_true_iff] at h; exact h.2
end Go.Proofs.YtocegmkifmdlcaaDoor.P

namespace Go.Proofs.YtocegmkifmdlcaaDoor.P
open Go.RowKit Go.Sort Go.Proofs.YtocegmkifmdlcaaDoorW.PrintWords
set_option linter.unusedVariables false
set_option linter.unusedSimpArgs false
def ltB (a b : ByteArray) : Bool := Op.bytesLess a.toList b.toList
theorem bytesLess_eq' : ∀ (x y : List UInt8), Op.bytesLess x y = decide (x < y)
  | [], [] => by simp [Op.bytesLess]
  | _ :: _, [] => by simp [Op.bytesLess]
  | [], _ :: _ => by simp [Op.bytesLess]
  | a :: x, b :: y => by
    rw [Op.bytesLess, bytesLess_eq' x y]
    simp only [List.cons_lt_cons_iff]
    by_cases h1 : a < b <;> by_cases h2 : a = b <;> by_cases h3 : x < y <;> simp [h1, h2, h3]
theorem toList_data' (b : ByteArray) : b.toList = b.data.toList := by simp [ByteArray.toList_eq]
theorem ltB_iff {a b : ByteArray} : ltB a b = true ↔ a.data.toList < b.data.toList := by
  unfold ltB; rw [bytesLess_eq', toList_data', toList_data']; simp
theorem ba_ext {a b : ByteArray} : a.data.toList = b.data.toList ↔ a = b := by
  rw [← toList_data', ← toList_data']
  constructor
  · intro h
    have h2 : a.data.toList = b.data.toList := by rw [← toList_data', ← toList_data']; exact h
    have h3 : a.data = b.data := Array.ext' h2
    cases a; cases b; simp at h3; rw [h3]
  · intro h; rw [h]
theorem ltB_irrefl (a : ByteArray) : ¬ ltB a a = true := by rw [ltB_iff]; exact List.lt_irrefl _
theorem ltB_trans {a b c : ByteArray} (h : ltB a b = true) (h2 : ltB b c = true) : ltB a c = true := by rw [ltB_iff] at *; exact List.lt_trans h h2
theorem lt_of_le_ne {a b : List UInt8} (h : a ≤ b) (hne : a ≠ b) : a < b := Classical.byContradiction fun hn => hne (List.le_antisymm h (List.not_lt.1 hn))
theorem ltB_total {a b : ByteArray} (h : ¬ ltB a b = true) (hne : a ≠ b) : ltB b a = true := by
  rw [ltB_iff] at *
  rcases List.le_total a.data.toList b.data.toList with h1 | h1
  · exact absurd (lt_of_le_ne h1 (fun e => hne (ba_ext.1 e))) h
  · exact lt_of_le_ne h1 (fun e => hne (ba_ext.1 e).symm)
/-- Ascending, nothing twice. -/
def Asc (l : List ByteArray) : Prop := l.Pairwise fun a b => ltB a b = true
/-- The reference's putting: what is less, the name, what is greater. -/
def putG (x : ByteArray) : List ByteArray → Bool → List ByteArray
  | [], d => if d = true then [] else [x]
  | y :: r, d => (if (!d && !ltB y x) = true then [x] else []) ++ ((if y.toList = x.toList then [] else [y]) ++ putG x r (d || !ltB y x))
theorem putG_true (x : ByteArray) : ∀ l, putG x l true = l.filter fun y => decide (y.toList ≠ x.toList)
  | [] => by simp [putG]
  | y :: r => by
    rw [putG, Bool.true_or, putG_true x r]
    by_cases h : y.toList = x.toList <;> simp [h]
theorem toList_iff {a b : ByteArray} : a.toList = b.toList ↔ a = b := by rw [toList_data', toList_data']; exact ba_ext
theorem mem_putG (x : ByteArray) : ∀ l z, z ∈ putG x l false ↔ z = x ∨ z ∈ l
  | [], z => by simp [putG]
  | y :: r, z => by
    rw [putG]
    by_cases h : ltB y x = true
    · have hne : ¬ y.toList = x.toList := fun e => ltB_irrefl x (by rw [toList_iff] at e; rwa [e] at h)
      simp only [h, Bool.not_true, Bool.and_false, Bool.false_eq_true, if_false, List.nil_append, if_neg hne, Bool.or_false, List.singleton_append, List.mem_cons, mem_putG x r z]
      constructor
      · rintro (h | h | h) <;> simp [h]
      · rintro (h | h | h) <;> simp [h]
    · rw [Bool.not_eq_true] at h
      simp only [h, Bool.not_false, Bool.and_self, if_true, Bool.or_true, putG_true]
      by_cases e : y.toList = x.toList
      · have e' := toList_iff.1 e
        subst e'
        simp only [if_true, List.nil_append, List.singleton_append, List.mem_cons, List.mem_filter, decide_eq_true_iff]
        constructor
        · rintro (h | h); exact .inl h; exact .inr (.inr h.1)
        · rintro (h | h | h)
          · exact .inl h
          · exact .inl h
          · by_cases e2 : z = y
            · exact .inl e2
            · exact .inr ⟨h, fun e3 => e2 (toList_iff.1 e3)⟩
      · simp only [if_neg e, List.singleton_append, List.mem_cons, List.mem_filter, decide_eq_true_iff]
        constructor
        · rintro (h | h | h); exact .inl h; exact .inr (.inl h); exact .inr (.inr h.1)
        · rintro (h | h | h)
          · exact .inl h
          · exact .inr (.inl h)
          · by_cases e2 : z = x
            · exact .inl e2
            · exact .inr (.inr ⟨h, fun e3 => e2 (toList_iff.1 e3)⟩)
theorem asc_putG (x : ByteArray) : ∀ {l}, Asc l → Asc (putG x l false)
  | [], _ => by simp [putG, Asc]
  | y :: r, ha => by
    obtain ⟨hy, hr⟩ := List.pairwise_cons.1 ha
    rw [putG]
    by_cases h : ltB y x = true
    · have hne : ¬ y.toList = x.toList := fun e => ltB_irrefl x (by rw [toList_iff] at e; rwa [e] at h)
      simp only [h, Bool.not_true, Bool.and_false, Bool.false_eq_true, if_false, List.nil_append, if_neg hne, Bool.or_false, List.singleton_append]
      refine List.pairwise_cons.2 ⟨fun z hz => ?_, asc_putG x hr⟩
      rcases (mem_putG x r z).1 hz with e | hz
      · rw [e]; exact h
      · exact hy z hz
    · have h' := h
      rw [Bool.not_eq_true] at h'
      simp only [h', Bool.not_false, Bool.and_self, if_true, Bool.or_true, putG_true]
      have hf : Asc (r.filter fun z => decide (z.toList ≠ x.toList)) := List.Pairwise.filter _ hr
      by_cases e : y.toList = x.toList
      · have e' := toList_iff.1 e
        subst e'
        simp only [if_true, List.nil_append, List.singleton_append]
        exact List.pairwise_cons.2 ⟨fun z hz => hy z (List.mem_filter.1 hz).1, hf⟩
      · have hxy : ltB x y = true := ltB_total h (fun e2 => e (toList_iff.2 e2))
        simp only [if_neg e, List.singleton_append]
        refine List.pairwise_cons.2 ⟨fun z hz => ?_, List.pairwise_cons.2 ⟨fun z hz => hy z (List.mem_filter.1 hz).1, hf⟩⟩
        rcases List.mem_cons.1 hz with e2 | hz
        · rw [e2]; exact hxy
        · exact ltB_trans hxy (hy z (List.mem_filter.1 hz).1)
theorem putG_length (x : ByteArray) : ∀ l d, (putG x l d).length ≤ l.length + 1
  | [], d => by rw [putG]; split <;> simp
  | y :: r, d => by
    rw [putG]
    cases d with
    | true =>
      have := putG_length x r true
      simp only [Bool.not_true, Bool.false_and, Bool.false_eq_true, if_false, List.nil_append, Bool.true_or, List.length_append, List.length_cons]
      split <;> simp <;> omega
    | false =>
      by_cases h : ltB y x = true
      · have := putG_length x r false
        simp only [h, Bool.not_true, Bool.and_false, Bool.false_eq_true, if_false, List.nil_append, Bool.or_false, List.length_append, List.length_cons]
        split <;> simp <;> omega
      · rw [Bool.not_eq_true] at h
        have h1 := List.length_filter_le (fun z => decide (z.toList ≠ x.toList)) r
        simp only [h, Bool.not_false, Bool.and_self, if_true, Bool.or_true, putG_true, List.length_append, List.length_cons]
        split <;> simp at h1 ⊢ <;> omega
end Go.Proofs.YtocegmkifmdlcaaDoor.P

namespace Go.Proofs.YtocegmkifmdlcaaDoor.P
open Go.RowKit Go.Proofs.YtocegmkifmdlcaaDoorW.PrintWords Go.Proofs.YtocegmkifmdlcaaDoorL
set_option linter.unusedVariables false
set_option linter.unusedSimpArgs false
def setG (n : ByteArray) (v : Int) : List S57 → Bool → List S57
  | [], d => if d = true then [] else [⟨n, v⟩]
  | y :: r, d => (if (!d && !ltB y.f0 n) = true then [⟨n, v⟩] else []) ++ ((if y.f0.toList = n.toList then [] else [y]) ++ setG n v r (d || !ltB y.f0 n))
theorem setG_map (n : ByteArray) (v : Int) : ∀ l d, (setG n v l d).map (·.f0) = putG n (l.map (·.f0)) d
  | [], d => by cases d <;> rfl
  | y :: r, d => by
    rw [setG, List.map_cons, putG, List.map_append, List.map_append, setG_map n v r]
    congr 1
    · split <;> rfl
    · congr 1
      split <;> rfl
theorem set_main {l : List S57} (hl : l.length ≤ 1048576) (n : ByteArray) (v : Int) : ∀ (e i : Nat) (out : List S57) (d : Bool), i + e = l.length → out.length ≤ 2 * i → Ev (fun k => spec_l27Set.l0 k l out d (i : Int) n v) (out ++ setG n v (l.drop i) d) := by
  intro e
  induction e with
  | zero =>
    intro i out d hi ho
    obtain rfl : i = l.length := by omega
    rw [List.drop_length]
    cases d with
    | true => exact Ev.step (f := fun _ => some out) (fun k => by simp only [spec_l27Set.l0]; rw [if_neg (nlt_cast _), if_pos trivial]) (by simp only [setG, if_true, List.append_nil]; exact Ev.now _)
    | false => exact Ev.step (f := fun _ => some (out ++ [(⟨n, v⟩ : S57)])) (fun k => by simp only [spec_l27Set.l0]; rw [if_neg (nlt_cast _), if_neg (by decide), if_pos (by omega)]) (by simp only [setG, Bool.false_eq_true, if_false]; exact Ev.now _)
  | succ e ih =>
    intro i out d hi ho
    have hlt : i < l.length := by omega
    have hw := wrap_succ hlt (by omega)
    rw [drop_cons hlt, setG]
    have j1f : ∀ d', Ev (fun k => spec_l27Set.j1 k l out d' (i : Int) false n v) (out ++ ((if l[i].f0.toList = n.toList then [] else [l[i]]) ++ setG n v (l.drop (i + 1)) d')) := by
      intro d'
      by_cases he : l[i].f0.toList = n.toList
      · rw [if_pos he, List.nil_append]
        refine Ev.step (fun k => ?_) (ih (i + 1) out d' (by omega) (by omega))
        simp only [spec_l27Set.j1]
        rw [if_neg (by decide), if_pos (nn_cast i), if_pos (lt_cast hlt), rd_set27 hlt, if_pos he, hw]
      · rw [if_neg he]
        have := ih (i + 1) (out ++ [l[i]]) d' (by omega) (by simp; omega)
        rw [List.append_assoc] at this
        refine Ev.step (fun k => ?_) this
        simp only [spec_l27Set.j1]
        rw [if_neg (by decide), if_pos (nn_cast i), if_pos (lt_cast hlt), rd_set27 hlt, if_neg he, if_pos (by omega), hw]
    cases d with
    | true =>
      refine Ev.step (f := fun k => spec_l27Set.j1 k l out true (i : Int) false n v) (fun k => by simp only [spec_l27Set.l0]; rw [if_pos (lt_cast hlt), if_pos trivial]) ?_
      simpa using j1f true
    | false =>
      refine Ev.step (f := fun k => spec_l27Set.j1 k l out false (i : Int) (!(ltB l[i].f0 n)) n v) (fun k => by simp only [spec_l27Set.l0]; rw [if_pos (lt_cast hlt), if_neg (by decide), if_pos (nn_cast i), rd_set27 hlt]; rfl) ?_
      cases hb : ltB l[i].f0 n with
      | true => simpa using j1f false
      | false =>
        show Ev (fun k => spec_l27Set.j1 k l out false (i : Int) true n v) (out ++ ([⟨n, v⟩] ++ ((if l[i].f0.toList = n.toList then [] else [l[i]]) ++ setG n v (l.drop (i + 1)) true)))
        rw [← List.append_assoc]
        by_cases he : l[i].f0.toList = n.toList
        · rw [if_pos he, List.nil_append]
          refine Ev.step (fun k => ?_) (ih (i + 1) (out ++ [⟨n, v⟩]) true (by omega) (by simp; omega))
          simp only [spec_l27Set.j1]
          rw [if_pos trivial, if_pos (by omega), Option.bind_some, if_pos (nn_cast i), if_pos (lt_cast hlt), rd_set27 hlt, if_pos he, hw]
        · rw [if_neg he]
          have := ih (i + 1) (out ++ [⟨n, v⟩] ++ [l[i]]) true (by omega) (by simp; omega)
          rw [List.append_assoc (out ++ [(⟨n, v⟩ : S57)]) [l[i]]] at this
          refine Ev.step (fun k => ?_) this
          simp only [spec_l27Set.j1]
          rw [if_pos trivial, if_pos (by omega), Option.bind_some, if_pos (nn_cast i), if_pos (lt_cast hlt), rd_set27 hlt, if_neg he, if_pos (by simp; omega), hw]
theorem set_ev {l : List S57} (hl : l.length ≤ 1048576) (n : ByteArray) (v : Int) : Ev (fun k => spec_l27Set.f k l n v) (setG n v l false) := by
  have := set_main hl n v l.length 0 [] false (by omega) (by simp)
  rw [List.nil_append, List.drop_zero] at this
  exact this

theorem state_at {l : List S57} (h : stateB l = true) {i : Nat} (hi : i < l.length) : settingB l[i] = true ∧ (i = 0 ∨ ltB (l[i - 1]'(by omega)).f0 l[i].f0 = true) := by
  unfold stateB at h
  simp only [Bool.and_eq_true, List.all_eq_true, List.mem_range, decide_eq_true_iff] at h
  have := h.1 i hi
  unfold stateAt at this
  rw [rd_set27 hi, rd_set27 (show i - 1 < l.length by omega)] at this
  simp only [Bool.and_eq_true, Bool.or_eq_true, decide_eq_true_iff] at this
  exact this
theorem state_asc {l : List S57} (h : stateB l = true) : Asc (l.map (·.f0)) := by
  unfold Asc
  rw [List.pairwise_map, List.pairwise_iff_getElem]
  intro i j hi hj hij
  induction j with
  | zero => omega
  | succ j ih =>
    have h1 := ((state_at h hj).2).resolve_left (by omega)
    simp only [Nat.add_sub_cancel] at h1
    by_cases e : i = j
    · subst e; exact h1
    · exact ltB_trans (ih (by omega) (by omega)) h1
theorem state_setting {l : List S57} (h : stateB l = true) : ∀ x ∈ l, settingB x = true := by
  intro x hx
  obtain ⟨i, hi, rfl⟩ := List.getElem_of_mem hx
  exact (state_at h hi).1
theorem state_of {l : List S57} (h1 : Asc (l.map (·.f0))) (h2 : ∀ x ∈ l, settingB x = true) (h3 : l.length ≤ 24) : stateB l = true := by
  unfold stateB
  simp only [Bool.and_eq_true, List.all_eq_true, List.mem_range, decide_eq_true_iff]
  refine ⟨fun i hi => ?_, h3⟩
  unfold stateAt
  rw [rd_set27 hi, rd_set27 (show i - 1 < l.length by omega), h2 _ (List.getElem_mem hi), Bool.true_and]
  simp only [Bool.or_eq_true, decide_eq_true_iff]
  by_cases e : i = 0
  · exact .inl e
  · right
    unfold Asc at h1
    rw [List.pairwise_map, List.pairwise_iff_getElem] at h1
    exact h1 (i - 1) i (by omega) hi (by omega)
theorem val_mem : ∀ {l : List S57}, Asc (l.map (·.f0)) → ∀ x ∈ l, val27 x.f0 l = (x.f1, true)
  | [], _, x, hx => by cases hx
  | y :: r, ha, x, hx => by
    obtain ⟨hy, hr⟩ := List.pairwise_cons.1 ha
    rcases List.mem_cons.1 hx with e | hx
    · subst e; rw [val27, if_pos rfl]
    · have hlt : ltB y.f0 x.f0 = true := hy x.f0 (List.mem_map.2 ⟨x, hx, rfl⟩)
      rw [val27, if_neg (fun e => ltB_irrefl x.f0 (by rw [toList_iff] at e; rwa [e] at hlt))]
      exact val_mem hr x hx

theorem rd_iVersion {l : List S48} {i : Nat} (h : i < l.length) : rd_T48 l (i : Int) = l[i] := by simp [rd_T48, List.getD_eq_getElem?_getD, List.getElem?_eq_getElem h]
def memoB (s : ByteArray) : Bool := (List.range s.size).all (fun i => decide (32 ≤ bt s (i : Int)) && decide (bt s (i : Int) ≤ 126)) && decide (s.size ≤ 20)
def versionAt (l : List S48) (i : Nat) : Bool := decide ((rd_T48 l (i : Int)).f0 = (i : Int) + 1) && (decide (0 ≤ (rd_T48 l (i : Int)).f1) && decide ((rd_T48 l (i : Int)).f1 ≤ (i : Int))) && memoB (rd_T48 l (i : Int)).f2 && stateB (rd_T48 l (i : Int)).f3
def historyB (l : List S48) : Bool := (List.range l.length).all (versionAt l) && decide (l.length ≤ 32)

theorem l27Memo_eq {s : ByteArray} (hs : s.size ≤ 1048576) {k : Nat} (hk : 1048600 ≤ k) : spec_l27Memo.f k s = some (memoB s) := by
  unfold spec_l27Memo.f memoB
  refine all_loop (fun k i => spec_l27Memo.l0 k s i) s.size _ _ 0 (fun k i hi hB => ?_) (fun k _ => ?_) k (by omega)
  · simp only [spec_l27Memo.l0]
    rw [if_pos (lt_cast hi), if_pos (nn_cast i), wrap_succ hi (by omega)]
    by_cases h1 : bt s (i : Int) < 32
    · have : ¬ 32 ≤ bt s (i : Int) := by omega
      rw [if_pos h1]; simp [this]
    · have h1' : 32 ≤ bt s (i : Int) := by omega
      rw [if_neg h1]
      by_cases h2 : bt s (i : Int) > 126
      · have : ¬ bt s (i : Int) ≤ 126 := by omega
        rw [if_pos h2]; simp [this]
      · have h2' : bt s (i : Int) ≤ 126 := by omega
        rw [if_neg h2]; simp [h1', h2']
  · simp only [spec_l27Memo.l0]
    rw [if_neg (nlt_cast _)]
    congr 2
    exact propext (by omega)
theorem memoValid_eq (s : ByteArray) {k : Nat} (hk : 1048600 ≤ k) : impl_memoValid.f k s = some (memoB s) := by
  unfold impl_memoValid.f memoB
  by_cases h : (s.size : Int) ≤ 20
  · rw [if_pos h]
    have h' : s.size ≤ 20 := by omega
    unfold impl_bytesWithin.f
    rw [all_loop (fun k i => impl_bytesWithin.l0 k s 32 126 (s.size : Int) i) s.size (fun i => decide (32 ≤ bt s (i : Int)) && decide (bt s (i : Int) ≤ 126)) true 0 (fun k i hi hB => ?_) (fun k _ => ?_) k (by omega)]
    · simp [h']
    · simp only [impl_bytesWithin.l0]
      rw [if_pos (lt_cast hi), if_pos (nn_cast i), if_pos (lt_cast hi), wrap_succ hi (by omega)]
      by_cases h1 : bt s (i : Int) < 32
      · have : ¬ 32 ≤ bt s (i : Int) := by omega
        rw [if_pos h1]; simp [this]
      · have h1' : 32 ≤ bt s (i : Int) := by omega
        rw [if_neg h1]
        by_cases h2 : bt s (i : Int) > 126
        · have : ¬ bt s (i : Int) ≤ 126 := by omega
          rw [if_pos h2]; simp [this]
        · have h2' : bt s (i : Int) ≤ 126 := by omega
          rw [if_neg h2]; simp [h1', h2']
    · simp only [impl_bytesWithin.l0]
      rw [if_neg (nlt_cast _)]
  · rw [if_neg h]
    have h' : ¬ s.size ≤ 20 := by omega
    simp [h']

/-- Within the sizes that the laws let in. -/
def okV (x : S48) : Prop := x.f2.size ≤ 1048576 ∧ x.f3.length ≤ 1048576
theorem versionAt_eq {l : List S48} {i : Nat} : versionAt l i = (decide ((rd_T48 l (i : Int)).f0 = (i : Int) + 1) && (decide (0 ≤ (rd_T48 l (i : Int)).f1) && decide ((rd_T48 l (i : Int)).f1 ≤ (i : Int))) && memoB (rd_T48 l (i : Int)).f2 && stateB (rd_T48 l (i : Int)).f3) := rfl
theorem l27Ok_eq {l : List S48} (hl : l.length ≤ 1048576) (hs : ∀ y ∈ l, okV y) {k : Nat} (hk : 2097200 ≤ k) : spec_l27Ok.f k l = some (historyB l) := by
  unfold spec_l27Ok.f historyB
  refine all_loop (fun k i => spec_l27Ok.l0 k l i) l.length (versionAt l) _ 1048600 (fun k i hi hB => ?_) (fun k _ => ?_) k (by omega)
  · have ho := hs l[i] (List.getElem_mem hi)
    have hr := rd_iVersion hi
    simp only [spec_l27Ok.l0, versionAt_eq, hr]
    rw [if_pos (lt_cast hi), if_pos (nn_cast i), wrap_succ hi (by omega)]
    rw [in_eq, l27Memo_eq ho.1 hB, l27State_eq ho.2 hB]
    simp only [Option.bind_some]
    by_cases h1 : l[i].f0 = ((i + 1 : Nat) : Int)
    · have h1' : l[i].f0 = (i : Int) + 1 := by omega
      rw [if_pos h1, decide_eq_true h1']
      by_cases h2 : (decide (0 ≤ l[i].f1) && decide (l[i].f1 ≤ (i : Int))) = true
      · rw [if_pos h2, h2]
        by_cases h3 : memoB l[i].f2 = true
        · rw [if_pos h3, h3]
          by_cases h4 : stateB l[i].f3 = true
          · rw [if_pos h4, h4]; simp
          · rw [if_neg h4]; simp [h4]
        · rw [if_neg h3]; simp [h3]
      · rw [if_neg h2]; rw [Bool.not_eq_true] at h2; rw [h2]; simp
    · have h1' : ¬ l[i].f0 = (i : Int) + 1 := by omega
      rw [if_neg h1, decide_eq_false h1']; simp
  · simp only [spec_l27Ok.l0]
    rw [if_neg (nlt_cast _)]
    congr 2
    exact propext (by omega)
theorem ValidHistory_eq {l : List S48} (hl : l.length ≤ 1048576) (hs : ∀ y ∈ l, okV y) {k : Nat} (hk : 2097200 ≤ k) : impl_ValidHistory.f k l = some (historyB l) := by
  unfold impl_ValidHistory.f historyB
  by_cases h32 : (l.length : Int) > 32
  · rw [if_pos h32]
    have : ¬ l.length ≤ 32 := by omega
    simp [this]
  rw [if_neg h32]
  have h32' : l.length ≤ 32 := by omega
  rw [decide_eq_true h32']
  refine all_loop (fun k i => impl_ValidHistory.l0 k l (l.length : Int) i) l.length (versionAt l) true 1048600 (fun k i hi hB => ?_) (fun k _ => ?_) k (by omega)
  · have ho := hs l[i] (List.getElem_mem hi)
    have hr := rd_iVersion hi
    simp only [impl_ValidHistory.l0, versionAt_eq, hr]
    rw [if_pos (lt_cast hi), if_pos (nn_cast i), if_pos (lt_cast hi), wrap_succ hi (by omega)]
    rw [within_eq, memoValid_eq _ hB, ValidState_eq ho.2 hB]
    simp only [Option.bind_some]
    by_cases h1 : l[i].f0 = ((i + 1 : Nat) : Int)
    · have h1' : l[i].f0 = (i : Int) + 1 := by omega
      rw [if_pos h1, decide_eq_true h1']
      by_cases h2 : (decide (0 ≤ l[i].f1) && decide (l[i].f1 ≤ (i : Int))) = true
      · rw [if_pos h2, h2]
        by_cases h3 : memoB l[i].f2 = true
        · rw [if_pos h3, h3]
          by_cases h4 : stateB l[i].f3 = true
          · rw [if_pos h4, h4]; simp
          · rw [if_neg h4]; simp [h4]
        · rw [if_neg h3]; simp [h3]
      · rw [if_neg h2]; rw [Bool.not_eq_true] at h2; rw [h2]; simp
    · have h1' : ¬ l[i].f0 = (i : Int) + 1 := by omega
      rw [if_neg h1, decide_eq_false h1']; simp
  · simp only [impl_ValidHistory.l0]
    rw [if_neg (nlt_cast _)]
theorem Index_int64_some {l : List Int} (hl : l.length ≤ 1048576) (n : Int) {k : Nat} (hk : l.length + 2 ≤ k) : ∃ r, slices_Index_S_int64.f k l n = some r ∧ (r ≥ 0 ↔ n ∈ l) := by
  unfold slices_Index_S_int64.f
  have main : ∀ (d k i : Nat), i + d = l.length → d < k → ∃ r, slices_Index_S_int64.l0 k l n (l.length : Int) (i : Int) = some r ∧ (r ≥ 0 ↔ n ∈ l.drop i) := by
    intro d
    induction d with
    | zero =>
      intro k i hi hk
      obtain ⟨k, rfl⟩ : ∃ m, k = m + 1 := ⟨k - 1, by omega⟩
      obtain rfl : i = l.length := by omega
      simp only [slices_Index_S_int64.l0]
      rw [if_neg (nlt_cast _)]
      exact ⟨-1, rfl, by simp⟩
    | succ d ih =>
      intro k i hi hk
      obtain ⟨k, rfl⟩ : ∃ m, k = m + 1 := ⟨k - 1, by omega⟩
      have hlt : i < l.length := by omega
      simp only [slices_Index_S_int64.l0]
      rw [if_pos (lt_cast hlt), if_pos (nn_cast i), if_pos (lt_cast hlt), rd_get hlt, wrap_succ hlt (by omega), drop_cons hlt]
      by_cases h : n = l[i]
      · rw [if_pos h]; exact ⟨_, rfl, by rw [h]; exact ⟨fun _ => List.mem_cons_self, fun _ => by omega⟩⟩
      · rw [if_neg h]
        obtain ⟨r, hr, h2⟩ := ih k (i + 1) (by omega) (by omega)
        exact ⟨r, hr, by rw [h2, List.mem_cons]; exact ⟨.inr, fun h' => h'.resolve_left h⟩⟩
  have := main l.length k 0 (by omega) (by omega)
  simpa using this
theorem Contains_int64_eq {l : List Int} (hl : l.length ≤ 1048576) (n : Int) {k : Nat} (hk : l.length + 2 ≤ k) : slices_Contains_S_int64.f k l n = some (decide (n ∈ l)) := by
  unfold slices_Contains_S_int64.f
  obtain ⟨r, hr, h⟩ := Index_int64_some hl n hk
  rw [hr]; simp only [Option.bind_some]
  congr 2
  exact propext h
def par (l : List S48) (n : Int) : Int := (rd_T48 l (n - 1)).f1
def lineL (l : List S48) : Nat → Int → List Int
  | 0, _ => []
  | d + 1, n => if n ≤ 0 then [] else n :: lineL l d (par l n)
theorem history_facts {l : List S48} (h : historyB l = true) : l.length ≤ 32 ∧ ∀ n : Int, 1 ≤ n → n ≤ l.length → 0 ≤ par l n ∧ par l n ≤ n - 1 := by
  unfold historyB at h
  simp only [Bool.and_eq_true, decide_eq_true_eq, List.all_eq_true, List.mem_range] at h
  refine ⟨h.2, fun n h1 h2 => ?_⟩
  have := h.1 (n - 1).toNat (by omega)
  unfold versionAt at this
  simp only [Bool.and_eq_true, decide_eq_true_eq] at this
  rw [Int.toNat_of_nonneg (by omega)] at this
  exact this.1.1.2
theorem lineL_length (l : List S48) : ∀ d n, (lineL l d n).length ≤ d
  | 0, _ => by simp [lineL]
  | d + 1, n => by
    unfold lineL
    split
    · simp
    · have := lineL_length l d (par l n); simp; omega
theorem lineOf_l0 {l : List S48} (h : historyB l = true) : ∀ (d k : Nat) (n : Int) (acc : List Int), 0 ≤ n → n ≤ d → n ≤ l.length → d < k → acc.length + d ≤ 1000 → impl_lineOf.l0 k l n acc = some (acc ++ lineL l d n) := by
  obtain ⟨_, hp⟩ := history_facts h
  intro d
  induction d with
  | zero =>
    intro k n acc h0 h1 h2 hk ha
    obtain ⟨k, rfl⟩ : ∃ m, k = m + 1 := ⟨k - 1, by omega⟩
    simp only [impl_lineOf.l0]
    rw [if_neg (by omega)]; simp [lineL]
  | succ d ih =>
    intro k n acc h0 h1 h2 hk ha
    obtain ⟨k, rfl⟩ : ∃ m, k = m + 1 := ⟨k - 1, by omega⟩
    simp only [impl_lineOf.l0, lineL]
    by_cases hn : n > 0
    · have hpn := hp n (by omega) h2
      rw [if_pos hn, if_pos (by omega), wrap_id (x := n - 1) (by omega) (by omega), if_pos (by omega), if_pos (by omega), if_neg (by omega)]
      show impl_lineOf.l0 k l (par l n) (acc ++ [n]) = _
      rw [ih k (par l n) _ (by omega) (by omega) (by omega) (by omega) (by simp; omega)]
      simp
    · rw [if_neg hn, if_pos (by omega)]; simp
theorem lineOf_eq {l : List S48} (h : historyB l = true) {n : Int} (h0 : 0 ≤ n) (h2 : n ≤ l.length) {k : Nat} (hk : 100 ≤ k) : impl_lineOf.f k l n = some (lineL l 40 n) := by
  unfold impl_lineOf.f
  have := (history_facts h).1
  rw [lineOf_l0 h 40 k n [] h0 (by omega) h2 (by omega) (by simp)]; simp
theorem line_cons {l : List S48} {n : Int} (h : 0 < n) : lineL l 40 n = n :: (lineL l 40 n).tail := by
  rw [lineL, if_neg (by omega)]; rfl
def commonL (l : List S48) (a b : Int) : Int := ((lineL l 40 a).find? fun x => decide (x ∈ lineL l 40 b)).getD 0
theorem commonAncestor_eq {l : List S48} (h : historyB l = true) {a b : Int} (ha : 1 ≤ a) (ha2 : a ≤ l.length) (hb : 1 ≤ b) (hb2 : b ≤ l.length) {k : Nat} (hk : 200 ≤ k) : impl_commonAncestor.f k l a b = some (commonL l a b) := by
  have l1 := lineL_length l 40 a
  have l2 := lineL_length l 40 b
  unfold impl_commonAncestor.f
  rw [lineOf_eq h (by omega) ha2 (by omega), lineOf_eq h (by omega) hb2 (by omega)]
  simp only [Option.bind_some]
  unfold commonL
  generalize lineL l 40 a = A at *
  generalize lineL l 40 b = B at *
  refine list_loop0 (fun k i => impl_commonAncestor.l0 k B A (A.length : Int) i) A (fun r => (r.find? fun x => decide (x ∈ B)).getD 0) 50 (fun k i hi hB => ?_) (fun k => ?_) k (by omega)
  · simp only [impl_commonAncestor.l0]
    rw [if_pos (lt_cast hi), if_pos (nn_cast i), if_pos (lt_cast hi), rd_get hi, wrap_succ hi (by omega), Contains_int64_eq (by omega) _ (by omega)]
    simp only [Option.bind_some, decide_eq_true_eq]
    by_cases hm : A[i] ∈ B
    · rw [if_pos hm]; left
      rw [List.find?_cons_of_pos (by simpa using hm)]; rfl
    · rw [if_neg hm]; right
      rw [List.find?_cons_of_neg (by simpa using hm)]; exact ⟨rfl, rfl⟩
  · simp only [impl_commonAncestor.l0]
    rw [if_neg (nlt_cast _)]; rfl
theorem allWithin_eq (l : List Int) (a b : Int) : impl_allWithin.f l a b = some (l.all fun n => decide (a ≤ n) && decide (n ≤ b)) := by
  unfold impl_allWithin.f
  congr 1
  induction l with
  | nil => rfl
  | cons x r ih =>
    simp only [List.any_cons, List.all_cons, Bool.not_or, ih, impl_allWithin.p, Bool.not_not]
theorem versionsCode_eq {l : List S48} (hl : l.length ≤ 1048576) (hs : ∀ y ∈ l, okV y) (ns : List Int) {k : Nat} (hk : 2097200 ≤ k) :
    impl_versionsCode.f k l ns = some (if historyB l = true then (if (ns.all fun n => decide (1 ≤ n) && decide (n ≤ (l.length : Int))) = true then 0 else 3) else 1) := by
  unfold impl_versionsCode.f
  rw [ValidHistory_eq hl hs hk]
  simp only [Option.bind_some, allWithin_eq]
  split
  · split <;> rfl
  · rfl

def Bts (l : List Int) : Prop := ∀ y ∈ l, 0 ≤ y ∧ y ≤ 255
theorem and_bound (x : Int) : 0 ≤ wrap64 (Go.bits .and .u64 (IntKind.u64.wrap x / 1099511627776) 255) ∧ wrap64 (Go.bits .and .u64 (IntKind.u64.wrap x / 1099511627776) 255) ≤ 255 := by
  rw [IntKind.wrap_u64]
  obtain ⟨n, hn⟩ : ∃ n : Nat, (x % 18446744073709551616) / 1099511627776 = (n : Int) := ⟨((x % 18446744073709551616) / 1099511627776).toNat, by omega⟩
  rw [hn, show (255 : Int) = ((255 : Nat) : Int) from rfl, u64_and_nat n 255 (by omega) (by omega)]
  have h : n &&& 255 ≤ 255 := Nat.and_le_right
  rw [wrap_id (by omega) (by omega)]
  omega
/-- A drawer's answer: within P, and the place has not run far. -/
def Dr {α : Type} (r : Option (α × Int × Int)) (P : α → Prop) (B : Int) : Prop := ∃ v i s, r = some (v, i, s) ∧ P v ∧ 0 ≤ i ∧ i ≤ B
theorem next_ok {l : List Int} (hl : Bts l) {i : Int} (s : Int) {B : Int} (h0 : 0 ≤ i) (h1 : i ≤ B) (hB : B ≤ 4000000000) : Dr (spec_l00Src_next.f l i s) (fun v => 0 ≤ v ∧ v ≤ 255) (B + 1) := by
  unfold spec_l00Src_next.f
  rw [wrap_id (x := i + 1) (by omega) (by omega)]
  by_cases h : i < (l.length : Int)
  · obtain ⟨n, rfl⟩ : ∃ n : Nat, i = (n : Int) := ⟨i.toNat, by omega⟩
    have hlt : n < l.length := by omega
    have hb := hl l[n] (List.getElem_mem hlt)
    rw [if_pos h, if_pos h0, if_pos (by omega), rd_get hlt, wrap_id (x := l[n]) (by omega) (by omega)]
    exact ⟨_, _, _, rfl, hb, by omega, by omega⟩
  · rw [if_neg h, if_neg (by omega)]
    exact ⟨_, _, _, rfl, and_bound _, by omega, by omega⟩
theorem pick_ok {l : List Int} (hl : Bts l) {i : Int} (s : Int) {B : Int} (h0 : 0 ≤ i) (h1 : i ≤ B) (hB : B ≤ 4000000000) {n : Int} (n0 : 1 ≤ n) (n1 : n ≤ 200) : Dr (spec_l00Src_pick.f l i s n) (fun v => 0 ≤ v ∧ v < n) (B + 1) := by
  unfold spec_l00Src_pick.f
  by_cases h : n ≤ 1
  · rw [if_pos h]; exact ⟨_, _, _, rfl, by omega, h0, by omega⟩
  rw [if_neg h]
  obtain ⟨v, j, t, e, ⟨v0, v1⟩, j0, j1⟩ := next_ok hl s h0 h1 hB
  rw [e]; simp only [Option.bind_some]
  rw [if_neg (by omega), if_neg (by omega)]
  refine ⟨_, _, _, rfl, ⟨?_, ?_⟩, j0, j1⟩
  · rw [Int.tmod_eq_emod_of_nonneg v0]; exact Int.emod_nonneg _ (by omega)
  · rw [Int.tmod_eq_emod_of_nonneg v0]; exact Int.emod_lt_of_pos _ (by omega)
theorem pickL_ok {l : List Int} (hl : Bts l) {i : Int} (s : Int) {B : Int} (h0 : 0 ≤ i) (h1 : i ≤ B) (hB : B ≤ 3000000000) {n : Int} (n0 : 200 < n) (n1 : n ≤ 65536) : Dr (spec_l00Src_pick.f l i s n) (fun v => 0 ≤ v ∧ v < n) (B + 2) := by
  unfold spec_l00Src_pick.f
  rw [if_neg (by omega)]
  obtain ⟨v, j, t, e, ⟨v0, v1⟩, j0, j1⟩ := next_ok hl s h0 h1 (by omega)
  rw [e]; simp only [Option.bind_some]
  rw [if_pos (by omega)]
  obtain ⟨u, q, t2, e2, ⟨u0, u1⟩, q0, q1⟩ := next_ok hl t j0 j1 (by omega)
  rw [e2]; simp only [Option.bind_some]
  rw [if_neg (by omega), wrap_id (x := v * 256) (by omega) (by omega), wrap_id (by omega) (by omega)]
  refine ⟨_, _, _, rfl, ⟨?_, ?_⟩, q0, by omega⟩
  · rw [Int.tmod_eq_emod_of_nonneg (by omega)]; exact Int.emod_nonneg _ (by omega)
  · rw [Int.tmod_eq_emod_of_nonneg (by omega)]; exact Int.emod_lt_of_pos _ (by omega)
theorem one_ok {l : List Int} (hl : Bts l) {i : Int} (s : Int) {B : Int} (h0 : 0 ≤ i) (h1 : i ≤ B) (hB : B ≤ 4000000000) {n : Int} (n0 : 1 ≤ n) (n1 : n ≤ 200) : Dr (spec_l00Src_one.f l i s n) (fun _ => True) (B + 1) := by
  unfold spec_l00Src_one.f
  obtain ⟨v, j, t, e, _, j0, j1⟩ := pick_ok hl s h0 h1 hB n0 n1
  rw [e]
  exact ⟨_, _, _, rfl, trivial, j0, j1⟩
theorem text_ok {l : List Int} (hl : Bts l) {i : Int} (s : Int) {B : Int} (h0 : 0 ≤ i) (h1 : i ≤ B) (hB : B ≤ 4000000000) {c : List ByteArray} (n0 : 1 ≤ c.length) (n1 : c.length ≤ 200) : Dr (spec_l00Src_text.f l i s c) (fun v => v ∈ c) (B + 1) := by
  unfold spec_l00Src_text.f
  obtain ⟨v, j, t, e, ⟨v0, v1⟩, j0, j1⟩ := pick_ok hl s h0 h1 hB (n := (c.length : Int)) (by omega) (by omega)
  rw [e]; simp only [Option.bind_some]
  rw [if_pos v0, if_pos v1]
  obtain ⟨m, rfl⟩ : ∃ m : Nat, v = (m : Int) := ⟨v.toNat, by omega⟩
  have hm : m < c.length := by omega
  refine ⟨_, _, _, rfl, ?_, j0, j1⟩
  simp only [rdOf, Int.toNat_natCast, List.getD_eq_getElem?_getD, List.getElem?_eq_getElem hm, Option.getD_some]
  exact List.getElem_mem hm
/-- A drawer that wants rounds. -/
def DrE {α : Type} (g : Nat → Option (α × Int × Int)) (P : α → Prop) (B : Int) : Prop := ∃ v i s, Ev g (v, i, s) ∧ P v ∧ 0 ≤ i ∧ i ≤ B
def St (l : List S57) (n : Nat) : Prop := Asc (l.map (·.f0)) ∧ (∀ x ∈ l, settingB x = true) ∧ l.length ≤ n
theorem St.valid {l : List S57} {n : Nat} (h : St l n) (hn : n ≤ 24) : stateB l = true := state_of h.1 h.2.1 (by have := h.2.2; omega)
def nm5 : List ByteArray := [⟨#[97]⟩, ⟨#[98]⟩, ⟨#[99]⟩, ⟨#[100]⟩, ⟨#[101]⟩]
def nm6 : List ByteArray := [⟨#[97]⟩, ⟨#[98]⟩, ⟨#[99]⟩, ⟨#[100]⟩, ⟨#[101]⟩, ⟨#[102]⟩]
theorem nm5_asc : Asc nm5 := by
  unfold nm5 Asc
  simp only [List.pairwise_cons, List.mem_cons, List.not_mem_nil, ltB_iff, or_false]
  refine ⟨?_, ?_, ?_, ?_, fun _ h => h.elim, List.Pairwise.nil⟩
  · rintro a (rfl | rfl | rfl | rfl) <;> decide
  · rintro a (rfl | rfl | rfl) <;> decide
  · rintro a (rfl | rfl) <;> decide
  · rintro a rfl; decide
theorem nm56 : ∀ x ∈ nm5, x ∈ nm6 := by
  intro x hx
  unfold nm5 at hx
  unfold nm6
  simp only [List.mem_cons, List.not_mem_nil, or_false] at hx ⊢
  rcases hx with h | h | h | h | h <;> simp [h]
theorem name6 : ∀ x ∈ nm6, nameB x = true := by
  intro x hx
  unfold nm6 at hx
  simp only [List.mem_cons, List.not_mem_nil, or_false] at hx
  rcases hx with rfl | rfl | rfl | rfl | rfl | rfl <;> decide
theorem drawState_l0 {l : List Int} (hl : Bts l) : ∀ (e n : Nat) (acc : List S57) (i s B : Int), n + e = 5 → (acc.map (·.f0)).Sublist (nm5.take n) → (∀ x ∈ acc, settingB x = true) → 0 ≤ i → i ≤ B → B + 3 * e ≤ 1000000 → DrE (fun k => spec_l27DrawState.l0 k nm5 acc (n : Int) l i s) (fun v => St v 5) (B + 3 * e) := by
  intro e
  induction e with
  | zero =>
    intro n acc i s B hn hsub hset h0 h1 hB
    obtain rfl : n = 5 := by omega
    refine ⟨acc, i, s, Ev.step (f := fun _ => some (acc, i, s)) (fun k => by simp only [spec_l27DrawState.l0]; rw [if_neg (by decide)]) (Ev.now _), ⟨nm5_asc.sublist hsub, hset, ?_⟩, h0, by omega⟩
    have := hsub.length_le
    simpa [nm5] using this
  | succ e ih =>
    intro n acc i s B hn hsub hset h0 h1 hB
    have hlen : n < nm5.length := by show n < 5; omega
    have hr : rdOf ByteArray.empty nm5 (n : Int) = nm5[n] := by simp [rdOf, List.getD_eq_getElem?_getD, List.getElem?_eq_getElem hlen]
    have hw := wrap_succ hlen (by show 5 ≤ _; omega)
    have hal : acc.length ≤ 5 := by
      have := hsub.length_le
      simp only [List.length_map, List.length_take] at this; omega
    have hst : nm5.take (n + 1) = nm5.take n ++ [nm5[n]] := by rw [List.take_add_one, List.getElem?_eq_getElem hlen]; rfl
    obtain ⟨b, j, t, e1, _, j0, j1⟩ := one_ok hl s h0 h1 (by omega) (n := 2) (by omega) (by omega)
    cases b with
    | false =>
      obtain ⟨v, q, u, e2, hv, q0, q1⟩ := ih (n + 1) acc j t (B + 1) (by omega) (by rw [hst]; exact hsub.trans (List.sublist_append_left _ _)) hset j0 j1 (by omega)
      refine ⟨v, q, u, Ev.step (fun k => ?_) e2, hv, q0, by omega⟩
      simp only [spec_l27DrawState.l0]
      rw [if_pos (by omega), e1, Option.bind_some, if_neg (by simp), hw]
    | true =>
      obtain ⟨p, j2, t2, e3, ⟨p0, p1⟩, j20, j21⟩ := pickL_ok hl t j0 j1 (by omega) (n := 1001) (by omega) (by omega)
      have hmem : nm5[n] ∈ nm6 := nm56 _ (List.getElem_mem hlen)
      obtain ⟨v, q, u, e2, hv, q0, q1⟩ := ih (n + 1) (acc ++ [⟨nm5[n], p⟩]) j2 t2 (B + 3) (by omega) (by
        rw [hst, List.map_append]
        exact hsub.append (List.Sublist.refl _)) (fun x hx => by
        rcases List.mem_append.1 hx with h | h
        · exact hset x h
        · rw [List.mem_singleton.1 h]
          unfold settingB
          rw [name6 _ hmem]
          simp only [Bool.true_and, Bool.and_eq_true, decide_eq_true_iff]
          omega) j20 (by omega) (by omega)
      refine ⟨v, q, u, Ev.step (fun k => ?_) e2, hv, q0, by omega⟩
      simp only [spec_l27DrawState.l0]
      rw [if_pos (by omega), e1, Option.bind_some, if_pos rfl, if_pos (nn_cast n), if_pos (lt_cast hlen), e3, Option.bind_some, if_pos (by omega), hw, hr]
theorem drawState_ok {l : List Int} (hl : Bts l) {i : Int} (s : Int) {B : Int} (h0 : 0 ≤ i) (h1 : i ≤ B) (hB : B ≤ 900000) : DrE (fun k => spec_l27DrawState.f k l i s) (fun v => St v 5) (B + 15) := drawState_l0 hl 5 0 [] i s B (by omega) (by simp) (by simp) h0 h1 (by omega)
theorem mem_setG (n : ByteArray) (v : Int) : ∀ (l : List S57) (d : Bool), ∀ x ∈ setG n v l d, x = ⟨n, v⟩ ∨ x ∈ l
  | [], d, x, hx => by
    unfold setG at hx
    split at hx
    · cases hx
    · exact .inl (List.mem_singleton.1 hx)
  | y :: r, d, x, hx => by
    unfold setG at hx
    rcases List.mem_append.1 hx with h | h
    · split at h
      · exact .inl (List.mem_singleton.1 h)
      · cases h
    · rcases List.mem_append.1 h with h | h
      · split at h
        · cases h
        · exact .inr (by rw [List.mem_singleton.1 h]; exact List.mem_cons_self)
      · rcases mem_setG n v r _ x h with h | h
        · exact .inl h
        · exact .inr (List.mem_cons_of_mem _ h)
theorem setG_len (n : ByteArray) (v : Int) (l : List S57) (d : Bool) : (setG n v l d).length ≤ l.length + 1 := by
  have h := congrArg List.length (setG_map n v l d)
  have h2 := putG_length n (l.map (·.f0)) d
  simp only [List.length_map] at h h2
  omega
theorem changed_l0 {l : List Int} (hl : Bts l) : ∀ (e : Nat) (x : List S57) (m : Nat) (i s B : Int), e ≤ 3 → St x m → m + e ≤ 1000 → 0 ≤ i → i ≤ B → B + 4 * e ≤ 1000000 → DrE (fun k => spec_l27Changed.l0 k x nm6 (e : Int) l i s) (fun v => St v (m + e)) (B + 4 * e) := by
  intro e
  induction e with
  | zero =>
    intro x m i s B _ hx hm h0 h1 hB
    exact ⟨x, i, s, Ev.step (f := fun _ => some (x, i, s)) (fun k => by simp only [spec_l27Changed.l0]; rw [if_neg (by omega)]) (Ev.now _), hx, h0, by omega⟩
  | succ e ih =>
    intro x m i s B he hx hm h0 h1 hB
    have hxl : x.length ≤ 1000 := by have := hx.2.2; omega
    have hw : wrap64 (((e + 1 : Nat) : Int) - 1) = (e : Int) := by rw [wrap_id (by omega) (by omega)]; omega
    obtain ⟨b, j, t, e1, ⟨b0, b1⟩, j0, j1⟩ := pick_ok hl s h0 h1 (by omega) (n := 6) (by omega) (by omega)
    obtain ⟨c, rfl⟩ : ∃ c : Nat, b = (c : Int) := ⟨b.toNat, by omega⟩
    have hc : c < nm6.length := by show c < 6; omega
    have hr : rdOf ByteArray.empty nm6 (c : Int) = nm6[c] := by simp [rdOf, List.getD_eq_getElem?_getD, List.getElem?_eq_getElem hc]
    have hnm := name6 _ (List.getElem_mem hc)
    generalize nm6[c] = nm at hr hnm
    -- what is set
    have hset : ∀ (a : Int) (j t B' : Int), 0 ≤ j → j ≤ B' → B' + 2 + 4 * e ≤ B + 4 * (e + 1) → DrE (fun k => spec_l27Changed.j1 k x nm6 ((e + 1 : Nat) : Int) nm a false l j t) (fun v => St v (m + (e + 1))) (B + 4 * (e + 1)) := by
      intro a j t B' j0 j1 hB'
      obtain ⟨p, j2, t2, e3, ⟨p0, p1⟩, j20, j21⟩ := pickL_ok hl t j0 j1 (by omega) (n := 1001) (by omega) (by omega)
      have hS : St (setG nm p x false) (m + 1) := by
        refine ⟨by rw [setG_map]; exact asc_putG nm hx.1, fun y hy => ?_, by have := setG_len nm p x false; have := hx.2.2; omega⟩
        rcases mem_setG nm p x false y hy with h | h
        · rw [h]; unfold settingB; rw [hnm]
          simp only [Bool.true_and, Bool.and_eq_true, decide_eq_true_iff]; omega
        · exact hx.2.1 y h
      obtain ⟨v, q, u, e2, hv, q0, q1⟩ := ih (setG nm p x false) (m + 1) j2 t2 (B' + 2) (by omega) hS (by omega) j20 (by omega) (by omega)
      refine ⟨v, q, u, Ev.step (f := fun k => (spec_l27Set.f k x nm p).bind fun y => spec_l27Changed.l0 k y nm6 (e : Int) l j2 t2) (fun k => ?_) (Ev.bind (set_ev (by omega) nm p) e2), by rw [show m + (e + 1) = m + 1 + e by omega]; exact hv, q0, by omega⟩
      simp only [spec_l27Changed.j1]
      rw [if_neg (by decide), e3, Option.bind_some, hw]
    rcases at27_cases nm x 0 with ⟨h1', _, _⟩ | ⟨q, hq, h1', _, _⟩
    · obtain ⟨v, q, u, e2, hv, q0, q1⟩ := hset (-1) j t (B + 1) j0 j1 (by omega)
      refine ⟨v, q, u, Ev.step (f := fun k => (spec_l27At.f k x nm).bind fun a => (if a ≥ 0 then ((spec_l00Src_one.f l j t 2).bind fun z => spec_l27Changed.j1 k x nm6 ((e + 1 : Nat) : Int) nm a z.1 l z.2.1 z.2.2) else spec_l27Changed.j1 k x nm6 ((e + 1 : Nat) : Int) nm a false l j t)) (fun k => ?_) (Ev.bind (at27_ev (by omega) nm) ?_), hv, q0, by omega⟩
      · simp only [spec_l27Changed.l0]
        rw [if_pos (by omega), e1, Option.bind_some, if_pos b0, if_pos (lt_cast hc), hr]
      · rw [h1']; exact Ev.neg (by decide) e2
    · rw [Nat.zero_add] at h1'
      obtain ⟨b2, j2, t2, e4, _, j20, j21⟩ := one_ok hl t j0 j1 (by omega) (n := 2) (by omega) (by omega)
      have main : DrE (fun k => spec_l27Changed.j1 k x nm6 ((e + 1 : Nat) : Int) nm (q : Int) b2 l j2 t2) (fun v => St v (m + (e + 1))) (B + 4 * (e + 1)) := by
        cases b2 with
        | false => exact hset q j2 t2 (B + 2) j20 (by omega) (by omega)
        | true =>
          have hS : St (x.take q ++ x.drop (q + 1)) m := by
            have hsub : (x.take q ++ x.drop (q + 1)).Sublist x := by
              conv => rhs; rw [← List.take_append_drop q x]
              exact (List.Sublist.refl _).append (List.drop_sublist_drop_left x (by omega))
            exact ⟨hx.1.sublist (hsub.map _), fun y hy => hx.2.1 y (hsub.subset hy), by have := hsub.length_le; have := hx.2.2; omega⟩
          obtain ⟨v, z, u, e2, hv, z0, z1⟩ := ih (x.take q ++ x.drop (q + 1)) m j2 t2 (B + 2) (by omega) hS (by omega) j20 (by omega) (by omega)
          refine ⟨v, z, u, Ev.step (fun k => ?_) e2, ⟨hv.1, hv.2.1, by have := hv.2.2; omega⟩, z0, by omega⟩
          have hl1 : (x.take q).length + (x.drop (q + 1)).length ≤ 2000 := by simp; omega
          simp only [spec_l27Changed.j1]
          rw [if_pos trivial, Option.bind_some, if_pos (nn_cast q), if_pos (by omega), Option.bind_some, Int.toNat_natCast, List.nil_append]
          rw [if_pos (by simp; omega), Option.bind_some, wrap_succ hq (by omega), if_pos (by omega), if_pos (by omega), Option.bind_some, Int.toNat_natCast, if_pos (by omega), hw]
      obtain ⟨v, z, u, e2, hv, z0, z1⟩ := main
      refine ⟨v, z, u, Ev.step (f := fun k => (spec_l27At.f k x nm).bind fun a => (if a ≥ 0 then ((spec_l00Src_one.f l j t 2).bind fun z => spec_l27Changed.j1 k x nm6 ((e + 1 : Nat) : Int) nm a z.1 l z.2.1 z.2.2) else spec_l27Changed.j1 k x nm6 ((e + 1 : Nat) : Int) nm a false l j t)) (fun k => ?_) (Ev.bind (at27_ev (by omega) nm) ?_), hv, z0, by omega⟩
      · simp only [spec_l27Changed.l0]
        rw [if_pos (by omega), e1, Option.bind_some, if_pos b0, if_pos (lt_cast hc), hr]
      · rw [h1']
        refine Ev.pos (by omega) ?_
        rw [e4]
        exact e2
theorem changed_ok {l : List Int} (hl : Bts l) {x : List S57} {m : Nat} (hx : St x m) (hm : m ≤ 100) {i : Int} (s : Int) {B : Int} (h0 : 0 ≤ i) (h1 : i ≤ B) (hB : B ≤ 900000) : DrE (fun k => spec_l27Changed.f k l i s x) (fun v => St v (m + 3)) (B + 13) := by
  unfold spec_l27Changed.f
  obtain ⟨b, j, t, e1, ⟨b0, b1⟩, j0, j1⟩ := pick_ok hl s h0 h1 (by omega) (n := 4) (by omega) (by omega)
  obtain ⟨c, rfl⟩ : ∃ c : Nat, b = (c : Int) := ⟨b.toNat, by omega⟩
  obtain ⟨v, q, u, e2, hv, q0, q1⟩ := changed_l0 hl c x m j t (B + 1) (by omega) hx (by omega) j0 j1 (by omega)
  refine ⟨v, q, u, ?_, ⟨hv.1, hv.2.1, by have := hv.2.2; omega⟩, q0, by omega⟩
  have hxl := hx.2.2
  refine Ev.congr (fun k => ?_) e2
  rw [Option.bind_some, if_pos (by simp; omega), e1, Option.bind_some, List.nil_append]
  rfl

def HistOk (x : List S48) : Prop := ∀ (i : Nat) (h : i < x.length), x[i].f0 = (i : Int) + 1 ∧ 0 ≤ x[i].f1 ∧ x[i].f1 ≤ (i : Int) ∧ memoB x[i].f2 = true ∧ St x[i].f3 (5 + 3 * i)
theorem memo3 : ∀ x ∈ ([(⟨#[]⟩ : ByteArray), (⟨#[110, 101, 119]⟩ : ByteArray), (⟨#[97, 32, 98]⟩ : ByteArray)] : List ByteArray), memoB x = true := by
  intro x hx
  simp only [List.mem_cons, List.not_mem_nil, or_false] at hx
  rcases hx with rfl | rfl | rfl <;> decide
theorem HistOk.push {x : List S48} (h : HistOk x) {y : S48} (h1 : y.f0 = (x.length : Int) + 1) (h2 : 0 ≤ y.f1) (h3 : y.f1 ≤ (x.length : Int)) (h4 : memoB y.f2 = true) (h5 : St y.f3 (5 + 3 * x.length)) : HistOk (x ++ [y]) := by
  intro i hi
  by_cases e : i < x.length
  · rw [List.getElem_append_left e]; exact h i e
  · simp only [List.length_append, List.length_singleton] at hi
    obtain rfl : i = x.length := by omega
    rw [List.getElem_append_right (by omega)]
    simp only [Nat.sub_self, List.getElem_singleton]
    exact ⟨h1, h2, h3, h4, h5⟩
theorem HistOk.valid {x : List S48} (h : HistOk x) (hl : x.length ≤ 6) : historyB x = true := by
  unfold historyB
  simp only [Bool.and_eq_true, List.all_eq_true, List.mem_range, decide_eq_true_iff]
  refine ⟨fun i hi => ?_, by omega⟩
  obtain ⟨h1, h2, h3, h4, h5⟩ := h i hi
  unfold versionAt
  rw [rd_iVersion hi]
  simp only [Bool.and_eq_true, decide_eq_true_iff]
  exact ⟨⟨⟨h1, h2, h3⟩, h4⟩, h5.valid (by omega)⟩
theorem draw_l0 {l : List Int} (hl : Bts l) : ∀ (e : Nat) (x : List S48) (i s B : Int), x.length + e ≤ 5 → HistOk x → 0 ≤ i → i ≤ B → B + 40 * e ≤ 100000 → DrE (fun k => spec_l27Draw.l0 k x (e : Int) l i s) (fun v => HistOk v ∧ v.length ≤ 5) (B + 40 * e) := by
  intro e
  induction e with
  | zero =>
    intro x i s B hx hh h0 h1 hB
    exact ⟨x, i, s, Ev.step (f := fun _ => some (x, i, s)) (fun k => by simp only [spec_l27Draw.l0]; rw [if_neg (by omega)]) (Ev.now _), ⟨hh, by omega⟩, h0, by omega⟩
  | succ e ih =>
    intro x i s B hx hh h0 h1 hB
    have hw : wrap64 (((e + 1 : Nat) : Int) - 1) = (e : Int) := by rw [wrap_id (by omega) (by omega)]; omega
    have hw2 : wrap64 ((x.length : Int) + 1) = (x.length : Int) + 1 := wrap_id (by omega) (by omega)
    obtain ⟨p, j, t, e1, ⟨p0, p1⟩, j0, j1⟩ := pick_ok hl s h0 h1 (by omega) (n := (x.length : Int) + 1) (by omega) (by omega)
    obtain ⟨st, j2, t2, e2, hst, j20, j21⟩ := drawState_ok hl t j0 j1 (by omega)
    by_cases hp : p > 0
    · obtain ⟨q, rfl⟩ : ∃ q : Nat, p = (q : Int) + 1 := ⟨(p - 1).toNat, by omega⟩
      have hq : q < x.length := by omega
      have hw3 : wrap64 ((q : Int) + 1 - 1) = (q : Int) := by rw [wrap_id (by omega) (by omega)]; omega
      obtain ⟨_, _, _, _, hS⟩ := hh q hq
      obtain ⟨c, j3, t3, e3, hc, j30, j31⟩ := changed_ok hl hS (by omega) t2 j20 j21 (by omega)
      obtain ⟨m, j4, t4, e4, hm, j40, j41⟩ := text_ok hl t3 j30 j31 (by omega) (c := [(⟨#[]⟩ : ByteArray), (⟨#[110, 101, 119]⟩ : ByteArray), (⟨#[97, 32, 98]⟩ : ByteArray)]) (by decide) (by decide)
      obtain ⟨v, j5, t5, e5, hv, j50, j51⟩ := ih (x ++ [⟨(x.length : Int) + 1, (q : Int) + 1, m, c⟩]) j4 t4 (B + 1 + 15 + 13 + 1) (by simp; omega) (hh.push rfl (by show (0 : Int) ≤ (q : Int) + 1; omega) (by show (q : Int) + 1 ≤ _; omega) (memo3 m hm) ⟨hc.1, hc.2.1, by have := hc.2.2; show c.length ≤ _; omega⟩) j40 (by omega) (by omega)
      refine ⟨v, j5, t5, Ev.step (f := fun k => (spec_l27DrawState.f k l j t).bind fun z => (spec_l27Changed.f k l z.2.1 z.2.2 x[q].f3).bind fun c => (spec_l00Src_text.f l c.2.1 c.2.2 [(⟨#[]⟩ : ByteArray), (⟨#[110, 101, 119]⟩ : ByteArray), (⟨#[97, 32, 98]⟩ : ByteArray)]).bind fun m => spec_l27Draw.l0 k (x ++ [⟨(x.length : Int) + 1, (q : Int) + 1, m.1, c.1⟩]) (e : Int) l m.2.1 m.2.2) (fun k => ?_) (Ev.bind e2 (Ev.bind e3 ?_)), hv, j50, by omega⟩
      · simp only [spec_l27Draw.l0]
        rw [if_pos (by omega), hw2, e1, Option.bind_some]
        simp only [if_pos hp, hw3, hw, hw2, if_pos (nn_cast q), if_pos (lt_cast hq), rd_iVersion hq, if_pos (by omega : x.length < 2513169434916)]
      · rw [e4]; exact e5
    · have hp0 : p = 0 := by omega
      subst hp0
      obtain ⟨m, j4, t4, e4, hm, j40, j41⟩ := text_ok hl t2 j20 j21 (by omega) (c := [(⟨#[]⟩ : ByteArray), (⟨#[110, 101, 119]⟩ : ByteArray), (⟨#[97, 32, 98]⟩ : ByteArray)]) (by decide) (by decide)
      obtain ⟨v, j5, t5, e5, hv, j50, j51⟩ := ih (x ++ [⟨(x.length : Int) + 1, 0, m, st⟩]) j4 t4 (B + 1 + 15 + 1) (by simp; omega) (hh.push rfl (Int.le_refl 0) (by show (0 : Int) ≤ _; omega) (memo3 m hm) ⟨hst.1, hst.2.1, by have := hst.2.2; show st.length ≤ _; omega⟩) j40 (by omega) (by omega)
      refine ⟨v, j5, t5, Ev.step (f := fun k => (spec_l27DrawState.f k l j t).bind fun z => (spec_l00Src_text.f l z.2.1 z.2.2 [(⟨#[]⟩ : ByteArray), (⟨#[110, 101, 119]⟩ : ByteArray), (⟨#[97, 32, 98]⟩ : ByteArray)]).bind fun m => spec_l27Draw.l0 k (x ++ [⟨(x.length : Int) + 1, 0, m.1, z.1⟩]) (e : Int) l m.2.1 m.2.2) (fun k => ?_) (Ev.bind e2 ?_), hv, j50, by omega⟩
      · simp only [spec_l27Draw.l0]
        rw [if_pos (by omega), hw2, e1, Option.bind_some]
        simp only [if_neg hp, hw, hw2, if_pos (by omega : x.length < 2513169434916)]
      · rw [e4]; exact e5
theorem R8History_ok {l : List Int} (hl : Bts l) : ∃ v, Ev (fun k => spec_R8History.f k l) v ∧ HistOk v ∧ v.length ≤ 5 := by
  obtain ⟨b, j, t, e1, ⟨b0, b1⟩, j0, j1⟩ := pick_ok hl (0 : Int) (Int.le_refl 0) (Int.le_refl 0) (by omega) (n := 6) (by omega) (by omega)
  obtain ⟨c, rfl⟩ : ∃ c : Nat, b = (c : Int) := ⟨b.toNat, by omega⟩
  obtain ⟨v, q, u, e2, ⟨hv, hv2⟩, _, _⟩ := draw_l0 hl c [] j t 1 (by simp; omega) (fun i hi => by simp at hi) j0 (by omega) (by omega)
  refine ⟨v, ?_, hv, hv2⟩
  unfold spec_R8History.f spec_l27Draw.f spec_l00From.f
  simp only [Option.bind_some, e1]
  exact Ev.bind e2 (Ev.now _)
theorem R8State_ok {l : List Int} (hl : Bts l) : ∃ v, Ev (fun k => spec_R8State.f k l) v ∧ St v 5 := by
  obtain ⟨v, q, u, e2, hv, _, _⟩ := drawState_ok hl (0 : Int) (Int.le_refl 0) (Int.le_refl 0) (by omega)
  refine ⟨v, ?_, hv⟩
  unfold spec_R8State.f spec_l00From.f
  simp only [Option.bind_some]
  exact Ev.bind e2 (Ev.now _)
theorem R8Changed_ok {l : List Int} (hl : Bts l) {x : List S57} (hx : St x 5) : ∃ v, Ev (fun k => spec_R8Changed.f k l x) v ∧ St v 8 := by
  obtain ⟨v, q, u, e2, hv, _, _⟩ := changed_ok hl hx (by omega) (0 : Int) (Int.le_refl 0) (Int.le_refl 0) (by omega)
  refine ⟨v, ?_, hv⟩
  unfold spec_R8Changed.f spec_l00From.f
  simp only [Option.bind_some]
  exact Ev.bind e2 (Ev.now _)
theorem okV_hist {l : List S48} (h : historyB l = true) : ∀ y ∈ l, okV y := by
  intro y hy
  obtain ⟨i, hi, rfl⟩ := List.getElem_of_mem hy
  unfold historyB at h
  simp only [Bool.and_eq_true, List.all_eq_true, List.mem_range, decide_eq_true_iff] at h
  have := h.1 i hi
  unfold versionAt at this
  rw [rd_iVersion hi] at this
  simp only [Bool.and_eq_true, decide_eq_true_iff] at this
  have h2 := state_len this.2
  have h3 := this.1.2
  unfold memoB at h3
  simp only [Bool.and_eq_true, decide_eq_true_iff] at h3
  have h4 := h3.2
  exact ⟨by omega, by omega⟩
theorem line_desc {l : List S48} (h : historyB l = true) : ∀ (d : Nat) (n : Int), n ≤ l.length → (lineL l d n).Pairwise (fun a b => b < a) ∧ ∀ x ∈ lineL l d n, 1 ≤ x ∧ x ≤ n
  | 0, n, _ => ⟨List.Pairwise.nil, fun x hx => by cases hx⟩
  | d + 1, n, hn => by
    unfold lineL
    by_cases h0 : n ≤ 0
    · rw [if_pos h0]; exact ⟨List.Pairwise.nil, fun x hx => by cases hx⟩
    · rw [if_neg h0]
      have hp := (history_facts h).2 n (by omega) hn
      obtain ⟨i1, i2⟩ := line_desc h d (par l n) (by omega)
      refine ⟨List.pairwise_cons.2 ⟨fun x hx => by have := i2 x hx; omega, i1⟩, fun x hx => ?_⟩
      rcases List.mem_cons.1 hx with e | hx
      · rw [e]; omega
      · have := i2 x hx; omega
theorem CommonAncestor_ev {l : List S48} (h : historyB l = true) {a b : Int} (ha : 1 ≤ a) (ha2 : a ≤ l.length) (hb : 1 ≤ b) (hb2 : b ≤ l.length) : Ev (fun k => impl_CommonAncestor.f k l a b) (commonL l a b, 0) := by
  have hl := (history_facts h).1
  unfold impl_CommonAncestor.f
  have hc : Ev (fun k => impl_versionsCode.f k l [a, b]) 0 := Ev.le 2097200 (fun k hk => by rw [versionsCode_eq (by omega) (okV_hist h) _ hk]; simp [h, ha, ha2, hb, hb2])
  exact Ev.bind hc (Ev.pos rfl (Ev.bind (Ev.le 200 (fun k hk => commonAncestor_eq h ha ha2 hb hb2 hk)) (Ev.now _)))
def stOf (l : List S48) (n : Int) : List S57 := if n = 0 then [] else (rd_T48 l (n - 1)).f3
theorem versionState_ok {l : List S48} (h : historyB l = true) {n : Int} (h0 : 0 ≤ n) (h1 : n ≤ l.length) : impl_versionState.f l n = some (stOf l n) ∧ stateB (stOf l n) = true := by
  have hl := (history_facts h).1
  unfold impl_versionState.f stOf
  by_cases e : n = 0
  · rw [if_pos e, if_pos e]; exact ⟨rfl, by decide⟩
  · rw [if_neg e, if_neg e, wrap_id (by omega) (by omega), if_pos (by omega), if_pos (by omega)]
    refine ⟨rfl, ?_⟩
    unfold historyB at h
    simp only [Bool.and_eq_true, List.all_eq_true, List.mem_range, decide_eq_true_iff] at h
    have := h.1 (n - 1).toNat (by omega)
    unfold versionAt at this
    rw [Int.toNat_of_nonneg (by omega)] at this
    simp only [Bool.and_eq_true] at this
    exact this.2

def cmpS (a b : ByteArray) : Int := if Op.bytesLess a.toList b.toList = true then -1 else if Op.bytesLess b.toList a.toList = true then 1 else 0
theorem Compare_string_eq (a b : ByteArray) : cmp_Compare_string.f a b = some (cmpS a b) := by
  unfold cmp_Compare_string.f cmp_isNaN_string.f cmpS
  simp only [bne_self_eq_false, Option.bind_some]
  simp only [Bool.false_eq_true, if_false]
  split
  · rfl
  · split <;> rfl
theorem less_irrefl (a : List UInt8) : Op.bytesLess a a = false := by
  induction a with
  | nil => rfl
  | cons x r ih => simp [Op.bytesLess, ih]

theorem Ev.from {α : Type} {g f : Nat → Option α} {r : α} (c K0 : Nat) (h : ∀ k, K0 ≤ k → g (k + c) = f k) (hf : Ev f r) : Ev g r := by
  obtain ⟨K, hK⟩ := hf
  refine ⟨max K K0 + c, fun n hn => ?_⟩
  obtain ⟨m, rfl⟩ : ∃ m, n = m + c := ⟨n - c, by omega⟩
  show g (m + c) = some r
  rw [h m (by omega)]; exact hK m (by omega)
theorem rd_chg {l : List S61} {i : Nat} (h : i < l.length) : rd_T61 l (i : Int) = l[i] := by simp [rd_T61, List.getD_eq_getElem?_getD, List.getElem?_eq_getElem h]
def changeB (x : S61) : Bool := (decide (1 ≤ x.f0) && decide (x.f0 ≤ 2)) && settingB x.f1
theorem wrong_eq (x : S61) {k : Nat} (hk : 20 ≤ k) : impl_ApplyChanges_1.f k x.f0 x.f1.f0 x.f1.f1 = some (!changeB x) := by
  unfold impl_ApplyChanges_1.f changeB
  rw [Setting_valid_eq x.f1 hk, Option.bind_some]
  by_cases h1 : x.f0 = 1
  · rw [if_pos h1, h1]; rfl
  · rw [if_neg h1]
    by_cases h2 : x.f0 = 2
    · rw [if_pos h2, h2]; rfl
    · rw [if_neg h2, show (decide (1 ≤ x.f0) && decide (x.f0 ≤ 2)) = false by
        rw [Bool.and_eq_false_iff, decide_eq_false_iff_not, decide_eq_false_iff_not]; omega]; rfl
theorem ContainsC_ev (l : List S61) : Ev (fun k => slices_ContainsFunc_S_impl_Change.f k l 0) (!(l.all changeB)) := Ev.le 20 fun k hk => by
  unfold slices_ContainsFunc_S_impl_Change.f
  rw [if_pos rfl, anyO_some (q := fun x => !changeB x) (fun x _ => wrong_eq x hk)]
  congr 1
  induction l with
  | nil => rfl
  | cons x r ih => rw [List.any_cons, List.all_cons, ih, Bool.not_and]
/-- A state in order, at a name. -/
theorem split27 (n : ByteArray) : ∀ {l : List S57}, Asc (l.map (·.f0)) → ∃ a b, l = a ++ b ∧ (∀ x ∈ a, ltB x.f0 n = true) ∧ ((∃ y c, b = y :: c ∧ y.f0 = n ∧ ∀ z ∈ c, ltB n z.f0 = true) ∨ ∀ z ∈ b, ltB n z.f0 = true)
  | [], _ => ⟨[], [], rfl, by simp, .inr (by simp)⟩
  | y :: r, h => by
    obtain ⟨h1, h2⟩ := List.pairwise_cons.1 h
    have h1' : ∀ z ∈ r, ltB y.f0 z.f0 = true := fun z hz => h1 z.f0 (List.mem_map.2 ⟨z, hz, rfl⟩)
    by_cases hy : ltB y.f0 n = true
    · obtain ⟨a, b, e, ha, hb⟩ := split27 n h2
      refine ⟨y :: a, b, by rw [e]; rfl, fun x hx => ?_, hb⟩
      rcases List.mem_cons.1 hx with rfl | hx
      · exact hy
      · exact ha x hx
    · by_cases he : y.f0 = n
      · exact ⟨[], y :: r, rfl, by simp, .inl ⟨y, r, rfl, he, fun z hz => by rw [← he]; exact h1' z hz⟩⟩
      · have hn := ltB_total hy he
        refine ⟨[], y :: r, rfl, by simp, .inr fun z hz => ?_⟩
        rcases List.mem_cons.1 hz with rfl | hz
        · exact hn
        · exact ltB_trans hn (h1' z hz)
theorem ne_lt {x : S57} {n : ByteArray} (h : ltB x.f0 n = true) : ¬ x.f0.toList = n.toList := fun e => by rw [toList_iff.1 e] at h; exact ltB_irrefl n h
theorem ne_gt {x : S57} {n : ByteArray} (h : ltB n x.f0 = true) : ¬ x.f0.toList = n.toList := fun e => by rw [toList_iff.1 e] at h; exact ltB_irrefl n h
theorem setG_ahead (n : ByteArray) (v : Int) : ∀ (a b : List S57), (∀ x ∈ a, ltB x.f0 n = true) → setG n v (a ++ b) false = a ++ setG n v b false
  | [], _, _ => rfl
  | x :: r, b, h => by
    have hx := h x List.mem_cons_self
    rw [List.cons_append, setG, hx, if_neg (ne_lt hx)]
    show [] ++ ([x] ++ setG n v (r ++ b) false) = _
    rw [setG_ahead n v r b (fun y hy => h y (List.mem_cons_of_mem _ hy))]; rfl
theorem setG_past (n : ByteArray) (v : Int) : ∀ (c : List S57), (∀ x ∈ c, ltB n x.f0 = true) → setG n v c true = c
  | [], _ => rfl
  | x :: r, h => by
    rw [setG, if_neg (ne_gt (h x List.mem_cons_self))]
    show [] ++ ([x] ++ setG n v r true) = _
    rw [setG_past n v r (fun y hy => h y (List.mem_cons_of_mem _ hy))]; rfl
theorem setG_found {n : ByteArray} (v : Int) {a c : List S57} {y : S57} (ha : ∀ x ∈ a, ltB x.f0 n = true) (hy : y.f0 = n) (hc : ∀ z ∈ c, ltB n z.f0 = true) : setG n v (a ++ y :: c) false = a ++ ⟨n, v⟩ :: c := by
  have h0 : ltB y.f0 n = false := by rw [hy]; exact Bool.eq_false_iff.2 (ltB_irrefl n)
  rw [setG_ahead n v _ _ ha, setG, h0, if_pos (toList_iff.2 hy)]
  show a ++ ([⟨n, v⟩] ++ ([] ++ setG n v c true)) = _
  rw [setG_past n v c hc]; rfl
theorem not_lt_of {n m : ByteArray} (h : ltB n m = true) : ltB m n = false := Bool.eq_false_iff.2 (fun h2 => ltB_irrefl n (ltB_trans h h2))
theorem setG_new {n : ByteArray} (v : Int) {a b : List S57} (ha : ∀ x ∈ a, ltB x.f0 n = true) (hb : ∀ z ∈ b, ltB n z.f0 = true) : setG n v (a ++ b) false = a ++ ⟨n, v⟩ :: b := by
  rw [setG_ahead n v _ _ ha]
  cases b with
  | nil => rfl
  | cons z r =>
    have hz := hb z List.mem_cons_self
    rw [setG, not_lt_of hz, if_neg (ne_gt hz)]
    show a ++ ([⟨n, v⟩] ++ ([z] ++ setG n v r true)) = _
    rw [setG_past n v r (fun y hy => hb y (List.mem_cons_of_mem _ hy))]; rfl
/-- The program halves. -/
theorem half_w {a b : Nat} (h : a + b ≤ 3000) : wrap64 ((IntKind.u64.wrap (wrap64 ((a : Int) + (b : Int)))) / 2) = (((a + b) / 2 : Nat) : Int) := by
  rw [wrap_id (x := (a : Int) + (b : Int)) (by omega) (by omega), IntKind.wrap_u64, wrap_id (by omega) (by omega)]; omega
theorem compareS_eq (x : ByteArray) (v : Int) (y : ByteArray) (u : Int) : impl_compareSettings.f x v y u = some (cmpS x y) := by
  unfold impl_compareSettings.f
  rw [Compare_string_eq]; rfl
theorem cmpS_neg (x y : ByteArray) : cmpS x y < 0 ↔ ltB x y = true := by
  unfold cmpS ltB
  by_cases h : Op.bytesLess x.toList y.toList = true
  · rw [if_pos h, h]; decide
  · rw [if_neg h]
    constructor
    · intro h2; split at h2 <;> omega
    · intro h2; exact absurd h2 h
theorem SearchS_l0 {l : List S57} (hl : l.length ≤ 1000) (n : ByteArray) (v : Int) {p : Nat} (h2 : ∀ j (h : j < l.length), j < p → ltB l[j].f0 n = true) (h3 : ∀ j (h : j < l.length), p ≤ j → ltB l[j].f0 n = false) {fl : Bool} (hf : ∀ h : p < l.length, (cmpS l[p].f0 n == 0) = fl) (hg : ¬ p < l.length → fl = false) : ∀ (m a b K : Nat), b - a ≤ m → a ≤ p → p ≤ b → b ≤ l.length → m + 20 ≤ K → slices_BinarySearchFunc_S_impl_Setting.l0 K l (l.length : Int) (a : Int) (b : Int) n v = some ((p : Int), fl) := by
  intro m
  induction m with
  | zero =>
    intro a b K hm ha hb hbl hK
    obtain ⟨K, rfl⟩ : ∃ q, K = q + 1 := ⟨K - 1, by omega⟩
    obtain rfl : a = p := by omega
    simp only [slices_BinarySearchFunc_S_impl_Setting.l0]
    rw [if_neg (by omega)]
    by_cases hlt : a < l.length
    · rw [if_pos (by omega), if_pos (nn_cast _), if_pos (by omega), compareS_eq, rd_set27 hlt, Option.bind_some, hf hlt]
    · rw [if_neg (by omega), hg hlt]
  | succ m ih =>
    intro a b K hm ha hb hbl hK
    by_cases hab : a < b
    rotate_left
    · exact ih a b K (by omega) ha hb hbl (by omega)
    obtain ⟨K, rfl⟩ : ∃ q, K = q + 1 := ⟨K - 1, by omega⟩
    have hh := half_w (a := a) (b := b) (by omega)
    have hml : (a + b) / 2 < l.length := by omega
    simp only [slices_BinarySearchFunc_S_impl_Setting.l0]
    rw [if_pos (by omega), hh, if_pos (nn_cast _), if_pos (by omega), compareS_eq, rd_set27 hml, Option.bind_some]
    by_cases hc : cmpS l[(a + b) / 2].f0 n < 0
    · rw [if_pos hc, wrap_id (x := (((a + b) / 2 : Nat) : Int) + 1) (by omega) (by omega)]
      have hp : (a + b) / 2 < p := by
        rcases Nat.lt_or_ge ((a + b) / 2) p with q | q
        · exact q
        · have h4 := h3 _ hml q
          rw [(cmpS_neg _ _).1 hc] at h4; cases h4
      exact ih ((a + b) / 2 + 1) b K (by omega) (by omega) hb hbl (by omega)
    · rw [if_neg hc]
      have hp : p ≤ (a + b) / 2 := by
        rcases Nat.lt_or_ge ((a + b) / 2) p with q | q
        · exact absurd ((cmpS_neg _ _).2 (h2 _ hml q)) hc
        · exact q
      exact ih a ((a + b) / 2) K (by omega) ha hp (by omega) (by omega)
theorem SearchS_eq {l a b : List S57} (hl : l.length ≤ 1000) (n : ByteArray) (v : Int) (e : l = a ++ b) (ha : ∀ x ∈ a, ltB x.f0 n = true) (hb : ∀ z ∈ b, ltB z.f0 n = false) {fl : Bool} (hf : ∀ y c, b = y :: c → (cmpS y.f0 n == 0) = fl) (hg : b = [] → fl = false) {K : Nat} (hK : 2000 ≤ K) : slices_BinarySearchFunc_S_impl_Setting.f K l n v 0 = some ((a.length : Int), fl) := by
  subst e
  have hlen : (a ++ b).length = a.length + b.length := List.length_append
  refine SearchS_l0 hl n v (fun j h hj => ?_) (fun j h hj => ?_) (fun h => ?_) (fun h => ?_) (a ++ b).length 0 (a ++ b).length K (by omega) (by omega) (by omega) (by omega) (by omega)
  · rw [List.getElem_append_left hj]; exact ha _ (List.getElem_mem _)
  · rw [List.getElem_append_right hj]; exact hb _ (List.getElem_mem _)
  · cases b with
    | nil => rw [List.append_nil] at h; omega
    | cons y c =>
      have : (a ++ y :: c)[a.length] = y := by rw [List.getElem_append_right (Nat.le_refl _)]; simp
      rw [this]; exact hf y c rfl
  · exact hg (List.eq_nil_of_length_eq_zero (by omega))
theorem InsS_eq {a b : List S57} (hl : (a ++ b).length ≤ 1000) (x : S57) : slices_Insert_S_impl_Setting.f (a ++ b) (a.length : Int) [x] = some (a ++ x :: b) := by
  have hlen : (a ++ b).length = a.length + b.length := List.length_append
  unfold slices_Insert_S_impl_Setting.f
  rw [if_pos ⟨⟨rfl, by omega⟩, by omega, by omega⟩, Int.toNat_natCast, List.take_left' rfl, List.drop_left' rfl, List.append_assoc]; rfl
theorem DelS_eq {a c : List S57} {y : S57} (hl : (a ++ y :: c).length ≤ 1000) : slices_Delete_S_impl_Setting.f (a ++ y :: c) (a.length : Int) ((a.length : Int) + 1) = some (a ++ c) := by
  have hlen : (a ++ y :: c).length = a.length + (c.length + 1) := by rw [List.length_append, List.length_cons]
  unfold slices_Delete_S_impl_Setting.f
  rw [if_pos ⟨⟨rfl, by omega⟩, by omega, by omega⟩, Int.toNat_natCast, List.take_left' rfl, show a.length + 1 = (a ++ [y]).length by simp, show a ++ y :: c = (a ++ [y]) ++ c by simp, List.drop_left' rfl]

def delS (n : ByteArray) (o : List S57) : List S57 := o.filter fun y => decide (¬ y.f0.toList = n.toList)
theorem mem_del {n : ByteArray} {o : List S57} {x : S57} : x ∈ delS n o ↔ x ∈ o ∧ x.f0 ≠ n := by
  unfold delS
  rw [List.mem_filter, decide_eq_true_iff, toList_iff]
theorem del_asc {n : ByteArray} {o : List S57} (h : Asc (o.map (·.f0))) : Asc (((delS n o)).map (·.f0)) := by
  unfold delS Asc at *
  exact h.sublist ((List.filter_sublist).map _)
theorem del_len (n : ByteArray) (o : List S57) : (delS n o).length ≤ o.length := List.length_filter_le _ _
theorem del_at {n : ByteArray} {a c : List S57} {y : S57} (ha : ∀ x ∈ a, ltB x.f0 n = true) (hy : y.f0 = n) (hc : ∀ z ∈ c, ltB n z.f0 = true) : delS n (a ++ y :: c) = a ++ c := by
  unfold delS
  rw [List.filter_append, List.filter_cons, if_neg (by simp [hy]), List.filter_eq_self.2 (fun x hx => decide_eq_true (ne_lt (ha x hx))), List.filter_eq_self.2 (fun x hx => decide_eq_true (ne_gt (hc x hx)))]
theorem set_asc {n : ByteArray} {v : Int} {o : List S57} (h : Asc (o.map (·.f0))) : Asc ((setG n v o false).map (·.f0)) := by
  rw [setG_map]; exact asc_putG n h
theorem mem_set {n : ByteArray} {v : Int} {o : List S57} (h : Asc (o.map (·.f0))) {x : S57} : x ∈ setG n v o false ↔ x = ⟨n, v⟩ ∨ (x ∈ o ∧ x.f0 ≠ n) := by
  obtain ⟨a, b, rfl, ha, hb⟩ := split27 n h
  have ha' : ∀ z ∈ a, z.f0 ≠ n := fun z hz e => ne_lt (ha z hz) (toList_iff.2 e)
  rcases hb with ⟨y, c, rfl, hy, hc⟩ | hb
  · have hc' : ∀ z ∈ c, z.f0 ≠ n := fun z hz e => ne_gt (hc z hz) (toList_iff.2 e)
    rw [setG_found v ha hy hc]
    simp only [List.mem_append, List.mem_cons]
    constructor
    · rintro (h | h | h)
      · exact .inr ⟨.inl h, ha' x h⟩
      · exact .inl h
      · exact .inr ⟨.inr (.inr h), hc' x h⟩
    · rintro (h | ⟨h | h | h, hn⟩)
      · exact .inr (.inl h)
      · exact .inl h
      · subst h; exact absurd hy hn
      · exact .inr (.inr h)
  · have hb' : ∀ z ∈ b, z.f0 ≠ n := fun z hz e => ne_gt (hb z hz) (toList_iff.2 e)
    rw [setG_new v ha hb]
    simp only [List.mem_append, List.mem_cons]
    constructor
    · rintro (h | h | h)
      · exact .inr ⟨.inl h, ha' x h⟩
      · exact .inl h
      · exact .inr ⟨.inr h, hb' x h⟩
    · rintro (h | ⟨h | h, hn⟩)
      · exact .inr (.inl h)
      · exact .inl h
      · exact .inr (.inr h)
theorem ascS_ext : ∀ {a b : List S57}, Asc (a.map (·.f0)) → Asc (b.map (·.f0)) → (∀ x, x ∈ a ↔ x ∈ b) → a = b
  | [], [], _, _, _ => rfl
  | [], y :: _, _, _, h => absurd ((h y).2 List.mem_cons_self) (by simp)
  | x :: _, [], _, _, h => absurd ((h x).1 List.mem_cons_self) (by simp)
  | x :: r, y :: s, ha, hb, h => by
    obtain ⟨hx, hr⟩ := List.pairwise_cons.1 ha
    obtain ⟨hy, hs⟩ := List.pairwise_cons.1 hb
    have hx' : ∀ z ∈ r, ltB x.f0 z.f0 = true := fun z hz => hx z.f0 (List.mem_map.2 ⟨z, hz, rfl⟩)
    have hy' : ∀ z ∈ s, ltB y.f0 z.f0 = true := fun z hz => hy z.f0 (List.mem_map.2 ⟨z, hz, rfl⟩)
    have e : x = y := by
      have h1 := (h x).1 List.mem_cons_self
      have h2 := (h y).2 List.mem_cons_self
      rcases List.mem_cons.1 h1 with e | h1
      · exact e
      rcases List.mem_cons.1 h2 with e | h2
      · exact e.symm
      exact absurd (ltB_trans (hx' y h2) (hy' x h1)) (ltB_irrefl x.f0)
    subst e
    congr 1
    refine ascS_ext hr hs fun z => ⟨fun hz => ?_, fun hz => ?_⟩
    · rcases List.mem_cons.1 ((h z).1 (List.mem_cons_of_mem _ hz)) with e | h'
      · subst e; exact absurd (hx' z hz) (ltB_irrefl z.f0)
      · exact h'
    · rcases List.mem_cons.1 ((h z).2 (List.mem_cons_of_mem _ hz)) with e | h'
      · subst e; exact absurd (hy' z hz) (ltB_irrefl z.f0)
      · exact h'
theorem asc_inj {l : List S57} (h : Asc (l.map (·.f0))) : ∀ x ∈ l, ∀ y ∈ l, x.f0 = y.f0 → x = y := by
  intro x hx y hy e
  have h1 := val_mem h x hx
  have h2 := val_mem h y hy
  rw [e, h2] at h1
  have := (Prod.mk.inj h1).1
  cases x; cases y; simp_all
theorem val_some {n : ByteArray} {v : Int} {l : List S57} (h : val27 n l = (v, true)) : ∃ y ∈ l, y.f0 = n ∧ y.f1 = v := by
  rcases at27_cases n l 0 with ⟨_, h2, _⟩ | ⟨j, hj, _, h2, h3⟩
  · rw [h2] at h; cases h
  · rw [h2] at h
    exact ⟨l[j], List.getElem_mem hj, toList_iff.1 h3, (Prod.mk.inj h).1⟩
theorem val_none {n : ByteArray} {l : List S57} (h : (val27 n l).2 = false) : ∀ y ∈ l, y.f0 ≠ n := by
  rcases at27_cases n l 0 with ⟨_, _, h3⟩ | ⟨j, hj, _, h2, _⟩
  · intro y hy e; exact h3 y hy (toList_iff.2 e)
  · rw [h2] at h; cases h
def dropsD (a b : List S57) : List S57 := a.filter fun x => !(val27 x.f0 b).2
def setsD (a b : List S57) : List S57 := b.filter fun x => !((val27 x.f0 a).2 && decide ((val27 x.f0 a).1 = x.f1))
def chgD (a b : List S57) : List S61 := (dropsD a b).map (fun x => ⟨2, x⟩) ++ (setsD a b).map (fun x => ⟨1, x⟩)
theorem diff_l1 {a b : List S57} (ha : a.length ≤ 1000) (hb : b.length ≤ 1000) : ∀ (d i : Nat) (x : List S61), i + d = b.length → x.length ≤ 1000 + i → Ev (fun k => impl_DiffStates.l1 k a x b (b.length : Int) (i : Int)) (x ++ (setsD a (b.drop i)).map (fun x => ⟨1, x⟩), 0) := by
  intro d
  induction d with
  | zero =>
    intro i x hi hx
    obtain rfl : i = b.length := by omega
    rw [List.drop_length]
    refine Ev.step (f := fun _ => some (x, 0)) (fun k => ?_) (by simp only [setsD, List.filter_nil, List.map_nil, List.append_nil]; exact Ev.now _)
    simp only [impl_DiffStates.l1]; rw [if_neg (nlt_cast _)]
  | succ d ih =>
    intro i x hi hx
    have hlt : i < b.length := by omega
    have WS := Aside0.mk (show wrap64 ((i : Int) + 1) = ((i + 1 : Nat) : Int) from wrap_succ hlt (by omega))
    have hxb : x.length < 4398046511104 := by omega
    obtain ⟨K, hK⟩ := val27_ev (l := a) (by omega) b[i].f0
    have st : ∀ k, K ≤ k → impl_DiffStates.l1 (k + 1) a x b (b.length : Int) (i : Int) = if ((val27 b[i].f0 a).2 && decide ((val27 b[i].f0 a).1 = b[i].f1)) = true then impl_DiffStates.l1 k a x b (b.length : Int) ((i + 1 : Nat) : Int) else impl_DiffStates.l1 k a (x ++ [⟨1, b[i]⟩]) b (b.length : Int) ((i + 1 : Nat) : Int) := fun k hk => by
      have e : impl_valueAt.f k a b[i].f0 = some (val27 b[i].f0 a) := hK k hk
      simp only [impl_DiffStates.l1]
      rw [if_pos (lt_cast hlt), if_pos (nn_cast i), if_pos (lt_cast hlt), rd_set27 hlt, WS.out, e, Option.bind_some]
      simp only [if_pos hxb]
      by_cases h1 : (val27 b[i].f0 a).2 = true
      · rw [if_pos h1]
        by_cases h2 : (val27 b[i].f0 a).1 = b[i].f1
        · rw [if_pos h2, h1, decide_eq_true h2, if_pos (show (true && true) = true from rfl)]
        · rw [if_neg h2, h1, decide_eq_false h2, if_neg (by decide)]
      · rw [if_neg h1]; rw [Bool.not_eq_true] at h1; rw [h1, if_neg (by simp)]
    rw [drop_cons hlt]
    unfold setsD
    rw [List.filter_cons]
    by_cases hc : ((val27 b[i].f0 a).2 && decide ((val27 b[i].f0 a).1 = b[i].f1)) = true
    · rw [hc, if_neg (by decide)]
      refine Ev.from 1 K (fun k hk => ?_) (ih (i + 1) x (by omega) (by omega))
      rw [st k hk, if_pos hc]
    · have hc' := hc
      rw [Bool.not_eq_true] at hc'
      rw [hc', if_pos (by decide), List.map_cons]
      have := ih (i + 1) (x ++ [⟨1, b[i]⟩]) (by omega) (by simp; omega)
      rw [List.append_assoc] at this
      refine Ev.from 1 K (fun k hk => ?_) this
      rw [st k hk, if_neg hc]
theorem diff_l0 {a b : List S57} (ha : a.length ≤ 1000) (hb : b.length ≤ 1000) : ∀ (d i : Nat) (x : List S61), i + d = a.length → x.length ≤ i → Ev (fun k => impl_DiffStates.l0 k a b x a (a.length : Int) (i : Int)) (x ++ (dropsD (a.drop i) b).map (fun x => ⟨2, x⟩) ++ (setsD a b).map (fun x => ⟨1, x⟩), 0) := by
  intro d
  induction d with
  | zero =>
    intro i x hi hx
    obtain rfl : i = a.length := by omega
    rw [List.drop_length]
    have := diff_l1 (a := a) (b := b) ha hb b.length 0 x (by omega) (by omega)
    rw [List.drop_zero] at this
    refine Ev.step (fun k => ?_) (by simp only [dropsD, List.filter_nil, List.map_nil, List.append_nil]; exact this)
    simp only [impl_DiffStates.l0]; rw [if_neg (nlt_cast _)]; rfl
  | succ d ih =>
    intro i x hi hx
    have hlt : i < a.length := by omega
    have WS := Aside0.mk (show wrap64 ((i : Int) + 1) = ((i + 1 : Nat) : Int) from wrap_succ hlt (by omega))
    have hxb : x.length < 4398046511104 := by omega
    obtain ⟨K, hK⟩ := val27_ev (l := b) (by omega) a[i].f0
    have st : ∀ k, K ≤ k → impl_DiffStates.l0 (k + 1) a b x a (a.length : Int) (i : Int) = if (val27 a[i].f0 b).2 = true then impl_DiffStates.l0 k a b x a (a.length : Int) ((i + 1 : Nat) : Int) else impl_DiffStates.l0 k a b (x ++ [⟨2, a[i]⟩]) a (a.length : Int) ((i + 1 : Nat) : Int) := fun k hk => by
      have e : impl_valueAt.f k b a[i].f0 = some (val27 a[i].f0 b) := hK k hk
      simp only [impl_DiffStates.l0]
      rw [if_pos (lt_cast hlt), if_pos (nn_cast i), if_pos (lt_cast hlt), rd_set27 hlt, WS.out, e, Option.bind_some]
      simp only [if_pos hxb]
    rw [drop_cons hlt]
    unfold dropsD
    rw [List.filter_cons]
    by_cases hc : (val27 a[i].f0 b).2 = true
    · rw [hc, if_neg (by decide)]
      refine Ev.from 1 K (fun k hk => ?_) (ih (i + 1) x (by omega) (by omega))
      rw [st k hk, if_pos hc]
    · have hc' := hc
      rw [Bool.not_eq_true] at hc'
      rw [hc', if_pos (by decide), List.map_cons]
      have := ih (i + 1) (x ++ [⟨2, a[i]⟩]) (by omega) (by simp; omega)
      rw [List.append_assoc x] at this
      refine Ev.from 1 K (fun k hk => ?_) this
      rw [st k hk, if_neg hc]
theorem Diff_ok {a b : List S57} (ha : stateB a = true) (hb : stateB b = true) : Ev (fun k => impl_DiffStates.f k a b) (chgD a b, 0) := by
  have la := state_len ha
  have lb := state_len hb
  have h := diff_l0 (a := a) (b := b) (by omega) (by omega) a.length 0 [] (by omega) (by simp)
  rw [List.drop_zero, List.nil_append] at h
  have hA : Ev (fun k => impl_ValidState.f k a) true := by have := State_impl_ev (l := a) (by omega); rwa [ha] at this
  have hB : Ev (fun k => impl_ValidState.f k b) true := by have := State_impl_ev (l := b) (by omega); rwa [hb] at this
  unfold impl_DiffStates.f
  refine Ev.bind hA (Ev.pos rfl (Ev.bind hB ?_))
  exact Ev.step (fun k => by simp only [impl_DiffStates.j0, Bool.not_true, Bool.false_eq_true, if_false]; rfl) h
theorem ap_step {cs : List S61} (hc : cs.length ≤ 1048576) {i : Nat} (hlt : i < cs.length) {o : List S57} (ho : o.length ≤ 24) (hs : Asc (o.map (·.f0))) {r : List S57 × Int} (o' : List S57) (he : (cs[i].f0 = 1 ∧ o' = setG cs[i].f1.f0 cs[i].f1.f1 o false ∧ o'.length ≤ 24) ∨ (cs[i].f0 = 2 ∧ cs[i].f1 ∈ o ∧ o' = delS cs[i].f1.f0 o)) (h : Ev (fun k => impl_ApplyChanges.l0 k o' cs (cs.length : Int) ((i + 1 : Nat) : Int)) r) : Ev (fun k => impl_ApplyChanges.l0 k o cs (cs.length : Int) (i : Int)) r := by
    have hw := wrap_succ hlt (by omega)
    obtain ⟨x, hx⟩ : ∃ x, x = cs[i] := ⟨_, rfl⟩
    rw [← hx] at he
    have hr : rd_T61 cs (i : Int) = x := by rw [rd_chg hlt, hx]
    have su : ∀ k (p : Int) (fl : Bool), slices_BinarySearchFunc_S_impl_Setting.f (k + 2) o x.f1.f0 x.f1.f1 0 = some (p, fl) → impl_ApplyChanges.l0 (k + 3) o cs (cs.length : Int) (i : Int) = (if x.f0 = 1 then (if fl = true then impl_ApplyChanges.j2 (k + 2) o p fl cs (cs.length : Int) (i : Int) true x.f0 x.f1.f0 x.f1.f1 else (if ((o.length : Int) == 24) = true then some ([], 5) else (slices_Insert_S_impl_Setting.f o p [(⟨x.f1.f0, x.f1.f1⟩ : S57)]).bind fun t => impl_ApplyChanges.l0 k t cs (cs.length : Int) ((i + 1 : Nat) : Int))) else (if fl = true then (if 0 ≤ p then (if p < (o.length : Int) then (if (!((rd_T57 o p).f0.toList == x.f1.f0.toList) || (!((rd_T57 o p).f1 == x.f1.f1))) = true then some ([], 6) else (slices_Delete_S_impl_Setting.f o p (wrap64 (p + 1))).bind fun t => impl_ApplyChanges.l0 k t cs (cs.length : Int) ((i + 1 : Nat) : Int)) else none) else none) else some ([], 3))) := by
      intro k p fl hS
      simp only [impl_ApplyChanges.l0]
      rw [if_pos (lt_cast hlt), if_pos (nn_cast i), if_pos (lt_cast hlt), hr, hS, Option.bind_some]
      by_cases h1 : x.f0 = 1
      · rw [if_pos h1, if_pos h1]
        cases fl with
        | true => rw [if_pos rfl]
        | false =>
          rw [if_neg (by decide)]
          simp only [impl_ApplyChanges.j2]
          rw [if_neg (by decide), if_pos h1]
          simp only [impl_ApplyChanges.j3]
          rw [if_pos h1, hw]
      · rw [if_neg h1, if_neg h1]
        simp only [impl_ApplyChanges.j2]
        rw [if_neg (by decide), if_neg h1]
        simp only [impl_ApplyChanges.j3]
        rw [if_neg (by decide), if_neg h1, hw]
    have sv : ∀ k (p : Int) (fl : Bool), impl_ApplyChanges.j2 (k + 1) o p fl cs (cs.length : Int) (i : Int) true x.f0 x.f1.f0 x.f1.f1 = (if 0 ≤ p then (if p < (o.length : Int) then impl_ApplyChanges.l0 k (o.set p.toNat ⟨x.f1.f0, x.f1.f1⟩) cs (cs.length : Int) ((i + 1 : Nat) : Int) else none) else none) := by
      intro k p fl
      simp only [impl_ApplyChanges.j2]
      rw [if_pos trivial, hw]
    obtain ⟨a, b, e, ha, hb⟩ := split27 x.f1.f0 hs
    have hlen : o.length = a.length + b.length := by rw [e, List.length_append]
    rcases hb with ⟨y, c, rfl, hy, hcc⟩ | hb
    · -- the name is there
      have hS : ∀ k, 2000 ≤ k → slices_BinarySearchFunc_S_impl_Setting.f k o x.f1.f0 x.f1.f1 0 = some ((a.length : Int), true) := fun k hk => SearchS_eq (by omega) _ _ e ha (fun z hz => by
          rcases List.mem_cons.1 hz with rfl | hz
          · rw [hy]; exact Bool.eq_false_iff.2 (ltB_irrefl _)
          · exact not_lt_of (hcc z hz)) (fun y' c' e' => by
          obtain ⟨rfl, _⟩ := List.cons.inj e'
          rw [hy]
          have hn : Op.bytesLess x.f1.f0.toList x.f1.f0.toList = false := less_irrefl _
          unfold cmpS; rw [hn]; rfl) (fun e' => by cases e') hk
      have hlc : (y :: c).length = c.length + 1 := rfl
      have hry : rd_T57 o (a.length : Int) = y := by
        rw [rd_set27 (by omega)]
        simp only [e]
        rw [List.getElem_append_right (Nat.le_refl _)]; simp
      rcases he with ⟨h1, rfl, _⟩ | ⟨h1, hm, rfl⟩
      · have hset : setG x.f1.f0 x.f1.f1 o false = a ++ ⟨x.f1.f0, x.f1.f1⟩ :: c := by rw [e]; exact setG_found _ ha hy hcc
        have hset2 : o.set a.length ⟨x.f1.f0, x.f1.f1⟩ = a ++ ⟨x.f1.f0, x.f1.f1⟩ :: c := by
          rw [e, List.set_append_right _ _ (Nat.le_refl _), Nat.sub_self]; rfl
        refine Ev.from 2 2000 (fun k hk => ?_) h
        obtain ⟨k, rfl⟩ : ∃ q, k = q + 1 := ⟨k - 1, by omega⟩
        rw [su k _ _ (hS (k + 2) (by omega)), if_pos h1, if_pos rfl, sv (k + 1), if_pos (by omega), if_pos (by omega), Int.toNat_natCast, hset2, hset]
      · have hxy : x.f1 = y := asc_inj hs _ hm _ (by rw [e]; simp) hy.symm
        have h6 : ¬ (!(y.f0.toList == x.f1.f0.toList) || (!(y.f1 == x.f1.f1))) = true := by rw [hxy]; simp
        have hwp : wrap64 ((a.length : Int) + 1) = (a.length : Int) + 1 := wrap_id (by omega) (by omega)
        have hdel : delS x.f1.f0 o = a ++ c := by rw [e]; exact del_at ha hy hcc
        refine Ev.from 3 2000 (fun k hk => ?_) h
        rw [su k _ _ (hS (k + 2) (by omega)), if_neg (by omega), if_pos rfl, if_pos (by omega), if_pos (by omega), hry, if_neg h6, hwp, hdel]
        rw [e, DelS_eq (by rw [← e]; omega), Option.bind_some]
    · -- it is not
      have hS : ∀ k, 2000 ≤ k → slices_BinarySearchFunc_S_impl_Setting.f k o x.f1.f0 x.f1.f1 0 = some ((a.length : Int), false) := fun k hk => SearchS_eq (by omega) _ _ e ha (fun z hz => not_lt_of (hb z hz)) (fun y' c' e' => by
          have hz := hb y' (by rw [e']; exact List.mem_cons_self)
          have h1 : Op.bytesLess y'.f0.toList x.f1.f0.toList = false := not_lt_of hz
          have h2 : Op.bytesLess x.f1.f0.toList y'.f0.toList = true := hz
          unfold cmpS; rw [h1, h2]; rfl) (fun _ => rfl) hk
      rcases he with ⟨h1, rfl, h24⟩ | ⟨h1, hm, rfl⟩
      · have hset : setG x.f1.f0 x.f1.f1 o false = a ++ ⟨x.f1.f0, x.f1.f1⟩ :: b := by rw [e]; exact setG_new _ ha hb
        have hl2 : (a ++ (⟨x.f1.f0, x.f1.f1⟩ : S57) :: b).length = o.length + 1 := by rw [List.length_append, List.length_cons]; omega
        rw [hset, hl2] at h24
        refine Ev.from 3 2000 (fun k hk => ?_) h
        rw [su k _ _ (hS (k + 2) (by omega)), if_pos h1, if_neg (by decide), if_neg (by rw [beq_iff_eq]; omega), hset]
        rw [e, InsS_eq (by rw [← e]; omega), Option.bind_some]
      · rw [e] at hm
        rcases List.mem_append.1 hm with hm | hm
        · exact absurd rfl (ne_lt (ha _ hm))
        · exact absurd rfl (ne_gt (hb _ hm))
theorem drops_run {cs : List S61} (hc : cs.length ≤ 1048576) : ∀ (D : List S57) (i : Nat) (o : List S57), (cs.drop i).take D.length = D.map (fun x => ⟨2, x⟩) → o.length ≤ 24 → Asc (o.map (·.f0)) → (∀ x ∈ D, x ∈ o) → Asc (D.map (·.f0)) → ∀ {r}, Ev (fun k => impl_ApplyChanges.l0 k (D.foldl (fun o x => delS x.f0 o) o) cs (cs.length : Int) ((i + D.length : Nat) : Int)) r → Ev (fun k => impl_ApplyChanges.l0 k o cs (cs.length : Int) (i : Int)) r
  | [], i, o, _, _, _, _, _, r, h => h
  | x :: D, i, o, hd, ho, hs, hm, hD, r, h => by
    obtain ⟨hD1, hD2⟩ := List.pairwise_cons.1 hD
    have hlt : i < cs.length := by
      have := congrArg List.length hd
      simp only [List.length_take, List.length_drop, List.length_map, List.length_cons] at this
      omega
    rw [drop_cons hlt] at hd
    simp only [List.length_cons, List.take_succ_cons, List.map_cons, List.cons.injEq] at hd
    obtain ⟨hx, hd⟩ := hd
    have := drops_run hc D (i + 1) (delS x.f0 o) hd (Nat.le_trans (del_len _ _) ho) (del_asc hs) (fun z hz => mem_del.2 ⟨hm z (List.mem_cons_of_mem _ hz), fun e => by
      have := hD1 z.f0 (List.mem_map.2 ⟨z, hz, rfl⟩)
      rw [e] at this; exact ltB_irrefl _ this⟩) hD2 (r := r) (by rw [show i + 1 + D.length = i + (x :: D).length by rw [List.length_cons]; omega]; exact h)
    refine ap_step hc hlt ho hs (delS x.f0 o) (.inr ?_) this
    rw [hx]
    exact ⟨rfl, hm x List.mem_cons_self, rfl⟩
theorem sets_run {cs : List S61} (hc : cs.length ≤ 1048576) : ∀ (D : List S57) (i : Nat) (o : List S57), (cs.drop i).take D.length = D.map (fun x => ⟨1, x⟩) → o.length + D.length ≤ 24 → Asc (o.map (·.f0)) → ∀ {r}, Ev (fun k => impl_ApplyChanges.l0 k (D.foldl (fun o x => setG x.f0 x.f1 o false) o) cs (cs.length : Int) ((i + D.length : Nat) : Int)) r → Ev (fun k => impl_ApplyChanges.l0 k o cs (cs.length : Int) (i : Int)) r
  | [], i, o, _, _, _, r, h => h
  | x :: D, i, o, hd, ho, hs, r, h => by
    have hlt : i < cs.length := by
      have := congrArg List.length hd
      simp only [List.length_take, List.length_drop, List.length_map, List.length_cons] at this
      omega
    rw [drop_cons hlt] at hd
    simp only [List.length_cons, List.take_succ_cons, List.map_cons, List.cons.injEq] at hd
    obtain ⟨hx, hd⟩ := hd
    have hl := setG_len x.f0 x.f1 o false
    rw [List.length_cons] at ho
    have := sets_run hc D (i + 1) (setG x.f0 x.f1 o false) hd (by omega) (set_asc hs) (r := r) (by rw [show i + 1 + D.length = i + (x :: D).length by rw [List.length_cons]; omega]; exact h)
    refine ap_step hc hlt (by omega) hs (setG x.f0 x.f1 o false) (.inl ?_) this
    rw [hx]
    exact ⟨rfl, rfl, by omega⟩
theorem mem_dels : ∀ (D o : List S57) (x : S57), x ∈ D.foldl (fun o x => delS x.f0 o) o ↔ x ∈ o ∧ ∀ d ∈ D, d.f0 ≠ x.f0
  | [], o, x => by simp
  | d :: D, o, x => by
    rw [List.foldl_cons, mem_dels D, mem_del]
    constructor
    · rintro ⟨⟨h1, h2⟩, h3⟩
      refine ⟨h1, fun e he => ?_⟩
      rcases List.mem_cons.1 he with rfl | he
      · exact fun q => h2 q.symm
      · exact h3 e he
    · rintro ⟨h1, h2⟩
      exact ⟨⟨h1, fun q => h2 d List.mem_cons_self q.symm⟩, fun e he => h2 e (List.mem_cons_of_mem _ he)⟩
theorem dels_asc : ∀ (D : List S57) {o : List S57}, Asc (o.map (·.f0)) → Asc ((D.foldl (fun o x => delS x.f0 o) o).map (·.f0))
  | [], _, h => h
  | d :: D, o, h => dels_asc D (del_asc h)
theorem dels_len : ∀ (D o : List S57), (D.foldl (fun o x => delS x.f0 o) o).length ≤ o.length
  | [], _ => Nat.le_refl _
  | d :: D, o => Nat.le_trans (dels_len D (delS d.f0 o)) (del_len _ _)
theorem sets_asc : ∀ (D : List S57) {o : List S57}, Asc (o.map (·.f0)) → Asc ((D.foldl (fun o x => setG x.f0 x.f1 o false) o).map (·.f0))
  | [], _, h => h
  | d :: D, o, h => sets_asc D (set_asc h)
theorem mem_sets : ∀ (D : List S57) {o : List S57}, Asc (D.map (·.f0)) → Asc (o.map (·.f0)) → ∀ (x : S57), x ∈ D.foldl (fun o x => setG x.f0 x.f1 o false) o ↔ x ∈ D ∨ (x ∈ o ∧ ∀ d ∈ D, d.f0 ≠ x.f0)
  | [], o, _, _, x => by simp
  | d :: D, o, hD, h, x => by
    obtain ⟨hD1, hD2⟩ := List.pairwise_cons.1 hD
    rw [List.foldl_cons, mem_sets D hD2 (set_asc h), mem_set h]
    constructor
    · rintro (h1 | ⟨h1 | ⟨h1, h2⟩, h3⟩)
      · exact .inl (List.mem_cons_of_mem _ h1)
      · exact .inl (by rw [h1]; exact List.mem_cons_self)
      · refine .inr ⟨h1, fun e he => ?_⟩
        rcases List.mem_cons.1 he with rfl | he
        · exact fun q => h2 q.symm
        · exact h3 e he
    · rintro (h1 | ⟨h1, h2⟩)
      · rcases List.mem_cons.1 h1 with rfl | h1
        · refine .inr ⟨.inl rfl, fun e he q => ?_⟩
          have := hD1 e.f0 (List.mem_map.2 ⟨e, he, rfl⟩)
          rw [q] at this; exact ltB_irrefl _ this
        · exact .inl h1
      · exact .inr ⟨.inr ⟨h1, fun q => h2 d List.mem_cons_self q.symm⟩, fun e he => h2 e (List.mem_cons_of_mem _ he)⟩
theorem chg_back {a b : List S57} (ha : Asc (a.map (·.f0))) (hb : Asc (b.map (·.f0))) : (setsD a b).foldl (fun o x => setG x.f0 x.f1 o false) ((dropsD a b).foldl (fun o x => delS x.f0 o) a) = b := by
  have hS : Asc ((setsD a b).map (·.f0)) := by
    unfold Asc setsD at *
    exact hb.sublist ((List.filter_sublist).map _)
  refine ascS_ext (sets_asc _ (dels_asc _ ha)) hb fun x => ?_
  rw [mem_sets _ hS (dels_asc _ ha), mem_dels]
  have inD : ∀ z, z ∈ dropsD a b ↔ z ∈ a ∧ (val27 z.f0 b).2 = false := fun z => by
    unfold dropsD; rw [List.mem_filter]; simp
  have inS : ∀ z, z ∈ setsD a b ↔ z ∈ b ∧ ¬ z ∈ a := fun z => by
    unfold setsD
    rw [List.mem_filter, Bool.not_eq_true', Bool.and_eq_false_iff, decide_eq_false_iff_not]
    constructor
    · rintro ⟨h1, h2⟩
      refine ⟨h1, fun hz => ?_⟩
      rw [val_mem ha z hz] at h2
      rcases h2 with h2 | h2
      · cases h2
      · exact h2 rfl
    · rintro ⟨h1, h2⟩
      refine ⟨h1, ?_⟩
      cases hv : (val27 z.f0 a).2 with
      | false => exact .inl rfl
      | true =>
        right
        intro he
        apply h2
        obtain ⟨y, hy, h3, h4⟩ := val_some (n := z.f0) (v := z.f1) (l := a) (by rw [← he, ← hv])
        have : y = z := by cases y; cases z; simp_all
        rw [← this]; exact hy
  constructor
  · rintro (h | ⟨⟨h1, h2⟩, h3⟩)
    · exact ((inS x).1 h).1
    · cases hv : (val27 x.f0 b).2 with
      | false => exact absurd rfl (h2 x ((inD x).2 ⟨h1, hv⟩))
      | true =>
        obtain ⟨y, hy, q1, q2⟩ := val_some (n := x.f0) (v := (val27 x.f0 b).1) (l := b) (by rw [← hv])
        by_cases hya : y ∈ a
        · have : y = x := asc_inj ha y hya x h1 q1
          rw [← this]; exact hy
        · exact absurd q1 (h3 y ((inS y).2 ⟨hy, hya⟩))
  · intro h
    by_cases hx : x ∈ a
    · refine .inr ⟨⟨hx, fun d hd q => ?_⟩, fun d hd q => ?_⟩
      · have := (inD d).1 hd
        exact val_none this.2 x h q.symm
      · have := (inS d).1 hd
        have e : d = x := asc_inj hb d this.1 x h q
        rw [e] at this; exact this.2 hx
    · exact .inl ((inS x).2 ⟨h, hx⟩)
theorem Apply_ok {a b : List S57} (ha : stateB a = true) (hb : stateB b = true) (hl : a.length + b.length ≤ 24) : Ev (fun k => impl_ApplyChanges.f k a (chgD a b)) (b, 0) := by
  have la := state_len ha
  have lb := state_len hb
  have aa := state_asc ha
  have ab := state_asc hb
  have hA : Ev (fun k => impl_ValidState.f k a) true := by have := State_impl_ev (l := a) (by omega); rwa [ha] at this
  have lD : (dropsD a b).length ≤ a.length := List.length_filter_le _ _
  have lS : (setsD a b).length ≤ b.length := List.length_filter_le _ _
  have lc : (chgD a b).length = (dropsD a b).length + (setsD a b).length := by unfold chgD; rw [List.length_append, List.length_map, List.length_map]
  have hall : (chgD a b).all changeB = true := by
    rw [List.all_eq_true]
    intro x hx
    unfold chgD at hx
    unfold changeB
    rcases List.mem_append.1 hx with hx | hx
    · obtain ⟨y, hy, rfl⟩ := List.mem_map.1 hx
      have := state_setting ha y (List.mem_filter.1 hy).1
      show (true && settingB y) = true
      rw [this]; rfl
    · obtain ⟨y, hy, rfl⟩ := List.mem_map.1 hx
      have := state_setting hb y (List.mem_filter.1 hy).1
      show (true && settingB y) = true
      rw [this]; rfl
  have hC := ContainsC_ev (chgD a b)
  rw [hall] at hC
  have hDA : Asc ((dropsD a b).map (·.f0)) := by
    unfold Asc dropsD at *
    exact aa.sublist ((List.filter_sublist).map _)
  have main : Ev (fun k => impl_ApplyChanges.l0 k a (chgD a b) ((chgD a b).length : Int) ((0 : Nat) : Int)) (b, 0) := by
    refine drops_run (by omega) (dropsD a b) 0 a ?_ (by omega) aa (fun x hx => (List.mem_filter.1 hx).1) hDA ?_
    · unfold chgD
      rw [List.drop_zero]
      exact List.take_left' (List.length_map _)
    · refine sets_run (by omega) (setsD a b) (0 + (dropsD a b).length) _ ?_ ?_ (dels_asc _ aa) ?_
      · unfold chgD
        rw [Nat.zero_add, List.drop_left' (List.length_map _)]
        exact List.take_of_length_le (by rw [List.length_map]; omega)
      · have := dels_len (dropsD a b) a
        omega
      · rw [chg_back aa ab]
        refine Ev.from 1 0 (fun k _ => ?_) (Ev.now _)
        simp only [impl_ApplyChanges.l0]
        rw [if_neg (by rw [lc]; omega)]
  unfold impl_ApplyChanges.f
  refine Ev.bind hA (Ev.pos rfl (Ev.bind hC ?_))
  refine Ev.step (f := fun k => impl_ApplyChanges.l0 k a (chgD a b) ((chgD a b).length : Int) 0) (fun k => ?_) main
  have hcl : slices_Clone_S_impl_Setting.f a = some a := by
    unfold slices_Clone_S_impl_Setting.f
    first | rfl | (rw [if_pos (by omega)])
  simp only [impl_ApplyChanges.j0]
  rw [if_neg (by decide), hcl, Option.bind_some]

/-- The digits of a number from behind, as the reference lays them. -/
def rdig (u : Nat) : List Int := if h : u = 0 then [] else (48 + (u % 10 : Nat) : Int) :: rdig (u / 10)
termination_by u
decreasing_by omega
theorem rdig_zero : rdig 0 = [] := by rw [rdig, dif_pos rfl]
theorem rdig_pos {u : Nat} (h : u ≠ 0) : rdig u = (48 + (u % 10 : Nat) : Int) :: rdig (u / 10) := by rw [rdig, dif_neg h]
theorem rdig_dec : ∀ (n u : Nat), u ≤ n → u ≠ 0 → (rdig u).reverse.map (fun z => UInt8.ofNat z.toNat) = Lib.decDigits u := by
  intro n
  induction n with
  | zero => intro u h h0; omega
  | succ n ih =>
    intro u h h0
    rw [rdig_pos h0, List.reverse_cons, List.map_append, Lib.decDigits]
    by_cases h10 : u < 10
    · rw [dif_pos h10, show u / 10 = 0 by omega, rdig_zero]
      have : (48 + ((u % 10 : Nat) : Int)).toNat = 48 + u := by omega
      show [UInt8.ofNat (48 + ((u % 10 : Nat) : Int)).toNat] = _
      rw [this]
    · rw [dif_neg h10, ih (u / 10) (by omega) (by omega)]
      have : (48 + ((u % 10 : Nat) : Int)).toNat = 48 + u % 10 := by omega
      show _ ++ [UInt8.ofNat (48 + ((u % 10 : Nat) : Int)).toNat] = _
      rw [this]
theorem rdig_length : ∀ (n u : Nat), u < 10 ^ n → (rdig u).length ≤ n := by
  intro n
  induction n with
  | zero => intro u h; have : u = 0 := by simpa using h
            subst this; simp [rdig_zero]
  | succ n ih =>
    intro u h
    by_cases h0 : u = 0
    · subst h0; simp [rdig_zero]
    · rw [rdig_pos h0, List.length_cons]
      have := ih (u / 10) (by rw [Nat.pow_succ] at h; omega)
      omega
theorem Decimal_eq {n : Int} (h0 : -9223372036854775808 ≤ n) (h1 : n ≤ 9223372036854775807) : impl_Decimal.f n = some (impl_Decimal.t n) := if_pos ⟨h0, h1⟩
theorem Decimal_size {n : Int} (h0 : -9223372036854775808 ≤ n) (h1 : n ≤ 9223372036854775807) : (impl_Decimal.t n).size ≤ 21 := by
  have hr := rdig_length 20 n.natAbs (by omega)
  have hs : (impl_Decimal.t n).size = (Lib.itoa n).length := by unfold impl_Decimal.t; show (Lib.itoa n).toArray.size = _; simp
  have hd : ∀ u : Nat, u ≠ 0 → u = n.natAbs → (Lib.decDigits u).length ≤ 20 := fun u hu e => by
    rw [← rdig_dec u u (Nat.le_refl _) hu, List.length_map, List.length_reverse, e]; exact hr
  rw [hs]
  unfold Lib.itoa
  by_cases hz : n = 0
  · subst hz
    have : Lib.decDigits (Int.toNat 0) = [48] := Lib.decDigits_one (i := 0) (by decide)
    rw [if_neg (by decide), this]; decide
  · by_cases hx : n < 0
    · rw [if_pos hx, List.length_cons]; have := hd n.natAbs (by omega) rfl; omega
    · rw [if_neg hx]; have := hd n.toNat (by omega) (by omega); omega

def vset (s : ByteArray) (x : S57) : ByteArray := s ++ ((((⟨#[32]⟩ : ByteArray) ++ x.f0) ++ (⟨#[61]⟩ : ByteArray)) ++ impl_Decimal.t x.f1)
def vend (m : ByteArray) (s : ByteArray) : ByteArray := if m.toList = ([] : List UInt8) then s else s ++ ((⟨#[32, 35, 32]⟩ : ByteArray) ++ m)
theorem state_each {l : List S57} (h : stateB l = true) : l.length ≤ 24 ∧ ∀ x ∈ l, x.f0.size ≤ 10 ∧ 0 ≤ x.f1 ∧ x.f1 ≤ 1000 := by
  unfold stateB at h
  simp only [Bool.and_eq_true, List.all_eq_true, List.mem_range, decide_eq_true_iff] at h
  refine ⟨h.2, fun x hx => ?_⟩
  obtain ⟨i, hi, rfl⟩ := List.getElem_of_mem hx
  have h2 := h.1 i hi
  unfold stateAt at h2
  rw [rd_set27 hi, Bool.and_eq_true] at h2
  have h3 := h2.1
  unfold settingB nameB at h3
  simp only [Bool.and_eq_true, decide_eq_true_iff] at h3
  exact ⟨h3.1.1.1.2, h3.2.1, h3.2.2⟩
theorem vset_size (s : ByteArray) {x : S57} (h : x.f0.size ≤ 10) (h0 : 0 ≤ x.f1) (h1 : x.f1 ≤ 1000) : (vset s x).size ≤ s.size + 40 := by
  have := Decimal_size (n := x.f1) (by omega) (by omega)
  have e1 : (⟨#[32]⟩ : ByteArray).size = 1 := rfl
  have e2 : (⟨#[61]⟩ : ByteArray).size = 1 := rfl
  unfold vset
  simp only [ByteArray.size_append]
  omega
theorem VT_impl {l : List S57} (h : stateB l = true) (a b : Int) {m : ByteArray} (hm : m.size ≤ 20) {s : ByteArray} (hs : s.size ≤ 100) {k : Nat} (hk : 4000 ≤ k) : impl_VersionText.l0 k s l (l.length : Int) 0 a b m l = some (vend m (l.foldl vset s)) := by
  obtain ⟨hl, hx⟩ := state_each h
  have e1 : (⟨#[32]⟩ : ByteArray).size = 1 := rfl
  have e2 : (⟨#[61]⟩ : ByteArray).size = 1 := rfl
  have e3 : (⟨#[32, 35, 32]⟩ : ByteArray).size = 3 := rfl
  refine list_loop (fun k s i => impl_VersionText.l0 k s l (l.length : Int) i a b m l) l (fun r s => vend m (r.foldl vset s)) (fun i s => s.size ≤ 100 + 40 * i) 2100 (fun k i hi s hI hB => ?_) (fun k s hI => ?_) k s (by omega) (by simpa using hs)
  · right
    obtain ⟨q0, q1, q2⟩ := hx l[i] (List.getElem_mem hi)
    have hv := vset_size s q0 q1 q2
    have hd := Decimal_size (n := l[i].f1) (by omega) (by omega)
    refine ⟨vset s l[i], by omega, rfl, ?_⟩
    simp only [impl_VersionText.l0]
    rw [if_pos (lt_cast hi), if_pos (nn_cast i), if_pos (lt_cast hi), rd_set27 hi, if_pos (by omega), if_pos (by simp only [ByteArray.size_append]; omega), Decimal_eq (by omega) (by omega), wrap_succ hi (by omega)]
    simp only [Option.bind_some]
    rw [if_pos (by simp only [ByteArray.size_append]; omega), if_pos (by simp only [ByteArray.size_append]; omega)]
    rfl
  · have hI' : s.size ≤ 100 + 40 * l.length := hI
    simp only [impl_VersionText.l0]
    rw [if_neg (nlt_cast _)]
    unfold vend
    by_cases he : m.toList = ([] : List UInt8)
    · rw [if_pos he, List.foldl_nil, if_pos he]
    · rw [if_neg he, List.foldl_nil, if_neg he, if_pos (by omega), if_pos (by simp only [ByteArray.size_append]; omega)]
theorem memo_size {m : ByteArray} (h : memoB m = true) : m.size ≤ 20 := by
  unfold memoB at h
  rw [Bool.and_eq_true] at h
  exact of_decide_eq_true h.2
theorem vset_grow (s : ByteArray) (x : S57) : s.size ≤ (vset s x).size := by
  unfold vset
  simp only [ByteArray.size_append]; omega
theorem vsets_grow : ∀ (l : List S57) (s : ByteArray), s.size ≤ (l.foldl vset s).size
  | [], _ => Nat.le_refl _
  | x :: r, s => Nat.le_trans (vset_grow s x) (vsets_grow r (vset s x))
theorem vend_grow (m s : ByteArray) : s.size ≤ (vend m s).size := by
  unfold vend
  split
  · exact Nat.le_refl _
  · simp only [ByteArray.size_append]; omega
/-- A valid version has a text that is not empty. -/
theorem VersionText_ok {a b : Int} {m : ByteArray} {l : List S57} (h1 : 1 ≤ a) (h2 : a ≤ 32) (h3 : 0 ≤ b) (h4 : b ≤ a - 1) (h5 : memoB m = true) (h6 : stateB l = true) : ∃ t : ByteArray, Ev (fun k => impl_VersionText.f k a b m l) t ∧ 1 ≤ t.size := by
  have hl := state_len h6
  have hms := memo_size h5
  have d0 := Decimal_size (n := a) (by omega) (by omega)
  have d1 := Decimal_size (n := b) (by omega) (by omega)
  have e2 : (⟨#[60]⟩ : ByteArray).size = 1 := rfl
  have hz : ((impl_Decimal.t a ++ (⟨#[60]⟩ : ByteArray)) ++ impl_Decimal.t b).size ≤ 100 := by simp only [ByteArray.size_append]; omega
  have hz1 : (impl_Decimal.t a).size + 1 ≤ 9223372036854775807 := by omega
  have hz2 : (impl_Decimal.t a ++ (⟨#[60]⟩ : ByteArray)).size + (impl_Decimal.t b).size ≤ 9223372036854775807 := by simp only [ByteArray.size_append]; omega
  have hz3 : 1 ≤ ((impl_Decimal.t a ++ (⟨#[60]⟩ : ByteArray)) ++ impl_Decimal.t b).size := by simp only [ByteArray.size_append]; omega
  refine ⟨vend m (l.foldl vset ((impl_Decimal.t a ++ (⟨#[60]⟩ : ByteArray)) ++ impl_Decimal.t b)), Ev.le 1048700 (fun k hk => ?_), Nat.le_trans hz3 (Nat.le_trans (vsets_grow _ _) (vend_grow _ _))⟩
  have c1 : (decide (1 ≤ a) && decide (a ≤ 32)) = true := by simp only [Bool.and_eq_true, decide_eq_true_iff]; exact ⟨h1, h2⟩
  have c2 : (decide (0 ≤ b) && decide (b ≤ wrap64 (a - 1))) = true := by
    rw [wrap_id (by omega) (by omega)]; simp only [Bool.and_eq_true, decide_eq_true_iff]; exact ⟨h3, h4⟩
  unfold impl_VersionText.f
  rw [within_eq, Option.bind_some, if_pos c1, within_eq, Option.bind_some, if_pos c2, memoValid_eq _ (by omega), Option.bind_some, if_pos h5, ValidState_eq (by omega) (by omega), Option.bind_some, h6]
  obtain ⟨k, rfl⟩ : ∃ m, k = m + 1 := ⟨k - 1, by omega⟩
  simp only [impl_VersionText.j0]
  rw [if_neg (by decide), Decimal_eq (by omega) (by omega)]; simp only [Option.bind_some]
  rw [if_pos hz1, Decimal_eq (by omega) (by omega)]; simp only [Option.bind_some]
  rw [if_pos hz2, VT_impl h6 _ _ hms hz (by omega)]
end Go.Proofs.YtocegmkifmdlcaaDoor.P

namespace Go.Proofs.YtocegmkifmdlcaaDoor.Pure
open Go.RowKit Go.Proofs.YtocegmkifmdlcaaDoorW.PrintWords Go.Proofs.YtocegmkifmdlcaaDoorL Go.Proofs.YtocegmkifmdlcaaDoor.P
set_option linter.unusedVariables false
set_option linter.unusedSimpArgs false
theorem bts_of {l : List Int} (h : ∀ y ∈ l, (Lit.int .u8 y).wf = true) : Bts l := fun y hy => by
  have := h y hy
  simp only [Lit.wf, IntKind.min, IntKind.max, IntKind.signed, IntKind.bits, Bool.and_eq_true] at this
  simp at this
  omega
theorem Same_self {l : List S57} (hl : l.length ≤ 1048576) : Ev (fun k => spec_SameState.f k l l) true := by
  have main : ∀ (e i : Nat), i + e = l.length → Ev (fun k => spec_l27Same.l0 k l l (i : Int)) true := by
    intro e
    induction e with
    | zero =>
      intro i hi
      obtain rfl : i = l.length := by omega
      exact Ev.step (f := fun _ => some true) (fun k => by simp only [spec_l27Same.l0]; rw [if_neg (nlt_cast _)]) (Ev.now _)
    | succ e ih =>
      intro i hi
      have hlt : i < l.length := by omega
      refine Ev.step (fun k => ?_) (ih (i + 1) (by omega))
      simp only [spec_l27Same.l0]
      rw [if_pos (lt_cast hlt), if_pos (nn_cast i), if_pos (lt_cast hlt), if_neg (by simp), wrap_succ hlt (by omega)]
  unfold spec_SameState.f spec_l27Same.f
  exact Ev.bind (Ev.pos rfl (main l.length 0 (by omega))) (Ev.now _)
theorem At_ok {l : List Int} (hl : Bts l) {a n : Int} (ha : 0 ≤ a) (hn : 1 ≤ n) : ∃ v, laws_r8At.f l a n = some v ∧ 0 ≤ v ∧ v < n := by
  unfold laws_r8At.f
  by_cases h1 : n ≤ 1
  · rw [if_pos h1]; exact ⟨0, rfl, by omega, by omega⟩
  rw [if_neg h1]
  by_cases h2 : a ≥ (l.length : Int)
  · rw [if_pos h2]; exact ⟨0, rfl, by omega, by omega⟩
  rw [if_neg h2, if_pos ha, if_pos (by omega), if_neg (by omega)]
  obtain ⟨m, rfl⟩ : ∃ m : Nat, a = (m : Int) := ⟨a.toNat, by omega⟩
  have hm : m < l.length := by omega
  have hb := hl l[m] (List.getElem_mem hm)
  rw [rd_get hm, wrap_id (by omega) (by omega)]
  refine ⟨_, rfl, ?_, ?_⟩
  · rw [Int.tmod_eq_emod_of_nonneg hb.1]; exact Int.emod_nonneg _ (by omega)
  · rw [Int.tmod_eq_emod_of_nonneg hb.1]; exact Int.emod_lt_of_pos _ (by omega)
theorem Has_ev {l : List Int} (hl : l.length ≤ 1048576) (x : Int) : Ev (fun k => laws_r8Has.f k l x) (decide (x ∈ l)) := by
  unfold laws_r8Has.f
  have main : ∀ (d i : Nat), i + d = l.length → Ev (fun k => laws_r8Has.l0 k l x (i : Int)) (decide (x ∈ l.drop i)) := by
    intro d
    induction d with
    | zero =>
      intro i hi
      obtain rfl : i = l.length := by omega
      rw [List.drop_length]
      exact Ev.step (f := fun _ => some false) (fun k => by simp only [laws_r8Has.l0]; rw [if_neg (nlt_cast _)]) (by simpa using Ev.now false)
    | succ d ih =>
      intro i hi
      have hlt : i < l.length := by omega
      rw [drop_cons hlt]
      by_cases h : l[i] = x
      · rw [decide_eq_true (by rw [h]; exact List.mem_cons_self)]
        refine Ev.step (f := fun _ => some true) (fun k => ?_) (Ev.now _)
        simp only [laws_r8Has.l0]
        rw [if_pos (lt_cast hlt), if_pos (nn_cast i), rd_get hlt, if_pos h]
      · have e : decide (x ∈ l[i] :: l.drop (i + 1)) = decide (x ∈ l.drop (i + 1)) := by
          congr 1
          rw [List.mem_cons]
          exact propext ⟨fun q => q.resolve_left (fun q => h q.symm), .inr⟩
        rw [e]
        refine Ev.step (fun k => ?_) (ih (i + 1) (by omega))
        simp only [laws_r8Has.l0]
        rw [if_pos (lt_cast hlt), if_pos (nn_cast i), rd_get hlt, if_neg h, wrap_succ hlt (by omega)]
  have := main l.length 0 (by omega)
  rw [List.drop_zero] at this
  exact this
theorem hist_push {l : List S48} (h : historyB l = true) (hl : l.length ≤ 30) {p : Int} (p0 : 0 ≤ p) (p1 : p ≤ l.length) {m : ByteArray} (hm : memoB m = true) {s : List S57} (hs : stateB s = true) : historyB (l ++ [impl_withVersion.new l p m s]) = true := by
  unfold historyB at h ⊢
  simp only [Bool.and_eq_true, List.all_eq_true, List.mem_range, decide_eq_true_iff] at h ⊢
  refine ⟨fun i hi => ?_, by simp; omega⟩
  unfold versionAt
  rw [rd_iVersion hi]
  by_cases e : i < l.length
  · rw [List.getElem_append_left e]
    have := h.1 i e
    unfold versionAt at this
    rw [rd_iVersion e] at this
    exact this
  · simp only [List.length_append, List.length_singleton] at hi
    obtain rfl : i = l.length := by omega
    rw [List.getElem_append_right (by omega)]
    simp only [Nat.sub_self, List.getElem_singleton, Bool.and_eq_true, decide_eq_true_iff]
    exact ⟨⟨⟨rfl, p0, p1⟩, hm⟩, hs⟩
theorem with_ok {l : List S48} (h : historyB l = true) (hl : l.length ≤ 30) {p : Int} (p0 : 0 ≤ p) (p1 : p ≤ l.length) {m : ByteArray} (hm : memoB m = true) {s : List S57} (hs : stateB s = true) : impl_withVersion.f l p m s = some (l ++ [impl_withVersion.new l p m s], 0) := by
  have hv := hist_push h hl p0 p1 hm hs
  have hall : ((l ++ [impl_withVersion.new l p m s]).all fun x => decide (x.f3.length < 1000000000000)) = true := by
    rw [List.all_eq_true]
    intro x hx
    have := (okV_hist hv x hx).2
    exact decide_eq_true (by omega)
  unfold impl_withVersion.f
  rw [if_neg (by omega), if_pos (by omega), if_pos hall]
theorem Commit_ok {l : List S48} (h : historyB l = true) (hl : l.length ≤ 30) {p : Int} (p0 : 0 ≤ p) (p1 : p ≤ l.length) {m : ByteArray} (hm : memoB m = true) {s : List S57} (hs : stateB s = true) : Ev (fun k => impl_CommitState.f k l p m s) (l ++ [impl_withVersion.new l p m s], 0) := by
  have e2 : Ev (fun k => impl_ValidHistory.f k l) true := Ev.le 2097200 (fun k hk => by rw [ValidHistory_eq (by omega) (okV_hist h) hk, h])
  have e4 : Ev (fun k => impl_memoValid.f k m) true := Ev.le 1048600 (fun k hk => by rw [memoValid_eq m hk, hm])
  have ls := state_len hs
  have e6 : Ev (fun k => impl_ValidState.f k s) true := by have := State_impl_ev (l := s) (by omega); rwa [hs] at this
  unfold impl_CommitState.f
  refine Ev.bind e2 (Ev.pos rfl (Ev.bind e4 (Ev.pos rfl (Ev.bind e6 ?_))))
  refine Ev.step (f := fun _ => some (l ++ [impl_withVersion.new l p m s], 0)) (fun k => ?_) (Ev.now _)
  have hw : impl_within.f p 0 (l.length : Int) = some (decide (0 ≤ p) && decide (p ≤ (l.length : Int))) := within_eq _ _ _
  rw [decide_eq_true p0, decide_eq_true p1] at hw
  simp only [impl_CommitState.j0]
  rw [if_neg (by decide), hw, Option.bind_some, if_pos (by rfl), with_ok h hl p0 p1 hm hs, Option.bind_some]
theorem dec_one {n : Int} (h0 : 1 ≤ n) (h1 : n ≤ 9) : impl_Decimal.t n = ⟨#[UInt8.ofNat (48 + n.toNat)]⟩ := by
  unfold impl_Decimal.t Lib.itoa
  have : n = 1 ∨ n = 2 ∨ n = 3 ∨ n = 4 ∨ n = 5 ∨ n = 6 ∨ n = 7 ∨ n = 8 ∨ n = 9 := by omega
  rcases this with rfl | rfl | rfl | rfl | rfl | rfl | rfl | rfl | rfl <;> simp [Lib.decDigits]
theorem undo_memo {n : Int} (h0 : 1 ≤ n) (h1 : n ≤ 7) : memoB ((⟨#[117, 110, 100, 111, 32]⟩ : ByteArray) ++ impl_Decimal.t n) = true := by
  have : n = 1 ∨ n = 2 ∨ n = 3 ∨ n = 4 ∨ n = 5 ∨ n = 6 ∨ n = 7 := by omega
  rw [dec_one h0 (by omega)]
  rcases this with rfl | rfl | rfl | rfl | rfl | rfl | rfl <;> decide
theorem code_ok {l : List S48} (h : historyB l = true) {ns : List Int} (hn : ∀ n ∈ ns, 1 ≤ n ∧ n ≤ (l.length : Int)) : Ev (fun k => impl_versionsCode.f k l ns) 0 := Ev.le 2097200 (fun k hk => by
  have hl := (history_facts h).1
  rw [versionsCode_eq (by omega) (okV_hist h) _ hk, if_pos h, if_pos]
  rw [List.all_eq_true]
  intro n hm
  have := hn n hm
  simp only [Bool.and_eq_true, decide_eq_true_iff]
  exact this)
theorem Undo_ok {l : List S48} (h : historyB l = true) (hl : l.length ≤ 7) (h1 : 1 ≤ l.length) : Ev (fun k => impl_UndoVersion.f k l (l.length : Int)) (l ++ [impl_withVersion.new l (l.length : Int) ((⟨#[117, 110, 100, 111, 32]⟩ : ByteArray) ++ impl_Decimal.t (l.length : Int)) (stOf l (par l (l.length : Int)))], 0) ∧ historyB (l ++ [impl_withVersion.new l (l.length : Int) ((⟨#[117, 110, 100, 111, 32]⟩ : ByteArray) ++ impl_Decimal.t (l.length : Int)) (stOf l (par l (l.length : Int)))]) = true := by
  obtain ⟨h32, hpar⟩ := history_facts h
  have hp := hpar (l.length : Int) (by omega) (by omega)
  obtain ⟨v1, v2⟩ := versionState_ok h hp.1 (by omega : par l (l.length : Int) ≤ (l.length : Int))
  have hm := undo_memo (n := (l.length : Int)) (by omega) (by omega)
  have hd2 : impl_Decimal.f (l.length : Int) = some (impl_Decimal.t (l.length : Int)) := Decimal_eq (by omega) (by omega)
  have hD := Decimal_size (n := (l.length : Int)) (by omega) (by omega)
  refine ⟨?_, hist_push h (by omega) (by omega) (by omega) hm v2⟩
  unfold impl_UndoVersion.f
  refine Ev.bind (code_ok h (fun n hn => by rw [List.mem_singleton.1 hn]; omega)) (Ev.pos rfl (Ev.bind (Ev.const hd2) (Ev.pos (by omega) ?_)))
  have hw : wrap64 ((l.length : Int) - 1) = (l.length : Int) - 1 := wrap_id (by omega) (by omega)
  rw [hw]
  refine Ev.pos (by omega) (Ev.pos (by omega) (Ev.bind (Ev.const v1) (Ev.const ?_)))
  rw [with_ok h (by omega) (by omega) (by omega) hm v2, Option.bind_some]
theorem Anc_ok {l : List S48} (h : historyB l = true) {n : Int} (h0 : 1 ≤ n) (h1 : n ≤ l.length) : Ev (fun k => impl_AncestorsOf.f k l n) (lineL l 39 (par l n), 0) := by
  unfold impl_AncestorsOf.f
  have e2 : Ev (fun k => impl_lineOf.f k l n) (lineL l 40 n) := Ev.le 100 (fun k hk => lineOf_eq h (by omega) h1 hk)
  have h5 : lineL l 40 n = n :: lineL l 39 (par l n) := by rw [lineL, if_neg (by omega)]
  refine Ev.bind (code_ok h (fun m hm => by rw [List.mem_singleton.1 hm]; omega)) (Ev.pos rfl (Ev.bind e2 (Ev.pos ?_ ?_)))
  · rw [h5, List.length_cons]; omega
  · rw [h5, show (1 : Int).toNat = 1 from rfl]; exact Ev.now _
theorem Heads_ok {l : List S48} (h : historyB l = true) (h1 : 1 ≤ l.length) : Ev (fun k => impl_HeadsOf.f k l) (impl_HeadsOf.heads l l, 0) ∧ (l.length : Int) ∈ impl_HeadsOf.heads l l ∧ (impl_HeadsOf.heads l l).length ≤ 32 := by
  have hl := (history_facts h).1
  have e2 : Ev (fun k => impl_ValidHistory.f k l) true := Ev.le 2097200 (fun k hk => by rw [ValidHistory_eq (by omega) (okV_hist h) hk, h])
  refine ⟨?_, ?_, ?_⟩
  · unfold impl_HeadsOf.f
    exact Ev.bind e2 (Ev.pos rfl (Ev.pos (by omega) (Ev.now _)))
  · unfold historyB at h
    simp only [Bool.and_eq_true, List.all_eq_true, List.mem_range, decide_eq_true_iff] at h
    have hv : ∀ i (hi : i < l.length), l[i].f0 = (i : Int) + 1 ∧ l[i].f1 ≤ (i : Int) := fun i hi => by
      have := h.1 i hi
      unfold versionAt at this
      rw [rd_iVersion hi] at this
      simp only [Bool.and_eq_true, decide_eq_true_iff] at this
      exact ⟨this.1.1.1, this.1.1.2.2⟩
    have hlast := (hv (l.length - 1) (by omega)).1
    unfold impl_HeadsOf.heads
    refine List.mem_map.2 ⟨l[l.length - 1], List.mem_filter.2 ⟨List.getElem_mem _, ?_⟩, by rw [hlast]; omega⟩
    unfold impl_HeadsOf.head
    rw [Bool.not_eq_true', List.any_eq_false]
    intro x hx
    obtain ⟨i, hi, rfl⟩ := List.getElem_of_mem hx
    have := (hv i hi).2
    rw [hlast, beq_iff_eq]; omega
  · unfold impl_HeadsOf.heads
    rw [List.length_map]
    have := List.length_filter_le (impl_HeadsOf.head l) l
    omega
theorem common_self {l : List S48} {n : Int} (h : 1 ≤ n) : commonL l n n = n := by
  unfold commonL
  rw [line_cons (l := l) (n := n) (by omega), List.find?_cons_of_pos (by simp)]; rfl
/-- The versions above the new one are told in order, and the last one has a text. -/
theorem up_loop {up : List Int} (hl : up.length ≤ 1000) {n : Int} (hd : up.Pairwise fun a b => b < a) (hb : ∀ x ∈ up, 1 ≤ x ∧ x < n) (L : Nat → Int → Option Bool) (F : Nat → Option Bool)
    (step : ∀ k (i : Nat) (hi : i < up.length), ¬ up[i] < 1 → ¬ up[i] ≥ n → (∀ h : 0 < i, ¬ up[i] ≥ up[i - 1]'(by omega)) → L (k + 1) (i : Int) = L k ((i + 1 : Nat) : Int)) (stop : ∀ k, L (k + 1) (up.length : Int) = F k) (hF : Ev F true) : Ev (fun k => L k 0) true := by
  have main : ∀ (d i : Nat), i + d = up.length → Ev (fun k => L k (i : Int)) true := by
    intro d
    induction d with
    | zero =>
      intro i hi
      obtain rfl : i = up.length := by omega
      exact Ev.step stop hF
    | succ d ih =>
      intro i hi
      have hlt : i < up.length := by omega
      have hm := hb up[i] (List.getElem_mem hlt)
      refine Ev.step (fun k => step k i hlt (by omega) (by omega) (fun h => ?_)) (ih (i + 1) (by omega))
      rw [List.pairwise_iff_getElem] at hd
      have := hd (i - 1) i (by omega) hlt (by omega)
      omega
  exact main up.length 0 (by omega)
theorem next_memo : memoB (⟨#[110, 101, 120, 116]⟩ : ByteArray) = true := by decide
theorem FnVersions : ∀ (x0 : List Int) (x1 : List Int), (x0.length ≤ maxLen ∧ ∀ y ∈ x0, (Lit.int .u8 y).wf = true) → (x1.length ≤ maxLen ∧ ∀ y ∈ x1, (Lit.int .u8 y).wf = true) → ∃ k : Nat, P.laws_FnVersions.f k x0 x1 = some true := by
  intro x0 x1 ⟨_, w0⟩ ⟨_, w1⟩
  have hb0 := bts_of w0
  have hb1 := bts_of w1
  refine Ev.rounds (g := fun k => P.laws_FnVersions.f k x0 x1) ?_
  unfold laws_FnVersions.f
  have hlong : laws_r8Long.f x0 x1 = some (decide ((x0.length : Int) > 1048576) || decide ((x1.length : Int) > 1048576)) := by
    unfold laws_r8Long.f
    by_cases h : (x0.length : Int) > 1048576
    · rw [if_pos h, decide_eq_true h]; rfl
    · rw [if_neg h, decide_eq_false h, Bool.false_or]
  refine Ev.bind (Ev.const hlong) ?_
  by_cases hl : (decide ((x0.length : Int) > 1048576) || decide ((x1.length : Int) > 1048576)) = true
  · exact Ev.pos hl (Ev.now _)
  refine Ev.neg hl ?_
  obtain ⟨v, ev, hv, h5⟩ := R8History_ok hb0
  obtain ⟨a, ea, ha⟩ := R8State_ok hb1
  obtain ⟨b, eb, hb⟩ := R8Changed_ok hb0 ha
  have va := ha.valid (by omega)
  have vb := hb.valid (by omega)
  have la := ha.2.2
  have lb := hb.2.2
  have hh := hv.valid (by omega)
  refine Ev.bind ev (Ev.bind ea (Ev.bind eb (Ev.bind (Diff_ok va vb) (Ev.bind (Apply_ok va vb (by omega)) (Ev.pos rfl (Ev.pos rfl (Ev.bind (Same_self (l := b) (by omega)) ?_)))))))
  clear ev ea eb hb vb lb hb0 w0 w1 hl hlong
  obtain ⟨p, ep, p0, p1⟩ := At_ok hb1 (a := 0) (n := (v.length : Int) + 1) (by omega) (by omega)
  have hw : wrap64 ((v.length : Int) + 1) = (v.length : Int) + 1 := wrap_id (by omega) (by omega)
  have hw2 : wrap64 ((v.length : Int) + 1 + 1) = (v.length : Int) + 1 + 1 := wrap_id (by omega) (by omega)
  have hC := Commit_ok hh (by omega) p0 (by omega : p ≤ (v.length : Int)) next_memo va
  have hN := hist_push hh (by omega) p0 (by omega : p ≤ (v.length : Int)) next_memo va
  obtain ⟨nx, hnx⟩ : ∃ nx, nx = v ++ [impl_withVersion.new v p (⟨#[110, 101, 120, 116]⟩ : ByteArray) a] := ⟨_, rfl⟩
  rw [← hnx] at hC hN
  have ln : nx.length = v.length + 1 := by rw [hnx]; simp
  have lni : (nx.length : Int) = (v.length : Int) + 1 := by rw [ln]; omega
  have hlast : rd_T48 nx (v.length : Int) = impl_withVersion.new v p (⟨#[110, 101, 120, 116]⟩ : ByteArray) a := by
    rw [rd_iVersion (by omega)]
    simp only [hnx]
    rw [List.getElem_append_right (Nat.le_refl _)]; simp
  have hpar : par nx ((v.length : Int) + 1) = p := by
    unfold par
    rw [show (v.length : Int) + 1 - 1 = (v.length : Int) by omega, hlast]; rfl
  obtain ⟨hU, hUv⟩ := Undo_ok hN (by omega) (by omega)
  rw [lni, hpar] at hU hUv
  obtain ⟨un, hun⟩ : ∃ un, un = nx ++ [impl_withVersion.new nx ((v.length : Int) + 1) ((⟨#[117, 110, 100, 111, 32]⟩ : ByteArray) ++ impl_Decimal.t ((v.length : Int) + 1)) (stOf nx p)] := ⟨_, rfl⟩
  rw [← hun] at hU hUv
  have lu : un.length = v.length + 2 := by rw [hun]; simp [ln]
  have hulast : rd_T48 un ((v.length : Int) + 1) = impl_withVersion.new nx ((v.length : Int) + 1) ((⟨#[117, 110, 100, 111, 32]⟩ : ByteArray) ++ impl_Decimal.t ((v.length : Int) + 1)) (stOf nx p) := by
    rw [show (v.length : Int) + 1 = ((v.length + 1 : Nat) : Int) by omega, rd_iVersion (by omega)]
    simp only [hun]
    rw [List.getElem_append_right (by omega)]; simp [ln]
  have hA := Anc_ok hN (n := (v.length : Int) + 1) (by omega) (by omega)
  rw [hpar] at hA
  obtain ⟨hH, hHm, hHl⟩ := Heads_ok hN (by omega)
  rw [lni] at hHm
  have hCA := CommonAncestor_ev hN (a := (v.length : Int) + 1) (b := (v.length : Int) + 1) (by omega) (by omega) (by omega) (by omega)
  rw [common_self (by omega)] at hCA
  have hHas := Has_ev (l := impl_HeadsOf.heads nx nx) (by omega) ((v.length : Int) + 1)
  rw [decide_eq_true hHm] at hHas
  have hVH : Ev (fun k => spec_ValidHistory.f k un) true := by
    unfold spec_ValidHistory.f
    exact Ev.bind (Ev.le 2097200 (fun k hk => by rw [l27Ok_eq (by omega) (okV_hist hUv) hk, hUv])) (Ev.now _)
  have hdesc := line_desc hN 39 p (by omega)
  have hupl := lineL_length nx 39 p
  have hup : p ∈ lineL nx 39 p ↔ p > 0 := by
    constructor
    · intro h; have := hdesc.2 p h; omega
    · intro h; rw [lineL, if_neg (by omega)]; exact List.mem_cons_self
  have hHp := Has_ev (l := lineL nx 39 p) (by omega) p
  obtain ⟨t, ht, ht1⟩ := VersionText_ok (a := (v.length : Int) + 1) (b := p) (m := (⟨#[110, 101, 120, 116]⟩ : ByteArray)) (l := a) (by omega) (by omega) p0 (by omega) next_memo va
  have hT : Ev (fun k => (impl_VersionText.f k ((v.length : Int) + 1) p (⟨#[110, 101, 120, 116]⟩ : ByteArray) a).bind fun t => some (t.toList != ([] : List UInt8))) true := by
    refine Ev.bind ht ?_
    have : (t.toList != ([] : List UInt8)) = true := by
      rw [bne_iff_ne]
      intro e
      rw [size_zero] at e
      omega
    rw [this]; exact Ev.now _
  generalize lineL nx 39 p = up at hA hdesc hupl hup hHp
  have hwm : wrap64 ((v.length : Int) + 1 - 1) = (v.length : Int) := by rw [wrap_id (by omega) (by omega)]; omega
  have loop0 : Ev (fun k => laws_FnVersions.l0 k nx ((v.length : Int) + 1) up 0) true := by
    refine up_loop (n := (v.length : Int) + 1) (by omega) hdesc.1 (fun x hx => by have := hdesc.2 x hx; omega) (fun k i => laws_FnVersions.l0 k nx ((v.length : Int) + 1) up i) _ (fun k i hi c1 c2 c3 => ?_) (fun k => ?_) hT
    · simp only [laws_FnVersions.l0]
      rw [if_pos (lt_cast hi), if_pos (nn_cast i), rd_get hi, if_neg c1, if_neg c2]
      by_cases h0 : 0 < i
      · rw [if_pos (by omega), pred_cast h0 hi (by omega), if_pos (nn_cast _), if_pos (by omega), rd_get (by omega : i - 1 < up.length), if_neg (c3 h0), wrap_succ hi (by omega)]
      · rw [if_neg (by omega), wrap_succ hi (by omega)]
    · simp only [laws_FnVersions.l0]
      rw [if_neg (nlt_cast _), hwm, if_pos (by omega), if_pos (by omega), hlast]; rfl
  have loop1 : Ev (fun k => laws_FnVersions.l1 k nx ((v.length : Int) + 1) up 0) true := by
    refine up_loop (n := (v.length : Int) + 1) (by omega) hdesc.1 (fun x hx => by have := hdesc.2 x hx; omega) (fun k i => laws_FnVersions.l1 k nx ((v.length : Int) + 1) up i) _ (fun k i hi c1 c2 c3 => ?_) (fun k => ?_) hT
    · simp only [laws_FnVersions.l1]
      rw [if_pos (lt_cast hi), if_pos (nn_cast i), rd_get hi, if_neg c1, if_neg c2]
      by_cases h0 : 0 < i
      · rw [if_pos (by omega), pred_cast h0 hi (by omega), if_pos (nn_cast _), if_pos (by omega), rd_get (by omega : i - 1 < up.length), if_neg (c3 h0), wrap_succ hi (by omega)]
      · rw [if_neg (by omega), wrap_succ hi (by omega)]
    · simp only [laws_FnVersions.l1]
      rw [if_neg (nlt_cast _), hwm, if_pos (by omega), if_pos (by omega), hlast]; rfl
  have j1 : Ev (fun k => laws_FnVersions.j1 k v p nx ((v.length : Int) + 1) un up false) true := by
    by_cases hp : p > 0
    · have hst : stOf nx p = (rd_T48 v (p - 1)).f3 := by
        unfold stOf
        rw [if_neg (by omega)]
        obtain ⟨q, hq⟩ : ∃ q : Nat, p = (q : Int) + 1 := ⟨(p - 1).toNat, by omega⟩
        subst hq
        rw [show (q : Int) + 1 - 1 = (q : Int) by omega, rd_iVersion (by omega), rd_iVersion (by omega : q < v.length)]
        simp only [hnx]
        rw [List.getElem_append_left (by omega : q < v.length)]
      have hwp : wrap64 (p - 1) = p - 1 := wrap_id (by omega) (by omega)
      have hsl : (stOf nx p).length ≤ 1048576 := by
        have := state_len (versionState_ok hN p0 (by omega : p ≤ (nx.length : Int))).2
        omega
      have hS := Same_self hsl
      rw [decide_eq_true (hup.2 hp)] at hHp
      refine Ev.step (f := fun k => (spec_SameState.f k (stOf nx p) (stOf nx p)).bind fun t146 => (if t146 = true then ((laws_r8Has.f k up p).bind fun t147 => (laws_FnVersions.j2 k nx ((v.length : Int) + 1) up ((decide (p > 0)) != t147))) else none)) (fun k => ?_) (Ev.bind hS (Ev.pos rfl (Ev.bind hHp ?_)))
      · simp only [laws_FnVersions.j1]
        rw [if_neg (by decide), if_pos hp, hwp, if_pos (by omega), if_pos (by omega), if_pos (by omega), if_pos (by omega), hulast, ← hst]; rfl
      · rw [decide_eq_true hp]
        exact Ev.step (f := fun k => laws_FnVersions.l0 k nx ((v.length : Int) + 1) up 0) (fun k => by simp only [laws_FnVersions.j2]; rw [if_neg (by decide)]) loop0
    · have hst : stOf nx p = [] := by unfold stOf; rw [if_pos (by omega)]
      have hS := Same_self (l := ([] : List S57)) (by simp)
      rw [decide_eq_false (fun h => hp (hup.1 h))] at hHp
      refine Ev.step (f := fun k => (spec_SameState.f k ([] : List S57) ([] : List S57)).bind fun t146 => (if t146 = true then ((laws_r8Has.f k up p).bind fun t147 => (laws_FnVersions.j4 k nx ((v.length : Int) + 1) up ((decide (p > 0)) != t147))) else none)) (fun k => ?_) (Ev.bind hS (Ev.pos rfl (Ev.bind hHp ?_)))
      · simp only [laws_FnVersions.j1]
        rw [if_neg (by decide), if_neg hp, if_pos (by omega), if_pos (by omega), hulast, show (impl_withVersion.new nx ((v.length : Int) + 1) ((⟨#[117, 110, 100, 111, 32]⟩ : ByteArray) ++ impl_Decimal.t ((v.length : Int) + 1)) (stOf nx p)).f3 = stOf nx p from rfl, hst]
      · rw [decide_eq_false hp]
        exact Ev.step (f := fun k => laws_FnVersions.l1 k nx ((v.length : Int) + 1) up 0) (fun k => by simp only [laws_FnVersions.j4]; rw [if_neg (by decide)]) loop1
  refine Ev.step (f := fun k => ((impl_CommitState.f k v p (⟨#[110, 101, 120, 116]⟩ : ByteArray) a).bind fun bt121 => ((impl_UndoVersion.f k bt121.1 ((v.length : Int) + 1)).bind fun bt125 => ((impl_AncestorsOf.f k bt121.1 ((v.length : Int) + 1)).bind fun bt129 => ((impl_HeadsOf.f k bt121.1).bind fun bt133 => ((impl_CommonAncestor.f k bt121.1 ((v.length : Int) + 1) ((v.length : Int) + 1)).bind fun bt137 => (if bt121.2 = 0 then (if (bt121.1.length : Int) = ((v.length : Int) + 1) then (if bt125.2 = 0 then (if (bt125.1.length : Int) = ((v.length : Int) + 1 + 1) then (if bt129.2 = 0 then (if bt133.2 = 0 then ((laws_r8Has.f k bt133.1 ((v.length : Int) + 1)).bind fun t139 => (if t139 = true then (if bt137.2 = 0 then (if bt137.1 = ((v.length : Int) + 1) then ((spec_ValidHistory.f k bt125.1).bind fun t140 => (laws_FnVersions.j1 k v p bt121.1 ((v.length : Int) + 1) bt125.1 bt129.1 (!t140))) else none) else none) else none)) else none) else none) else none) else none) else none) else none))))))) (fun k => ?_) ?_
  · simp only [laws_FnVersions.j0]
    rw [if_neg (by decide), hw, ep, Option.bind_some, hw2]
  refine Ev.bind hC (Ev.bind hU (Ev.bind hA (Ev.bind hH (Ev.bind hCA (Ev.pos rfl (Ev.pos lni (Ev.pos rfl (Ev.pos ?_ (Ev.pos rfl (Ev.pos rfl (Ev.bind hHas (Ev.pos rfl (Ev.pos rfl (Ev.pos rfl (Ev.bind hVH j1)))))))))))))))
  show (un.length : Int) = _
  rw [lu]; omega
end Go.Proofs.YtocegmkifmdlcaaDoor.Pure
