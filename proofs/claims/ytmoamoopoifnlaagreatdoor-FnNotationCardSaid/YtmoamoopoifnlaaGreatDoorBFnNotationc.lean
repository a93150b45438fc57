/- Part c of what FnNotation stands on: functions of the program as Lean functions with their walks, and plain lemmas. -/
import Derived.Test.YtmoamoopoifnlaaGreatDoorBFnNotationa
import Derived.Test.YtmoamoopoifnlaaGreatDoorK
import Derived.Test.YtmoamoopoifnlaaGreatDoorBFnNotationb
namespace Go.Proofs.YtmoamoopoifnlaaGreatDoor.P
open Go.RowKit Go.Proofs.YtmoamoopoifnlaaGreatDoorW.PrintWords Go.Proofs.YtmoamoopoifnlaaGreatDoorW.PrintLast Go.Proofs.YtmoamoopoifnlaaGreatDoorW.PrintMore
attribute [local go_sem] max2_int min2_int max_two min_two max_three min_three max_four min_four str_leq str_gtr str_geq
set_option linter.unusedVariables false
set_option linter.unusedSimpArgs false
def spec_l00Min.f (a0:Int) (a1:Int):Option (Int):=if a0<a1 then (some a0) else (some a1)
set_option maxHeartbeats 8000000 in
set_option maxRecDepth 100000 in
theorem spec_l00Min.calls (a0:Int) (a1:Int) (r:Int) (w:World) (h:spec_l00Min.f a0 a1=some r) :
 Calls Tryz.prog 98 #[.int .i64 a0,.int .i64 a1] w fun e w'=>e = .returned (.int .i64 r)∧Drawn0 w w':=by
 have H:(if a0<a1 then (some a0) else (some a1))=some r:=h
 clear h
 by_cases c3:a0<a1
 ·rw [if_pos c3] at H
  have c3b0:decide (a0<a1)=true:=decide_eq_true c3
  clear c3
  obtain rfl:=Option.some.inj H
  go_enter Tryz.func98,Tryz.ntmps98
  go_wp2
  go_ret
  exact ⟨zg,zj⟩
 ·rw [if_neg c3] at H
  have c3b0:decide (a0<a1)=false:=decide_eq_false c3
  clear c3
  obtain rfl:=Option.some.inj H
  go_enter Tryz.func98,Tryz.ntmps98
  go_wp2
  go_ret
  exact ⟨zg,zj⟩

def spec_l09Draw.l0:Nat→List (S67)→Int→Int→List Int→Int→Int→Option ((List (S67)) × Int × Int)
 | 0,_,_,_,_,_,_=>none
 | k+1,x3,x4,x5,x1000,x1001,x1002=>if x5 > 0 then ((spec_l00Src_pick.f x1000 x1001 x1002 9).bind fun bt110=>((spec_l00Min.f 23 (wrap64 ((wrap64 (x4+bt110.1)) - 4))).bind fun t113=>((spec_l00Max.f (-12) t113).bind fun t114=>((spec_l00Src_among.f x1000 bt110.2.1 bt110.2.2 (([1,1,2,2,3,4,6]:List Int))).bind fun bt118=>(if x3.length<8796093022208 then (spec_l09Draw.l0 k (x3++[(⟨t114,bt118.1⟩:S67)]) t114 (wrap64 (x5 - 1)) x1000 bt118.2.1 bt118.2.2) else (none)))))) else (some (x3,x1001,x1002))
def spec_l09Draw.f (k:Nat) (s0_0:List Int) (s0_1:Int) (s0_2:Int):Option ((List (S67)) × Int × Int):=(spec_l00Src_pick.f s0_0 s0_1 s0_2 12).bind fun bt104=>((spec_l00Src_pick.f s0_0 bt104.2.1 bt104.2.2 10).bind fun bt107=>(spec_l09Draw.l0 k (([]:List (S67))) bt104.1 bt107.1 s0_0 bt107.2.1 bt107.2.2))
set_option maxHeartbeats 8000000 in
set_option maxRecDepth 100000 in
theorem spec_l09Draw.calls (k:Nat) (g:Nat) (s0_0:List Int) (s0_1:Int) (s0_2:Int) (r1:List (S67)) (r2:Int) (r3:Int) (w0 w:World) (hI:IsS119 w0 w g s0_0 s0_1 s0_2) (hB:Below w0.heap.size w0 w) (h:spec_l09Draw.f k s0_0 s0_1 s0_2=some (r1,r2,r3)) :
 Calls Tryz.prog 58 #[.pointer (some ⟨g,0,none⟩)] w fun e w'=>∃v0_:Value,e = .returned (v0_)∧Kd.R k67 67 w' w.heap.size (fun _=>True) v0_ r1∧IsS119 w0 w' g s0_0 r2 r3∧Below w0.heap.size w0 w'∧KeepBut w w' g none:=by
 have hu67:=Tryz.underlying67
 have HI0:=Aside0.mk hI
 have HK:=Aside0.mk (KeepBut.refl w g none)
 have HL:=Aside0.mk hB.size
 clear hI
 have HW0:=Aside0.mk hB.size
 have HB:=Aside0.mk hB
 clear hB
 have H:((spec_l00Src_pick.f s0_0 s0_1 s0_2 12).bind fun bt104=>((spec_l00Src_pick.f s0_0 bt104.2.1 bt104.2.2 10).bind fun bt107=>(spec_l09Draw.l0 k (([]:List (S67))) bt104.1 bt107.1 s0_0 bt107.2.1 bt107.2.2)))=some (r1,r2,r3):=h
 clear h
 obtain ⟨y101,hy101⟩:∃y_:List (S67),y_=(([]:List (S67))):=⟨_,rfl⟩
 replace H:((spec_l00Src_pick.f s0_0 s0_1 s0_2 12).bind fun bt104=>((spec_l00Src_pick.f s0_0 bt104.2.1 bt104.2.2 10).bind fun bt107=>(spec_l09Draw.l0 k y101 bt104.1 bt107.1 s0_0 bt107.2.1 bt107.2.2)))=some (r1,r2,r3):=by first|(rw [hy101];with_reducible exact H)|(have H2_:=(Option.bind_some _ _).symm.trans H;rw [hy101];with_reducible exact H2_)|(have H2_:=(Option.bind_some _ _).symm.trans H;with_reducible exact H2_)|with_reducible exact H|(rw [hy101];exact H)|exact H
 have Ny101:=Aside0.mk hy101
 clear hy101
 replace H:=Option.bind_eq_some_iff.mp H
 obtain ⟨⟨t104,t105,t106⟩,A20,H⟩:=H
 replace H:((spec_l00Src_pick.f s0_0 t105 t106 10).bind fun bt107=>(spec_l09Draw.l0 k y101 t104 bt107.1 s0_0 bt107.2.1 bt107.2.2))=some (r1,r2,r3):=H
 have A2:=Aside0.mk A20
 clear A20
 replace H:=Option.bind_eq_some_iff.mp H
 obtain ⟨⟨t107,t108,t109⟩,A30,H⟩:=H
 replace H:(spec_l09Draw.l0 k y101 t104 t107 s0_0 t108 t109)=some (r1,r2,r3):=H
 have A3:=Aside0.mk A30
 clear A30
 have H':=Aside0.mk H
 clear H
 go_enter Tryz.func58,Tryz.ntmps58
 go_wp2_with (first|((with_reducible refine gate_dst (N:=6) rfl ?_);refine Kd.R_lit k67 _ 67 ?hg (N:=6) ?hd (xs:=([]:List (S67))) (inner:=[]) (ok:=fun _=>True) (okp:=fun _=>True) ?hr ?hp (fun _ hk=>hk) trivial (Below.refl _ _) (Nat.le_refl _) zdd ?_;(case hd=>rfl);(case hg=>rfl);(case hr=>exact zy);(case hp=>exact (Reps.none _ _));intro v102 w4 ho5 hb hg_ hnew_;clear hg_ hnew_;(first|rw [←Ny101.out] at ho5|(simp only [Int.reduceToNat] at ho5;rw [←Ny101.out] at ho5));have n0_:=Aside0.mk (Kd.R_lower ho5 (keep_size (w:=w) (g:=g) (row:=none) zl));have n1_:=Aside0.mk (IsS119.below zp hb);have n2_:=Aside0.mk (KeepBut.trans zl (KeepBut.of_below hb g none) (.inl rfl));have n3_:=Aside0.mk (below_step zk hb);clear HI0;clear HK;clear HB;have HO103:=n0_;have HI0:=n1_;have HK:=n2_;have HB:=n3_;clear n0_ n1_ n2_ n3_;clear hb ho5)|((with_reducible refine gate_callee (f:=57) rfl ?_);refine goesL_ (some 8) rfl rfl Tryz.func57 zau rfl #[.pointer (some ⟨g,0,none⟩),.int .i64 12] rfl zd ?_;(with_reducible refine (spec_l00Src_pick.calls g s0_0 s0_1 s0_2 12 t104 t105 t106 w0 _ ?side1 ?side2 A2.out).mono ?_);(case side1=>exact zp);(case side2=>exact zk);rintro e w6 ⟨rfl,hi,hb,hk⟩;refine ⟨_,rfl,?_⟩;replace HO103:=Aside0.mk (Kd.R_mono (Kd.R_keep (IsS119.apart (show IsS119 w0 _ g s0_0 s0_1 s0_2 from by repeat (first|(with_reducible first|exact HI0.out|apply IsS119.alloc|apply IsS119.drewN|apply IsS119.drew|apply IsS119.set_1|apply IsS119.set_2)|exact HI0.out)) zdf zbl) hk (fun _ h=>h.2)) (fun _ h=>h.1));replace HK:=Aside0.mk (KeepBut.trans zl hk (.inl rfl));replace HB:=Aside0.mk (hb);replace HI0:=Aside0.mk (hi);(try clear hb);(try clear hb2);(try clear hk);(try clear hi))|((with_reducible refine gate_callee (f:=57) rfl ?_);refine goesL_ (some 10) rfl rfl Tryz.func57 zau rfl #[.pointer (some ⟨g,0,none⟩),.int .i64 10] rfl zd ?_;(with_reducible refine (spec_l00Src_pick.calls g s0_0 t105 t106 10 t107 t108 t109 w0 _ ?side1 ?side2 A3.out).mono ?_);(case side1=>exact zp);(case side2=>exact zk);rintro e w7 ⟨rfl,hi,hb,hk⟩;refine ⟨_,rfl,?_⟩;replace HO103:=Aside0.mk (Kd.R_mono (Kd.R_keep (IsS119.apart (show IsS119 w0 _ g s0_0 t105 t106 from by repeat (first|(with_reducible first|exact HI0.out|apply IsS119.alloc|apply IsS119.drewN|apply IsS119.drew|apply IsS119.set_1|apply IsS119.set_2)|exact HI0.out)) zdf zbl) hk (fun _ h=>h.2)) (fun _ h=>h.1));replace HK:=Aside0.mk (KeepBut.trans zl hk (.inl rfl));replace HB:=Aside0.mk (hb);replace HI0:=Aside0.mk (hi);(try clear hb);(try clear hb2);(try clear hk);(try clear hi)))
 go_loopg [3,4,5] k (fun kq v3 v4 v5 w'=>∃(x3_1:List (S67)) (x4_1:Int) (x5_1:Int) (x1001_1:Int) (x1002_1:Int),v4 = .int .i64 x4_1∧v5 = .int .i64 x5_1∧Aside0 (spec_l09Draw.l0 kq x3_1 x4_1 x5_1 s0_0 x1001_1 x1002_1=some (r1,r2,r3))∧Aside0 (kq≤k)∧Aside0 (Kd.R k67 67 w' w.heap.size (fun _=>True) v3 x3_1)∧Aside0 (IsS119 w0 w' g s0_0 x1001_1 x1002_1)∧Aside0 (KeepBut w w' g none)∧Aside0 (Below w0.heap.size w0 w'))
 case atStart=>exact ⟨(y101),(t104),(t107),(t108),(t109),zg,zg,H',⟨Nat.le_refl _⟩,⟨zdf⟩,⟨zp⟩,⟨zl⟩,⟨zk⟩⟩
 case round=>
  clear H'
  try clear p2
  try clear c5
  obtain ⟨x3_1,x4_1,x5_1,x1001_1,x1002_1,rfl,rfl,HA,HK1,HO_3,HI0,HK,HB⟩:=hrel
  cases gk with
  | zero=>exact absurd HA.out (by simp [spec_l09Draw.l0])
  | succ k1=>
   have H:=HA.out
   clear HA
   simp only [spec_l09Draw.l0] at H
   by_cases c8:x5_1 > 0
   ·rw [if_pos c8] at H
    have c8b0:decide (0<x5_1)=true:=decide_eq_true c8
    clear c8
    replace H:=Option.bind_eq_some_iff.mp H
    obtain ⟨⟨t110,t111,t112⟩,A90,H⟩:=H
    replace H:((spec_l00Min.f 23 (wrap64 ((wrap64 (x4_1+t110)) - 4))).bind fun t113=>((spec_l00Max.f (-12) t113).bind fun t114=>((spec_l00Src_among.f s0_0 t111 t112 (([1,1,2,2,3,4,6]:List Int))).bind fun bt118=>(if x3_1.length<8796093022208 then (spec_l09Draw.l0 k1 (x3_1++[(⟨t114,bt118.1⟩:S67)]) t114 (wrap64 (x5_1 - 1)) s0_0 bt118.2.1 bt118.2.2) else (none)))))=some (r1,r2,r3):=H
    have A9:=Aside0.mk A90
    clear A90
    replace H:=Option.bind_eq_some_iff.mp H
    obtain ⟨t113,A100,H⟩:=H
    replace H:((spec_l00Max.f (-12) t113).bind fun t114=>((spec_l00Src_among.f s0_0 t111 t112 (([1,1,2,2,3,4,6]:List Int))).bind fun bt118=>(if x3_1.length<8796093022208 then (spec_l09Draw.l0 k1 (x3_1++[(⟨t114,bt118.1⟩:S67)]) t114 (wrap64 (x5_1 - 1)) s0_0 bt118.2.1 bt118.2.2) else (none))))=some (r1,r2,r3):=H
    have A10:=Aside0.mk A100
    clear A100
    replace H:=Option.bind_eq_some_iff.mp H
    obtain ⟨t114,A110,H⟩:=H
    replace H:((spec_l00Src_among.f s0_0 t111 t112 (([1,1,2,2,3,4,6]:List Int))).bind fun bt118=>(if x3_1.length<8796093022208 then (spec_l09Draw.l0 k1 (x3_1++[(⟨t114,bt118.1⟩:S67)]) t114 (wrap64 (x5_1 - 1)) s0_0 bt118.2.1 bt118.2.2) else (none)))=some (r1,r2,r3):=H
    have A11:=Aside0.mk A110
    clear A110
    obtain ⟨y115,hy115⟩:∃y_:List Int,y_=(([1,1,2,2,3,4,6]:List Int)):=⟨_,rfl⟩
    replace H:((spec_l00Src_among.f s0_0 t111 t112 y115).bind fun bt118=>(if x3_1.length<8796093022208 then (spec_l09Draw.l0 k1 (x3_1++[(⟨t114,bt118.1⟩:S67)]) t114 (wrap64 (x5_1 - 1)) s0_0 bt118.2.1 bt118.2.2) else (none)))=some (r1,r2,r3):=by first|(rw [hy115];with_reducible exact H)|(have H2_:=(Option.bind_some _ _).symm.trans H;rw [hy115];with_reducible exact H2_)|(have H2_:=(Option.bind_some _ _).symm.trans H;with_reducible exact H2_)|with_reducible exact H|(rw [hy115];exact H)|exact H
    have Ny115:=Aside0.mk hy115
    clear hy115
    replace H:=Option.bind_eq_some_iff.mp H
    obtain ⟨⟨t118,t119,t120⟩,A120,H⟩:=H
    replace H:(if x3_1.length<8796093022208 then (spec_l09Draw.l0 k1 (x3_1++[(⟨t114,t118⟩:S67)]) t114 (wrap64 (x5_1 - 1)) s0_0 t119 t120) else (none))=some (r1,r2,r3):=H
    have A12:=Aside0.mk A120
    clear A120
    by_cases c13:x3_1.length<8796093022208
    ·rw [if_pos c13] at H
     have LMc13:=Aside0.mk c13
     clear c13
     obtain ⟨y121,hy121⟩:∃y_:List (S67),y_=(x3_1++[(⟨t114,t118⟩:S67)]):=⟨_,rfl⟩
     replace H:(spec_l09Draw.l0 k1 y121 t114 (wrap64 (x5_1 - 1)) s0_0 t119 t120)=some (r1,r2,r3):=by first|(rw [hy121];with_reducible exact H)|(have H2_:=(Option.bind_some _ _).symm.trans H;rw [hy121];with_reducible exact H2_)|(have H2_:=(Option.bind_some _ _).symm.trans H;with_reducible exact H2_)|with_reducible exact H|(rw [hy121];exact H)|exact H
     have Ny121:=Aside0.mk hy121
     clear hy121
     have H':=Aside0.mk H
     clear H
     go_wp2_with (first|((with_reducible refine gate_callee (f:=57) rfl ?_);refine goesL_ (some 17) rfl rfl Tryz.func57 zau rfl #[.pointer (some ⟨g,0,none⟩),.int .i64 9] rfl zd ?_;(with_reducible refine (spec_l00Src_pick.calls g s0_0 x1001_1 x1002_1 9 t110 t111 t112 w0 _ ?side1 ?side2 A9.out).mono ?_);(case side1=>exact zp);(case side2=>exact zk);rintro e w14 ⟨rfl,hi,hb,hk⟩;refine ⟨_,rfl,?_⟩;replace HO_3:=Aside0.mk (Kd.R_mono (Kd.R_keep (IsS119.apart (show IsS119 w0 _ g s0_0 x1001_1 x1002_1 from by repeat (first|(with_reducible first|exact HI0.out|apply IsS119.alloc|apply IsS119.drewN|apply IsS119.drew|apply IsS119.set_1|apply IsS119.set_2)|exact HI0.out)) zbq zbl) hk (fun _ h=>h.2)) (fun _ h=>h.1));replace HK:=Aside0.mk (KeepBut.trans zl hk (.inl rfl));replace HB:=Aside0.mk (hb);replace HI0:=Aside0.mk (hi);(try clear hb);(try clear hb2);(try clear hk);(try clear hi))|((with_reducible refine gate_callee (f:=98) rfl ?_);refine goesL_ (some 20) rfl rfl Tryz.func98 zau rfl #[.int .i64 23,.int .i64 (wrap64 ((wrap64 (x4_1+t110)) - 4))] rfl zd ?_;(with_reducible refine (spec_l00Min.calls 23 (wrap64 ((wrap64 (x4_1+t110)) - 4)) t113 _ A10.out).mono ?_);rintro e w' ⟨rfl,⟨nd,rfl⟩⟩;refine ⟨_,rfl,?_⟩)|((with_reducible refine gate_callee (f:=97) rfl ?_);refine goesL_ (some 21) rfl rfl Tryz.func97 zau rfl #[.int .i64 (-12),.int .i64 t113] rfl zd ?_;(with_reducible refine (spec_l00Max.calls (-12) t113 t114 _ A11.out).mono ?_);rintro e w' ⟨rfl,⟨nd,rfl⟩⟩;refine ⟨_,rfl,?_⟩)|((with_reducible refine gate_dst (N:=25) rfl ?_);refine Kd.R_lit (Kd.int .i64) _ 2 ?hg (N:=25) ?hd (xs:=([1,1,2,2,3,4,6]:List Int)) (inner:=[.int .i64 1,.int .i64 1,.int .i64 2,.int .i64 2,.int .i64 3,.int .i64 4,.int .i64 6]) (ok:=fun _=>True) (okp:=fun _=>True) ?hr ?hp (fun _ hk=>hk) trivial (Below.refl _ _) (Nat.le_refl _) zdd ?_;(case hd=>rfl);(case hg=>rfl);(case hr=>exact zy);(case hp=>exact (Reps.one (show Kd.M (Kd.int .i64) _ _ _ 1 [.int .i64 1] from rfl) (Reps.one (show Kd.M (Kd.int .i64) _ _ _ 1 [.int .i64 1] from rfl) (Reps.one (show Kd.M (Kd.int .i64) _ _ _ 2 [.int .i64 2] from rfl) (Reps.one (show Kd.M (Kd.int .i64) _ _ _ 2 [.int .i64 2] from rfl) (Reps.one (show Kd.M (Kd.int .i64) _ _ _ 3 [.int .i64 3] from rfl) (Reps.one (show Kd.M (Kd.int .i64) _ _ _ 4 [.int .i64 4] from rfl) (Reps.one (show Kd.M (Kd.int .i64) _ _ _ 6 [.int .i64 6] from rfl) (Reps.none _ _)))))))));intro v116 w15 ho16 hb hg_ hnew_;clear hg_ hnew_;(first|rw [←Ny115.out] at ho16|(simp only [Int.reduceToNat] at ho16;rw [←Ny115.out] at ho16));have n0_:=Aside0.mk (Kd.R_below zbq hb);have n1_:=Aside0.mk (Kd.R_lower ho16 (keep_size (w:=w) (g:=g) (row:=none) zl));have n2_:=Aside0.mk (IsS119.below zp hb);have n3_:=Aside0.mk (KeepBut.trans zl (KeepBut.of_below hb g none) (.inl rfl));have n4_:=Aside0.mk (below_step zk hb);clear HO_3;clear HI0;clear HK;clear HB;have HO_3:=n0_;have HO117:=n1_;have HI0:=n2_;have HK:=n3_;have HB:=n4_;clear n0_ n1_ n2_ n3_ n4_;clear hb ho16;obtain ⟨Ao17,co17,eo17⟩:=Kd.R_slice HO117.out;subst eo17)|((with_reducible refine gate_callee (f:=95) rfl ?_);refine goesL_ (some 26) rfl rfl Tryz.func95 zau rfl #[.pointer (some ⟨g,0,none⟩),.slice Ao17 y115.length co17] rfl zd ?_;(with_reducible refine (spec_l00Src_among.calls g s0_0 t111 t112 _ _ y115 t118 t119 t120 w0 _ ?side1 ?side2 ?side3 ?side4 ?side5 A12.out).mono ?_);(case side1=>exact zp);(case side2=>exact zk);(case side3=>repeat (first|exact (Kd.R_reads' HO117.out).2.2|(with_reducible refine Kd.C_alloc ?_ _)|(with_reducible refine Kd.C_drewN ?_ _)|(with_reducible refine Kd.C_drew ?_)));(case side4=>exact (Kd.R_reads' HO117.out).2.1);(case side5=>exact far_slice (IsS119.own_ne HI0.out HO117.out zbl));rintro e w18 ⟨rfl,hi,hb,hk⟩;refine ⟨_,rfl,?_⟩;replace HO_3:=Aside0.mk (Kd.R_mono (Kd.R_keep (IsS119.apart (show IsS119 w0 _ g s0_0 t111 t112 from by repeat (first|(with_reducible first|exact HI0.out|apply IsS119.alloc|apply IsS119.drewN|apply IsS119.drew|apply IsS119.set_1|apply IsS119.set_2)|exact HI0.out)) zbq zbl) hk (fun _ h=>h.2)) (fun _ h=>h.1));replace HO117:=Aside0.mk (Kd.R_mono (Kd.R_keep (IsS119.apart (show IsS119 w0 _ g s0_0 t111 t112 from by repeat (first|(with_reducible first|exact HI0.out|apply IsS119.alloc|apply IsS119.drewN|apply IsS119.drew|apply IsS119.set_1|apply IsS119.set_2)|exact HI0.out)) (by (with_reducible repeat (first|apply Kd.R_alloc|apply Kd.R_drewN|apply Kd.R_drew));exact HO117.out) zbl) hk (fun _ h=>h.2)) (fun _ h=>h.1));replace HK:=Aside0.mk (KeepBut.trans zl hk (.inl rfl));replace HB:=Aside0.mk (hb);replace HI0:=Aside0.mk (hi);(try clear hb);(try clear hb2);(try clear hk);(try clear hi))|((with_reducible refine gate_builtin (b:=.append) (xs:=#[.tmp 22,.tmp 28]) rfl ?_);at_builtin;refine Kd.R_append k67 w.heap.size rfl (.tmp 22) (.tmp 28) 30 67 (.agg #[(.int .i64 0),(.int .i64 0)]) 16 rfl Tryz.underlying30 info67 rfl zbl zdb u3 x3_1 (⟨t114,t118⟩:S67) [.int .i64 t114,.int .i64 t118] (fun _=>True) (fun _=>False) rfl rfl ?aP (fun _ hk=>hk.elim) ?aF ?aO (Below.refl _ _) ?aS ?aL ?_;(case aP=>exact k67_mkM _ _ _ (⟨t114,t118⟩:S67));(case aF=>exact zdj);(case aO=>exact zbq);(case aS=>exact (keep_size (w:=w) (g:=g) (row:=none) zl));(case aL=>have:=LMc13.out;omega);intro v122 w19 ho hb hg hat;rw [←Ny121.out] at ho;have n0_:=Aside0.mk (IsS119.grown zp hg (IsS119.own_ne HI0.out HO_3.out zbl));have n1_:=Aside0.mk (Kd.R_over' (by (with_reducible repeat (first|apply Kd.R_alloc|apply Kd.R_drewN|apply Kd.R_drew));exact HO117.out) (Kd.R_typed zbq) zbl hg);have n2_:=Aside0.mk (below_weaken zk HL.out hb);have n3_:=Aside0.mk (KeepBut.trans zl (KeepBut.of_grown hg g) (Kd.R_base2 HO_3.out));have n4_:=Aside0.mk (ho);clear HI0;clear HO117;clear HB;clear HK;clear HO_3;have HI0:=n0_;have HO117:=n1_;have HB:=n2_;have HK:=n3_;have HO123:=n4_;clear n0_ n1_ n2_ n3_ n4_;clear ho hb hg hat))
     go_roundg k1
     case measure=>have:=HK1.out;omega
     case rel=>exact ⟨(y121),(t114),(wrap64 (x5_1 - 1)),(t119),(t120),zg,zg,H',⟨zdo⟩,⟨by (with_reducible repeat (first|apply Kd.R_alloc|apply Kd.R_drewN|apply Kd.R_drew));exact HO123.out⟩,⟨zp⟩,⟨zl⟩,⟨zk⟩⟩
    ·rw [if_neg c13] at H
     exact absurd H zdd
   ·rw [if_neg c8] at H
    have c8b0:decide (0<x5_1)=false:=decide_eq_false c8
    clear c8
    simp only [Option.some.injEq,Prod.mk.injEq] at H
    obtain ⟨rfl,rfl,rfl⟩:=H
    go_wp2
    go_ret
    exact ⟨_,zi,zbq,zp,zk,zl⟩

def spec_R8Melody.f (k:Nat) (l0:List Int):Option ((List (S67))):=(spec_l00From.f l0).bind fun bt101=>((spec_l09Draw.f k bt101.1 bt101.2.1 bt101.2.2).bind fun bt105=>(some bt105.1))
set_option maxHeartbeats 8000000 in
set_option maxRecDepth 100000 in
theorem spec_R8Melody.calls (k:Nat) (A0:Option Addr) (c0:Nat) (l0:List Int) (r:List (S67)) (w:World) (hr0:Kd.C (Kd.int .u8) w A0 l0.length l0) (hc0:l0.length≤c0) (h:spec_R8Melody.f k l0=some r) :
 Calls Tryz.prog 37 #[.slice A0 l0.length c0] w fun e w'=>∃v0_:Value,e = .returned (v0_)∧Kd.R k67 67 w' w.heap.size (fun _=>True) v0_ r∧Below w.heap.size w w':=by
 have HR0:=Aside0.mk hr0
 have HC0:=Aside0.mk hc0
 clear hr0 hc0
 have HB:=Aside0.mk (Below.refl w.heap.size w)
 have H:((spec_l00From.f l0).bind fun bt101=>((spec_l09Draw.f k bt101.1 bt101.2.1 bt101.2.2).bind fun bt105=>(some bt105.1)))=some r:=h
 clear h
 replace H:=Option.bind_eq_some_iff.mp H
 obtain ⟨⟨t101,t102,t103⟩,A20,H⟩:=H
 replace H:((spec_l09Draw.f k t101 t102 t103).bind fun bt105=>(some bt105.1))=some r:=H
 have A2:=Aside0.mk A20
 clear A20
 replace H:=Option.bind_eq_some_iff.mp H
 obtain ⟨⟨t105,t108,t109⟩,A30,H⟩:=H
 replace H:(some t105)=some r:=H
 have A3:=Aside0.mk A30
 clear A30
 obtain rfl:=Option.some.inj H
 go_enter Tryz.func37,Tryz.ntmps37
 go_wp2_with (first|((with_reducible refine gate_callee (f:=52) rfl ?_);refine goesL_ (some 5) rfl rfl Tryz.func52 zau rfl #[.slice A0 l0.length c0] rfl zd ?_;(with_reducible refine (spec_l00From.calls _ _ l0 t101 t102 t103 w _ ?side1 ?side2 ?side3 A2.out).mono ?_);(case side1=>exact za);(case side2=>exact HR0.out);(case side3=>exact HC0.out);rintro e w4 ⟨g104,rfl,hi,hb,hb2⟩;refine ⟨_,rfl,?_⟩;replace HB:=Aside0.mk (hb);have HI104:=Aside0.mk (hi);(try clear hb);(try clear hb2);(try clear hk);(try clear hi))|((with_reducible refine gate_callee (f:=58) rfl ?_);refine goesL_ (some 7) rfl rfl Tryz.func58 zau rfl #[.pointer (some ⟨g104,0,none⟩)] rfl zd ?_;(with_reducible refine (spec_l09Draw.calls k g104 t101 t102 t103 t105 t108 t109 w _ ?side1 ?side2 A3.out).mono ?_);(case side1=>repeat (first|(with_reducible first|exact HI104.out|apply IsS119.alloc|apply IsS119.drewN|apply IsS119.drew|apply IsS119.set_1|apply IsS119.set_2)|exact HI104.out));(case side2=>exact zdk);rintro e w5 ⟨v106,rfl,ho0,hi,hb,hk⟩;refine ⟨_,rfl,?_⟩;have HO107:=Aside0.mk (Kd.R_lower ho0 (below_size zdk));replace HB:=Aside0.mk (hb);replace HI104:=Aside0.mk (hi);(try clear hb);(try clear hb2);(try clear hk);(try clear hi);(try clear ho0)))
 go_ret
 exact ⟨_,zi,by (with_reducible repeat (first|apply Kd.R_alloc|apply Kd.R_drewN|apply Kd.R_drew));exact HO107.out,zdk⟩

def spec_l00Src_one.f (s0_0:List Int) (s0_1:Int) (s0_2:Int) (a1:Int):Option (Bool × Int × Int):=(spec_l00Src_pick.f s0_0 s0_1 s0_2 a1).bind fun bt101=>(some ((bt101.1 == 0),bt101.2.1,bt101.2.2))
set_option maxHeartbeats 8000000 in
set_option maxRecDepth 100000 in
theorem spec_l00Src_one.calls (g:Nat) (s0_0:List Int) (s0_1:Int) (s0_2:Int) (a1:Int) (r1:Bool) (r2:Int) (r3:Int) (w0 w:World) (hI:IsS119 w0 w g s0_0 s0_1 s0_2) (hB:Below w0.heap.size w0 w) (h:spec_l00Src_one.f s0_0 s0_1 s0_2 a1=some (r1,r2,r3)) :
 Calls Tryz.prog 59 #[.pointer (some ⟨g,0,none⟩),.int .i64 a1] w fun e w'=>e = .returned (.bool r1)∧IsS119 w0 w' g s0_0 r2 r3∧Below w0.heap.size w0 w'∧KeepBut w w' g none:=by
 have HI0:=Aside0.mk hI
 have HK:=Aside0.mk (KeepBut.refl w g none)
 have HL:=Aside0.mk hB.size
 clear hI
 have HW0:=Aside0.mk hB.size
 have HB:=Aside0.mk hB
 clear hB
 have H:((spec_l00Src_pick.f s0_0 s0_1 s0_2 a1).bind fun bt101=>(some ((bt101.1 == 0),bt101.2.1,bt101.2.2)))=some (r1,r2,r3):=h
 clear h
 replace H:=Option.bind_eq_some_iff.mp H
 obtain ⟨⟨t101,t102,t103⟩,A30,H⟩:=H
 replace H:(some ((t101 == 0),t102,t103))=some (r1,r2,r3):=H
 have A3:=Aside0.mk A30
 clear A30
 simp only [Option.some.injEq,Prod.mk.injEq] at H
 obtain ⟨rfl,rfl,rfl⟩:=H
 go_enter Tryz.func59,Tryz.ntmps59
 go_wp2_with (first|((with_reducible refine gate_callee (f:=57) rfl ?_);refine goesL_ (some 7) rfl rfl Tryz.func57 zau rfl #[.pointer (some ⟨g,0,none⟩),.int .i64 a1] rfl zd ?_;(with_reducible refine (spec_l00Src_pick.calls g s0_0 s0_1 s0_2 a1 t101 t102 t103 w0 _ ?side1 ?side2 A3.out).mono ?_);(case side1=>exact zp);(case side2=>exact zk);rintro e w4 ⟨rfl,hi,hb,hk⟩;refine ⟨_,rfl,?_⟩;replace HK:=Aside0.mk (KeepBut.trans zl hk (.inl rfl));replace HB:=Aside0.mk (hb);replace HI0:=Aside0.mk (hi);(try clear hb);(try clear hb2);(try clear hk);(try clear hi)))
 go_ret
 exact ⟨zi,zp,zk,zl⟩

def spec_l00Src_text.f (s0_0:List Int) (s0_1:Int) (s0_2:Int) (l1:List ByteArray):Option (ByteArray × Int × Int):=(spec_l00Src_pick.f s0_0 s0_1 s0_2 (l1.length:Int)).bind fun bt101=>(if 0≤bt101.1 then (if bt101.1<(l1.length:Int) then (some (rdOf ByteArray.empty l1 bt101.1,bt101.2.1,bt101.2.2)) else (none)) else (none))
set_option maxHeartbeats 8000000 in
set_option maxRecDepth 100000 in
theorem spec_l00Src_text.calls (g:Nat) (s0_0:List Int) (s0_1:Int) (s0_2:Int) (A1:Option Addr) (c1:Nat) (l1:List ByteArray) (r1:ByteArray) (r2:Int) (r3:Int) (w0 w:World) (hI:IsS119 w0 w g s0_0 s0_1 s0_2) (hB:Below w0.heap.size w0 w) (hr1:Kd.C Kd.string w A1 l1.length l1) (hc1:l1.length≤c1) (hf1:∀ad,A1=some ad→0<l1.length→ad.block≠g) (h:spec_l00Src_text.f s0_0 s0_1 s0_2 l1=some (r1,r2,r3)) :
 Calls Tryz.prog 99 #[.pointer (some ⟨g,0,none⟩),.slice A1 l1.length c1] w fun e w'=>e = .returned (.string r1)∧IsS119 w0 w' g s0_0 r2 r3∧Below w0.heap.size w0 w'∧KeepBut w w' g none:=by
 have HR1:=Aside0.mk hr1
 have HC1:=Aside0.mk hc1
 clear hr1 hc1
 have HI0:=Aside0.mk hI
 have HK:=Aside0.mk (KeepBut.refl w g none)
 have HL:=Aside0.mk hB.size
 clear hI
 have HW0:=Aside0.mk hB.size
 have HB:=Aside0.mk hB
 clear hB
 have H:((spec_l00Src_pick.f s0_0 s0_1 s0_2 (l1.length:Int)).bind fun bt101=>(if 0≤bt101.1 then (if bt101.1<(l1.length:Int) then (some (rdOf ByteArray.empty l1 bt101.1,bt101.2.1,bt101.2.2)) else (none)) else (none)))=some (r1,r2,r3):=h
 clear h
 replace H:=Option.bind_eq_some_iff.mp H
 obtain ⟨⟨t101,t102,t103⟩,A30,H⟩:=H
 replace H:(if 0≤t101 then (if t101<(l1.length:Int) then (some (rdOf ByteArray.empty l1 t101,t102,t103)) else (none)) else (none))=some (r1,r2,r3):=H
 have A3:=Aside0.mk A30
 clear A30
 by_cases c4:0≤t101
 ·rw [if_pos c4] at H
  have c4b0:decide (0≤t101)=true:=decide_eq_true c4
  clear c4
  by_cases c5:t101<(l1.length:Int)
  ·rw [if_pos c5] at H
   have c5b0:decide (t101<(l1.length:Int))=true:=decide_eq_true c5
   clear c5
   simp only [Option.some.injEq,Prod.mk.injEq] at H
   obtain ⟨rfl,rfl,rfl⟩:=H
   go_enter Tryz.func99,Tryz.ntmps99
   go_wp2_with (first|((with_reducible refine gate_callee (f:=57) rfl ?_);refine goesL_ (some 9) rfl rfl Tryz.func57 zau rfl #[.pointer (some ⟨g,0,none⟩),.int .i64 (l1.length:Int)] rfl zd ?_;(with_reducible refine (spec_l00Src_pick.calls g s0_0 s0_1 s0_2 (l1.length:Int) t101 t102 t103 w0 _ ?side1 ?side2 A3.out).mono ?_);(case side1=>exact zp);(case side2=>exact zk);rintro e w6 ⟨rfl,hi,hb,hk⟩;refine ⟨_,rfl,?_⟩;replace HK:=Aside0.mk (KeepBut.trans zl hk (.inl rfl));replace HB:=Aside0.mk (hb);replace HI0:=Aside0.mk (hi);(try clear hb);(try clear hb2);(try clear hk);(try clear hi);have p104:0≤(t101:Int):=of_decide_eq_true ze;have q104:t101<(l1.length:Int):=of_decide_eq_true ze;obtain ⟨ad104,e104,hx104_0⟩:=Kd.at_string HR1.out t101 p104 q104;cases e104;replace hx104_0:=keep_cell HK.out hx104_0 (by first|(rw [add_block];exact hf1 _ rfl zdb)|exact hf1 _ rfl zdb|exact hf1 ad104 rfl zdb);replace p104:=eq_true p104;replace q104:=eq_true q104))
   go_ret
   exact ⟨zi,zp,zk,zl⟩
  ·rw [if_neg c5] at H
   exact absurd H zdd
 ·rw [if_neg c4] at H
  exact absurd H zdd

def spec_l01Split.l0:Nat→ByteArray→Int→List ByteArray→Int→Int→Option (List ByteArray)
 | 0,_,_,_,_,_=>none
 | k+1,x0,x1,x5,x6,x7=>if x7<(x0.size:Int) then (if 0≤x7 then (if (bt x0 x7)=x1 then (if 0≤x6 then (if x6≤x7 then (if x7≤(x0.size:Int) then (if x5.length<8796093022208 then (spec_l01Split.l0 k x0 x1 (x5++[x0.extract (x6:Int).toNat (x7:Int).toNat]) (wrap64 (x7+1)) (wrap64 (x7+1))) else (none)) else (none)) else (none)) else (none)) else (spec_l01Split.l0 k x0 x1 x5 x6 (wrap64 (x7+1)))) else (none)) else (if 0≤x6 then (if x6≤(x0.size:Int) then (if x5.length<8796093022208 then (some (x5++[x0.extract (x6:Int).toNat x0.size])) else (none)) else (none)) else (none))
def spec_l01Split.f (k:Nat) (a0:ByteArray) (a1:Int):Option (List ByteArray):=spec_l01Split.l0 k a0 a1 (([]:List ByteArray)) 0 0
set_option maxHeartbeats 8000000 in
set_option maxRecDepth 100000 in
theorem spec_l01Split.calls (k:Nat) (a0:ByteArray) (a1:Int) (r:List ByteArray) (w:World) (h:spec_l01Split.f k a0 a1=some r) :
 Calls Tryz.prog 78 #[.string a0,.int .u8 a1] w fun e w'=>∃v0_:Value,e = .returned (v0_)∧Kd.R Kd.string 9 w' w.heap.size (fun _=>True) v0_ r∧Below w.heap.size w w':=by
 have HB:=Aside0.mk (Below.refl w.heap.size w)
 have H:(spec_l01Split.l0 k a0 a1 (([]:List ByteArray)) 0 0)=some r:=h
 clear h
 obtain ⟨y101,hy101⟩:∃y_:List ByteArray,y_=(([]:List ByteArray)):=⟨_,rfl⟩
 replace H:(spec_l01Split.l0 k a0 a1 y101 0 0)=some r:=by first|(rw [hy101];with_reducible exact H)|(have H2_:=(Option.bind_some _ _).symm.trans H;rw [hy101];with_reducible exact H2_)|(have H2_:=(Option.bind_some _ _).symm.trans H;with_reducible exact H2_)|with_reducible exact H|(rw [hy101];exact H)|exact H
 have Ny101:=Aside0.mk hy101
 clear hy101
 have H':=Aside0.mk H
 clear H
 go_enter Tryz.func78,Tryz.ntmps78
 go_wp2_with (first|((with_reducible refine gate_dst (N:=8) rfl ?_);refine Kd.R_lit Kd.string _ 9 ?hg (N:=8) ?hd (xs:=([]:List ByteArray)) (inner:=[]) (ok:=fun _=>True) (okp:=fun _=>True) ?hr ?hp (fun _ hk=>hk) trivial (Below.refl _ _) (Nat.le_refl _) zdd ?_;(case hd=>rfl);(case hg=>rfl);(case hr=>exact zy);(case hp=>exact (Reps.none _ _));intro v102 w3 ho4 hb hg_ hnew_;clear hg_ hnew_;(first|rw [←Ny101.out] at ho4|(simp only [Int.reduceToNat] at ho4;rw [←Ny101.out] at ho4));have HO103:=Aside0.mk (Kd.R_lower ho4 (below_size za));replace HB:=Aside0.mk (below_step za hb);clear hb ho4))
 go_loopg [5,6,7] k (fun kq v5 v6 v7 w'=>∃(x5_1:List ByteArray) (x6_1:Int) (x7_1:Int),v6 = .int .i64 x6_1∧v7 = .int .i64 x7_1∧Aside0 (spec_l01Split.l0 kq a0 a1 x5_1 x6_1 x7_1=some r)∧Aside0 (kq≤k)∧Aside0 (Kd.R Kd.string 9 w' w.heap.size (fun _=>True) v5 x5_1)∧Aside0 (Below w.heap.size w w'))
 case atStart=>exact ⟨(y101),(0),(0),zg,zg,H',⟨Nat.le_refl _⟩,⟨zdf⟩,⟨za⟩⟩
 case round=>
  clear H'
  try clear p2
  obtain ⟨x5_1,x6_1,x7_1,rfl,rfl,HA,HK1,HO_5,HB⟩:=hrel
  cases gk with
  | zero=>exact absurd HA.out (by simp [spec_l01Split.l0])
  | succ k1=>
   have H:=HA.out
   clear HA
   simp only [spec_l01Split.l0] at H
   by_cases c5:x7_1<(a0.size:Int)
   ·rw [if_pos c5] at H
    have c5b0:decide (x7_1<(a0.size:Int))=true:=decide_eq_true c5
    clear c5
    by_cases c6:0≤x7_1
    ·rw [if_pos c6] at H
     have c6b0:decide (0≤x7_1)=true:=decide_eq_true c6
     clear c6
     by_cases c8:(bt a0 x7_1)=a1
     ·rw [if_pos c8] at H
      have c8b0:((bt a0 x7_1) == a1)=true:=beq_iff_eq.mpr c8
      have c8b1:((bt a0 x7_1) != a1)=false:=bne_eq_false_iff_eq.mpr c8
      clear c8
      by_cases c9:0≤x6_1
      ·rw [if_pos c9] at H
       have c9b0:=eq_true c9
       have c9b1:decide (0≤x6_1)=true:=decide_eq_true c9
       clear c9
       by_cases c10:x6_1≤x7_1
       ·rw [if_pos c10] at H
        have c10b0:=eq_true c10
        have c10b1:decide (x6_1≤x7_1)=true:=decide_eq_true c10
        clear c10
        by_cases c11:x7_1≤(a0.size:Int)
        ·rw [if_pos c11] at H
         have c11b0:=eq_true c11
         have c11b1:decide (x7_1≤(a0.size:Int))=true:=decide_eq_true c11
         clear c11
         by_cases c12:x5_1.length<8796093022208
         ·rw [if_pos c12] at H
          have LMc12:=Aside0.mk c12
          clear c12
          obtain ⟨y104,hy104⟩:∃y_:List ByteArray,y_=(x5_1++[a0.extract (x6_1:Int).toNat (x7_1:Int).toNat]):=⟨_,rfl⟩
          replace H:(spec_l01Split.l0 k1 a0 a1 y104 (wrap64 (x7_1+1)) (wrap64 (x7_1+1)))=some r:=by first|(rw [hy104];with_reducible exact H)|(have H2_:=(Option.bind_some _ _).symm.trans H;rw [hy104];with_reducible exact H2_)|(have H2_:=(Option.bind_some _ _).symm.trans H;with_reducible exact H2_)|with_reducible exact H|(rw [hy104];exact H)|exact H
          have Ny104:=Aside0.mk hy104
          clear hy104
          have H':=Aside0.mk H
          clear H
          have p7:0≤(x7_1:Int):=of_decide_eq_true ze
          have q7:x7_1<(a0.size:Int):=of_decide_eq_true ze
          have hx7:=bt_at a0 x7_1
          replace p7:=eq_true p7
          replace q7:=eq_true q7
          go_wp2_with (first|((with_reducible refine gate_builtin (b:=.append) (xs:=#[.tmp 20,.tmp 25]) rfl ?_);at_builtin;refine Kd.R_append Kd.string (w0:=w) w.heap.size rfl (.tmp 20) (.tmp 25) 104 9 (.string ⟨#[]⟩) 16 rfl Tryz.underlying104 info9 rfl zbl zdb u5 x5_1 (a0.extract (x6_1:Int).toNat (x7_1:Int).toNat) [.string (a0.extract (x6_1:Int).toNat (x7_1:Int).toNat)] (fun _=>True) (fun _=>False) rfl rfl ?aP (fun _ hk=>hk.elim) ?aF ?aO ?aB ?aS ?aL ?_;(case aP=>exact rfl);(case aB=>exact za);(case aF=>exact zdj);(case aO=>exact (by (with_reducible repeat (first|apply Kd.R_alloc|apply Kd.R_drewN|apply Kd.R_drew));exact HO_5.out));(case aS=>exact (below_size za));(case aL=>have:=LMc12.out;omega);intro v105 w13 ho hb hg hat;rw [←Ny104.out] at ho;replace HB:=Aside0.mk (hb);have HO106:=Aside0.mk (ho);clear HO_5;clear ho hb hg hat))
          go_roundg k1
          case measure=>have:=HK1.out;omega
          case rel=>exact ⟨(y104),(wrap64 (x7_1+1)),(wrap64 (x7_1+1)),zg,zg,H',⟨zdo⟩,⟨by (with_reducible repeat (first|apply Kd.R_alloc|apply Kd.R_drewN|apply Kd.R_drew));exact HO106.out⟩,⟨za⟩⟩
         ·rw [if_neg c12] at H
          exact absurd H zdd
        ·rw [if_neg c11] at H
         exact absurd H zdd
       ·rw [if_neg c10] at H
        exact absurd H zdd
      ·rw [if_neg c9] at H
       exact absurd H zdd
     ·rw [if_neg c8] at H
      have c8b0:((bt a0 x7_1) == a1)=false:=beq_eq_false_iff_ne.mpr c8
      have c8b1:((bt a0 x7_1) != a1)=true:=bne_iff_ne.mpr c8
      have H':=Aside0.mk H
      clear H
      have p7:0≤(x7_1:Int):=of_decide_eq_true ze
      have q7:x7_1<(a0.size:Int):=of_decide_eq_true ze
      have hx7:=bt_at a0 x7_1
      replace p7:=eq_true p7
      replace q7:=eq_true q7
      go_wp2
      go_roundg k1
      case measure=>have:=HK1.out;omega
      case rel=>exact ⟨(x5_1),(x6_1),(wrap64 (x7_1+1)),zg,zg,H',⟨zdo⟩,⟨by (with_reducible repeat (first|apply Kd.R_alloc|apply Kd.R_drewN|apply Kd.R_drew));exact HO_5.out⟩,⟨za⟩⟩
    ·rw [if_neg c6] at H
     exact absurd H zdd
   ·rw [if_neg c5] at H
    have c5b0:decide (x7_1<(a0.size:Int))=false:=decide_eq_false c5
    clear c5
    by_cases c14:0≤x6_1
    ·rw [if_pos c14] at H
     have c14b0:=eq_true c14
     have c14b1:decide (0≤x6_1)=true:=decide_eq_true c14
     clear c14
     by_cases c15:x6_1≤(a0.size:Int)
     ·rw [if_pos c15] at H
      have c15b0:=eq_true c15
      have c15b1:decide (x6_1≤(a0.size:Int))=true:=decide_eq_true c15
      clear c15
      by_cases c16:x5_1.length<8796093022208
      ·rw [if_pos c16] at H
       have LMc16:=Aside0.mk c16
       clear c16
       obtain ⟨y107,hy107⟩:∃y_:List ByteArray,y_=(x5_1++[a0.extract (x6_1:Int).toNat a0.size]):=⟨_,rfl⟩
       replace H:(some y107)=some r:=by first|(rw [hy107];with_reducible exact H)|(have H2_:=(Option.bind_some _ _).symm.trans H;rw [hy107];with_reducible exact H2_)|(have H2_:=(Option.bind_some _ _).symm.trans H;with_reducible exact H2_)|with_reducible exact H|(rw [hy107];exact H)|exact H
       have Ny107:=Aside0.mk hy107
       clear hy107
       obtain rfl:=Option.some.inj H
       go_wp2_with (first|((with_reducible refine gate_builtin (b:=.append) (xs:=#[.tmp 29,.tmp 33]) rfl ?_);at_builtin;refine Kd.R_append Kd.string (w0:=w) w.heap.size rfl (.tmp 29) (.tmp 33) 104 9 (.string ⟨#[]⟩) 16 rfl Tryz.underlying104 info9 rfl zbl zdb u5 x5_1 (a0.extract (x6_1:Int).toNat a0.size) [.string (a0.extract (x6_1:Int).toNat a0.size)] (fun _=>True) (fun _=>False) rfl rfl ?aP (fun _ hk=>hk.elim) ?aF ?aO ?aB ?aS ?aL ?_;(case aP=>exact rfl);(case aB=>exact za);(case aF=>exact zdj);(case aO=>exact (by (with_reducible repeat (first|apply Kd.R_alloc|apply Kd.R_drewN|apply Kd.R_drew));exact HO_5.out));(case aS=>exact (below_size za));(case aL=>have:=LMc16.out;omega);intro v108 w17 ho hb hg hat;rw [←Ny107.out] at ho;replace HB:=Aside0.mk (hb);have HO109:=Aside0.mk (ho);clear HO_5;clear ho hb hg hat))
       go_ret
       exact ⟨_,zi,by (with_reducible repeat (first|apply Kd.R_alloc|apply Kd.R_drewN|apply Kd.R_drew));exact HO109.out,za⟩
      ·rw [if_neg c16] at H
       exact absurd H zdd
     ·rw [if_neg c15] at H
      exact absurd H zdd
    ·rw [if_neg c14] at H
     exact absurd H zdd

def spec_l01Digit.f (a0:Int):Option (Bool):=if a0≥48 then (some (decide (a0≤57))) else (some false)
set_option maxHeartbeats 8000000 in
set_option maxRecDepth 100000 in
theorem spec_l01Digit.calls (a0:Int) (r:Bool) (w:World) (h:spec_l01Digit.f a0=some r) :
 Calls Tryz.prog 112 #[.int .u8 a0] w fun e w'=>e = .returned (.bool r)∧Drawn0 w w':=by
 have H:(if a0≥48 then (some (decide (a0≤57))) else (some false))=some r:=h
 clear h
 by_cases c2:a0≥48
 ·rw [if_pos c2] at H
  have c2b0:decide (48≤a0)=true:=decide_eq_true c2
  clear c2
  obtain rfl:=Option.some.inj H
  go_enter Tryz.func112,Tryz.ntmps112
  go_wp2
  go_ret
  exact ⟨zg,zj⟩
 ·rw [if_neg c2] at H
  have c2b0:decide (48≤a0)=false:=decide_eq_false c2
  clear c2
  obtain rfl:=Option.some.inj H
  go_enter Tryz.func112,Tryz.ntmps112
  go_wp2
  go_ret
  exact ⟨zg,zj⟩

mutual
def spec_l01Number.j0:Nat→ByteArray→Int→Bool→Option (Int × Bool)
 | 0,_,_,_=>none
 | k+1,x0,x4,x14=>if x14=true then (spec_l01Number.j1 k x0 1) else (spec_l01Number.j1 k x0 x4)
def spec_l01Number.j1:Nat→ByteArray→Int→Option (Int × Bool)
 | 0,_,_=>none
 | k+1,x0,x4=>if (x0.size:Int)=x4 then (spec_l01Number.j2 k x0 x4 true) else (if (wrap64 ((x0.size:Int) - x4)) > 18 then (spec_l01Number.j2 k x0 x4 true) else (if 0≤x4 then (if x4<(x0.size:Int) then (if (bt x0 x4)=48 then (spec_l01Number.j2 k x0 x4 (decide ((x0.size:Int) > 1))) else (spec_l01Number.j2 k x0 x4 false)) else (none)) else (none)))
def spec_l01Number.j2:Nat→ByteArray→Int→Bool→Option (Int × Bool)
 | 0,_,_,_=>none
 | k+1,x0,x4,x36=>if x36=true then (some (0,false)) else (spec_l01Number.l0 k x0 x4 0 x4)
def spec_l01Number.l0:Nat→ByteArray→Int→Int→Int→Option (Int × Bool)
 | 0,_,_,_,_=>none
 | k+1,x0,x4,x5,x6=>if x6<(x0.size:Int) then (if 0≤x6 then ((spec_l01Digit.f (bt x0 x6)).bind fun t101=>(if t101=true then (spec_l01Number.l0 k x0 x4 (wrap64 ((wrap64 (10*x5))+(((bt x0 x6) - 48)%256))) (wrap64 (x6+1))) else (some (0,false)))) else (none)) else (if x4=1 then (some (wrap64 (-x5),true)) else (some (x5,true)))
end
def spec_l01Number.f (k:Nat) (a0:ByteArray):Option (Int × Bool):=if (a0.size:Int) > 0 then (if 0<(a0.size:Int) then (spec_l01Number.j0 k a0 0 ((bt a0 0) == 45)) else (none)) else (spec_l01Number.j0 k a0 0 false)
set_option maxHeartbeats 8000000 in
set_option maxRecDepth 100000 in
theorem spec_l01Number.calls (k:Nat) (a0:ByteArray) (r1:Int) (r2:Bool) (w:World) (h:spec_l01Number.f k a0=some (r1,r2)) :
 Calls Tryz.prog 80 #[.string a0] w fun e w'=>e = .returned (.tuple #[.int .i64 r1,.bool r2])∧Drawn0 w w':=by
 have H:(if (a0.size:Int) > 0 then (if 0<(a0.size:Int) then (spec_l01Number.j0 k a0 0 ((bt a0 0) == 45)) else (none)) else (spec_l01Number.j0 k a0 0 false))=some (r1,r2):=h
 clear h
 have HC2:=Aside0.mk H
 clear H
 go_enter Tryz.func80,Tryz.ntmps80
 go_upto_region 2 with (fail)
 go_cut [14] (fun v14 wc=>∃(kq:Nat) (x14_1:Bool),v14 = .bool x14_1∧Aside0 (spec_l01Number.j0 kq a0 0 x14_1=some (r1,r2))∧Aside0 (kq≤k)∧Drawn0 w wc)
 case first=>
  have H:=HC2.out
  clear HC2
  by_cases c3:(a0.size:Int) > 0
  ·rw [if_pos c3] at H
   have c3b0:decide (0<(a0.size:Int))=true:=decide_eq_true c3
   have c3b1:decide (0<a0.size)=true:=decide_eq_true zdb
   clear c3
   (first|rw [c3b0]|(simp only [i64_w,i32_w];rw [c3b0])|skip)
   by_cases c4:0<(a0.size:Int)
   ·rw [if_pos c4] at H
    have c4b0:decide (0<(a0.size:Int))=true:=decide_eq_true c4
    have c4b1:decide (0<a0.size)=true:=decide_eq_true zdb
    clear c4
    have H':=Aside0.mk H
    clear H
    have p5:0≤(0:Int):=zdb
    have q5:0<a0.size:=(by have:(0:Int)<(a0.size:Int):=of_decide_eq_true ze;omega)
    have hx5:∀h:0<a0.size,((a0[0]'h).toNat:Int)=bt a0 0:=bt_at a0 0
    clear p5
    have qi5:(0<(a0.size:Int))=True:=eq_true (of_decide_eq_true ze)
    replace q5:=eq_true q5
    go_wp2
    go_meet
    case rel=>exact ⟨_,(((bt a0 0) == 45)),zg,H',⟨zds⟩,zj⟩
   ·rw [if_neg c4] at H
    exact absurd H zdd
  ·rw [if_neg c3] at H
   have c3b0:decide (0<(a0.size:Int))=false:=decide_eq_false c3
   have c3b1:decide (0<a0.size)=false:=decide_eq_false zdb
   clear c3
   (first|rw [c3b0]|(simp only [i64_w,i32_w];rw [c3b0])|skip)
   have H':=Aside0.mk H
   clear H
   go_wp2
   go_meet
   case rel=>exact ⟨_,(false),zg,H',⟨zds⟩,zj⟩
 case rest=>
  clear HC2
  try clear p2
  try clear c3
  try clear c3b0
  try clear c3b1
  try clear c4
  try clear c4b0
  try clear c4b1
  try clear p5
  try clear q5
  try clear hx5
  try clear qi5
  try clear p5
  try clear q5
  obtain ⟨kq,x14_1,rfl,HA,HJ1,⟨mc1,rfl⟩⟩:=hcut
  cases kq with
  | zero=>exact absurd HA.out (by simp [spec_l01Number.j0])
  | succ kj1=>
   have H:=HA.out
   clear HA
   simp only [spec_l01Number.j0] at H
   have HC6:=Aside0.mk H
   clear H
   go_upto_if 14 with (fail)
   go_cut [4] (fun v4 wc=>∃(kq:Nat) (x4_5:Int),v4 = .int .i64 x4_5∧Aside0 (spec_l01Number.j1 kq a0 x4_5=some (r1,r2))∧Aside0 (kq≤kj1)∧Drawn0 w wc)
   case first=>
    have H:=HC6.out
    clear HC6
    by_cases c7:x14_1=true
    ·subst c7
     have H1:(spec_l01Number.j1 kj1 a0 1)=some (r1,r2):=by rw [if_pos rfl] at H;exact H
     clear H
     have H:=H1
     clear H1
     have H':=Aside0.mk H
     clear H
     go_wp2
     go_meet
     case rel=>exact ⟨_,(1),zg,H',⟨by have:=HJ1.out;first|omega|exact Nat.le_refl _⟩,zj⟩
    ·replace c7:=Bool.eq_false_iff.mpr c7
     subst c7
     have H1:(spec_l01Number.j1 kj1 a0 0)=some (r1,r2):=by rw [if_neg (show ¬ (false=true) by decide)] at H;exact H
     clear H
     have H:=H1
     clear H1
     have H':=Aside0.mk H
     clear H
     go_wp2
     go_meet
     case rel=>exact ⟨_,(0),zg,H',⟨by have:=HJ1.out;first|omega|exact Nat.le_refl _⟩,zj⟩
   case rest=>
    clear HC6
    try clear c1
    try clear p2
    try clear c3
    try clear c3b0
    try clear c3b1
    try clear c4
    try clear c4b0
    try clear c4b1
    try clear p5
    try clear q5
    try clear hx5
    try clear qi5
    try clear c7
    try clear p2
    try clear p5
    try clear q5
    obtain ⟨kq,x4_5,rfl,HA,HJ5,⟨mc5,rfl⟩⟩:=hcut
    cases kq with
    | zero=>exact absurd HA.out (by simp [spec_l01Number.j1])
    | succ kj5=>
     have H:=HA.out
     clear HA
     simp only [spec_l01Number.j1] at H
     have HC8:=Aside0.mk H
     clear H
     go_upto_region 4 with (fail)
     go_cut [36] (fun v36 wc=>∃(kq:Nat) (x36_7:Bool),v36 = .bool x36_7∧Aside0 (spec_l01Number.j2 kq a0 x4_5 x36_7=some (r1,r2))∧Aside0 (kq≤kj5)∧Drawn0 w wc)
     case first=>
      have H:=HC8.out
      clear HC8
      by_cases c9:(a0.size:Int)=x4_5
      ·rw [if_pos c9] at H
       have c9b0:((a0.size:Int) == x4_5)=true:=beq_iff_eq.mpr c9
       have c9b1:((a0.size:Int) != x4_5)=false:=bne_eq_false_iff_eq.mpr c9
       clear c9
       (first|rw [c9b0]|(simp only [i64_w,i32_w];rw [c9b0])|skip)
       have H':=Aside0.mk H
       clear H
       go_wp2
       go_meet
       case rel=>exact ⟨_,(true),zg,H',⟨by have:=HJ1.out;have:=HJ5.out;first|omega|exact Nat.le_refl _⟩,zj⟩
      ·rw [if_neg c9] at H
       have c9b0:((a0.size:Int) == x4_5)=false:=beq_eq_false_iff_ne.mpr c9
       have c9b1:((a0.size:Int) != x4_5)=true:=bne_iff_ne.mpr c9
       (first|rw [c9b0]|(simp only [i64_w,i32_w];rw [c9b0])|skip)
       by_cases c10:(wrap64 ((a0.size:Int) - x4_5)) > 18
       ·rw [if_pos c10] at H
        have c10b0:decide (18<(wrap64 ((a0.size:Int) - x4_5)))=true:=decide_eq_true c10
        clear c10
        have H':=Aside0.mk H
        clear H
        go_wp2
        go_meet
        case rel=>exact ⟨_,(true),zg,H',⟨by have:=HJ1.out;have:=HJ5.out;first|omega|exact Nat.le_refl _⟩,zj⟩
       ·rw [if_neg c10] at H
        have c10b0:decide (18<(wrap64 ((a0.size:Int) - x4_5)))=false:=decide_eq_false c10
        clear c10
        by_cases c11:0≤x4_5
        ·rw [if_pos c11] at H
         have c11b0:decide (0≤x4_5)=true:=decide_eq_true c11
         clear c11
         by_cases c12:x4_5<(a0.size:Int)
         ·rw [if_pos c12] at H
          have c12b0:decide (x4_5<(a0.size:Int))=true:=decide_eq_true c12
          clear c12
          by_cases c14:(bt a0 x4_5)=48
          ·rw [if_pos c14] at H
           have c14b0:((bt a0 x4_5) == 48)=true:=beq_iff_eq.mpr c14
           have c14b1:((bt a0 x4_5) != 48)=false:=bne_eq_false_iff_eq.mpr c14
           clear c14
           have H':=Aside0.mk H
           clear H
           have p13:0≤(x4_5:Int):=of_decide_eq_true ze
           have q13:x4_5<(a0.size:Int):=of_decide_eq_true ze
           have hx13:=bt_at a0 x4_5
           replace p13:=eq_true p13
           replace q13:=eq_true q13
           go_wp2
           go_meet
           case rel=>exact ⟨_,(decide ((a0.size:Int) > 1)),zg,H',⟨by have:=HJ1.out;have:=HJ5.out;first|omega|exact Nat.le_refl _⟩,zj⟩
          ·rw [if_neg c14] at H
           have c14b0:((bt a0 x4_5) == 48)=false:=beq_eq_false_iff_ne.mpr c14
           have c14b1:((bt a0 x4_5) != 48)=true:=bne_iff_ne.mpr c14
           have H':=Aside0.mk H
           clear H
           have p13:0≤(x4_5:Int):=of_decide_eq_true ze
           have q13:x4_5<(a0.size:Int):=of_decide_eq_true ze
           have hx13:=bt_at a0 x4_5
           replace p13:=eq_true p13
           replace q13:=eq_true q13
           go_wp2
           go_meet
           case rel=>exact ⟨_,(false),zg,H',⟨by have:=HJ1.out;have:=HJ5.out;first|omega|exact Nat.le_refl _⟩,zj⟩
         ·rw [if_neg c12] at H
          exact absurd H zdd
        ·rw [if_neg c11] at H
         exact absurd H zdd
     case rest=>
      clear HC8
      try clear c1
      try clear p1
      try clear q1
      try clear hx1
      try clear p2
      try clear c3
      try clear c3b0
      try clear c3b1
      try clear c4
      try clear c4b0
      try clear c4b1
      try clear c5
      try clear p5
      try clear q5
      try clear hx5
      try clear qi5
      try clear p6
      try clear c7
      try clear c8
      try clear c9
      try clear c9b0
      try clear c9b1
      try clear c10
      try clear c10b0
      try clear c11
      try clear c11b0
      try clear c12
      try clear c12b0
      try clear p13
      try clear q13
      try clear hx13
      try clear c14
      try clear c14b0
      try clear c14b1
      try clear p13
      try clear p2
      try clear p5
      try clear q13
      try clear q5
      obtain ⟨kq,x36_7,rfl,HA,HJ7,⟨mc7,rfl⟩⟩:=hcut
      cases kq with
      | zero=>exact absurd HA.out (by simp [spec_l01Number.j2])
      | succ kj7=>
       have H:=HA.out
       clear HA
       simp only [spec_l01Number.j2] at H
       by_cases c15:x36_7=true
       ·subst c15
        have H1:(some (0,false))=some (r1,r2):=by rw [if_pos rfl] at H;exact H
        clear H
        have H:=H1
        clear H1
        simp only [Option.some.injEq,Prod.mk.injEq] at H
        obtain ⟨rfl,rfl⟩:=H
        go_wp2
        go_ret2
        exact ⟨zg,zj⟩
       ·replace c15:=Bool.eq_false_iff.mpr c15
        subst c15
        have H1:(spec_l01Number.l0 kj7 a0 x4_5 0 x4_5)=some (r1,r2):=by rw [if_neg (show ¬ (false=true) by decide)] at H;exact H
        clear H
        have H:=H1
        clear H1
        have H':=Aside0.mk H
        clear H
        go_wp2
        go_loopg [5,6] kj7 (fun kq v5 v6 w'=>∃(x5_4:Int) (x6_4:Int),v5 = .int .i64 x5_4∧v6 = .int .i64 x6_4∧Aside0 (spec_l01Number.l0 kq a0 x4_5 x5_4 x6_4=some (r1,r2))∧Aside0 (kq≤kj7)∧Drawn0 w w')
        case atStart=>exact ⟨(0),(x4_5),zg,zg,H',⟨Nat.le_refl _⟩,zj⟩
        case round=>
         clear H'
         try clear c1
         try clear p1
         try clear q1
         try clear hx1
         try clear p2
         try clear c3
         try clear c3b0
         try clear c3b1
         try clear c4
         try clear c4b0
         try clear c4b1
         try clear c5
         try clear p5
         try clear q5
         try clear hx5
         try clear qi5
         try clear p6
         try clear c7
         try clear c8
         try clear c9
         try clear c9b0
         try clear c9b1
         try clear c10
         try clear c10b0
         try clear c11
         try clear c11b0
         try clear c12
         try clear c12b0
         try clear p13
         try clear q13
         try clear hx13
         try clear c14
         try clear c14b0
         try clear c14b1
         try clear c15
         try clear p1
         try clear p13
         try clear p2
         try clear p5
         try clear p6
         try clear q1
         try clear q13
         try clear q5
         obtain ⟨x5_4,x6_4,rfl,rfl,HA,HK4,⟨m4,rfl⟩⟩:=hrel
         cases gk with
         | zero=>exact absurd HA.out (by simp [spec_l01Number.l0])
         | succ k4=>
          have H:=HA.out
          clear HA
          simp only [spec_l01Number.l0] at H
          by_cases c16:x6_4<(a0.size:Int)
          ·rw [if_pos c16] at H
           have c16b0:decide (x6_4<(a0.size:Int))=true:=decide_eq_true c16
           clear c16
           by_cases c17:0≤x6_4
           ·rw [if_pos c17] at H
            have c17b0:decide (0≤x6_4)=true:=decide_eq_true c17
            clear c17
            replace H:=Option.bind_eq_some_iff.mp H
            obtain ⟨t101,A190,H⟩:=H
            replace H:(if t101=true then (spec_l01Number.l0 k4 a0 x4_5 (wrap64 ((wrap64 (10*x5_4))+(((bt a0 x6_4) - 48)%256))) (wrap64 (x6_4+1))) else (some (0,false)))=some (r1,r2):=H
            have A19:=Aside0.mk A190
            clear A190
            by_cases c20:t101=true
            ·subst c20
             have H1:(spec_l01Number.l0 k4 a0 x4_5 (wrap64 ((wrap64 (10*x5_4))+(((bt a0 x6_4) - 48)%256))) (wrap64 (x6_4+1)))=some (r1,r2):=by rw [if_pos rfl] at H;exact H
             clear H
             have H:=H1
             clear H1
             have H':=Aside0.mk H
             clear H
             have p18:0≤(x6_4:Int):=of_decide_eq_true ze
             have q18:x6_4<(a0.size:Int):=of_decide_eq_true ze
             have hx18:=bt_at a0 x6_4
             replace p18:=eq_true p18
             replace q18:=eq_true q18
             go_wp2_with (first|((with_reducible refine gate_callee (f:=112) rfl ?_);refine goesL_ (some 47) rfl rfl Tryz.func112 zau rfl #[.int .u8 (bt a0 x6_4)] rfl zd ?_;(with_reducible refine (spec_l01Digit.calls (bt a0 x6_4) true _ A19.out).mono ?_);rintro e w' ⟨rfl,⟨nd,rfl⟩⟩;refine ⟨_,rfl,?_⟩;have p21:0≤(x6_4:Int):=of_decide_eq_true ze;have q21:x6_4<(a0.size:Int):=of_decide_eq_true ze;have hx21:=bt_at a0 x6_4;replace p21:=eq_true p21;replace q21:=eq_true q21))
             go_roundg k4
             case measure=>have:=HJ1.out;have:=HJ5.out;have:=HJ7.out;have:=HK4.out;omega
             case rel=>exact ⟨(wrap64 ((wrap64 (10*x5_4))+(((bt a0 x6_4) - 48)%256))),(wrap64 (x6_4+1)),zg,zg,H',⟨by have:=HJ1.out;have:=HJ5.out;have:=HJ7.out;have:=HK4.out;omega⟩,zj⟩
            ·replace c20:=Bool.eq_false_iff.mpr c20
             subst c20
             have H1:(some (0,false))=some (r1,r2):=by rw [if_neg (show ¬ (false=true) by decide)] at H;exact H
             clear H
             have H:=H1
             clear H1
             simp only [Option.some.injEq,Prod.mk.injEq] at H
             obtain ⟨rfl,rfl⟩:=H
             have p18:0≤(x6_4:Int):=of_decide_eq_true ze
             have q18:x6_4<(a0.size:Int):=of_decide_eq_true ze
             have hx18:=bt_at a0 x6_4
             replace p18:=eq_true p18
             replace q18:=eq_true q18
             go_wp2_with (first|((with_reducible refine gate_callee (f:=112) rfl ?_);refine goesL_ (some 47) rfl rfl Tryz.func112 zau rfl #[.int .u8 (bt a0 x6_4)] rfl zd ?_;(with_reducible refine (spec_l01Digit.calls (bt a0 x6_4) false _ A19.out).mono ?_);rintro e w' ⟨rfl,⟨nd,rfl⟩⟩;refine ⟨_,rfl,?_⟩))
             go_ret2
             exact ⟨zg,zj⟩
           ·rw [if_neg c17] at H
            exact absurd H zdd
          ·rw [if_neg c16] at H
           have c16b0:decide (x6_4<(a0.size:Int))=false:=decide_eq_false c16
           clear c16
           by_cases c22:x4_5=1
           ·rw [if_pos c22] at H
            have c22b0:(x4_5 == 1)=true:=beq_iff_eq.mpr c22
            have c22b1:(x4_5 != 1)=false:=bne_eq_false_iff_eq.mpr c22
            clear c22
            simp only [Option.some.injEq,Prod.mk.injEq] at H
            obtain ⟨rfl,rfl⟩:=H
            go_wp2
            go_ret2
            exact ⟨zg,zj⟩
           ·rw [if_neg c22] at H
            have c22b0:(x4_5 == 1)=false:=beq_eq_false_iff_ne.mpr c22
            have c22b1:(x4_5 != 1)=true:=bne_iff_ne.mpr c22
            simp only [Option.some.injEq,Prod.mk.injEq] at H
            obtain ⟨rfl,rfl⟩:=H
            go_wp2
            go_ret2
            exact ⟨zg,zj⟩

def spec_l17Signs.f:Option (ByteArray):=some (⟨#[45,88,43,111]⟩:ByteArray)
set_option maxHeartbeats 8000000 in
set_option maxRecDepth 100000 in
theorem spec_l17Signs.calls (r:ByteArray) (w:World) (h:spec_l17Signs.f=some r) :
 Calls Tryz.prog 140 #[] w fun e w'=>e = .returned (.string r)∧Drawn0 w w':=by
 have H:(some (⟨#[45,88,43,111]⟩:ByteArray))=some r:=h
 clear h
 obtain rfl:=Option.some.inj H
 go_enter Tryz.func140,Tryz.ntmps140
 go_wp2
 go_ret
 exact ⟨zg,zj⟩

def spec_l00In.f (a0:Int) (a1:Int) (a2:Int):Option (Bool):=if a0≥a1 then (some (decide (a0≤a2))) else (some false)
set_option maxHeartbeats 8000000 in
set_option maxRecDepth 100000 in
theorem spec_l00In.calls (a0:Int) (a1:Int) (a2:Int) (r:Bool) (w:World) (h:spec_l00In.f a0 a1 a2=some r) :
 Calls Tryz.prog 77 #[.int .i64 a0,.int .i64 a1,.int .i64 a2] w fun e w'=>e = .returned (.bool r)∧Drawn0 w w':=by
 have H:(if a0≥a1 then (some (decide (a0≤a2))) else (some false))=some r:=h
 clear h
 by_cases c4:a0≥a1
 ·rw [if_pos c4] at H
  have c4b0:decide (a1≤a0)=true:=decide_eq_true c4
  clear c4
  obtain rfl:=Option.some.inj H
  go_enter Tryz.func77,Tryz.ntmps77
  go_wp2
  go_ret
  exact ⟨zg,zj⟩
 ·rw [if_neg c4] at H
  have c4b0:decide (a1≤a0)=false:=decide_eq_false c4
  clear c4
  obtain rfl:=Option.some.inj H
  go_enter Tryz.func77,Tryz.ntmps77
  go_wp2
  go_ret
  exact ⟨zg,zj⟩

def spec_l01Small.f (a0:Int):Option (Bool):=if a0≥97 then (some (decide (a0≤122))) else (some false)
set_option maxHeartbeats 8000000 in
set_option maxRecDepth 100000 in
theorem spec_l01Small.calls (a0:Int) (r:Bool) (w:World) (h:spec_l01Small.f a0=some r) :
 Calls Tryz.prog 192 #[.int .u8 a0] w fun e w'=>e = .returned (.bool r)∧Drawn0 w w':=by
 have H:(if a0≥97 then (some (decide (a0≤122))) else (some false))=some r:=h
 clear h
 by_cases c2:a0≥97
 ·rw [if_pos c2] at H
  have c2b0:decide (97≤a0)=true:=decide_eq_true c2
  clear c2
  obtain rfl:=Option.some.inj H
  go_enter Tryz.func192,Tryz.ntmps192
  go_wp2
  go_ret
  exact ⟨zg,zj⟩
 ·rw [if_neg c2] at H
  have c2b0:decide (97≤a0)=false:=decide_eq_false c2
  clear c2
  obtain rfl:=Option.some.inj H
  go_enter Tryz.func192,Tryz.ntmps192
  go_wp2
  go_ret
  exact ⟨zg,zj⟩

mutual
def spec_l01Name.j0:Nat→ByteArray→Bool→Option (Bool)
 | 0,_,_=>none
 | k+1,x0,x16=>if x16=true then (some false) else (spec_l01Name.l0 k x0 0)
def spec_l01Name.l0:Nat→ByteArray→Int→Option (Bool)
 | 0,_,_=>none
 | k+1,x0,x3=>if x3<(x0.size:Int) then (if 0≤x3 then ((spec_l01Small.f (bt x0 x3)).bind fun t102=>(if t102=true then (spec_l01Name.l0 k x0 (wrap64 (x3+1))) else ((spec_l01Digit.f (bt x0 x3)).bind fun t103=>(if t103=true then (spec_l01Name.l0 k x0 (wrap64 (x3+1))) else (some false))))) else (none)) else (some true)
end
def spec_l01Name.f (k:Nat) (a0:ByteArray):Option (Bool):=if a0.toList=([]:List UInt8) then (spec_l01Name.j0 k a0 true) else (if (a0.size:Int) > 10 then (spec_l01Name.j0 k a0 true) else (if 0<(a0.size:Int) then ((spec_l01Small.f (bt a0 0)).bind fun t101=>(spec_l01Name.j0 k a0 (!t101))) else (none)))
set_option maxHeartbeats 8000000 in
set_option maxRecDepth 100000 in
theorem spec_l01Name.calls (k:Nat) (a0:ByteArray) (r:Bool) (w:World) (h:spec_l01Name.f k a0=some r) :
 Calls Tryz.prog 161 #[.string a0] w fun e w'=>e = .returned (.bool r)∧Drawn0 w w':=by
 have H:(if a0.toList=([]:List UInt8) then (spec_l01Name.j0 k a0 true) else (if (a0.size:Int) > 10 then (spec_l01Name.j0 k a0 true) else (if 0<(a0.size:Int) then ((spec_l01Small.f (bt a0 0)).bind fun t101=>(spec_l01Name.j0 k a0 (!t101))) else (none))))=some r:=h
 clear h
 have HC2:=Aside0.mk H
 clear H
 go_enter Tryz.func161,Tryz.ntmps161
 go_upto_region 1 with (fail)
 go_cut [16] (fun v16 wc=>∃(kq:Nat) (x16_1:Bool),v16 = .bool x16_1∧Aside0 (spec_l01Name.j0 kq a0 x16_1=some r)∧Aside0 (kq≤k)∧Drawn0 w wc)
 case first=>
  have H:=HC2.out
  clear HC2
  by_cases c3:a0.toList=([]:List UInt8)
  ·rw [if_pos c3] at H
   have c3b0:(a0.toList == ([]:List UInt8))=true:=beq_iff_eq.mpr c3
   have c3b1:(a0.toList != ([]:List UInt8))=false:=bne_eq_false_iff_eq.mpr c3
   clear c3
   (first|rw [c3b0]|(simp only [i64_w,i32_w];rw [c3b0])|skip)
   have H':=Aside0.mk H
   clear H
   go_wp2
   go_meet
   case rel=>exact ⟨_,(true),zg,H',⟨zds⟩,zj⟩
  ·rw [if_neg c3] at H
   have c3b0:(a0.toList == ([]:List UInt8))=false:=beq_eq_false_iff_ne.mpr c3
   have c3b1:(a0.toList != ([]:List UInt8))=true:=bne_iff_ne.mpr c3
   (first|rw [c3b0]|(simp only [i64_w,i32_w];rw [c3b0])|skip)
   by_cases c4:(a0.size:Int) > 10
   ·rw [if_pos c4] at H
    have c4b0:decide (10<(a0.size:Int))=true:=decide_eq_true c4
    have c4b1:decide (10<a0.size)=true:=decide_eq_true zdb
    clear c4
    have H':=Aside0.mk H
    clear H
    go_wp2
    go_meet
    case rel=>exact ⟨_,(true),zg,H',⟨zds⟩,zj⟩
   ·rw [if_neg c4] at H
    have c4b0:decide (10<(a0.size:Int))=false:=decide_eq_false c4
    have c4b1:decide (10<a0.size)=false:=decide_eq_false zdb
    clear c4
    by_cases c5:0<(a0.size:Int)
    ·rw [if_pos c5] at H
     have c5b0:decide (0<(a0.size:Int))=true:=decide_eq_true c5
     have c5b1:decide (0<a0.size)=true:=decide_eq_true zdb
     clear c5
     replace H:=Option.bind_eq_some_iff.mp H
     obtain ⟨t101,A70,H⟩:=H
     replace H:(spec_l01Name.j0 k a0 (!t101))=some r:=H
     have A7:=Aside0.mk A70
     clear A70
     have H':=Aside0.mk H
     clear H
     have p6:0≤(0:Int):=zdb
     have q6:0<a0.size:=(by have:(0:Int)<(a0.size:Int):=of_decide_eq_true ze;omega)
     have hx6:∀h:0<a0.size,((a0[0]'h).toNat:Int)=bt a0 0:=bt_at a0 0
     clear p6
     have qi6:(0<(a0.size:Int))=True:=eq_true (of_decide_eq_true ze)
     replace q6:=eq_true q6
     go_wp2_with (first|(go_at_call 192;(with_reducible refine (spec_l01Small.calls (bt a0 0) t101 _ A7.out).mono ?_);rintro e w' ⟨rfl,⟨nd,rfl⟩⟩))
     go_meet
     case rel=>exact ⟨_,(!t101),zg,H',⟨zds⟩,zj⟩
    ·rw [if_neg c5] at H
     exact absurd H zdd
 case rest=>
  clear HC2
  try clear c1
  try clear p2
  try clear c3
  try clear c3b0
  try clear c3b1
  try clear c4
  try clear c4b0
  try clear c4b1
  try clear c5
  try clear c5b0
  try clear c5b1
  try clear p6
  try clear q6
  try clear hx6
  try clear qi6
  try clear p6
  try clear q6
  obtain ⟨kq,x16_1,rfl,HA,HJ1,⟨mc1,rfl⟩⟩:=hcut
  cases kq with
  | zero=>exact absurd HA.out (by simp [spec_l01Name.j0])
  | succ kj1=>
   have H:=HA.out
   clear HA
   simp only [spec_l01Name.j0] at H
   by_cases c8:x16_1=true
   ·subst c8
    have H1:(some false)=some r:=by rw [if_pos rfl] at H;exact H
    clear H
    have H:=H1
    clear H1
    obtain rfl:=Option.some.inj H
    go_wp2
    go_ret
    exact ⟨zg,zj⟩
   ·replace c8:=Bool.eq_false_iff.mpr c8
    subst c8
    have H1:(spec_l01Name.l0 kj1 a0 0)=some r:=by rw [if_neg (show ¬ (false=true) by decide)] at H;exact H
    clear H
    have H:=H1
    clear H1
    have H':=Aside0.mk H
    clear H
    go_wp2
    go_loopg [3] kj1 (fun kq v3 w'=>∃(x3_2:Int),v3 = .int .i64 x3_2∧Aside0 (spec_l01Name.l0 kq a0 x3_2=some r)∧Aside0 (kq≤kj1)∧Drawn0 w w')
    case atStart=>exact ⟨(0),zg,H',⟨Nat.le_refl _⟩,zj⟩
    case round=>
     clear H'
     try clear c1
     try clear p2
     try clear c3
     try clear c3b0
     try clear c3b1
     try clear c4
     try clear c4b0
     try clear c4b1
     try clear c5
     try clear c5b0
     try clear c5b1
     try clear p6
     try clear q6
     try clear hx6
     try clear qi6
     try clear c8
     try clear p2
     try clear p6
     try clear q6
     obtain ⟨x3_2,rfl,HA,HK2,⟨m2,rfl⟩⟩:=hrel
     cases gk with
     | zero=>exact absurd HA.out (by simp [spec_l01Name.l0])
     | succ k2=>
      have H:=HA.out
      clear HA
      simp only [spec_l01Name.l0] at H
      by_cases c9:x3_2<(a0.size:Int)
      ·rw [if_pos c9] at H
       have c9b0:decide (x3_2<(a0.size:Int))=true:=decide_eq_true c9
       clear c9
       by_cases c10:0≤x3_2
       ·rw [if_pos c10] at H
        have c10b0:decide (0≤x3_2)=true:=decide_eq_true c10
        clear c10
        replace H:=Option.bind_eq_some_iff.mp H
        obtain ⟨t102,A120,H⟩:=H
        replace H:(if t102=true then (spec_l01Name.l0 k2 a0 (wrap64 (x3_2+1))) else ((spec_l01Digit.f (bt a0 x3_2)).bind fun t103=>(if t103=true then (spec_l01Name.l0 k2 a0 (wrap64 (x3_2+1))) else (some false))))=some r:=H
        have A12:=Aside0.mk A120
        clear A120
        by_cases c13:t102=true
        ·subst c13
         have H1:(spec_l01Name.l0 k2 a0 (wrap64 (x3_2+1)))=some r:=by rw [if_pos rfl] at H;exact H
         clear H
         have H:=H1
         clear H1
         have H':=Aside0.mk H
         clear H
         have p11:0≤(x3_2:Int):=of_decide_eq_true ze
         have q11:x3_2<(a0.size:Int):=of_decide_eq_true ze
         have hx11:=bt_at a0 x3_2
         replace p11:=eq_true p11
         replace q11:=eq_true q11
         go_wp2_with (first|((with_reducible refine gate_callee (f:=192) rfl ?_);refine goesL_ (some 26) rfl rfl Tryz.func192 zau rfl #[.int .u8 (bt a0 x3_2)] rfl zd ?_;(with_reducible refine (spec_l01Small.calls (bt a0 x3_2) true _ A12.out).mono ?_);rintro e w' ⟨rfl,⟨nd,rfl⟩⟩;refine ⟨_,rfl,?_⟩))
         go_roundg k2
         case measure=>have:=HJ1.out;have:=HK2.out;omega
         case rel=>exact ⟨(wrap64 (x3_2+1)),zg,H',⟨by have:=HJ1.out;have:=HK2.out;omega⟩,zj⟩
        ·replace c13:=Bool.eq_false_iff.mpr c13
         subst c13
         have H1:((spec_l01Digit.f (bt a0 x3_2)).bind fun t103=>(if t103=true then (spec_l01Name.l0 k2 a0 (wrap64 (x3_2+1))) else (some false)))=some r:=by rw [if_neg (show ¬ (false=true) by decide)] at H;exact H
         clear H
         have H:=H1
         clear H1
         replace H:=Option.bind_eq_some_iff.mp H
         obtain ⟨t103,A150,H⟩:=H
         replace H:(if t103=true then (spec_l01Name.l0 k2 a0 (wrap64 (x3_2+1))) else (some false))=some r:=H
         have A15:=Aside0.mk A150
         clear A150
         by_cases c16:t103=true
         ·subst c16
          have H1:(spec_l01Name.l0 k2 a0 (wrap64 (x3_2+1)))=some r:=by rw [if_pos rfl] at H;exact H
          clear H
          have H:=H1
          clear H1
          have H':=Aside0.mk H
          clear H
          have p11:0≤(x3_2:Int):=of_decide_eq_true ze
          have q11:x3_2<(a0.size:Int):=of_decide_eq_true ze
          have hx11:=bt_at a0 x3_2
          replace p11:=eq_true p11
          replace q11:=eq_true q11
          go_wp2_with (first|((with_reducible refine gate_callee (f:=192) rfl ?_);refine goesL_ (some 26) rfl rfl Tryz.func192 zau rfl #[.int .u8 (bt a0 x3_2)] rfl zd ?_;(with_reducible refine (spec_l01Small.calls (bt a0 x3_2) false _ A12.out).mono ?_);rintro e w' ⟨rfl,⟨nd,rfl⟩⟩;refine ⟨_,rfl,?_⟩;have p14:0≤(x3_2:Int):=of_decide_eq_true ze;have q14:x3_2<(a0.size:Int):=of_decide_eq_true ze;have hx14:=bt_at a0 x3_2;replace p14:=eq_true p14;replace q14:=eq_true q14)|(go_at_call 112;(with_reducible refine (spec_l01Digit.calls (bt a0 x3_2) true _ A15.out).mono ?_);rintro e w' ⟨rfl,⟨nd,rfl⟩⟩))
          go_roundg k2
          case measure=>have:=HJ1.out;have:=HK2.out;omega
          case rel=>exact ⟨(wrap64 (x3_2+1)),zg,H',⟨by have:=HJ1.out;have:=HK2.out;omega⟩,zj⟩
         ·replace c16:=Bool.eq_false_iff.mpr c16
          subst c16
          have H1:(some false)=some r:=by rw [if_neg (show ¬ (false=true) by decide)] at H;exact H
          clear H
          have H:=H1
          clear H1
          obtain rfl:=Option.some.inj H
          have p11:0≤(x3_2:Int):=of_decide_eq_true ze
          have q11:x3_2<(a0.size:Int):=of_decide_eq_true ze
          have hx11:=bt_at a0 x3_2
          replace p11:=eq_true p11
          replace q11:=eq_true q11
          go_wp2_with (first|((with_reducible refine gate_callee (f:=192) rfl ?_);refine goesL_ (some 26) rfl rfl Tryz.func192 zau rfl #[.int .u8 (bt a0 x3_2)] rfl zd ?_;(with_reducible refine (spec_l01Small.calls (bt a0 x3_2) false _ A12.out).mono ?_);rintro e w' ⟨rfl,⟨nd,rfl⟩⟩;refine ⟨_,rfl,?_⟩;have p14:0≤(x3_2:Int):=of_decide_eq_true ze;have q14:x3_2<(a0.size:Int):=of_decide_eq_true ze;have hx14:=bt_at a0 x3_2;replace p14:=eq_true p14;replace q14:=eq_true q14)|(go_at_call 112;(with_reducible refine (spec_l01Digit.calls (bt a0 x3_2) false _ A15.out).mono ?_);rintro e w' ⟨rfl,⟨nd,rfl⟩⟩))
          go_ret
          exact ⟨zg,zj⟩
       ·rw [if_neg c10] at H
        exact absurd H zdd
      ·rw [if_neg c9] at H
       have c9b0:decide (x3_2<(a0.size:Int))=false:=decide_eq_false c9
       clear c9
       obtain rfl:=Option.some.inj H
       go_wp2
       go_ret
       exact ⟨zg,zj⟩

def spec_l17Sum.l0:Nat→List Int→Int→Int→Option (Int)
 | 0,_,_,_=>none
 | k+1,x0,x3,x4=>if x4<(x0.length:Int) then (if 0≤x4 then (spec_l17Sum.l0 k x0 (wrap64 (x3+(rd x0 x4))) (wrap64 (x4+1))) else (none)) else (some x3)
def spec_l17Sum.f (k:Nat) (l0:List Int):Option (Int):=spec_l17Sum.l0 k l0 0 0
set_option maxHeartbeats 8000000 in
set_option maxRecDepth 100000 in
theorem spec_l17Sum.calls (k:Nat) (A0:Option Addr) (c0:Nat) (l0:List Int) (r:Int) (w:World) (hr0:Kd.C (Kd.int .i64) w A0 l0.length l0) (hc0:l0.length≤c0) (h:spec_l17Sum.f k l0=some r) :
 Calls Tryz.prog 162 #[.slice A0 l0.length c0] w fun e w'=>e = .returned (.int .i64 r)∧Drawn0 w w':=by
 have HR0:=Aside0.mk hr0
 have HC0:=Aside0.mk hc0
 clear hr0 hc0
 have H:(spec_l17Sum.l0 k l0 0 0)=some r:=h
 clear h
 have H':=Aside0.mk H
 clear H
 go_enter Tryz.func162,Tryz.ntmps162
 go_wp2
 go_loopg [3,4] k (fun kq v3 v4 w'=>∃(x3_1:Int) (x4_1:Int),v3 = .int .i64 x3_1∧v4 = .int .i64 x4_1∧Aside0 (spec_l17Sum.l0 kq l0 x3_1 x4_1=some r)∧Aside0 (kq≤k)∧Drawn0 w w')
 case atStart=>exact ⟨(0),(0),zg,zg,H',⟨Nat.le_refl _⟩,zj⟩
 case round=>
  clear H'
  try clear c1
  obtain ⟨x3_1,x4_1,rfl,rfl,HA,HK1,⟨m1,rfl⟩⟩:=hrel
  cases gk with
  | zero=>exact absurd HA.out (by simp [spec_l17Sum.l0])
  | succ k1=>
   have H:=HA.out
   clear HA
   simp only [spec_l17Sum.l0] at H
   by_cases c2:x4_1<(l0.length:Int)
   ·rw [if_pos c2] at H
    have c2b0:decide (x4_1<(l0.length:Int))=true:=decide_eq_true c2
    clear c2
    by_cases c3:0≤x4_1
    ·rw [if_pos c3] at H
     have c3b0:decide (0≤x4_1)=true:=decide_eq_true c3
     clear c3
     have H':=Aside0.mk H
     clear H
     have p101:0≤(x4_1:Int):=of_decide_eq_true ze
     have q101:x4_1<(l0.length:Int):=of_decide_eq_true ze
     obtain ⟨ad101,e101,hx101_0⟩:=Kd.at_int HR0.out x4_1 p101 q101
     cases e101
     replace p101:=eq_true p101
     replace q101:=eq_true q101
     go_wp2
     go_roundg k1
     case measure=>have:=HK1.out;omega
     case rel=>exact ⟨(wrap64 (x3_1+(rd l0 x4_1))),(wrap64 (x4_1+1)),zg,zg,H',⟨zdo⟩,zj⟩
    ·rw [if_neg c3] at H
     exact absurd H zdd
   ·rw [if_neg c2] at H
    have c2b0:decide (x4_1<(l0.length:Int))=false:=decide_eq_false c2
    clear c2
    obtain rfl:=Option.some.inj H
    go_wp2
    go_ret
    exact ⟨zg,zj⟩

mutual
def spec_l17Ok_e.j0:Nat→Int→Bool→List (S50)→Int→Option (Bool)
 | 0,_,_,_,_=>none
 | k+1,x3,x29,x500,x501=>if x29=true then (some false) else (spec_l17Ok_e.l0 k x3 0 x500 x501)
def spec_l17Ok_e.l0:Nat→Int→Int→List (S50)→Int→Option (Bool)
 | 0,_,_,_,_=>none
 | k+1,x3,x4,x500,x501=>if x4<x3 then (if 0≤x4 then (if x4<(((rd_T50 x500 x501).f1).length:Int) then ((spec_l00In.f (rd ((rd_T50 x500 x501).f1) x4) 1 16).bind fun t110=>(if t110=true then (if x4=0 then (if x4<(((rd_T50 x500 x501).f2).length:Int) then (if (rd ((rd_T50 x500 x501).f2) x4)=1 then (if x4 > 0 then ((spec_l00In.f (rd ((rd_T50 x500 x501).f2) x4) 2 3).bind fun t115=>(if t115=true then (spec_l17Ok_e.l0 k x3 (wrap64 (x4+1)) x500 x501) else (some false))) else (spec_l17Ok_e.l0 k x3 (wrap64 (x4+1)) x500 x501)) else (some false)) else (none)) else (if x4 > 0 then (if x4<(((rd_T50 x500 x501).f2).length:Int) then ((spec_l00In.f (rd ((rd_T50 x500 x501).f2) x4) 2 3).bind fun t118=>(if t118=true then (spec_l17Ok_e.l0 k x3 (wrap64 (x4+1)) x500 x501) else (some false))) else (none)) else (spec_l17Ok_e.l0 k x3 (wrap64 (x4+1)) x500 x501))) else (some false))) else (none)) else (none)) else ((spec_l17Sum.f k ((rd_T50 x500 x501).f1)).bind fun t107=>(some (decide (t107≤32))))
end
def spec_l17Ok_e.f (k:Nat) (l0:List (S50)) (a0i:Int):Option (Bool):=(spec_l01Name.f k ((rd_T50 l0 a0i).f0)).bind fun t103=>(if t103=true then ((spec_l00In.f (((rd_T50 l0 a0i).f1).length:Int) 1 8).bind fun t104=>(if t104=true then (spec_l17Ok_e.j0 k (((rd_T50 l0 a0i).f1).length:Int) ((((rd_T50 l0 a0i).f2).length:Int) != (((rd_T50 l0 a0i).f1).length:Int)) l0 a0i) else (spec_l17Ok_e.j0 k (((rd_T50 l0 a0i).f1).length:Int) true l0 a0i))) else (spec_l17Ok_e.j0 k (((rd_T50 l0 a0i).f1).length:Int) true l0 a0i))
set_option maxHeartbeats 8000000 in
set_option maxRecDepth 100000 in
theorem spec_l17Ok_e.calls (k:Nat) (ad0:Addr) (l0:List (S50)) (a0i:Int) (r:Bool) (w:World) (hr0:Kd.C k50 w (some ad0) l0.length l0) (hp0:decide (0≤a0i)=true) (hq0:decide (a0i<(l0.length:Int))=true) (h:spec_l17Ok_e.f k l0 a0i=some r) :
 Calls Tryz.prog 135 #[.pointer (some (ad0.add (a0i.toNat*3)))] w fun e w'=>e = .returned (.bool r)∧Drawn0 w w':=by
 have HR0:=Aside0.mk hr0
 clear hr0
 have H:((spec_l01Name.f k ((rd_T50 l0 a0i).f0)).bind fun t103=>(if t103=true then ((spec_l00In.f (((rd_T50 l0 a0i).f1).length:Int) 1 8).bind fun t104=>(if t104=true then (spec_l17Ok_e.j0 k (((rd_T50 l0 a0i).f1).length:Int) ((((rd_T50 l0 a0i).f2).length:Int) != (((rd_T50 l0 a0i).f1).length:Int)) l0 a0i) else (spec_l17Ok_e.j0 k (((rd_T50 l0 a0i).f1).length:Int) true l0 a0i))) else (spec_l17Ok_e.j0 k (((rd_T50 l0 a0i).f1).length:Int) true l0 a0i)))=some r:=h
 clear h
 have HC2:=Aside0.mk H
 clear H
 have p101:0≤(a0i:Int):=of_decide_eq_true ze
 have q101:a0i<(l0.length:Int):=of_decide_eq_true ze
 obtain ⟨ad101,A101_1,c101_1,A101_2,c101_2,e101,hx101_0,hx101_1,hx101_2,hl101_1,hi101_1,hl101_2,hi101_2⟩:=at_T50 HR0.out a0i p101 q101
 obtain rfl:ad0=ad101:=(by injection e101)
 have HR101_1:=Aside0.mk hi101_1
 have HC101_1:=Aside0.mk hl101_1
 clear hi101_1 hl101_1
 have HR101_2:=Aside0.mk hi101_2
 have HC101_2:=Aside0.mk hl101_2
 clear hi101_2 hl101_2
 replace p101:=eq_true p101
 replace q101:=eq_true q101
 go_enter Tryz.func135,Tryz.ntmps135
 go_upto_region 2 with (fail)
 go_cut [29] (fun v29 wc=>∃(kq:Nat) (x29_1:Bool),v29 = .bool x29_1∧Aside0 (spec_l17Ok_e.j0 kq (((rd_T50 l0 a0i).f1).length:Int) x29_1 l0 a0i=some r)∧Aside0 (kq≤k)∧Drawn0 w wc)
 case first=>
  have H:=HC2.out
  clear HC2
  replace H:=Option.bind_eq_some_iff.mp H
  obtain ⟨t103,A30,H⟩:=H
  replace H:(if t103=true then ((spec_l00In.f (((rd_T50 l0 a0i).f1).length:Int) 1 8).bind fun t104=>(if t104=true then (spec_l17Ok_e.j0 k (((rd_T50 l0 a0i).f1).length:Int) ((((rd_T50 l0 a0i).f2).length:Int) != (((rd_T50 l0 a0i).f1).length:Int)) l0 a0i) else (spec_l17Ok_e.j0 k (((rd_T50 l0 a0i).f1).length:Int) true l0 a0i))) else (spec_l17Ok_e.j0 k (((rd_T50 l0 a0i).f1).length:Int) true l0 a0i))=some r:=H
  have A3:=Aside0.mk A30
  clear A30
  by_cases c4:t103=true
  ·subst c4
   have H1:((spec_l00In.f (((rd_T50 l0 a0i).f1).length:Int) 1 8).bind fun t104=>(if t104=true then (spec_l17Ok_e.j0 k (((rd_T50 l0 a0i).f1).length:Int) ((((rd_T50 l0 a0i).f2).length:Int) != (((rd_T50 l0 a0i).f1).length:Int)) l0 a0i) else (spec_l17Ok_e.j0 k (((rd_T50 l0 a0i).f1).length:Int) true l0 a0i)))=some r:=by rw [if_pos rfl] at H;exact H
   clear H
   have H:=H1
   clear H1
   replace H:=Option.bind_eq_some_iff.mp H
   obtain ⟨t104,A50,H⟩:=H
   replace H:(if t104=true then (spec_l17Ok_e.j0 k (((rd_T50 l0 a0i).f1).length:Int) ((((rd_T50 l0 a0i).f2).length:Int) != (((rd_T50 l0 a0i).f1).length:Int)) l0 a0i) else (spec_l17Ok_e.j0 k (((rd_T50 l0 a0i).f1).length:Int) true l0 a0i))=some r:=H
   have A5:=Aside0.mk A50
   clear A50
   by_cases c6:t104=true
   ·subst c6
    have H1:(spec_l17Ok_e.j0 k (((rd_T50 l0 a0i).f1).length:Int) ((((rd_T50 l0 a0i).f2).length:Int) != (((rd_T50 l0 a0i).f1).length:Int)) l0 a0i)=some r:=by rw [if_pos rfl] at H;exact H
    clear H
    have H:=H1
    clear H1
    have H':=Aside0.mk H
    clear H
    have p102:0≤(a0i:Int):=of_decide_eq_true ze
    have q102:a0i<(l0.length:Int):=of_decide_eq_true ze
    obtain ⟨ad102,A102_1,c102_1,A102_2,c102_2,e102,hx102_0,hx102_1,hx102_2,hl102_1,hi102_1,hl102_2,hi102_2⟩:=at_T50 HR0.out a0i p102 q102
    obtain rfl:ad0=ad102:=(by injection e102)
    have HR102_1:=Aside0.mk hi102_1
    have HC102_1:=Aside0.mk hl102_1
    clear hi102_1 hl102_1
    have HR102_2:=Aside0.mk hi102_2
    have HC102_2:=Aside0.mk hl102_2
    clear hi102_2 hl102_2
    replace p102:=eq_true p102
    replace q102:=eq_true q102
    go_wp2_with (first|((with_reducible refine gate_callee (f:=161) rfl ?_);refine goesL_ (some 14) rfl rfl Tryz.func161 zau rfl #[.string ((rd_T50 l0 a0i).f0)] rfl zd ?_;(with_reducible refine (spec_l01Name.calls k ((rd_T50 l0 a0i).f0) true _ A3.out).mono ?_);rintro e w' ⟨rfl,⟨nd,rfl⟩⟩;refine ⟨_,rfl,?_⟩)|(go_at_call 77;(with_reducible refine (spec_l00In.calls (((rd_T50 l0 a0i).f1).length:Int) 1 8 true _ A5.out).mono ?_);rintro e w' ⟨rfl,⟨nd,rfl⟩⟩;have p105:0≤(a0i:Int):=of_decide_eq_true ze;have q105:a0i<(l0.length:Int):=of_decide_eq_true ze;obtain ⟨ad105,A105_1,c105_1,A105_2,c105_2,e105,hx105_0,hx105_1,hx105_2,hl105_1,hi105_1,hl105_2,hi105_2⟩:=at_T50 HR0.out a0i p105 q105;obtain rfl:ad0=ad105:=(by injection e105);have HR105_1:=Aside0.mk hi105_1;have HC105_1:=Aside0.mk hl105_1;clear hi105_1 hl105_1;have HR105_2:=Aside0.mk hi105_2;have HC105_2:=Aside0.mk hl105_2;clear hi105_2 hl105_2;replace p105:=eq_true p105;replace q105:=eq_true q105;have ea_:=Option.some.inj (hx102_1.symm.trans hx105_1);injection ea_ with ea_ en_ ec_;subst ea_;subst ec_;clear en_;have ea_:=Option.some.inj (hx102_2.symm.trans hx105_2);injection ea_ with ea_ en_ ec_;subst ea_;subst ec_;clear en_))
    go_meet
    case rel=>exact ⟨_,(((((rd_T50 l0 a0i).f2).length:Int) != (((rd_T50 l0 a0i).f1).length:Int))),zg,H',⟨zds⟩,zj⟩
   ·replace c6:=Bool.eq_false_iff.mpr c6
    subst c6
    have H1:(spec_l17Ok_e.j0 k (((rd_T50 l0 a0i).f1).length:Int) true l0 a0i)=some r:=by rw [if_neg (show ¬ (false=true) by decide)] at H;exact H
    clear H
    have H:=H1
    clear H1
    have H':=Aside0.mk H
    clear H
    have p102:0≤(a0i:Int):=of_decide_eq_true ze
    have q102:a0i<(l0.length:Int):=of_decide_eq_true ze
    obtain ⟨ad102,A102_1,c102_1,A102_2,c102_2,e102,hx102_0,hx102_1,hx102_2,hl102_1,hi102_1,hl102_2,hi102_2⟩:=at_T50 HR0.out a0i p102 q102
    obtain rfl:ad0=ad102:=(by injection e102)
    have HR102_1:=Aside0.mk hi102_1
    have HC102_1:=Aside0.mk hl102_1
    clear hi102_1 hl102_1
    have HR102_2:=Aside0.mk hi102_2
    have HC102_2:=Aside0.mk hl102_2
    clear hi102_2 hl102_2
    replace p102:=eq_true p102
    replace q102:=eq_true q102
    go_wp2_with (first|((with_reducible refine gate_callee (f:=161) rfl ?_);refine goesL_ (some 14) rfl rfl Tryz.func161 zau rfl #[.string ((rd_T50 l0 a0i).f0)] rfl zd ?_;(with_reducible refine (spec_l01Name.calls k ((rd_T50 l0 a0i).f0) true _ A3.out).mono ?_);rintro e w' ⟨rfl,⟨nd,rfl⟩⟩;refine ⟨_,rfl,?_⟩)|(go_at_call 77;(with_reducible refine (spec_l00In.calls (((rd_T50 l0 a0i).f1).length:Int) 1 8 false _ A5.out).mono ?_);rintro e w' ⟨rfl,⟨nd,rfl⟩⟩))
    go_meet
    case rel=>exact ⟨_,(true),zg,H',⟨zds⟩,zj⟩
  ·replace c4:=Bool.eq_false_iff.mpr c4
   subst c4
   have H1:(spec_l17Ok_e.j0 k (((rd_T50 l0 a0i).f1).length:Int) true l0 a0i)=some r:=by rw [if_neg (show ¬ (false=true) by decide)] at H;exact H
   clear H
   have H:=H1
   clear H1
   have H':=Aside0.mk H
   clear H
   have p102:0≤(a0i:Int):=of_decide_eq_true ze
   have q102:a0i<(l0.length:Int):=of_decide_eq_true ze
   obtain ⟨ad102,A102_1,c102_1,A102_2,c102_2,e102,hx102_0,hx102_1,hx102_2,hl102_1,hi102_1,hl102_2,hi102_2⟩:=at_T50 HR0.out a0i p102 q102
   obtain rfl:ad0=ad102:=(by injection e102)
   have HR102_1:=Aside0.mk hi102_1
   have HC102_1:=Aside0.mk hl102_1
   clear hi102_1 hl102_1
   have HR102_2:=Aside0.mk hi102_2
   have HC102_2:=Aside0.mk hl102_2
   clear hi102_2 hl102_2
   replace p102:=eq_true p102
   replace q102:=eq_true q102
   go_wp2_with (first|((with_reducible refine gate_callee (f:=161) rfl ?_);refine goesL_ (some 14) rfl rfl Tryz.func161 zau rfl #[.string ((rd_T50 l0 a0i).f0)] rfl zd ?_;(with_reducible refine (spec_l01Name.calls k ((rd_T50 l0 a0i).f0) false _ A3.out).mono ?_);rintro e w' ⟨rfl,⟨nd,rfl⟩⟩;refine ⟨_,rfl,?_⟩))
   go_meet
   case rel=>exact ⟨_,(true),zg,H',⟨zds⟩,zj⟩
 case rest=>
  clear HC2
  try clear c1
  try clear p1
  try clear q1
  try clear hx1
  try clear p2
  try clear c4
  try clear c6
  try clear hx101_0
  try clear hx101_1
  try clear hx101_2
  try clear hx102_0
  try clear hx102_1
  try clear hx102_2
  try clear hx105_0
  try clear hx105_1
  try clear hx105_2
  try clear p101
  try clear p102
  try clear p105
  try clear q101
  try clear q102
  try clear q105
  obtain ⟨kq,x29_1,rfl,HA,HJ1,⟨mc1,rfl⟩⟩:=hcut
  cases kq with
  | zero=>exact absurd HA.out (by simp [spec_l17Ok_e.j0])
  | succ kj1=>
   have H:=HA.out
   clear HA
   simp only [spec_l17Ok_e.j0] at H
   by_cases c7:x29_1=true
   ·subst c7
    have H1:(some false)=some r:=by rw [if_pos rfl] at H;exact H
    clear H
    have H:=H1
    clear H1
    obtain rfl:=Option.some.inj H
    go_wp2
    go_ret
    exact ⟨zg,zj⟩
   ·replace c7:=Bool.eq_false_iff.mpr c7
    subst c7
    have H1:(spec_l17Ok_e.l0 kj1 (((rd_T50 l0 a0i).f1).length:Int) 0 l0 a0i)=some r:=by rw [if_neg (show ¬ (false=true) by decide)] at H;exact H
    clear H
    have H:=H1
    clear H1
    have H':=Aside0.mk H
    clear H
    go_wp2
    go_loopg [4] kj1 (fun kq v4 w'=>∃(x4_2:Int),v4 = .int .i64 x4_2∧Aside0 (spec_l17Ok_e.l0 kq (((rd_T50 l0 a0i).f1).length:Int) x4_2 l0 a0i=some r)∧Aside0 (kq≤kj1)∧Drawn0 w w')
    case atStart=>exact ⟨(0),zg,H',⟨Nat.le_refl _⟩,zj⟩
    case round=>
     clear H'
     try clear c1
     try clear p1
     try clear q1
     try clear hx1
     try clear p2
     try clear c4
     try clear c6
     try clear c7
     try clear hx101_0
     try clear hx101_1
     try clear hx101_2
     try clear hx102_0
     try clear hx102_1
     try clear hx102_2
     try clear hx105_0
     try clear hx105_1
     try clear hx105_2
     try clear p1
     try clear p101
     try clear p102
     try clear p105
     try clear p2
     try clear q1
     try clear q101
     try clear q102
     try clear q105
     obtain ⟨x4_2,rfl,HA,HK2,⟨m2,rfl⟩⟩:=hrel
     cases gk with
     | zero=>exact absurd HA.out (by simp [spec_l17Ok_e.l0])
     | succ k2=>
      have H:=HA.out
      clear HA
      simp only [spec_l17Ok_e.l0] at H
      by_cases c8:x4_2<(((rd_T50 l0 a0i).f1).length:Int)
      ·rw [if_pos c8] at H
       have c8b0:decide (x4_2<(((rd_T50 l0 a0i).f1).length:Int))=true:=decide_eq_true c8
       clear c8
       by_cases c9:0≤x4_2
       ·rw [if_pos c9] at H
        have c9b0:decide (0≤x4_2)=true:=decide_eq_true c9
        clear c9
        by_cases c10:x4_2<(((rd_T50 l0 a0i).f1).length:Int)
        ·rw [if_pos c10] at H
         have c10b0:decide (x4_2<(((rd_T50 l0 a0i).f1).length:Int))=true:=decide_eq_true c10
         clear c10
         replace H:=Option.bind_eq_some_iff.mp H
         obtain ⟨t110,A110,H⟩:=H
         replace H:(if t110=true then (if x4_2=0 then (if x4_2<(((rd_T50 l0 a0i).f2).length:Int) then (if (rd ((rd_T50 l0 a0i).f2) x4_2)=1 then (if x4_2 > 0 then ((spec_l00In.f (rd ((rd_T50 l0 a0i).f2) x4_2) 2 3).bind fun t115=>(if t115=true then (spec_l17Ok_e.l0 k2 (((rd_T50 l0 a0i).f1).length:Int) (wrap64 (x4_2+1)) l0 a0i) else (some false))) else (spec_l17Ok_e.l0 k2 (((rd_T50 l0 a0i).f1).length:Int) (wrap64 (x4_2+1)) l0 a0i)) else (some false)) else (none)) else (if x4_2 > 0 then (if x4_2<(((rd_T50 l0 a0i).f2).length:Int) then ((spec_l00In.f (rd ((rd_T50 l0 a0i).f2) x4_2) 2 3).bind fun t118=>(if t118=true then (spec_l17Ok_e.l0 k2 (((rd_T50 l0 a0i).f1).length:Int) (wrap64 (x4_2+1)) l0 a0i) else (some false))) else (none)) else (spec_l17Ok_e.l0 k2 (((rd_T50 l0 a0i).f1).length:Int) (wrap64 (x4_2+1)) l0 a0i))) else (some false))=some r:=H
         have A11:=Aside0.mk A110
         clear A110
         by_cases c12:t110=true
         ·subst c12
          have H1:(if x4_2=0 then (if x4_2<(((rd_T50 l0 a0i).f2).length:Int) then (if (rd ((rd_T50 l0 a0i).f2) x4_2)=1 then (if x4_2 > 0 then ((spec_l00In.f (rd ((rd_T50 l0 a0i).f2) x4_2) 2 3).bind fun t115=>(if t115=true then (spec_l17Ok_e.l0 k2 (((rd_T50 l0 a0i).f1).length:Int) (wrap64 (x4_2+1)) l0 a0i) else (some false))) else (spec_l17Ok_e.l0 k2 (((rd_T50 l0 a0i).f1).length:Int) (wrap64 (x4_2+1)) l0 a0i)) else (some false)) else (none)) else (if x4_2 > 0 then (if x4_2<(((rd_T50 l0 a0i).f2).length:Int) then ((spec_l00In.f (rd ((rd_T50 l0 a0i).f2) x4_2) 2 3).bind fun t118=>(if t118=true then (spec_l17Ok_e.l0 k2 (((rd_T50 l0 a0i).f1).length:Int) (wrap64 (x4_2+1)) l0 a0i) else (some false))) else (none)) else (spec_l17Ok_e.l0 k2 (((rd_T50 l0 a0i).f1).length:Int) (wrap64 (x4_2+1)) l0 a0i)))=some r:=by rw [if_pos rfl] at H;exact H
          clear H
          have H:=H1
          clear H1
          by_cases c13:x4_2=0
          ·rw [if_pos c13] at H
           have c13b0:(x4_2 == 0)=true:=beq_iff_eq.mpr c13
           have c13b1:(x4_2 != 0)=false:=bne_eq_false_iff_eq.mpr c13
           clear c13
           by_cases c14:x4_2<(((rd_T50 l0 a0i).f2).length:Int)
           ·rw [if_pos c14] at H
            have c14b0:decide (x4_2<(((rd_T50 l0 a0i).f2).length:Int))=true:=decide_eq_true c14
            clear c14
            by_cases c15:(rd ((rd_T50 l0 a0i).f2) x4_2)=1
            ·rw [if_pos c15] at H
             have c15b0:((rd ((rd_T50 l0 a0i).f2) x4_2) == 1)=true:=beq_iff_eq.mpr c15
             have c15b1:((rd ((rd_T50 l0 a0i).f2) x4_2) != 1)=false:=bne_eq_false_iff_eq.mpr c15
             clear c15
             by_cases c16:x4_2 > 0
             ·rw [if_pos c16] at H
              have c16b0:decide (0<x4_2)=true:=decide_eq_true c16
              clear c16
              replace H:=Option.bind_eq_some_iff.mp H
              obtain ⟨t115,A170,H⟩:=H
              replace H:(if t115=true then (spec_l17Ok_e.l0 k2 (((rd_T50 l0 a0i).f1).length:Int) (wrap64 (x4_2+1)) l0 a0i) else (some false))=some r:=H
              have A17:=Aside0.mk A170
              clear A170
              by_cases c18:t115=true
              ·subst c18
               have H1:(spec_l17Ok_e.l0 k2 (((rd_T50 l0 a0i).f1).length:Int) (wrap64 (x4_2+1)) l0 a0i)=some r:=by rw [if_pos rfl] at H;exact H
               clear H
               have H:=H1
               clear H1
               have H':=Aside0.mk H
               clear H
               have p108:0≤(a0i:Int):=of_decide_eq_true ze
               have q108:a0i<(l0.length:Int):=of_decide_eq_true ze
               obtain ⟨ad108,A108_1,c108_1,A108_2,c108_2,e108,hx108_0,hx108_1,hx108_2,hl108_1,hi108_1,hl108_2,hi108_2⟩:=at_T50 HR0.out a0i p108 q108
               obtain rfl:ad0=ad108:=(by injection e108)
               have HR108_1:=Aside0.mk hi108_1
               have HC108_1:=Aside0.mk hl108_1
               clear hi108_1 hl108_1
               have HR108_2:=Aside0.mk hi108_2
               have HC108_2:=Aside0.mk hl108_2
               clear hi108_2 hl108_2
               replace p108:=eq_true p108
               replace q108:=eq_true q108
               have p109:0≤(x4_2:Int):=of_decide_eq_true ze
               have q109:x4_2<(((rd_T50 l0 a0i).f1).length:Int):=of_decide_eq_true ze
               obtain ⟨ad109,e109,hx109_0⟩:=Kd.at_int HR108_1.out x4_2 p109 q109
               cases e109
               replace p109:=eq_true p109
               replace q109:=eq_true q109
               go_wp2_with (first|((with_reducible refine gate_callee (f:=77) rfl ?_);refine goesL_ (some 42) rfl rfl Tryz.func77 zau rfl #[.int .i64 (rd ((rd_T50 l0 a0i).f1) x4_2),.int .i64 1,.int .i64 16] rfl zd ?_;(with_reducible refine (spec_l00In.calls (rd ((rd_T50 l0 a0i).f1) x4_2) 1 16 true _ A11.out).mono ?_);rintro e w' ⟨rfl,⟨nd,rfl⟩⟩;refine ⟨_,rfl,?_⟩;have p111:0≤(a0i:Int):=of_decide_eq_true ze;have q111:a0i<(l0.length:Int):=of_decide_eq_true ze;obtain ⟨ad111,A111_1,c111_1,A111_2,c111_2,e111,hx111_0,hx111_1,hx111_2,hl111_1,hi111_1,hl111_2,hi111_2⟩:=at_T50 HR0.out a0i p111 q111;obtain rfl:ad0=ad111:=(by injection e111);have HR111_1:=Aside0.mk hi111_1;have HC111_1:=Aside0.mk hl111_1;clear hi111_1 hl111_1;have HR111_2:=Aside0.mk hi111_2;have HC111_2:=Aside0.mk hl111_2;clear hi111_2 hl111_2;replace p111:=eq_true p111;replace q111:=eq_true q111;have ea_:=Option.some.inj (hx108_1.symm.trans hx111_1);injection ea_ with ea_ en_ ec_;subst ea_;subst ec_;clear en_;have ea_:=Option.some.inj (hx108_2.symm.trans hx111_2);injection ea_ with ea_ en_ ec_;subst ea_;subst ec_;clear en_;have p112:0≤(x4_2:Int):=of_decide_eq_true ze;have q112:x4_2<(((rd_T50 l0 a0i).f2).length:Int):=of_decide_eq_true ze;obtain ⟨ad112,e112,hx112_0⟩:=Kd.at_int HR111_2.out x4_2 p112 q112;cases e112;replace p112:=eq_true p112;replace q112:=eq_true q112;have p113:0≤(a0i:Int):=of_decide_eq_true ze;have q113:a0i<(l0.length:Int):=of_decide_eq_true ze;obtain ⟨ad113,A113_1,c113_1,A113_2,c113_2,e113,hx113_0,hx113_1,hx113_2,hl113_1,hi113_1,hl113_2,hi113_2⟩:=at_T50 HR0.out a0i p113 q113;obtain rfl:ad0=ad113:=(by injection e113);have HR113_1:=Aside0.mk hi113_1;have HC113_1:=Aside0.mk hl113_1;clear hi113_1 hl113_1;have HR113_2:=Aside0.mk hi113_2;have HC113_2:=Aside0.mk hl113_2;clear hi113_2 hl113_2;replace p113:=eq_true p113;replace q113:=eq_true q113;have ea_:=Option.some.inj (hx108_1.symm.trans hx113_1);injection ea_ with ea_ en_ ec_;subst ea_;subst ec_;clear en_;have ea_:=Option.some.inj (hx108_2.symm.trans hx113_2);injection ea_ with ea_ en_ ec_;subst ea_;subst ec_;clear en_;have p114:0≤(x4_2:Int):=of_decide_eq_true ze;have q114:x4_2<(((rd_T50 l0 a0i).f2).length:Int):=of_decide_eq_true ze;obtain ⟨ad114,e114,hx114_0⟩:=Kd.at_int HR113_2.out x4_2 p114 q114;cases e114;replace p114:=eq_true p114;replace q114:=eq_true q114)|(go_at_call 77;(with_reducible refine (spec_l00In.calls (rd ((rd_T50 l0 a0i).f2) x4_2) 2 3 true _ A17.out).mono ?_);rintro e w' ⟨rfl,⟨nd,rfl⟩⟩))
               go_roundg k2
               case measure=>have:=HJ1.out;have:=HK2.out;omega
               case rel=>exact ⟨(wrap64 (x4_2+1)),zg,H',⟨by have:=HJ1.out;have:=HK2.out;omega⟩,zj⟩
              ·replace c18:=Bool.eq_false_iff.mpr c18
               subst c18
               have H1:(some false)=some r:=by rw [if_neg (show ¬ (false=true) by decide)] at H;exact H
               clear H
               have H:=H1
               clear H1
               obtain rfl:=Option.some.inj H
               have p108:0≤(a0i:Int):=of_decide_eq_true ze
               have q108:a0i<(l0.length:Int):=of_decide_eq_true ze
               obtain ⟨ad108,A108_1,c108_1,A108_2,c108_2,e108,hx108_0,hx108_1,hx108_2,hl108_1,hi108_1,hl108_2,hi108_2⟩:=at_T50 HR0.out a0i p108 q108
               obtain rfl:ad0=ad108:=(by injection e108)
               have HR108_1:=Aside0.mk hi108_1
               have HC108_1:=Aside0.mk hl108_1
               clear hi108_1 hl108_1
               have HR108_2:=Aside0.mk hi108_2
               have HC108_2:=Aside0.mk hl108_2
               clear hi108_2 hl108_2
               replace p108:=eq_true p108
               replace q108:=eq_true q108
               have p109:0≤(x4_2:Int):=of_decide_eq_true ze
               have q109:x4_2<(((rd_T50 l0 a0i).f1).length:Int):=of_decide_eq_true ze
               obtain ⟨ad109,e109,hx109_0⟩:=Kd.at_int HR108_1.out x4_2 p109 q109
               cases e109
               replace p109:=eq_true p109
               replace q109:=eq_true q109
               go_wp2_with (first|((with_reducible refine gate_callee (f:=77) rfl ?_);refine goesL_ (some 42) rfl rfl Tryz.func77 zau rfl #[.int .i64 (rd ((rd_T50 l0 a0i).f1) x4_2),.int .i64 1,.int .i64 16] rfl zd ?_;(with_reducible refine (spec_l00In.calls (rd ((rd_T50 l0 a0i).f1) x4_2) 1 16 true _ A11.out).mono ?_);rintro e w' ⟨rfl,⟨nd,rfl⟩⟩;refine ⟨_,rfl,?_⟩;have p111:0≤(a0i:Int):=of_decide_eq_true ze;have q111:a0i<(l0.length:Int):=of_decide_eq_true ze;obtain ⟨ad111,A111_1,c111_1,A111_2,c111_2,e111,hx111_0,hx111_1,hx111_2,hl111_1,hi111_1,hl111_2,hi111_2⟩:=at_T50 HR0.out a0i p111 q111;obtain rfl:ad0=ad111:=(by injection e111);have HR111_1:=Aside0.mk hi111_1;have HC111_1:=Aside0.mk hl111_1;clear hi111_1 hl111_1;have HR111_2:=Aside0.mk hi111_2;have HC111_2:=Aside0.mk hl111_2;clear hi111_2 hl111_2;replace p111:=eq_true p111;replace q111:=eq_true q111;have ea_:=Option.some.inj (hx108_1.symm.trans hx111_1);injection ea_ with ea_ en_ ec_;subst ea_;subst ec_;clear en_;have ea_:=Option.some.inj (hx108_2.symm.trans hx111_2);injection ea_ with ea_ en_ ec_;subst ea_;subst ec_;clear en_;have p112:0≤(x4_2:Int):=of_decide_eq_true ze;have q112:x4_2<(((rd_T50 l0 a0i).f2).length:Int):=of_decide_eq_true ze;obtain ⟨ad112,e112,hx112_0⟩:=Kd.at_int HR111_2.out x4_2 p112 q112;cases e112;replace p112:=eq_true p112;replace q112:=eq_true q112;have p113:0≤(a0i:Int):=of_decide_eq_true ze;have q113:a0i<(l0.length:Int):=of_decide_eq_true ze;obtain ⟨ad113,A113_1,c113_1,A113_2,c113_2,e113,hx113_0,hx113_1,hx113_2,hl113_1,hi113_1,hl113_2,hi113_2⟩:=at_T50 HR0.out a0i p113 q113;obtain rfl:ad0=ad113:=(by injection e113);have HR113_1:=Aside0.mk hi113_1;have HC113_1:=Aside0.mk hl113_1;clear hi113_1 hl113_1;have HR113_2:=Aside0.mk hi113_2;have HC113_2:=Aside0.mk hl113_2;clear hi113_2 hl113_2;replace p113:=eq_true p113;replace q113:=eq_true q113;have ea_:=Option.some.inj (hx108_1.symm.trans hx113_1);injection ea_ with ea_ en_ ec_;subst ea_;subst ec_;clear en_;have ea_:=Option.some.inj (hx108_2.symm.trans hx113_2);injection ea_ with ea_ en_ ec_;subst ea_;subst ec_;clear en_;have p114:0≤(x4_2:Int):=of_decide_eq_true ze;have q114:x4_2<(((rd_T50 l0 a0i).f2).length:Int):=of_decide_eq_true ze;obtain ⟨ad114,e114,hx114_0⟩:=Kd.at_int HR113_2.out x4_2 p114 q114;cases e114;replace p114:=eq_true p114;replace q114:=eq_true q114)|(go_at_call 77;(with_reducible refine (spec_l00In.calls (rd ((rd_T50 l0 a0i).f2) x4_2) 2 3 false _ A17.out).mono ?_);rintro e w' ⟨rfl,⟨nd,rfl⟩⟩))
               go_ret
               exact ⟨zg,zj⟩
             ·rw [if_neg c16] at H
              have c16b0:decide (0<x4_2)=false:=decide_eq_false c16
              clear c16
              have H':=Aside0.mk H
              clear H
              have p108:0≤(a0i:Int):=of_decide_eq_true ze
              have q108:a0i<(l0.length:Int):=of_decide_eq_true ze
              obtain ⟨ad108,A108_1,c108_1,A108_2,c108_2,e108,hx108_0,hx108_1,hx108_2,hl108_1,hi108_1,hl108_2,hi108_2⟩:=at_T50 HR0.out a0i p108 q108
              obtain rfl:ad0=ad108:=(by injection e108)
              have HR108_1:=Aside0.mk hi108_1
              have HC108_1:=Aside0.mk hl108_1
              clear hi108_1 hl108_1
              have HR108_2:=Aside0.mk hi108_2
              have HC108_2:=Aside0.mk hl108_2
              clear hi108_2 hl108_2
              replace p108:=eq_true p108
              replace q108:=eq_true q108
              have p109:0≤(x4_2:Int):=of_decide_eq_true ze
              have q109:x4_2<(((rd_T50 l0 a0i).f1).length:Int):=of_decide_eq_true ze
              obtain ⟨ad109,e109,hx109_0⟩:=Kd.at_int HR108_1.out x4_2 p109 q109
              cases e109
              replace p109:=eq_true p109
              replace q109:=eq_true q109
              go_wp2_with (first|((with_reducible refine gate_callee (f:=77) rfl ?_);refine goesL_ (some 42) rfl rfl Tryz.func77 zau rfl #[.int .i64 (rd ((rd_T50 l0 a0i).f1) x4_2),.int .i64 1,.int .i64 16] rfl zd ?_;(with_reducible refine (spec_l00In.calls (rd ((rd_T50 l0 a0i).f1) x4_2) 1 16 true _ A11.out).mono ?_);rintro e w' ⟨rfl,⟨nd,rfl⟩⟩;refine ⟨_,rfl,?_⟩;have p111:0≤(a0i:Int):=of_decide_eq_true ze;have q111:a0i<(l0.length:Int):=of_decide_eq_true ze;obtain ⟨ad111,A111_1,c111_1,A111_2,c111_2,e111,hx111_0,hx111_1,hx111_2,hl111_1,hi111_1,hl111_2,hi111_2⟩:=at_T50 HR0.out a0i p111 q111;obtain rfl:ad0=ad111:=(by injection e111);have HR111_1:=Aside0.mk hi111_1;have HC111_1:=Aside0.mk hl111_1;clear hi111_1 hl111_1;have HR111_2:=Aside0.mk hi111_2;have HC111_2:=Aside0.mk hl111_2;clear hi111_2 hl111_2;replace p111:=eq_true p111;replace q111:=eq_true q111;have ea_:=Option.some.inj (hx108_1.symm.trans hx111_1);injection ea_ with ea_ en_ ec_;subst ea_;subst ec_;clear en_;have ea_:=Option.some.inj (hx108_2.symm.trans hx111_2);injection ea_ with ea_ en_ ec_;subst ea_;subst ec_;clear en_;have p112:0≤(x4_2:Int):=of_decide_eq_true ze;have q112:x4_2<(((rd_T50 l0 a0i).f2).length:Int):=of_decide_eq_true ze;obtain ⟨ad112,e112,hx112_0⟩:=Kd.at_int HR111_2.out x4_2 p112 q112;cases e112;replace p112:=eq_true p112;replace q112:=eq_true q112))
              go_roundg k2
              case measure=>have:=HJ1.out;have:=HK2.out;omega
              case rel=>exact ⟨(wrap64 (x4_2+1)),zg,H',⟨by have:=HJ1.out;have:=HK2.out;omega⟩,zj⟩
            ·rw [if_neg c15] at H
             have c15b0:((rd ((rd_T50 l0 a0i).f2) x4_2) == 1)=false:=beq_eq_false_iff_ne.mpr c15
             have c15b1:((rd ((rd_T50 l0 a0i).f2) x4_2) != 1)=true:=bne_iff_ne.mpr c15
             obtain rfl:=Option.some.inj H
             have p108:0≤(a0i:Int):=of_decide_eq_true ze
             have q108:a0i<(l0.length:Int):=of_decide_eq_true ze
             obtain ⟨ad108,A108_1,c108_1,A108_2,c108_2,e108,hx108_0,hx108_1,hx108_2,hl108_1,hi108_1,hl108_2,hi108_2⟩:=at_T50 HR0.out a0i p108 q108
             obtain rfl:ad0=ad108:=(by injection e108)
             have HR108_1:=Aside0.mk hi108_1
             have HC108_1:=Aside0.mk hl108_1
             clear hi108_1 hl108_1
             have HR108_2:=Aside0.mk hi108_2
             have HC108_2:=Aside0.mk hl108_2
             clear hi108_2 hl108_2
             replace p108:=eq_true p108
             replace q108:=eq_true q108
             have p109:0≤(x4_2:Int):=of_decide_eq_true ze
             have q109:x4_2<(((rd_T50 l0 a0i).f1).length:Int):=of_decide_eq_true ze
             obtain ⟨ad109,e109,hx109_0⟩:=Kd.at_int HR108_1.out x4_2 p109 q109
             cases e109
             replace p109:=eq_true p109
             replace q109:=eq_true q109
             go_wp2_with (first|((with_reducible refine gate_callee (f:=77) rfl ?_);refine goesL_ (some 42) rfl rfl Tryz.func77 zau rfl #[.int .i64 (rd ((rd_T50 l0 a0i).f1) x4_2),.int .i64 1,.int .i64 16] rfl zd ?_;(with_reducible refine (spec_l00In.calls (rd ((rd_T50 l0 a0i).f1) x4_2) 1 16 true _ A11.out).mono ?_);rintro e w' ⟨rfl,⟨nd,rfl⟩⟩;refine ⟨_,rfl,?_⟩;have p111:0≤(a0i:Int):=of_decide_eq_true ze;have q111:a0i<(l0.length:Int):=of_decide_eq_true ze;obtain ⟨ad111,A111_1,c111_1,A111_2,c111_2,e111,hx111_0,hx111_1,hx111_2,hl111_1,hi111_1,hl111_2,hi111_2⟩:=at_T50 HR0.out a0i p111 q111;obtain rfl:ad0=ad111:=(by injection e111);have HR111_1:=Aside0.mk hi111_1;have HC111_1:=Aside0.mk hl111_1;clear hi111_1 hl111_1;have HR111_2:=Aside0.mk hi111_2;have HC111_2:=Aside0.mk hl111_2;clear hi111_2 hl111_2;replace p111:=eq_true p111;replace q111:=eq_true q111;have ea_:=Option.some.inj (hx108_1.symm.trans hx111_1);injection ea_ with ea_ en_ ec_;subst ea_;subst ec_;clear en_;have ea_:=Option.some.inj (hx108_2.symm.trans hx111_2);injection ea_ with ea_ en_ ec_;subst ea_;subst ec_;clear en_;have p112:0≤(x4_2:Int):=of_decide_eq_true ze;have q112:x4_2<(((rd_T50 l0 a0i).f2).length:Int):=of_decide_eq_true ze;obtain ⟨ad112,e112,hx112_0⟩:=Kd.at_int HR111_2.out x4_2 p112 q112;cases e112;replace p112:=eq_true p112;replace q112:=eq_true q112))
             go_ret
             exact ⟨zg,zj⟩
           ·rw [if_neg c14] at H
            exact absurd H zdd
          ·rw [if_neg c13] at H
           have c13b0:(x4_2 == 0)=false:=beq_eq_false_iff_ne.mpr c13
           have c13b1:(x4_2 != 0)=true:=bne_iff_ne.mpr c13
           by_cases c19:x4_2 > 0
           ·rw [if_pos c19] at H
            have c19b0:decide (0<x4_2)=true:=decide_eq_true c19
            clear c19
            by_cases c20:x4_2<(((rd_T50 l0 a0i).f2).length:Int)
            ·rw [if_pos c20] at H
             have c20b0:decide (x4_2<(((rd_T50 l0 a0i).f2).length:Int))=true:=decide_eq_true c20
             clear c20
             replace H:=Option.bind_eq_some_iff.mp H
             obtain ⟨t118,A210,H⟩:=H
             replace H:(if t118=true then (spec_l17Ok_e.l0 k2 (((rd_T50 l0 a0i).f1).length:Int) (wrap64 (x4_2+1)) l0 a0i) else (some false))=some r:=H
             have A21:=Aside0.mk A210
             clear A210
             by_cases c22:t118=true
             ·subst c22
              have H1:(spec_l17Ok_e.l0 k2 (((rd_T50 l0 a0i).f1).length:Int) (wrap64 (x4_2+1)) l0 a0i)=some r:=by rw [if_pos rfl] at H;exact H
              clear H
              have H:=H1
              clear H1
              have H':=Aside0.mk H
              clear H
              have p108:0≤(a0i:Int):=of_decide_eq_true ze
              have q108:a0i<(l0.length:Int):=of_decide_eq_true ze
              obtain ⟨ad108,A108_1,c108_1,A108_2,c108_2,e108,hx108_0,hx108_1,hx108_2,hl108_1,hi108_1,hl108_2,hi108_2⟩:=at_T50 HR0.out a0i p108 q108
              obtain rfl:ad0=ad108:=(by injection e108)
              have HR108_1:=Aside0.mk hi108_1
              have HC108_1:=Aside0.mk hl108_1
              clear hi108_1 hl108_1
              have HR108_2:=Aside0.mk hi108_2
              have HC108_2:=Aside0.mk hl108_2
              clear hi108_2 hl108_2
              replace p108:=eq_true p108
              replace q108:=eq_true q108
              have p109:0≤(x4_2:Int):=of_decide_eq_true ze
              have q109:x4_2<(((rd_T50 l0 a0i).f1).length:Int):=of_decide_eq_true ze
              obtain ⟨ad109,e109,hx109_0⟩:=Kd.at_int HR108_1.out x4_2 p109 q109
              cases e109
              replace p109:=eq_true p109
              replace q109:=eq_true q109
              go_wp2_with (first|((with_reducible refine gate_callee (f:=77) rfl ?_);refine goesL_ (some 42) rfl rfl Tryz.func77 zau rfl #[.int .i64 (rd ((rd_T50 l0 a0i).f1) x4_2),.int .i64 1,.int .i64 16] rfl zd ?_;(with_reducible refine (spec_l00In.calls (rd ((rd_T50 l0 a0i).f1) x4_2) 1 16 true _ A11.out).mono ?_);rintro e w' ⟨rfl,⟨nd,rfl⟩⟩;refine ⟨_,rfl,?_⟩;have p116:0≤(a0i:Int):=of_decide_eq_true ze;have q116:a0i<(l0.length:Int):=of_decide_eq_true ze;obtain ⟨ad116,A116_1,c116_1,A116_2,c116_2,e116,hx116_0,hx116_1,hx116_2,hl116_1,hi116_1,hl116_2,hi116_2⟩:=at_T50 HR0.out a0i p116 q116;obtain rfl:ad0=ad116:=(by injection e116);have HR116_1:=Aside0.mk hi116_1;have HC116_1:=Aside0.mk hl116_1;clear hi116_1 hl116_1;have HR116_2:=Aside0.mk hi116_2;have HC116_2:=Aside0.mk hl116_2;clear hi116_2 hl116_2;replace p116:=eq_true p116;replace q116:=eq_true q116;have ea_:=Option.some.inj (hx108_1.symm.trans hx116_1);injection ea_ with ea_ en_ ec_;subst ea_;subst ec_;clear en_;have ea_:=Option.some.inj (hx108_2.symm.trans hx116_2);injection ea_ with ea_ en_ ec_;subst ea_;subst ec_;clear en_;have p117:0≤(x4_2:Int):=of_decide_eq_true ze;have q117:x4_2<(((rd_T50 l0 a0i).f2).length:Int):=of_decide_eq_true ze;obtain ⟨ad117,e117,hx117_0⟩:=Kd.at_int HR116_2.out x4_2 p117 q117;cases e117;replace p117:=eq_true p117;replace q117:=eq_true q117)|(go_at_call 77;(with_reducible refine (spec_l00In.calls (rd ((rd_T50 l0 a0i).f2) x4_2) 2 3 true _ A21.out).mono ?_);rintro e w' ⟨rfl,⟨nd,rfl⟩⟩))
              go_roundg k2
              case measure=>have:=HJ1.out;have:=HK2.out;omega
              case rel=>exact ⟨(wrap64 (x4_2+1)),zg,H',⟨by have:=HJ1.out;have:=HK2.out;omega⟩,zj⟩
             ·replace c22:=Bool.eq_false_iff.mpr c22
              subst c22
              have H1:(some false)=some r:=by rw [if_neg (show ¬ (false=true) by decide)] at H;exact H
              clear H
              have H:=H1
              clear H1
              obtain rfl:=Option.some.inj H
              have p108:0≤(a0i:Int):=of_decide_eq_true ze
              have q108:a0i<(l0.length:Int):=of_decide_eq_true ze
              obtain ⟨ad108,A108_1,c108_1,A108_2,c108_2,e108,hx108_0,hx108_1,hx108_2,hl108_1,hi108_1,hl108_2,hi108_2⟩:=at_T50 HR0.out a0i p108 q108
              obtain rfl:ad0=ad108:=(by injection e108)
              have HR108_1:=Aside0.mk hi108_1
              have HC108_1:=Aside0.mk hl108_1
              clear hi108_1 hl108_1
              have HR108_2:=Aside0.mk hi108_2
              have HC108_2:=Aside0.mk hl108_2
              clear hi108_2 hl108_2
              replace p108:=eq_true p108
              replace q108:=eq_true q108
              have p109:0≤(x4_2:Int):=of_decide_eq_true ze
              have q109:x4_2<(((rd_T50 l0 a0i).f1).length:Int):=of_decide_eq_true ze
              obtain ⟨ad109,e109,hx109_0⟩:=Kd.at_int HR108_1.out x4_2 p109 q109
              cases e109
              replace p109:=eq_true p109
              replace q109:=eq_true q109
              go_wp2_with (first|((with_reducible refine gate_callee (f:=77) rfl ?_);refine goesL_ (some 42) rfl rfl Tryz.func77 zau rfl #[.int .i64 (rd ((rd_T50 l0 a0i).f1) x4_2),.int .i64 1,.int .i64 16] rfl zd ?_;(with_reducible refine (spec_l00In.calls (rd ((rd_T50 l0 a0i).f1) x4_2) 1 16 true _ A11.out).mono ?_);rintro e w' ⟨rfl,⟨nd,rfl⟩⟩;refine ⟨_,rfl,?_⟩;have p116:0≤(a0i:Int):=of_decide_eq_true ze;have q116:a0i<(l0.length:Int):=of_decide_eq_true ze;obtain ⟨ad116,A116_1,c116_1,A116_2,c116_2,e116,hx116_0,hx116_1,hx116_2,hl116_1,hi116_1,hl116_2,hi116_2⟩:=at_T50 HR0.out a0i p116 q116;obtain rfl:ad0=ad116:=(by injection e116);have HR116_1:=Aside0.mk hi116_1;have HC116_1:=Aside0.mk hl116_1;clear hi116_1 hl116_1;have HR116_2:=Aside0.mk hi116_2;have HC116_2:=Aside0.mk hl116_2;clear hi116_2 hl116_2;replace p116:=eq_true p116;replace q116:=eq_true q116;have ea_:=Option.some.inj (hx108_1.symm.trans hx116_1);injection ea_ with ea_ en_ ec_;subst ea_;subst ec_;clear en_;have ea_:=Option.some.inj (hx108_2.symm.trans hx116_2);injection ea_ with ea_ en_ ec_;subst ea_;subst ec_;clear en_;have p117:0≤(x4_2:Int):=of_decide_eq_true ze;have q117:x4_2<(((rd_T50 l0 a0i).f2).length:Int):=of_decide_eq_true ze;obtain ⟨ad117,e117,hx117_0⟩:=Kd.at_int HR116_2.out x4_2 p117 q117;cases e117;replace p117:=eq_true p117;replace q117:=eq_true q117)|(go_at_call 77;(with_reducible refine (spec_l00In.calls (rd ((rd_T50 l0 a0i).f2) x4_2) 2 3 false _ A21.out).mono ?_);rintro e w' ⟨rfl,⟨nd,rfl⟩⟩))
              go_ret
              exact ⟨zg,zj⟩
            ·rw [if_neg c20] at H
             exact absurd H zdd
           ·rw [if_neg c19] at H
            have c19b0:decide (0<x4_2)=false:=decide_eq_false c19
            clear c19
            have H':=Aside0.mk H
            clear H
            have p108:0≤(a0i:Int):=of_decide_eq_true ze
            have q108:a0i<(l0.length:Int):=of_decide_eq_true ze
            obtain ⟨ad108,A108_1,c108_1,A108_2,c108_2,e108,hx108_0,hx108_1,hx108_2,hl108_1,hi108_1,hl108_2,hi108_2⟩:=at_T50 HR0.out a0i p108 q108
            obtain rfl:ad0=ad108:=(by injection e108)
            have HR108_1:=Aside0.mk hi108_1
            have HC108_1:=Aside0.mk hl108_1
            clear hi108_1 hl108_1
            have HR108_2:=Aside0.mk hi108_2
            have HC108_2:=Aside0.mk hl108_2
            clear hi108_2 hl108_2
            replace p108:=eq_true p108
            replace q108:=eq_true q108
            have p109:0≤(x4_2:Int):=of_decide_eq_true ze
            have q109:x4_2<(((rd_T50 l0 a0i).f1).length:Int):=of_decide_eq_true ze
            obtain ⟨ad109,e109,hx109_0⟩:=Kd.at_int HR108_1.out x4_2 p109 q109
            cases e109
            replace p109:=eq_true p109
            replace q109:=eq_true q109
            go_wp2_with (first|((with_reducible refine gate_callee (f:=77) rfl ?_);refine goesL_ (some 42) rfl rfl Tryz.func77 zau rfl #[.int .i64 (rd ((rd_T50 l0 a0i).f1) x4_2),.int .i64 1,.int .i64 16] rfl zd ?_;(with_reducible refine (spec_l00In.calls (rd ((rd_T50 l0 a0i).f1) x4_2) 1 16 true _ A11.out).mono ?_);rintro e w' ⟨rfl,⟨nd,rfl⟩⟩;refine ⟨_,rfl,?_⟩))
            go_roundg k2
            case measure=>have:=HJ1.out;have:=HK2.out;omega
            case rel=>exact ⟨(wrap64 (x4_2+1)),zg,H',⟨by have:=HJ1.out;have:=HK2.out;omega⟩,zj⟩
         ·replace c12:=Bool.eq_false_iff.mpr c12
          subst c12
          have H1:(some false)=some r:=by rw [if_neg (show ¬ (false=true) by decide)] at H;exact H
          clear H
          have H:=H1
          clear H1
          obtain rfl:=Option.some.inj H
          have p108:0≤(a0i:Int):=of_decide_eq_true ze
          have q108:a0i<(l0.length:Int):=of_decide_eq_true ze
          obtain ⟨ad108,A108_1,c108_1,A108_2,c108_2,e108,hx108_0,hx108_1,hx108_2,hl108_1,hi108_1,hl108_2,hi108_2⟩:=at_T50 HR0.out a0i p108 q108
          obtain rfl:ad0=ad108:=(by injection e108)
          have HR108_1:=Aside0.mk hi108_1
          have HC108_1:=Aside0.mk hl108_1
          clear hi108_1 hl108_1
          have HR108_2:=Aside0.mk hi108_2
          have HC108_2:=Aside0.mk hl108_2
          clear hi108_2 hl108_2
          replace p108:=eq_true p108
          replace q108:=eq_true q108
          have p109:0≤(x4_2:Int):=of_decide_eq_true ze
          have q109:x4_2<(((rd_T50 l0 a0i).f1).length:Int):=of_decide_eq_true ze
          obtain ⟨ad109,e109,hx109_0⟩:=Kd.at_int HR108_1.out x4_2 p109 q109
          cases e109
          replace p109:=eq_true p109
          replace q109:=eq_true q109
          go_wp2_with (first|((with_reducible refine gate_callee (f:=77) rfl ?_);refine goesL_ (some 42) rfl rfl Tryz.func77 zau rfl #[.int .i64 (rd ((rd_T50 l0 a0i).f1) x4_2),.int .i64 1,.int .i64 16] rfl zd ?_;(with_reducible refine (spec_l00In.calls (rd ((rd_T50 l0 a0i).f1) x4_2) 1 16 false _ A11.out).mono ?_);rintro e w' ⟨rfl,⟨nd,rfl⟩⟩;refine ⟨_,rfl,?_⟩))
          go_ret
          exact ⟨zg,zj⟩
        ·rw [if_neg c10] at H
         exact absurd H zdd
       ·rw [if_neg c9] at H
        exact absurd H zdd
      ·rw [if_neg c8] at H
       have c8b0:decide (x4_2<(((rd_T50 l0 a0i).f1).length:Int))=false:=decide_eq_false c8
       clear c8
       replace H:=Option.bind_eq_some_iff.mp H
       obtain ⟨t107,A230,H⟩:=H
       replace H:(some (decide (t107≤32)))=some r:=H
       have A23:=Aside0.mk A230
       clear A230
       obtain rfl:=Option.some.inj H
       have p106:0≤(a0i:Int):=of_decide_eq_true ze
       have q106:a0i<(l0.length:Int):=of_decide_eq_true ze
       obtain ⟨ad106,A106_1,c106_1,A106_2,c106_2,e106,hx106_0,hx106_1,hx106_2,hl106_1,hi106_1,hl106_2,hi106_2⟩:=at_T50 HR0.out a0i p106 q106
       obtain rfl:ad0=ad106:=(by injection e106)
       have HR106_1:=Aside0.mk hi106_1
       have HC106_1:=Aside0.mk hl106_1
       clear hi106_1 hl106_1
       have HR106_2:=Aside0.mk hi106_2
       have HC106_2:=Aside0.mk hl106_2
       clear hi106_2 hl106_2
       replace p106:=eq_true p106
       replace q106:=eq_true q106
       go_wp2_with (first|((with_reducible refine gate_callee (f:=162) rfl ?_);refine goesL_ (some 75) rfl rfl Tryz.func162 zau rfl #[.slice A106_1 ((rd_T50 l0 a0i).f1).length c106_1] rfl zd ?_;(with_reducible refine (spec_l17Sum.calls k2 _ _ ((rd_T50 l0 a0i).f1) t107 _ ?side1 ?side2 A23.out).mono ?_);(case side1=>repeat (first|exact HR106_1.out|(with_reducible refine Kd.C_alloc ?_ _)|(with_reducible refine Kd.C_drewN ?_ _)|(with_reducible refine Kd.C_drew ?_)));(case side2=>exact HC106_1.out);rintro e w' ⟨rfl,⟨nd,rfl⟩⟩;refine ⟨_,rfl,?_⟩))
       go_ret
       exact ⟨zg,zj⟩

mutual
def spec_l17Read.l0:Nat→List ByteArray→ByteArray→Int→ByteArray→List Int→List Int→Option (ByteArray × List Int × List Int × Bool)
 | 0,_,_,_,_,_,_=>none
 | k+1,x4,x6,x7,x107000,x107001,x107002=>if x7<(x4.length:Int) then (if 0≤x7 then (if ((rdOf ByteArray.empty x4 x7).size:Int)<2 then (some ((⟨#[]⟩:ByteArray),([]:List Int),([]:List Int),false)) else (if 0≤(wrap64 (((rdOf ByteArray.empty x4 x7).size:Int) - 1)) then (if (wrap64 (((rdOf ByteArray.empty x4 x7).size:Int) - 1))≤((rdOf ByteArray.empty x4 x7).size:Int) then ((spec_l01Number.f k ((rdOf ByteArray.empty x4 x7).extract 0 ((wrap64 (((rdOf ByteArray.empty x4 x7).size:Int) - 1)):Int).toNat)).bind fun bt112=>(if bt112.2=true then (spec_l17Read.l1 k x4 x6 x7 (wrap64 (((rdOf ByteArray.empty x4 x7).size:Int) - 1)) bt112.1 (-1) 0 x107000 x107001 x107002) else (some ((⟨#[]⟩:ByteArray),([]:List Int),([]:List Int),false)))) else (none)) else (none))) else (none)) else ((spec_l17Ok_e.f k [(⟨x107000,x107001,x107002⟩:S50)] 0).bind fun t108=>(if t108=true then (some (x107000,x107001,x107002,true)) else (some ((⟨#[]⟩:ByteArray),([]:List Int),([]:List Int),false))))
def spec_l17Read.l1:Nat→List ByteArray→ByteArray→Int→Int→Int→Int→Int→ByteArray→List Int→List Int→Option (ByteArray × List Int × List Int × Bool)
 | 0,_,_,_,_,_,_,_,_,_,_=>none
 | k+1,x4,x6,x7,x8,x9,x11,x12,x107000,x107001,x107002=>if x12<(x6.size:Int) then (if 0≤x12 then (if 0≤x7 then (if x7<(x4.length:Int) then (if 0≤x8 then (if x8<((rdOf ByteArray.empty x4 x7).size:Int) then (if (bt x6 x12)=(bt (rdOf ByteArray.empty x4 x7) x8) then (spec_l17Read.l1 k x4 x6 x7 x8 x9 x12 (wrap64 (x12+1)) x107000 x107001 x107002) else (spec_l17Read.l1 k x4 x6 x7 x8 x9 x11 (wrap64 (x12+1)) x107000 x107001 x107002)) else (none)) else (none)) else (none)) else (none)) else (none)) else (if x107001.length<17592186044416 then (if x107002.length<17592186044416 then (spec_l17Read.l0 k x4 x6 (wrap64 (x7+1)) x107000 (x107001++[x9]) (x107002++[x11])) else (none)) else (none))
end
def spec_l17Read.f (k:Nat) (a0:ByteArray):Option (ByteArray × List Int × List Int × Bool):=(spec_l01Split.f k a0 32).bind fun t102=>(if 0<(t102.length:Int) then ((spec_l17Signs.f).bind fun t107=>(spec_l17Read.l0 k t102 t107 1 (rdOf ByteArray.empty t102 0) ([]:List Int) ([]:List Int))) else (none))
set_option maxHeartbeats 8000000 in
set_option maxRecDepth 100000 in
theorem spec_l17Read.calls (k:Nat) (a0:ByteArray) (r1:ByteArray) (r2:List Int) (r3:List Int) (r4:Bool) (w:World) (h:spec_l17Read.f k a0=some (r1,r2,r3,r4)) :
 Calls Tryz.prog 109 #[.string a0] w fun e w'=>∃v1_ v2_:Value,e = .returned (.tuple #[.agg #[.string r1,v1_,v2_],.bool r4])∧Kd.R (Kd.int .i64) 2 w' w.heap.size (fun k_=>some k_≠(v2_:Value).ownBlock) v1_ r2∧Kd.R (Kd.int .i64) 2 w' w.heap.size (fun k_=>some k_≠(v1_:Value).ownBlock) v2_ r3∧Below w.heap.size w w':=by
 have hu50:=Tryz.underlying50
 have HB:=Aside0.mk (Below.refl w.heap.size w)
 have H:((spec_l01Split.f k a0 32).bind fun t102=>(if 0<(t102.length:Int) then ((spec_l17Signs.f).bind fun t107=>(spec_l17Read.l0 k t102 t107 1 (rdOf ByteArray.empty t102 0) ([]:List Int) ([]:List Int))) else (none)))=some (r1,r2,r3,r4):=h
 clear h
 replace H:=Option.bind_eq_some_iff.mp H
 obtain ⟨t102,A20,H⟩:=H
 replace H:(if 0<(t102.length:Int) then ((spec_l17Signs.f).bind fun t107=>(spec_l17Read.l0 k t102 t107 1 (rdOf ByteArray.empty t102 0) ([]:List Int) ([]:List Int))) else (none))=some (r1,r2,r3,r4):=H
 have A2:=Aside0.mk A20
 clear A20
 by_cases c3:0<(t102.length:Int)
 ·rw [if_pos c3] at H
  have c3b0:decide (0<(t102.length:Int))=true:=decide_eq_true c3
  have c3b1:decide (0<t102.length)=true:=decide_eq_true zdb
  clear c3
  replace H:=Option.bind_eq_some_iff.mp H
  obtain ⟨t107,A40,H⟩:=H
  replace H:(spec_l17Read.l0 k t102 t107 1 (rdOf ByteArray.empty t102 0) ([]:List Int) ([]:List Int))=some (r1,r2,r3,r4):=H
  have A4:=Aside0.mk A40
  clear A40
  have H':=Aside0.mk H
  clear H
  go_enter Tryz.func109,Tryz.ntmps109
  go_wp2_with (first|((with_reducible refine gate_dst (N:=2) rfl ?_);refine box_event ?hg (N:=2) ?hd (cs:=#[.string (⟨#[]⟩:ByteArray),.slice none 0 0,.slice none 0 0]) (t:=50) ?hr ?_;(case hd=>rfl);(case hg=>rfl);(case hr=>exact zy);intro gb101 hg w5 hbox hb;have n0_:=Aside0.mk (below_step za hb);have n1_:=Aside0.mk (hbox);have n2_:=Aside0.mk ((by rw [hg];exact (below_size za):w.heap.size≤gb101));have n3_:=Aside0.mk ((by rw [hg];exact (below_size za):w.heap.size≤gb101));clear HB;have HB:=n0_;have BK101:=n1_;have GW101:=n2_;have GE101:=n3_;clear n0_ n1_ n2_ n3_;clear hb hbox hg)|(go_at_call 78;(with_reducible refine (spec_l01Split.calls k a0 32 t102 _ A2.out).mono ?_);rintro e w6 ⟨v103,rfl,ho0,hb⟩;have HO104:=Aside0.mk (Kd.R_lower ho0 (below_size zb));replace BK101:=Aside0.mk (blk_below (g:=gb101) (o:=.cells #[.string (⟨#[]⟩:ByteArray),.slice none 0 0,.slice none 0 0] 50 (0,0)) zc hb);replace HB:=Aside0.mk (below_step zb hb);(try clear hb);(try clear hb2);(try clear hk);(try clear hi);(try clear ho0);obtain ⟨Ao7,co7,eo7⟩:=Kd.R_slice HO104.out;subst eo7;have p105:0≤(0:Int):=zdb;have q105:0<(t102.length:Int):=of_decide_eq_true ze;obtain ⟨ad105,e105,hx105_0⟩:=Kd.at_string (Kd.R_reads' HO104.out).2.2 0 p105 q105;cases e105;have qi105:(0<t102.length)=True:=eq_true zdb;(try rw [show ((0:Int)).toNat=0 from rfl] at hx105_0);(try rw [Addr.add_zero'] at hx105_0);replace p105:=eq_true p105;replace q105:=eq_true q105)|((with_reducible refine gate_dst (N:=5) rfl ?_);refine box_event ?hg (N:=5) ?hd (cs:=#[.string (⟨#[]⟩:ByteArray),.slice none 0 0,.slice none 0 0]) (t:=50) ?hr ?_;(case hd=>rfl);(case hg=>rfl);(case hr=>exact zy);intro gb106 hg w8 hbox hb;have n0_:=Aside0.mk (Kd.R_below zr hb);have n1_:=Aside0.mk (blk_below (g:=gb101) (o:=.cells #[.string (⟨#[]⟩:ByteArray),.slice none 0 0,.slice none 0 0] 50 (0,0)) zc hb);have n2_:=Aside0.mk (below_step zb hb);have n3_:=Aside0.mk (hbox);have n4_:=Aside0.mk ((by rw [hg];exact (below_size zb):w.heap.size≤gb106));have n5_:=Aside0.mk ((by rw [hg];exact (below_size zb):w.heap.size≤gb106));have n6_:=Aside0.mk ((by rw [hg];exact Nat.ne_of_lt (blk_lt (g:=gb101) (o:=.cells #[.string (⟨#[]⟩:ByteArray),.slice none 0 0,.slice none 0 0] 50 (0,0)) zc):gb101≠gb106));have n7_:=Aside0.mk ((by rw [hg];exact Nat.ne_of_gt (blk_lt (g:=gb101) (o:=.cells #[.string (⟨#[]⟩:ByteArray),.slice none 0 0,.slice none 0 0] 50 (0,0)) zc):gb106≠gb101));clear HO104;clear BK101;clear HB;have HO104:=n0_;have BK101:=n1_;have HB:=n2_;have BK106:=n3_;have GW106:=n4_;have GE106:=n5_;have NB101_106:=n6_;have NB106_101:=n7_;clear n0_ n1_ n2_ n3_ n4_ n5_ n6_ n7_;clear hb hbox hg;have hnb9:=NB106_101.out;have hnc9:=NB101_106.out;have hcz10_0:w8.cell? ⟨gb106,0,none⟩=some (.string (⟨#[]⟩:ByteArray)):=(blk_cell BK106.out 0).trans rfl;have hcz10_1:w8.cell? ⟨gb106,1,none⟩=some (.slice none 0 0):=(blk_cell BK106.out 1).trans rfl;have hcz10_2:w8.cell? ⟨gb106,2,none⟩=some (.slice none 0 0):=(blk_cell BK106.out 2).trans rfl;have hfz10_0:=blk_frozen BK106.out 0;have hfz10_1:=blk_frozen BK106.out 1;have hfz10_2:=blk_frozen BK106.out 2)|(go_at_call 140;(with_reducible refine (spec_l17Signs.calls t107 _ A4.out).mono ?_);rintro e w' ⟨rfl,⟨nd,rfl⟩⟩;(try first|exact ⟨rfl,_,World.drewN_drewN _ _ _⟩|exact ⟨rfl,_,Eq.trans (World.drewN_drewN _ _ _) (congrArg (World.drewN _) (Nat.add_assoc _ _ _))⟩)))
  repeat (go_quiet (first|((with_reducible refine gate_dst (N:=2) rfl ?_);refine box_event ?hg (N:=2) ?hd (cs:=#[.string (⟨#[]⟩:ByteArray),.slice none 0 0,.slice none 0 0]) (t:=50) ?hr ?_;(case hd=>rfl);(case hg=>rfl);(case hr=>exact zy);intro gb101 hg w5 hbox hb;have n0_:=Aside0.mk (below_step za hb);have n1_:=Aside0.mk (hbox);have n2_:=Aside0.mk ((by rw [hg];exact (below_size za):w.heap.size≤gb101));have n3_:=Aside0.mk ((by rw [hg];exact (below_size za):w.heap.size≤gb101));clear HB;have HB:=n0_;have BK101:=n1_;have GW101:=n2_;have GE101:=n3_;clear n0_ n1_ n2_ n3_;clear hb hbox hg)|(go_at_call 78;(with_reducible refine (spec_l01Split.calls k a0 32 t102 _ A2.out).mono ?_);rintro e w6 ⟨v103,rfl,ho0,hb⟩;have HO104:=Aside0.mk (Kd.R_lower ho0 (below_size zb));replace BK101:=Aside0.mk (blk_below (g:=gb101) (o:=.cells #[.string (⟨#[]⟩:ByteArray),.slice none 0 0,.slice none 0 0] 50 (0,0)) zc hb);replace HB:=Aside0.mk (below_step zb hb);(try clear hb);(try clear hb2);(try clear hk);(try clear hi);(try clear ho0);obtain ⟨Ao7,co7,eo7⟩:=Kd.R_slice HO104.out;subst eo7;have p105:0≤(0:Int):=zdb;have q105:0<(t102.length:Int):=of_decide_eq_true ze;obtain ⟨ad105,e105,hx105_0⟩:=Kd.at_string (Kd.R_reads' HO104.out).2.2 0 p105 q105;cases e105;have qi105:(0<t102.length)=True:=eq_true zdb;(try rw [show ((0:Int)).toNat=0 from rfl] at hx105_0);(try rw [Addr.add_zero'] at hx105_0);replace p105:=eq_true p105;replace q105:=eq_true q105)|((with_reducible refine gate_dst (N:=5) rfl ?_);refine box_event ?hg (N:=5) ?hd (cs:=#[.string (⟨#[]⟩:ByteArray),.slice none 0 0,.slice none 0 0]) (t:=50) ?hr ?_;(case hd=>rfl);(case hg=>rfl);(case hr=>exact zy);intro gb106 hg w8 hbox hb;have n0_:=Aside0.mk (Kd.R_below zr hb);have n1_:=Aside0.mk (blk_below (g:=gb101) (o:=.cells #[.string (⟨#[]⟩:ByteArray),.slice none 0 0,.slice none 0 0] 50 (0,0)) zc hb);have n2_:=Aside0.mk (below_step zb hb);have n3_:=Aside0.mk (hbox);have n4_:=Aside0.mk ((by rw [hg];exact (below_size zb):w.heap.size≤gb106));have n5_:=Aside0.mk ((by rw [hg];exact (below_size zb):w.heap.size≤gb106));have n6_:=Aside0.mk ((by rw [hg];exact Nat.ne_of_lt (blk_lt (g:=gb101) (o:=.cells #[.string (⟨#[]⟩:ByteArray),.slice none 0 0,.slice none 0 0] 50 (0,0)) zc):gb101≠gb106));have n7_:=Aside0.mk ((by rw [hg];exact Nat.ne_of_gt (blk_lt (g:=gb101) (o:=.cells #[.string (⟨#[]⟩:ByteArray),.slice none 0 0,.slice none 0 0] 50 (0,0)) zc):gb106≠gb101));clear HO104;clear BK101;clear HB;have HO104:=n0_;have BK101:=n1_;have HB:=n2_;have BK106:=n3_;have GW106:=n4_;have GE106:=n5_;have NB101_106:=n6_;have NB106_101:=n7_;clear n0_ n1_ n2_ n3_ n4_ n5_ n6_ n7_;clear hb hbox hg;have hnb9:=NB106_101.out;have hnc9:=NB101_106.out;have hcz10_0:w8.cell? ⟨gb106,0,none⟩=some (.string (⟨#[]⟩:ByteArray)):=(blk_cell BK106.out 0).trans rfl;have hcz10_1:w8.cell? ⟨gb106,1,none⟩=some (.slice none 0 0):=(blk_cell BK106.out 1).trans rfl;have hcz10_2:w8.cell? ⟨gb106,2,none⟩=some (.slice none 0 0):=(blk_cell BK106.out 2).trans rfl;have hfz10_0:=blk_frozen BK106.out 0;have hfz10_1:=blk_frozen BK106.out 1;have hfz10_2:=blk_frozen BK106.out 2)|(go_at_call 140;(with_reducible refine (spec_l17Signs.calls t107 _ A4.out).mono ?_);rintro e w' ⟨rfl,⟨nd,rfl⟩⟩;(try first|exact ⟨rfl,_,World.drewN_drewN _ _ _⟩|exact ⟨rfl,_,Eq.trans (World.drewN_drewN _ _ _) (congrArg (World.drewN _) (Nat.add_assoc _ _ _))⟩)));try go_wp2_with (first|((with_reducible refine gate_dst (N:=2) rfl ?_);refine box_event ?hg (N:=2) ?hd (cs:=#[.string (⟨#[]⟩:ByteArray),.slice none 0 0,.slice none 0 0]) (t:=50) ?hr ?_;(case hd=>rfl);(case hg=>rfl);(case hr=>exact zy);intro gb101 hg w5 hbox hb;have n0_:=Aside0.mk (below_step za hb);have n1_:=Aside0.mk (hbox);have n2_:=Aside0.mk ((by rw [hg];exact (below_size za):w.heap.size≤gb101));have n3_:=Aside0.mk ((by rw [hg];exact (below_size za):w.heap.size≤gb101));clear HB;have HB:=n0_;have BK101:=n1_;have GW101:=n2_;have GE101:=n3_;clear n0_ n1_ n2_ n3_;clear hb hbox hg)|(go_at_call 78;(with_reducible refine (spec_l01Split.calls k a0 32 t102 _ A2.out).mono ?_);rintro e w6 ⟨v103,rfl,ho0,hb⟩;have HO104:=Aside0.mk (Kd.R_lower ho0 (below_size zb));replace BK101:=Aside0.mk (blk_below (g:=gb101) (o:=.cells #[.string (⟨#[]⟩:ByteArray),.slice none 0 0,.slice none 0 0] 50 (0,0)) zc hb);replace HB:=Aside0.mk (below_step zb hb);(try clear hb);(try clear hb2);(try clear hk);(try clear hi);(try clear ho0);obtain ⟨Ao7,co7,eo7⟩:=Kd.R_slice HO104.out;subst eo7;have p105:0≤(0:Int):=zdb;have q105:0<(t102.length:Int):=of_decide_eq_true ze;obtain ⟨ad105,e105,hx105_0⟩:=Kd.at_string (Kd.R_reads' HO104.out).2.2 0 p105 q105;cases e105;have qi105:(0<t102.length)=True:=eq_true zdb;(try rw [show ((0:Int)).toNat=0 from rfl] at hx105_0);(try rw [Addr.add_zero'] at hx105_0);replace p105:=eq_true p105;replace q105:=eq_true q105)|((with_reducible refine gate_dst (N:=5) rfl ?_);refine box_event ?hg (N:=5) ?hd (cs:=#[.string (⟨#[]⟩:ByteArray),.slice none 0 0,.slice none 0 0]) (t:=50) ?hr ?_;(case hd=>rfl);(case hg=>rfl);(case hr=>exact zy);intro gb106 hg w8 hbox hb;have n0_:=Aside0.mk (Kd.R_below zr hb);have n1_:=Aside0.mk (blk_below (g:=gb101) (o:=.cells #[.string (⟨#[]⟩:ByteArray),.slice none 0 0,.slice none 0 0] 50 (0,0)) zc hb);have n2_:=Aside0.mk (below_step zb hb);have n3_:=Aside0.mk (hbox);have n4_:=Aside0.mk ((by rw [hg];exact (below_size zb):w.heap.size≤gb106));have n5_:=Aside0.mk ((by rw [hg];exact (below_size zb):w.heap.size≤gb106));have n6_:=Aside0.mk ((by rw [hg];exact Nat.ne_of_lt (blk_lt (g:=gb101) (o:=.cells #[.string (⟨#[]⟩:ByteArray),.slice none 0 0,.slice none 0 0] 50 (0,0)) zc):gb101≠gb106));have n7_:=Aside0.mk ((by rw [hg];exact Nat.ne_of_gt (blk_lt (g:=gb101) (o:=.cells #[.string (⟨#[]⟩:ByteArray),.slice none 0 0,.slice none 0 0] 50 (0,0)) zc):gb106≠gb101));clear HO104;clear BK101;clear HB;have HO104:=n0_;have BK101:=n1_;have HB:=n2_;have BK106:=n3_;have GW106:=n4_;have GE106:=n5_;have NB101_106:=n6_;have NB106_101:=n7_;clear n0_ n1_ n2_ n3_ n4_ n5_ n6_ n7_;clear hb hbox hg;have hnb9:=NB106_101.out;have hnc9:=NB101_106.out;have hcz10_0:w8.cell? ⟨gb106,0,none⟩=some (.string (⟨#[]⟩:ByteArray)):=(blk_cell BK106.out 0).trans rfl;have hcz10_1:w8.cell? ⟨gb106,1,none⟩=some (.slice none 0 0):=(blk_cell BK106.out 1).trans rfl;have hcz10_2:w8.cell? ⟨gb106,2,none⟩=some (.slice none 0 0):=(blk_cell BK106.out 2).trans rfl;have hfz10_0:=blk_frozen BK106.out 0;have hfz10_1:=blk_frozen BK106.out 1;have hfz10_2:=blk_frozen BK106.out 2)|(go_at_call 140;(with_reducible refine (spec_l17Signs.calls t107 _ A4.out).mono ?_);rintro e w' ⟨rfl,⟨nd,rfl⟩⟩;(try first|exact ⟨rfl,_,World.drewN_drewN _ _ _⟩|exact ⟨rfl,_,Eq.trans (World.drewN_drewN _ _ _) (congrArg (World.drewN _) (Nat.add_assoc _ _ _))⟩))))
  go_loopg [7] k (fun kq v7 w'=>∃(x7_1:Int) (x102000_1:ByteArray) (x107001_1:List Int) (x107002_1:List Int) (u107001:Value) (u107002:Value),v7 = .int .i64 x7_1∧Aside0 (spec_l17Read.l0 kq t102 t107 x7_1 (rdOf ByteArray.empty t102 0) x107001_1 x107002_1=some (r1,r2,r3,r4))∧Aside0 (kq≤k)∧Aside0 (Kd.R Kd.string 9 w' w.heap.size (fun _=>True) (.slice (some ad105) t102.length co7) t102)∧Aside0 (Kd.R (Kd.int .i64) 2 w' w.heap.size (fun k_=>some k_≠(u107002:Value).ownBlock) u107001 x107001_1)∧Aside0 (Kd.R (Kd.int .i64) 2 w' w.heap.size (fun k_=>some k_≠(u107001:Value).ownBlock) u107002 x107002_1)∧Aside0 (w'.heap[gb101]?=some (.cells #[.string x102000_1,(.slice none 0 0),(.slice none 0 0)] 50 (0,0)))∧Aside0 (w'.heap[gb106]?=some (.cells #[.string (rdOf ByteArray.empty t102 0),u107001,u107002] 50 (0,0)))∧Aside0 (Below w.heap.size w w'))
  case atStart=>exact ⟨(1),((⟨#[]⟩:ByteArray)),(([]:List Int)),(([]:List Int)),(.slice none 0 0),(.slice none 0 0),zg,H',⟨Nat.le_refl _⟩,⟨by (with_reducible repeat (first|apply Kd.R_alloc|apply Kd.R_drewN|apply Kd.R_drew));exact Kd.R_mono (Kd.R_far (p:=⟨gb106,2,none⟩) (Kd.R_far (p:=⟨gb106,1,none⟩) (Kd.R_far (p:=⟨gb106,0,none⟩) (Kd.R_types HO104.out BK106.out zbl) (fun _ hk=>hk.2) (.string (rdOf ByteArray.empty t102 0))) (fun _ hk=>hk.2) (.slice none 0 0)) (fun _ hk=>hk.2) (.slice none 0 0)) (fun _ hk=>trivial)⟩,⟨zm⟩,⟨zm⟩,⟨by (with_reducible repeat (first|refine blk_drewN ?_ _|refine blk_drew ?_|refine blk_alloc ?_ _));refine blk_far ?_ NB101_106.out _;(with_reducible repeat (first|refine blk_drewN ?_ _|refine blk_drew ?_|refine blk_alloc ?_ _));refine blk_far ?_ NB101_106.out _;(with_reducible repeat (first|refine blk_drewN ?_ _|refine blk_drew ?_|refine blk_alloc ?_ _));refine blk_far ?_ NB101_106.out _;(with_reducible repeat (first|refine blk_drewN ?_ _|refine blk_drew ?_|refine blk_alloc ?_ _));exact BK101.out⟩,⟨by (with_reducible repeat (first|refine blk_drewN ?_ _|refine blk_drew ?_|refine blk_alloc ?_ _));refine blk_put (cs:=#[.string (rdOf ByteArray.empty t102 0),.slice none 0 0,.slice none 0 0]) ?_ 2 _ rfl;(with_reducible repeat (first|refine blk_drewN ?_ _|refine blk_drew ?_|refine blk_alloc ?_ _));refine blk_put (cs:=#[.string (rdOf ByteArray.empty t102 0),.slice none 0 0,.slice none 0 0]) ?_ 1 _ rfl;(with_reducible repeat (first|refine blk_drewN ?_ _|refine blk_drew ?_|refine blk_alloc ?_ _));refine blk_put (cs:=#[.string (⟨#[]⟩:ByteArray),.slice none 0 0,.slice none 0 0]) ?_ 0 _ rfl;(with_reducible repeat (first|refine blk_drewN ?_ _|refine blk_drew ?_|refine blk_alloc ?_ _));exact BK106.out⟩,⟨zo⟩⟩
  case round=>
   clear H'
   try clear c1
   try clear p1
   try clear q1
   try clear hx1
   try clear qi1
   try clear p2
   try clear c3
   try clear c3b0
   try clear c3b1
   try clear c9
   try clear c10
   try clear p10
   try clear q10
   try clear hx10
   try clear qi10
   try clear hcz10_0
   try clear hcz10_1
   try clear hcz10_2
   try clear hfz10_0
   try clear hfz10_1
   try clear hfz10_2
   try clear hx105_0
   try clear p105
   try clear q105
   obtain ⟨x7_1,x102000_1,x107001_1,x107002_1,u107001,u107002,rfl,HA,HK1,HO_4,HO_107001,HO_107002,BK101,BK106,HB⟩:=hrel
   cases gk with
   | zero=>exact absurd HA.out (by simp [spec_l17Read.l0])
   | succ k1=>
    have H:=HA.out
    clear HA
    simp only [spec_l17Read.l0] at H
    by_cases c11:x7_1<(t102.length:Int)
    ·rw [if_pos c11] at H
     have c11b0:decide (x7_1<(t102.length:Int))=true:=decide_eq_true c11
     clear c11
     by_cases c12:0≤x7_1
     ·rw [if_pos c12] at H
      have c12b0:decide (0≤x7_1)=true:=decide_eq_true c12
      clear c12
      by_cases c13:((rdOf ByteArray.empty t102 x7_1).size:Int)<2
      ·rw [if_pos c13] at H
       have c13b0:decide (((rdOf ByteArray.empty t102 x7_1).size:Int)<2)=true:=decide_eq_true c13
       have c13b1:decide ((rdOf ByteArray.empty t102 x7_1).size<2)=true:=decide_eq_true zdb
       clear c13
       simp only [Option.some.injEq,Prod.mk.injEq] at H
       obtain ⟨rfl,rfl,rfl,rfl⟩:=H
       have p109:0≤(x7_1:Int):=of_decide_eq_true ze
       have q109:x7_1<(t102.length:Int):=of_decide_eq_true ze
       obtain ⟨ad109,e109,hx109_0⟩:=Kd.at_string (Kd.R_reads' HO_4.out).2.2 x7_1 p109 q109
       obtain rfl:ad105=ad109:=(by injection e109)
       replace p109:=eq_true p109
       replace q109:=eq_true q109
       have hnb14:=NB101_106.out
       have hnc14:=NB106_101.out
       have hcz15_0:wr.cell? ⟨gb101,0,none⟩=some (.string x102000_1):=(blk_cell BK101.out 0).trans rfl
       have hcz15_1:wr.cell? ⟨gb101,1,none⟩=some (.slice none 0 0):=(blk_cell BK101.out 1).trans rfl
       have hcz15_2:wr.cell? ⟨gb101,2,none⟩=some (.slice none 0 0):=(blk_cell BK101.out 2).trans rfl
       have hfz15_0:=blk_frozen BK101.out 0
       have hfz15_1:=blk_frozen BK101.out 1
       have hfz15_2:=blk_frozen BK101.out 2
       go_wp2
       repeat (go_quiet (fail);try go_wp2)
       refine bodyPost_ret (results_ct rfl _ _ gb101 50 #[.string (⟨#[]⟩:ByteArray),.slice none 0 0,.slice none 0 0] (0,0) _ rfl zan Tryz.underlying50 rfl zau) rfl ?_
       exact ⟨_,_,zi,zm,zm,zo⟩
      ·rw [if_neg c13] at H
       have c13b0:decide (((rdOf ByteArray.empty t102 x7_1).size:Int)<2)=false:=decide_eq_false c13
       have c13b1:decide ((rdOf ByteArray.empty t102 x7_1).size<2)=false:=decide_eq_false zdb
       clear c13
       obtain ⟨ji16,hji16⟩:∃j_:Int,(wrap64 (((rdOf ByteArray.empty t102 x7_1).size:Int) - 1))=j_:=⟨_,rfl⟩
       replace H:(if 0≤(ji16) then (if (ji16)≤((rdOf ByteArray.empty t102 x7_1).size:Int) then ((spec_l01Number.f k1 ((rdOf ByteArray.empty t102 x7_1).extract 0 ((ji16):Int).toNat)).bind fun bt112=>(if bt112.2=true then (spec_l17Read.l1 k1 t102 t107 x7_1 ji16 bt112.1 (-1) 0 (rdOf ByteArray.empty t102 0) x107001_1 x107002_1) else (some ((⟨#[]⟩:ByteArray),([]:List Int),([]:List Int),false)))) else (none)) else (none))=some (r1,r2,r3,r4):=by first|(rw [hji16] at H;exact H)|(simp only [hji16] at H ⊢;exact H)
       have hji16w:(IntKind.i64.wrap (((rdOf ByteArray.empty t102 x7_1).size:Int) - 1))=ji16:=(i64_w _).trans hji16
       by_cases c17:0≤(ji16)
       ·rw [if_pos c17] at H
        have c17b0:=eq_true c17
        have c17b1:decide (0≤(ji16))=true:=decide_eq_true c17
        clear c17
        by_cases c18:(ji16)≤((rdOf ByteArray.empty t102 x7_1).size:Int)
        ·rw [if_pos c18] at H
         have c18b0:=eq_true c18
         have c18b1:decide ((ji16)≤((rdOf ByteArray.empty t102 x7_1).size:Int))=true:=decide_eq_true c18
         clear c18
         replace H:=Option.bind_eq_some_iff.mp H
         obtain ⟨⟨t112,t113⟩,A190,H⟩:=H
         replace H:(if t113=true then (spec_l17Read.l1 k1 t102 t107 x7_1 ji16 t112 (-1) 0 (rdOf ByteArray.empty t102 0) x107001_1 x107002_1) else (some ((⟨#[]⟩:ByteArray),([]:List Int),([]:List Int),false)))=some (r1,r2,r3,r4):=H
         have A19:=Aside0.mk A190
         clear A190
         by_cases c20:t113=true
         ·subst c20
          have H1:(spec_l17Read.l1 k1 t102 t107 x7_1 ji16 t112 (-1) 0 (rdOf ByteArray.empty t102 0) x107001_1 x107002_1)=some (r1,r2,r3,r4):=by rw [if_pos rfl] at H;exact H
          clear H
          have H:=H1
          clear H1
          have H':=Aside0.mk H
          clear H
          have p109:0≤(x7_1:Int):=of_decide_eq_true ze
          have q109:x7_1<(t102.length:Int):=of_decide_eq_true ze
          obtain ⟨ad109,e109,hx109_0⟩:=Kd.at_string (Kd.R_reads' HO_4.out).2.2 x7_1 p109 q109
          obtain rfl:ad105=ad109:=(by injection e109)
          replace p109:=eq_true p109
          replace q109:=eq_true q109
          have p110:0≤(x7_1:Int):=of_decide_eq_true ze
          have q110:x7_1<(t102.length:Int):=of_decide_eq_true ze
          obtain ⟨ad110,e110,hx110_0⟩:=Kd.at_string (Kd.R_reads' HO_4.out).2.2 x7_1 p110 q110
          obtain rfl:ad105=ad110:=(by injection e110)
          replace p110:=eq_true p110
          replace q110:=eq_true q110
          have p111:0≤(x7_1:Int):=of_decide_eq_true ze
          have q111:x7_1<(t102.length:Int):=of_decide_eq_true ze
          obtain ⟨ad111,e111,hx111_0⟩:=Kd.at_string (Kd.R_reads' HO_4.out).2.2 x7_1 p111 q111
          obtain rfl:ad105=ad111:=(by injection e111)
          replace p111:=eq_true p111
          replace q111:=eq_true q111
          go_wp2_with (first|(go_at_call 80;(with_reducible refine (spec_l01Number.calls k1 ((rdOf ByteArray.empty t102 x7_1).extract 0 ((ji16):Int).toNat) t112 true _ A19.out).mono ?_);rintro e w' ⟨rfl,⟨nd,rfl⟩⟩;(try first|exact ⟨rfl,_,World.drewN_drewN _ _ _⟩|exact ⟨rfl,_,Eq.trans (World.drewN_drewN _ _ _) (congrArg (World.drewN _) (Nat.add_assoc _ _ _))⟩)))
          repeat (go_quiet (first|(go_at_call 80;(with_reducible refine (spec_l01Number.calls k1 ((rdOf ByteArray.empty t102 x7_1).extract 0 ((ji16):Int).toNat) t112 true _ A19.out).mono ?_);rintro e w' ⟨rfl,⟨nd,rfl⟩⟩;(try first|exact ⟨rfl,_,World.drewN_drewN _ _ _⟩|exact ⟨rfl,_,Eq.trans (World.drewN_drewN _ _ _) (congrArg (World.drewN _) (Nat.add_assoc _ _ _))⟩)));try go_wp2_with (first|(go_at_call 80;(with_reducible refine (spec_l01Number.calls k1 ((rdOf ByteArray.empty t102 x7_1).extract 0 ((ji16):Int).toNat) t112 true _ A19.out).mono ?_);rintro e w' ⟨rfl,⟨nd,rfl⟩⟩;(try first|exact ⟨rfl,_,World.drewN_drewN _ _ _⟩|exact ⟨rfl,_,Eq.trans (World.drewN_drewN _ _ _) (congrArg (World.drewN _) (Nat.add_assoc _ _ _))⟩))))
          go_loopg [11,12] k1 (fun kq v11 v12 w'=>∃(x11_2:Int) (x12_2:Int),v11 = .int .i64 x11_2∧v12 = .int .i64 x12_2∧Aside0 (spec_l17Read.l1 kq t102 t107 x7_1 ji16 t112 x11_2 x12_2 (rdOf ByteArray.empty t102 0) x107001_1 x107002_1=some (r1,r2,r3,r4))∧Aside0 (kq≤k1)∧Aside0 (Kd.R Kd.string 9 w' w.heap.size (fun _=>True) (.slice (some ad105) t102.length co7) t102)∧Aside0 (Kd.R (Kd.int .i64) 2 w' w.heap.size (fun k_=>some k_≠(u107002:Value).ownBlock) u107001 x107001_1)∧Aside0 (Kd.R (Kd.int .i64) 2 w' w.heap.size (fun k_=>some k_≠(u107001:Value).ownBlock) u107002 x107002_1)∧Aside0 (w'.heap[gb101]?=some (.cells #[.string x102000_1,(.slice none 0 0),(.slice none 0 0)] 50 (0,0)))∧Aside0 (w'.heap[gb106]?=some (.cells #[.string (rdOf ByteArray.empty t102 0),u107001,u107002] 50 (0,0)))∧Aside0 (Below w.heap.size w w'))
          case atStart=>exact ⟨((-1)),(0),zg,zg,H',⟨Nat.le_refl _⟩,⟨zv⟩,⟨zch⟩,⟨zde⟩,⟨zc⟩,⟨zbo⟩,⟨zo⟩⟩
          case round=>
           clear H'
           try clear c1
           try clear p1
           try clear q1
           try clear hx1
           try clear qi1
           try clear c2
           try clear p2
           try clear c3
           try clear c3b0
           try clear c3b1
           try clear p6
           try clear c9
           try clear c10
           try clear p10
           try clear q10
           try clear hx10
           try clear qi10
           try clear c11
           try clear c11b0
           try clear p11
           try clear q11
           try clear hx11
           try clear c12
           try clear c12b0
           try clear c13
           try clear c13b0
           try clear c13b1
           try clear c14
           try clear c17
           try clear c17b0
           try clear c17b1
           try clear c18
           try clear c18b0
           try clear c18b1
           try clear c20
           try clear hcz10_0
           try clear hcz10_1
           try clear hcz10_2
           try clear hcz15_0
           try clear hcz15_1
           try clear hcz15_2
           try clear hfz10_0
           try clear hfz10_1
           try clear hfz10_2
           try clear hfz15_0
           try clear hfz15_1
           try clear hfz15_2
           try clear hx105_0
           try clear hx109_0
           try clear hx110_0
           try clear hx111_0
           try clear p1
           try clear p10
           try clear p105
           try clear p109
           try clear p110
           try clear p111
           try clear p2
           try clear q1
           try clear q10
           try clear q105
           try clear q109
           try clear q110
           try clear q111
           obtain ⟨x11_2,x12_2,rfl,rfl,HA,HK2,HO_4,HO_107001,HO_107002,BK101,BK106,HB⟩:=hrel
           cases gk with
           | zero=>exact absurd HA.out (by simp [spec_l17Read.l1])
           | succ k2=>
            have H:=HA.out
            clear HA
            simp only [spec_l17Read.l1] at H
            by_cases c21:x12_2<(t107.size:Int)
            ·rw [if_pos c21] at H
             have c21b0:decide (x12_2<(t107.size:Int))=true:=decide_eq_true c21
             clear c21
             by_cases c22:0≤x12_2
             ·rw [if_pos c22] at H
              have c22b0:decide (0≤x12_2)=true:=decide_eq_true c22
              clear c22
              by_cases c24:0≤x7_1
              ·rw [if_pos c24] at H
               have c24b0:decide (0≤x7_1)=true:=decide_eq_true c24
               clear c24
               by_cases c25:x7_1<(t102.length:Int)
               ·rw [if_pos c25] at H
                have c25b0:decide (x7_1<(t102.length:Int))=true:=decide_eq_true c25
                clear c25
                by_cases c26:0≤ji16
                ·rw [if_pos c26] at H
                 have c26b0:decide (0≤ji16)=true:=decide_eq_true c26
                 clear c26
                 by_cases c27:ji16<((rdOf ByteArray.empty t102 x7_1).size:Int)
                 ·rw [if_pos c27] at H
                  have c27b0:decide (ji16<((rdOf ByteArray.empty t102 x7_1).size:Int))=true:=decide_eq_true c27
                  clear c27
                  by_cases c29:(bt t107 x12_2)=(bt (rdOf ByteArray.empty t102 x7_1) ji16)
                  ·rw [if_pos c29] at H
                   have c29b0:((bt t107 x12_2) == (bt (rdOf ByteArray.empty t102 x7_1) ji16))=true:=beq_iff_eq.mpr c29
                   have c29b1:((bt t107 x12_2) != (bt (rdOf ByteArray.empty t102 x7_1) ji16))=false:=bne_eq_false_iff_eq.mpr c29
                   clear c29
                   have H':=Aside0.mk H
                   clear H
                   have p23:0≤(x12_2:Int):=of_decide_eq_true ze
                   have q23:x12_2<(t107.size:Int):=of_decide_eq_true ze
                   have hx23:=bt_at t107 x12_2
                   replace p23:=eq_true p23
                   replace q23:=eq_true q23
                   have p114:0≤(x7_1:Int):=of_decide_eq_true ze
                   have q114:x7_1<(t102.length:Int):=of_decide_eq_true ze
                   obtain ⟨ad114,e114,hx114_0⟩:=Kd.at_string (Kd.R_reads' HO_4.out).2.2 x7_1 p114 q114
                   obtain rfl:ad105=ad114:=(by injection e114)
                   replace p114:=eq_true p114
                   replace q114:=eq_true q114
                   have p28:0≤(ji16:Int):=of_decide_eq_true ze
                   have q28:ji16<((rdOf ByteArray.empty t102 x7_1).size:Int):=of_decide_eq_true ze
                   have hx28:=bt_at (rdOf ByteArray.empty t102 x7_1) ji16
                   replace p28:=eq_true p28
                   replace q28:=eq_true q28
                   go_wp2
                   repeat (go_quiet (fail);try go_wp2)
                   go_roundg k2
                   case measure=>have:=HK1.out;have:=HK2.out;omega
                   case rel=>exact ⟨(x12_2),(wrap64 (x12_2+1)),zg,zg,H',⟨by have:=HK1.out;have:=HK2.out;omega⟩,⟨zv⟩,⟨zch⟩,⟨zde⟩,⟨zc⟩,⟨zbo⟩,⟨zo⟩⟩
                  ·rw [if_neg c29] at H
                   have c29b0:((bt t107 x12_2) == (bt (rdOf ByteArray.empty t102 x7_1) ji16))=false:=beq_eq_false_iff_ne.mpr c29
                   have c29b1:((bt t107 x12_2) != (bt (rdOf ByteArray.empty t102 x7_1) ji16))=true:=bne_iff_ne.mpr c29
                   have H':=Aside0.mk H
                   clear H
                   have p23:0≤(x12_2:Int):=of_decide_eq_true ze
                   have q23:x12_2<(t107.size:Int):=of_decide_eq_true ze
                   have hx23:=bt_at t107 x12_2
                   replace p23:=eq_true p23
                   replace q23:=eq_true q23
                   have p114:0≤(x7_1:Int):=of_decide_eq_true ze
                   have q114:x7_1<(t102.length:Int):=of_decide_eq_true ze
                   obtain ⟨ad114,e114,hx114_0⟩:=Kd.at_string (Kd.R_reads' HO_4.out).2.2 x7_1 p114 q114
                   obtain rfl:ad105=ad114:=(by injection e114)
                   replace p114:=eq_true p114
                   replace q114:=eq_true q114
                   have p28:0≤(ji16:Int):=of_decide_eq_true ze
                   have q28:ji16<((rdOf ByteArray.empty t102 x7_1).size:Int):=of_decide_eq_true ze
                   have hx28:=bt_at (rdOf ByteArray.empty t102 x7_1) ji16
                   replace p28:=eq_true p28
                   replace q28:=eq_true q28
                   go_wp2
                   repeat (go_quiet (fail);try go_wp2)
                   go_roundg k2
                   case measure=>have:=HK1.out;have:=HK2.out;omega
                   case rel=>exact ⟨(x11_2),(wrap64 (x12_2+1)),zg,zg,H',⟨by have:=HK1.out;have:=HK2.out;omega⟩,⟨zv⟩,⟨zch⟩,⟨zde⟩,⟨zc⟩,⟨zbo⟩,⟨zo⟩⟩
                 ·rw [if_neg c27] at H
                  exact absurd H zdd
                ·rw [if_neg c26] at H
                 exact absurd H zdd
               ·rw [if_neg c25] at H
                exact absurd H zdd
              ·rw [if_neg c24] at H
               exact absurd H zdd
             ·rw [if_neg c22] at H
              exact absurd H zdd
            ·rw [if_neg c21] at H
             have c21b0:decide (x12_2<(t107.size:Int))=false:=decide_eq_false c21
             clear c21
             by_cases c30:x107001_1.length<17592186044416
             ·rw [if_pos c30] at H
              have LMc30:=Aside0.mk c30
              clear c30
              obtain ⟨y115,hy115⟩:∃y_:List Int,y_=(x107001_1++[t112]):=⟨_,rfl⟩
              replace H:(if x107002_1.length<17592186044416 then (spec_l17Read.l0 k2 t102 t107 (wrap64 (x7_1+1)) (rdOf ByteArray.empty t102 0) y115 (x107002_1++[x11_2])) else (none))=some (r1,r2,r3,r4):=by first|(rw [hy115];with_reducible exact H)|(have H2_:=(Option.bind_some _ _).symm.trans H;rw [hy115];with_reducible exact H2_)|(have H2_:=(Option.bind_some _ _).symm.trans H;with_reducible exact H2_)|with_reducible exact H|(rw [hy115];exact H)|exact H
              have Ny115:=Aside0.mk hy115
              clear hy115
              by_cases c31:x107002_1.length<17592186044416
              ·rw [if_pos c31] at H
               have LMc31:=Aside0.mk c31
               clear c31
               obtain ⟨y118,hy118⟩:∃y_:List Int,y_=(x107002_1++[x11_2]):=⟨_,rfl⟩
               replace H:(spec_l17Read.l0 k2 t102 t107 (wrap64 (x7_1+1)) (rdOf ByteArray.empty t102 0) y115 y118)=some (r1,r2,r3,r4):=by first|(rw [hy118];with_reducible exact H)|(have H2_:=(Option.bind_some _ _).symm.trans H;rw [hy118];with_reducible exact H2_)|(have H2_:=(Option.bind_some _ _).symm.trans H;with_reducible exact H2_)|with_reducible exact H|(rw [hy118];exact H)|exact H
               have Ny118:=Aside0.mk hy118
               clear hy118
               have H':=Aside0.mk H
               clear H
               have hnb32:=NB106_101.out
               have hnc32:=NB101_106.out
               have hcz33_0:wr.cell? ⟨gb106,0,none⟩=some (.string (rdOf ByteArray.empty t102 0)):=(blk_cell BK106.out 0).trans rfl
               have hcz33_1:wr.cell? ⟨gb106,1,none⟩=some (u107001):=(blk_cell BK106.out 1).trans rfl
               have hcz33_2:wr.cell? ⟨gb106,2,none⟩=some (u107002):=(blk_cell BK106.out 2).trans rfl
               have hfz33_0:=blk_frozen BK106.out 0
               have hfz33_1:=blk_frozen BK106.out 1
               have hfz33_2:=blk_frozen BK106.out 2
               go_wp2_with (first|((with_reducible refine gate_builtin (b:=.append) (xs:=#[.tmp 70,.tmp 72]) rfl ?_);at_builtin;refine Kd.R_append (Kd.int .i64) (w0:=w) w.heap.size rfl (.tmp 70) (.tmp 72) 37 2 (.int .i64 0) 8 rfl Tryz.underlying37 info2 rfl zbl zdb u107001 x107001_1 t112 [.int .i64 t112] (fun k_=>some k_≠(u107002:Value).ownBlock) (fun _=>False) rfl rfl ?aP (fun _ hk=>hk.elim) ?aF ?aO ?aB ?aS ?aL ?_;(case aP=>exact rfl);(case aB=>exact zo);(case aF=>exact (fun k_ hk=>Kd.fresh' (Kd.R_lt zde) k_ hk));(case aO=>exact zch);(case aS=>exact (below_size zo));(case aL=>have:=LMc30.out;omega);intro v116 w34 ho hb hg hat;rw [←Ny115.out] at ho;replace HO_4:=Aside0.mk (Kd.R_over' zv (Kd.R_typed zch) zbl hg);replace HO_107002:=Aside0.mk (Kd.R_after (ok:=(fun _=>True)) (by (with_reducible repeat (first|apply Kd.R_alloc|apply Kd.R_drewN|apply Kd.R_drew));exact Kd.R_mono HO_107002.out (fun _ hk=>⟨trivial,hk⟩)) hg hat);replace BK101:=Aside0.mk (blk_grown (g:=gb101) (o:=.cells #[.string x102000_1,.slice none 0 0,.slice none 0 0] 50 (0,0)) zc hg (Kd.R_ne HO_107001.out BK101.out zbl));replace BK106:=Aside0.mk (blk_grown (g:=gb106) (o:=.cells #[.string (rdOf ByteArray.empty t102 0),u107001,u107002] 50 (0,0)) zbo hg (Kd.R_ne HO_107001.out BK106.out zbl));replace HB:=Aside0.mk (hb);have HO117:=Aside0.mk (ho);clear HO_107001;clear ho hb hg hat;obtain ⟨Ao35,co35,eo35⟩:=Kd.R_slice HO117.out;subst eo35;have hcz36_0:w34.cell? ⟨gb106,0,none⟩=some (.string (rdOf ByteArray.empty t102 0)):=(blk_cell BK106.out 0).trans rfl;have hcz36_1:w34.cell? ⟨gb106,1,none⟩=some (u107001):=(blk_cell BK106.out 1).trans rfl;have hcz36_2:w34.cell? ⟨gb106,2,none⟩=some (u107002):=(blk_cell BK106.out 2).trans rfl;have hfz36_0:=blk_frozen BK106.out 0;have hfz36_1:=blk_frozen BK106.out 1;have hfz36_2:=blk_frozen BK106.out 2)|((with_reducible refine gate_builtin (b:=.append) (xs:=#[.tmp 76,.tmp 78]) rfl ?_);at_builtin;refine Kd.R_append (Kd.int .i64) (w0:=w) w.heap.size rfl (.tmp 76) (.tmp 78) 37 2 (.int .i64 0) 8 rfl Tryz.underlying37 info2 rfl zbl zdb u107002 x107002_1 x11_2 [.int .i64 x11_2] (fun k_=>some k_≠(.slice Ao35 y115.length co35:Value).ownBlock) (fun _=>False) rfl zy ?aP (fun _ hk=>hk.elim) ?aF ?aO ?aB ?aS ?aL ?_;(case aP=>exact rfl);(case aB=>exact zo);(case aF=>exact (fun k_ hk=>Kd.fresh' (Kd.R_lt zcx) k_ hk));(case aO=>exact zcv);(case aS=>exact (below_size zo));(case aL=>have:=LMc31.out;omega);intro v119 w37 ho hb hg hat;rw [←Ny118.out] at ho;have n0_:=Aside0.mk (Kd.R_over' zcy (Kd.R_typed zcw) zbl hg);have n1_:=Aside0.mk (blk_grown (g:=gb101) (o:=.cells #[.string x102000_1,.slice none 0 0,.slice none 0 0] 50 (0,0)) zcg hg (Kd.R_ne HO_107002.out BK101.out zbl));have n2_:=Aside0.mk (blk_grown (g:=gb106) (o:=.cells #[.string (rdOf ByteArray.empty t102 0),.slice Ao35 y115.length co35,u107002] 50 (0,0)) zcj hg (Kd.R_ne HO_107002.out BK106.out zbl));have n3_:=Aside0.mk (Kd.R_after (ok:=(fun _=>True)) zcu hg hat);have n4_:=Aside0.mk (hb);have n5_:=Aside0.mk (ho);clear HO_4;clear BK101;clear BK106;clear HO117;clear HB;clear HO_107002;have HO_4:=n0_;have BK101:=n1_;have BK106:=n2_;have HO117:=n3_;have HB:=n4_;have HO120:=n5_;clear n0_ n1_ n2_ n3_ n4_ n5_;clear ho hb hg hat;obtain ⟨Ao38,co38,eo38⟩:=Kd.R_slice HO120.out;subst eo38;have hcz39_0:w37.cell? ⟨gb106,0,none⟩=some (.string (rdOf ByteArray.empty t102 0)):=(blk_cell BK106.out 0).trans rfl;have hcz39_1:w37.cell? ⟨gb106,1,none⟩=some (.slice Ao35 y115.length co35):=(blk_cell BK106.out 1).trans rfl;have hcz39_2:w37.cell? ⟨gb106,2,none⟩=some (u107002):=(blk_cell BK106.out 2).trans rfl;have hfz39_0:=blk_frozen BK106.out 0;have hfz39_1:=blk_frozen BK106.out 1;have hfz39_2:=blk_frozen BK106.out 2))
               repeat (go_quiet (first|((with_reducible refine gate_builtin (b:=.append) (xs:=#[.tmp 70,.tmp 72]) rfl ?_);at_builtin;refine Kd.R_append (Kd.int .i64) (w0:=w) w.heap.size rfl (.tmp 70) (.tmp 72) 37 2 (.int .i64 0) 8 rfl Tryz.underlying37 info2 rfl zbl zdb u107001 x107001_1 t112 [.int .i64 t112] (fun k_=>some k_≠(u107002:Value).ownBlock) (fun _=>False) rfl rfl ?aP (fun _ hk=>hk.elim) ?aF ?aO ?aB ?aS ?aL ?_;(case aP=>exact rfl);(case aB=>exact zo);(case aF=>exact (fun k_ hk=>Kd.fresh' (Kd.R_lt zde) k_ hk));(case aO=>exact zch);(case aS=>exact (below_size zo));(case aL=>have:=LMc30.out;omega);intro v116 w34 ho hb hg hat;rw [←Ny115.out] at ho;replace HO_4:=Aside0.mk (Kd.R_over' zv (Kd.R_typed zch) zbl hg);replace HO_107002:=Aside0.mk (Kd.R_after (ok:=(fun _=>True)) (by (with_reducible repeat (first|apply Kd.R_alloc|apply Kd.R_drewN|apply Kd.R_drew));exact Kd.R_mono HO_107002.out (fun _ hk=>⟨trivial,hk⟩)) hg hat);replace BK101:=Aside0.mk (blk_grown (g:=gb101) (o:=.cells #[.string x102000_1,.slice none 0 0,.slice none 0 0] 50 (0,0)) zc hg (Kd.R_ne HO_107001.out BK101.out zbl));replace BK106:=Aside0.mk (blk_grown (g:=gb106) (o:=.cells #[.string (rdOf ByteArray.empty t102 0),u107001,u107002] 50 (0,0)) zbo hg (Kd.R_ne HO_107001.out BK106.out zbl));replace HB:=Aside0.mk (hb);have HO117:=Aside0.mk (ho);clear HO_107001;clear ho hb hg hat;obtain ⟨Ao35,co35,eo35⟩:=Kd.R_slice HO117.out;subst eo35;have hcz36_0:w34.cell? ⟨gb106,0,none⟩=some (.string (rdOf ByteArray.empty t102 0)):=(blk_cell BK106.out 0).trans rfl;have hcz36_1:w34.cell? ⟨gb106,1,none⟩=some (u107001):=(blk_cell BK106.out 1).trans rfl;have hcz36_2:w34.cell? ⟨gb106,2,none⟩=some (u107002):=(blk_cell BK106.out 2).trans rfl;have hfz36_0:=blk_frozen BK106.out 0;have hfz36_1:=blk_frozen BK106.out 1;have hfz36_2:=blk_frozen BK106.out 2)|((with_reducible refine gate_builtin (b:=.append) (xs:=#[.tmp 76,.tmp 78]) rfl ?_);at_builtin;refine Kd.R_append (Kd.int .i64) (w0:=w) w.heap.size rfl (.tmp 76) (.tmp 78) 37 2 (.int .i64 0) 8 rfl Tryz.underlying37 info2 rfl zbl zdb u107002 x107002_1 x11_2 [.int .i64 x11_2] (fun k_=>some k_≠(.slice Ao35 y115.length co35:Value).ownBlock) (fun _=>False) rfl zy ?aP (fun _ hk=>hk.elim) ?aF ?aO ?aB ?aS ?aL ?_;(case aP=>exact rfl);(case aB=>exact zo);(case aF=>exact (fun k_ hk=>Kd.fresh' (Kd.R_lt zcx) k_ hk));(case aO=>exact zcv);(case aS=>exact (below_size zo));(case aL=>have:=LMc31.out;omega);intro v119 w37 ho hb hg hat;rw [←Ny118.out] at ho;have n0_:=Aside0.mk (Kd.R_over' zcy (Kd.R_typed zcw) zbl hg);have n1_:=Aside0.mk (blk_grown (g:=gb101) (o:=.cells #[.string x102000_1,.slice none 0 0,.slice none 0 0] 50 (0,0)) zcg hg (Kd.R_ne HO_107002.out BK101.out zbl));have n2_:=Aside0.mk (blk_grown (g:=gb106) (o:=.cells #[.string (rdOf ByteArray.empty t102 0),.slice Ao35 y115.length co35,u107002] 50 (0,0)) zcj hg (Kd.R_ne HO_107002.out BK106.out zbl));have n3_:=Aside0.mk (Kd.R_after (ok:=(fun _=>True)) zcu hg hat);have n4_:=Aside0.mk (hb);have n5_:=Aside0.mk (ho);clear HO_4;clear BK101;clear BK106;clear HO117;clear HB;clear HO_107002;have HO_4:=n0_;have BK101:=n1_;have BK106:=n2_;have HO117:=n3_;have HB:=n4_;have HO120:=n5_;clear n0_ n1_ n2_ n3_ n4_ n5_;clear ho hb hg hat;obtain ⟨Ao38,co38,eo38⟩:=Kd.R_slice HO120.out;subst eo38;have hcz39_0:w37.cell? ⟨gb106,0,none⟩=some (.string (rdOf ByteArray.empty t102 0)):=(blk_cell BK106.out 0).trans rfl;have hcz39_1:w37.cell? ⟨gb106,1,none⟩=some (.slice Ao35 y115.length co35):=(blk_cell BK106.out 1).trans rfl;have hcz39_2:w37.cell? ⟨gb106,2,none⟩=some (u107002):=(blk_cell BK106.out 2).trans rfl;have hfz39_0:=blk_frozen BK106.out 0;have hfz39_1:=blk_frozen BK106.out 1;have hfz39_2:=blk_frozen BK106.out 2));try go_wp2_with (first|((with_reducible refine gate_builtin (b:=.append) (xs:=#[.tmp 70,.tmp 72]) rfl ?_);at_builtin;refine Kd.R_append (Kd.int .i64) (w0:=w) w.heap.size rfl (.tmp 70) (.tmp 72) 37 2 (.int .i64 0) 8 rfl Tryz.underlying37 info2 rfl zbl zdb u107001 x107001_1 t112 [.int .i64 t112] (fun k_=>some k_≠(u107002:Value).ownBlock) (fun _=>False) rfl rfl ?aP (fun _ hk=>hk.elim) ?aF ?aO ?aB ?aS ?aL ?_;(case aP=>exact rfl);(case aB=>exact zo);(case aF=>exact (fun k_ hk=>Kd.fresh' (Kd.R_lt zde) k_ hk));(case aO=>exact zch);(case aS=>exact (below_size zo));(case aL=>have:=LMc30.out;omega);intro v116 w34 ho hb hg hat;rw [←Ny115.out] at ho;replace HO_4:=Aside0.mk (Kd.R_over' zv (Kd.R_typed zch) zbl hg);replace HO_107002:=Aside0.mk (Kd.R_after (ok:=(fun _=>True)) (by (with_reducible repeat (first|apply Kd.R_alloc|apply Kd.R_drewN|apply Kd.R_drew));exact Kd.R_mono HO_107002.out (fun _ hk=>⟨trivial,hk⟩)) hg hat);replace BK101:=Aside0.mk (blk_grown (g:=gb101) (o:=.cells #[.string x102000_1,.slice none 0 0,.slice none 0 0] 50 (0,0)) zc hg (Kd.R_ne HO_107001.out BK101.out zbl));replace BK106:=Aside0.mk (blk_grown (g:=gb106) (o:=.cells #[.string (rdOf ByteArray.empty t102 0),u107001,u107002] 50 (0,0)) zbo hg (Kd.R_ne HO_107001.out BK106.out zbl));replace HB:=Aside0.mk (hb);have HO117:=Aside0.mk (ho);clear HO_107001;clear ho hb hg hat;obtain ⟨Ao35,co35,eo35⟩:=Kd.R_slice HO117.out;subst eo35;have hcz36_0:w34.cell? ⟨gb106,0,none⟩=some (.string (rdOf ByteArray.empty t102 0)):=(blk_cell BK106.out 0).trans rfl;have hcz36_1:w34.cell? ⟨gb106,1,none⟩=some (u107001):=(blk_cell BK106.out 1).trans rfl;have hcz36_2:w34.cell? ⟨gb106,2,none⟩=some (u107002):=(blk_cell BK106.out 2).trans rfl;have hfz36_0:=blk_frozen BK106.out 0;have hfz36_1:=blk_frozen BK106.out 1;have hfz36_2:=blk_frozen BK106.out 2)|((with_reducible refine gate_builtin (b:=.append) (xs:=#[.tmp 76,.tmp 78]) rfl ?_);at_builtin;refine Kd.R_append (Kd.int .i64) (w0:=w) w.heap.size rfl (.tmp 76) (.tmp 78) 37 2 (.int .i64 0) 8 rfl Tryz.underlying37 info2 rfl zbl zdb u107002 x107002_1 x11_2 [.int .i64 x11_2] (fun k_=>some k_≠(.slice Ao35 y115.length co35:Value).ownBlock) (fun _=>False) rfl zy ?aP (fun _ hk=>hk.elim) ?aF ?aO ?aB ?aS ?aL ?_;(case aP=>exact rfl);(case aB=>exact zo);(case aF=>exact (fun k_ hk=>Kd.fresh' (Kd.R_lt zcx) k_ hk));(case aO=>exact zcv);(case aS=>exact (below_size zo));(case aL=>have:=LMc31.out;omega);intro v119 w37 ho hb hg hat;rw [←Ny118.out] at ho;have n0_:=Aside0.mk (Kd.R_over' zcy (Kd.R_typed zcw) zbl hg);have n1_:=Aside0.mk (blk_grown (g:=gb101) (o:=.cells #[.string x102000_1,.slice none 0 0,.slice none 0 0] 50 (0,0)) zcg hg (Kd.R_ne HO_107002.out BK101.out zbl));have n2_:=Aside0.mk (blk_grown (g:=gb106) (o:=.cells #[.string (rdOf ByteArray.empty t102 0),.slice Ao35 y115.length co35,u107002] 50 (0,0)) zcj hg (Kd.R_ne HO_107002.out BK106.out zbl));have n3_:=Aside0.mk (Kd.R_after (ok:=(fun _=>True)) zcu hg hat);have n4_:=Aside0.mk (hb);have n5_:=Aside0.mk (ho);clear HO_4;clear BK101;clear BK106;clear HO117;clear HB;clear HO_107002;have HO_4:=n0_;have BK101:=n1_;have BK106:=n2_;have HO117:=n3_;have HB:=n4_;have HO120:=n5_;clear n0_ n1_ n2_ n3_ n4_ n5_;clear ho hb hg hat;obtain ⟨Ao38,co38,eo38⟩:=Kd.R_slice HO120.out;subst eo38;have hcz39_0:w37.cell? ⟨gb106,0,none⟩=some (.string (rdOf ByteArray.empty t102 0)):=(blk_cell BK106.out 0).trans rfl;have hcz39_1:w37.cell? ⟨gb106,1,none⟩=some (.slice Ao35 y115.length co35):=(blk_cell BK106.out 1).trans rfl;have hcz39_2:w37.cell? ⟨gb106,2,none⟩=some (u107002):=(blk_cell BK106.out 2).trans rfl;have hfz39_0:=blk_frozen BK106.out 0;have hfz39_1:=blk_frozen BK106.out 1;have hfz39_2:=blk_frozen BK106.out 2)))
               go_roundg k2
               case measure=>have:=HK1.out;have:=HK2.out;omega
               case rel=>exact ⟨(wrap64 (x7_1+1)),(x102000_1),(y115),(y118),(.slice Ao35 y115.length co35),(.slice Ao38 y118.length co38),zg,H',⟨by have:=HK1.out;have:=HK2.out;omega⟩,⟨by (with_reducible repeat (first|apply Kd.R_alloc|apply Kd.R_drewN|apply Kd.R_drew));exact Kd.R_mono (Kd.R_far (p:=⟨gb106,2,none⟩) (Kd.R_types HO_4.out BK106.out zbl) (fun _ hk=>hk.2) (.slice Ao38 y118.length co38)) (fun _ hk=>trivial)⟩,⟨by (with_reducible repeat (first|apply Kd.R_alloc|apply Kd.R_drewN|apply Kd.R_drew));exact Kd.R_mono (Kd.R_far (p:=⟨gb106,2,none⟩) (Kd.R_types HO117.out BK106.out zbl) (fun _ hk=>hk.2) (.slice Ao38 y118.length co38)) (fun _ hk=>hk.1.2)⟩,⟨by (with_reducible repeat (first|apply Kd.R_alloc|apply Kd.R_drewN|apply Kd.R_drew));exact Kd.R_mono (Kd.R_far (p:=⟨gb106,2,none⟩) (Kd.R_types HO120.out BK106.out zbl) (fun _ hk=>hk.2) (.slice Ao38 y118.length co38)) (fun _ hk=>hk.1)⟩,⟨zcg⟩,⟨by (with_reducible repeat (first|refine blk_drewN ?_ _|refine blk_drew ?_|refine blk_alloc ?_ _));refine blk_put (cs:=#[.string (rdOf ByteArray.empty t102 0),.slice Ao35 y115.length co35,u107002]) ?_ 2 _ rfl;(with_reducible repeat (first|refine blk_drewN ?_ _|refine blk_drew ?_|refine blk_alloc ?_ _));exact BK106.out⟩,⟨zo⟩⟩
              ·rw [if_neg c31] at H
               exact absurd H zdd
             ·rw [if_neg c30] at H
              exact absurd H zdd
         ·replace c20:=Bool.eq_false_iff.mpr c20
          subst c20
          have H1:(some ((⟨#[]⟩:ByteArray),([]:List Int),([]:List Int),false))=some (r1,r2,r3,r4):=by rw [if_neg (show ¬ (false=true) by decide)] at H;exact H
          clear H
          have H:=H1
          clear H1
          simp only [Option.some.injEq,Prod.mk.injEq] at H
          obtain ⟨rfl,rfl,rfl,rfl⟩:=H
          have p109:0≤(x7_1:Int):=of_decide_eq_true ze
          have q109:x7_1<(t102.length:Int):=of_decide_eq_true ze
          obtain ⟨ad109,e109,hx109_0⟩:=Kd.at_string (Kd.R_reads' HO_4.out).2.2 x7_1 p109 q109
          obtain rfl:ad105=ad109:=(by injection e109)
          replace p109:=eq_true p109
          replace q109:=eq_true q109
          have p110:0≤(x7_1:Int):=of_decide_eq_true ze
          have q110:x7_1<(t102.length:Int):=of_decide_eq_true ze
          obtain ⟨ad110,e110,hx110_0⟩:=Kd.at_string (Kd.R_reads' HO_4.out).2.2 x7_1 p110 q110
          obtain rfl:ad105=ad110:=(by injection e110)
          replace p110:=eq_true p110
          replace q110:=eq_true q110
          have p111:0≤(x7_1:Int):=of_decide_eq_true ze
          have q111:x7_1<(t102.length:Int):=of_decide_eq_true ze
          obtain ⟨ad111,e111,hx111_0⟩:=Kd.at_string (Kd.R_reads' HO_4.out).2.2 x7_1 p111 q111
          obtain rfl:ad105=ad111:=(by injection e111)
          replace p111:=eq_true p111
          replace q111:=eq_true q111
          go_wp2_with (first|(go_at_call 80;(with_reducible refine (spec_l01Number.calls k1 ((rdOf ByteArray.empty t102 x7_1).extract 0 ((ji16):Int).toNat) t112 false _ A19.out).mono ?_);rintro e w' ⟨rfl,⟨nd,rfl⟩⟩;(try first|exact ⟨rfl,_,World.drewN_drewN _ _ _⟩|exact ⟨rfl,_,Eq.trans (World.drewN_drewN _ _ _) (congrArg (World.drewN _) (Nat.add_assoc _ _ _))⟩);have hnb40:=NB101_106.out;have hnc40:=NB106_101.out;have hcz41_0:wr.cell? ⟨gb101,0,none⟩=some (.string x102000_1):=(blk_cell BK101.out 0).trans rfl;have hcz41_1:wr.cell? ⟨gb101,1,none⟩=some (.slice none 0 0):=(blk_cell BK101.out 1).trans rfl;have hcz41_2:wr.cell? ⟨gb101,2,none⟩=some (.slice none 0 0):=(blk_cell BK101.out 2).trans rfl;have hfz41_0:=blk_frozen BK101.out 0;have hfz41_1:=blk_frozen BK101.out 1;have hfz41_2:=blk_frozen BK101.out 2))
          repeat (go_quiet (first|(go_at_call 80;(with_reducible refine (spec_l01Number.calls k1 ((rdOf ByteArray.empty t102 x7_1).extract 0 ((ji16):Int).toNat) t112 false _ A19.out).mono ?_);rintro e w' ⟨rfl,⟨nd,rfl⟩⟩;(try first|exact ⟨rfl,_,World.drewN_drewN _ _ _⟩|exact ⟨rfl,_,Eq.trans (World.drewN_drewN _ _ _) (congrArg (World.drewN _) (Nat.add_assoc _ _ _))⟩);have hnb40:=NB101_106.out;have hnc40:=NB106_101.out;have hcz41_0:wr.cell? ⟨gb101,0,none⟩=some (.string x102000_1):=(blk_cell BK101.out 0).trans rfl;have hcz41_1:wr.cell? ⟨gb101,1,none⟩=some (.slice none 0 0):=(blk_cell BK101.out 1).trans rfl;have hcz41_2:wr.cell? ⟨gb101,2,none⟩=some (.slice none 0 0):=(blk_cell BK101.out 2).trans rfl;have hfz41_0:=blk_frozen BK101.out 0;have hfz41_1:=blk_frozen BK101.out 1;have hfz41_2:=blk_frozen BK101.out 2));try go_wp2_with (first|(go_at_call 80;(with_reducible refine (spec_l01Number.calls k1 ((rdOf ByteArray.empty t102 x7_1).extract 0 ((ji16):Int).toNat) t112 false _ A19.out).mono ?_);rintro e w' ⟨rfl,⟨nd,rfl⟩⟩;(try first|exact ⟨rfl,_,World.drewN_drewN _ _ _⟩|exact ⟨rfl,_,Eq.trans (World.drewN_drewN _ _ _) (congrArg (World.drewN _) (Nat.add_assoc _ _ _))⟩);have hnb40:=NB101_106.out;have hnc40:=NB106_101.out;have hcz41_0:wr.cell? ⟨gb101,0,none⟩=some (.string x102000_1):=(blk_cell BK101.out 0).trans rfl;have hcz41_1:wr.cell? ⟨gb101,1,none⟩=some (.slice none 0 0):=(blk_cell BK101.out 1).trans rfl;have hcz41_2:wr.cell? ⟨gb101,2,none⟩=some (.slice none 0 0):=(blk_cell BK101.out 2).trans rfl;have hfz41_0:=blk_frozen BK101.out 0;have hfz41_1:=blk_frozen BK101.out 1;have hfz41_2:=blk_frozen BK101.out 2)))
          refine bodyPost_ret (results_ct rfl _ _ gb101 50 #[.string (⟨#[]⟩:ByteArray),.slice none 0 0,.slice none 0 0] (0,0) _ rfl zan Tryz.underlying50 rfl zau) rfl ?_
          exact ⟨_,_,by first|rfl|(simp [errW_none,errW_some]<;>rfl)|(simp only [←hji16];first|rfl|(simp [errW_none,errW_some]<;>rfl))|(simp [*,errW_none,errW_some]<;>rfl),zm,zm,zo⟩
        ·rw [if_neg c18] at H
         exact absurd H zdd
       ·rw [if_neg c17] at H
        exact absurd H zdd
     ·rw [if_neg c12] at H
      exact absurd H zdd
    ·rw [if_neg c11] at H
     have c11b0:decide (x7_1<(t102.length:Int))=false:=decide_eq_false c11
     clear c11
     replace H:=Option.bind_eq_some_iff.mp H
     obtain ⟨t108,A420,H⟩:=H
     replace H:(if t108=true then (some ((rdOf ByteArray.empty t102 0),x107001_1,x107002_1,true)) else (some ((⟨#[]⟩:ByteArray),([]:List Int),([]:List Int),false)))=some (r1,r2,r3,r4):=H
     have A42:=Aside0.mk A420
     clear A420
     by_cases c43:t108=true
     ·subst c43
      have H1:(some ((rdOf ByteArray.empty t102 0),x107001_1,x107002_1,true))=some (r1,r2,r3,r4):=by rw [if_pos rfl] at H;exact H
      clear H
      have H:=H1
      clear H1
      simp only [Option.some.injEq,Prod.mk.injEq] at H
      obtain ⟨rfl,rfl,rfl,rfl⟩:=H
      obtain ⟨Ao47,co47,eo47⟩:=Kd.R_slice HO_107001.out
      subst eo47
      obtain ⟨Ao48,co48,eo48⟩:=Kd.R_slice HO_107002.out
      subst eo48
      go_wp2_with (first|(go_at_call 135;refine calls_of_args (args':=#[.pointer (some ((⟨gb106,0,none⟩:Addr).add ((0:Int).toNat*3)))]) (by first|rfl) ?_;(with_reducible refine (spec_l17Ok_e.calls k1 _ [(⟨(rdOf ByteArray.empty t102 0),x107001_1,x107002_1⟩:S50)] 0 true _ ?side1 ?side2 ?side3 A42.out).mono ?_);(case side1=>exact box_C (ca:=#[.string (rdOf ByteArray.empty t102 0),(.slice Ao47 x107001_1.length co47),(.slice Ao48 x107002_1.length co48)]) (t:=50) zbo rfl _ (k50_mk _ _ (by exact (Kd.R_reads' HO_107001.out).2.1) zbz (by exact (Kd.R_reads' HO_107002.out).2.1) zca));(case side2=>first|(with_reducible assumption)|assumption|decide|exact decide_eq_true zdd|exact decide_eq_true zdb);(case side3=>first|(with_reducible assumption)|assumption|decide|exact decide_eq_true zdd|exact decide_eq_true zdb);rintro e w' ⟨rfl,⟨nd,rfl⟩⟩;(try first|exact ⟨rfl,_,World.drewN_drewN _ _ _⟩|exact ⟨rfl,_,Eq.trans (World.drewN_drewN _ _ _) (congrArg (World.drewN _) (Nat.add_assoc _ _ _))⟩);have hnb44:=NB106_101.out;have hnc44:=NB101_106.out;have hcz45_0:wr.cell? ⟨gb106,0,none⟩=some (.string (rdOf ByteArray.empty t102 0)):=(blk_cell BK106.out 0).trans rfl;have hcz45_1:wr.cell? ⟨gb106,1,none⟩=some ((.slice Ao47 x107001_1.length co47)):=(blk_cell BK106.out 1).trans rfl;have hcz45_2:wr.cell? ⟨gb106,2,none⟩=some ((.slice Ao48 x107002_1.length co48)):=(blk_cell BK106.out 2).trans rfl;have hfz45_0:=blk_frozen BK106.out 0;have hfz45_1:=blk_frozen BK106.out 1;have hfz45_2:=blk_frozen BK106.out 2;have hcz46_0:wr.cell? ⟨gb101,0,none⟩=some (.string x102000_1):=(blk_cell BK101.out 0).trans rfl;have hcz46_1:wr.cell? ⟨gb101,1,none⟩=some (.slice none 0 0):=(blk_cell BK101.out 1).trans rfl;have hcz46_2:wr.cell? ⟨gb101,2,none⟩=some (.slice none 0 0):=(blk_cell BK101.out 2).trans rfl;have hfz46_0:=blk_frozen BK101.out 0;have hfz46_1:=blk_frozen BK101.out 1;have hfz46_2:=blk_frozen BK101.out 2))
      repeat (go_quiet (first|(go_at_call 135;refine calls_of_args (args':=#[.pointer (some ((⟨gb106,0,none⟩:Addr).add ((0:Int).toNat*3)))]) (by first|rfl) ?_;(with_reducible refine (spec_l17Ok_e.calls k1 _ [(⟨(rdOf ByteArray.empty t102 0),x107001_1,x107002_1⟩:S50)] 0 true _ ?side1 ?side2 ?side3 A42.out).mono ?_);(case side1=>exact box_C (ca:=#[.string (rdOf ByteArray.empty t102 0),(.slice Ao47 x107001_1.length co47),(.slice Ao48 x107002_1.length co48)]) (t:=50) zbo rfl _ (k50_mk _ _ (by exact (Kd.R_reads' HO_107001.out).2.1) zbz (by exact (Kd.R_reads' HO_107002.out).2.1) zca));(case side2=>first|(with_reducible assumption)|assumption|decide|exact decide_eq_true zdd|exact decide_eq_true zdb);(case side3=>first|(with_reducible assumption)|assumption|decide|exact decide_eq_true zdd|exact decide_eq_true zdb);rintro e w' ⟨rfl,⟨nd,rfl⟩⟩;(try first|exact ⟨rfl,_,World.drewN_drewN _ _ _⟩|exact ⟨rfl,_,Eq.trans (World.drewN_drewN _ _ _) (congrArg (World.drewN _) (Nat.add_assoc _ _ _))⟩);have hnb44:=NB106_101.out;have hnc44:=NB101_106.out;have hcz45_0:wr.cell? ⟨gb106,0,none⟩=some (.string (rdOf ByteArray.empty t102 0)):=(blk_cell BK106.out 0).trans rfl;have hcz45_1:wr.cell? ⟨gb106,1,none⟩=some ((.slice Ao47 x107001_1.length co47)):=(blk_cell BK106.out 1).trans rfl;have hcz45_2:wr.cell? ⟨gb106,2,none⟩=some ((.slice Ao48 x107002_1.length co48)):=(blk_cell BK106.out 2).trans rfl;have hfz45_0:=blk_frozen BK106.out 0;have hfz45_1:=blk_frozen BK106.out 1;have hfz45_2:=blk_frozen BK106.out 2;have hcz46_0:wr.cell? ⟨gb101,0,none⟩=some (.string x102000_1):=(blk_cell BK101.out 0).trans rfl;have hcz46_1:wr.cell? ⟨gb101,1,none⟩=some (.slice none 0 0):=(blk_cell BK101.out 1).trans rfl;have hcz46_2:wr.cell? ⟨gb101,2,none⟩=some (.slice none 0 0):=(blk_cell BK101.out 2).trans rfl;have hfz46_0:=blk_frozen BK101.out 0;have hfz46_1:=blk_frozen BK101.out 1;have hfz46_2:=blk_frozen BK101.out 2));try go_wp2_with (first|(go_at_call 135;refine calls_of_args (args':=#[.pointer (some ((⟨gb106,0,none⟩:Addr).add ((0:Int).toNat*3)))]) (by first|rfl) ?_;(with_reducible refine (spec_l17Ok_e.calls k1 _ [(⟨(rdOf ByteArray.empty t102 0),x107001_1,x107002_1⟩:S50)] 0 true _ ?side1 ?side2 ?side3 A42.out).mono ?_);(case side1=>exact box_C (ca:=#[.string (rdOf ByteArray.empty t102 0),(.slice Ao47 x107001_1.length co47),(.slice Ao48 x107002_1.length co48)]) (t:=50) zbo rfl _ (k50_mk _ _ (by exact (Kd.R_reads' HO_107001.out).2.1) zbz (by exact (Kd.R_reads' HO_107002.out).2.1) zca));(case side2=>first|(with_reducible assumption)|assumption|decide|exact decide_eq_true zdd|exact decide_eq_true zdb);(case side3=>first|(with_reducible assumption)|assumption|decide|exact decide_eq_true zdd|exact decide_eq_true zdb);rintro e w' ⟨rfl,⟨nd,rfl⟩⟩;(try first|exact ⟨rfl,_,World.drewN_drewN _ _ _⟩|exact ⟨rfl,_,Eq.trans (World.drewN_drewN _ _ _) (congrArg (World.drewN _) (Nat.add_assoc _ _ _))⟩);have hnb44:=NB106_101.out;have hnc44:=NB101_106.out;have hcz45_0:wr.cell? ⟨gb106,0,none⟩=some (.string (rdOf ByteArray.empty t102 0)):=(blk_cell BK106.out 0).trans rfl;have hcz45_1:wr.cell? ⟨gb106,1,none⟩=some ((.slice Ao47 x107001_1.length co47)):=(blk_cell BK106.out 1).trans rfl;have hcz45_2:wr.cell? ⟨gb106,2,none⟩=some ((.slice Ao48 x107002_1.length co48)):=(blk_cell BK106.out 2).trans rfl;have hfz45_0:=blk_frozen BK106.out 0;have hfz45_1:=blk_frozen BK106.out 1;have hfz45_2:=blk_frozen BK106.out 2;have hcz46_0:wr.cell? ⟨gb101,0,none⟩=some (.string x102000_1):=(blk_cell BK101.out 0).trans rfl;have hcz46_1:wr.cell? ⟨gb101,1,none⟩=some (.slice none 0 0):=(blk_cell BK101.out 1).trans rfl;have hcz46_2:wr.cell? ⟨gb101,2,none⟩=some (.slice none 0 0):=(blk_cell BK101.out 2).trans rfl;have hfz46_0:=blk_frozen BK101.out 0;have hfz46_1:=blk_frozen BK101.out 1;have hfz46_2:=blk_frozen BK101.out 2)))
      refine bodyPost_ret (results_ct rfl _ _ gb101 50 #[.string (rdOf ByteArray.empty t102 0),.slice Ao47 x107001_1.length co47,.slice Ao48 x107002_1.length co48] (0,0) _ rfl (by (with_reducible repeat (first|refine blk_drewN ?_ _|refine blk_drew ?_|refine blk_alloc ?_ _));refine blk_put (cs:=#[.string (rdOf ByteArray.empty t102 0),.slice Ao47 x107001_1.length co47,.slice none 0 0]) ?_ 2 _ rfl;(with_reducible repeat (first|refine blk_drewN ?_ _|refine blk_drew ?_|refine blk_alloc ?_ _));refine blk_put (cs:=#[.string (rdOf ByteArray.empty t102 0),.slice none 0 0,.slice none 0 0]) ?_ 1 _ rfl;(with_reducible repeat (first|refine blk_drewN ?_ _|refine blk_drew ?_|refine blk_alloc ?_ _));refine blk_put (cs:=#[.string x102000_1,.slice none 0 0,.slice none 0 0]) ?_ 0 _ rfl;(with_reducible repeat (first|refine blk_drewN ?_ _|refine blk_drew ?_|refine blk_alloc ?_ _));exact BK101.out) Tryz.underlying50 rfl zau) rfl ?_
      exact ⟨_,_,zi,by (with_reducible repeat (first|apply Kd.R_alloc|apply Kd.R_drewN|apply Kd.R_drew));exact Kd.R_mono (Kd.R_far (p:=⟨gb101,2,none⟩) (Kd.R_far (p:=⟨gb101,1,none⟩) (Kd.R_far (p:=⟨gb101,0,none⟩) (Kd.R_types HO_107001.out BK101.out zbl) (fun _ hk=>hk.2) (.string (rdOf ByteArray.empty t102 0))) (fun _ hk=>hk.2) (.slice Ao47 x107001_1.length co47)) (fun _ hk=>hk.2) (.slice Ao48 x107002_1.length co48)) (fun _ hk=>hk.1),by (with_reducible repeat (first|apply Kd.R_alloc|apply Kd.R_drewN|apply Kd.R_drew));exact Kd.R_mono (Kd.R_far (p:=⟨gb101,2,none⟩) (Kd.R_far (p:=⟨gb101,1,none⟩) (Kd.R_far (p:=⟨gb101,0,none⟩) (Kd.R_types HO_107002.out BK101.out zbl) (fun _ hk=>hk.2) (.string (rdOf ByteArray.empty t102 0))) (fun _ hk=>hk.2) (.slice Ao47 x107001_1.length co47)) (fun _ hk=>hk.2) (.slice Ao48 x107002_1.length co48)) (fun _ hk=>hk.1),zo⟩
     ·replace c43:=Bool.eq_false_iff.mpr c43
      subst c43
      have H1:(some ((⟨#[]⟩:ByteArray),([]:List Int),([]:List Int),false))=some (r1,r2,r3,r4):=by rw [if_neg (show ¬ (false=true) by decide)] at H;exact H
      clear H
      have H:=H1
      clear H1
      simp only [Option.some.injEq,Prod.mk.injEq] at H
      obtain ⟨rfl,rfl,rfl,rfl⟩:=H
      obtain ⟨AoM107001,coM107001,eoM107001⟩:=Kd.R_slice HO_107001.out
      subst eoM107001
      obtain ⟨AoM107002,coM107002,eoM107002⟩:=Kd.R_slice HO_107002.out
      subst eoM107002
      go_wp2_with (first|(go_at_call 135;refine calls_of_args (args':=#[.pointer (some ((⟨gb106,0,none⟩:Addr).add ((0:Int).toNat*3)))]) (by first|rfl) ?_;(with_reducible refine (spec_l17Ok_e.calls k1 _ [(⟨(rdOf ByteArray.empty t102 0),x107001_1,x107002_1⟩:S50)] 0 false _ ?side1 ?side2 ?side3 A42.out).mono ?_);(case side1=>exact box_C (ca:=#[.string (rdOf ByteArray.empty t102 0),(.slice AoM107001 x107001_1.length coM107001),(.slice AoM107002 x107002_1.length coM107002)]) (t:=50) zbo rfl _ (k50_mk _ _ (by exact (Kd.R_reads' HO_107001.out).2.1) zbz (by exact (Kd.R_reads' HO_107002.out).2.1) zca));(case side2=>first|(with_reducible assumption)|assumption|decide|exact decide_eq_true zdd|exact decide_eq_true zdb);(case side3=>first|(with_reducible assumption)|assumption|decide|exact decide_eq_true zdd|exact decide_eq_true zdb);rintro e w' ⟨rfl,⟨nd,rfl⟩⟩;(try first|exact ⟨rfl,_,World.drewN_drewN _ _ _⟩|exact ⟨rfl,_,Eq.trans (World.drewN_drewN _ _ _) (congrArg (World.drewN _) (Nat.add_assoc _ _ _))⟩);have hnb49:=NB101_106.out;have hnc49:=NB106_101.out;have hcz50_0:wr.cell? ⟨gb101,0,none⟩=some (.string x102000_1):=(blk_cell BK101.out 0).trans rfl;have hcz50_1:wr.cell? ⟨gb101,1,none⟩=some (.slice none 0 0):=(blk_cell BK101.out 1).trans rfl;have hcz50_2:wr.cell? ⟨gb101,2,none⟩=some (.slice none 0 0):=(blk_cell BK101.out 2).trans rfl;have hfz50_0:=blk_frozen BK101.out 0;have hfz50_1:=blk_frozen BK101.out 1;have hfz50_2:=blk_frozen BK101.out 2))
      repeat (go_quiet (first|(go_at_call 135;refine calls_of_args (args':=#[.pointer (some ((⟨gb106,0,none⟩:Addr).add ((0:Int).toNat*3)))]) (by first|rfl) ?_;(with_reducible refine (spec_l17Ok_e.calls k1 _ [(⟨(rdOf ByteArray.empty t102 0),x107001_1,x107002_1⟩:S50)] 0 false _ ?side1 ?side2 ?side3 A42.out).mono ?_);(case side1=>exact box_C (ca:=#[.string (rdOf ByteArray.empty t102 0),(.slice AoM107001 x107001_1.length coM107001),(.slice AoM107002 x107002_1.length coM107002)]) (t:=50) zbo rfl _ (k50_mk _ _ (by exact (Kd.R_reads' HO_107001.out).2.1) zbz (by exact (Kd.R_reads' HO_107002.out).2.1) zca));(case side2=>first|(with_reducible assumption)|assumption|decide|exact decide_eq_true zdd|exact decide_eq_true zdb);(case side3=>first|(with_reducible assumption)|assumption|decide|exact decide_eq_true zdd|exact decide_eq_true zdb);rintro e w' ⟨rfl,⟨nd,rfl⟩⟩;(try first|exact ⟨rfl,_,World.drewN_drewN _ _ _⟩|exact ⟨rfl,_,Eq.trans (World.drewN_drewN _ _ _) (congrArg (World.drewN _) (Nat.add_assoc _ _ _))⟩);have hnb49:=NB101_106.out;have hnc49:=NB106_101.out;have hcz50_0:wr.cell? ⟨gb101,0,none⟩=some (.string x102000_1):=(blk_cell BK101.out 0).trans rfl;have hcz50_1:wr.cell? ⟨gb101,1,none⟩=some (.slice none 0 0):=(blk_cell BK101.out 1).trans rfl;have hcz50_2:wr.cell? ⟨gb101,2,none⟩=some (.slice none 0 0):=(blk_cell BK101.out 2).trans rfl;have hfz50_0:=blk_frozen BK101.out 0;have hfz50_1:=blk_frozen BK101.out 1;have hfz50_2:=blk_frozen BK101.out 2));try go_wp2_with (first|(go_at_call 135;refine calls_of_args (args':=#[.pointer (some ((⟨gb106,0,none⟩:Addr).add ((0:Int).toNat*3)))]) (by first|rfl) ?_;(with_reducible refine (spec_l17Ok_e.calls k1 _ [(⟨(rdOf ByteArray.empty t102 0),x107001_1,x107002_1⟩:S50)] 0 false _ ?side1 ?side2 ?side3 A42.out).mono ?_);(case side1=>exact box_C (ca:=#[.string (rdOf ByteArray.empty t102 0),(.slice AoM107001 x107001_1.length coM107001),(.slice AoM107002 x107002_1.length coM107002)]) (t:=50) zbo rfl _ (k50_mk _ _ (by exact (Kd.R_reads' HO_107001.out).2.1) zbz (by exact (Kd.R_reads' HO_107002.out).2.1) zca));(case side2=>first|(with_reducible assumption)|assumption|decide|exact decide_eq_true zdd|exact decide_eq_true zdb);(case side3=>first|(with_reducible assumption)|assumption|decide|exact decide_eq_true zdd|exact decide_eq_true zdb);rintro e w' ⟨rfl,⟨nd,rfl⟩⟩;(try first|exact ⟨rfl,_,World.drewN_drewN _ _ _⟩|exact ⟨rfl,_,Eq.trans (World.drewN_drewN _ _ _) (congrArg (World.drewN _) (Nat.add_assoc _ _ _))⟩);have hnb49:=NB101_106.out;have hnc49:=NB106_101.out;have hcz50_0:wr.cell? ⟨gb101,0,none⟩=some (.string x102000_1):=(blk_cell BK101.out 0).trans rfl;have hcz50_1:wr.cell? ⟨gb101,1,none⟩=some (.slice none 0 0):=(blk_cell BK101.out 1).trans rfl;have hcz50_2:wr.cell? ⟨gb101,2,none⟩=some (.slice none 0 0):=(blk_cell BK101.out 2).trans rfl;have hfz50_0:=blk_frozen BK101.out 0;have hfz50_1:=blk_frozen BK101.out 1;have hfz50_2:=blk_frozen BK101.out 2)))
      refine bodyPost_ret (results_ct rfl _ _ gb101 50 #[.string (⟨#[]⟩:ByteArray),.slice none 0 0,.slice none 0 0] (0,0) _ rfl zan Tryz.underlying50 rfl zau) rfl ?_
      exact ⟨_,_,zi,zm,zm,zo⟩
 ·rw [if_neg c3] at H
  exact absurd H zdd

mutual
def spec_l17Draw.j0:Nat→Bool→List Int→Int→Int→ByteArray→List Int→List Int→Option (ByteArray × List Int × List Int × Int × Int)
 | 0,_,_,_,_,_,_,_=>none
 | k+1,x20,x1000,x1001,x1002,x117000,x117001,x117002=>if x20=true then ((spec_l00Src_pick.f x1000 x1001 x1002 8).bind fun bt120=>((spec_l00Src_pick.f x1000 bt120.2.1 bt120.2.2 4).bind fun bt129=>(spec_l17Draw.l0 k bt129.1 x1000 bt129.2.1 bt129.2.2 (⟨#[110,101,119]⟩:ByteArray) (([wrap64 (1+bt120.1)]:List Int)) (([1]:List Int))))) else (some (x117000,x117001,x117002,x1001,x1002))
def spec_l17Draw.l0:Nat→Int→List Int→Int→Int→ByteArray→List Int→List Int→Option (ByteArray × List Int × List Int × Int × Int)
 | 0,_,_,_,_,_,_,_=>none
 | k+1,x6,x1000,x1001,x1002,x117000,x117001,x117002=>if x6 > 0 then ((spec_l00Src_pick.f x1000 x1001 x1002 6).bind fun bt132=>(if x117001.length<17592186044416 then ((spec_l00Src_pick.f x1000 bt132.2.1 bt132.2.2 2).bind fun bt138=>(if x117002.length<17592186044416 then (spec_l17Draw.l0 k (wrap64 (x6 - 1)) x1000 bt138.2.1 bt138.2.2 x117000 (x117001++[wrap64 (1+bt132.1)]) (x117002++[wrap64 (2+bt138.1)])) else (none))) else (none))) else (some (x117000,x117001,x117002,x1001,x1002))
end
def spec_l17Draw.f (k:Nat) (s0_0:List Int) (s0_1:Int) (s0_2:Int):Option (ByteArray × List Int × List Int × Int × Int):=(spec_l00Src_text.f s0_0 s0_1 s0_2 (([(⟨#[116,105,110,116,97,108,32,52,88,32,52,43,32,52,111,32,52,43]⟩:ByteArray),(⟨#[106,104,97,112,116,97,108,32,50,88,32,51,43,32,50,111,32,51,43]⟩:ByteArray),(⟨#[114,117,112,97,107,32,51,88,32,50,43,32,50,43]⟩:ByteArray),(⟨#[101,107,116,97,108,32,50,88,32,50,111,32,50,43,32,50,111,32,50,43,32,50,43]⟩:ByteArray),(⟨#[100,97,100,114,97,32,51,88,32,51,111]⟩:ByteArray),(⟨#[111,110,101,32,49,88]⟩:ByteArray)]:List ByteArray))).bind fun bt105=>((spec_l17Read.f k bt105.1).bind fun bt108=>(if bt108.2.2.2=true then ((spec_l00Src_one.f s0_0 bt105.2.1 bt105.2.2 4).bind fun bt117=>(spec_l17Draw.j0 k bt117.1 s0_0 bt117.2.1 bt117.2.2 bt108.1 bt108.2.1 bt108.2.2.1)) else (spec_l17Draw.j0 k true s0_0 bt105.2.1 bt105.2.2 bt108.1 bt108.2.1 bt108.2.2.1)))
def spec_l17Draw.T8:Bool × List (List Nat × List Nat):=(true,[([],[]),([0],[0]),([],[]),([2],[2]),([3],[3]),([4],[4]),([1,5,3],[1,5]),([0,1,2,3,4,5,6],[]),([7,6,6,0,1,2,3,4,5,6],[6,7])])
def spec_l17Draw.B8:List Nat:=[0,1,0,4,12,28,63,127,255]
theorem spec_l17Draw.tab8:rtab .any (opsOf Tryz.f73 8)=spec_l17Draw.T8:=by kernel_rfl
theorem spec_l17Draw.bits8:waitsOk spec_l17Draw.T8.2 spec_l17Draw.B8=true:=by kernel_rfl
def spec_l17Draw.T9:Bool × List (List Nat × List Nat):=(true,[([],[]),([0],[0]),([],[]),([2],[2]),([3],[3]),([4],[4]),([1,5,3],[1,5]),([0,1,2,3,4,5,6],[]),([7,6,6,0,1,2,3,4,5,6],[6,7])])
def spec_l17Draw.B9:List Nat:=[0,1,0,4,12,28,63,127,255]
theorem spec_l17Draw.tab9:rtab .any (opsOf Tryz.f73 9)=spec_l17Draw.T9:=by kernel_rfl
theorem spec_l17Draw.bits9:waitsOk spec_l17Draw.T9.2 spec_l17Draw.B9=true:=by kernel_rfl
set_option maxHeartbeats 8000000 in
set_option maxRecDepth 100000 in
theorem spec_l17Draw.calls (k:Nat) (g:Nat) (s0_0:List Int) (s0_1:Int) (s0_2:Int) (r1:ByteArray) (r2:List Int) (r3:List Int) (r4:Int) (r5:Int) (w0 w:World) (hI:IsS119 w0 w g s0_0 s0_1 s0_2) (hB:Below w0.heap.size w0 w) (h:spec_l17Draw.f k s0_0 s0_1 s0_2=some (r1,r2,r3,r4,r5)) :
 Calls Tryz.prog 73 #[.pointer (some ⟨g,0,none⟩)] w fun e w'=>∃v1_ v2_:Value,e = .returned (.agg #[.string r1,v1_,v2_])∧Kd.R (Kd.int .i64) 2 w' w.heap.size (fun k_=>some k_≠(v2_:Value).ownBlock) v1_ r2∧Kd.R (Kd.int .i64) 2 w' w.heap.size (fun k_=>some k_≠(v1_:Value).ownBlock) v2_ r3∧IsS119 w0 w' g s0_0 r4 r5∧Below w0.heap.size w0 w'∧KeepBut w w' g none:=by
 have hu50:=Tryz.underlying50
 have HI0:=Aside0.mk hI
 have HK:=Aside0.mk (KeepBut.refl w g none)
 have HL:=Aside0.mk hB.size
 clear hI
 have HW0:=Aside0.mk hB.size
 have HB:=Aside0.mk hB
 clear hB
 have H:((spec_l00Src_text.f s0_0 s0_1 s0_2 (([(⟨#[116,105,110,116,97,108,32,52,88,32,52,43,32,52,111,32,52,43]⟩:ByteArray),(⟨#[106,104,97,112,116,97,108,32,50,88,32,51,43,32,50,111,32,51,43]⟩:ByteArray),(⟨#[114,117,112,97,107,32,51,88,32,50,43,32,50,43]⟩:ByteArray),(⟨#[101,107,116,97,108,32,50,88,32,50,111,32,50,43,32,50,111,32,50,43,32,50,43]⟩:ByteArray),(⟨#[100,97,100,114,97,32,51,88,32,51,111]⟩:ByteArray),(⟨#[111,110,101,32,49,88]⟩:ByteArray)]:List ByteArray))).bind fun bt105=>((spec_l17Read.f k bt105.1).bind fun bt108=>(if bt108.2.2.2=true then ((spec_l00Src_one.f s0_0 bt105.2.1 bt105.2.2 4).bind fun bt117=>(spec_l17Draw.j0 k bt117.1 s0_0 bt117.2.1 bt117.2.2 bt108.1 bt108.2.1 bt108.2.2.1)) else (spec_l17Draw.j0 k true s0_0 bt105.2.1 bt105.2.2 bt108.1 bt108.2.1 bt108.2.2.1))))=some (r1,r2,r3,r4,r5):=h
 clear h
 obtain ⟨y102,hy102⟩:∃y_:List ByteArray,y_=(([(⟨#[116,105,110,116,97,108,32,52,88,32,52,43,32,52,111,32,52,43]⟩:ByteArray),(⟨#[106,104,97,112,116,97,108,32,50,88,32,51,43,32,50,111,32,51,43]⟩:ByteArray),(⟨#[114,117,112,97,107,32,51,88,32,50,43,32,50,43]⟩:ByteArray),(⟨#[101,107,116,97,108,32,50,88,32,50,111,32,50,43,32,50,111,32,50,43,32,50,43]⟩:ByteArray),(⟨#[100,97,100,114,97,32,51,88,32,51,111]⟩:ByteArray),(⟨#[111,110,101,32,49,88]⟩:ByteArray)]:List ByteArray)):=⟨_,rfl⟩
 replace H:((spec_l00Src_text.f s0_0 s0_1 s0_2 y102).bind fun bt105=>((spec_l17Read.f k bt105.1).bind fun bt108=>(if bt108.2.2.2=true then ((spec_l00Src_one.f s0_0 bt105.2.1 bt105.2.2 4).bind fun bt117=>(spec_l17Draw.j0 k bt117.1 s0_0 bt117.2.1 bt117.2.2 bt108.1 bt108.2.1 bt108.2.2.1)) else (spec_l17Draw.j0 k true s0_0 bt105.2.1 bt105.2.2 bt108.1 bt108.2.1 bt108.2.2.1))))=some (r1,r2,r3,r4,r5):=by first|(rw [hy102];with_reducible exact H)|(have H2_:=(Option.bind_some _ _).symm.trans H;rw [hy102];with_reducible exact H2_)|(have H2_:=(Option.bind_some _ _).symm.trans H;with_reducible exact H2_)|with_reducible exact H|(rw [hy102];exact H)|exact H
 have Ny102:=Aside0.mk hy102
 clear hy102
 replace H:=Option.bind_eq_some_iff.mp H
 obtain ⟨⟨t105,t106,t107⟩,A20,H⟩:=H
 replace H:((spec_l17Read.f k t105).bind fun bt108=>(if bt108.2.2.2=true then ((spec_l00Src_one.f s0_0 t106 t107 4).bind fun bt117=>(spec_l17Draw.j0 k bt117.1 s0_0 bt117.2.1 bt117.2.2 bt108.1 bt108.2.1 bt108.2.2.1)) else (spec_l17Draw.j0 k true s0_0 t106 t107 bt108.1 bt108.2.1 bt108.2.2.1)))=some (r1,r2,r3,r4,r5):=H
 have A2:=Aside0.mk A20
 clear A20
 replace H:=Option.bind_eq_some_iff.mp H
 obtain ⟨⟨t108,t109,t112,t115⟩,A30,H⟩:=H
 replace H:(if t115=true then ((spec_l00Src_one.f s0_0 t106 t107 4).bind fun bt117=>(spec_l17Draw.j0 k bt117.1 s0_0 bt117.2.1 bt117.2.2 t108 t109 t112)) else (spec_l17Draw.j0 k true s0_0 t106 t107 t108 t109 t112))=some (r1,r2,r3,r4,r5):=H
 have A3:=Aside0.mk A30
 clear A30
 have HC4:=Aside0.mk H
 clear H
 go_enter Tryz.func73,Tryz.ntmps73
 go_upto_region 3 with (first|((with_reducible refine gate_dst (N:=2) rfl ?_);refine box_event ?hg (N:=2) ?hd (cs:=#[.string (⟨#[]⟩:ByteArray),.slice none 0 0,.slice none 0 0]) (t:=50) ?hr ?_;(case hd=>rfl);(case hg=>rfl);(case hr=>exact zy);intro gb101 hg w5 hbox hb;have n0_:=Aside0.mk (IsS119.below zp hb);have n1_:=Aside0.mk (KeepBut.trans zl (KeepBut.of_below hb g none) (.inl rfl));have n2_:=Aside0.mk (below_step zk hb);have n3_:=Aside0.mk (hbox);have n4_:=Aside0.mk ((by rw [hg];exact (keep_size (w:=w) (g:=g) (row:=none) zl):w.heap.size≤gb101));have n5_:=Aside0.mk ((Nat.le_trans HW0.out (by rw [hg];exact (keep_size (w:=w) (g:=g) (row:=none) zl):w.heap.size≤gb101):w0.heap.size≤gb101));have n6_:=Aside0.mk ((by rw [hg];exact Nat.ne_of_lt (IsS119.lt (show IsS119 w0 _ g s0_0 s0_1 s0_2 from by repeat (first|(with_reducible first|exact HI0.out|apply IsS119.alloc|apply IsS119.drewN|apply IsS119.drew|apply IsS119.set_1|apply IsS119.set_2)|exact HI0.out))):g≠gb101));have n7_:=Aside0.mk ((by rw [hg];exact Nat.ne_of_gt (IsS119.lt (show IsS119 w0 _ g s0_0 s0_1 s0_2 from by repeat (first|(with_reducible first|exact HI0.out|apply IsS119.alloc|apply IsS119.drewN|apply IsS119.drew|apply IsS119.set_1|apply IsS119.set_2)|exact HI0.out))):gb101≠g));clear HI0;clear HK;clear HB;have HI0:=n0_;have HK:=n1_;have HB:=n2_;have BK101:=n3_;have GW101:=n4_;have GE101:=n5_;have NB0_101:=n6_;have NB101_0:=n7_;clear n0_ n1_ n2_ n3_ n4_ n5_ n6_ n7_;clear hb hbox hg)|((with_reducible refine gate_dst (N:=8) rfl ?_);refine Kd.R_lit Kd.string _ 9 ?hg (N:=8) ?hd (xs:=([(⟨#[116,105,110,116,97,108,32,52,88,32,52,43,32,52,111,32,52,43]⟩:ByteArray),(⟨#[106,104,97,112,116,97,108,32,50,88,32,51,43,32,50,111,32,51,43]⟩:ByteArray),(⟨#[114,117,112,97,107,32,51,88,32,50,43,32,50,43]⟩:ByteArray),(⟨#[101,107,116,97,108,32,50,88,32,50,111,32,50,43,32,50,111,32,50,43,32,50,43]⟩:ByteArray),(⟨#[100,97,100,114,97,32,51,88,32,51,111]⟩:ByteArray),(⟨#[111,110,101,32,49,88]⟩:ByteArray)]:List ByteArray)) (inner:=[.string (⟨#[116,105,110,116,97,108,32,52,88,32,52,43,32,52,111,32,52,43]⟩:ByteArray),.string (⟨#[106,104,97,112,116,97,108,32,50,88,32,51,43,32,50,111,32,51,43]⟩:ByteArray),.string (⟨#[114,117,112,97,107,32,51,88,32,50,43,32,50,43]⟩:ByteArray),.string (⟨#[101,107,116,97,108,32,50,88,32,50,111,32,50,43,32,50,111,32,50,43,32,50,43]⟩:ByteArray),.string (⟨#[100,97,100,114,97,32,51,88,32,51,111]⟩:ByteArray),.string (⟨#[111,110,101,32,49,88]⟩:ByteArray)]) (ok:=fun _=>True) (okp:=fun _=>True) ?hr ?hp (fun _ hk=>hk) trivial (Below.refl _ _) (Nat.le_refl _) zdd ?_;(case hd=>rfl);(case hg=>rfl);(case hr=>exact zy);(case hp=>exact (Reps.one (show Kd.M Kd.string _ _ _ (⟨#[116,105,110,116,97,108,32,52,88,32,52,43,32,52,111,32,52,43]⟩:ByteArray) [.string (⟨#[116,105,110,116,97,108,32,52,88,32,52,43,32,52,111,32,52,43]⟩:ByteArray)] from rfl) (Reps.one (show Kd.M Kd.string _ _ _ (⟨#[106,104,97,112,116,97,108,32,50,88,32,51,43,32,50,111,32,51,43]⟩:ByteArray) [.string (⟨#[106,104,97,112,116,97,108,32,50,88,32,51,43,32,50,111,32,51,43]⟩:ByteArray)] from rfl) (Reps.one (show Kd.M Kd.string _ _ _ (⟨#[114,117,112,97,107,32,51,88,32,50,43,32,50,43]⟩:ByteArray) [.string (⟨#[114,117,112,97,107,32,51,88,32,50,43,32,50,43]⟩:ByteArray)] from rfl) (Reps.one (show Kd.M Kd.string _ _ _ (⟨#[101,107,116,97,108,32,50,88,32,50,111,32,50,43,32,50,111,32,50,43,32,50,43]⟩:ByteArray) [.string (⟨#[101,107,116,97,108,32,50,88,32,50,111,32,50,43,32,50,111,32,50,43,32,50,43]⟩:ByteArray)] from rfl) (Reps.one (show Kd.M Kd.string _ _ _ (⟨#[100,97,100,114,97,32,51,88,32,51,111]⟩:ByteArray) [.string (⟨#[100,97,100,114,97,32,51,88,32,51,111]⟩:ByteArray)] from rfl) (Reps.one (show Kd.M Kd.string _ _ _ (⟨#[111,110,101,32,49,88]⟩:ByteArray) [.string (⟨#[111,110,101,32,49,88]⟩:ByteArray)] from rfl) (Reps.none _ _))))))));intro v103 w6 ho7 hb hg_ hnew_;clear hg_ hnew_;(first|rw [←Ny102.out] at ho7|(simp only [Int.reduceToNat] at ho7;rw [←Ny102.out] at ho7));have n0_:=Aside0.mk (Kd.R_lower ho7 (keep_size (w:=w) (g:=g) (row:=none) zbc));have n1_:=Aside0.mk (IsS119.below zcm hb);have n2_:=Aside0.mk (blk_below (g:=gb101) (o:=.cells #[.string (⟨#[]⟩:ByteArray),.slice none 0 0,.slice none 0 0] 50 (0,0)) zc hb);have n3_:=Aside0.mk (KeepBut.trans zbc (KeepBut.of_below hb g none) (.inl rfl));have n4_:=Aside0.mk (below_step zcq hb);clear HI0;clear BK101;clear HK;clear HB;have HO104:=n0_;have HI0:=n1_;have BK101:=n2_;have HK:=n3_;have HB:=n4_;clear n0_ n1_ n2_ n3_ n4_;clear hb ho7;obtain ⟨Ao8,co8,eo8⟩:=Kd.R_slice HO104.out;subst eo8)|((with_reducible refine gate_callee (f:=99) rfl ?_);refine goesL_ (some 9) rfl rfl Tryz.func99 zau rfl #[.pointer (some ⟨g,0,none⟩),.slice Ao8 y102.length co8] rfl zd ?_;(with_reducible refine (spec_l00Src_text.calls g s0_0 s0_1 s0_2 _ _ y102 t105 t106 t107 w0 _ ?side1 ?side2 ?side3 ?side4 ?side5 A2.out).mono ?_);(case side1=>exact zcm);(case side2=>exact zcq);(case side3=>exact zaq);(case side4=>exact zdi);(case side5=>exact far_slice (IsS119.own_ne HI0.out HO104.out zbl));rintro e w9 ⟨rfl,hi,hb,hk⟩;refine ⟨_,rfl,?_⟩;replace BK101:=Aside0.mk (KeepBut.blk hk (g':=gb101) (o:=.cells #[.string (⟨#[]⟩:ByteArray),.slice none 0 0,.slice none 0 0] 50 (0,0)) zc NB101_0.out zdd);replace HO104:=Aside0.mk (Kd.R_mono (Kd.R_keep (IsS119.apart (show IsS119 w0 _ g s0_0 s0_1 s0_2 from by repeat (first|(with_reducible first|exact HI0.out|apply IsS119.alloc|apply IsS119.drewN|apply IsS119.drew|apply IsS119.set_1|apply IsS119.set_2|refine IsS119.far ?_ NB0_101.out _)|exact HI0.out)) zr zbl) hk (fun _ h=>h.2)) (fun _ h=>h.1));replace HK:=Aside0.mk (KeepBut.trans zbc hk (.inl rfl));replace HB:=Aside0.mk (hb);replace HI0:=Aside0.mk (hi);(try clear hb);(try clear hb2);(try clear hk);(try clear hi))|((with_reducible refine gate_callee (f:=109) rfl ?_);refine goesL_ (some 12) rfl rfl Tryz.func109 zau rfl #[.string t105] rfl zd ?_;(with_reducible refine (spec_l17Read.calls k t105 t108 t109 t112 t115 _ A3.out).mono ?_);rintro e w10 ⟨v110,v113,rfl,ho0,ho1,hb⟩;refine ⟨_,rfl,?_⟩;have n0_:=Aside0.mk (Kd.R_below zr hb);have n1_:=Aside0.mk (Kd.R_lower ho0 (keep_size (w:=w) (g:=g) (row:=none) zbc));have n2_:=Aside0.mk (Kd.R_lower ho1 (keep_size (w:=w) (g:=g) (row:=none) zbc));have n3_:=Aside0.mk (IsS119.below zcm hb);have n4_:=Aside0.mk (blk_below (g:=gb101) (o:=.cells #[.string (⟨#[]⟩:ByteArray),.slice none 0 0,.slice none 0 0] 50 (0,0)) zc hb);have n5_:=Aside0.mk (KeepBut.trans zbc (KeepBut.of_below hb g none) (.inl rfl));have n6_:=Aside0.mk (below_step zcq hb);clear HO104;clear HI0;clear BK101;clear HK;clear HB;have HO104:=n0_;have HO111:=n1_;have HO114:=n2_;have HI0:=n3_;have BK101:=n4_;have HK:=n5_;have HB:=n6_;clear n0_ n1_ n2_ n3_ n4_ n5_ n6_;(try clear hb);(try clear hb2);(try clear hk);(try clear hi);(try clear ho0);(try clear ho1))|((with_reducible refine gate_dst (N:=4) rfl ?_);refine box_event ?hg (N:=4) ?hd (cs:=#[.string (⟨#[]⟩:ByteArray),.slice none 0 0,.slice none 0 0]) (t:=50) ?hr ?_;(case hd=>rfl);(case hg=>rfl);(case hr=>exact zy);intro gb116 hg w11 hbox hb;have n0_:=Aside0.mk (Kd.R_below zr hb);have n1_:=Aside0.mk (Kd.R_below zam hb);have n2_:=Aside0.mk (Kd.R_below zdt hb);have n3_:=Aside0.mk (IsS119.below zcm hb);have n4_:=Aside0.mk (blk_below (g:=gb101) (o:=.cells #[.string (⟨#[]⟩:ByteArray),.slice none 0 0,.slice none 0 0] 50 (0,0)) zc hb);have n5_:=Aside0.mk (KeepBut.trans zbc (KeepBut.of_below hb g none) (.inl rfl));have n6_:=Aside0.mk (below_step zcq hb);have n7_:=Aside0.mk (hbox);have n8_:=Aside0.mk ((by rw [hg];exact (keep_size (w:=w) (g:=g) (row:=none) zbc):w.heap.size≤gb116));have n9_:=Aside0.mk ((Nat.le_trans HW0.out (by rw [hg];exact (keep_size (w:=w) (g:=g) (row:=none) zbc):w.heap.size≤gb116):w0.heap.size≤gb116));have n10_:=Aside0.mk ((by rw [hg];exact Nat.ne_of_lt (blk_lt (g:=gb101) (o:=.cells #[.string (⟨#[]⟩:ByteArray),.slice none 0 0,.slice none 0 0] 50 (0,0)) zc):gb101≠gb116));have n11_:=Aside0.mk ((by rw [hg];exact Nat.ne_of_gt (blk_lt (g:=gb101) (o:=.cells #[.string (⟨#[]⟩:ByteArray),.slice none 0 0,.slice none 0 0] 50 (0,0)) zc):gb116≠gb101));have n12_:=Aside0.mk ((by rw [hg];exact Nat.ne_of_lt (IsS119.lt (show IsS119 w0 _ g s0_0 t106 t107 from by repeat (first|(with_reducible first|exact HI0.out|apply IsS119.alloc|apply IsS119.drewN|apply IsS119.drew|apply IsS119.set_1|apply IsS119.set_2|refine IsS119.far ?_ NB0_101.out _)|exact HI0.out))):g≠gb116));have n13_:=Aside0.mk ((by rw [hg];exact Nat.ne_of_gt (IsS119.lt (show IsS119 w0 _ g s0_0 t106 t107 from by repeat (first|(with_reducible first|exact HI0.out|apply IsS119.alloc|apply IsS119.drewN|apply IsS119.drew|apply IsS119.set_1|apply IsS119.set_2|refine IsS119.far ?_ NB0_101.out _)|exact HI0.out))):gb116≠g));clear HO104;clear HO111;clear HO114;clear HI0;clear BK101;clear HK;clear HB;have HO104:=n0_;have HO111:=n1_;have HO114:=n2_;have HI0:=n3_;have BK101:=n4_;have HK:=n5_;have HB:=n6_;have BK116:=n7_;have GW116:=n8_;have GE116:=n9_;have NB101_116:=n10_;have NB116_101:=n11_;have NB0_116:=n12_;have NB116_0:=n13_;clear n0_ n1_ n2_ n3_ n4_ n5_ n6_ n7_ n8_ n9_ n10_ n11_ n12_ n13_;clear hb hbox hg;have hnb12:=NB116_101.out;have hnc12:=NB101_116.out;have hnb13:=NB116_0.out;have hnc13:=NB0_116.out;have hcz14_0:w11.cell? ⟨gb116,0,none⟩=some (.string (⟨#[]⟩:ByteArray)):=(blk_cell BK116.out 0).trans rfl;have hcz14_1:w11.cell? ⟨gb116,1,none⟩=some (.slice none 0 0):=(blk_cell BK116.out 1).trans rfl;have hcz14_2:w11.cell? ⟨gb116,2,none⟩=some (.slice none 0 0):=(blk_cell BK116.out 2).trans rfl;have hfz14_0:=blk_frozen BK116.out 0;have hfz14_1:=blk_frozen BK116.out 1;have hfz14_2:=blk_frozen BK116.out 2;obtain ⟨Ao15,co15,eo15⟩:=Kd.R_slice HO111.out;subst eo15;obtain ⟨Ao16,co16,eo16⟩:=Kd.R_slice HO114.out;subst eo16))
 (try simp only [Act.put,List.setIfInBounds_toArray,List.set_cons_zero,List.set_cons_succ])
 go_cut [20] (fun v20 wc=>∃(kq:Nat) (x20_3:Bool) (x1001_3:Int) (x1002_3:Int),v20 = .bool x20_3∧Aside0 (spec_l17Draw.j0 kq x20_3 s0_0 x1001_3 x1002_3 t108 t109 t112=some (r1,r2,r3,r4,r5))∧Aside0 (kq≤k)∧Aside0 (Kd.R (Kd.int .i64) 2 wc w.heap.size (fun k_=>some k_≠((.slice Ao16 t112.length co16):Value).ownBlock) (.slice Ao15 t109.length co15) t109)∧Aside0 (Kd.R (Kd.int .i64) 2 wc w.heap.size (fun k_=>some k_≠((.slice Ao15 t109.length co15):Value).ownBlock) (.slice Ao16 t112.length co16) t112)∧Aside0 (wc.heap[gb101]?=some (.cells #[.string (⟨#[]⟩:ByteArray),(.slice none 0 0),(.slice none 0 0)] 50 (0,0)))∧Aside0 (wc.heap[gb116]?=some (.cells #[.string t108,(.slice Ao15 t109.length co15),(.slice Ao16 t112.length co16)] 50 (0,0)))∧Aside0 (IsS119 w0 wc g s0_0 x1001_3 x1002_3)∧Aside0 (KeepBut w wc g none)∧Aside0 (Below w0.heap.size w0 wc))
 case first=>
  have H:=HC4.out
  clear HC4
  by_cases c17:t115=true
  ·subst c17
   have H1:((spec_l00Src_one.f s0_0 t106 t107 4).bind fun bt117=>(spec_l17Draw.j0 k bt117.1 s0_0 bt117.2.1 bt117.2.2 t108 t109 t112))=some (r1,r2,r3,r4,r5):=by rw [if_pos rfl] at H;exact H
   clear H
   have H:=H1
   clear H1
   replace H:=Option.bind_eq_some_iff.mp H
   obtain ⟨⟨t117,t118,t119⟩,A180,H⟩:=H
   replace H:(spec_l17Draw.j0 k t117 s0_0 t118 t119 t108 t109 t112)=some (r1,r2,r3,r4,r5):=H
   have A18:=Aside0.mk A180
   clear A180
   have H':=Aside0.mk H
   clear H
   go_wp2_with (first|(go_at_call 59;(with_reducible refine (spec_l00Src_one.calls g s0_0 t106 t107 4 t117 t118 t119 w0 _ ?side1 ?side2 A18.out).mono ?_);(case side1=>exact zq);(case side2=>exact zu);rintro e w19 ⟨rfl,hi,hb,hk⟩;replace BK101:=Aside0.mk (KeepBut.blk hk (g':=gb101) (o:=.cells #[.string (⟨#[]⟩:ByteArray),.slice none 0 0,.slice none 0 0] 50 (0,0)) zbf NB101_0.out zdd);replace HO104:=Aside0.mk (Kd.R_mono (Kd.R_keep (IsS119.apart (show IsS119 w0 _ g s0_0 t106 t107 from by repeat (first|(with_reducible first|exact HI0.out|apply IsS119.alloc|apply IsS119.drewN|apply IsS119.drew|apply IsS119.set_1|apply IsS119.set_2|refine IsS119.far ?_ NB0_101.out _|refine IsS119.far ?_ NB0_116.out _)|exact HI0.out)) (by (with_reducible repeat (first|apply Kd.R_alloc|apply Kd.R_drewN|apply Kd.R_drew));exact (Kd.R_mono (Kd.R_far (p:=⟨gb116,2,none⟩) (Kd.R_far (p:=⟨gb116,1,none⟩) (Kd.R_far (p:=⟨gb116,0,none⟩) (Kd.R_types HO104.out BK116.out zbl) (fun _ hk=>hk.2) (.string t108)) (fun _ hk=>hk.2) (.slice Ao15 t109.length co15)) (fun _ hk=>hk.2) (.slice Ao16 t112.length co16)) (fun _ h_=>h_.1))) zbl) hk (fun _ h=>h.2)) (fun _ h=>h.1));replace HO111:=Aside0.mk (Kd.R_mono (Kd.R_keep (IsS119.apart (show IsS119 w0 _ g s0_0 t106 t107 from by repeat (first|(with_reducible first|exact HI0.out|apply IsS119.alloc|apply IsS119.drewN|apply IsS119.drew|apply IsS119.set_1|apply IsS119.set_2|refine IsS119.far ?_ NB0_101.out _|refine IsS119.far ?_ NB0_116.out _)|exact HI0.out)) (by (with_reducible repeat (first|apply Kd.R_alloc|apply Kd.R_drewN|apply Kd.R_drew));exact (Kd.R_mono (Kd.R_far (p:=⟨gb116,2,none⟩) (Kd.R_far (p:=⟨gb116,1,none⟩) (Kd.R_far (p:=⟨gb116,0,none⟩) (Kd.R_types HO111.out BK116.out zbl) (fun _ hk=>hk.2) (.string t108)) (fun _ hk=>hk.2) (.slice Ao15 t109.length co15)) (fun _ hk=>hk.2) (.slice Ao16 t112.length co16)) (fun _ h_=>h_.1))) zbl) hk (fun _ h=>h.2)) (fun _ h=>h.1));replace HO114:=Aside0.mk (Kd.R_mono (Kd.R_keep (IsS119.apart (show IsS119 w0 _ g s0_0 t106 t107 from by repeat (first|(with_reducible first|exact HI0.out|apply IsS119.alloc|apply IsS119.drewN|apply IsS119.drew|apply IsS119.set_1|apply IsS119.set_2|refine IsS119.far ?_ NB0_101.out _|refine IsS119.far ?_ NB0_116.out _)|exact HI0.out)) (by (with_reducible repeat (first|apply Kd.R_alloc|apply Kd.R_drewN|apply Kd.R_drew));exact (Kd.R_mono (Kd.R_far (p:=⟨gb116,2,none⟩) (Kd.R_far (p:=⟨gb116,1,none⟩) (Kd.R_far (p:=⟨gb116,0,none⟩) (Kd.R_types HO114.out BK116.out zbl) (fun _ hk=>hk.2) (.string t108)) (fun _ hk=>hk.2) (.slice Ao15 t109.length co15)) (fun _ hk=>hk.2) (.slice Ao16 t112.length co16)) (fun _ h_=>h_.1))) zbl) hk (fun _ h=>h.2)) (fun _ h=>h.1));replace BK116:=Aside0.mk (KeepBut.blk hk (g':=gb116) (o:=.cells #[.string t108,.slice Ao15 t109.length co15,.slice Ao16 t112.length co16] 50 (0,0)) (by (with_reducible repeat (first|refine blk_drewN ?_ _|refine blk_drew ?_|refine blk_alloc ?_ _));refine blk_put (cs:=#[.string t108,.slice Ao15 t109.length co15,.slice none 0 0]) ?_ 2 _ rfl;(with_reducible repeat (first|refine blk_drewN ?_ _|refine blk_drew ?_|refine blk_alloc ?_ _));refine blk_put (cs:=#[.string t108,.slice none 0 0,.slice none 0 0]) ?_ 1 _ rfl;(with_reducible repeat (first|refine blk_drewN ?_ _|refine blk_drew ?_|refine blk_alloc ?_ _));refine blk_put (cs:=#[.string (⟨#[]⟩:ByteArray),.slice none 0 0,.slice none 0 0]) ?_ 0 _ rfl;(with_reducible repeat (first|refine blk_drewN ?_ _|refine blk_drew ?_|refine blk_alloc ?_ _));exact BK116.out) NB116_0.out zdd);replace HK:=Aside0.mk (KeepBut.trans zn hk (.inl rfl));replace HB:=Aside0.mk (hb);replace HI0:=Aside0.mk (hi);(try clear hb);(try clear hb2);(try clear hk);(try clear hi)))
   go_meet
   case rel=>exact ⟨_,(t117),(t118),(t119),zg,H',⟨zds⟩,⟨zam⟩,⟨zdt⟩,⟨zc⟩,⟨zcb⟩,⟨zq⟩,⟨zn⟩,⟨zu⟩⟩
  ·replace c17:=Bool.eq_false_iff.mpr c17
   subst c17
   have H1:(spec_l17Draw.j0 k true s0_0 t106 t107 t108 t109 t112)=some (r1,r2,r3,r4,r5):=by rw [if_neg (show ¬ (false=true) by decide)] at H;exact H
   clear H
   have H:=H1
   clear H1
   have H':=Aside0.mk H
   clear H
   go_wp2
   go_meet
   case rel=>exact ⟨_,(true),(t106),(t107),zg,H',⟨zds⟩,⟨by (with_reducible repeat (first|apply Kd.R_alloc|apply Kd.R_drewN|apply Kd.R_drew));exact Kd.R_mono (Kd.R_far (p:=⟨gb116,2,none⟩) (Kd.R_far (p:=⟨gb116,1,none⟩) (Kd.R_far (p:=⟨gb116,0,none⟩) (Kd.R_types HO111.out BK116.out zbl) (fun _ hk=>hk.2) (.string t108)) (fun _ hk=>hk.2) (.slice Ao15 t109.length co15)) (fun _ hk=>hk.2) (.slice Ao16 t112.length co16)) (fun _ hk=>hk.1)⟩,⟨by (with_reducible repeat (first|apply Kd.R_alloc|apply Kd.R_drewN|apply Kd.R_drew));exact Kd.R_mono (Kd.R_far (p:=⟨gb116,2,none⟩) (Kd.R_far (p:=⟨gb116,1,none⟩) (Kd.R_far (p:=⟨gb116,0,none⟩) (Kd.R_types HO114.out BK116.out zbl) (fun _ hk=>hk.2) (.string t108)) (fun _ hk=>hk.2) (.slice Ao15 t109.length co15)) (fun _ hk=>hk.2) (.slice Ao16 t112.length co16)) (fun _ hk=>hk.1)⟩,⟨zbf⟩,⟨by (with_reducible repeat (first|refine blk_drewN ?_ _|refine blk_drew ?_|refine blk_alloc ?_ _));refine blk_put (cs:=#[.string t108,.slice Ao15 t109.length co15,.slice none 0 0]) ?_ 2 _ rfl;(with_reducible repeat (first|refine blk_drewN ?_ _|refine blk_drew ?_|refine blk_alloc ?_ _));refine blk_put (cs:=#[.string t108,.slice none 0 0,.slice none 0 0]) ?_ 1 _ rfl;(with_reducible repeat (first|refine blk_drewN ?_ _|refine blk_drew ?_|refine blk_alloc ?_ _));refine blk_put (cs:=#[.string (⟨#[]⟩:ByteArray),.slice none 0 0,.slice none 0 0]) ?_ 0 _ rfl;(with_reducible repeat (first|refine blk_drewN ?_ _|refine blk_drew ?_|refine blk_alloc ?_ _));exact BK116.out⟩,⟨zq⟩,⟨zn⟩,⟨zu⟩⟩
 case rest=>
  clear HC4
  try clear c1
  try clear p2
  try clear c7
  try clear c9
  try clear c10
  try clear c12
  try clear c13
  try clear c17
  try clear hcz14_0
  try clear hcz14_1
  try clear hcz14_2
  try clear hfz14_0
  try clear hfz14_1
  try clear hfz14_2
  obtain ⟨kq,x20_3,x1001_3,x1002_3,rfl,HA,HJ3,HO_117001,HO_117002,BK101,BK116,HI0,HK,HB⟩:=hcut
  cases kq with
  | zero=>exact absurd HA.out (by simp [spec_l17Draw.j0])
  | succ kj3=>
   have H:=HA.out
   clear HA
   simp only [spec_l17Draw.j0] at H
   by_cases c20:x20_3=true
   ·subst c20
    have H1:((spec_l00Src_pick.f s0_0 x1001_3 x1002_3 8).bind fun bt120=>((spec_l00Src_pick.f s0_0 bt120.2.1 bt120.2.2 4).bind fun bt129=>(spec_l17Draw.l0 kj3 bt129.1 s0_0 bt129.2.1 bt129.2.2 (⟨#[110,101,119]⟩:ByteArray) (([wrap64 (1+bt120.1)]:List Int)) (([1]:List Int)))))=some (r1,r2,r3,r4,r5):=by rw [if_pos rfl] at H;exact H
    clear H
    have H:=H1
    clear H1
    replace H:=Option.bind_eq_some_iff.mp H
    obtain ⟨⟨t120,t121,t122⟩,A210,H⟩:=H
    replace H:((spec_l00Src_pick.f s0_0 t121 t122 4).bind fun bt129=>(spec_l17Draw.l0 kj3 bt129.1 s0_0 bt129.2.1 bt129.2.2 (⟨#[110,101,119]⟩:ByteArray) (([wrap64 (1+t120)]:List Int)) (([1]:List Int))))=some (r1,r2,r3,r4,r5):=H
    have A21:=Aside0.mk A210
    clear A210
    obtain ⟨y123,hy123⟩:∃y_:List Int,y_=(([wrap64 (1+t120)]:List Int)):=⟨_,rfl⟩
    replace H:((spec_l00Src_pick.f s0_0 t121 t122 4).bind fun bt129=>(spec_l17Draw.l0 kj3 bt129.1 s0_0 bt129.2.1 bt129.2.2 (⟨#[110,101,119]⟩:ByteArray) y123 (([1]:List Int))))=some (r1,r2,r3,r4,r5):=by first|(rw [hy123];with_reducible exact H)|(have H2_:=(Option.bind_some _ _).symm.trans H;rw [hy123];with_reducible exact H2_)|(have H2_:=(Option.bind_some _ _).symm.trans H;with_reducible exact H2_)|with_reducible exact H|(rw [hy123];exact H)|exact H
    have Ny123:=Aside0.mk hy123
    clear hy123
    obtain ⟨y126,hy126⟩:∃y_:List Int,y_=(([1]:List Int)):=⟨_,rfl⟩
    replace H:((spec_l00Src_pick.f s0_0 t121 t122 4).bind fun bt129=>(spec_l17Draw.l0 kj3 bt129.1 s0_0 bt129.2.1 bt129.2.2 (⟨#[110,101,119]⟩:ByteArray) y123 y126))=some (r1,r2,r3,r4,r5):=by first|(rw [hy126];with_reducible exact H)|(have H2_:=(Option.bind_some _ _).symm.trans H;rw [hy126];with_reducible exact H2_)|(have H2_:=(Option.bind_some _ _).symm.trans H;with_reducible exact H2_)|with_reducible exact H|(rw [hy126];exact H)|exact H
    have Ny126:=Aside0.mk hy126
    clear hy126
    replace H:=Option.bind_eq_some_iff.mp H
    obtain ⟨⟨t129,t130,t131⟩,A220,H⟩:=H
    replace H:(spec_l17Draw.l0 kj3 t129 s0_0 t130 t131 (⟨#[110,101,119]⟩:ByteArray) y123 y126)=some (r1,r2,r3,r4,r5):=H
    have A22:=Aside0.mk A220
    clear A220
    have H':=Aside0.mk H
    clear H
    go_wp2_with (first|((with_reducible refine gate_callee (f:=57) rfl ?_);refine goesL_ (some 22) rfl rfl Tryz.func57 zau rfl #[.pointer (some ⟨g,0,none⟩),.int .i64 8] rfl zd ?_;(with_reducible refine (spec_l00Src_pick.calls g s0_0 x1001_3 x1002_3 8 t120 t121 t122 w0 _ ?side1 ?side2 A21.out).mono ?_);(case side1=>exact zq);(case side2=>exact zu);rintro e w23 ⟨rfl,hi,hb,hk⟩;refine ⟨_,rfl,?_⟩;replace HO_117001:=Aside0.mk (Kd.R_mono (Kd.R_keep (IsS119.apart (show IsS119 w0 _ g s0_0 x1001_3 x1002_3 from by repeat (first|(with_reducible first|exact HI0.out|apply IsS119.alloc|apply IsS119.drewN|apply IsS119.drew|apply IsS119.set_1|apply IsS119.set_2|refine IsS119.far ?_ NB0_101.out _|refine IsS119.far ?_ NB0_116.out _)|exact HI0.out)) zcz zbl) hk (fun _ h=>h.2)) (fun _ h=>h.1));replace HO_117002:=Aside0.mk (Kd.R_mono (Kd.R_keep (IsS119.apart (show IsS119 w0 _ g s0_0 x1001_3 x1002_3 from by repeat (first|(with_reducible first|exact HI0.out|apply IsS119.alloc|apply IsS119.drewN|apply IsS119.drew|apply IsS119.set_1|apply IsS119.set_2|refine IsS119.far ?_ NB0_101.out _|refine IsS119.far ?_ NB0_116.out _)|exact HI0.out)) zci zbl) hk (fun _ h=>h.2)) (fun _ h=>h.1));replace BK101:=Aside0.mk (KeepBut.blk hk (g':=gb101) (o:=.cells #[.string (⟨#[]⟩:ByteArray),.slice none 0 0,.slice none 0 0] 50 (0,0)) zc NB101_0.out zdd);replace BK116:=Aside0.mk (KeepBut.blk hk (g':=gb116) (o:=.cells #[.string t108,.slice Ao15 t109.length co15,.slice Ao16 t112.length co16] 50 (0,0)) zcb NB116_0.out zdd);replace HK:=Aside0.mk (KeepBut.trans zn hk (.inl rfl));replace HB:=Aside0.mk (hb);replace HI0:=Aside0.mk (hi);(try clear hb);(try clear hb2);(try clear hk);(try clear hi))|((with_reducible refine gate_dst (N:=24) rfl ?_);refine Kd.R_lit (Kd.int .i64) _ 2 ?hg (N:=24) ?hd (xs:=([wrap64 (1+t120)]:List Int)) (inner:=[.int .i64 (wrap64 (1+t120))]) (ok:=fun _=>True) (okp:=fun _=>True) ?hr ?hp (fun _ hk=>hk) trivial (Below.refl _ _) (Nat.le_refl _) zdd ?_;(case hd=>rfl);(case hg=>rfl);(case hr=>exact zy);(case hp=>exact (Reps.one (show Kd.M (Kd.int .i64) _ _ _ (wrap64 (1+t120)) [.int .i64 (wrap64 (1+t120))] from rfl) (Reps.none _ _)));intro v124 w24 ho25 hb hg_ hnew_;clear hg_ hnew_;(first|rw [←Ny123.out] at ho25|(simp only [Int.reduceToNat] at ho25;rw [←Ny123.out] at ho25));have n0_:=Aside0.mk (Kd.R_elder' zcz (Kd.R_base ho25) hb);have n1_:=Aside0.mk (Kd.R_elder' zci (Kd.R_base ho25) hb);have n2_:=Aside0.mk (Kd.R_lower (Kd.R_new' (Kd.R_new' ho25 (Kd.R_lt zcz)) (Kd.R_lt zci)) (keep_size (w:=w) (g:=g) (row:=none) zn));have n3_:=Aside0.mk (blk_below (g:=gb101) (o:=.cells #[.string (⟨#[]⟩:ByteArray),.slice none 0 0,.slice none 0 0] 50 (0,0)) zc hb);have n4_:=Aside0.mk (blk_below (g:=gb116) (o:=.cells #[.string t108,.slice Ao15 t109.length co15,.slice Ao16 t112.length co16] 50 (0,0)) zcb hb);have n5_:=Aside0.mk (IsS119.below zq hb);have n6_:=Aside0.mk (KeepBut.trans zn (KeepBut.of_below hb g none) (.inl rfl));have n7_:=Aside0.mk (below_step zu hb);clear HO_117001;clear HO_117002;clear BK101;clear BK116;clear HI0;clear HK;clear HB;have HO_117001:=n0_;have HO_117002:=n1_;have HO125:=n2_;have BK101:=n3_;have BK116:=n4_;have HI0:=n5_;have HK:=n6_;have HB:=n7_;clear n0_ n1_ n2_ n3_ n4_ n5_ n6_ n7_;clear hb ho25)|((with_reducible refine gate_dst (N:=25) rfl ?_);refine Kd.R_lit (Kd.int .i64) _ 2 ?hg (N:=25) ?hd (xs:=([1]:List Int)) (inner:=[.int .i64 1]) (ok:=fun _=>True) (okp:=fun _=>True) ?hr ?hp (fun _ hk=>hk) trivial (Below.refl _ _) (Nat.le_refl _) zdd ?_;(case hd=>rfl);(case hg=>rfl);(case hr=>exact zy);(case hp=>exact (Reps.one (show Kd.M (Kd.int .i64) _ _ _ 1 [.int .i64 1] from rfl) (Reps.none _ _)));intro v127 w26 ho27 hb hg_ hnew_;clear hg_ hnew_;(first|rw [←Ny126.out] at ho27|(simp only [Int.reduceToNat] at ho27;rw [←Ny126.out] at ho27));have n0_:=Aside0.mk (Kd.R_elder' zcz (Kd.R_base ho27) hb);have n1_:=Aside0.mk (Kd.R_elder' zci (Kd.R_base ho27) hb);have n2_:=Aside0.mk (Kd.R_elder' (by (with_reducible repeat (first|apply Kd.R_alloc|apply Kd.R_drewN|apply Kd.R_drew));exact HO125.out) (Kd.R_base ho27) hb);have n3_:=Aside0.mk (Kd.R_lower (Kd.R_new' (Kd.R_new' (Kd.R_new' ho27 (Kd.R_lt zcz)) (Kd.R_lt zci)) (Kd.R_lt (by (with_reducible repeat (first|apply Kd.R_alloc|apply Kd.R_drewN|apply Kd.R_drew));exact HO125.out))) (keep_size (w:=w) (g:=g) (row:=none) zn));have n4_:=Aside0.mk (blk_below (g:=gb101) (o:=.cells #[.string (⟨#[]⟩:ByteArray),.slice none 0 0,.slice none 0 0] 50 (0,0)) zc hb);have n5_:=Aside0.mk (blk_below (g:=gb116) (o:=.cells #[.string t108,.slice Ao15 t109.length co15,.slice Ao16 t112.length co16] 50 (0,0)) zcb hb);have n6_:=Aside0.mk (IsS119.below zq hb);have n7_:=Aside0.mk (KeepBut.trans zn (KeepBut.of_below hb g none) (.inl rfl));have n8_:=Aside0.mk (below_step zu hb);clear HO_117001;clear HO_117002;clear HO125;clear BK101;clear BK116;clear HI0;clear HK;clear HB;have HO_117001:=n0_;have HO_117002:=n1_;have HO125:=n2_;have HO128:=n3_;have BK101:=n4_;have BK116:=n5_;have HI0:=n6_;have HK:=n7_;have HB:=n8_;clear n0_ n1_ n2_ n3_ n4_ n5_ n6_ n7_ n8_;clear hb ho27;obtain ⟨Ao28,co28,eo28⟩:=Kd.R_slice HO128.out;subst eo28;obtain ⟨Ao29,co29,eo29⟩:=Kd.R_slice HO125.out;subst eo29;have hnb30:=NB116_101.out;have hnc30:=NB101_116.out;have hnb31:=NB116_0.out;have hnc31:=NB0_116.out;have hcz32_0:w26.cell? ⟨gb116,0,none⟩=some (.string t108):=(blk_cell BK116.out 0).trans rfl;have hcz32_1:w26.cell? ⟨gb116,1,none⟩=some (.slice Ao15 t109.length co15):=(blk_cell BK116.out 1).trans rfl;have hcz32_2:w26.cell? ⟨gb116,2,none⟩=some (.slice Ao16 t112.length co16):=(blk_cell BK116.out 2).trans rfl;have hfz32_0:=blk_frozen BK116.out 0;have hfz32_1:=blk_frozen BK116.out 1;have hfz32_2:=blk_frozen BK116.out 2)|((with_reducible refine gate_callee (f:=57) rfl ?_);refine goesL_ (some 28) rfl rfl Tryz.func57 zau rfl #[.pointer (some ⟨g,0,none⟩),.int .i64 4] rfl zd ?_;(with_reducible refine (spec_l00Src_pick.calls g s0_0 t121 t122 4 t129 t130 t131 w0 _ ?side1 ?side2 A22.out).mono ?_);(case side1=>exact zq);(case side2=>exact zu);rintro e w33 ⟨rfl,hi,hb,hk⟩;refine ⟨_,rfl,?_⟩;have n0_:=Aside0.mk (Kd.R_mono (Kd.R_keep (IsS119.apart (show IsS119 w0 _ g s0_0 t121 t122 from by repeat (first|(with_reducible first|exact HI0.out|apply IsS119.alloc|apply IsS119.drewN|apply IsS119.drew|apply IsS119.set_1|apply IsS119.set_2|refine IsS119.far ?_ NB0_101.out _|refine IsS119.far ?_ NB0_116.out _)|exact HI0.out)) (by (with_reducible repeat (first|apply Kd.R_alloc|apply Kd.R_drewN|apply Kd.R_drew));exact (Kd.R_mono (Kd.R_far (p:=⟨gb116,2,none⟩) (Kd.R_far (p:=⟨gb116,1,none⟩) (Kd.R_far (p:=⟨gb116,0,none⟩) (Kd.R_types HO_117001.out BK116.out zbl) (fun _ hk=>hk.2) (.string (⟨#[110,101,119]⟩:ByteArray))) (fun _ hk=>hk.2) (.slice Ao29 y123.length co29)) (fun _ hk=>hk.2) (.slice Ao28 y126.length co28)) (fun _ h_=>h_.1))) zbl) hk (fun _ h=>h.2)) (fun _ h=>h.1));have n1_:=Aside0.mk (Kd.R_mono (Kd.R_keep (IsS119.apart (show IsS119 w0 _ g s0_0 t121 t122 from by repeat (first|(with_reducible first|exact HI0.out|apply IsS119.alloc|apply IsS119.drewN|apply IsS119.drew|apply IsS119.set_1|apply IsS119.set_2|refine IsS119.far ?_ NB0_101.out _|refine IsS119.far ?_ NB0_116.out _)|exact HI0.out)) (by (with_reducible repeat (first|apply Kd.R_alloc|apply Kd.R_drewN|apply Kd.R_drew));exact (Kd.R_mono (Kd.R_far (p:=⟨gb116,2,none⟩) (Kd.R_far (p:=⟨gb116,1,none⟩) (Kd.R_far (p:=⟨gb116,0,none⟩) (Kd.R_types HO_117002.out BK116.out zbl) (fun _ hk=>hk.2) (.string (⟨#[110,101,119]⟩:ByteArray))) (fun _ hk=>hk.2) (.slice Ao29 y123.length co29)) (fun _ hk=>hk.2) (.slice Ao28 y126.length co28)) (fun _ h_=>h_.1))) zbl) hk (fun _ h=>h.2)) (fun _ h=>h.1));have n2_:=Aside0.mk (KeepBut.blk hk (g':=gb101) (o:=.cells #[.string (⟨#[]⟩:ByteArray),.slice none 0 0,.slice none 0 0] 50 (0,0)) zbf NB101_0.out zdd);have n3_:=Aside0.mk (KeepBut.blk hk (g':=gb116) (o:=.cells #[.string (⟨#[110,101,119]⟩:ByteArray),.slice Ao29 y123.length co29,.slice Ao28 y126.length co28] 50 (0,0)) (by (with_reducible repeat (first|refine blk_drewN ?_ _|refine blk_drew ?_|refine blk_alloc ?_ _));refine blk_put (cs:=#[.string (⟨#[110,101,119]⟩:ByteArray),.slice Ao29 y123.length co29,.slice Ao16 t112.length co16]) ?_ 2 _ rfl;(with_reducible repeat (first|refine blk_drewN ?_ _|refine blk_drew ?_|refine blk_alloc ?_ _));refine blk_put (cs:=#[.string (⟨#[110,101,119]⟩:ByteArray),.slice Ao15 t109.length co15,.slice Ao16 t112.length co16]) ?_ 1 _ rfl;(with_reducible repeat (first|refine blk_drewN ?_ _|refine blk_drew ?_|refine blk_alloc ?_ _));refine blk_put (cs:=#[.string t108,.slice Ao15 t109.length co15,.slice Ao16 t112.length co16]) ?_ 0 _ rfl;(with_reducible repeat (first|refine blk_drewN ?_ _|refine blk_drew ?_|refine blk_alloc ?_ _));exact BK116.out) NB116_0.out zdd);have n4_:=Aside0.mk (Kd.R_mono (Kd.R_keep (IsS119.apart (show IsS119 w0 _ g s0_0 t121 t122 from by repeat (first|(with_reducible first|exact HI0.out|apply IsS119.alloc|apply IsS119.drewN|apply IsS119.drew|apply IsS119.set_1|apply IsS119.set_2|refine IsS119.far ?_ NB0_101.out _|refine IsS119.far ?_ NB0_116.out _)|exact HI0.out)) (by (with_reducible repeat (first|apply Kd.R_alloc|apply Kd.R_drewN|apply Kd.R_drew));exact (Kd.R_mono (Kd.R_far (p:=⟨gb116,2,none⟩) (Kd.R_far (p:=⟨gb116,1,none⟩) (Kd.R_far (p:=⟨gb116,0,none⟩) (Kd.R_types HO125.out BK116.out zbl) (fun _ hk=>hk.2) (.string (⟨#[110,101,119]⟩:ByteArray))) (fun _ hk=>hk.2) (.slice Ao29 y123.length co29)) (fun _ hk=>hk.2) (.slice Ao28 y126.length co28)) (fun _ h_=>h_.1))) zbl) hk (fun _ h=>h.2)) (fun _ h=>h.1));have n5_:=Aside0.mk (Kd.R_mono (Kd.R_keep (IsS119.apart (show IsS119 w0 _ g s0_0 t121 t122 from by repeat (first|(with_reducible first|exact HI0.out|apply IsS119.alloc|apply IsS119.drewN|apply IsS119.drew|apply IsS119.set_1|apply IsS119.set_2|refine IsS119.far ?_ NB0_101.out _|refine IsS119.far ?_ NB0_116.out _)|exact HI0.out)) (by (with_reducible repeat (first|apply Kd.R_alloc|apply Kd.R_drewN|apply Kd.R_drew));exact (Kd.R_mono (Kd.R_far (p:=⟨gb116,2,none⟩) (Kd.R_far (p:=⟨gb116,1,none⟩) (Kd.R_far (p:=⟨gb116,0,none⟩) (Kd.R_types HO128.out BK116.out zbl) (fun _ hk=>hk.2) (.string (⟨#[110,101,119]⟩:ByteArray))) (fun _ hk=>hk.2) (.slice Ao29 y123.length co29)) (fun _ hk=>hk.2) (.slice Ao28 y126.length co28)) (fun _ h_=>h_.1))) zbl) hk (fun _ h=>h.2)) (fun _ h=>h.1));have n6_:=Aside0.mk (KeepBut.trans zn hk (.inl rfl));have n7_:=Aside0.mk (hb);have n8_:=Aside0.mk (hi);clear HO_117001;clear HO_117002;clear BK101;clear BK116;clear HO125;clear HO128;clear HK;clear HB;clear HI0;have HO_117001:=n0_;have HO_117002:=n1_;have BK101:=n2_;have BK116:=n3_;have HO125:=n4_;have HO128:=n5_;have HK:=n6_;have HB:=n7_;have HI0:=n8_;clear n0_ n1_ n2_ n3_ n4_ n5_ n6_ n7_ n8_;(try clear hb);(try clear hb2);(try clear hk);(try clear hi)))
    go_loopg [6] kj3 (fun kq v6 w'=>∃(x6_2:Int) (x1001_2:Int) (x1002_2:Int) (x117001_2:List Int) (x117002_2:List Int) (u117001:Value) (u117002:Value),v6 = .int .i64 x6_2∧Aside0 (spec_l17Draw.l0 kq x6_2 s0_0 x1001_2 x1002_2 (⟨#[110,101,119]⟩:ByteArray) x117001_2 x117002_2=some (r1,r2,r3,r4,r5))∧Aside0 (kq≤kj3)∧Aside0 (Kd.R (Kd.int .i64) 2 w' w.heap.size (fun k_=>some k_≠(u117002:Value).ownBlock) u117001 x117001_2)∧Aside0 (Kd.R (Kd.int .i64) 2 w' w.heap.size (fun k_=>some k_≠(u117001:Value).ownBlock) u117002 x117002_2)∧Aside0 (w'.heap[gb101]?=some (.cells #[.string (⟨#[]⟩:ByteArray),(.slice none 0 0),(.slice none 0 0)] 50 (0,0)))∧Aside0 (w'.heap[gb116]?=some (.cells #[.string (⟨#[110,101,119]⟩:ByteArray),u117001,u117002] 50 (0,0)))∧Aside0 (IsS119 w0 w' g s0_0 x1001_2 x1002_2)∧Aside0 (KeepBut w w' g none)∧Aside0 (Below w0.heap.size w0 w'))
    case atStart=>exact ⟨(t129),(t130),(t131),(y123),(y126),(.slice Ao29 y123.length co29),(.slice Ao28 y126.length co28),zg,H',⟨Nat.le_refl _⟩,⟨by (with_reducible repeat (first|apply Kd.R_alloc|apply Kd.R_drewN|apply Kd.R_drew));exact Kd.R_mono HO125.out (fun _ hk=>hk.2)⟩,⟨by (with_reducible repeat (first|apply Kd.R_alloc|apply Kd.R_drewN|apply Kd.R_drew));exact Kd.R_mono HO128.out (fun _ hk=>hk.2)⟩,⟨zc⟩,⟨zcb⟩,⟨zq⟩,⟨zn⟩,⟨zu⟩⟩
    case round=>
     clear H'
     try clear c1
     try clear c2
     try clear p2
     try clear c3
     try clear c5
     try clear p6
     try clear c7
     try clear c9
     try clear c10
     try clear c12
     try clear c13
     try clear c17
     try clear c20
     try clear c30
     try clear c31
     try clear hcz14_0
     try clear hcz14_1
     try clear hcz14_2
     try clear hcz32_0
     try clear hcz32_1
     try clear hcz32_2
     try clear hfz14_0
     try clear hfz14_1
     try clear hfz14_2
     try clear hfz32_0
     try clear hfz32_1
     try clear hfz32_2
     try clear p2
     obtain ⟨x6_2,x1001_2,x1002_2,x117001_2,x117002_2,u117001,u117002,rfl,HA,HK2,HO_117001,HO_117002,BK101,BK116,HI0,HK,HB⟩:=hrel
     cases gk with
     | zero=>exact absurd HA.out (by simp [spec_l17Draw.l0])
     | succ k2=>
      have H:=HA.out
      clear HA
      simp only [spec_l17Draw.l0] at H
      by_cases c34:x6_2 > 0
      ·rw [if_pos c34] at H
       have c34b0:decide (0<x6_2)=true:=decide_eq_true c34
       clear c34
       replace H:=Option.bind_eq_some_iff.mp H
       obtain ⟨⟨t132,t133,t134⟩,A350,H⟩:=H
       replace H:(if x117001_2.length<17592186044416 then ((spec_l00Src_pick.f s0_0 t133 t134 2).bind fun bt138=>(if x117002_2.length<17592186044416 then (spec_l17Draw.l0 k2 (wrap64 (x6_2 - 1)) s0_0 bt138.2.1 bt138.2.2 (⟨#[110,101,119]⟩:ByteArray) (x117001_2++[wrap64 (1+t132)]) (x117002_2++[wrap64 (2+bt138.1)])) else (none))) else (none))=some (r1,r2,r3,r4,r5):=H
       have A35:=Aside0.mk A350
       clear A350
       by_cases c36:x117001_2.length<17592186044416
       ·rw [if_pos c36] at H
        have LMc36:=Aside0.mk c36
        clear c36
        obtain ⟨y135,hy135⟩:∃y_:List Int,y_=(x117001_2++[wrap64 (1+t132)]):=⟨_,rfl⟩
        replace H:((spec_l00Src_pick.f s0_0 t133 t134 2).bind fun bt138=>(if x117002_2.length<17592186044416 then (spec_l17Draw.l0 k2 (wrap64 (x6_2 - 1)) s0_0 bt138.2.1 bt138.2.2 (⟨#[110,101,119]⟩:ByteArray) y135 (x117002_2++[wrap64 (2+bt138.1)])) else (none)))=some (r1,r2,r3,r4,r5):=by first|(rw [hy135];with_reducible exact H)|(have H2_:=(Option.bind_some _ _).symm.trans H;rw [hy135];with_reducible exact H2_)|(have H2_:=(Option.bind_some _ _).symm.trans H;with_reducible exact H2_)|with_reducible exact H|(rw [hy135];exact H)|exact H
        have Ny135:=Aside0.mk hy135
        clear hy135
        replace H:=Option.bind_eq_some_iff.mp H
        obtain ⟨⟨t138,t139,t140⟩,A370,H⟩:=H
        replace H:(if x117002_2.length<17592186044416 then (spec_l17Draw.l0 k2 (wrap64 (x6_2 - 1)) s0_0 t139 t140 (⟨#[110,101,119]⟩:ByteArray) y135 (x117002_2++[wrap64 (2+t138)])) else (none))=some (r1,r2,r3,r4,r5):=H
        have A37:=Aside0.mk A370
        clear A370
        by_cases c38:x117002_2.length<17592186044416
        ·rw [if_pos c38] at H
         have LMc38:=Aside0.mk c38
         clear c38
         obtain ⟨y141,hy141⟩:∃y_:List Int,y_=(x117002_2++[wrap64 (2+t138)]):=⟨_,rfl⟩
         replace H:(spec_l17Draw.l0 k2 (wrap64 (x6_2 - 1)) s0_0 t139 t140 (⟨#[110,101,119]⟩:ByteArray) y135 y141)=some (r1,r2,r3,r4,r5):=by first|(rw [hy141];with_reducible exact H)|(have H2_:=(Option.bind_some _ _).symm.trans H;rw [hy141];with_reducible exact H2_)|(have H2_:=(Option.bind_some _ _).symm.trans H;with_reducible exact H2_)|with_reducible exact H|(rw [hy141];exact H)|exact H
         have Ny141:=Aside0.mk hy141
         clear hy141
         have H':=Aside0.mk H
         clear H
         try go_wp2
         replace HO_117001:=Aside0.mk (Kd.R_drew HO_117001.out)
         replace HO_117002:=Aside0.mk (Kd.R_drew HO_117002.out)
         replace BK101:=Aside0.mk (blk_drew BK101.out)
         replace BK116:=Aside0.mk (blk_drew BK116.out)
         replace HI0:=Aside0.mk (IsS119.drew HI0.out)
         replace HK:=Aside0.mk (keep_drew HK.out)
         replace HB:=Aside0.mk (below_drew1 HB.out)
         refine start_ (n:=9) (S:=fun w'=>w'.cell? ⟨gb116,0,none⟩=some (.string (⟨#[110,101,119]⟩:ByteArray))∧w'.cell? ⟨gb116,1,none⟩=some (u117001)∧w'.cell? ⟨gb116,2,none⟩=some (u117002)) (ds:=[8]) #[false,false,false,false,false,false,false,false,false] zau rfl rfl ⟨(blk_cell BK116.out 0).trans rfl,(blk_cell BK116.out 1).trans rfl,(blk_cell BK116.out 2).trans rfl⟩ (fun hHeld=>?_);refine with_tabW spec_l17Draw.tab8 spec_l17Draw.bits8 (fun HT_ HW_=>?_)
         generalize wr.drew=w39 at HO_117001 HO_117002 BK101 BK116 HI0 HK HB hHeld ⊢
         refine pA 0 33 ?_
         refine pA 2 35 ?_
         refine pT 1 34 rfl (by rintro w' ⟨s0,s1,s2⟩;go_simp;with_reducible rfl) ?_
         refine one_ (i:=3) (N:=some 36) #[true,true,true,true,false,false,false,false,false] rfl rfl (one_of HT_.out zau) zbl (fun K hK=>?_)
         refine goes_ Tryz.func57 zau rfl #[.pointer (some ⟨g,0,none⟩),.int .i64 6] (by rfl) rfl rfl zd ?_
         with_reducible refine (spec_l00Src_pick.calls g s0_0 x1001_2 x1002_2 6 t132 t133 t134 w0 _ ?side1 ?side2 A35.out).mono ?_
         (case side1=>exact zq)
         (case side2=>exact zu)
         rintro e w40 ⟨rfl,hi,hb,hk⟩
         refine ⟨_,rfl,?_⟩
         replace HO_117001:=Aside0.mk (Kd.R_mono (Kd.R_keep (IsS119.apart (show IsS119 w0 _ g s0_0 x1001_2 x1002_2 from by repeat (first|(with_reducible first|exact HI0.out|apply IsS119.alloc|apply IsS119.drewN|apply IsS119.drew|apply IsS119.set_1|apply IsS119.set_2|refine IsS119.far ?_ NB0_101.out _|refine IsS119.far ?_ NB0_116.out _)|exact HI0.out)) zcz zbl) hk (fun _ h=>h.2)) (fun _ h=>h.1))
         replace HO_117002:=Aside0.mk (Kd.R_mono (Kd.R_keep (IsS119.apart (show IsS119 w0 _ g s0_0 x1001_2 x1002_2 from by repeat (first|(with_reducible first|exact HI0.out|apply IsS119.alloc|apply IsS119.drewN|apply IsS119.drew|apply IsS119.set_1|apply IsS119.set_2|refine IsS119.far ?_ NB0_101.out _|refine IsS119.far ?_ NB0_116.out _)|exact HI0.out)) zci zbl) hk (fun _ h=>h.2)) (fun _ h=>h.1))
         replace BK101:=Aside0.mk (KeepBut.blk hk (g':=gb101) (o:=.cells #[.string (⟨#[]⟩:ByteArray),.slice none 0 0,.slice none 0 0] 50 (0,0)) zc NB101_0.out zdd)
         replace BK116:=Aside0.mk (KeepBut.blk hk (g':=gb116) (o:=.cells #[.string (⟨#[110,101,119]⟩:ByteArray),u117001,u117002] 50 (0,0)) zcb NB116_0.out zdd)
         replace HK:=Aside0.mk (KeepBut.trans zn hk (.inl rfl))
         replace HB:=Aside0.mk (hb)
         replace HI0:=Aside0.mk (hi)
         (try clear hb)
         (try clear hb2)
         (try clear hk)
         (try clear hi)
         refine hK.out _ _ ⟨(blk_cell BK116.out 0).trans rfl,(blk_cell BK116.out 1).trans rfl,(blk_cell BK116.out 2).trans rfl⟩ (fun hHeld=>?_)
         clear hK K
         refine pN 36 ?_
         refine pA 4 37 ?_
         refine one_ (i:=5) (N:=some 38) #[true,true,true,true,true,true,false,false,false] rfl rfl (one_of HT_.out zau) zbl (fun K hK=>?_)
         refine value_ (w1:=?_) (v:=?_) (by rfl) rfl ?_ ?_
         rotate_left 2
         ·go_simp
          constructor
          ·rfl
          ·rfl
         refine hK.out _ _ ⟨(blk_cell (blk_alloc BK116.out _) 0).trans rfl,(blk_cell (blk_alloc BK116.out _) 1).trans rfl,(blk_cell (blk_alloc BK116.out _) 2).trans rfl⟩ (fun hHeld=>?_)
         clear hK K
         refine pN 38 ?_
         refine one_ (i:=6) (N:=some 39) #[true,true,true,true,true,true,true,false,false] rfl rfl (one_of HT_.out zau) zbl (fun K hK=>?_)
         refine Kd.R_append_step (Kd.int .i64) w.heap.size (by rfl) (.tmp 34) (.tmp 38) 37 2 (.int .i64 0) 8 rfl Tryz.underlying37 info2 rfl zbl zdb u117001 x117001_2 (wrap64 (1+t132)) [.int .i64 (wrap64 (1+t132))] (fun k_=>some k_≠(u117002:Value).ownBlock) (fun _=>False) rfl rfl ?aP (fun _ hk=>hk.elim) ?aF ?aO (Below.refl _ _) ?aS ?aL ?_
         (case aP=>exact rfl)
         (case aF=>exact (fun k_ hk=>Kd.fresh' (Kd.R_lt zci) k_ hk))
         (case aO=>exact zcz)
         (case aS=>exact (keep_size (w:=w) (g:=g) (row:=none) zn))
         (case aL=>have:=LMc36.out;omega)
         intro v136 w41 ho hb hg hat
         rw [←Ny135.out] at ho
         have n0_:=Aside0.mk (Kd.R_after (ok:=(fun _=>True)) (by (with_reducible repeat (first|apply Kd.R_alloc|apply Kd.R_drewN|apply Kd.R_drew));exact Kd.R_mono HO_117002.out (fun _ hk=>⟨trivial,hk⟩)) hg hat)
         have n1_:=Aside0.mk (blk_grown (g:=gb101) (o:=.cells #[.string (⟨#[]⟩:ByteArray),.slice none 0 0,.slice none 0 0] 50 (0,0)) zc hg (Kd.R_ne HO_117001.out BK101.out zbl))
         have n2_:=Aside0.mk (blk_grown (g:=gb116) (o:=.cells #[.string (⟨#[110,101,119]⟩:ByteArray),u117001,u117002] 50 (0,0)) zcb hg (Kd.R_ne HO_117001.out BK116.out zbl))
         have n3_:=Aside0.mk (IsS119.grown zq hg (IsS119.own_ne HI0.out HO_117001.out zbl))
         have n4_:=Aside0.mk (below_weaken zu HL.out hb)
         have n5_:=Aside0.mk (KeepBut.trans zn (KeepBut.of_grown hg g) (Kd.R_base2 HO_117001.out))
         have n6_:=Aside0.mk (ho)
         clear HO_117002
         clear BK101
         clear BK116
         clear HI0
         clear HB
         clear HK
         clear HO_117001
         have HO_117002:=n0_
         have BK101:=n1_
         have BK116:=n2_
         have HI0:=n3_
         have HB:=n4_
         have HK:=n5_
         have HO137:=n6_
         clear n0_ n1_ n2_ n3_ n4_ n5_ n6_
         clear ho hb hg hat
         obtain ⟨Ao42,co42,eo42⟩:=Kd.R_slice HO137.out
         (first|subst eo42|(injection eo42 with f1_ f2_ f3_;have f4_:=f1_.symm;have f5_:=f3_.symm;clear f1_ f2_ f3_;subst f4_;subst f5_))
         refine hK.out _ _ ⟨(blk_cell BK116.out 0).trans rfl,(blk_cell BK116.out 1).trans rfl,(blk_cell BK116.out 2).trans rfl⟩ (fun hHeld=>?_)
         clear hK K
         refine pN 39 ?_
         refine pA 7 40 ?_
         refine last_ (i:=8) (N:=none) #[true,true,true,true,true,true,true,true,true] rfl rfl (one_of HT_.out zau) zbl (fun K hK=>?_)
         have hs43:w41.cell? ⟨gb116,1,none⟩=some (u117001):=(blk_cell BK116.out 1).trans rfl
         have hfs43:=blk_frozen BK116.out 1
         have hns43_0:=NB101_116.out
         have hms43_0:=NB116_101.out
         refine skip_ (w1:=?_) (by rfl) rfl ?_ ?_
         rotate_left
         ·go_simp
          rfl
         refine hK.out _ _ ?_
         clear hK K
         refine done_ (done_of HT_.out zau) ?_
         try go_wp2
         have n0_:Aside0 (Kd.R (Kd.int .i64) 2 (w41.setCell ⟨gb116,1,none⟩ (.slice Ao42 y135.length co42)) w.heap.size (fun k_=>some k_≠(.slice Ao42 y135.length co42:Value).ownBlock) u117002 x117002_2):=⟨by (with_reducible repeat (first|apply Kd.R_alloc|apply Kd.R_drewN|apply Kd.R_drew));exact Kd.R_mono (Kd.R_far (p:=⟨gb116,1,none⟩) (Kd.R_types HO_117002.out BK116.out zbl) (fun _ hk=>hk.2) (.slice Ao42 y135.length co42)) (fun _ hk=>hk.1.2)⟩
         have n1_:Aside0 (Kd.R (Kd.int .i64) 2 (w41.setCell ⟨gb116,1,none⟩ (.slice Ao42 y135.length co42)) w.heap.size (fun k_=>some k_≠(u117002:Value).ownBlock) (.slice Ao42 y135.length co42) y135):=⟨by (with_reducible repeat (first|apply Kd.R_alloc|apply Kd.R_drewN|apply Kd.R_drew));exact Kd.R_mono (Kd.R_far (p:=⟨gb116,1,none⟩) (Kd.R_types HO137.out BK116.out zbl) (fun _ hk=>hk.2) (.slice Ao42 y135.length co42)) (fun _ hk=>hk.1)⟩
         have n2_:Aside0 ((w41.setCell ⟨gb116,1,none⟩ (.slice Ao42 y135.length co42)).heap[gb101]?=some (.cells #[.string (⟨#[]⟩:ByteArray),.slice none 0 0,.slice none 0 0] 50 (0,0))):=⟨by (with_reducible repeat (first|refine blk_drewN ?_ _|refine blk_drew ?_|refine blk_alloc ?_ _));refine blk_far ?_ NB101_116.out _;(with_reducible repeat (first|refine blk_drewN ?_ _|refine blk_drew ?_|refine blk_alloc ?_ _));exact BK101.out⟩
         have n3_:Aside0 ((w41.setCell ⟨gb116,1,none⟩ (.slice Ao42 y135.length co42)).heap[gb116]?=some (.cells #[.string (⟨#[110,101,119]⟩:ByteArray),.slice Ao42 y135.length co42,u117002] 50 (0,0))):=⟨by (with_reducible repeat (first|refine blk_drewN ?_ _|refine blk_drew ?_|refine blk_alloc ?_ _));refine blk_put (cs:=#[.string (⟨#[110,101,119]⟩:ByteArray),u117001,u117002]) ?_ 1 _ rfl;(with_reducible repeat (first|refine blk_drewN ?_ _|refine blk_drew ?_|refine blk_alloc ?_ _));exact BK116.out⟩
         have n4_:Aside0 (IsS119 w0 (w41.setCell ⟨gb116,1,none⟩ (.slice Ao42 y135.length co42)) g s0_0 t133 t134):=⟨zq⟩
         have n5_:Aside0 (KeepBut w (w41.setCell ⟨gb116,1,none⟩ (.slice Ao42 y135.length co42)) g none):=⟨zn⟩
         have n6_:Aside0 (Below w0.heap.size w0 (w41.setCell ⟨gb116,1,none⟩ (.slice Ao42 y135.length co42))):=⟨zu⟩
         (try clear HO_117002)
         (try clear HO137)
         (try clear BK101)
         (try clear BK116)
         (try clear HI0)
         (try clear HK)
         (try clear HB)
         generalize (w41.setCell ⟨gb116,1,none⟩ (.slice Ao42 y135.length co42))=w44 at n0_ n1_ n2_ n3_ n4_ n5_ n6_ ⊢
         have HO_117002:=n0_
         have HO137:=n1_
         have BK101:=n2_
         have BK116:=n3_
         have HI0:=n4_
         have HK:=n5_
         have HB:=n6_
         clear n0_ n1_ n2_ n3_ n4_ n5_ n6_
         replace HO_117002:=Aside0.mk (Kd.R_drew HO_117002.out)
         replace HO137:=Aside0.mk (Kd.R_drew HO137.out)
         replace BK101:=Aside0.mk (blk_drew BK101.out)
         replace BK116:=Aside0.mk (blk_drew BK116.out)
         replace HI0:=Aside0.mk (IsS119.drew HI0.out)
         replace HK:=Aside0.mk (keep_drew HK.out)
         replace HB:=Aside0.mk (below_drew1 HB.out)
         refine start_ (n:=9) (S:=fun w'=>w'.cell? ⟨gb116,0,none⟩=some (.string (⟨#[110,101,119]⟩:ByteArray))∧w'.cell? ⟨gb116,1,none⟩=some (.slice Ao42 y135.length co42)∧w'.cell? ⟨gb116,2,none⟩=some (u117002)) (ds:=[8]) #[false,false,false,false,false,false,false,false,false] zau rfl rfl ⟨(blk_cell BK116.out 0).trans rfl,(blk_cell BK116.out 1).trans rfl,(blk_cell BK116.out 2).trans rfl⟩ (fun hHeld=>?_);refine with_tabW spec_l17Draw.tab9 spec_l17Draw.bits9 (fun HT_ HW_=>?_)
         generalize w44.drew=w45 at HO_117002 HO137 BK101 BK116 HI0 HK HB hHeld ⊢
         refine pA 0 41 ?_
         refine pA 2 43 ?_
         refine pT 1 42 rfl (by rintro w' ⟨s0,s1,s2⟩;go_simp;with_reducible rfl) ?_
         refine one_ (i:=3) (N:=some 44) #[true,true,true,true,false,false,false,false,false] rfl rfl (one_of HT_.out zau) zbl (fun K hK=>?_)
         refine goes_ Tryz.func57 zau rfl #[.pointer (some ⟨g,0,none⟩),.int .i64 2] (by rfl) rfl rfl zd ?_
         with_reducible refine (spec_l00Src_pick.calls g s0_0 t133 t134 2 t138 t139 t140 w0 _ ?side1 ?side2 A37.out).mono ?_
         (case side1=>exact zq)
         (case side2=>exact zu)
         rintro e w46 ⟨rfl,hi,hb,hk⟩
         refine ⟨_,rfl,?_⟩
         replace HO_117002:=Aside0.mk (Kd.R_mono (Kd.R_keep (IsS119.apart (show IsS119 w0 _ g s0_0 t133 t134 from by repeat (first|(with_reducible first|exact HI0.out|apply IsS119.alloc|apply IsS119.drewN|apply IsS119.drew|apply IsS119.set_1|apply IsS119.set_2|refine IsS119.far ?_ NB0_101.out _|refine IsS119.far ?_ NB0_116.out _)|exact HI0.out)) zci zbl) hk (fun _ h=>h.2)) (fun _ h=>h.1))
         replace BK101:=Aside0.mk (KeepBut.blk hk (g':=gb101) (o:=.cells #[.string (⟨#[]⟩:ByteArray),.slice none 0 0,.slice none 0 0] 50 (0,0)) zc NB101_0.out zdd)
         replace BK116:=Aside0.mk (KeepBut.blk hk (g':=gb116) (o:=.cells #[.string (⟨#[110,101,119]⟩:ByteArray),.slice Ao42 y135.length co42,u117002] 50 (0,0)) zcb NB116_0.out zdd)
         replace HO137:=Aside0.mk (Kd.R_mono (Kd.R_keep (IsS119.apart (show IsS119 w0 _ g s0_0 t133 t134 from by repeat (first|(with_reducible first|exact HI0.out|apply IsS119.alloc|apply IsS119.drewN|apply IsS119.drew|apply IsS119.set_1|apply IsS119.set_2|refine IsS119.far ?_ NB0_101.out _|refine IsS119.far ?_ NB0_116.out _)|exact HI0.out)) (by (with_reducible repeat (first|apply Kd.R_alloc|apply Kd.R_drewN|apply Kd.R_drew));exact HO137.out) zbl) hk (fun _ h=>h.2)) (fun _ h=>h.1))
         replace HK:=Aside0.mk (KeepBut.trans zn hk (.inl rfl))
         replace HB:=Aside0.mk (hb)
         replace HI0:=Aside0.mk (hi)
         (try clear hb)
         (try clear hb2)
         (try clear hk)
         (try clear hi)
         refine hK.out _ _ ⟨(blk_cell BK116.out 0).trans rfl,(blk_cell BK116.out 1).trans rfl,(blk_cell BK116.out 2).trans rfl⟩ (fun hHeld=>?_)
         clear hK K
         refine pN 44 ?_
         refine pA 4 45 ?_
         refine one_ (i:=5) (N:=some 46) #[true,true,true,true,true,true,false,false,false] rfl rfl (one_of HT_.out zau) zbl (fun K hK=>?_)
         refine value_ (w1:=?_) (v:=?_) (by rfl) rfl ?_ ?_
         rotate_left 2
         ·go_simp
          constructor
          ·rfl
          ·rfl
         refine hK.out _ _ ⟨(blk_cell (blk_alloc BK116.out _) 0).trans rfl,(blk_cell (blk_alloc BK116.out _) 1).trans rfl,(blk_cell (blk_alloc BK116.out _) 2).trans rfl⟩ (fun hHeld=>?_)
         clear hK K
         refine pN 46 ?_
         refine one_ (i:=6) (N:=some 47) #[true,true,true,true,true,true,true,false,false] rfl rfl (one_of HT_.out zau) zbl (fun K hK=>?_)
         refine Kd.R_append_step (Kd.int .i64) w.heap.size (by rfl) (.tmp 42) (.tmp 46) 37 2 (.int .i64 0) 8 rfl Tryz.underlying37 info2 rfl zbl zdb u117002 x117002_2 (wrap64 (2+t138)) [.int .i64 (wrap64 (2+t138))] (fun k_=>some k_≠(.slice Ao42 y135.length co42:Value).ownBlock) (fun _=>False) rfl rfl ?aP (fun _ hk=>hk.elim) ?aF ?aO (Below.refl _ _) ?aS ?aL ?_
         (case aP=>exact rfl)
         (case aF=>exact (fun k_ hk=>Kd.fresh' (Kd.R_lt (by (with_reducible repeat (first|apply Kd.R_alloc|apply Kd.R_drewN|apply Kd.R_drew));exact HO137.out)) k_ hk))
         (case aO=>exact zci)
         (case aS=>exact (keep_size (w:=w) (g:=g) (row:=none) zn))
         (case aL=>have:=LMc38.out;omega)
         intro v142 w47 ho hb hg hat
         rw [←Ny141.out] at ho
         have n0_:=Aside0.mk (blk_grown (g:=gb101) (o:=.cells #[.string (⟨#[]⟩:ByteArray),.slice none 0 0,.slice none 0 0] 50 (0,0)) zc hg (Kd.R_ne HO_117002.out BK101.out zbl))
         have n1_:=Aside0.mk (blk_grown (g:=gb116) (o:=.cells #[.string (⟨#[110,101,119]⟩:ByteArray),.slice Ao42 y135.length co42,u117002] 50 (0,0)) zcb hg (Kd.R_ne HO_117002.out BK116.out zbl))
         have n2_:=Aside0.mk (IsS119.grown zq hg (IsS119.own_ne HI0.out HO_117002.out zbl))
         have n3_:=Aside0.mk (Kd.R_after (ok:=(fun _=>True)) (by (with_reducible repeat (first|apply Kd.R_alloc|apply Kd.R_drewN|apply Kd.R_drew));exact Kd.R_mono HO137.out (fun _ hk=>⟨trivial,hk⟩)) hg hat)
         have n4_:=Aside0.mk (below_weaken zu HL.out hb)
         have n5_:=Aside0.mk (KeepBut.trans zn (KeepBut.of_grown hg g) (Kd.R_base2 HO_117002.out))
         have n6_:=Aside0.mk (ho)
         clear BK101
         clear BK116
         clear HI0
         clear HO137
         clear HB
         clear HK
         clear HO_117002
         have BK101:=n0_
         have BK116:=n1_
         have HI0:=n2_
         have HO137:=n3_
         have HB:=n4_
         have HK:=n5_
         have HO143:=n6_
         clear n0_ n1_ n2_ n3_ n4_ n5_ n6_
         clear ho hb hg hat
         obtain ⟨Ao48,co48,eo48⟩:=Kd.R_slice HO143.out
         (first|subst eo48|(injection eo48 with f1_ f2_ f3_;have f4_:=f1_.symm;have f5_:=f3_.symm;clear f1_ f2_ f3_;subst f4_;subst f5_))
         refine hK.out _ _ ⟨(blk_cell BK116.out 0).trans rfl,(blk_cell BK116.out 1).trans rfl,(blk_cell BK116.out 2).trans rfl⟩ (fun hHeld=>?_)
         clear hK K
         refine pN 47 ?_
         refine pA 7 48 ?_
         refine last_ (i:=8) (N:=none) #[true,true,true,true,true,true,true,true,true] rfl rfl (one_of HT_.out zau) zbl (fun K hK=>?_)
         have hs49:w47.cell? ⟨gb116,2,none⟩=some (u117002):=(blk_cell BK116.out 2).trans rfl
         have hfs49:=blk_frozen BK116.out 2
         have hns49_0:=NB101_116.out
         have hms49_0:=NB116_101.out
         refine skip_ (w1:=?_) (by rfl) rfl ?_ ?_
         rotate_left
         ·go_simp
          rfl
         refine hK.out _ _ ?_
         clear hK K
         refine done_ (done_of HT_.out zau) ?_
         try go_wp2
         go_roundg k2
         case measure=>have:=HJ3.out;have:=HK2.out;omega
         case rel=>exact ⟨(wrap64 (x6_2 - 1)),(t139),(t140),(y135),(y141),(.slice Ao42 y135.length co42),(.slice Ao48 y141.length co48),zg,H',⟨by have:=HJ3.out;have:=HK2.out;omega⟩,⟨by (with_reducible repeat (first|apply Kd.R_alloc|apply Kd.R_drewN|apply Kd.R_drew));exact Kd.R_mono (Kd.R_far (p:=⟨gb116,2,none⟩) (Kd.R_types HO137.out BK116.out zbl) (fun _ hk=>hk.2) (.slice Ao48 y141.length co48)) (fun _ hk=>hk.1.2)⟩,⟨by (with_reducible repeat (first|apply Kd.R_alloc|apply Kd.R_drewN|apply Kd.R_drew));exact Kd.R_mono (Kd.R_far (p:=⟨gb116,2,none⟩) (Kd.R_types HO143.out BK116.out zbl) (fun _ hk=>hk.2) (.slice Ao48 y141.length co48)) (fun _ hk=>hk.1)⟩,⟨by (with_reducible repeat (first|refine blk_drewN ?_ _|refine blk_drew ?_|refine blk_alloc ?_ _));refine blk_far ?_ NB101_116.out _;(with_reducible repeat (first|refine blk_drewN ?_ _|refine blk_drew ?_|refine blk_alloc ?_ _));exact BK101.out⟩,⟨by (with_reducible repeat (first|refine blk_drewN ?_ _|refine blk_drew ?_|refine blk_alloc ?_ _));refine blk_put (cs:=#[.string (⟨#[110,101,119]⟩:ByteArray),.slice Ao42 y135.length co42,u117002]) ?_ 2 _ rfl;(with_reducible repeat (first|refine blk_drewN ?_ _|refine blk_drew ?_|refine blk_alloc ?_ _));exact BK116.out⟩,⟨zq⟩,⟨zn⟩,⟨zu⟩⟩
        ·rw [if_neg c38] at H
         exact absurd H zdd
       ·rw [if_neg c36] at H
        exact absurd H zdd
      ·rw [if_neg c34] at H
       have c34b0:decide (0<x6_2)=false:=decide_eq_false c34
       clear c34
       simp only [Option.some.injEq,Prod.mk.injEq] at H
       obtain ⟨rfl,rfl,rfl,rfl,rfl⟩:=H
       have hnb50:=NB116_101.out
       have hnc50:=NB101_116.out
       have hnb51:=NB116_0.out
       have hnc51:=NB0_116.out
       have hcz52_0:wr.cell? ⟨gb116,0,none⟩=some (.string (⟨#[110,101,119]⟩:ByteArray)):=(blk_cell BK116.out 0).trans rfl
       have hcz52_1:wr.cell? ⟨gb116,1,none⟩=some (u117001):=(blk_cell BK116.out 1).trans rfl
       have hcz52_2:wr.cell? ⟨gb116,2,none⟩=some (u117002):=(blk_cell BK116.out 2).trans rfl
       have hfz52_0:=blk_frozen BK116.out 0
       have hfz52_1:=blk_frozen BK116.out 1
       have hfz52_2:=blk_frozen BK116.out 2
       have hnb53:=NB101_0.out
       have hnc53:=NB0_101.out
       have hcz54_0:wr.cell? ⟨gb101,0,none⟩=some (.string (⟨#[]⟩:ByteArray)):=(blk_cell BK101.out 0).trans rfl
       have hcz54_1:wr.cell? ⟨gb101,1,none⟩=some (.slice none 0 0):=(blk_cell BK101.out 1).trans rfl
       have hcz54_2:wr.cell? ⟨gb101,2,none⟩=some (.slice none 0 0):=(blk_cell BK101.out 2).trans rfl
       have hfz54_0:=blk_frozen BK101.out 0
       have hfz54_1:=blk_frozen BK101.out 1
       have hfz54_2:=blk_frozen BK101.out 2
       obtain ⟨Ao55,co55,eo55⟩:=Kd.R_slice HO_117001.out
       subst eo55
       obtain ⟨Ao56,co56,eo56⟩:=Kd.R_slice HO_117002.out
       subst eo56
       go_wp2
       refine bodyPost_ret (results_cell_row rfl _ _ gb101 50 #[.string (⟨#[110,101,119]⟩:ByteArray),.slice Ao55 x117001_2.length co55,.slice Ao56 x117002_2.length co56] (0,0) _ rfl (by (with_reducible repeat (first|refine blk_drewN ?_ _|refine blk_drew ?_|refine blk_alloc ?_ _));refine blk_put (cs:=#[.string (⟨#[110,101,119]⟩:ByteArray),.slice Ao55 x117001_2.length co55,.slice none 0 0]) ?_ 2 _ rfl;(with_reducible repeat (first|refine blk_drewN ?_ _|refine blk_drew ?_|refine blk_alloc ?_ _));refine blk_put (cs:=#[.string (⟨#[110,101,119]⟩:ByteArray),.slice none 0 0,.slice none 0 0]) ?_ 1 _ rfl;(with_reducible repeat (first|refine blk_drewN ?_ _|refine blk_drew ?_|refine blk_alloc ?_ _));refine blk_put (cs:=#[.string (⟨#[]⟩:ByteArray),.slice none 0 0,.slice none 0 0]) ?_ 0 _ rfl;(with_reducible repeat (first|refine blk_drewN ?_ _|refine blk_drew ?_|refine blk_alloc ?_ _));exact BK101.out) Tryz.underlying50 rfl zau) rfl ?_
       exact ⟨_,_,zi,by (with_reducible repeat (first|apply Kd.R_alloc|apply Kd.R_drewN|apply Kd.R_drew));exact Kd.R_mono (Kd.R_far (p:=⟨gb101,2,none⟩) (Kd.R_far (p:=⟨gb101,1,none⟩) (Kd.R_far (p:=⟨gb101,0,none⟩) (Kd.R_types HO_117001.out BK101.out zbl) (fun _ hk=>hk.2) (.string (⟨#[110,101,119]⟩:ByteArray))) (fun _ hk=>hk.2) (.slice Ao55 x117001_2.length co55)) (fun _ hk=>hk.2) (.slice Ao56 x117002_2.length co56)) (fun _ hk=>hk.1),by (with_reducible repeat (first|apply Kd.R_alloc|apply Kd.R_drewN|apply Kd.R_drew));exact Kd.R_mono (Kd.R_far (p:=⟨gb101,2,none⟩) (Kd.R_far (p:=⟨gb101,1,none⟩) (Kd.R_far (p:=⟨gb101,0,none⟩) (Kd.R_types HO_117002.out BK101.out zbl) (fun _ hk=>hk.2) (.string (⟨#[110,101,119]⟩:ByteArray))) (fun _ hk=>hk.2) (.slice Ao55 x117001_2.length co55)) (fun _ hk=>hk.2) (.slice Ao56 x117002_2.length co56)) (fun _ hk=>hk.1),zq,zu,zn⟩
   ·replace c20:=Bool.eq_false_iff.mpr c20
    subst c20
    have H1:(some (t108,t109,t112,x1001_3,x1002_3))=some (r1,r2,r3,r4,r5):=by rw [if_neg (show ¬ (false=true) by decide)] at H;exact H
    clear H
    have H:=H1
    clear H1
    simp only [Option.some.injEq,Prod.mk.injEq] at H
    obtain ⟨rfl,rfl,rfl,rfl,rfl⟩:=H
    have hnb57:=NB116_101.out
    have hnc57:=NB101_116.out
    have hnb58:=NB116_0.out
    have hnc58:=NB0_116.out
    have hcz59_0:wc.cell? ⟨gb116,0,none⟩=some (.string t108):=(blk_cell BK116.out 0).trans rfl
    have hcz59_1:wc.cell? ⟨gb116,1,none⟩=some (.slice Ao15 t109.length co15):=(blk_cell BK116.out 1).trans rfl
    have hcz59_2:wc.cell? ⟨gb116,2,none⟩=some (.slice Ao16 t112.length co16):=(blk_cell BK116.out 2).trans rfl
    have hfz59_0:=blk_frozen BK116.out 0
    have hfz59_1:=blk_frozen BK116.out 1
    have hfz59_2:=blk_frozen BK116.out 2
    have hnb60:=NB101_0.out
    have hnc60:=NB0_101.out
    have hcz61_0:wc.cell? ⟨gb101,0,none⟩=some (.string (⟨#[]⟩:ByteArray)):=(blk_cell BK101.out 0).trans rfl
    have hcz61_1:wc.cell? ⟨gb101,1,none⟩=some (.slice none 0 0):=(blk_cell BK101.out 1).trans rfl
    have hcz61_2:wc.cell? ⟨gb101,2,none⟩=some (.slice none 0 0):=(blk_cell BK101.out 2).trans rfl
    have hfz61_0:=blk_frozen BK101.out 0
    have hfz61_1:=blk_frozen BK101.out 1
    have hfz61_2:=blk_frozen BK101.out 2
    go_wp2
    refine bodyPost_ret (results_cell_row rfl _ _ gb101 50 #[.string t108,.slice Ao15 t109.length co15,.slice Ao16 t112.length co16] (0,0) _ rfl (by (with_reducible repeat (first|refine blk_drewN ?_ _|refine blk_drew ?_|refine blk_alloc ?_ _));refine blk_put (cs:=#[.string t108,.slice Ao15 t109.length co15,.slice none 0 0]) ?_ 2 _ rfl;(with_reducible repeat (first|refine blk_drewN ?_ _|refine blk_drew ?_|refine blk_alloc ?_ _));refine blk_put (cs:=#[.string t108,.slice none 0 0,.slice none 0 0]) ?_ 1 _ rfl;(with_reducible repeat (first|refine blk_drewN ?_ _|refine blk_drew ?_|refine blk_alloc ?_ _));refine blk_put (cs:=#[.string (⟨#[]⟩:ByteArray),.slice none 0 0,.slice none 0 0]) ?_ 0 _ rfl;(with_reducible repeat (first|refine blk_drewN ?_ _|refine blk_drew ?_|refine blk_alloc ?_ _));exact BK101.out) Tryz.underlying50 rfl zau) rfl ?_
    exact ⟨_,_,zi,by (with_reducible repeat (first|apply Kd.R_alloc|apply Kd.R_drewN|apply Kd.R_drew));exact Kd.R_mono (Kd.R_far (p:=⟨gb101,2,none⟩) (Kd.R_far (p:=⟨gb101,1,none⟩) (Kd.R_far (p:=⟨gb101,0,none⟩) (Kd.R_types HO_117001.out BK101.out zbl) (fun _ hk=>hk.2) (.string t108)) (fun _ hk=>hk.2) (.slice Ao15 t109.length co15)) (fun _ hk=>hk.2) (.slice Ao16 t112.length co16)) (fun _ hk=>hk.1),by (with_reducible repeat (first|apply Kd.R_alloc|apply Kd.R_drewN|apply Kd.R_drew));exact Kd.R_mono (Kd.R_far (p:=⟨gb101,2,none⟩) (Kd.R_far (p:=⟨gb101,1,none⟩) (Kd.R_far (p:=⟨gb101,0,none⟩) (Kd.R_types HO_117002.out BK101.out zbl) (fun _ hk=>hk.2) (.string t108)) (fun _ hk=>hk.2) (.slice Ao15 t109.length co15)) (fun _ hk=>hk.2) (.slice Ao16 t112.length co16)) (fun _ hk=>hk.1),zq,zu,zn⟩

def spec_R8Tala.f (k:Nat) (l0:List Int):Option (ByteArray × List Int × List Int):=(spec_l00From.f l0).bind fun bt102=>((spec_l17Draw.f k bt102.1 bt102.2.1 bt102.2.2).bind fun bt106=>(some (bt106.1,bt106.2.1,bt106.2.2.1)))
set_option maxHeartbeats 8000000 in
set_option maxRecDepth 100000 in
theorem spec_R8Tala.calls (k:Nat) (A0:Option Addr) (c0:Nat) (l0:List Int) (r1:ByteArray) (r2:List Int) (r3:List Int) (w:World) (hr0:Kd.C (Kd.int .u8) w A0 l0.length l0) (hc0:l0.length≤c0) (h:spec_R8Tala.f k l0=some (r1,r2,r3)) :
 Calls Tryz.prog 38 #[.slice A0 l0.length c0] w fun e w'=>∃v1_ v2_:Value,e = .returned (.agg #[.string r1,v1_,v2_])∧Kd.R (Kd.int .i64) 2 w' w.heap.size (fun k_=>some k_≠(v2_:Value).ownBlock) v1_ r2∧Kd.R (Kd.int .i64) 2 w' w.heap.size (fun k_=>some k_≠(v1_:Value).ownBlock) v2_ r3∧Below w.heap.size w w':=by
 have hu50:=Tryz.underlying50
 have HR0:=Aside0.mk hr0
 have HC0:=Aside0.mk hc0
 clear hr0 hc0
 have HB:=Aside0.mk (Below.refl w.heap.size w)
 have H:((spec_l00From.f l0).bind fun bt102=>((spec_l17Draw.f k bt102.1 bt102.2.1 bt102.2.2).bind fun bt106=>(some (bt106.1,bt106.2.1,bt106.2.2.1))))=some (r1,r2,r3):=h
 clear h
 replace H:=Option.bind_eq_some_iff.mp H
 obtain ⟨⟨t102,t103,t104⟩,A20,H⟩:=H
 replace H:((spec_l17Draw.f k t102 t103 t104).bind fun bt106=>(some (bt106.1,bt106.2.1,bt106.2.2.1)))=some (r1,r2,r3):=H
 have A2:=Aside0.mk A20
 clear A20
 replace H:=Option.bind_eq_some_iff.mp H
 obtain ⟨⟨t106,t107,t110,t113,t114⟩,A30,H⟩:=H
 replace H:(some (t106,t107,t110))=some (r1,r2,r3):=H
 have A3:=Aside0.mk A30
 clear A30
 simp only [Option.some.injEq,Prod.mk.injEq] at H
 obtain ⟨rfl,rfl,rfl⟩:=H
 go_enter Tryz.func38,Tryz.ntmps38
 go_wp2_with (first|((with_reducible refine gate_dst (N:=2) rfl ?_);refine box_event ?hg (N:=2) ?hd (cs:=#[.string (⟨#[]⟩:ByteArray),.slice none 0 0,.slice none 0 0]) (t:=50) ?hr ?_;(case hd=>rfl);(case hg=>rfl);(case hr=>exact zy);intro gb101 hg w4 hbox hb;have n0_:=Aside0.mk (below_step za hb);have n1_:=Aside0.mk (hbox);have n2_:=Aside0.mk ((by rw [hg];exact (below_size za):w.heap.size≤gb101));have n3_:=Aside0.mk ((by rw [hg];exact (below_size za):w.heap.size≤gb101));clear HB;have HB:=n0_;have BK101:=n1_;have GW101:=n2_;have GE101:=n3_;clear n0_ n1_ n2_ n3_;clear hb hbox hg)|((with_reducible refine gate_callee (f:=52) rfl ?_);refine goesL_ (some 5) rfl rfl Tryz.func52 zau rfl #[.slice A0 l0.length c0] rfl zd ?_;(with_reducible refine (spec_l00From.calls _ _ l0 t102 t103 t104 w _ ?side1 ?side2 ?side3 A2.out).mono ?_);(case side1=>exact zb);(case side2=>exact HR0.out);(case side3=>exact HC0.out);rintro e w5 ⟨g105,rfl,hi,hb,hb2⟩;refine ⟨_,rfl,?_⟩;have n0_:=Aside0.mk (blk_below (g:=gb101) (o:=.cells #[.string (⟨#[]⟩:ByteArray),.slice none 0 0,.slice none 0 0] 50 (0,0)) zc hb2);have n1_:=Aside0.mk (hb);have n2_:=Aside0.mk (hi);have n3_:=Aside0.mk (IsS119.ne_blk hi (blk_below (g:=gb101) (o:=.cells #[.string (⟨#[]⟩:ByteArray),.slice none 0 0,.slice none 0 0] 50 (0,0)) zc hb2) zbl);have n4_:=Aside0.mk (Ne.symm (IsS119.ne_blk hi (blk_below (g:=gb101) (o:=.cells #[.string (⟨#[]⟩:ByteArray),.slice none 0 0,.slice none 0 0] 50 (0,0)) zc hb2) zbl));clear BK101;clear HB;have BK101:=n0_;have HB:=n1_;have HI105:=n2_;have NB105_101:=n3_;have NB101_105:=n4_;clear n0_ n1_ n2_ n3_ n4_;(try clear hb);(try clear hb2);(try clear hk);(try clear hi))|((with_reducible refine gate_callee (f:=73) rfl ?_);refine goesL_ (some 7) rfl rfl Tryz.func73 zau rfl #[.pointer (some ⟨g105,0,none⟩)] rfl zd ?_;(with_reducible refine (spec_l17Draw.calls k g105 t102 t103 t104 t106 t107 t110 t113 t114 w _ ?side1 ?side2 A3.out).mono ?_);(case side1=>repeat (first|(with_reducible first|exact HI105.out|apply IsS119.alloc|apply IsS119.drewN|apply IsS119.drew|apply IsS119.set_1|apply IsS119.set_2|refine IsS119.far ?_ NB105_101.out _)|exact HI105.out));(case side2=>exact zco);rintro e w6 ⟨v108,v111,rfl,ho0,ho1,hi,hb,hk⟩;refine ⟨_,rfl,?_⟩;replace BK101:=Aside0.mk (KeepBut.blk hk (g':=gb101) (o:=.cells #[.string (⟨#[]⟩:ByteArray),.slice none 0 0,.slice none 0 0] 50 (0,0)) zc NB101_105.out zdd);have HO109:=Aside0.mk (Kd.R_lower ho0 (below_size zco));have HO112:=Aside0.mk (Kd.R_lower ho1 (below_size zco));replace HB:=Aside0.mk (hb);replace HI105:=Aside0.mk (hi);(try clear hb);(try clear hb2);(try clear hk);(try clear hi);(try clear ho0);(try clear ho1);have hnb7:=NB101_105.out;have hnc7:=NB105_101.out;have hcz8_0:w6.cell? ⟨gb101,0,none⟩=some (.string (⟨#[]⟩:ByteArray)):=(blk_cell BK101.out 0).trans rfl;have hcz8_1:w6.cell? ⟨gb101,1,none⟩=some (.slice none 0 0):=(blk_cell BK101.out 1).trans rfl;have hcz8_2:w6.cell? ⟨gb101,2,none⟩=some (.slice none 0 0):=(blk_cell BK101.out 2).trans rfl;have hfz8_0:=blk_frozen BK101.out 0;have hfz8_1:=blk_frozen BK101.out 1;have hfz8_2:=blk_frozen BK101.out 2;obtain ⟨Ao9,co9,eo9⟩:=Kd.R_slice HO109.out;subst eo9;obtain ⟨Ao10,co10,eo10⟩:=Kd.R_slice HO112.out;subst eo10))
 refine bodyPost_ret (results_cell_row rfl _ _ gb101 50 #[.string t106,.slice Ao9 t107.length co9,.slice Ao10 t110.length co10] (0,0) _ rfl (by (with_reducible repeat (first|refine blk_drewN ?_ _|refine blk_drew ?_|refine blk_alloc ?_ _));refine blk_put (cs:=#[.string t106,.slice Ao9 t107.length co9,.slice none 0 0]) ?_ 2 _ rfl;(with_reducible repeat (first|refine blk_drewN ?_ _|refine blk_drew ?_|refine blk_alloc ?_ _));refine blk_put (cs:=#[.string t106,.slice none 0 0,.slice none 0 0]) ?_ 1 _ rfl;(with_reducible repeat (first|refine blk_drewN ?_ _|refine blk_drew ?_|refine blk_alloc ?_ _));refine blk_put (cs:=#[.string (⟨#[]⟩:ByteArray),.slice none 0 0,.slice none 0 0]) ?_ 0 _ rfl;(with_reducible repeat (first|refine blk_drewN ?_ _|refine blk_drew ?_|refine blk_alloc ?_ _));exact BK101.out) Tryz.underlying50 rfl zau) rfl ?_
 exact ⟨_,_,zi,by (with_reducible repeat (first|apply Kd.R_alloc|apply Kd.R_drewN|apply Kd.R_drew));exact Kd.R_mono (Kd.R_far (p:=⟨gb101,2,none⟩) (Kd.R_far (p:=⟨gb101,1,none⟩) (Kd.R_far (p:=⟨gb101,0,none⟩) (Kd.R_types HO109.out BK101.out zbl) (fun _ hk=>hk.2) (.string t106)) (fun _ hk=>hk.2) (.slice Ao9 t107.length co9)) (fun _ hk=>hk.2) (.slice Ao10 t110.length co10)) (fun _ hk=>hk.1),by (with_reducible repeat (first|apply Kd.R_alloc|apply Kd.R_drewN|apply Kd.R_drew));exact Kd.R_mono (Kd.R_far (p:=⟨gb101,2,none⟩) (Kd.R_far (p:=⟨gb101,1,none⟩) (Kd.R_far (p:=⟨gb101,0,none⟩) (Kd.R_types HO112.out BK101.out zbl) (fun _ hk=>hk.2) (.string t106)) (fun _ hk=>hk.2) (.slice Ao9 t107.length co9)) (fun _ hk=>hk.2) (.slice Ao10 t110.length co10)) (fun _ hk=>hk.1),zco⟩

def laws_r8At.f (l0:List Int) (a1:Int) (a2:Int):Option (Int):=if a2≤1 then (some 0) else (if a1≥(l0.length:Int) then (some 0) else (if 0≤a1 then (if a1<(l0.length:Int) then (if a2=0 then (none) else (some (Int.tmod (wrap64 (rd l0 a1)) a2))) else (none)) else (none)))
set_option maxHeartbeats 8000000 in
set_option maxRecDepth 100000 in
theorem laws_r8At.calls (A0:Option Addr) (c0:Nat) (l0:List Int) (a1:Int) (a2:Int) (r:Int) (w:World) (hr0:Kd.C (Kd.int .u8) w A0 l0.length l0) (hc0:l0.length≤c0) (h:laws_r8At.f l0 a1 a2=some r) :
 Calls Tryz.prog 39 #[.slice A0 l0.length c0,.int .i64 a1,.int .i64 a2] w fun e w'=>e = .returned (.int .i64 r)∧Drawn0 w w':=by
 have HR0:=Aside0.mk hr0
 have HC0:=Aside0.mk hc0
 clear hr0 hc0
 have H:(if a2≤1 then (some 0) else (if a1≥(l0.length:Int) then (some 0) else (if 0≤a1 then (if a1<(l0.length:Int) then (if a2=0 then (none) else (some (Int.tmod (wrap64 (rd l0 a1)) a2))) else (none)) else (none))))=some r:=h
 clear h
 by_cases c4:a2≤1
 ·rw [if_pos c4] at H
  have c4b0:decide (a2≤1)=true:=decide_eq_true c4
  clear c4
  obtain rfl:=Option.some.inj H
  go_enter Tryz.func39,Tryz.ntmps39
  go_wp2
  go_ret
  exact ⟨zg,zj⟩
 ·rw [if_neg c4] at H
  have c4b0:decide (a2≤1)=false:=decide_eq_false c4
  clear c4
  by_cases c5:a1≥(l0.length:Int)
  ·rw [if_pos c5] at H
   have c5b0:decide ((l0.length:Int)≤a1)=true:=decide_eq_true c5
   clear c5
   obtain rfl:=Option.some.inj H
   go_enter Tryz.func39,Tryz.ntmps39
   go_wp2
   go_ret
   exact ⟨zg,zj⟩
  ·rw [if_neg c5] at H
   have c5b0:decide ((l0.length:Int)≤a1)=false:=decide_eq_false c5
   clear c5
   by_cases c6:0≤a1
   ·rw [if_pos c6] at H
    have c6b0:decide (0≤a1)=true:=decide_eq_true c6
    clear c6
    by_cases c7:a1<(l0.length:Int)
    ·rw [if_pos c7] at H
     have c7b0:decide (a1<(l0.length:Int))=true:=decide_eq_true c7
     clear c7
     by_cases c8:a2=0
     ·rw [if_pos c8] at H
      exact absurd H zdd
     ·rw [if_neg c8] at H
      have c8b0:(a2 == 0)=false:=beq_eq_false_iff_ne.mpr c8
      have c8b1:(a2 != 0)=true:=bne_iff_ne.mpr c8
      obtain rfl:=Option.some.inj H
      have p101:0≤(a1:Int):=of_decide_eq_true ze
      have q101:a1<(l0.length:Int):=of_decide_eq_true ze
      obtain ⟨ad101,e101,hx101_0⟩:=Kd.at_int HR0.out a1 p101 q101
      cases e101
      replace p101:=eq_true p101
      replace q101:=eq_true q101
      go_enter Tryz.func39,Tryz.ntmps39
      go_wp2
      go_ret
      exact ⟨zg,zj⟩
    ·rw [if_neg c7] at H
     exact absurd H zdd
   ·rw [if_neg c6] at H
    exact absurd H zdd

def impl_NotateBars.f (k:Nat) (l0:List (S67)) (a1_0:ByteArray) (l1_1:List Int) (l1_2:List Int) (a2:Int):Option (ByteArray × Int):=(impl_notationCode.f k l0 a1_0 l1_1 l1_2 a2).bind fun t102=>(if t102=0 then ((impl_notate.f k l0 a1_0 l1_1 l1_2 a2).bind fun bt103=>(if bt103.2=true then (some (bt103.1,0)) else (some ((⟨#[]⟩:ByteArray),5)))) else (some ((⟨#[]⟩:ByteArray),t102)))
set_option maxHeartbeats 8000000 in
set_option maxRecDepth 100000 in
theorem impl_NotateBars.calls (k:Nat) (A0:Option Addr) (c0:Nat) (l0:List (S67)) (a1_0:ByteArray) (A1_1:Option Addr) (c1_1:Nat) (l1_1:List Int) (A1_2:Option Addr) (c1_2:Nat) (l1_2:List Int) (a2:Int) (r1:ByteArray) (r2:Int) (w:World) (hD:Door1 w) (hr0:Kd.C k67 w A0 l0.length l0) (hc0:l0.length≤c0) (hr1_1:Kd.C (Kd.int .i64) w A1_1 l1_1.length l1_1) (hc1_1:l1_1.length≤c1_1) (hr1_2:Kd.C (Kd.int .i64) w A1_2 l1_2.length l1_2) (hc1_2:l1_2.length≤c1_2) (h:impl_NotateBars.f k l0 a1_0 l1_1 l1_2 a2=some (r1,r2)) :
 Calls Tryz.prog 40 #[.slice A0 l0.length c0,.agg #[.string a1_0,.slice A1_1 l1_1.length c1_1,.slice A1_2 l1_2.length c1_2],.int .i64 a2] w fun e w'=>e = .returned (.tuple #[.string r1,.int .i64 r2])∧Below w.heap.size w w':=by
 have hu50:=Tryz.underlying50
 have HD:=Aside0.mk hD
 clear hD
 have HR0:=Aside0.mk hr0
 have HC0:=Aside0.mk hc0
 clear hr0 hc0
 have HR1_1:=Aside0.mk hr1_1
 have HC1_1:=Aside0.mk hc1_1
 clear hr1_1 hc1_1
 have HR1_2:=Aside0.mk hr1_2
 have HC1_2:=Aside0.mk hc1_2
 clear hr1_2 hc1_2
 have HB:=Aside0.mk (Below.refl w.heap.size w)
 have H:((impl_notationCode.f k l0 a1_0 l1_1 l1_2 a2).bind fun t102=>(if t102=0 then ((impl_notate.f k l0 a1_0 l1_1 l1_2 a2).bind fun bt103=>(if bt103.2=true then (some (bt103.1,0)) else (some ((⟨#[]⟩:ByteArray),5)))) else (some ((⟨#[]⟩:ByteArray),t102))))=some (r1,r2):=h
 clear h
 replace H:=Option.bind_eq_some_iff.mp H
 obtain ⟨t102,A40,H⟩:=H
 replace H:(if t102=0 then ((impl_notate.f k l0 a1_0 l1_1 l1_2 a2).bind fun bt103=>(if bt103.2=true then (some (bt103.1,0)) else (some ((⟨#[]⟩:ByteArray),5)))) else (some ((⟨#[]⟩:ByteArray),t102)))=some (r1,r2):=H
 have A4:=Aside0.mk A40
 clear A40
 by_cases c5:t102=0
 ·rw [if_pos c5] at H
  have c5b0:(t102 == 0)=true:=beq_iff_eq.mpr c5
  have c5b1:(t102 != 0)=false:=bne_eq_false_iff_eq.mpr c5
  clear c5
  replace H:=Option.bind_eq_some_iff.mp H
  obtain ⟨⟨t103,t104⟩,A60,H⟩:=H
  replace H:(if t104=true then (some (t103,0)) else (some ((⟨#[]⟩:ByteArray),5)))=some (r1,r2):=H
  have A6:=Aside0.mk A60
  clear A60
  by_cases c7:t104=true
  ·subst c7
   have H1:(some (t103,0))=some (r1,r2):=by rw [if_pos rfl] at H;exact H
   clear H
   have H:=H1
   clear H1
   simp only [Option.some.injEq,Prod.mk.injEq] at H
   obtain ⟨rfl,rfl⟩:=H
   go_enter Tryz.func40,Tryz.ntmps40
   go_wp2_with (first|((with_reducible refine gate_dst (N:=4) rfl ?_);refine box_event ?hg (N:=4) ?hd (cs:=#[.string a1_0,.slice A1_1 l1_1.length c1_1,.slice A1_2 l1_2.length c1_2]) (t:=50) ?hr ?_;(case hd=>rfl);(case hg=>rfl);(case hr=>exact zy);intro gb101 hg w8 hbox hb;have n0_:=Aside0.mk (below_step za hb);have n1_:=Aside0.mk (hbox);have n2_:=Aside0.mk ((by rw [hg];exact (below_size za):w.heap.size≤gb101));have n3_:=Aside0.mk ((by rw [hg];exact (below_size za):w.heap.size≤gb101));clear HB;have HB:=n0_;have BK101:=n1_;have GW101:=n2_;have GE101:=n3_;clear n0_ n1_ n2_ n3_;clear hb hbox hg;have hcz9_0:w8.cell? ⟨gb101,0,none⟩=some (.string a1_0):=(blk_cell BK101.out 0).trans rfl;have hcz9_1:w8.cell? ⟨gb101,1,none⟩=some (.slice A1_1 l1_1.length c1_1):=(blk_cell BK101.out 1).trans rfl;have hcz9_2:w8.cell? ⟨gb101,2,none⟩=some (.slice A1_2 l1_2.length c1_2):=(blk_cell BK101.out 2).trans rfl;have hfz9_0:=blk_frozen BK101.out 0;have hfz9_1:=blk_frozen BK101.out 1;have hfz9_2:=blk_frozen BK101.out 2)|((with_reducible refine gate_callee (f:=74) rfl ?_);refine goesL_ (some 14) rfl rfl Tryz.func74 zau rfl #[.slice A0 l0.length c0,.agg #[.string a1_0,.slice A1_1 l1_1.length c1_1,.slice A1_2 l1_2.length c1_2],.int .i64 a2] rfl zd ?_;(with_reducible refine (impl_notationCode.calls k _ _ l0 a1_0 _ _ l1_1 _ _ l1_2 a2 t102 _ ?side1 ?side2 ?side3 ?side4 ?side5 ?side6 A4.out).mono ?_);(case side1=>exact zbp);(case side2=>exact HC0.out);(case side3=>exact zs);(case side4=>exact HC1_1.out);(case side5=>exact zt);(case side6=>exact HC1_2.out);rintro e w10 ⟨rfl,hb⟩;refine ⟨_,rfl,?_⟩;replace BK101:=Aside0.mk (blk_below (g:=gb101) (o:=.cells #[.string a1_0,.slice A1_1 l1_1.length c1_1,.slice A1_2 l1_2.length c1_2] 50 (0,0)) zc hb);replace HB:=Aside0.mk (below_step zb hb);(try clear hb);(try clear hb2);(try clear hk);(try clear hi);have hcz11_0:w10.cell? ⟨gb101,0,none⟩=some (.string a1_0):=(blk_cell BK101.out 0).trans rfl;have hcz11_1:w10.cell? ⟨gb101,1,none⟩=some (.slice A1_1 l1_1.length c1_1):=(blk_cell BK101.out 1).trans rfl;have hcz11_2:w10.cell? ⟨gb101,2,none⟩=some (.slice A1_2 l1_2.length c1_2):=(blk_cell BK101.out 2).trans rfl;have hfz11_0:=blk_frozen BK101.out 0;have hfz11_1:=blk_frozen BK101.out 1;have hfz11_2:=blk_frozen BK101.out 2)|((with_reducible refine gate_callee (f:=71) rfl ?_);refine goesL_ (some 22) rfl rfl Tryz.func71 zau rfl #[.slice A0 l0.length c0,.agg #[.string a1_0,.slice A1_1 l1_1.length c1_1,.slice A1_2 l1_2.length c1_2],.int .i64 a2] rfl zd ?_;(with_reducible refine (impl_notate.calls k _ _ l0 a1_0 _ _ l1_1 _ _ l1_2 a2 t103 true _ ?side7 ?side1 ?side2 ?side3 ?side4 ?side5 ?side6 A6.out).mono ?_);(case side1=>exact zbp);(case side2=>exact HC0.out);(case side3=>exact zs);(case side4=>exact HC1_1.out);(case side5=>exact zt);(case side6=>exact HC1_2.out);(case side7=>exact Door1.at HD.out zb);rintro e w12 ⟨rfl,hb⟩;refine ⟨_,rfl,?_⟩;replace BK101:=Aside0.mk (blk_below (g:=gb101) (o:=.cells #[.string a1_0,.slice A1_1 l1_1.length c1_1,.slice A1_2 l1_2.length c1_2] 50 (0,0)) zc hb);replace HB:=Aside0.mk (below_step zb hb);(try clear hb);(try clear hb2);(try clear hk);(try clear hi)))
   go_ret2
   exact ⟨zi,zb⟩
  ·replace c7:=Bool.eq_false_iff.mpr c7
   subst c7
   have H1:(some ((⟨#[]⟩:ByteArray),5))=some (r1,r2):=by rw [if_neg (show ¬ (false=true) by decide)] at H;exact H
   clear H
   have H:=H1
   clear H1
   simp only [Option.some.injEq,Prod.mk.injEq] at H
   obtain ⟨rfl,rfl⟩:=H
   go_enter Tryz.func40,Tryz.ntmps40
   go_wp2_with (first|((with_reducible refine gate_dst (N:=4) rfl ?_);refine box_event ?hg (N:=4) ?hd (cs:=#[.string a1_0,.slice A1_1 l1_1.length c1_1,.slice A1_2 l1_2.length c1_2]) (t:=50) ?hr ?_;(case hd=>rfl);(case hg=>rfl);(case hr=>exact zy);intro gb101 hg w13 hbox hb;have n0_:=Aside0.mk (below_step za hb);have n1_:=Aside0.mk (hbox);have n2_:=Aside0.mk ((by rw [hg];exact (below_size za):w.heap.size≤gb101));have n3_:=Aside0.mk ((by rw [hg];exact (below_size za):w.heap.size≤gb101));clear HB;have HB:=n0_;have BK101:=n1_;have GW101:=n2_;have GE101:=n3_;clear n0_ n1_ n2_ n3_;clear hb hbox hg;have hcz14_0:w13.cell? ⟨gb101,0,none⟩=some (.string a1_0):=(blk_cell BK101.out 0).trans rfl;have hcz14_1:w13.cell? ⟨gb101,1,none⟩=some (.slice A1_1 l1_1.length c1_1):=(blk_cell BK101.out 1).trans rfl;have hcz14_2:w13.cell? ⟨gb101,2,none⟩=some (.slice A1_2 l1_2.length c1_2):=(blk_cell BK101.out 2).trans rfl;have hfz14_0:=blk_frozen BK101.out 0;have hfz14_1:=blk_frozen BK101.out 1;have hfz14_2:=blk_frozen BK101.out 2)|((with_reducible refine gate_callee (f:=74) rfl ?_);refine goesL_ (some 14) rfl rfl Tryz.func74 zau rfl #[.slice A0 l0.length c0,.agg #[.string a1_0,.slice A1_1 l1_1.length c1_1,.slice A1_2 l1_2.length c1_2],.int .i64 a2] rfl zd ?_;(with_reducible refine (impl_notationCode.calls k _ _ l0 a1_0 _ _ l1_1 _ _ l1_2 a2 t102 _ ?side1 ?side2 ?side3 ?side4 ?side5 ?side6 A4.out).mono ?_);(case side1=>exact zbp);(case side2=>exact HC0.out);(case side3=>exact zs);(case side4=>exact HC1_1.out);(case side5=>exact zt);(case side6=>exact HC1_2.out);rintro e w15 ⟨rfl,hb⟩;refine ⟨_,rfl,?_⟩;replace BK101:=Aside0.mk (blk_below (g:=gb101) (o:=.cells #[.string a1_0,.slice A1_1 l1_1.length c1_1,.slice A1_2 l1_2.length c1_2] 50 (0,0)) zc hb);replace HB:=Aside0.mk (below_step zb hb);(try clear hb);(try clear hb2);(try clear hk);(try clear hi);have hcz16_0:w15.cell? ⟨gb101,0,none⟩=some (.string a1_0):=(blk_cell BK101.out 0).trans rfl;have hcz16_1:w15.cell? ⟨gb101,1,none⟩=some (.slice A1_1 l1_1.length c1_1):=(blk_cell BK101.out 1).trans rfl;have hcz16_2:w15.cell? ⟨gb101,2,none⟩=some (.slice A1_2 l1_2.length c1_2):=(blk_cell BK101.out 2).trans rfl;have hfz16_0:=blk_frozen BK101.out 0;have hfz16_1:=blk_frozen BK101.out 1;have hfz16_2:=blk_frozen BK101.out 2)|((with_reducible refine gate_callee (f:=71) rfl ?_);refine goesL_ (some 22) rfl rfl Tryz.func71 zau rfl #[.slice A0 l0.length c0,.agg #[.string a1_0,.slice A1_1 l1_1.length c1_1,.slice A1_2 l1_2.length c1_2],.int .i64 a2] rfl zd ?_;(with_reducible refine (impl_notate.calls k _ _ l0 a1_0 _ _ l1_1 _ _ l1_2 a2 t103 false _ ?side7 ?side1 ?side2 ?side3 ?side4 ?side5 ?side6 A6.out).mono ?_);(case side1=>exact zbp);(case side2=>exact HC0.out);(case side3=>exact zs);(case side4=>exact HC1_1.out);(case side5=>exact zt);(case side6=>exact HC1_2.out);(case side7=>exact Door1.at HD.out zb);rintro e w17 ⟨rfl,hb⟩;refine ⟨_,rfl,?_⟩;replace BK101:=Aside0.mk (blk_below (g:=gb101) (o:=.cells #[.string a1_0,.slice A1_1 l1_1.length c1_1,.slice A1_2 l1_2.length c1_2] 50 (0,0)) zc hb);replace HB:=Aside0.mk (below_step zb hb);(try clear hb);(try clear hb2);(try clear hk);(try clear hi)))
   go_ret2
   exact ⟨zi,zb⟩
 ·rw [if_neg c5] at H
  have c5b0:(t102 == 0)=false:=beq_eq_false_iff_ne.mpr c5
  have c5b1:(t102 != 0)=true:=bne_iff_ne.mpr c5
  simp only [Option.some.injEq,Prod.mk.injEq] at H
  obtain ⟨rfl,rfl⟩:=H
  go_enter Tryz.func40,Tryz.ntmps40
  go_wp2_with (first|((with_reducible refine gate_dst (N:=4) rfl ?_);refine box_event ?hg (N:=4) ?hd (cs:=#[.string a1_0,.slice A1_1 l1_1.length c1_1,.slice A1_2 l1_2.length c1_2]) (t:=50) ?hr ?_;(case hd=>rfl);(case hg=>rfl);(case hr=>exact zy);intro gb101 hg w18 hbox hb;have n0_:=Aside0.mk (below_step za hb);have n1_:=Aside0.mk (hbox);have n2_:=Aside0.mk ((by rw [hg];exact (below_size za):w.heap.size≤gb101));have n3_:=Aside0.mk ((by rw [hg];exact (below_size za):w.heap.size≤gb101));clear HB;have HB:=n0_;have BK101:=n1_;have GW101:=n2_;have GE101:=n3_;clear n0_ n1_ n2_ n3_;clear hb hbox hg;have hcz19_0:w18.cell? ⟨gb101,0,none⟩=some (.string a1_0):=(blk_cell BK101.out 0).trans rfl;have hcz19_1:w18.cell? ⟨gb101,1,none⟩=some (.slice A1_1 l1_1.length c1_1):=(blk_cell BK101.out 1).trans rfl;have hcz19_2:w18.cell? ⟨gb101,2,none⟩=some (.slice A1_2 l1_2.length c1_2):=(blk_cell BK101.out 2).trans rfl;have hfz19_0:=blk_frozen BK101.out 0;have hfz19_1:=blk_frozen BK101.out 1;have hfz19_2:=blk_frozen BK101.out 2)|((with_reducible refine gate_callee (f:=74) rfl ?_);refine goesL_ (some 14) rfl rfl Tryz.func74 zau rfl #[.slice A0 l0.length c0,.agg #[.string a1_0,.slice A1_1 l1_1.length c1_1,.slice A1_2 l1_2.length c1_2],.int .i64 a2] rfl zd ?_;(with_reducible refine (impl_notationCode.calls k _ _ l0 a1_0 _ _ l1_1 _ _ l1_2 a2 t102 _ ?side1 ?side2 ?side3 ?side4 ?side5 ?side6 A4.out).mono ?_);(case side1=>exact zbp);(case side2=>exact HC0.out);(case side3=>exact zs);(case side4=>exact HC1_1.out);(case side5=>exact zt);(case side6=>exact HC1_2.out);rintro e w20 ⟨rfl,hb⟩;refine ⟨_,rfl,?_⟩;replace BK101:=Aside0.mk (blk_below (g:=gb101) (o:=.cells #[.string a1_0,.slice A1_1 l1_1.length c1_1,.slice A1_2 l1_2.length c1_2] 50 (0,0)) zc hb);replace HB:=Aside0.mk (below_step zb hb);(try clear hb);(try clear hb2);(try clear hk);(try clear hi)))
  go_ret2
  exact ⟨zi,zb⟩

def spec_l03Pitch.f (a0:Int):Option (Bool):=(spec_l00In.f a0 (-12) 23).bind fun t101=>(some t101)
set_option maxHeartbeats 8000000 in
set_option maxRecDepth 100000 in
theorem spec_l03Pitch.calls (a0:Int) (r:Bool) (w:World) (h:spec_l03Pitch.f a0=some r) :
 Calls Tryz.prog 44 #[.int .i64 a0] w fun e w'=>e = .returned (.bool r)∧Drawn0 w w':=by
 have H:((spec_l00In.f a0 (-12) 23).bind fun t101=>(some t101))=some r:=h
 clear h
 replace H:=Option.bind_eq_some_iff.mp H
 obtain ⟨t101,A20,H⟩:=H
 replace H:(some t101)=some r:=H
 have A2:=Aside0.mk A20
 clear A20
 obtain rfl:=Option.some.inj H
 go_enter Tryz.func44,Tryz.ntmps44
 go_wp2_with (first|((with_reducible refine gate_callee (f:=77) rfl ?_);refine goesL_ (some 4) rfl rfl Tryz.func77 zau rfl #[.int .i64 a0,.int .i64 (-12),.int .i64 23] rfl zd ?_;(with_reducible refine (spec_l00In.calls a0 (-12) 23 t101 _ A2.out).mono ?_);rintro e w' ⟨rfl,⟨nd,rfl⟩⟩;refine ⟨_,rfl,?_⟩))
 go_ret
 exact ⟨zg,zj⟩

def spec_l09Length.f (a0:Int):Option (Bool):=(spec_l00In.f a0 1 64).bind fun t101=>(some t101)
set_option maxHeartbeats 8000000 in
set_option maxRecDepth 100000 in
theorem spec_l09Length.calls (a0:Int) (r:Bool) (w:World) (h:spec_l09Length.f a0=some r) :
 Calls Tryz.prog 111 #[.int .i64 a0] w fun e w'=>e = .returned (.bool r)∧Drawn0 w w':=by
 have H:((spec_l00In.f a0 1 64).bind fun t101=>(some t101))=some r:=h
 clear h
 replace H:=Option.bind_eq_some_iff.mp H
 obtain ⟨t101,A20,H⟩:=H
 replace H:(some t101)=some r:=H
 have A2:=Aside0.mk A20
 clear A20
 obtain rfl:=Option.some.inj H
 go_enter Tryz.func111,Tryz.ntmps111
 go_wp2_with (first|((with_reducible refine gate_callee (f:=77) rfl ?_);refine goesL_ (some 4) rfl rfl Tryz.func77 zau rfl #[.int .i64 a0,.int .i64 1,.int .i64 64] rfl zd ?_;(with_reducible refine (spec_l00In.calls a0 1 64 t101 _ A2.out).mono ?_);rintro e w' ⟨rfl,⟨nd,rfl⟩⟩;refine ⟨_,rfl,?_⟩))
 go_ret
 exact ⟨zg,zj⟩
end Go.Proofs.YtmoamoopoifnlaaGreatDoor.P
