/- Part b of what FnExactAddAnswers stands on: functions of the program as Lean functions with their walks, and plain lemmas. -/
import Derived.Test.YtocegmkifmdlcaaBFnExactAddAnswersa
import Derived.Test.YtocegmkifmdlcaaK
import Derived.Test.YtocegmkifmdlcaaWWords
import Derived.Lib.Hide
import Derived.Lib.SliceRun
namespace Go.Proofs.Ytocegmkifmdlcaa.P
open Go.RowKit Go.Proofs.YtocegmkifmdlcaaW.PrintWords Go.Proofs.YtocegmkifmdlcaaW.PrintLast Go.Proofs.YtocegmkifmdlcaaW.PrintMore
attribute [local go_sem] max2_int min2_int max_two min_two max_three min_three max_four min_four str_leq str_gtr str_geq
set_option linter.unusedVariables false
set_option linter.unusedSimpArgs false
mutual
def spec_AddAnswers.j0:Nat→List (S127)→List (S125)→Int→Bool→Option ((List (S127)) × Int)
 | 0,_,_,_,_=>none
 | k+1,x0,x1,x2,x21=>if x21=true then (some (([]:List (S127)),1)) else ((spec_l00In.f x2 1 10000).bind fun t103=>(if t103=true then ((spec_l23Missed.f k x0 x1).bind fun t104=>((some (([]:List (S127)):List (S127))).bind fun y107=>(if y107.length+x0.length<4398046511104 then (spec_AddAnswers.l0 k x0 x1 x2 t104 (y107++x0) 0) else (none)))) else (some (([]:List (S127)),2))))
def spec_AddAnswers.l0:Nat→List (S127)→List (S125)→Int→List (List Int)→List (S127)→Int→Option ((List (S127)) × Int)
 | 0,_,_,_,_,_,_=>none
 | k+1,x0,x1,x2,x8,x9,x10=>if x10<(x8.length:Int) then (if 0≤x10 then (if 0<((rd_L6 x8 x10).length:Int) then (if 0≤(rd (rd_L6 x8 x10) 0) then (if (rd (rd_L6 x8 x10) 0)<(x1.length:Int) then (if 1<((rd_L6 x8 x10).length:Int) then (if 0≤(rd (rd_L6 x8 x10) 1) then (if (rd (rd_L6 x8 x10) 1)<(x0.length:Int) then ((spec_l23One_e.f k [(⟨(rd_T125 x1 (rd (rd_L6 x8 x10) 0)).f1,wrap64 ((wrap64 (((rd_T127 x0 (rd (rd_L6 x8 x10) 1)).f1)+((rd_T127 x0 (rd (rd_L6 x8 x10) 1)).f2)))+((rd_T125 x1 (rd (rd_L6 x8 x10) 0)).f2)),x2⟩:S127)] 0).bind fun t122=>(if t122=true then ((spec_l23Begins.f k x9 ((rd_T125 x1 (rd (rd_L6 x8 x10) 0)).f1) (wrap64 ((wrap64 (((rd_T127 x0 (rd (rd_L6 x8 x10) 1)).f1)+((rd_T127 x0 (rd (rd_L6 x8 x10) 1)).f2)))+((rd_T125 x1 (rd (rd_L6 x8 x10) 0)).f2)))).bind fun t123=>(if t123=true then (spec_AddAnswers.l0 k x0 x1 x2 x8 x9 (wrap64 (x10+1))) else ((spec_l23Put.f k x9 ((rd_T125 x1 (rd (rd_L6 x8 x10) 0)).f1) (wrap64 ((wrap64 (((rd_T127 x0 (rd (rd_L6 x8 x10) 1)).f1)+((rd_T127 x0 (rd (rd_L6 x8 x10) 1)).f2)))+((rd_T125 x1 (rd (rd_L6 x8 x10) 0)).f2))) x2).bind fun t124=>(spec_AddAnswers.l0 k x0 x1 x2 x8 t124 (wrap64 (x10+1)))))) else (some (([]:List (S127)),6)))) else (none)) else (none)) else (none)) else (none)) else (none)) else (none)) else (none)) else (if (x9.length:Int) > 24 then (some (([]:List (S127)),5)) else (some (x9,0)))
end
def spec_AddAnswers.f (k:Nat) (l0:List (S127)) (l1:List (S125)) (a2:Int):Option ((List (S127)) × Int):=(spec_l23Ok.f k l0).bind fun t101=>(if t101=true then ((spec_l23Answers.f k l1).bind fun t102=>(spec_AddAnswers.j0 k l0 l1 a2 (!t102))) else (spec_AddAnswers.j0 k l0 l1 a2 true))
set_option maxHeartbeats 8000000 in
set_option maxRecDepth 100000 in
theorem spec_AddAnswers.calls (k:Nat) (A0:Option Addr) (c0:Nat) (l0:List (S127)) (A1:Option Addr) (c1:Nat) (l1:List (S125)) (a2:Int) (r1:List (S127)) (r2:Int) (w:World) (hr0:Kd.C k127 w A0 l0.length l0) (hc0:l0.length≤c0) (hr1:Kd.C k125 w A1 l1.length l1) (hc1:l1.length≤c1) (h:spec_AddAnswers.f k l0 l1 a2=some (r1,r2)) :
 Calls Try.prog 38 #[.slice A0 l0.length c0,.slice A1 l1.length c1,.int .i64 a2] w fun e w'=>∃v0_:Value,e = .returned (.tuple #[v0_,.int .i64 r2])∧Kd.R k127 127 w' w.heap.size (fun _=>True) v0_ r1∧Below w.heap.size w w':=by
 have hu125:=Try.underlying125
 have hu127:=Try.underlying127
 have HR0:=Aside0.mk hr0
 have HC0:=Aside0.mk hc0
 clear hr0 hc0
 have HR1:=Aside0.mk hr1
 have HC1:=Aside0.mk hc1
 clear hr1 hc1
 have HB:=Aside0.mk (Below.refl w.heap.size w)
 have H:((spec_l23Ok.f k l0).bind fun t101=>(if t101=true then ((spec_l23Answers.f k l1).bind fun t102=>(spec_AddAnswers.j0 k l0 l1 a2 (!t102))) else (spec_AddAnswers.j0 k l0 l1 a2 true)))=some (r1,r2):=h
 clear h
 have HC4:=Aside0.mk H
 clear H
 go_enter Try.func38,Try.ntmps38
 go_upto_region 1 with (fail)
 go_cut [21] (fun v21 wc=>∃(kq:Nat) (x21_3:Bool),v21 = .bool x21_3∧Aside0 (spec_AddAnswers.j0 kq l0 l1 a2 x21_3=some (r1,r2))∧Aside0 (kq≤k)∧Aside0 (Below w.heap.size w wc))
 case first=>
  have H:=HC4.out
  clear HC4
  replace H:=Option.bind_eq_some_iff.mp H
  obtain ⟨t101,A50,H⟩:=H
  replace H:(if t101=true then ((spec_l23Answers.f k l1).bind fun t102=>(spec_AddAnswers.j0 k l0 l1 a2 (!t102))) else (spec_AddAnswers.j0 k l0 l1 a2 true))=some (r1,r2):=H
  have A5:=Aside0.mk A50
  clear A50
  by_cases c6:t101=true
  ·subst c6
   have H1:((spec_l23Answers.f k l1).bind fun t102=>(spec_AddAnswers.j0 k l0 l1 a2 (!t102)))=some (r1,r2):=by rw [if_pos rfl] at H;exact H
   clear H
   have H:=H1
   clear H1
   replace H:=Option.bind_eq_some_iff.mp H
   obtain ⟨t102,A70,H⟩:=H
   replace H:(spec_AddAnswers.j0 k l0 l1 a2 (!t102))=some (r1,r2):=H
   have A7:=Aside0.mk A70
   clear A70
   have H':=Aside0.mk H
   clear H
   go_wp2_with (first|((with_reducible refine gate_callee (f:=85) rfl ?_);refine goesL_ (some 15) rfl rfl Try.func85 zbk rfl #[.slice A0 l0.length c0] rfl zc ?_;(with_reducible refine (spec_l23Ok.calls k _ _ l0 true _ ?side1 ?side2 A5.out).mono ?_);(case side1=>exact zbs);(case side2=>exact HC0.out);rintro e w' ⟨rfl,⟨nd,rfl⟩⟩;refine ⟨_,rfl,?_⟩)|(go_at_call 86;(with_reducible refine (spec_l23Answers.calls k _ _ l1 t102 _ ?side1 ?side2 A7.out).mono ?_);(case side1=>repeat (first|exact (Kd.C_below HR1.out za)|(with_reducible refine Kd.C_alloc ?_ _)|(with_reducible refine Kd.C_drewN ?_ _)|(with_reducible refine Kd.C_drew ?_)));(case side2=>exact HC1.out);rintro e w8 ⟨rfl,hb⟩;replace HB:=Aside0.mk (below_step za hb);(try clear hb);(try clear hb2);(try clear hk);(try clear hi)))
   go_meet
   case rel=>exact ⟨_,(!t102),zm,H',⟨by first|omega|exact Nat.le_refl _⟩,⟨za⟩⟩
  ·replace c6:=Bool.eq_false_iff.mpr c6
   subst c6
   have H1:(spec_AddAnswers.j0 k l0 l1 a2 true)=some (r1,r2):=by rw [if_neg (show ¬ (false=true) by decide)] at H;exact H
   clear H
   have H:=H1
   clear H1
   have H':=Aside0.mk H
   clear H
   go_wp2_with (first|((with_reducible refine gate_callee (f:=85) rfl ?_);refine goesL_ (some 15) rfl rfl Try.func85 zbk rfl #[.slice A0 l0.length c0] rfl zc ?_;(with_reducible refine (spec_l23Ok.calls k _ _ l0 false _ ?side1 ?side2 A5.out).mono ?_);(case side1=>exact zbs);(case side2=>exact HC0.out);rintro e w' ⟨rfl,⟨nd,rfl⟩⟩;refine ⟨_,rfl,?_⟩))
   go_meet
   case rel=>exact ⟨_,(true),zm,H',⟨by first|omega|exact Nat.le_refl _⟩,⟨za⟩⟩
 case rest=>
  clear HC4
  try clear c1
  try clear p2
  try clear c3
  try clear c6
  try clear c8
  obtain ⟨kq,x21_3,rfl,HA,HJ3,HB⟩:=hcut
  cases kq with
  | zero=>exact absurd HA.out (by simp [spec_AddAnswers.j0])
  | succ kj3=>
   have H:=HA.out
   clear HA
   simp only [spec_AddAnswers.j0] at H
   by_cases c9:x21_3=true
   ·subst c9
    have H1:(some (([]:List (S127)),1))=some (r1,r2):=by rw [if_pos rfl] at H;exact H
    clear H
    have H:=H1
    clear H1
    simp only [Option.some.injEq,Prod.mk.injEq] at H
    obtain ⟨rfl,rfl⟩:=H
    go_wp2
    go_ret2
    exact ⟨_,zk,zct,za⟩
   ·replace c9:=Bool.eq_false_iff.mpr c9
    subst c9
    have H1:((spec_l00In.f a2 1 10000).bind fun t103=>(if t103=true then ((spec_l23Missed.f kj3 l0 l1).bind fun t104=>((some (([]:List (S127)):List (S127))).bind fun y107=>(if y107.length+l0.length<4398046511104 then (spec_AddAnswers.l0 kj3 l0 l1 a2 t104 (y107++l0) 0) else (none)))) else (some (([]:List (S127)),2))))=some (r1,r2):=by rw [if_neg (show ¬ (false=true) by decide)] at H;exact H
    clear H
    have H:=H1
    clear H1
    replace H:=Option.bind_eq_some_iff.mp H
    obtain ⟨t103,A100,H⟩:=H
    replace H:(if t103=true then ((spec_l23Missed.f kj3 l0 l1).bind fun t104=>((some (([]:List (S127)):List (S127))).bind fun y107=>(if y107.length+l0.length<4398046511104 then (spec_AddAnswers.l0 kj3 l0 l1 a2 t104 (y107++l0) 0) else (none)))) else (some (([]:List (S127)),2)))=some (r1,r2):=H
    have A10:=Aside0.mk A100
    clear A100
    by_cases c11:t103=true
    ·subst c11
     have H1:((spec_l23Missed.f kj3 l0 l1).bind fun t104=>((some (([]:List (S127)):List (S127))).bind fun y107=>(if y107.length+l0.length<4398046511104 then (spec_AddAnswers.l0 kj3 l0 l1 a2 t104 (y107++l0) 0) else (none))))=some (r1,r2):=by rw [if_pos rfl] at H;exact H
     clear H
     have H:=H1
     clear H1
     replace H:=Option.bind_eq_some_iff.mp H
     obtain ⟨t104,A120,H⟩:=H
     replace H:((some (([]:List (S127)):List (S127))).bind fun y107=>(if y107.length+l0.length<4398046511104 then (spec_AddAnswers.l0 kj3 l0 l1 a2 t104 (y107++l0) 0) else (none)))=some (r1,r2):=H
     have A12:=Aside0.mk A120
     clear A120
     obtain ⟨y107,hy107⟩:∃y_:List (S127),y_=(([]:List (S127))):=⟨_,rfl⟩
     replace H:(if y107.length+l0.length<4398046511104 then (spec_AddAnswers.l0 kj3 l0 l1 a2 t104 (y107++l0) 0) else (none))=some (r1,r2):=by first|(rw [hy107];with_reducible exact H)|(have H2_:=(Option.bind_some _ _).symm.trans H;rw [hy107];with_reducible exact H2_)|(have H2_:=(Option.bind_some _ _).symm.trans H;with_reducible exact H2_)|with_reducible exact H|(rw [hy107];exact H)|exact H
     have Ny107:=Aside0.mk hy107
     clear hy107
     by_cases c13:y107.length+l0.length<4398046511104
     ·rw [if_pos c13] at H
      have LMc13:=Aside0.mk c13
      clear c13
      obtain ⟨y110,hy110⟩:∃y_:List (S127),y_=(y107++l0):=⟨_,rfl⟩
      replace H:(spec_AddAnswers.l0 kj3 l0 l1 a2 t104 y110 0)=some (r1,r2):=by first|(rw [hy110];with_reducible exact H)|(have H2_:=(Option.bind_some _ _).symm.trans H;rw [hy110];with_reducible exact H2_)|(have H2_:=(Option.bind_some _ _).symm.trans H;with_reducible exact H2_)|with_reducible exact H|(rw [hy110];exact H)|exact H
      have Ny110:=Aside0.mk hy110
      clear hy110
      have H':=Aside0.mk H
      clear H
      go_wp2_with (first|((with_reducible refine gate_callee (f:=87) rfl ?_);refine goesL_ (some 23) rfl rfl Try.func87 zbk rfl #[.int .i64 a2,.int .i64 1,.int .i64 10000] rfl zc ?_;(with_reducible refine (spec_l00In.calls a2 1 10000 true _ A10.out).mono ?_);rintro e w' ⟨rfl,⟨nd,rfl⟩⟩;refine ⟨_,rfl,?_⟩)|((with_reducible refine gate_callee (f:=88) rfl ?_);refine goesL_ (some 27) rfl rfl Try.func88 zbk rfl #[.slice A0 l0.length c0,.slice A1 l1.length c1] rfl zc ?_;(with_reducible refine (spec_l23Missed.calls kj3 _ _ l0 _ _ l1 t104 _ ?side1 ?side2 ?side3 ?side4 A12.out).mono ?_);(case side1=>repeat (first|exact (Kd.C_below HR0.out za)|(with_reducible refine Kd.C_alloc ?_ _)|(with_reducible refine Kd.C_drewN ?_ _)|(with_reducible refine Kd.C_drew ?_)));(case side2=>exact HC0.out);(case side3=>repeat (first|exact (Kd.C_below HR1.out za)|(with_reducible refine Kd.C_alloc ?_ _)|(with_reducible refine Kd.C_drewN ?_ _)|(with_reducible refine Kd.C_drew ?_)));(case side4=>exact HC1.out);rintro e w14 ⟨v105,rfl,ho0,hb⟩;refine ⟨_,rfl,?_⟩;have HO106:=Aside0.mk (Kd.S_lower ho0 (below_size za));replace HB:=Aside0.mk (below_step za hb);(try clear hb);(try clear hb2);(try clear hk);(try clear hi);(try clear ho0))|((with_reducible refine gate_dst (N:=28) rfl ?_);refine Kd.R_lit k127 _ 127 ?hg (N:=28) ?hd (xs:=([]:List (S127))) (inner:=[]) (ok:=fun _=>True) (okp:=fun _=>True) ?hr ?hp (fun _ hk=>hk) trivial (Below.refl _ _) (Nat.le_refl _) zdd ?_;(case hd=>rfl);(case hg=>rfl);(case hr=>exact zt);(case hp=>exact (Reps.none _ _));intro v108 w15 ho16 hb hg_ hnew_;clear hg_ hnew_;(first|rw [←Ny107.out] at ho16|(simp only [Int.reduceToNat] at ho16;rw [←Ny107.out] at ho16));replace HO106:=Aside0.mk (Kd.S_below (by (with_reducible repeat (first|apply Kd.S_alloc|apply Kd.S_drewN|apply Kd.S_drew));exact HO106.out) hb);have HO109:=Aside0.mk (Kd.R_lower ho16 (below_size za));replace HB:=Aside0.mk (below_step za hb);clear hb ho16)|((with_reducible refine gate_builtin (b:=.append) (xs:=#[.tmp 28,.tmp 29]) rfl ?_);at_builtin;refine Kd.R_append_rows k127 (w0:=w) w.heap.size rfl (.tmp 28) (.tmp 29) 61 127 (.agg #[(.string ⟨#[]⟩),(.int .i64 0),(.int .i64 0)]) 32 rfl Try.underlying61 info127 rfl zbq zbt v108 y107 l0 _ _ _ (fun _=>True) (fun _=>False) rfl rfl ?aO ?aR (fun _ _ h=>h) (fun _ h=>h.elim) ?aF ?aB ?aS ?aL ?_;(case aR=>exact zbs);(case aB=>exact za);(case aF=>exact (fun _ _=>trivial));(case aO=>exact (by (with_reducible repeat (first|apply Kd.R_alloc|apply Kd.R_drewN|apply Kd.R_drew));exact HO109.out));(case aS=>exact (below_size za));(case aL=>have:=LMc13.out;omega);intro v111 w17 ho hb hg hat;rw [←Ny110.out] at ho;replace HO106:=Aside0.mk (Kd.S_over' (by (with_reducible repeat (first|apply Kd.S_alloc|apply Kd.S_drewN|apply Kd.S_drew));exact HO106.out) (Kd.R_typed (by (with_reducible repeat (first|apply Kd.R_alloc|apply Kd.R_drewN|apply Kd.R_drew));exact HO109.out)) zbq hg);replace HB:=Aside0.mk (hb);have HO112:=Aside0.mk (ho);clear HO109;clear ho hb hg hat))
      go_loopg [9,10] kj3 (fun kq v9 v10 w'=>∃(x9_2:List (S127)) (x10_2:Int),v10 = .int .i64 x10_2∧Aside0 (spec_AddAnswers.l0 kq l0 l1 a2 t104 x9_2 x10_2=some (r1,r2))∧Aside0 (kq≤kj3)∧Aside0 (Kd.S (Kd.slice 2 (Kd.int .i64)) 126 w' w.heap.size (fun _=>True) v105 t104)∧Aside0 (Kd.R k127 127 w' w.heap.size (fun _=>True) v9 x9_2)∧Aside0 (Below w.heap.size w w'))
      case atStart=>exact ⟨(y110),(0),zm,H',⟨Nat.le_refl _⟩,⟨by (with_reducible repeat (first|apply Kd.S_alloc|apply Kd.S_drewN|apply Kd.S_drew));exact HO106.out⟩,⟨by (with_reducible repeat (first|apply Kd.R_alloc|apply Kd.R_drewN|apply Kd.R_drew));exact HO112.out⟩,⟨za⟩⟩
      case round=>
       clear H'
       try clear c1
       try clear p2
       try clear c3
       try clear c6
       try clear c8
       try clear c9
       try clear c11
       try clear c13
       try clear p2
       obtain ⟨x9_2,x10_2,rfl,HA,HK2,HO_8,HO_9,HB⟩:=hrel
       cases gk with
       | zero=>exact absurd HA.out (by simp [spec_AddAnswers.l0])
       | succ k2=>
        have H:=HA.out
        clear HA
        simp only [spec_AddAnswers.l0] at H
        by_cases c18:x10_2<(t104.length:Int)
        ·rw [if_pos c18] at H
         have c18b0:decide (x10_2<(t104.length:Int))=true:=decide_eq_true c18
         clear c18
         by_cases c19:0≤x10_2
         ·rw [if_pos c19] at H
          have c19b0:decide (0≤x10_2)=true:=decide_eq_true c19
          clear c19
          by_cases c20:0<((rd_L6 t104 x10_2).length:Int)
          ·rw [if_pos c20] at H
           have c20b0:decide (0<((rd_L6 t104 x10_2).length:Int))=true:=decide_eq_true c20
           have c20b1:decide (0<(rd_L6 t104 x10_2).length)=true:=decide_eq_true zbt
           clear c20
           by_cases c21:0≤(rd (rd_L6 t104 x10_2) 0)
           ·rw [if_pos c21] at H
            have c21b0:decide (0≤(rd (rd_L6 t104 x10_2) 0))=true:=decide_eq_true c21
            clear c21
            by_cases c22:(rd (rd_L6 t104 x10_2) 0)<(l1.length:Int)
            ·rw [if_pos c22] at H
             have c22b0:decide ((rd (rd_L6 t104 x10_2) 0)<(l1.length:Int))=true:=decide_eq_true c22
             clear c22
             by_cases c23:1<((rd_L6 t104 x10_2).length:Int)
             ·rw [if_pos c23] at H
              have c23b0:decide (1<((rd_L6 t104 x10_2).length:Int))=true:=decide_eq_true c23
              have c23b1:decide (1<(rd_L6 t104 x10_2).length)=true:=decide_eq_true zbt
              clear c23
              by_cases c24:0≤(rd (rd_L6 t104 x10_2) 1)
              ·rw [if_pos c24] at H
               have c24b0:decide (0≤(rd (rd_L6 t104 x10_2) 1))=true:=decide_eq_true c24
               clear c24
               by_cases c25:(rd (rd_L6 t104 x10_2) 1)<(l0.length:Int)
               ·rw [if_pos c25] at H
                have c25b0:decide ((rd (rd_L6 t104 x10_2) 1)<(l0.length:Int))=true:=decide_eq_true c25
                clear c25
                replace H:=Option.bind_eq_some_iff.mp H
                obtain ⟨t122,A260,H⟩:=H
                replace H:(if t122=true then ((spec_l23Begins.f k2 x9_2 ((rd_T125 l1 (rd (rd_L6 t104 x10_2) 0)).f1) (wrap64 ((wrap64 (((rd_T127 l0 (rd (rd_L6 t104 x10_2) 1)).f1)+((rd_T127 l0 (rd (rd_L6 t104 x10_2) 1)).f2)))+((rd_T125 l1 (rd (rd_L6 t104 x10_2) 0)).f2)))).bind fun t123=>(if t123=true then (spec_AddAnswers.l0 k2 l0 l1 a2 t104 x9_2 (wrap64 (x10_2+1))) else ((spec_l23Put.f k2 x9_2 ((rd_T125 l1 (rd (rd_L6 t104 x10_2) 0)).f1) (wrap64 ((wrap64 (((rd_T127 l0 (rd (rd_L6 t104 x10_2) 1)).f1)+((rd_T127 l0 (rd (rd_L6 t104 x10_2) 1)).f2)))+((rd_T125 l1 (rd (rd_L6 t104 x10_2) 0)).f2))) a2).bind fun t124=>(spec_AddAnswers.l0 k2 l0 l1 a2 t104 t124 (wrap64 (x10_2+1)))))) else (some (([]:List (S127)),6)))=some (r1,r2):=H
                have A26:=Aside0.mk A260
                clear A260
                by_cases c27:t122=true
                ·subst c27
                 have H1:((spec_l23Begins.f k2 x9_2 ((rd_T125 l1 (rd (rd_L6 t104 x10_2) 0)).f1) (wrap64 ((wrap64 (((rd_T127 l0 (rd (rd_L6 t104 x10_2) 1)).f1)+((rd_T127 l0 (rd (rd_L6 t104 x10_2) 1)).f2)))+((rd_T125 l1 (rd (rd_L6 t104 x10_2) 0)).f2)))).bind fun t123=>(if t123=true then (spec_AddAnswers.l0 k2 l0 l1 a2 t104 x9_2 (wrap64 (x10_2+1))) else ((spec_l23Put.f k2 x9_2 ((rd_T125 l1 (rd (rd_L6 t104 x10_2) 0)).f1) (wrap64 ((wrap64 (((rd_T127 l0 (rd (rd_L6 t104 x10_2) 1)).f1)+((rd_T127 l0 (rd (rd_L6 t104 x10_2) 1)).f2)))+((rd_T125 l1 (rd (rd_L6 t104 x10_2) 0)).f2))) a2).bind fun t124=>(spec_AddAnswers.l0 k2 l0 l1 a2 t104 t124 (wrap64 (x10_2+1))))))=some (r1,r2):=by rw [if_pos rfl] at H;exact H
                 clear H
                 have H:=H1
                 clear H1
                 replace H:=Option.bind_eq_some_iff.mp H
                 obtain ⟨t123,A280,H⟩:=H
                 replace H:(if t123=true then (spec_AddAnswers.l0 k2 l0 l1 a2 t104 x9_2 (wrap64 (x10_2+1))) else ((spec_l23Put.f k2 x9_2 ((rd_T125 l1 (rd (rd_L6 t104 x10_2) 0)).f1) (wrap64 ((wrap64 (((rd_T127 l0 (rd (rd_L6 t104 x10_2) 1)).f1)+((rd_T127 l0 (rd (rd_L6 t104 x10_2) 1)).f2)))+((rd_T125 l1 (rd (rd_L6 t104 x10_2) 0)).f2))) a2).bind fun t124=>(spec_AddAnswers.l0 k2 l0 l1 a2 t104 t124 (wrap64 (x10_2+1)))))=some (r1,r2):=H
                 have A28:=Aside0.mk A280
                 clear A280
                 by_cases c29:t123=true
                 ·subst c29
                  have H1:(spec_AddAnswers.l0 k2 l0 l1 a2 t104 x9_2 (wrap64 (x10_2+1)))=some (r1,r2):=by rw [if_pos rfl] at H;exact H
                  clear H
                  have H:=H1
                  clear H1
                  have H':=Aside0.mk H
                  clear H
                  obtain ⟨Ao30,co30,eo30⟩:=Kd.S_slice HO_8.out
                  subst eo30
                  have p113:0≤(x10_2:Int):=of_decide_eq_true zb
                  have q113:x10_2<(t104.length:Int):=of_decide_eq_true zb
                  obtain ⟨ad113,A113_0,c113_0,e113,hx113_0,hl113_0,hi113_0⟩:=at_L6 (Kd.S_reads' HO_8.out).2.2 x10_2 p113 q113
                  cases e113
                  obtain ⟨ce113,hce113,hMe113,hcc113⟩:=Kd.S_get HO_8.out [] x10_2 p113 (by first|exact q113|exact of_decide_eq_true zb|(have e_:=(Kd.S_reads' HO_8.out).1;omega))
                  obtain ⟨ve113_0,rfl,ge113_0⟩:=hMe113
                  have hv113_0:=hcc113 0 _ rfl
                  rw [Nat.add_zero,show ((Kd.slice 2 (Kd.int .i64))).sz=1 from rfl,Nat.mul_one] at hv113_0
                  replace hv113_0:=Option.some.inj (hv113_0.symm.trans hx113_0)
                  rw [hv113_0] at ge113_0
                  have HL113_0:=Aside0.mk (show Kd.R (Kd.int .i64) 2 _ _ _ _ (rd_L6 t104 x10_2) from ge113_0)
                  clear hv113_0 ge113_0
                  clear hcc113 hce113
                  have HR113_0:=Aside0.mk hi113_0
                  have HC113_0:=Aside0.mk hl113_0
                  clear hi113_0 hl113_0
                  replace p113:=eq_true p113
                  replace q113:=eq_true q113
                  have p114:0≤(0:Int):=zbt
                  have q114:0<((rd_L6 t104 x10_2).length:Int):=of_decide_eq_true zb
                  obtain ⟨ad114,e114,hx114_0⟩:=Kd.at_int zdh 0 p114 q114
                  cases e114
                  have qi114:(0<(rd_L6 t104 x10_2).length)=True:=eq_true zbt
                  (try rw [show ((0:Int)).toNat=0 from rfl] at hx114_0)
                  (try rw [Addr.add_zero'] at hx114_0)
                  replace p114:=eq_true p114
                  replace q114:=eq_true q114
                  have p115:0≤((rd (rd_L6 t104 x10_2) 0):Int):=of_decide_eq_true zb
                  have q115:(rd (rd_L6 t104 x10_2) 0)<(l1.length:Int):=of_decide_eq_true zb
                  obtain ⟨ad115,e115,hx115_0,hx115_1,hx115_2⟩:=at_T125 HR1.out (rd (rd_L6 t104 x10_2) 0) p115 q115
                  cases e115
                  replace hx115_0:=(HB.out.cell (World.block_lt_of_cell? w _ hx115_0)).trans hx115_0
                  replace hx115_1:=(HB.out.cell (World.block_lt_of_cell? w _ hx115_1)).trans hx115_1
                  replace hx115_2:=(HB.out.cell (World.block_lt_of_cell? w _ hx115_2)).trans hx115_2
                  replace p115:=eq_true p115
                  replace q115:=eq_true q115
                  go_wp2_with (first|((with_reducible refine gate_dst (N:=11) rfl ?_);refine box_event ?hg (N:=11) ?hd (cs:=#[.string (⟨#[]⟩:ByteArray),.string (⟨#[]⟩:ByteArray),.int .i64 0]) (t:=125) ?hr ?_;(case hd=>rfl);(case hg=>rfl);(case hr=>exact zt);intro gb116 hg w31 hbox hb;have n0_:=Aside0.mk (Kd.S_below zcz hb);have n1_:=Aside0.mk (Kd.R_below zda hb);have n2_:=Aside0.mk (Kd.R_below zde hb);have n3_:=Aside0.mk (Kd.R_reads' n2_.out).2.2;have n4_:=Aside0.mk (below_step za hb);have n5_:=Aside0.mk (hbox);have n6_:=Aside0.mk ((by rw [hg];exact (below_size za):w.heap.size≤gb116));have n7_:=Aside0.mk ((by rw [hg];exact (below_size za):w.heap.size≤gb116));clear HO_8;clear HO_9;clear HL113_0;clear HR113_0;clear HB;have HO_8:=n0_;have HO_9:=n1_;have HL113_0:=n2_;have HR113_0:=n3_;have HB:=n4_;have BK116:=n5_;have GW116:=n6_;have GE116:=n7_;clear n0_ n1_ n2_ n3_ n4_ n5_ n6_ n7_;clear hb hbox hg;have hcz32_0:w31.cell? ⟨gb116,0,none⟩=some (.string (⟨#[]⟩:ByteArray)):=(blk_cell BK116.out 0).trans rfl;have hcz32_1:w31.cell? ⟨gb116,1,none⟩=some (.string (⟨#[]⟩:ByteArray)):=(blk_cell BK116.out 1).trans rfl;have hcz32_2:w31.cell? ⟨gb116,2,none⟩=some (.int .i64 0):=(blk_cell BK116.out 2).trans rfl;have hfz32_0:=blk_frozen BK116.out 0;have hfz32_1:=blk_frozen BK116.out 1;have hfz32_2:=blk_frozen BK116.out 2)|((with_reducible refine gate_store (t:=125) (p:=11) rfl ?_);refine store_event (t:=125) (p:=11) (v:=?vo_w33) (w1:=(((w31.setCell ⟨gb116,0,none⟩ (.string ((rd_T125 l1 (rd (rd_L6 t104 x10_2) 0)).f0))).setCell ⟨gb116,1,none⟩ (.string ((rd_T125 l1 (rd (rd_L6 t104 x10_2) 0)).f1))).setCell ⟨gb116,2,none⟩ (.int .i64 ((rd_T125 l1 (rd (rd_L6 t104 x10_2) 0)).f2)))) ?hg ?ho ?hn ?hr ?_;(case ho=>rfl);(case hg=>rfl);(case hn=>rfl);(case hr=>exact zt);intro w33 hw;have n0_:Aside0 (Kd.S (Kd.slice 2 (Kd.int .i64)) 126 w33 w.heap.size (fun _=>True) (.slice (some ad113) t104.length co30) t104):=⟨zca⟩;have n1_:Aside0 (Kd.R k127 127 w33 w.heap.size (fun _=>True) u9 x9_2):=⟨zcb⟩;have n2_:Aside0 (Kd.R (Kd.int .i64) 2 w33 w.heap.size (fun k_=>some k_≠(.slice (some ad113) t104.length co30:Value).ownBlock) (.slice (some ad114) (rd_L6 t104 x10_2).length c113_0) (rd_L6 t104 x10_2)):=⟨zbz⟩;have n3_:Aside0 (w33.heap[gb116]?=some (.cells #[.string ((rd_T125 l1 (rd (rd_L6 t104 x10_2) 0)).f0),.string ((rd_T125 l1 (rd (rd_L6 t104 x10_2) 0)).f1),.int .i64 ((rd_T125 l1 (rd (rd_L6 t104 x10_2) 0)).f2)] 125 (0,0))):=⟨zaw⟩;have n4_:Aside0 (Below w.heap.size w w33):=⟨zdk⟩;clear hw;clear HO_8;clear HO_9;clear HL113_0;clear BK116;clear HB;have HO_8:=n0_;have HO_9:=n1_;have HL113_0:=n2_;have BK116:=n3_;have HB:=n4_;clear n0_ n1_ n2_ n3_ n4_;have p117:0≤(x10_2:Int):=of_decide_eq_true zb;have q117:x10_2<(t104.length:Int):=of_decide_eq_true zb;obtain ⟨ad117,A117_0,c117_0,e117,hx117_0,hl117_0,hi117_0⟩:=at_L6 (Kd.S_reads' HO_8.out).2.2 x10_2 p117 q117;obtain rfl:ad113=ad117:=(by injection e117);obtain ⟨ce117,hce117,hMe117,hcc117⟩:=Kd.S_get HO_8.out [] x10_2 p117 (by first|exact q117|exact of_decide_eq_true zb|(have e_:=(Kd.S_reads' HO_8.out).1;omega));obtain ⟨ve117_0,rfl,ge117_0⟩:=hMe117;have hv117_0:=hcc117 0 _ rfl;rw [Nat.add_zero,show ((Kd.slice 2 (Kd.int .i64))).sz=1 from rfl,Nat.mul_one] at hv117_0;replace hv117_0:=Option.some.inj (hv117_0.symm.trans hx117_0);rw [hv117_0] at ge117_0;have HL117_0:=Aside0.mk (show Kd.R (Kd.int .i64) 2 _ _ _ _ (rd_L6 t104 x10_2) from ge117_0);clear hv117_0 ge117_0;clear hcc117 hce117;have HR117_0:=Aside0.mk hi117_0;have HC117_0:=Aside0.mk hl117_0;clear hi117_0 hl117_0;replace p117:=eq_true p117;replace q117:=eq_true q117;have p118:0≤(1:Int):=zbt;have q118:1<((rd_L6 t104 x10_2).length:Int):=of_decide_eq_true zb;obtain ⟨ad118,e118,hx118_0⟩:=Kd.at_int zdi 1 p118 q118;cases e118;(try simp only [show (1:Int).toNat=1 from rfl,Nat.reduceMul,Nat.reduceEqDiff,Go.Addr.add,↓reduceIte] at hx118_0);have qi118:(1<(rd_L6 t104 x10_2).length)=True:=eq_true zbt;(try rw [show ((1:Int)).toNat=1 from rfl] at hx118_0);replace p118:=eq_true p118;replace q118:=eq_true q118;have p119:0≤((rd (rd_L6 t104 x10_2) 1):Int):=of_decide_eq_true zb;have q119:(rd (rd_L6 t104 x10_2) 1)<(l0.length:Int):=of_decide_eq_true zb;obtain ⟨ad119,e119,hx119_0,hx119_1,hx119_2⟩:=at_T127 HR0.out (rd (rd_L6 t104 x10_2) 1) p119 q119;cases e119;replace hx119_0:=(HB.out.cell (World.block_lt_of_cell? w _ hx119_0)).trans hx119_0;replace hx119_1:=(HB.out.cell (World.block_lt_of_cell? w _ hx119_1)).trans hx119_1;replace hx119_2:=(HB.out.cell (World.block_lt_of_cell? w _ hx119_2)).trans hx119_2;replace p119:=eq_true p119;replace q119:=eq_true q119)|((with_reducible refine gate_dst (N:=12) rfl ?_);refine box_event ?hg (N:=12) ?hd (cs:=#[.string (⟨#[]⟩:ByteArray),.int .i64 0,.int .i64 0]) (t:=127) ?hr ?_;(case hd=>rfl);(case hg=>rfl);(case hr=>exact zt);intro gb120 hg w34 hbox hb;have n0_:=Aside0.mk (Kd.S_below zcz hb);have n1_:=Aside0.mk (Kd.R_below (Kd.R_elderB zda gb120 (Nat.le_of_eq hg.symm)) hb);have n2_:=Aside0.mk (Kd.R_below zde hb);have n3_:=Aside0.mk (Kd.R_below (by (with_reducible repeat (first|apply Kd.R_alloc|apply Kd.R_drewN|apply Kd.R_drew));exact HL117_0.out) hb);have n4_:=Aside0.mk (Kd.R_reads' n2_.out).2.2;have n5_:=Aside0.mk (blk_below (g:=gb116) (o:=.cells #[.string ((rd_T125 l1 (rd (rd_L6 t104 x10_2) 0)).f0),.string ((rd_T125 l1 (rd (rd_L6 t104 x10_2) 0)).f1),.int .i64 ((rd_T125 l1 (rd (rd_L6 t104 x10_2) 0)).f2)] 125 (0,0)) zg hb);have n6_:=Aside0.mk (Kd.R_reads' n3_.out).2.2;have n7_:=Aside0.mk (below_step zag hb);have n8_:=Aside0.mk (hbox);have n9_:=Aside0.mk ((by rw [hg];exact (below_size zag):w.heap.size≤gb120));have n10_:=Aside0.mk ((by rw [hg];exact (below_size zag):w.heap.size≤gb120));have n11_:=Aside0.mk ((by rw [hg];exact Nat.ne_of_lt (blk_lt (g:=gb116) (o:=.cells #[.string ((rd_T125 l1 (rd (rd_L6 t104 x10_2) 0)).f0),.string ((rd_T125 l1 (rd (rd_L6 t104 x10_2) 0)).f1),.int .i64 ((rd_T125 l1 (rd (rd_L6 t104 x10_2) 0)).f2)] 125 (0,0)) zg):gb116≠gb120));have n12_:=Aside0.mk ((by rw [hg];exact Nat.ne_of_gt (blk_lt (g:=gb116) (o:=.cells #[.string ((rd_T125 l1 (rd (rd_L6 t104 x10_2) 0)).f0),.string ((rd_T125 l1 (rd (rd_L6 t104 x10_2) 0)).f1),.int .i64 ((rd_T125 l1 (rd (rd_L6 t104 x10_2) 0)).f2)] 125 (0,0)) zg):gb120≠gb116));clear HO_8;clear HO_9;clear HL113_0;clear HL117_0;clear HR113_0;clear BK116;clear HR117_0;clear HB;have HO_8:=n0_;have HO_9:=n1_;have HL113_0:=n2_;have HL117_0:=n3_;have HR113_0:=n4_;have BK116:=n5_;have HR117_0:=n6_;have HB:=n7_;have BK120:=n8_;have GW120:=n9_;have GE120:=n10_;have NB116_120:=n11_;have NB120_116:=n12_;clear n0_ n1_ n2_ n3_ n4_ n5_ n6_ n7_ n8_ n9_ n10_ n11_ n12_;clear hb hbox hg;have hnb35:=NB120_116.out;have hnc35:=NB116_120.out;have hcz36_0:w34.cell? ⟨gb120,0,none⟩=some (.string (⟨#[]⟩:ByteArray)):=(blk_cell BK120.out 0).trans rfl;have hcz36_1:w34.cell? ⟨gb120,1,none⟩=some (.int .i64 0):=(blk_cell BK120.out 1).trans rfl;have hcz36_2:w34.cell? ⟨gb120,2,none⟩=some (.int .i64 0):=(blk_cell BK120.out 2).trans rfl;have hfz36_0:=blk_frozen BK120.out 0;have hfz36_1:=blk_frozen BK120.out 1;have hfz36_2:=blk_frozen BK120.out 2;have hcz37_0:w34.cell? ⟨gb116,0,none⟩=some (.string ((rd_T125 l1 (rd (rd_L6 t104 x10_2) 0)).f0)):=(blk_cell BK116.out 0).trans rfl;have hcz37_1:w34.cell? ⟨gb116,1,none⟩=some (.string ((rd_T125 l1 (rd (rd_L6 t104 x10_2) 0)).f1)):=(blk_cell BK116.out 1).trans rfl;have hcz37_2:w34.cell? ⟨gb116,2,none⟩=some (.int .i64 ((rd_T125 l1 (rd (rd_L6 t104 x10_2) 0)).f2)):=(blk_cell BK116.out 2).trans rfl;have hfz37_0:=blk_frozen BK116.out 0;have hfz37_1:=blk_frozen BK116.out 1;have hfz37_2:=blk_frozen BK116.out 2)|((with_reducible refine gate_dst (N:=13) rfl ?_);refine box_event ?hg (N:=13) ?hd (cs:=#[.string (⟨#[]⟩:ByteArray),.int .i64 0,.int .i64 0]) (t:=127) ?hr ?_;(case hd=>rfl);(case hg=>rfl);(case hr=>exact zt);intro gb121 hg w38 hbox hb;have n0_:=Aside0.mk (Kd.S_below zce hb);have n1_:=Aside0.mk (Kd.R_below (Kd.R_elderB zby gb121 (Nat.le_of_eq hg.symm)) hb);have n2_:=Aside0.mk (Kd.R_below zal hb);have n3_:=Aside0.mk (Kd.R_below zam hb);have n4_:=Aside0.mk (Kd.C_below ((Kd.R_reads' zal).2.2) hb);have n5_:=Aside0.mk (blk_below (g:=gb116) (o:=.cells #[.string ((rd_T125 l1 (rd (rd_L6 t104 x10_2) 0)).f0),.string ((rd_T125 l1 (rd (rd_L6 t104 x10_2) 0)).f1),.int .i64 ((rd_T125 l1 (rd (rd_L6 t104 x10_2) 0)).f2)] 125 (0,0)) zq hb);have n6_:=Aside0.mk (Kd.C_below ((Kd.R_reads' zam).2.2) hb);have n7_:=Aside0.mk (blk_below (g:=gb120) (o:=.cells #[.string ((rd_T127 l0 (rd (rd_L6 t104 x10_2) 1)).f0),.int .i64 ((rd_T127 l0 (rd (rd_L6 t104 x10_2) 1)).f1),.int .i64 ((rd_T127 l0 (rd (rd_L6 t104 x10_2) 1)).f2)] 127 (0,0)) zh hb);have n8_:=Aside0.mk (below_step zbr hb);have n9_:=Aside0.mk (hbox);have n10_:=Aside0.mk ((by rw [hg];exact (below_size zbr):w.heap.size≤gb121));have n11_:=Aside0.mk ((by rw [hg];exact (below_size zbr):w.heap.size≤gb121));have n12_:=Aside0.mk ((by rw [hg];exact Nat.ne_of_lt (blk_lt (g:=gb116) (o:=.cells #[.string ((rd_T125 l1 (rd (rd_L6 t104 x10_2) 0)).f0),.string ((rd_T125 l1 (rd (rd_L6 t104 x10_2) 0)).f1),.int .i64 ((rd_T125 l1 (rd (rd_L6 t104 x10_2) 0)).f2)] 125 (0,0)) zq):gb116≠gb121));have n13_:=Aside0.mk ((by rw [hg];exact Nat.ne_of_gt (blk_lt (g:=gb116) (o:=.cells #[.string ((rd_T125 l1 (rd (rd_L6 t104 x10_2) 0)).f0),.string ((rd_T125 l1 (rd (rd_L6 t104 x10_2) 0)).f1),.int .i64 ((rd_T125 l1 (rd (rd_L6 t104 x10_2) 0)).f2)] 125 (0,0)) zq):gb121≠gb116));have n14_:=Aside0.mk ((by rw [hg];exact Nat.ne_of_lt (blk_lt (g:=gb120) (o:=.cells #[.string ((rd_T127 l0 (rd (rd_L6 t104 x10_2) 1)).f0),.int .i64 ((rd_T127 l0 (rd (rd_L6 t104 x10_2) 1)).f1),.int .i64 ((rd_T127 l0 (rd (rd_L6 t104 x10_2) 1)).f2)] 127 (0,0)) zh):gb120≠gb121));have n15_:=Aside0.mk ((by rw [hg];exact Nat.ne_of_gt (blk_lt (g:=gb120) (o:=.cells #[.string ((rd_T127 l0 (rd (rd_L6 t104 x10_2) 1)).f0),.int .i64 ((rd_T127 l0 (rd (rd_L6 t104 x10_2) 1)).f1),.int .i64 ((rd_T127 l0 (rd (rd_L6 t104 x10_2) 1)).f2)] 127 (0,0)) zh):gb121≠gb120));clear HO_8;clear HO_9;clear HL113_0;clear HL117_0;clear HR113_0;clear BK116;clear HR117_0;clear BK120;clear HB;have HO_8:=n0_;have HO_9:=n1_;have HL113_0:=n2_;have HL117_0:=n3_;have HR113_0:=n4_;have BK116:=n5_;have HR117_0:=n6_;have BK120:=n7_;have HB:=n8_;have BK121:=n9_;have GW121:=n10_;have GE121:=n11_;have NB116_121:=n12_;have NB121_116:=n13_;have NB120_121:=n14_;have NB121_120:=n15_;clear n0_ n1_ n2_ n3_ n4_ n5_ n6_ n7_ n8_ n9_ n10_ n11_ n12_ n13_ n14_ n15_;clear hb hbox hg;have hnb39:=NB121_116.out;have hnc39:=NB116_121.out;have hnb40:=NB121_120.out;have hnc40:=NB120_121.out;have hcz41_0:w38.cell? ⟨gb121,0,none⟩=some (.string (⟨#[]⟩:ByteArray)):=(blk_cell BK121.out 0).trans rfl;have hcz41_1:w38.cell? ⟨gb121,1,none⟩=some (.int .i64 0):=(blk_cell BK121.out 1).trans rfl;have hcz41_2:w38.cell? ⟨gb121,2,none⟩=some (.int .i64 0):=(blk_cell BK121.out 2).trans rfl;have hfz41_0:=blk_frozen BK121.out 0;have hfz41_1:=blk_frozen BK121.out 1;have hfz41_2:=blk_frozen BK121.out 2)|((with_reducible refine gate_callee (f:=89) rfl ?_);refine goesL_ (some 67) rfl rfl Try.func89 zbk rfl #[.pointer (some ((⟨gb121,0,none⟩:Addr).add ((0:Int).toNat*3)))] rfl zc ?_;(with_reducible refine (spec_l23One_e.calls k2 _ [(⟨(rd_T125 l1 (rd (rd_L6 t104 x10_2) 0)).f1,wrap64 ((wrap64 (((rd_T127 l0 (rd (rd_L6 t104 x10_2) 1)).f1)+((rd_T127 l0 (rd (rd_L6 t104 x10_2) 1)).f2)))+((rd_T125 l1 (rd (rd_L6 t104 x10_2) 0)).f2)),a2⟩:S127)] 0 true _ ?side1 ?side2 ?side3 A26.out).mono ?_);(case side1=>exact box_C (ca:=#[.string ((rd_T125 l1 (rd (rd_L6 t104 x10_2) 0)).f1),.int .i64 (wrap64 ((wrap64 (((rd_T127 l0 (rd (rd_L6 t104 x10_2) 1)).f1)+((rd_T127 l0 (rd (rd_L6 t104 x10_2) 1)).f2)))+((rd_T125 l1 (rd (rd_L6 t104 x10_2) 0)).f2))),.int .i64 a2]) (t:=127) zr rfl _ (k127_mk _ _));(case side2=>first|(with_reducible assumption)|assumption|decide|exact decide_eq_true zdd|exact decide_eq_true zbt);(case side3=>first|(with_reducible assumption)|assumption|decide|exact decide_eq_true zdd|exact decide_eq_true zbt);rintro e w' ⟨rfl,⟨nd,rfl⟩⟩;refine ⟨_,rfl,?_⟩;obtain ⟨Ao42,co42,eo42⟩:=Kd.R_slice HO_9.out;subst eo42)|((with_reducible refine gate_callee (f:=90) rfl ?_);refine goesL_ (some 74) rfl rfl Try.func90 zbk rfl #[.slice Ao42 x9_2.length co42,.string ((rd_T125 l1 (rd (rd_L6 t104 x10_2) 0)).f1),.int .i64 (wrap64 ((wrap64 (((rd_T127 l0 (rd (rd_L6 t104 x10_2) 1)).f1)+((rd_T127 l0 (rd (rd_L6 t104 x10_2) 1)).f2)))+((rd_T125 l1 (rd (rd_L6 t104 x10_2) 0)).f2)))] rfl zc ?_;(with_reducible refine (spec_l23Begins.calls k2 _ _ x9_2 ((rd_T125 l1 (rd (rd_L6 t104 x10_2) 0)).f1) (wrap64 ((wrap64 (((rd_T127 l0 (rd (rd_L6 t104 x10_2) 1)).f1)+((rd_T127 l0 (rd (rd_L6 t104 x10_2) 1)).f2)))+((rd_T125 l1 (rd (rd_L6 t104 x10_2) 0)).f2))) true _ ?side1 ?side2 A28.out).mono ?_);(case side1=>refine (Kd.R_reads' (e:=127) (base:=w.heap.size) (ok:=fun k_=>((True∧k_≠gb120)∧k_≠gb121)) (n:=x9_2.length) (c:=co42) ?_).2.2;exact zap);(case side2=>exact (Kd.R_reads' HO_9.out).2.1);rintro e w' ⟨rfl,⟨nd,rfl⟩⟩;refine ⟨_,rfl,?_⟩))
                  go_roundg k2
                  case measure=>have:=HJ3.out;have:=HK2.out;omega
                  case rel=>exact ⟨(x9_2),(wrap64 (x10_2+1)),zm,H',⟨by have:=HJ3.out;have:=HK2.out;omega⟩,⟨by (with_reducible repeat (first|apply Kd.S_alloc|apply Kd.S_drewN|apply Kd.S_drew));exact Kd.S_mono (Kd.S_far (p:=⟨gb121,2,none⟩) (Kd.S_far (p:=⟨gb121,1,none⟩) (Kd.S_far (p:=⟨gb121,0,none⟩) (Kd.S_types HO_8.out BK121.out zbq) (fun _ hk=>hk.2) (.string ((rd_T125 l1 (rd (rd_L6 t104 x10_2) 0)).f1))) (fun _ hk=>hk.2) (.int .i64 (wrap64 ((wrap64 (((rd_T127 l0 (rd (rd_L6 t104 x10_2) 1)).f1)+((rd_T127 l0 (rd (rd_L6 t104 x10_2) 1)).f2)))+((rd_T125 l1 (rd (rd_L6 t104 x10_2) 0)).f2))))) (fun _ hk=>hk.2) (.int .i64 a2)) (fun _ hk=>trivial)⟩,⟨by (with_reducible repeat (first|apply Kd.R_alloc|apply Kd.R_drewN|apply Kd.R_drew));exact Kd.R_mono (Kd.R_far (p:=⟨gb121,2,none⟩) (Kd.R_far (p:=⟨gb121,1,none⟩) (Kd.R_far (p:=⟨gb121,0,none⟩) (Kd.R_mono HO_9.out (fun k_ hk=>(⟨hk,hk.2⟩:_∧k_≠gb121))) (fun _ hk=>hk.2) (.string ((rd_T125 l1 (rd (rd_L6 t104 x10_2) 0)).f1))) (fun _ hk=>hk.2) (.int .i64 (wrap64 ((wrap64 (((rd_T127 l0 (rd (rd_L6 t104 x10_2) 1)).f1)+((rd_T127 l0 (rd (rd_L6 t104 x10_2) 1)).f2)))+((rd_T125 l1 (rd (rd_L6 t104 x10_2) 0)).f2))))) (fun _ hk=>hk.2) (.int .i64 a2)) (fun _ hk=>trivial)⟩,⟨zcp⟩⟩
                 ·replace c29:=Bool.eq_false_iff.mpr c29
                  subst c29
                  have H1:((spec_l23Put.f k2 x9_2 ((rd_T125 l1 (rd (rd_L6 t104 x10_2) 0)).f1) (wrap64 ((wrap64 (((rd_T127 l0 (rd (rd_L6 t104 x10_2) 1)).f1)+((rd_T127 l0 (rd (rd_L6 t104 x10_2) 1)).f2)))+((rd_T125 l1 (rd (rd_L6 t104 x10_2) 0)).f2))) a2).bind fun t124=>(spec_AddAnswers.l0 k2 l0 l1 a2 t104 t124 (wrap64 (x10_2+1))))=some (r1,r2):=by rw [if_neg (show ¬ (false=true) by decide)] at H;exact H
                  clear H
                  have H:=H1
                  clear H1
                  replace H:=Option.bind_eq_some_iff.mp H
                  obtain ⟨t124,A430,H⟩:=H
                  replace H:(spec_AddAnswers.l0 k2 l0 l1 a2 t104 t124 (wrap64 (x10_2+1)))=some (r1,r2):=H
                  have A43:=Aside0.mk A430
                  clear A430
                  have H':=Aside0.mk H
                  clear H
                  obtain ⟨Ao44,co44,eo44⟩:=Kd.S_slice HO_8.out
                  subst eo44
                  have p113:0≤(x10_2:Int):=of_decide_eq_true zb
                  have q113:x10_2<(t104.length:Int):=of_decide_eq_true zb
                  obtain ⟨ad113,A113_0,c113_0,e113,hx113_0,hl113_0,hi113_0⟩:=at_L6 (Kd.S_reads' HO_8.out).2.2 x10_2 p113 q113
                  cases e113
                  obtain ⟨ce113,hce113,hMe113,hcc113⟩:=Kd.S_get HO_8.out [] x10_2 p113 (by first|exact q113|exact of_decide_eq_true zb|(have e_:=(Kd.S_reads' HO_8.out).1;omega))
                  obtain ⟨ve113_0,rfl,ge113_0⟩:=hMe113
                  have hv113_0:=hcc113 0 _ rfl
                  rw [Nat.add_zero,show ((Kd.slice 2 (Kd.int .i64))).sz=1 from rfl,Nat.mul_one] at hv113_0
                  replace hv113_0:=Option.some.inj (hv113_0.symm.trans hx113_0)
                  rw [hv113_0] at ge113_0
                  have HL113_0:=Aside0.mk (show Kd.R (Kd.int .i64) 2 _ _ _ _ (rd_L6 t104 x10_2) from ge113_0)
                  clear hv113_0 ge113_0
                  clear hcc113 hce113
                  have HR113_0:=Aside0.mk hi113_0
                  have HC113_0:=Aside0.mk hl113_0
                  clear hi113_0 hl113_0
                  replace p113:=eq_true p113
                  replace q113:=eq_true q113
                  have p114:0≤(0:Int):=zbt
                  have q114:0<((rd_L6 t104 x10_2).length:Int):=of_decide_eq_true zb
                  obtain ⟨ad114,e114,hx114_0⟩:=Kd.at_int zdh 0 p114 q114
                  cases e114
                  have qi114:(0<(rd_L6 t104 x10_2).length)=True:=eq_true zbt
                  (try rw [show ((0:Int)).toNat=0 from rfl] at hx114_0)
                  (try rw [Addr.add_zero'] at hx114_0)
                  replace p114:=eq_true p114
                  replace q114:=eq_true q114
                  have p115:0≤((rd (rd_L6 t104 x10_2) 0):Int):=of_decide_eq_true zb
                  have q115:(rd (rd_L6 t104 x10_2) 0)<(l1.length:Int):=of_decide_eq_true zb
                  obtain ⟨ad115,e115,hx115_0,hx115_1,hx115_2⟩:=at_T125 HR1.out (rd (rd_L6 t104 x10_2) 0) p115 q115
                  cases e115
                  replace hx115_0:=(HB.out.cell (World.block_lt_of_cell? w _ hx115_0)).trans hx115_0
                  replace hx115_1:=(HB.out.cell (World.block_lt_of_cell? w _ hx115_1)).trans hx115_1
                  replace hx115_2:=(HB.out.cell (World.block_lt_of_cell? w _ hx115_2)).trans hx115_2
                  replace p115:=eq_true p115
                  replace q115:=eq_true q115
                  go_wp2_with (first|((with_reducible refine gate_dst (N:=11) rfl ?_);refine box_event ?hg (N:=11) ?hd (cs:=#[.string (⟨#[]⟩:ByteArray),.string (⟨#[]⟩:ByteArray),.int .i64 0]) (t:=125) ?hr ?_;(case hd=>rfl);(case hg=>rfl);(case hr=>exact zt);intro gb116 hg w45 hbox hb;have n0_:=Aside0.mk (Kd.S_below zcz hb);have n1_:=Aside0.mk (Kd.R_below zda hb);have n2_:=Aside0.mk (Kd.R_below zde hb);have n3_:=Aside0.mk (Kd.R_reads' n2_.out).2.2;have n4_:=Aside0.mk (below_step za hb);have n5_:=Aside0.mk (hbox);have n6_:=Aside0.mk ((by rw [hg];exact (below_size za):w.heap.size≤gb116));have n7_:=Aside0.mk ((by rw [hg];exact (below_size za):w.heap.size≤gb116));clear HO_8;clear HO_9;clear HL113_0;clear HR113_0;clear HB;have HO_8:=n0_;have HO_9:=n1_;have HL113_0:=n2_;have HR113_0:=n3_;have HB:=n4_;have BK116:=n5_;have GW116:=n6_;have GE116:=n7_;clear n0_ n1_ n2_ n3_ n4_ n5_ n6_ n7_;clear hb hbox hg;have hcz46_0:w45.cell? ⟨gb116,0,none⟩=some (.string (⟨#[]⟩:ByteArray)):=(blk_cell BK116.out 0).trans rfl;have hcz46_1:w45.cell? ⟨gb116,1,none⟩=some (.string (⟨#[]⟩:ByteArray)):=(blk_cell BK116.out 1).trans rfl;have hcz46_2:w45.cell? ⟨gb116,2,none⟩=some (.int .i64 0):=(blk_cell BK116.out 2).trans rfl;have hfz46_0:=blk_frozen BK116.out 0;have hfz46_1:=blk_frozen BK116.out 1;have hfz46_2:=blk_frozen BK116.out 2)|((with_reducible refine gate_store (t:=125) (p:=11) rfl ?_);refine store_event (t:=125) (p:=11) (v:=?vo_w47) (w1:=(((w45.setCell ⟨gb116,0,none⟩ (.string ((rd_T125 l1 (rd (rd_L6 t104 x10_2) 0)).f0))).setCell ⟨gb116,1,none⟩ (.string ((rd_T125 l1 (rd (rd_L6 t104 x10_2) 0)).f1))).setCell ⟨gb116,2,none⟩ (.int .i64 ((rd_T125 l1 (rd (rd_L6 t104 x10_2) 0)).f2)))) ?hg ?ho ?hn ?hr ?_;(case ho=>rfl);(case hg=>rfl);(case hn=>rfl);(case hr=>exact zt);intro w47 hw;have n0_:Aside0 (Kd.S (Kd.slice 2 (Kd.int .i64)) 126 w47 w.heap.size (fun _=>True) (.slice (some ad113) t104.length co44) t104):=⟨zca⟩;have n1_:Aside0 (Kd.R k127 127 w47 w.heap.size (fun _=>True) u9 x9_2):=⟨zcb⟩;have n2_:Aside0 (Kd.R (Kd.int .i64) 2 w47 w.heap.size (fun k_=>some k_≠(.slice (some ad113) t104.length co44:Value).ownBlock) (.slice (some ad114) (rd_L6 t104 x10_2).length c113_0) (rd_L6 t104 x10_2)):=⟨zbz⟩;have n3_:Aside0 (w47.heap[gb116]?=some (.cells #[.string ((rd_T125 l1 (rd (rd_L6 t104 x10_2) 0)).f0),.string ((rd_T125 l1 (rd (rd_L6 t104 x10_2) 0)).f1),.int .i64 ((rd_T125 l1 (rd (rd_L6 t104 x10_2) 0)).f2)] 125 (0,0))):=⟨zaw⟩;have n4_:Aside0 (Below w.heap.size w w47):=⟨zdk⟩;clear hw;clear HO_8;clear HO_9;clear HL113_0;clear BK116;clear HB;have HO_8:=n0_;have HO_9:=n1_;have HL113_0:=n2_;have BK116:=n3_;have HB:=n4_;clear n0_ n1_ n2_ n3_ n4_;have p117:0≤(x10_2:Int):=of_decide_eq_true zb;have q117:x10_2<(t104.length:Int):=of_decide_eq_true zb;obtain ⟨ad117,A117_0,c117_0,e117,hx117_0,hl117_0,hi117_0⟩:=at_L6 (Kd.S_reads' HO_8.out).2.2 x10_2 p117 q117;obtain rfl:ad113=ad117:=(by injection e117);obtain ⟨ce117,hce117,hMe117,hcc117⟩:=Kd.S_get HO_8.out [] x10_2 p117 (by first|exact q117|exact of_decide_eq_true zb|(have e_:=(Kd.S_reads' HO_8.out).1;omega));obtain ⟨ve117_0,rfl,ge117_0⟩:=hMe117;have hv117_0:=hcc117 0 _ rfl;rw [Nat.add_zero,show ((Kd.slice 2 (Kd.int .i64))).sz=1 from rfl,Nat.mul_one] at hv117_0;replace hv117_0:=Option.some.inj (hv117_0.symm.trans hx117_0);rw [hv117_0] at ge117_0;have HL117_0:=Aside0.mk (show Kd.R (Kd.int .i64) 2 _ _ _ _ (rd_L6 t104 x10_2) from ge117_0);clear hv117_0 ge117_0;clear hcc117 hce117;have HR117_0:=Aside0.mk hi117_0;have HC117_0:=Aside0.mk hl117_0;clear hi117_0 hl117_0;replace p117:=eq_true p117;replace q117:=eq_true q117;have p118:0≤(1:Int):=zbt;have q118:1<((rd_L6 t104 x10_2).length:Int):=of_decide_eq_true zb;obtain ⟨ad118,e118,hx118_0⟩:=Kd.at_int zdi 1 p118 q118;cases e118;(try simp only [show (1:Int).toNat=1 from rfl,Nat.reduceMul,Nat.reduceEqDiff,Go.Addr.add,↓reduceIte] at hx118_0);have qi118:(1<(rd_L6 t104 x10_2).length)=True:=eq_true zbt;(try rw [show ((1:Int)).toNat=1 from rfl] at hx118_0);replace p118:=eq_true p118;replace q118:=eq_true q118;have p119:0≤((rd (rd_L6 t104 x10_2) 1):Int):=of_decide_eq_true zb;have q119:(rd (rd_L6 t104 x10_2) 1)<(l0.length:Int):=of_decide_eq_true zb;obtain ⟨ad119,e119,hx119_0,hx119_1,hx119_2⟩:=at_T127 HR0.out (rd (rd_L6 t104 x10_2) 1) p119 q119;cases e119;replace hx119_0:=(HB.out.cell (World.block_lt_of_cell? w _ hx119_0)).trans hx119_0;replace hx119_1:=(HB.out.cell (World.block_lt_of_cell? w _ hx119_1)).trans hx119_1;replace hx119_2:=(HB.out.cell (World.block_lt_of_cell? w _ hx119_2)).trans hx119_2;replace p119:=eq_true p119;replace q119:=eq_true q119)|((with_reducible refine gate_dst (N:=12) rfl ?_);refine box_event ?hg (N:=12) ?hd (cs:=#[.string (⟨#[]⟩:ByteArray),.int .i64 0,.int .i64 0]) (t:=127) ?hr ?_;(case hd=>rfl);(case hg=>rfl);(case hr=>exact zt);intro gb120 hg w48 hbox hb;have n0_:=Aside0.mk (Kd.S_below zcz hb);have n1_:=Aside0.mk (Kd.R_below (Kd.R_elderB zda gb120 (Nat.le_of_eq hg.symm)) hb);have n2_:=Aside0.mk (Kd.R_below zde hb);have n3_:=Aside0.mk (Kd.R_below (by (with_reducible repeat (first|apply Kd.R_alloc|apply Kd.R_drewN|apply Kd.R_drew));exact HL117_0.out) hb);have n4_:=Aside0.mk (Kd.R_reads' n2_.out).2.2;have n5_:=Aside0.mk (blk_below (g:=gb116) (o:=.cells #[.string ((rd_T125 l1 (rd (rd_L6 t104 x10_2) 0)).f0),.string ((rd_T125 l1 (rd (rd_L6 t104 x10_2) 0)).f1),.int .i64 ((rd_T125 l1 (rd (rd_L6 t104 x10_2) 0)).f2)] 125 (0,0)) zg hb);have n6_:=Aside0.mk (Kd.R_reads' n3_.out).2.2;have n7_:=Aside0.mk (below_step zag hb);have n8_:=Aside0.mk (hbox);have n9_:=Aside0.mk ((by rw [hg];exact (below_size zag):w.heap.size≤gb120));have n10_:=Aside0.mk ((by rw [hg];exact (below_size zag):w.heap.size≤gb120));have n11_:=Aside0.mk ((by rw [hg];exact Nat.ne_of_lt (blk_lt (g:=gb116) (o:=.cells #[.string ((rd_T125 l1 (rd (rd_L6 t104 x10_2) 0)).f0),.string ((rd_T125 l1 (rd (rd_L6 t104 x10_2) 0)).f1),.int .i64 ((rd_T125 l1 (rd (rd_L6 t104 x10_2) 0)).f2)] 125 (0,0)) zg):gb116≠gb120));have n12_:=Aside0.mk ((by rw [hg];exact Nat.ne_of_gt (blk_lt (g:=gb116) (o:=.cells #[.string ((rd_T125 l1 (rd (rd_L6 t104 x10_2) 0)).f0),.string ((rd_T125 l1 (rd (rd_L6 t104 x10_2) 0)).f1),.int .i64 ((rd_T125 l1 (rd (rd_L6 t104 x10_2) 0)).f2)] 125 (0,0)) zg):gb120≠gb116));clear HO_8;clear HO_9;clear HL113_0;clear HL117_0;clear HR113_0;clear BK116;clear HR117_0;clear HB;have HO_8:=n0_;have HO_9:=n1_;have HL113_0:=n2_;have HL117_0:=n3_;have HR113_0:=n4_;have BK116:=n5_;have HR117_0:=n6_;have HB:=n7_;have BK120:=n8_;have GW120:=n9_;have GE120:=n10_;have NB116_120:=n11_;have NB120_116:=n12_;clear n0_ n1_ n2_ n3_ n4_ n5_ n6_ n7_ n8_ n9_ n10_ n11_ n12_;clear hb hbox hg;have hnb49:=NB120_116.out;have hnc49:=NB116_120.out;have hcz50_0:w48.cell? ⟨gb120,0,none⟩=some (.string (⟨#[]⟩:ByteArray)):=(blk_cell BK120.out 0).trans rfl;have hcz50_1:w48.cell? ⟨gb120,1,none⟩=some (.int .i64 0):=(blk_cell BK120.out 1).trans rfl;have hcz50_2:w48.cell? ⟨gb120,2,none⟩=some (.int .i64 0):=(blk_cell BK120.out 2).trans rfl;have hfz50_0:=blk_frozen BK120.out 0;have hfz50_1:=blk_frozen BK120.out 1;have hfz50_2:=blk_frozen BK120.out 2;have hcz51_0:w48.cell? ⟨gb116,0,none⟩=some (.string ((rd_T125 l1 (rd (rd_L6 t104 x10_2) 0)).f0)):=(blk_cell BK116.out 0).trans rfl;have hcz51_1:w48.cell? ⟨gb116,1,none⟩=some (.string ((rd_T125 l1 (rd (rd_L6 t104 x10_2) 0)).f1)):=(blk_cell BK116.out 1).trans rfl;have hcz51_2:w48.cell? ⟨gb116,2,none⟩=some (.int .i64 ((rd_T125 l1 (rd (rd_L6 t104 x10_2) 0)).f2)):=(blk_cell BK116.out 2).trans rfl;have hfz51_0:=blk_frozen BK116.out 0;have hfz51_1:=blk_frozen BK116.out 1;have hfz51_2:=blk_frozen BK116.out 2)|((with_reducible refine gate_dst (N:=13) rfl ?_);refine box_event ?hg (N:=13) ?hd (cs:=#[.string (⟨#[]⟩:ByteArray),.int .i64 0,.int .i64 0]) (t:=127) ?hr ?_;(case hd=>rfl);(case hg=>rfl);(case hr=>exact zt);intro gb121 hg w52 hbox hb;have n0_:=Aside0.mk (Kd.S_below zce hb);have n1_:=Aside0.mk (Kd.R_below (Kd.R_elderB zby gb121 (Nat.le_of_eq hg.symm)) hb);have n2_:=Aside0.mk (Kd.R_below zal hb);have n3_:=Aside0.mk (Kd.R_below zam hb);have n4_:=Aside0.mk (Kd.C_below ((Kd.R_reads' zal).2.2) hb);have n5_:=Aside0.mk (blk_below (g:=gb116) (o:=.cells #[.string ((rd_T125 l1 (rd (rd_L6 t104 x10_2) 0)).f0),.string ((rd_T125 l1 (rd (rd_L6 t104 x10_2) 0)).f1),.int .i64 ((rd_T125 l1 (rd (rd_L6 t104 x10_2) 0)).f2)] 125 (0,0)) zq hb);have n6_:=Aside0.mk (Kd.C_below ((Kd.R_reads' zam).2.2) hb);have n7_:=Aside0.mk (blk_below (g:=gb120) (o:=.cells #[.string ((rd_T127 l0 (rd (rd_L6 t104 x10_2) 1)).f0),.int .i64 ((rd_T127 l0 (rd (rd_L6 t104 x10_2) 1)).f1),.int .i64 ((rd_T127 l0 (rd (rd_L6 t104 x10_2) 1)).f2)] 127 (0,0)) zh hb);have n8_:=Aside0.mk (below_step zbr hb);have n9_:=Aside0.mk (hbox);have n10_:=Aside0.mk ((by rw [hg];exact (below_size zbr):w.heap.size≤gb121));have n11_:=Aside0.mk ((by rw [hg];exact (below_size zbr):w.heap.size≤gb121));have n12_:=Aside0.mk ((by rw [hg];exact Nat.ne_of_lt (blk_lt (g:=gb116) (o:=.cells #[.string ((rd_T125 l1 (rd (rd_L6 t104 x10_2) 0)).f0),.string ((rd_T125 l1 (rd (rd_L6 t104 x10_2) 0)).f1),.int .i64 ((rd_T125 l1 (rd (rd_L6 t104 x10_2) 0)).f2)] 125 (0,0)) zq):gb116≠gb121));have n13_:=Aside0.mk ((by rw [hg];exact Nat.ne_of_gt (blk_lt (g:=gb116) (o:=.cells #[.string ((rd_T125 l1 (rd (rd_L6 t104 x10_2) 0)).f0),.string ((rd_T125 l1 (rd (rd_L6 t104 x10_2) 0)).f1),.int .i64 ((rd_T125 l1 (rd (rd_L6 t104 x10_2) 0)).f2)] 125 (0,0)) zq):gb121≠gb116));have n14_:=Aside0.mk ((by rw [hg];exact Nat.ne_of_lt (blk_lt (g:=gb120) (o:=.cells #[.string ((rd_T127 l0 (rd (rd_L6 t104 x10_2) 1)).f0),.int .i64 ((rd_T127 l0 (rd (rd_L6 t104 x10_2) 1)).f1),.int .i64 ((rd_T127 l0 (rd (rd_L6 t104 x10_2) 1)).f2)] 127 (0,0)) zh):gb120≠gb121));have n15_:=Aside0.mk ((by rw [hg];exact Nat.ne_of_gt (blk_lt (g:=gb120) (o:=.cells #[.string ((rd_T127 l0 (rd (rd_L6 t104 x10_2) 1)).f0),.int .i64 ((rd_T127 l0 (rd (rd_L6 t104 x10_2) 1)).f1),.int .i64 ((rd_T127 l0 (rd (rd_L6 t104 x10_2) 1)).f2)] 127 (0,0)) zh):gb121≠gb120));clear HO_8;clear HO_9;clear HL113_0;clear HL117_0;clear HR113_0;clear BK116;clear HR117_0;clear BK120;clear HB;have HO_8:=n0_;have HO_9:=n1_;have HL113_0:=n2_;have HL117_0:=n3_;have HR113_0:=n4_;have BK116:=n5_;have HR117_0:=n6_;have BK120:=n7_;have HB:=n8_;have BK121:=n9_;have GW121:=n10_;have GE121:=n11_;have NB116_121:=n12_;have NB121_116:=n13_;have NB120_121:=n14_;have NB121_120:=n15_;clear n0_ n1_ n2_ n3_ n4_ n5_ n6_ n7_ n8_ n9_ n10_ n11_ n12_ n13_ n14_ n15_;clear hb hbox hg;have hnb53:=NB121_116.out;have hnc53:=NB116_121.out;have hnb54:=NB121_120.out;have hnc54:=NB120_121.out;have hcz55_0:w52.cell? ⟨gb121,0,none⟩=some (.string (⟨#[]⟩:ByteArray)):=(blk_cell BK121.out 0).trans rfl;have hcz55_1:w52.cell? ⟨gb121,1,none⟩=some (.int .i64 0):=(blk_cell BK121.out 1).trans rfl;have hcz55_2:w52.cell? ⟨gb121,2,none⟩=some (.int .i64 0):=(blk_cell BK121.out 2).trans rfl;have hfz55_0:=blk_frozen BK121.out 0;have hfz55_1:=blk_frozen BK121.out 1;have hfz55_2:=blk_frozen BK121.out 2)|((with_reducible refine gate_callee (f:=89) rfl ?_);refine goesL_ (some 67) rfl rfl Try.func89 zbk rfl #[.pointer (some ((⟨gb121,0,none⟩:Addr).add ((0:Int).toNat*3)))] rfl zc ?_;(with_reducible refine (spec_l23One_e.calls k2 _ [(⟨(rd_T125 l1 (rd (rd_L6 t104 x10_2) 0)).f1,wrap64 ((wrap64 (((rd_T127 l0 (rd (rd_L6 t104 x10_2) 1)).f1)+((rd_T127 l0 (rd (rd_L6 t104 x10_2) 1)).f2)))+((rd_T125 l1 (rd (rd_L6 t104 x10_2) 0)).f2)),a2⟩:S127)] 0 true _ ?side1 ?side2 ?side3 A26.out).mono ?_);(case side1=>exact box_C (ca:=#[.string ((rd_T125 l1 (rd (rd_L6 t104 x10_2) 0)).f1),.int .i64 (wrap64 ((wrap64 (((rd_T127 l0 (rd (rd_L6 t104 x10_2) 1)).f1)+((rd_T127 l0 (rd (rd_L6 t104 x10_2) 1)).f2)))+((rd_T125 l1 (rd (rd_L6 t104 x10_2) 0)).f2))),.int .i64 a2]) (t:=127) zr rfl _ (k127_mk _ _));(case side2=>first|(with_reducible assumption)|assumption|decide|exact decide_eq_true zdd|exact decide_eq_true zbt);(case side3=>first|(with_reducible assumption)|assumption|decide|exact decide_eq_true zdd|exact decide_eq_true zbt);rintro e w' ⟨rfl,⟨nd,rfl⟩⟩;refine ⟨_,rfl,?_⟩;obtain ⟨Ao56,co56,eo56⟩:=Kd.R_slice HO_9.out;subst eo56)|((with_reducible refine gate_callee (f:=90) rfl ?_);refine goesL_ (some 74) rfl rfl Try.func90 zbk rfl #[.slice Ao56 x9_2.length co56,.string ((rd_T125 l1 (rd (rd_L6 t104 x10_2) 0)).f1),.int .i64 (wrap64 ((wrap64 (((rd_T127 l0 (rd (rd_L6 t104 x10_2) 1)).f1)+((rd_T127 l0 (rd (rd_L6 t104 x10_2) 1)).f2)))+((rd_T125 l1 (rd (rd_L6 t104 x10_2) 0)).f2)))] rfl zc ?_;(with_reducible refine (spec_l23Begins.calls k2 _ _ x9_2 ((rd_T125 l1 (rd (rd_L6 t104 x10_2) 0)).f1) (wrap64 ((wrap64 (((rd_T127 l0 (rd (rd_L6 t104 x10_2) 1)).f1)+((rd_T127 l0 (rd (rd_L6 t104 x10_2) 1)).f2)))+((rd_T125 l1 (rd (rd_L6 t104 x10_2) 0)).f2))) false _ ?side1 ?side2 A28.out).mono ?_);(case side1=>refine (Kd.R_reads' (e:=127) (base:=w.heap.size) (ok:=fun k_=>((True∧k_≠gb120)∧k_≠gb121)) (n:=x9_2.length) (c:=co56) ?_).2.2;exact zap);(case side2=>exact (Kd.R_reads' HO_9.out).2.1);rintro e w' ⟨rfl,⟨nd,rfl⟩⟩;refine ⟨_,rfl,?_⟩)|((with_reducible refine gate_callee (f:=91) rfl ?_);refine goesL_ (some 78) rfl rfl Try.func91 zbk rfl #[.slice Ao56 x9_2.length co56,.agg #[.string ((rd_T125 l1 (rd (rd_L6 t104 x10_2) 0)).f1),.int .i64 (wrap64 ((wrap64 (((rd_T127 l0 (rd (rd_L6 t104 x10_2) 1)).f1)+((rd_T127 l0 (rd (rd_L6 t104 x10_2) 1)).f2)))+((rd_T125 l1 (rd (rd_L6 t104 x10_2) 0)).f2))),.int .i64 a2]] rfl zc ?_;(with_reducible refine (spec_l23Put.calls k2 _ _ x9_2 ((rd_T125 l1 (rd (rd_L6 t104 x10_2) 0)).f1) (wrap64 ((wrap64 (((rd_T127 l0 (rd (rd_L6 t104 x10_2) 1)).f1)+((rd_T127 l0 (rd (rd_L6 t104 x10_2) 1)).f2)))+((rd_T125 l1 (rd (rd_L6 t104 x10_2) 0)).f2))) a2 t124 _ ?side1 ?side2 A43.out).mono ?_);(case side1=>refine (Kd.R_reads' (e:=127) (base:=w.heap.size) (ok:=fun k_=>((True∧k_≠gb120)∧k_≠gb121)) (n:=x9_2.length) (c:=co56) ?_).2.2;exact zap);(case side2=>exact (Kd.R_reads' HO_9.out).2.1);rintro e w57 ⟨v125,rfl,ho0,hb⟩;refine ⟨_,rfl,?_⟩;have n0_:=Aside0.mk (Kd.S_below (by (with_reducible repeat (first|apply Kd.S_alloc|apply Kd.S_drewN|apply Kd.S_drew));exact (Kd.S_mono (Kd.S_far (p:=⟨gb121,2,none⟩) (Kd.S_far (p:=⟨gb121,1,none⟩) (Kd.S_far (p:=⟨gb121,0,none⟩) (Kd.S_types HO_8.out BK121.out zbq) (fun _ hk=>hk.2) (.string ((rd_T125 l1 (rd (rd_L6 t104 x10_2) 0)).f1))) (fun _ hk=>hk.2) (.int .i64 (wrap64 ((wrap64 (((rd_T127 l0 (rd (rd_L6 t104 x10_2) 1)).f1)+((rd_T127 l0 (rd (rd_L6 t104 x10_2) 1)).f2)))+((rd_T125 l1 (rd (rd_L6 t104 x10_2) 0)).f2))))) (fun _ hk=>hk.2) (.int .i64 a2)) (fun _ h_=>h_.1))) hb);have n1_:=Aside0.mk (Kd.R_elder' zap (Kd.R_base ho0) hb);have n2_:=Aside0.mk (Kd.R_below (by (with_reducible repeat (first|apply Kd.R_alloc|apply Kd.R_drewN|apply Kd.R_drew));exact (Kd.R_mono (Kd.R_far (p:=⟨gb121,2,none⟩) (Kd.R_far (p:=⟨gb121,1,none⟩) (Kd.R_far (p:=⟨gb121,0,none⟩) (Kd.R_types HL113_0.out BK121.out zbq) (fun _ hk=>hk.2) (.string ((rd_T125 l1 (rd (rd_L6 t104 x10_2) 0)).f1))) (fun _ hk=>hk.2) (.int .i64 (wrap64 ((wrap64 (((rd_T127 l0 (rd (rd_L6 t104 x10_2) 1)).f1)+((rd_T127 l0 (rd (rd_L6 t104 x10_2) 1)).f2)))+((rd_T125 l1 (rd (rd_L6 t104 x10_2) 0)).f2))))) (fun _ hk=>hk.2) (.int .i64 a2)) (fun _ h_=>h_.1))) hb);have n3_:=Aside0.mk (Kd.R_below (by (with_reducible repeat (first|apply Kd.R_alloc|apply Kd.R_drewN|apply Kd.R_drew));exact (Kd.R_mono (Kd.R_far (p:=⟨gb121,2,none⟩) (Kd.R_far (p:=⟨gb121,1,none⟩) (Kd.R_far (p:=⟨gb121,0,none⟩) (Kd.R_types HL117_0.out BK121.out zbq) (fun _ hk=>hk.2) (.string ((rd_T125 l1 (rd (rd_L6 t104 x10_2) 0)).f1))) (fun _ hk=>hk.2) (.int .i64 (wrap64 ((wrap64 (((rd_T127 l0 (rd (rd_L6 t104 x10_2) 1)).f1)+((rd_T127 l0 (rd (rd_L6 t104 x10_2) 1)).f2)))+((rd_T125 l1 (rd (rd_L6 t104 x10_2) 0)).f2))))) (fun _ hk=>hk.2) (.int .i64 a2)) (fun _ h_=>h_.1))) hb);have n4_:=Aside0.mk (Kd.R_lower (Kd.R_newB (Kd.R_newB (Kd.R_new' ho0 (Kd.R_lt zap)) (g:=gb120) (o:=.cells #[.string ((rd_T127 l0 (rd (rd_L6 t104 x10_2) 1)).f0),.int .i64 ((rd_T127 l0 (rd (rd_L6 t104 x10_2) 1)).f1),.int .i64 ((rd_T127 l0 (rd (rd_L6 t104 x10_2) 1)).f2)] 127 (0,0)) (by (with_reducible repeat (first|refine blk_drewN ?_ _|refine blk_drew ?_|refine blk_alloc ?_ _));refine blk_far ?_ NB120_121.out _;(with_reducible repeat (first|refine blk_drewN ?_ _|refine blk_drew ?_|refine blk_alloc ?_ _));refine blk_far ?_ NB120_121.out _;(with_reducible repeat (first|refine blk_drewN ?_ _|refine blk_drew ?_|refine blk_alloc ?_ _));refine blk_far ?_ NB120_121.out _;(with_reducible repeat (first|refine blk_drewN ?_ _|refine blk_drew ?_|refine blk_alloc ?_ _));exact BK120.out)) (g:=gb121) (o:=.cells #[.string ((rd_T125 l1 (rd (rd_L6 t104 x10_2) 0)).f1),.int .i64 (wrap64 ((wrap64 (((rd_T127 l0 (rd (rd_L6 t104 x10_2) 1)).f1)+((rd_T127 l0 (rd (rd_L6 t104 x10_2) 1)).f2)))+((rd_T125 l1 (rd (rd_L6 t104 x10_2) 0)).f2))),.int .i64 a2] 127 (0,0)) zr) (below_size zcp));have n5_:=Aside0.mk (Kd.C_below ((Kd.R_reads' (by (with_reducible repeat (first|apply Kd.R_alloc|apply Kd.R_drewN|apply Kd.R_drew));exact (Kd.R_mono (Kd.R_far (p:=⟨gb121,2,none⟩) (Kd.R_far (p:=⟨gb121,1,none⟩) (Kd.R_far (p:=⟨gb121,0,none⟩) (Kd.R_types HL113_0.out BK121.out zbq) (fun _ hk=>hk.2) (.string ((rd_T125 l1 (rd (rd_L6 t104 x10_2) 0)).f1))) (fun _ hk=>hk.2) (.int .i64 (wrap64 ((wrap64 (((rd_T127 l0 (rd (rd_L6 t104 x10_2) 1)).f1)+((rd_T127 l0 (rd (rd_L6 t104 x10_2) 1)).f2)))+((rd_T125 l1 (rd (rd_L6 t104 x10_2) 0)).f2))))) (fun _ hk=>hk.2) (.int .i64 a2)) (fun _ h_=>h_.1)))).2.2) hb);have n6_:=Aside0.mk (blk_below (g:=gb116) (o:=.cells #[.string ((rd_T125 l1 (rd (rd_L6 t104 x10_2) 0)).f0),.string ((rd_T125 l1 (rd (rd_L6 t104 x10_2) 0)).f1),.int .i64 ((rd_T125 l1 (rd (rd_L6 t104 x10_2) 0)).f2)] 125 (0,0)) (by (with_reducible repeat (first|refine blk_drewN ?_ _|refine blk_drew ?_|refine blk_alloc ?_ _));refine blk_far ?_ NB116_121.out _;(with_reducible repeat (first|refine blk_drewN ?_ _|refine blk_drew ?_|refine blk_alloc ?_ _));refine blk_far ?_ NB116_121.out _;(with_reducible repeat (first|refine blk_drewN ?_ _|refine blk_drew ?_|refine blk_alloc ?_ _));refine blk_far ?_ NB116_121.out _;(with_reducible repeat (first|refine blk_drewN ?_ _|refine blk_drew ?_|refine blk_alloc ?_ _));exact BK116.out) hb);have n7_:=Aside0.mk (Kd.C_below ((Kd.R_reads' (by (with_reducible repeat (first|apply Kd.R_alloc|apply Kd.R_drewN|apply Kd.R_drew));exact (Kd.R_mono (Kd.R_far (p:=⟨gb121,2,none⟩) (Kd.R_far (p:=⟨gb121,1,none⟩) (Kd.R_far (p:=⟨gb121,0,none⟩) (Kd.R_types HL117_0.out BK121.out zbq) (fun _ hk=>hk.2) (.string ((rd_T125 l1 (rd (rd_L6 t104 x10_2) 0)).f1))) (fun _ hk=>hk.2) (.int .i64 (wrap64 ((wrap64 (((rd_T127 l0 (rd (rd_L6 t104 x10_2) 1)).f1)+((rd_T127 l0 (rd (rd_L6 t104 x10_2) 1)).f2)))+((rd_T125 l1 (rd (rd_L6 t104 x10_2) 0)).f2))))) (fun _ hk=>hk.2) (.int .i64 a2)) (fun _ h_=>h_.1)))).2.2) hb);have n8_:=Aside0.mk (blk_below (g:=gb120) (o:=.cells #[.string ((rd_T127 l0 (rd (rd_L6 t104 x10_2) 1)).f0),.int .i64 ((rd_T127 l0 (rd (rd_L6 t104 x10_2) 1)).f1),.int .i64 ((rd_T127 l0 (rd (rd_L6 t104 x10_2) 1)).f2)] 127 (0,0)) (by (with_reducible repeat (first|refine blk_drewN ?_ _|refine blk_drew ?_|refine blk_alloc ?_ _));refine blk_far ?_ NB120_121.out _;(with_reducible repeat (first|refine blk_drewN ?_ _|refine blk_drew ?_|refine blk_alloc ?_ _));refine blk_far ?_ NB120_121.out _;(with_reducible repeat (first|refine blk_drewN ?_ _|refine blk_drew ?_|refine blk_alloc ?_ _));refine blk_far ?_ NB120_121.out _;(with_reducible repeat (first|refine blk_drewN ?_ _|refine blk_drew ?_|refine blk_alloc ?_ _));exact BK120.out) hb);have n9_:=Aside0.mk (blk_below (g:=gb121) (o:=.cells #[.string ((rd_T125 l1 (rd (rd_L6 t104 x10_2) 0)).f1),.int .i64 (wrap64 ((wrap64 (((rd_T127 l0 (rd (rd_L6 t104 x10_2) 1)).f1)+((rd_T127 l0 (rd (rd_L6 t104 x10_2) 1)).f2)))+((rd_T125 l1 (rd (rd_L6 t104 x10_2) 0)).f2))),.int .i64 a2] 127 (0,0)) zr hb);have n10_:=Aside0.mk (below_step zcp hb);clear HO_8;clear HO_9;clear HL113_0;clear HL117_0;clear HR113_0;clear BK116;clear HR117_0;clear BK120;clear BK121;clear HB;have HO_8:=n0_;have HO_9:=n1_;have HL113_0:=n2_;have HL117_0:=n3_;have HO126:=n4_;have HR113_0:=n5_;have BK116:=n6_;have HR117_0:=n7_;have BK120:=n8_;have BK121:=n9_;have HB:=n10_;clear n0_ n1_ n2_ n3_ n4_ n5_ n6_ n7_ n8_ n9_ n10_;(try clear hb);(try clear hb2);(try clear hk);(try clear hi);(try clear ho0)))
                  go_roundg k2
                  case measure=>have:=HJ3.out;have:=HK2.out;omega
                  case rel=>exact ⟨(t124),(wrap64 (x10_2+1)),zm,H',⟨by have:=HJ3.out;have:=HK2.out;omega⟩,⟨zcz⟩,⟨by (with_reducible repeat (first|apply Kd.R_alloc|apply Kd.R_drewN|apply Kd.R_drew));exact Kd.R_mono HO126.out (fun _ hk=>trivial)⟩,⟨zcp⟩⟩
                ·replace c27:=Bool.eq_false_iff.mpr c27
                 subst c27
                 have H1:(some (([]:List (S127)),6))=some (r1,r2):=by rw [if_neg (show ¬ (false=true) by decide)] at H;exact H
                 clear H
                 have H:=H1
                 clear H1
                 simp only [Option.some.injEq,Prod.mk.injEq] at H
                 obtain ⟨rfl,rfl⟩:=H
                 obtain ⟨Ao58,co58,eo58⟩:=Kd.S_slice HO_8.out
                 subst eo58
                 have p113:0≤(x10_2:Int):=of_decide_eq_true zb
                 have q113:x10_2<(t104.length:Int):=of_decide_eq_true zb
                 obtain ⟨ad113,A113_0,c113_0,e113,hx113_0,hl113_0,hi113_0⟩:=at_L6 (Kd.S_reads' HO_8.out).2.2 x10_2 p113 q113
                 cases e113
                 obtain ⟨ce113,hce113,hMe113,hcc113⟩:=Kd.S_get HO_8.out [] x10_2 p113 (by first|exact q113|exact of_decide_eq_true zb|(have e_:=(Kd.S_reads' HO_8.out).1;omega))
                 obtain ⟨ve113_0,rfl,ge113_0⟩:=hMe113
                 have hv113_0:=hcc113 0 _ rfl
                 rw [Nat.add_zero,show ((Kd.slice 2 (Kd.int .i64))).sz=1 from rfl,Nat.mul_one] at hv113_0
                 replace hv113_0:=Option.some.inj (hv113_0.symm.trans hx113_0)
                 rw [hv113_0] at ge113_0
                 have HL113_0:=Aside0.mk (show Kd.R (Kd.int .i64) 2 _ _ _ _ (rd_L6 t104 x10_2) from ge113_0)
                 clear hv113_0 ge113_0
                 clear hcc113 hce113
                 have HR113_0:=Aside0.mk hi113_0
                 have HC113_0:=Aside0.mk hl113_0
                 clear hi113_0 hl113_0
                 replace p113:=eq_true p113
                 replace q113:=eq_true q113
                 have p114:0≤(0:Int):=zbt
                 have q114:0<((rd_L6 t104 x10_2).length:Int):=of_decide_eq_true zb
                 obtain ⟨ad114,e114,hx114_0⟩:=Kd.at_int zdh 0 p114 q114
                 cases e114
                 have qi114:(0<(rd_L6 t104 x10_2).length)=True:=eq_true zbt
                 (try rw [show ((0:Int)).toNat=0 from rfl] at hx114_0)
                 (try rw [Addr.add_zero'] at hx114_0)
                 replace p114:=eq_true p114
                 replace q114:=eq_true q114
                 have p115:0≤((rd (rd_L6 t104 x10_2) 0):Int):=of_decide_eq_true zb
                 have q115:(rd (rd_L6 t104 x10_2) 0)<(l1.length:Int):=of_decide_eq_true zb
                 obtain ⟨ad115,e115,hx115_0,hx115_1,hx115_2⟩:=at_T125 HR1.out (rd (rd_L6 t104 x10_2) 0) p115 q115
                 cases e115
                 replace hx115_0:=(HB.out.cell (World.block_lt_of_cell? w _ hx115_0)).trans hx115_0
                 replace hx115_1:=(HB.out.cell (World.block_lt_of_cell? w _ hx115_1)).trans hx115_1
                 replace hx115_2:=(HB.out.cell (World.block_lt_of_cell? w _ hx115_2)).trans hx115_2
                 replace p115:=eq_true p115
                 replace q115:=eq_true q115
                 go_wp2_with (first|((with_reducible refine gate_dst (N:=11) rfl ?_);refine box_event ?hg (N:=11) ?hd (cs:=#[.string (⟨#[]⟩:ByteArray),.string (⟨#[]⟩:ByteArray),.int .i64 0]) (t:=125) ?hr ?_;(case hd=>rfl);(case hg=>rfl);(case hr=>exact zt);intro gb116 hg w59 hbox hb;have n0_:=Aside0.mk (Kd.S_below zcz hb);have n1_:=Aside0.mk (Kd.R_below zda hb);have n2_:=Aside0.mk (Kd.R_below zde hb);have n3_:=Aside0.mk (Kd.R_reads' n2_.out).2.2;have n4_:=Aside0.mk (below_step za hb);have n5_:=Aside0.mk (hbox);have n6_:=Aside0.mk ((by rw [hg];exact (below_size za):w.heap.size≤gb116));have n7_:=Aside0.mk ((by rw [hg];exact (below_size za):w.heap.size≤gb116));clear HO_8;clear HO_9;clear HL113_0;clear HR113_0;clear HB;have HO_8:=n0_;have HO_9:=n1_;have HL113_0:=n2_;have HR113_0:=n3_;have HB:=n4_;have BK116:=n5_;have GW116:=n6_;have GE116:=n7_;clear n0_ n1_ n2_ n3_ n4_ n5_ n6_ n7_;clear hb hbox hg;have hcz60_0:w59.cell? ⟨gb116,0,none⟩=some (.string (⟨#[]⟩:ByteArray)):=(blk_cell BK116.out 0).trans rfl;have hcz60_1:w59.cell? ⟨gb116,1,none⟩=some (.string (⟨#[]⟩:ByteArray)):=(blk_cell BK116.out 1).trans rfl;have hcz60_2:w59.cell? ⟨gb116,2,none⟩=some (.int .i64 0):=(blk_cell BK116.out 2).trans rfl;have hfz60_0:=blk_frozen BK116.out 0;have hfz60_1:=blk_frozen BK116.out 1;have hfz60_2:=blk_frozen BK116.out 2)|((with_reducible refine gate_store (t:=125) (p:=11) rfl ?_);refine store_event (t:=125) (p:=11) (v:=?vo_w61) (w1:=(((w59.setCell ⟨gb116,0,none⟩ (.string ((rd_T125 l1 (rd (rd_L6 t104 x10_2) 0)).f0))).setCell ⟨gb116,1,none⟩ (.string ((rd_T125 l1 (rd (rd_L6 t104 x10_2) 0)).f1))).setCell ⟨gb116,2,none⟩ (.int .i64 ((rd_T125 l1 (rd (rd_L6 t104 x10_2) 0)).f2)))) ?hg ?ho ?hn ?hr ?_;(case ho=>rfl);(case hg=>rfl);(case hn=>rfl);(case hr=>exact zt);intro w61 hw;have n0_:Aside0 (Kd.S (Kd.slice 2 (Kd.int .i64)) 126 w61 w.heap.size (fun _=>True) (.slice (some ad113) t104.length co58) t104):=⟨zca⟩;have n1_:Aside0 (Kd.R k127 127 w61 w.heap.size (fun _=>True) u9 x9_2):=⟨zcb⟩;have n2_:Aside0 (Kd.R (Kd.int .i64) 2 w61 w.heap.size (fun k_=>some k_≠(.slice (some ad113) t104.length co58:Value).ownBlock) (.slice (some ad114) (rd_L6 t104 x10_2).length c113_0) (rd_L6 t104 x10_2)):=⟨zbz⟩;have n3_:Aside0 (w61.heap[gb116]?=some (.cells #[.string ((rd_T125 l1 (rd (rd_L6 t104 x10_2) 0)).f0),.string ((rd_T125 l1 (rd (rd_L6 t104 x10_2) 0)).f1),.int .i64 ((rd_T125 l1 (rd (rd_L6 t104 x10_2) 0)).f2)] 125 (0,0))):=⟨zaw⟩;have n4_:Aside0 (Below w.heap.size w w61):=⟨zdk⟩;clear hw;clear HO_8;clear HO_9;clear HL113_0;clear BK116;clear HB;have HO_8:=n0_;have HO_9:=n1_;have HL113_0:=n2_;have BK116:=n3_;have HB:=n4_;clear n0_ n1_ n2_ n3_ n4_;have p117:0≤(x10_2:Int):=of_decide_eq_true zb;have q117:x10_2<(t104.length:Int):=of_decide_eq_true zb;obtain ⟨ad117,A117_0,c117_0,e117,hx117_0,hl117_0,hi117_0⟩:=at_L6 (Kd.S_reads' HO_8.out).2.2 x10_2 p117 q117;obtain rfl:ad113=ad117:=(by injection e117);obtain ⟨ce117,hce117,hMe117,hcc117⟩:=Kd.S_get HO_8.out [] x10_2 p117 (by first|exact q117|exact of_decide_eq_true zb|(have e_:=(Kd.S_reads' HO_8.out).1;omega));obtain ⟨ve117_0,rfl,ge117_0⟩:=hMe117;have hv117_0:=hcc117 0 _ rfl;rw [Nat.add_zero,show ((Kd.slice 2 (Kd.int .i64))).sz=1 from rfl,Nat.mul_one] at hv117_0;replace hv117_0:=Option.some.inj (hv117_0.symm.trans hx117_0);rw [hv117_0] at ge117_0;have HL117_0:=Aside0.mk (show Kd.R (Kd.int .i64) 2 _ _ _ _ (rd_L6 t104 x10_2) from ge117_0);clear hv117_0 ge117_0;clear hcc117 hce117;have HR117_0:=Aside0.mk hi117_0;have HC117_0:=Aside0.mk hl117_0;clear hi117_0 hl117_0;replace p117:=eq_true p117;replace q117:=eq_true q117;have p118:0≤(1:Int):=zbt;have q118:1<((rd_L6 t104 x10_2).length:Int):=of_decide_eq_true zb;obtain ⟨ad118,e118,hx118_0⟩:=Kd.at_int zdi 1 p118 q118;cases e118;(try simp only [show (1:Int).toNat=1 from rfl,Nat.reduceMul,Nat.reduceEqDiff,Go.Addr.add,↓reduceIte] at hx118_0);have qi118:(1<(rd_L6 t104 x10_2).length)=True:=eq_true zbt;(try rw [show ((1:Int)).toNat=1 from rfl] at hx118_0);replace p118:=eq_true p118;replace q118:=eq_true q118;have p119:0≤((rd (rd_L6 t104 x10_2) 1):Int):=of_decide_eq_true zb;have q119:(rd (rd_L6 t104 x10_2) 1)<(l0.length:Int):=of_decide_eq_true zb;obtain ⟨ad119,e119,hx119_0,hx119_1,hx119_2⟩:=at_T127 HR0.out (rd (rd_L6 t104 x10_2) 1) p119 q119;cases e119;replace hx119_0:=(HB.out.cell (World.block_lt_of_cell? w _ hx119_0)).trans hx119_0;replace hx119_1:=(HB.out.cell (World.block_lt_of_cell? w _ hx119_1)).trans hx119_1;replace hx119_2:=(HB.out.cell (World.block_lt_of_cell? w _ hx119_2)).trans hx119_2;replace p119:=eq_true p119;replace q119:=eq_true q119)|((with_reducible refine gate_dst (N:=12) rfl ?_);refine box_event ?hg (N:=12) ?hd (cs:=#[.string (⟨#[]⟩:ByteArray),.int .i64 0,.int .i64 0]) (t:=127) ?hr ?_;(case hd=>rfl);(case hg=>rfl);(case hr=>exact zt);intro gb120 hg w62 hbox hb;have n0_:=Aside0.mk (Kd.S_below zcz hb);have n1_:=Aside0.mk (Kd.R_below (Kd.R_elderB zda gb120 (Nat.le_of_eq hg.symm)) hb);have n2_:=Aside0.mk (Kd.R_below zde hb);have n3_:=Aside0.mk (Kd.R_below (by (with_reducible repeat (first|apply Kd.R_alloc|apply Kd.R_drewN|apply Kd.R_drew));exact HL117_0.out) hb);have n4_:=Aside0.mk (Kd.R_reads' n2_.out).2.2;have n5_:=Aside0.mk (blk_below (g:=gb116) (o:=.cells #[.string ((rd_T125 l1 (rd (rd_L6 t104 x10_2) 0)).f0),.string ((rd_T125 l1 (rd (rd_L6 t104 x10_2) 0)).f1),.int .i64 ((rd_T125 l1 (rd (rd_L6 t104 x10_2) 0)).f2)] 125 (0,0)) zg hb);have n6_:=Aside0.mk (Kd.R_reads' n3_.out).2.2;have n7_:=Aside0.mk (below_step zag hb);have n8_:=Aside0.mk (hbox);have n9_:=Aside0.mk ((by rw [hg];exact (below_size zag):w.heap.size≤gb120));have n10_:=Aside0.mk ((by rw [hg];exact (below_size zag):w.heap.size≤gb120));have n11_:=Aside0.mk ((by rw [hg];exact Nat.ne_of_lt (blk_lt (g:=gb116) (o:=.cells #[.string ((rd_T125 l1 (rd (rd_L6 t104 x10_2) 0)).f0),.string ((rd_T125 l1 (rd (rd_L6 t104 x10_2) 0)).f1),.int .i64 ((rd_T125 l1 (rd (rd_L6 t104 x10_2) 0)).f2)] 125 (0,0)) zg):gb116≠gb120));have n12_:=Aside0.mk ((by rw [hg];exact Nat.ne_of_gt (blk_lt (g:=gb116) (o:=.cells #[.string ((rd_T125 l1 (rd (rd_L6 t104 x10_2) 0)).f0),.string ((rd_T125 l1 (rd (rd_L6 t104 x10_2) 0)).f1),.int .i64 ((rd_T125 l1 (rd (rd_L6 t104 x10_2) 0)).f2)] 125 (0,0)) zg):gb120≠gb116));clear HO_8;clear HO_9;clear HL113_0;clear HL117_0;clear HR113_0;clear BK116;clear HR117_0;clear HB;have HO_8:=n0_;have HO_9:=n1_;have HL113_0:=n2_;have HL117_0:=n3_;have HR113_0:=n4_;have BK116:=n5_;have HR117_0:=n6_;have HB:=n7_;have BK120:=n8_;have GW120:=n9_;have GE120:=n10_;have NB116_120:=n11_;have NB120_116:=n12_;clear n0_ n1_ n2_ n3_ n4_ n5_ n6_ n7_ n8_ n9_ n10_ n11_ n12_;clear hb hbox hg;have hnb63:=NB120_116.out;have hnc63:=NB116_120.out;have hcz64_0:w62.cell? ⟨gb120,0,none⟩=some (.string (⟨#[]⟩:ByteArray)):=(blk_cell BK120.out 0).trans rfl;have hcz64_1:w62.cell? ⟨gb120,1,none⟩=some (.int .i64 0):=(blk_cell BK120.out 1).trans rfl;have hcz64_2:w62.cell? ⟨gb120,2,none⟩=some (.int .i64 0):=(blk_cell BK120.out 2).trans rfl;have hfz64_0:=blk_frozen BK120.out 0;have hfz64_1:=blk_frozen BK120.out 1;have hfz64_2:=blk_frozen BK120.out 2;have hcz65_0:w62.cell? ⟨gb116,0,none⟩=some (.string ((rd_T125 l1 (rd (rd_L6 t104 x10_2) 0)).f0)):=(blk_cell BK116.out 0).trans rfl;have hcz65_1:w62.cell? ⟨gb116,1,none⟩=some (.string ((rd_T125 l1 (rd (rd_L6 t104 x10_2) 0)).f1)):=(blk_cell BK116.out 1).trans rfl;have hcz65_2:w62.cell? ⟨gb116,2,none⟩=some (.int .i64 ((rd_T125 l1 (rd (rd_L6 t104 x10_2) 0)).f2)):=(blk_cell BK116.out 2).trans rfl;have hfz65_0:=blk_frozen BK116.out 0;have hfz65_1:=blk_frozen BK116.out 1;have hfz65_2:=blk_frozen BK116.out 2)|((with_reducible refine gate_dst (N:=13) rfl ?_);refine box_event ?hg (N:=13) ?hd (cs:=#[.string (⟨#[]⟩:ByteArray),.int .i64 0,.int .i64 0]) (t:=127) ?hr ?_;(case hd=>rfl);(case hg=>rfl);(case hr=>exact zt);intro gb121 hg w66 hbox hb;have n0_:=Aside0.mk (Kd.S_below zce hb);have n1_:=Aside0.mk (Kd.R_below (Kd.R_elderB zby gb121 (Nat.le_of_eq hg.symm)) hb);have n2_:=Aside0.mk (Kd.R_below zal hb);have n3_:=Aside0.mk (Kd.R_below zam hb);have n4_:=Aside0.mk (Kd.C_below ((Kd.R_reads' zal).2.2) hb);have n5_:=Aside0.mk (blk_below (g:=gb116) (o:=.cells #[.string ((rd_T125 l1 (rd (rd_L6 t104 x10_2) 0)).f0),.string ((rd_T125 l1 (rd (rd_L6 t104 x10_2) 0)).f1),.int .i64 ((rd_T125 l1 (rd (rd_L6 t104 x10_2) 0)).f2)] 125 (0,0)) zq hb);have n6_:=Aside0.mk (Kd.C_below ((Kd.R_reads' zam).2.2) hb);have n7_:=Aside0.mk (blk_below (g:=gb120) (o:=.cells #[.string ((rd_T127 l0 (rd (rd_L6 t104 x10_2) 1)).f0),.int .i64 ((rd_T127 l0 (rd (rd_L6 t104 x10_2) 1)).f1),.int .i64 ((rd_T127 l0 (rd (rd_L6 t104 x10_2) 1)).f2)] 127 (0,0)) zh hb);have n8_:=Aside0.mk (below_step zbr hb);have n9_:=Aside0.mk (hbox);have n10_:=Aside0.mk ((by rw [hg];exact (below_size zbr):w.heap.size≤gb121));have n11_:=Aside0.mk ((by rw [hg];exact (below_size zbr):w.heap.size≤gb121));have n12_:=Aside0.mk ((by rw [hg];exact Nat.ne_of_lt (blk_lt (g:=gb116) (o:=.cells #[.string ((rd_T125 l1 (rd (rd_L6 t104 x10_2) 0)).f0),.string ((rd_T125 l1 (rd (rd_L6 t104 x10_2) 0)).f1),.int .i64 ((rd_T125 l1 (rd (rd_L6 t104 x10_2) 0)).f2)] 125 (0,0)) zq):gb116≠gb121));have n13_:=Aside0.mk ((by rw [hg];exact Nat.ne_of_gt (blk_lt (g:=gb116) (o:=.cells #[.string ((rd_T125 l1 (rd (rd_L6 t104 x10_2) 0)).f0),.string ((rd_T125 l1 (rd (rd_L6 t104 x10_2) 0)).f1),.int .i64 ((rd_T125 l1 (rd (rd_L6 t104 x10_2) 0)).f2)] 125 (0,0)) zq):gb121≠gb116));have n14_:=Aside0.mk ((by rw [hg];exact Nat.ne_of_lt (blk_lt (g:=gb120) (o:=.cells #[.string ((rd_T127 l0 (rd (rd_L6 t104 x10_2) 1)).f0),.int .i64 ((rd_T127 l0 (rd (rd_L6 t104 x10_2) 1)).f1),.int .i64 ((rd_T127 l0 (rd (rd_L6 t104 x10_2) 1)).f2)] 127 (0,0)) zh):gb120≠gb121));have n15_:=Aside0.mk ((by rw [hg];exact Nat.ne_of_gt (blk_lt (g:=gb120) (o:=.cells #[.string ((rd_T127 l0 (rd (rd_L6 t104 x10_2) 1)).f0),.int .i64 ((rd_T127 l0 (rd (rd_L6 t104 x10_2) 1)).f1),.int .i64 ((rd_T127 l0 (rd (rd_L6 t104 x10_2) 1)).f2)] 127 (0,0)) zh):gb121≠gb120));clear HO_8;clear HO_9;clear HL113_0;clear HL117_0;clear HR113_0;clear BK116;clear HR117_0;clear BK120;clear HB;have HO_8:=n0_;have HO_9:=n1_;have HL113_0:=n2_;have HL117_0:=n3_;have HR113_0:=n4_;have BK116:=n5_;have HR117_0:=n6_;have BK120:=n7_;have HB:=n8_;have BK121:=n9_;have GW121:=n10_;have GE121:=n11_;have NB116_121:=n12_;have NB121_116:=n13_;have NB120_121:=n14_;have NB121_120:=n15_;clear n0_ n1_ n2_ n3_ n4_ n5_ n6_ n7_ n8_ n9_ n10_ n11_ n12_ n13_ n14_ n15_;clear hb hbox hg;have hnb67:=NB121_116.out;have hnc67:=NB116_121.out;have hnb68:=NB121_120.out;have hnc68:=NB120_121.out;have hcz69_0:w66.cell? ⟨gb121,0,none⟩=some (.string (⟨#[]⟩:ByteArray)):=(blk_cell BK121.out 0).trans rfl;have hcz69_1:w66.cell? ⟨gb121,1,none⟩=some (.int .i64 0):=(blk_cell BK121.out 1).trans rfl;have hcz69_2:w66.cell? ⟨gb121,2,none⟩=some (.int .i64 0):=(blk_cell BK121.out 2).trans rfl;have hfz69_0:=blk_frozen BK121.out 0;have hfz69_1:=blk_frozen BK121.out 1;have hfz69_2:=blk_frozen BK121.out 2)|((with_reducible refine gate_callee (f:=89) rfl ?_);refine goesL_ (some 67) rfl rfl Try.func89 zbk rfl #[.pointer (some ((⟨gb121,0,none⟩:Addr).add ((0:Int).toNat*3)))] rfl zc ?_;(with_reducible refine (spec_l23One_e.calls k2 _ [(⟨(rd_T125 l1 (rd (rd_L6 t104 x10_2) 0)).f1,wrap64 ((wrap64 (((rd_T127 l0 (rd (rd_L6 t104 x10_2) 1)).f1)+((rd_T127 l0 (rd (rd_L6 t104 x10_2) 1)).f2)))+((rd_T125 l1 (rd (rd_L6 t104 x10_2) 0)).f2)),a2⟩:S127)] 0 false _ ?side1 ?side2 ?side3 A26.out).mono ?_);(case side1=>exact box_C (ca:=#[.string ((rd_T125 l1 (rd (rd_L6 t104 x10_2) 0)).f1),.int .i64 (wrap64 ((wrap64 (((rd_T127 l0 (rd (rd_L6 t104 x10_2) 1)).f1)+((rd_T127 l0 (rd (rd_L6 t104 x10_2) 1)).f2)))+((rd_T125 l1 (rd (rd_L6 t104 x10_2) 0)).f2))),.int .i64 a2]) (t:=127) zr rfl _ (k127_mk _ _));(case side2=>first|(with_reducible assumption)|assumption|decide|exact decide_eq_true zdd|exact decide_eq_true zbt);(case side3=>first|(with_reducible assumption)|assumption|decide|exact decide_eq_true zdd|exact decide_eq_true zbt);rintro e w' ⟨rfl,⟨nd,rfl⟩⟩;refine ⟨_,rfl,?_⟩))
                 go_ret2
                 exact ⟨_,zk,zct,zcp⟩
               ·rw [if_neg c25] at H
                exact absurd H zdd
              ·rw [if_neg c24] at H
               exact absurd H zdd
             ·rw [if_neg c23] at H
              exact absurd H zdd
            ·rw [if_neg c22] at H
             exact absurd H zdd
           ·rw [if_neg c21] at H
            exact absurd H zdd
          ·rw [if_neg c20] at H
           exact absurd H zdd
         ·rw [if_neg c19] at H
          exact absurd H zdd
        ·rw [if_neg c18] at H
         have c18b0:decide (x10_2<(t104.length:Int))=false:=decide_eq_false c18
         clear c18
         by_cases c70:(x9_2.length:Int) > 24
         ·rw [if_pos c70] at H
          have c70b0:decide (24<(x9_2.length:Int))=true:=decide_eq_true c70
          have c70b1:decide (24<x9_2.length)=true:=decide_eq_true zbt
          clear c70
          simp only [Option.some.injEq,Prod.mk.injEq] at H
          obtain ⟨rfl,rfl⟩:=H
          obtain ⟨Ao71,co71,eo71⟩:=Kd.S_slice HO_8.out
          subst eo71
          obtain ⟨Ao72,co72,eo72⟩:=Kd.R_slice HO_9.out
          subst eo72
          go_wp2
          go_ret2
          exact ⟨_,zk,zct,za⟩
         ·rw [if_neg c70] at H
          have c70b0:decide (24<(x9_2.length:Int))=false:=decide_eq_false c70
          have c70b1:decide (24<x9_2.length)=false:=decide_eq_false zbt
          clear c70
          simp only [Option.some.injEq,Prod.mk.injEq] at H
          obtain ⟨rfl,rfl⟩:=H
          obtain ⟨Ao73,co73,eo73⟩:=Kd.S_slice HO_8.out
          subst eo73
          obtain ⟨Ao74,co74,eo74⟩:=Kd.R_slice HO_9.out
          subst eo74
          go_wp2
          go_ret2
          exact ⟨_,zk,zda,za⟩
     ·rw [if_neg c13] at H
      exact absurd H zdd
    ·replace c11:=Bool.eq_false_iff.mpr c11
     subst c11
     have H1:(some (([]:List (S127)),2))=some (r1,r2):=by rw [if_neg (show ¬ (false=true) by decide)] at H;exact H
     clear H
     have H:=H1
     clear H1
     simp only [Option.some.injEq,Prod.mk.injEq] at H
     obtain ⟨rfl,rfl⟩:=H
     go_wp2_with (first|((with_reducible refine gate_callee (f:=87) rfl ?_);refine goesL_ (some 23) rfl rfl Try.func87 zbk rfl #[.int .i64 a2,.int .i64 1,.int .i64 10000] rfl zc ?_;(with_reducible refine (spec_l00In.calls a2 1 10000 false _ A10.out).mono ?_);rintro e w' ⟨rfl,⟨nd,rfl⟩⟩;refine ⟨_,rfl,?_⟩))
     go_ret2
     exact ⟨_,zk,zct,za⟩

def laws_toTurn.f (a0_0:ByteArray) (a0_1:Int) (a0_2:Int):Option (ByteArray × Int × Int):=some (a0_0,a0_1,a0_2)
set_option maxHeartbeats 8000000 in
set_option maxRecDepth 100000 in
theorem laws_toTurn.calls (a0_0:ByteArray) (a0_1:Int) (a0_2:Int) (r1:ByteArray) (r2:Int) (r3:Int) (w:World) (h:laws_toTurn.f a0_0 a0_1 a0_2=some (r1,r2,r3)) :
 Calls Try.prog 92 #[.agg #[.string a0_0,.int .i64 a0_1,.int .i64 a0_2]] w fun e w'=>e = .returned (.agg #[.string r1,.int .i64 r2,.int .i64 r3])∧Below w.heap.size w w':=by
 have hu116:=Try.underlying116
 have hu127:=Try.underlying127
 have HB:=Aside0.mk (Below.refl w.heap.size w)
 have H:(some (a0_0,a0_1,a0_2))=some (r1,r2,r3):=h
 clear h
 simp only [Option.some.injEq,Prod.mk.injEq] at H
 obtain ⟨rfl,rfl,rfl⟩:=H
 go_enter Try.func92,Try.ntmps92
 go_wp2_with (first|((with_reducible refine gate_dst (N:=1) rfl ?_);refine box_event ?hg (N:=1) ?hd (cs:=#[.string a0_0,.int .i64 a0_1,.int .i64 a0_2]) (t:=116) ?hr ?_;(case hd=>rfl);(case hg=>rfl);(case hr=>exact zt);intro gb101 hg w2 hbox hb;have n0_:=Aside0.mk (below_step za hb);have n1_:=Aside0.mk (hbox);have n2_:=Aside0.mk ((by rw [hg];exact (below_size za):w.heap.size≤gb101));have n3_:=Aside0.mk ((by rw [hg];exact (below_size za):w.heap.size≤gb101));clear HB;have HB:=n0_;have BK101:=n1_;have GW101:=n2_;have GE101:=n3_;clear n0_ n1_ n2_ n3_;clear hb hbox hg)|((with_reducible refine gate_dst (N:=2) rfl ?_);refine box_event ?hg (N:=2) ?hd (cs:=#[.string (⟨#[]⟩:ByteArray),.int .i64 0,.int .i64 0]) (t:=127) ?hr ?_;(case hd=>rfl);(case hg=>rfl);(case hr=>exact zt);intro gb102 hg w3 hbox hb;have n0_:=Aside0.mk (blk_below (g:=gb101) (o:=.cells #[.string a0_0,.int .i64 a0_1,.int .i64 a0_2] 116 (0,0)) ze hb);have n1_:=Aside0.mk (below_step zd hb);have n2_:=Aside0.mk (hbox);have n3_:=Aside0.mk ((by rw [hg];exact (below_size zd):w.heap.size≤gb102));have n4_:=Aside0.mk ((by rw [hg];exact (below_size zd):w.heap.size≤gb102));have n5_:=Aside0.mk ((by rw [hg];exact Nat.ne_of_lt (blk_lt (g:=gb101) (o:=.cells #[.string a0_0,.int .i64 a0_1,.int .i64 a0_2] 116 (0,0)) ze):gb101≠gb102));have n6_:=Aside0.mk ((by rw [hg];exact Nat.ne_of_gt (blk_lt (g:=gb101) (o:=.cells #[.string a0_0,.int .i64 a0_1,.int .i64 a0_2] 116 (0,0)) ze):gb102≠gb101));clear BK101;clear HB;have BK101:=n0_;have HB:=n1_;have BK102:=n2_;have GW102:=n3_;have GE102:=n4_;have NB101_102:=n5_;have NB102_101:=n6_;clear n0_ n1_ n2_ n3_ n4_ n5_ n6_;clear hb hbox hg)|((with_reducible refine gate_dst (N:=3) rfl ?_);refine box_event ?hg (N:=3) ?hd (cs:=#[.string (⟨#[]⟩:ByteArray),.int .i64 0,.int .i64 0]) (t:=127) ?hr ?_;(case hd=>rfl);(case hg=>rfl);(case hr=>exact zt);intro gb103 hg w4 hbox hb;have n0_:=Aside0.mk (blk_below (g:=gb101) (o:=.cells #[.string a0_0,.int .i64 a0_1,.int .i64 a0_2] 116 (0,0)) ze hb);have n1_:=Aside0.mk (blk_below (g:=gb102) (o:=.cells #[.string (⟨#[]⟩:ByteArray),.int .i64 0,.int .i64 0] 127 (0,0)) zz hb);have n2_:=Aside0.mk (below_step zah hb);have n3_:=Aside0.mk (hbox);have n4_:=Aside0.mk ((by rw [hg];exact (below_size zah):w.heap.size≤gb103));have n5_:=Aside0.mk ((by rw [hg];exact (below_size zah):w.heap.size≤gb103));have n6_:=Aside0.mk ((by rw [hg];exact Nat.ne_of_lt (blk_lt (g:=gb101) (o:=.cells #[.string a0_0,.int .i64 a0_1,.int .i64 a0_2] 116 (0,0)) ze):gb101≠gb103));have n7_:=Aside0.mk ((by rw [hg];exact Nat.ne_of_gt (blk_lt (g:=gb101) (o:=.cells #[.string a0_0,.int .i64 a0_1,.int .i64 a0_2] 116 (0,0)) ze):gb103≠gb101));have n8_:=Aside0.mk ((by rw [hg];exact Nat.ne_of_lt (blk_lt (g:=gb102) (o:=.cells #[.string (⟨#[]⟩:ByteArray),.int .i64 0,.int .i64 0] 127 (0,0)) zz):gb102≠gb103));have n9_:=Aside0.mk ((by rw [hg];exact Nat.ne_of_gt (blk_lt (g:=gb102) (o:=.cells #[.string (⟨#[]⟩:ByteArray),.int .i64 0,.int .i64 0] 127 (0,0)) zz):gb103≠gb102));clear BK101;clear BK102;clear HB;have BK101:=n0_;have BK102:=n1_;have HB:=n2_;have BK103:=n3_;have GW103:=n4_;have GE103:=n5_;have NB101_103:=n6_;have NB103_101:=n7_;have NB102_103:=n8_;have NB103_102:=n9_;clear n0_ n1_ n2_ n3_ n4_ n5_ n6_ n7_ n8_ n9_;clear hb hbox hg;have hnb5:=NB101_102.out;have hnc5:=NB102_101.out;have hnb6:=NB101_103.out;have hnc6:=NB103_101.out;have hcz7_0:w4.cell? ⟨gb101,0,none⟩=some (.string a0_0):=(blk_cell BK101.out 0).trans rfl;have hcz7_1:w4.cell? ⟨gb101,1,none⟩=some (.int .i64 a0_1):=(blk_cell BK101.out 1).trans rfl;have hcz7_2:w4.cell? ⟨gb101,2,none⟩=some (.int .i64 a0_2):=(blk_cell BK101.out 2).trans rfl;have hfz7_0:=blk_frozen BK101.out 0;have hfz7_1:=blk_frozen BK101.out 1;have hfz7_2:=blk_frozen BK101.out 2;have hnb8:=NB103_102.out;have hnc8:=NB102_103.out;have hcz9_0:w4.cell? ⟨gb103,0,none⟩=some (.string (⟨#[]⟩:ByteArray)):=(blk_cell BK103.out 0).trans rfl;have hcz9_1:w4.cell? ⟨gb103,1,none⟩=some (.int .i64 0):=(blk_cell BK103.out 1).trans rfl;have hcz9_2:w4.cell? ⟨gb103,2,none⟩=some (.int .i64 0):=(blk_cell BK103.out 2).trans rfl;have hfz9_0:=blk_frozen BK103.out 0;have hfz9_1:=blk_frozen BK103.out 1;have hfz9_2:=blk_frozen BK103.out 2;have hcz10_0:w4.cell? ⟨gb102,0,none⟩=some (.string (⟨#[]⟩:ByteArray)):=(blk_cell BK102.out 0).trans rfl;have hcz10_1:w4.cell? ⟨gb102,1,none⟩=some (.int .i64 0):=(blk_cell BK102.out 1).trans rfl;have hcz10_2:w4.cell? ⟨gb102,2,none⟩=some (.int .i64 0):=(blk_cell BK102.out 2).trans rfl;have hfz10_0:=blk_frozen BK102.out 0;have hfz10_1:=blk_frozen BK102.out 1;have hfz10_2:=blk_frozen BK102.out 2))
 refine bodyPost_ret (results_cell_row rfl _ _ gb102 127 #[.string a0_0,.int .i64 a0_1,.int .i64 a0_2] (0,0) _ rfl (by (with_reducible repeat (first|refine blk_drewN ?_ _|refine blk_drew ?_|refine blk_alloc ?_ _));refine blk_put (cs:=#[.string a0_0,.int .i64 a0_1,.int .i64 0]) ?_ 2 _ rfl;(with_reducible repeat (first|refine blk_drewN ?_ _|refine blk_drew ?_|refine blk_alloc ?_ _));refine blk_put (cs:=#[.string a0_0,.int .i64 0,.int .i64 0]) ?_ 1 _ rfl;(with_reducible repeat (first|refine blk_drewN ?_ _|refine blk_drew ?_|refine blk_alloc ?_ _));refine blk_put (cs:=#[.string (⟨#[]⟩:ByteArray),.int .i64 0,.int .i64 0]) ?_ 0 _ rfl;(with_reducible repeat (first|refine blk_drewN ?_ _|refine blk_drew ?_|refine blk_alloc ?_ _));refine blk_far ?_ NB102_103.out _;(with_reducible repeat (first|refine blk_drewN ?_ _|refine blk_drew ?_|refine blk_alloc ?_ _));refine blk_far ?_ NB102_103.out _;(with_reducible repeat (first|refine blk_drewN ?_ _|refine blk_drew ?_|refine blk_alloc ?_ _));refine blk_far ?_ NB102_103.out _;(with_reducible repeat (first|refine blk_drewN ?_ _|refine blk_drew ?_|refine blk_alloc ?_ _));exact BK102.out) Try.underlying127 rfl zbk) rfl ?_
 exact ⟨zk,by repeat (first|(with_reducible first|exact HB.out|apply below_alloc|apply pw_below_drewN|apply below_drew1|refine below_set ?_ GE101.out|refine below_set ?_ GE102.out|refine below_set ?_ GE103.out)|exact HB.out)⟩

def laws_toTurnS.l0:Nat→List (S116)→List (S127)→Int→Option ((List (S127)))
 | 0,_,_,_=>none
 | k+1,x0,x3,x4=>if x4<(x0.length:Int) then (if 0≤x4 then ((laws_toTurn.f ((rd_T116 x0 x4).f0) ((rd_T116 x0 x4).f1) ((rd_T116 x0 x4).f2)).bind fun bt105=>(if x4<(x3.length:Int) then (laws_toTurnS.l0 k x0 (x3.set (x4:Int).toNat (⟨bt105.1,bt105.2.1,bt105.2.2⟩:S127)) (wrap64 (x4+1))) else (none))) else (none)) else (some x3)
def laws_toTurnS.f (k:Nat) (l0:List (S116)):Option ((List (S127))):=if 0≤(l0.length:Int) then (if ((l0.length:Int):Int).toNat≤8796093022208 then (laws_toTurnS.l0 k l0 (List.replicate ((l0.length:Int):Int).toNat z127) 0) else (none)) else (none)
set_option maxHeartbeats 8000000 in
set_option maxRecDepth 100000 in
theorem laws_toTurnS.calls (k:Nat) (A0:Option Addr) (c0:Nat) (l0:List (S116)) (r:List (S127)) (w:World) (hr0:Kd.C k116 w A0 l0.length l0) (hc0:l0.length≤c0) (h:laws_toTurnS.f k l0=some r) :
 Calls Try.prog 39 #[.slice A0 l0.length c0] w fun e w'=>∃v0_:Value,e = .returned (v0_)∧Kd.R k127 127 w' w.heap.size (fun _=>True) v0_ r∧Below w.heap.size w w':=by
 have hu116:=Try.underlying116
 have hu127:=Try.underlying127
 have HR0:=Aside0.mk hr0
 have HC0:=Aside0.mk hc0
 clear hr0 hc0
 have HB:=Aside0.mk (Below.refl w.heap.size w)
 have H:(if 0≤(l0.length:Int) then (if ((l0.length:Int):Int).toNat≤8796093022208 then (laws_toTurnS.l0 k l0 (List.replicate ((l0.length:Int):Int).toNat z127) 0) else (none)) else (none))=some r:=h
 clear h
 by_cases c2:0≤(l0.length:Int)
 ·rw [if_pos c2] at H
  have c2b0:=eq_true c2
  have c2b1:decide (0≤(l0.length:Int))=true:=decide_eq_true c2
  clear c2
  by_cases c3:((l0.length:Int):Int).toNat≤8796093022208
  ·rw [if_pos c3] at H
   have c3b0:=eq_true c3
   have c3b1:decide (((l0.length:Int):Int).toNat≤8796093022208)=true:=decide_eq_true c3
   clear c3
   obtain ⟨y101,hy101⟩:∃y_:List (S127),y_=(List.replicate ((l0.length:Int):Int).toNat z127):=⟨_,rfl⟩
   replace H:(laws_toTurnS.l0 k l0 y101 0)=some r:=by first|(rw [hy101];with_reducible exact H)|(have H2_:=(Option.bind_some _ _).symm.trans H;rw [hy101];with_reducible exact H2_)|(have H2_:=(Option.bind_some _ _).symm.trans H;with_reducible exact H2_)|with_reducible exact H|(rw [hy101];exact H)|exact H
   have Ny101:=Aside0.mk hy101
   clear hy101
   have H':=Aside0.mk H
   clear H
   go_enter Try.func39,Try.ntmps39
   go_wp2_with (first|((with_reducible refine gate_dst (N:=7) rfl ?_);refine Kd.R_make k127 _ 127 rfl (N:=7) rfl 61 _ _ rfl (l0.length:Int) rfl rfl Try.underlying61 (.agg #[(.string ⟨#[]⟩),(.int .i64 0),(.int .i64 0)]) 32 info127 rfl zbq zbt z127 (ok:=fun _=>True) (okp:=fun _=>True) (k127_mkM _ _ _ z127) (fun _ hk=>hk) trivial (of_decide_eq_true zb) (Nat.le_trans (Nat.mul_le_mul_right _ (of_decide_eq_true zb:(l0.length:Int).toNat≤8796093022208)) zbt) (Below.refl _ _) (Nat.le_refl _) ?_;intro v102 w4 ho5 hb hg_ hnew_;clear hg_ hnew_;(first|rw [←Ny101.out] at ho5|(simp only [Int.reduceToNat] at ho5;rw [←Ny101.out] at ho5));have HO103:=Aside0.mk (Kd.R_lower ho5 (below_size za));replace HB:=Aside0.mk (below_step za hb);clear hb ho5))
   go_loopg [4] k (fun kq v4 w'=>∃(x3_1:List (S127)) (x4_1:Int),v4 = .int .i64 x4_1∧Aside0 (laws_toTurnS.l0 kq l0 x3_1 x4_1=some r)∧Aside0 (kq≤k)∧Aside0 (Kd.R k127 127 w' w.heap.size (fun _=>True) v102 x3_1)∧Aside0 (Below w.heap.size w w'))
   case atStart=>exact ⟨(y101),(0),zm,H',⟨Nat.le_refl _⟩,⟨by (with_reducible repeat (first|apply Kd.R_alloc|apply Kd.R_drewN|apply Kd.R_drew));exact HO103.out⟩,⟨za⟩⟩
   case round=>
    clear H'
    try clear c2
    try clear c2b0
    try clear c2b1
    try clear p2
    try clear c3
    try clear c3b0
    try clear c3b1
    obtain ⟨x3_1,x4_1,rfl,HA,HK1,HO_3,HB⟩:=hrel
    cases gk with
    | zero=>exact absurd HA.out (by simp [laws_toTurnS.l0])
    | succ k1=>
     have H:=HA.out
     clear HA
     simp only [laws_toTurnS.l0] at H
     by_cases c6:x4_1<(l0.length:Int)
     ·rw [if_pos c6] at H
      have c6b0:decide (x4_1<(l0.length:Int))=true:=decide_eq_true c6
      clear c6
      by_cases c7:0≤x4_1
      ·rw [if_pos c7] at H
       have c7b0:decide (0≤x4_1)=true:=decide_eq_true c7
       clear c7
       replace H:=Option.bind_eq_some_iff.mp H
       obtain ⟨⟨t105,t106,t107⟩,A80,H⟩:=H
       replace H:(if x4_1<(x3_1.length:Int) then (laws_toTurnS.l0 k1 l0 (x3_1.set (x4_1:Int).toNat (⟨t105,t106,t107⟩:S127)) (wrap64 (x4_1+1))) else (none))=some r:=H
       have A8:=Aside0.mk A80
       clear A80
       by_cases c9:x4_1<(x3_1.length:Int)
       ·rw [if_pos c9] at H
        have c9b0:decide (x4_1<(x3_1.length:Int))=true:=decide_eq_true c9
        clear c9
        obtain ⟨y108,hy108⟩:∃y_:List (S127),y_=(x3_1.set (x4_1:Int).toNat (⟨t105,t106,t107⟩:S127)):=⟨_,rfl⟩
        replace H:(laws_toTurnS.l0 k1 l0 y108 (wrap64 (x4_1+1)))=some r:=by first|(rw [hy108];with_reducible exact H)|(have H2_:=(Option.bind_some _ _).symm.trans H;rw [hy108];with_reducible exact H2_)|(have H2_:=(Option.bind_some _ _).symm.trans H;with_reducible exact H2_)|with_reducible exact H|(rw [hy108];exact H)|exact H
        have Ny108:=Aside0.mk hy108
        clear hy108
        have H':=Aside0.mk H
        clear H
        have p104:0≤(x4_1:Int):=of_decide_eq_true zb
        have q104:x4_1<(l0.length:Int):=of_decide_eq_true zb
        obtain ⟨ad104,e104,hx104_0,hx104_1,hx104_2⟩:=at_T116 HR0.out x4_1 p104 q104
        cases e104
        replace hx104_0:=(HB.out.cell (World.block_lt_of_cell? w _ hx104_0)).trans hx104_0
        replace hx104_1:=(HB.out.cell (World.block_lt_of_cell? w _ hx104_1)).trans hx104_1
        replace hx104_2:=(HB.out.cell (World.block_lt_of_cell? w _ hx104_2)).trans hx104_2
        replace p104:=eq_true p104
        replace q104:=eq_true q104
        go_wp2_with (first|((with_reducible refine gate_callee (f:=92) rfl ?_);refine goesL_ (some 20) rfl rfl Try.func92 zbk rfl #[.agg #[.string ((rd_T116 l0 x4_1).f0),.int .i64 ((rd_T116 l0 x4_1).f1),.int .i64 ((rd_T116 l0 x4_1).f2)]] rfl zc ?_;(with_reducible refine (laws_toTurn.calls ((rd_T116 l0 x4_1).f0) ((rd_T116 l0 x4_1).f1) ((rd_T116 l0 x4_1).f2) t105 t106 t107 _ A8.out).mono ?_);rintro e w11 ⟨rfl,hb⟩;refine ⟨_,rfl,?_⟩;replace HO_3:=Aside0.mk (Kd.R_below zcw hb);replace HB:=Aside0.mk (below_step za hb);(try clear hb);(try clear hb2);(try clear hk);(try clear hi);have p10:0≤(x4_1:Int):=of_decide_eq_true zb;have q10:(x4_1:Int)<((x3_1.length:Int):Int):=of_decide_eq_true zb;obtain ⟨go10,co10,eo10,gb10,gl10,cl10,HG10⟩:=Kd.R_form HO_3.out zbt;(first|cases eo10|(injection eo10 with ea_ en_ ec_;(first|subst ea_|(injection ea_ with ea_;subst ea_));subst ec_;clear en_));have GB10:=Aside0.mk gb10;have GG10:=Aside0.mk HG10;clear gb10 gl10 HG10;obtain ⟨ce10,hcl10,hM10,hcc10,hfr10⟩:=Kd.R_elem HO_3.out z127 (x4_1:Int) p10 q10;obtain rfl:=k127_openM hM10;have hx10_0:w11.cell? ⟨go10,(x4_1:Int).toNat*3,none⟩=some (.string ((rd_T127 x3_1 x4_1).f0)):=hcc10 0 _ rfl;have hx10_1:w11.cell? ⟨go10,(x4_1:Int).toNat*3+1,none⟩=some (.int .i64 ((rd_T127 x3_1 x4_1).f1)):=hcc10 1 _ rfl;have hx10_2:w11.cell? ⟨go10,(x4_1:Int).toNat*3+2,none⟩=some (.int .i64 ((rd_T127 x3_1 x4_1).f2)):=hcc10 2 _ rfl;have hf10_0:w11.frozen? ⟨go10,(x4_1:Int).toNat*3,none⟩=false:=hfr10 0;have hf10_1:w11.frozen? ⟨go10,(x4_1:Int).toNat*3+1,none⟩=false:=hfr10 1;have hf10_2:w11.frozen? ⟨go10,(x4_1:Int).toNat*3+2,none⟩=false:=hfr10 2;clear hcl10 hcc10 hfr10 hM10;replace p10:=eq_true p10;replace q10:=eq_true q10;have HX12:=Aside0.mk (show Kd.R k127 127 w11 w.heap.size (fun _=>True) (.slice (some ⟨go10,0,none⟩) x3_1.length co10) x3_1 from zcw);obtain ⟨ce12,hcl12,hM12,hcc12,hfr12⟩:=Kd.R_elem HX12.out z127 (x4_1:Int) (of_decide_eq_true zb) (by have h_:(x4_1:Int)<((x3_1.length:Int):Int):=of_decide_eq_true zb;first|exact h_|(have e_:=(Kd.R_reads' HO_3.out).1;omega)|simpa using h_);obtain rfl:=k127_openM hM12;have HP12:=Kd.R_seg HX12.out (x4_1:Int) (of_decide_eq_true zb) (by have h_:(x4_1:Int)<((x3_1.length:Int):Int):=of_decide_eq_true zb;first|exact h_|(have e_:=(Kd.R_reads' HO_3.out).1;omega)|simpa using h_) (seg:=[.string t105,.int .i64 t106,.int .i64 t107]) (j:=0) hcl12 hcc12 (show 3≤3 from by decide) (x':=(⟨t105,t106,t107⟩:S127)) (k127_mkM _ _ _ (⟨t105,t106,t107⟩:S127)) (fun _ hk=>hk);have hx12_0:=hcc12 0 _ rfl;(try simp only [show (k127).sz=3 from rfl,Nat.mul_one,Nat.add_zero] at hx12_0);have hf12_0:=hfr12 0;(try simp only [show (k127).sz=3 from rfl,Nat.mul_one,Nat.add_zero] at hf12_0);have hx12_1:=hcc12 1 _ rfl;(try simp only [show (k127).sz=3 from rfl,Nat.mul_one,Nat.add_zero] at hx12_1);have hf12_1:=hfr12 1;(try simp only [show (k127).sz=3 from rfl,Nat.mul_one,Nat.add_zero] at hf12_1);have hx12_2:=hcc12 2 _ rfl;(try simp only [show (k127).sz=3 from rfl,Nat.mul_one,Nat.add_zero] at hx12_2);have hf12_2:=hfr12 2;(try simp only [show (k127).sz=3 from rfl,Nat.mul_one,Nat.add_zero] at hf12_2);clear hcl12 hcc12 hfr12 hM12)|((with_reducible refine gate_store (t:=127) (p:=21) rfl ?_);refine store_event (t:=127) (p:=21) (v:=?vo_w13) (w1:=(((w11.setCell ⟨go10,(x4_1:Int).toNat*3,none⟩ (.string t105)).setCell ⟨go10,(x4_1:Int).toNat*3+1,none⟩ (.int .i64 t106)).setCell ⟨go10,(x4_1:Int).toNat*3+2,none⟩ (.int .i64 t107))) ?hg ?ho ?hn ?hr ?_;(case ho=>rfl);(case hg=>rfl);(case hn=>rfl);(case hr=>exact zt);intro w13 hw;have hg:w11.grownBy w13 (some go10):=(by rw [hw];exact HP12.2);have hp_:Kd.R k127 127 w13 w.heap.size (fun _=>True) (.slice (some ⟨go10,0,none⟩) x3_1.length co10) y108:=(by rw [hw,Ny108.out];exact HP12.1);clear HP12;replace HO_3:=Aside0.mk (hp_);replace HB:=Aside0.mk ((by rw [hw];exact below_set (below_set (below_set (HB.out) GB10.out) GB10.out) GB10.out:Below w.heap.size w w13));clear hg hw hp_))
        go_roundg k1
        case measure=>have:=HK1.out;omega
        case rel=>exact ⟨(y108),(wrap64 (x4_1+1)),zm,H',⟨zdn⟩,⟨zcw⟩,⟨za⟩⟩
       ·rw [if_neg c9] at H
        exact absurd H zdd
      ·rw [if_neg c7] at H
       exact absurd H zdd
     ·rw [if_neg c6] at H
      have c6b0:decide (x4_1<(l0.length:Int))=false:=decide_eq_false c6
      clear c6
      obtain rfl:=Option.some.inj H
      go_wp2
      go_ret
      exact ⟨_,zk,zcw,za⟩
  ·rw [if_neg c3] at H
   exact absurd H zdd
 ·rw [if_neg c2] at H
  exact absurd H zdd

def laws_toAnswer.f (a0_0:ByteArray) (a0_1:ByteArray) (a0_2:Int):Option (ByteArray × ByteArray × Int):=some (a0_0,a0_1,a0_2)
set_option maxHeartbeats 8000000 in
set_option maxRecDepth 100000 in
theorem laws_toAnswer.calls (a0_0:ByteArray) (a0_1:ByteArray) (a0_2:Int) (r1:ByteArray) (r2:ByteArray) (r3:Int) (w:World) (h:laws_toAnswer.f a0_0 a0_1 a0_2=some (r1,r2,r3)) :
 Calls Try.prog 93 #[.agg #[.string a0_0,.string a0_1,.int .i64 a0_2]] w fun e w'=>e = .returned (.agg #[.string r1,.string r2,.int .i64 r3])∧Below w.heap.size w w':=by
 have hu119:=Try.underlying119
 have hu125:=Try.underlying125
 have HB:=Aside0.mk (Below.refl w.heap.size w)
 have H:(some (a0_0,a0_1,a0_2))=some (r1,r2,r3):=h
 clear h
 simp only [Option.some.injEq,Prod.mk.injEq] at H
 obtain ⟨rfl,rfl,rfl⟩:=H
 go_enter Try.func93,Try.ntmps93
 go_wp2_with (first|((with_reducible refine gate_dst (N:=1) rfl ?_);refine box_event ?hg (N:=1) ?hd (cs:=#[.string a0_0,.string a0_1,.int .i64 a0_2]) (t:=119) ?hr ?_;(case hd=>rfl);(case hg=>rfl);(case hr=>exact zt);intro gb101 hg w2 hbox hb;have n0_:=Aside0.mk (below_step za hb);have n1_:=Aside0.mk (hbox);have n2_:=Aside0.mk ((by rw [hg];exact (below_size za):w.heap.size≤gb101));have n3_:=Aside0.mk ((by rw [hg];exact (below_size za):w.heap.size≤gb101));clear HB;have HB:=n0_;have BK101:=n1_;have GW101:=n2_;have GE101:=n3_;clear n0_ n1_ n2_ n3_;clear hb hbox hg)|((with_reducible refine gate_dst (N:=2) rfl ?_);refine box_event ?hg (N:=2) ?hd (cs:=#[.string (⟨#[]⟩:ByteArray),.string (⟨#[]⟩:ByteArray),.int .i64 0]) (t:=125) ?hr ?_;(case hd=>rfl);(case hg=>rfl);(case hr=>exact zt);intro gb102 hg w3 hbox hb;have n0_:=Aside0.mk (blk_below (g:=gb101) (o:=.cells #[.string a0_0,.string a0_1,.int .i64 a0_2] 119 (0,0)) ze hb);have n1_:=Aside0.mk (below_step zd hb);have n2_:=Aside0.mk (hbox);have n3_:=Aside0.mk ((by rw [hg];exact (below_size zd):w.heap.size≤gb102));have n4_:=Aside0.mk ((by rw [hg];exact (below_size zd):w.heap.size≤gb102));have n5_:=Aside0.mk ((by rw [hg];exact Nat.ne_of_lt (blk_lt (g:=gb101) (o:=.cells #[.string a0_0,.string a0_1,.int .i64 a0_2] 119 (0,0)) ze):gb101≠gb102));have n6_:=Aside0.mk ((by rw [hg];exact Nat.ne_of_gt (blk_lt (g:=gb101) (o:=.cells #[.string a0_0,.string a0_1,.int .i64 a0_2] 119 (0,0)) ze):gb102≠gb101));clear BK101;clear HB;have BK101:=n0_;have HB:=n1_;have BK102:=n2_;have GW102:=n3_;have GE102:=n4_;have NB101_102:=n5_;have NB102_101:=n6_;clear n0_ n1_ n2_ n3_ n4_ n5_ n6_;clear hb hbox hg)|((with_reducible refine gate_dst (N:=3) rfl ?_);refine box_event ?hg (N:=3) ?hd (cs:=#[.string (⟨#[]⟩:ByteArray),.string (⟨#[]⟩:ByteArray),.int .i64 0]) (t:=125) ?hr ?_;(case hd=>rfl);(case hg=>rfl);(case hr=>exact zt);intro gb103 hg w4 hbox hb;have n0_:=Aside0.mk (blk_below (g:=gb101) (o:=.cells #[.string a0_0,.string a0_1,.int .i64 a0_2] 119 (0,0)) ze hb);have n1_:=Aside0.mk (blk_below (g:=gb102) (o:=.cells #[.string (⟨#[]⟩:ByteArray),.string (⟨#[]⟩:ByteArray),.int .i64 0] 125 (0,0)) zz hb);have n2_:=Aside0.mk (below_step zah hb);have n3_:=Aside0.mk (hbox);have n4_:=Aside0.mk ((by rw [hg];exact (below_size zah):w.heap.size≤gb103));have n5_:=Aside0.mk ((by rw [hg];exact (below_size zah):w.heap.size≤gb103));have n6_:=Aside0.mk ((by rw [hg];exact Nat.ne_of_lt (blk_lt (g:=gb101) (o:=.cells #[.string a0_0,.string a0_1,.int .i64 a0_2] 119 (0,0)) ze):gb101≠gb103));have n7_:=Aside0.mk ((by rw [hg];exact Nat.ne_of_gt (blk_lt (g:=gb101) (o:=.cells #[.string a0_0,.string a0_1,.int .i64 a0_2] 119 (0,0)) ze):gb103≠gb101));have n8_:=Aside0.mk ((by rw [hg];exact Nat.ne_of_lt (blk_lt (g:=gb102) (o:=.cells #[.string (⟨#[]⟩:ByteArray),.string (⟨#[]⟩:ByteArray),.int .i64 0] 125 (0,0)) zz):gb102≠gb103));have n9_:=Aside0.mk ((by rw [hg];exact Nat.ne_of_gt (blk_lt (g:=gb102) (o:=.cells #[.string (⟨#[]⟩:ByteArray),.string (⟨#[]⟩:ByteArray),.int .i64 0] 125 (0,0)) zz):gb103≠gb102));clear BK101;clear BK102;clear HB;have BK101:=n0_;have BK102:=n1_;have HB:=n2_;have BK103:=n3_;have GW103:=n4_;have GE103:=n5_;have NB101_103:=n6_;have NB103_101:=n7_;have NB102_103:=n8_;have NB103_102:=n9_;clear n0_ n1_ n2_ n3_ n4_ n5_ n6_ n7_ n8_ n9_;clear hb hbox hg;have hnb5:=NB101_102.out;have hnc5:=NB102_101.out;have hnb6:=NB101_103.out;have hnc6:=NB103_101.out;have hcz7_0:w4.cell? ⟨gb101,0,none⟩=some (.string a0_0):=(blk_cell BK101.out 0).trans rfl;have hcz7_1:w4.cell? ⟨gb101,1,none⟩=some (.string a0_1):=(blk_cell BK101.out 1).trans rfl;have hcz7_2:w4.cell? ⟨gb101,2,none⟩=some (.int .i64 a0_2):=(blk_cell BK101.out 2).trans rfl;have hfz7_0:=blk_frozen BK101.out 0;have hfz7_1:=blk_frozen BK101.out 1;have hfz7_2:=blk_frozen BK101.out 2;have hnb8:=NB103_102.out;have hnc8:=NB102_103.out;have hcz9_0:w4.cell? ⟨gb103,0,none⟩=some (.string (⟨#[]⟩:ByteArray)):=(blk_cell BK103.out 0).trans rfl;have hcz9_1:w4.cell? ⟨gb103,1,none⟩=some (.string (⟨#[]⟩:ByteArray)):=(blk_cell BK103.out 1).trans rfl;have hcz9_2:w4.cell? ⟨gb103,2,none⟩=some (.int .i64 0):=(blk_cell BK103.out 2).trans rfl;have hfz9_0:=blk_frozen BK103.out 0;have hfz9_1:=blk_frozen BK103.out 1;have hfz9_2:=blk_frozen BK103.out 2;have hcz10_0:w4.cell? ⟨gb102,0,none⟩=some (.string (⟨#[]⟩:ByteArray)):=(blk_cell BK102.out 0).trans rfl;have hcz10_1:w4.cell? ⟨gb102,1,none⟩=some (.string (⟨#[]⟩:ByteArray)):=(blk_cell BK102.out 1).trans rfl;have hcz10_2:w4.cell? ⟨gb102,2,none⟩=some (.int .i64 0):=(blk_cell BK102.out 2).trans rfl;have hfz10_0:=blk_frozen BK102.out 0;have hfz10_1:=blk_frozen BK102.out 1;have hfz10_2:=blk_frozen BK102.out 2))
 refine bodyPost_ret (results_cell_row rfl _ _ gb102 125 #[.string a0_0,.string a0_1,.int .i64 a0_2] (0,0) _ rfl (by (with_reducible repeat (first|refine blk_drewN ?_ _|refine blk_drew ?_|refine blk_alloc ?_ _));refine blk_put (cs:=#[.string a0_0,.string a0_1,.int .i64 0]) ?_ 2 _ rfl;(with_reducible repeat (first|refine blk_drewN ?_ _|refine blk_drew ?_|refine blk_alloc ?_ _));refine blk_put (cs:=#[.string a0_0,.string (⟨#[]⟩:ByteArray),.int .i64 0]) ?_ 1 _ rfl;(with_reducible repeat (first|refine blk_drewN ?_ _|refine blk_drew ?_|refine blk_alloc ?_ _));refine blk_put (cs:=#[.string (⟨#[]⟩:ByteArray),.string (⟨#[]⟩:ByteArray),.int .i64 0]) ?_ 0 _ rfl;(with_reducible repeat (first|refine blk_drewN ?_ _|refine blk_drew ?_|refine blk_alloc ?_ _));refine blk_far ?_ NB102_103.out _;(with_reducible repeat (first|refine blk_drewN ?_ _|refine blk_drew ?_|refine blk_alloc ?_ _));refine blk_far ?_ NB102_103.out _;(with_reducible repeat (first|refine blk_drewN ?_ _|refine blk_drew ?_|refine blk_alloc ?_ _));refine blk_far ?_ NB102_103.out _;(with_reducible repeat (first|refine blk_drewN ?_ _|refine blk_drew ?_|refine blk_alloc ?_ _));exact BK102.out) Try.underlying125 rfl zbk) rfl ?_
 exact ⟨zk,by repeat (first|(with_reducible first|exact HB.out|apply below_alloc|apply pw_below_drewN|apply below_drew1|refine below_set ?_ GE101.out|refine below_set ?_ GE102.out|refine below_set ?_ GE103.out)|exact HB.out)⟩

def laws_toAnswerS.l0:Nat→List (S119)→List (S125)→Int→Option ((List (S125)))
 | 0,_,_,_=>none
 | k+1,x0,x3,x4=>if x4<(x0.length:Int) then (if 0≤x4 then ((laws_toAnswer.f ((rd_T119 x0 x4).f0) ((rd_T119 x0 x4).f1) ((rd_T119 x0 x4).f2)).bind fun bt105=>(if x4<(x3.length:Int) then (laws_toAnswerS.l0 k x0 (x3.set (x4:Int).toNat (⟨bt105.1,bt105.2.1,bt105.2.2⟩:S125)) (wrap64 (x4+1))) else (none))) else (none)) else (some x3)
def laws_toAnswerS.f (k:Nat) (l0:List (S119)):Option ((List (S125))):=if 0≤(l0.length:Int) then (if ((l0.length:Int):Int).toNat≤7036874417766 then (laws_toAnswerS.l0 k l0 (List.replicate ((l0.length:Int):Int).toNat z125) 0) else (none)) else (none)
set_option maxHeartbeats 8000000 in
set_option maxRecDepth 100000 in
theorem laws_toAnswerS.calls (k:Nat) (A0:Option Addr) (c0:Nat) (l0:List (S119)) (r:List (S125)) (w:World) (hr0:Kd.C k119 w A0 l0.length l0) (hc0:l0.length≤c0) (h:laws_toAnswerS.f k l0=some r) :
 Calls Try.prog 40 #[.slice A0 l0.length c0] w fun e w'=>∃v0_:Value,e = .returned (v0_)∧Kd.R k125 125 w' w.heap.size (fun _=>True) v0_ r∧Below w.heap.size w w':=by
 have hu119:=Try.underlying119
 have hu125:=Try.underlying125
 have HR0:=Aside0.mk hr0
 have HC0:=Aside0.mk hc0
 clear hr0 hc0
 have HB:=Aside0.mk (Below.refl w.heap.size w)
 have H:(if 0≤(l0.length:Int) then (if ((l0.length:Int):Int).toNat≤7036874417766 then (laws_toAnswerS.l0 k l0 (List.replicate ((l0.length:Int):Int).toNat z125) 0) else (none)) else (none))=some r:=h
 clear h
 by_cases c2:0≤(l0.length:Int)
 ·rw [if_pos c2] at H
  have c2b0:=eq_true c2
  have c2b1:decide (0≤(l0.length:Int))=true:=decide_eq_true c2
  clear c2
  by_cases c3:((l0.length:Int):Int).toNat≤7036874417766
  ·rw [if_pos c3] at H
   have c3b0:=eq_true c3
   have c3b1:decide (((l0.length:Int):Int).toNat≤7036874417766)=true:=decide_eq_true c3
   clear c3
   obtain ⟨y101,hy101⟩:∃y_:List (S125),y_=(List.replicate ((l0.length:Int):Int).toNat z125):=⟨_,rfl⟩
   replace H:(laws_toAnswerS.l0 k l0 y101 0)=some r:=by first|(rw [hy101];with_reducible exact H)|(have H2_:=(Option.bind_some _ _).symm.trans H;rw [hy101];with_reducible exact H2_)|(have H2_:=(Option.bind_some _ _).symm.trans H;with_reducible exact H2_)|with_reducible exact H|(rw [hy101];exact H)|exact H
   have Ny101:=Aside0.mk hy101
   clear hy101
   have H':=Aside0.mk H
   clear H
   go_enter Try.func40,Try.ntmps40
   go_wp2_with (first|((with_reducible refine gate_dst (N:=7) rfl ?_);refine Kd.R_make k125 _ 125 rfl (N:=7) rfl 65 _ _ rfl (l0.length:Int) rfl rfl Try.underlying65 (.agg #[(.string ⟨#[]⟩),(.string ⟨#[]⟩),(.int .i64 0)]) 40 info125 rfl zbq zbt z125 (ok:=fun _=>True) (okp:=fun _=>True) (k125_mkM _ _ _ z125) (fun _ hk=>hk) trivial (of_decide_eq_true zb) (Nat.le_trans (Nat.mul_le_mul_right _ (of_decide_eq_true zb:(l0.length:Int).toNat≤7036874417766)) zbt) (Below.refl _ _) (Nat.le_refl _) ?_;intro v102 w4 ho5 hb hg_ hnew_;clear hg_ hnew_;(first|rw [←Ny101.out] at ho5|(simp only [Int.reduceToNat] at ho5;rw [←Ny101.out] at ho5));have HO103:=Aside0.mk (Kd.R_lower ho5 (below_size za));replace HB:=Aside0.mk (below_step za hb);clear hb ho5))
   go_loopg [4] k (fun kq v4 w'=>∃(x3_1:List (S125)) (x4_1:Int),v4 = .int .i64 x4_1∧Aside0 (laws_toAnswerS.l0 kq l0 x3_1 x4_1=some r)∧Aside0 (kq≤k)∧Aside0 (Kd.R k125 125 w' w.heap.size (fun _=>True) v102 x3_1)∧Aside0 (Below w.heap.size w w'))
   case atStart=>exact ⟨(y101),(0),zm,H',⟨Nat.le_refl _⟩,⟨by (with_reducible repeat (first|apply Kd.R_alloc|apply Kd.R_drewN|apply Kd.R_drew));exact HO103.out⟩,⟨za⟩⟩
   case round=>
    clear H'
    try clear c2
    try clear c2b0
    try clear c2b1
    try clear p2
    try clear c3
    try clear c3b0
    try clear c3b1
    try clear c4
    obtain ⟨x3_1,x4_1,rfl,HA,HK1,HO_3,HB⟩:=hrel
    cases gk with
    | zero=>exact absurd HA.out (by simp [laws_toAnswerS.l0])
    | succ k1=>
     have H:=HA.out
     clear HA
     simp only [laws_toAnswerS.l0] at H
     by_cases c6:x4_1<(l0.length:Int)
     ·rw [if_pos c6] at H
      have c6b0:decide (x4_1<(l0.length:Int))=true:=decide_eq_true c6
      clear c6
      by_cases c7:0≤x4_1
      ·rw [if_pos c7] at H
       have c7b0:decide (0≤x4_1)=true:=decide_eq_true c7
       clear c7
       replace H:=Option.bind_eq_some_iff.mp H
       obtain ⟨⟨t105,t106,t107⟩,A80,H⟩:=H
       replace H:(if x4_1<(x3_1.length:Int) then (laws_toAnswerS.l0 k1 l0 (x3_1.set (x4_1:Int).toNat (⟨t105,t106,t107⟩:S125)) (wrap64 (x4_1+1))) else (none))=some r:=H
       have A8:=Aside0.mk A80
       clear A80
       by_cases c9:x4_1<(x3_1.length:Int)
       ·rw [if_pos c9] at H
        have c9b0:decide (x4_1<(x3_1.length:Int))=true:=decide_eq_true c9
        clear c9
        obtain ⟨y108,hy108⟩:∃y_:List (S125),y_=(x3_1.set (x4_1:Int).toNat (⟨t105,t106,t107⟩:S125)):=⟨_,rfl⟩
        replace H:(laws_toAnswerS.l0 k1 l0 y108 (wrap64 (x4_1+1)))=some r:=by first|(rw [hy108];with_reducible exact H)|(have H2_:=(Option.bind_some _ _).symm.trans H;rw [hy108];with_reducible exact H2_)|(have H2_:=(Option.bind_some _ _).symm.trans H;with_reducible exact H2_)|with_reducible exact H|(rw [hy108];exact H)|exact H
        have Ny108:=Aside0.mk hy108
        clear hy108
        have H':=Aside0.mk H
        clear H
        have p104:0≤(x4_1:Int):=of_decide_eq_true zb
        have q104:x4_1<(l0.length:Int):=of_decide_eq_true zb
        obtain ⟨ad104,e104,hx104_0,hx104_1,hx104_2⟩:=at_T119 HR0.out x4_1 p104 q104
        cases e104
        replace hx104_0:=(HB.out.cell (World.block_lt_of_cell? w _ hx104_0)).trans hx104_0
        replace hx104_1:=(HB.out.cell (World.block_lt_of_cell? w _ hx104_1)).trans hx104_1
        replace hx104_2:=(HB.out.cell (World.block_lt_of_cell? w _ hx104_2)).trans hx104_2
        replace p104:=eq_true p104
        replace q104:=eq_true q104
        go_wp2_with (first|((with_reducible refine gate_callee (f:=93) rfl ?_);refine goesL_ (some 20) rfl rfl Try.func93 zbk rfl #[.agg #[.string ((rd_T119 l0 x4_1).f0),.string ((rd_T119 l0 x4_1).f1),.int .i64 ((rd_T119 l0 x4_1).f2)]] rfl zc ?_;(with_reducible refine (laws_toAnswer.calls ((rd_T119 l0 x4_1).f0) ((rd_T119 l0 x4_1).f1) ((rd_T119 l0 x4_1).f2) t105 t106 t107 _ A8.out).mono ?_);rintro e w11 ⟨rfl,hb⟩;refine ⟨_,rfl,?_⟩;replace HO_3:=Aside0.mk (Kd.R_below zcw hb);replace HB:=Aside0.mk (below_step za hb);(try clear hb);(try clear hb2);(try clear hk);(try clear hi);have p10:0≤(x4_1:Int):=of_decide_eq_true zb;have q10:(x4_1:Int)<((x3_1.length:Int):Int):=of_decide_eq_true zb;obtain ⟨go10,co10,eo10,gb10,gl10,cl10,HG10⟩:=Kd.R_form HO_3.out zbt;(first|cases eo10|(injection eo10 with ea_ en_ ec_;(first|subst ea_|(injection ea_ with ea_;subst ea_));subst ec_;clear en_));have GB10:=Aside0.mk gb10;have GG10:=Aside0.mk HG10;clear gb10 gl10 HG10;obtain ⟨ce10,hcl10,hM10,hcc10,hfr10⟩:=Kd.R_elem HO_3.out z125 (x4_1:Int) p10 q10;obtain rfl:=k125_openM hM10;have hx10_0:w11.cell? ⟨go10,(x4_1:Int).toNat*3,none⟩=some (.string ((rd_T125 x3_1 x4_1).f0)):=hcc10 0 _ rfl;have hx10_1:w11.cell? ⟨go10,(x4_1:Int).toNat*3+1,none⟩=some (.string ((rd_T125 x3_1 x4_1).f1)):=hcc10 1 _ rfl;have hx10_2:w11.cell? ⟨go10,(x4_1:Int).toNat*3+2,none⟩=some (.int .i64 ((rd_T125 x3_1 x4_1).f2)):=hcc10 2 _ rfl;have hf10_0:w11.frozen? ⟨go10,(x4_1:Int).toNat*3,none⟩=false:=hfr10 0;have hf10_1:w11.frozen? ⟨go10,(x4_1:Int).toNat*3+1,none⟩=false:=hfr10 1;have hf10_2:w11.frozen? ⟨go10,(x4_1:Int).toNat*3+2,none⟩=false:=hfr10 2;clear hcl10 hcc10 hfr10 hM10;replace p10:=eq_true p10;replace q10:=eq_true q10;have HX12:=Aside0.mk (show Kd.R k125 125 w11 w.heap.size (fun _=>True) (.slice (some ⟨go10,0,none⟩) x3_1.length co10) x3_1 from zcw);obtain ⟨ce12,hcl12,hM12,hcc12,hfr12⟩:=Kd.R_elem HX12.out z125 (x4_1:Int) (of_decide_eq_true zb) (by have h_:(x4_1:Int)<((x3_1.length:Int):Int):=of_decide_eq_true zb;first|exact h_|(have e_:=(Kd.R_reads' HO_3.out).1;omega)|simpa using h_);obtain rfl:=k125_openM hM12;have HP12:=Kd.R_seg HX12.out (x4_1:Int) (of_decide_eq_true zb) (by have h_:(x4_1:Int)<((x3_1.length:Int):Int):=of_decide_eq_true zb;first|exact h_|(have e_:=(Kd.R_reads' HO_3.out).1;omega)|simpa using h_) (seg:=[.string t105,.string t106,.int .i64 t107]) (j:=0) hcl12 hcc12 (show 3≤3 from by decide) (x':=(⟨t105,t106,t107⟩:S125)) (k125_mkM _ _ _ (⟨t105,t106,t107⟩:S125)) (fun _ hk=>hk);have hx12_0:=hcc12 0 _ rfl;(try simp only [show (k125).sz=3 from rfl,Nat.mul_one,Nat.add_zero] at hx12_0);have hf12_0:=hfr12 0;(try simp only [show (k125).sz=3 from rfl,Nat.mul_one,Nat.add_zero] at hf12_0);have hx12_1:=hcc12 1 _ rfl;(try simp only [show (k125).sz=3 from rfl,Nat.mul_one,Nat.add_zero] at hx12_1);have hf12_1:=hfr12 1;(try simp only [show (k125).sz=3 from rfl,Nat.mul_one,Nat.add_zero] at hf12_1);have hx12_2:=hcc12 2 _ rfl;(try simp only [show (k125).sz=3 from rfl,Nat.mul_one,Nat.add_zero] at hx12_2);have hf12_2:=hfr12 2;(try simp only [show (k125).sz=3 from rfl,Nat.mul_one,Nat.add_zero] at hf12_2);clear hcl12 hcc12 hfr12 hM12)|((with_reducible refine gate_store (t:=125) (p:=21) rfl ?_);refine store_event (t:=125) (p:=21) (v:=?vo_w13) (w1:=(((w11.setCell ⟨go10,(x4_1:Int).toNat*3,none⟩ (.string t105)).setCell ⟨go10,(x4_1:Int).toNat*3+1,none⟩ (.string t106)).setCell ⟨go10,(x4_1:Int).toNat*3+2,none⟩ (.int .i64 t107))) ?hg ?ho ?hn ?hr ?_;(case ho=>rfl);(case hg=>rfl);(case hn=>rfl);(case hr=>exact zt);intro w13 hw;have hg:w11.grownBy w13 (some go10):=(by rw [hw];exact HP12.2);have hp_:Kd.R k125 125 w13 w.heap.size (fun _=>True) (.slice (some ⟨go10,0,none⟩) x3_1.length co10) y108:=(by rw [hw,Ny108.out];exact HP12.1);clear HP12;replace HO_3:=Aside0.mk (hp_);replace HB:=Aside0.mk ((by rw [hw];exact below_set (below_set (below_set (HB.out) GB10.out) GB10.out) GB10.out:Below w.heap.size w w13));clear hg hw hp_))
        go_roundg k1
        case measure=>have:=HK1.out;omega
        case rel=>exact ⟨(y108),(wrap64 (x4_1+1)),zm,H',⟨zdn⟩,⟨zcw⟩,⟨za⟩⟩
       ·rw [if_neg c9] at H
        exact absurd H zdd
      ·rw [if_neg c7] at H
       exact absurd H zdd
     ·rw [if_neg c6] at H
      have c6b0:decide (x4_1<(l0.length:Int))=false:=decide_eq_false c6
      clear c6
      obtain rfl:=Option.some.inj H
      go_wp2
      go_ret
      exact ⟨_,zk,zcw,za⟩
  ·rw [if_neg c3] at H
   exact absurd H zdd
 ·rw [if_neg c2] at H
  exact absurd H zdd

def impl_within.f (a0:Int) (a1:Int) (a2:Int):Option (Bool):=if a0≥a1 then (some (decide (a0≤a2))) else (some false)
set_option maxHeartbeats 8000000 in
set_option maxRecDepth 100000 in
theorem impl_within.calls (a0:Int) (a1:Int) (a2:Int) (r:Bool) (w:World) (h:impl_within.f a0 a1 a2=some r) :
 Calls Try.prog 96 #[.int .i64 a0,.int .i64 a1,.int .i64 a2] w fun e w'=>e = .returned (.bool r)∧Drawn0 w w':=by
 have H:(if a0≥a1 then (some (decide (a0≤a2))) else (some false))=some r:=h
 clear h
 by_cases c4:a0≥a1
 ·rw [if_pos c4] at H
  have c4b0:decide (a1≤a0)=true:=decide_eq_true c4
  clear c4
  obtain rfl:=Option.some.inj H
  go_enter Try.func96,Try.ntmps96
  go_wp2
  go_ret
  exact ⟨zm,zw⟩
 ·rw [if_neg c4] at H
  have c4b0:decide (a1≤a0)=false:=decide_eq_false c4
  clear c4
  obtain rfl:=Option.some.inj H
  go_enter Try.func96,Try.ntmps96
  go_wp2
  go_ret
  exact ⟨zm,zw⟩

def impl_onlyNameBytes.l0:Nat→ByteArray→Int→Int→Option (Bool)
 | 0,_,_,_=>none
 | k+1,x0,x6,x7=>if x7<x6 then (if 0≤x7 then (if x7<(x0.size:Int) then (if (bt x0 x7)<97 then (if (bt x0 x7)<48 then (some false) else (if (bt x0 x7) > 57 then (some false) else (impl_onlyNameBytes.l0 k x0 x6 (wrap64 (x7+1))))) else (if (bt x0 x7) > 122 then (if (bt x0 x7)<48 then (some false) else (if (bt x0 x7) > 57 then (some false) else (impl_onlyNameBytes.l0 k x0 x6 (wrap64 (x7+1))))) else (impl_onlyNameBytes.l0 k x0 x6 (wrap64 (x7+1))))) else (none)) else (none)) else (some true)
def impl_onlyNameBytes.f (k:Nat) (a0:ByteArray):Option (Bool):=impl_onlyNameBytes.l0 k a0 (a0.size:Int) 0
set_option maxHeartbeats 8000000 in
set_option maxRecDepth 100000 in
theorem impl_onlyNameBytes.calls (k:Nat) (a0:ByteArray) (r:Bool) (w:World) (h:impl_onlyNameBytes.f k a0=some r) :
 Calls Try.prog 140 #[.string a0] w fun e w'=>e = .returned (.bool r)∧Drawn0 w w':=by
 have H:(impl_onlyNameBytes.l0 k a0 (a0.size:Int) 0)=some r:=h
 clear h
 have H':=Aside0.mk H
 clear H
 go_enter Try.func140,Try.ntmps140
 go_wp2
 go_loopg [7] k (fun kq v7 w'=>∃(x7_1:Int),v7 = .int .i64 x7_1∧Aside0 (impl_onlyNameBytes.l0 kq a0 (a0.size:Int) x7_1=some r)∧Aside0 (kq≤k)∧Drawn0 w w')
 case atStart=>exact ⟨(0),zm,H',⟨Nat.le_refl _⟩,zw⟩
 case round=>
  clear H'
  try clear c1
  obtain ⟨x7_1,rfl,HA,HK1,⟨m1,rfl⟩⟩:=hrel
  cases gk with
  | zero=>exact absurd HA.out (by simp [impl_onlyNameBytes.l0])
  | succ k1=>
   have H:=HA.out
   clear HA
   simp only [impl_onlyNameBytes.l0] at H
   by_cases c2:x7_1<(a0.size:Int)
   ·rw [if_pos c2] at H
    have c2b0:decide (x7_1<(a0.size:Int))=true:=decide_eq_true c2
    clear c2
    by_cases c3:0≤x7_1
    ·rw [if_pos c3] at H
     have c3b0:decide (0≤x7_1)=true:=decide_eq_true c3
     clear c3
     by_cases c4:x7_1<(a0.size:Int)
     ·rw [if_pos c4] at H
      have c4b0:decide (x7_1<(a0.size:Int))=true:=decide_eq_true c4
      clear c4
      by_cases c6:(bt a0 x7_1)<97
      ·rw [if_pos c6] at H
       have c6b0:decide ((bt a0 x7_1)<97)=true:=decide_eq_true c6
       clear c6
       by_cases c7:(bt a0 x7_1)<48
       ·rw [if_pos c7] at H
        have c7b0:decide ((bt a0 x7_1)<48)=true:=decide_eq_true c7
        clear c7
        obtain rfl:=Option.some.inj H
        have p5:0≤(x7_1:Int):=of_decide_eq_true zb
        have q5:x7_1<(a0.size:Int):=of_decide_eq_true zb
        have hx5:=bt_at a0 x7_1
        replace p5:=eq_true p5
        replace q5:=eq_true q5
        go_wp2
        go_ret
        exact ⟨zm,zw⟩
       ·rw [if_neg c7] at H
        have c7b0:decide ((bt a0 x7_1)<48)=false:=decide_eq_false c7
        clear c7
        by_cases c8:(bt a0 x7_1) > 57
        ·rw [if_pos c8] at H
         have c8b0:decide (57<(bt a0 x7_1))=true:=decide_eq_true c8
         clear c8
         obtain rfl:=Option.some.inj H
         have p5:0≤(x7_1:Int):=of_decide_eq_true zb
         have q5:x7_1<(a0.size:Int):=of_decide_eq_true zb
         have hx5:=bt_at a0 x7_1
         replace p5:=eq_true p5
         replace q5:=eq_true q5
         go_wp2
         go_ret
         exact ⟨zm,zw⟩
        ·rw [if_neg c8] at H
         have c8b0:decide (57<(bt a0 x7_1))=false:=decide_eq_false c8
         clear c8
         have H':=Aside0.mk H
         clear H
         have p5:0≤(x7_1:Int):=of_decide_eq_true zb
         have q5:x7_1<(a0.size:Int):=of_decide_eq_true zb
         have hx5:=bt_at a0 x7_1
         replace p5:=eq_true p5
         replace q5:=eq_true q5
         go_wp2
         go_roundg k1
         case measure=>have:=HK1.out;omega
         case rel=>exact ⟨(wrap64 (x7_1+1)),zm,H',⟨zdn⟩,zw⟩
      ·rw [if_neg c6] at H
       have c6b0:decide ((bt a0 x7_1)<97)=false:=decide_eq_false c6
       clear c6
       by_cases c9:(bt a0 x7_1) > 122
       ·rw [if_pos c9] at H
        have c9b0:decide (122<(bt a0 x7_1))=true:=decide_eq_true c9
        clear c9
        by_cases c10:(bt a0 x7_1)<48
        ·rw [if_pos c10] at H
         have c10b0:decide ((bt a0 x7_1)<48)=true:=decide_eq_true c10
         clear c10
         obtain rfl:=Option.some.inj H
         have p5:0≤(x7_1:Int):=of_decide_eq_true zb
         have q5:x7_1<(a0.size:Int):=of_decide_eq_true zb
         have hx5:=bt_at a0 x7_1
         replace p5:=eq_true p5
         replace q5:=eq_true q5
         go_wp2
         go_ret
         exact ⟨zm,zw⟩
        ·rw [if_neg c10] at H
         have c10b0:decide ((bt a0 x7_1)<48)=false:=decide_eq_false c10
         clear c10
         by_cases c11:(bt a0 x7_1) > 57
         ·rw [if_pos c11] at H
          have c11b0:decide (57<(bt a0 x7_1))=true:=decide_eq_true c11
          clear c11
          obtain rfl:=Option.some.inj H
          have p5:0≤(x7_1:Int):=of_decide_eq_true zb
          have q5:x7_1<(a0.size:Int):=of_decide_eq_true zb
          have hx5:=bt_at a0 x7_1
          replace p5:=eq_true p5
          replace q5:=eq_true q5
          go_wp2
          go_ret
          exact ⟨zm,zw⟩
         ·rw [if_neg c11] at H
          have c11b0:decide (57<(bt a0 x7_1))=false:=decide_eq_false c11
          clear c11
          have H':=Aside0.mk H
          clear H
          have p5:0≤(x7_1:Int):=of_decide_eq_true zb
          have q5:x7_1<(a0.size:Int):=of_decide_eq_true zb
          have hx5:=bt_at a0 x7_1
          replace p5:=eq_true p5
          replace q5:=eq_true q5
          go_wp2
          go_roundg k1
          case measure=>have:=HK1.out;omega
          case rel=>exact ⟨(wrap64 (x7_1+1)),zm,H',⟨zdn⟩,zw⟩
       ·rw [if_neg c9] at H
        have c9b0:decide (122<(bt a0 x7_1))=false:=decide_eq_false c9
        clear c9
        have H':=Aside0.mk H
        clear H
        have p5:0≤(x7_1:Int):=of_decide_eq_true zb
        have q5:x7_1<(a0.size:Int):=of_decide_eq_true zb
        have hx5:=bt_at a0 x7_1
        replace p5:=eq_true p5
        replace q5:=eq_true q5
        go_wp2
        go_roundg k1
        case measure=>have:=HK1.out;omega
        case rel=>exact ⟨(wrap64 (x7_1+1)),zm,H',⟨zdn⟩,zw⟩
     ·rw [if_neg c4] at H
      exact absurd H zdd
    ·rw [if_neg c3] at H
     exact absurd H zdd
   ·rw [if_neg c2] at H
    have c2b0:decide (x7_1<(a0.size:Int))=false:=decide_eq_false c2
    clear c2
    obtain rfl:=Option.some.inj H
    go_wp2
    go_ret
    exact ⟨zm,zw⟩

def impl_IsName.f (k:Nat) (a0:ByteArray):Option (Bool):=if (a0.size:Int)<1 then (some false) else (if (a0.size:Int) > 10 then (some false) else (if 0<(a0.size:Int) then (if (bt a0 0)<97 then (some false) else (if (bt a0 0) > 122 then (some false) else ((impl_onlyNameBytes.f k a0).bind fun t101=>(some t101)))) else (none)))
set_option maxHeartbeats 8000000 in
set_option maxRecDepth 100000 in
theorem impl_IsName.calls (k:Nat) (a0:ByteArray) (r:Bool) (w:World) (h:impl_IsName.f k a0=some r) :
 Calls Try.prog 108 #[.string a0] w fun e w'=>e = .returned (.bool r)∧Drawn0 w w':=by
 have H:(if (a0.size:Int)<1 then (some false) else (if (a0.size:Int) > 10 then (some false) else (if 0<(a0.size:Int) then (if (bt a0 0)<97 then (some false) else (if (bt a0 0) > 122 then (some false) else ((impl_onlyNameBytes.f k a0).bind fun t101=>(some t101)))) else (none))))=some r:=h
 clear h
 by_cases c2:(a0.size:Int)<1
 ·rw [if_pos c2] at H
  have c2b0:decide ((a0.size:Int)<1)=true:=decide_eq_true c2
  have c2b1:decide (a0.size<1)=true:=decide_eq_true zbt
  clear c2
  obtain rfl:=Option.some.inj H
  go_enter Try.func108,Try.ntmps108
  go_wp2
  go_ret
  exact ⟨zm,zw⟩
 ·rw [if_neg c2] at H
  have c2b0:decide ((a0.size:Int)<1)=false:=decide_eq_false c2
  have c2b1:decide (a0.size<1)=false:=decide_eq_false zbt
  clear c2
  by_cases c3:(a0.size:Int) > 10
  ·rw [if_pos c3] at H
   have c3b0:decide (10<(a0.size:Int))=true:=decide_eq_true c3
   have c3b1:decide (10<a0.size)=true:=decide_eq_true zbt
   clear c3
   obtain rfl:=Option.some.inj H
   go_enter Try.func108,Try.ntmps108
   go_wp2
   go_ret
   exact ⟨zm,zw⟩
  ·rw [if_neg c3] at H
   have c3b0:decide (10<(a0.size:Int))=false:=decide_eq_false c3
   have c3b1:decide (10<a0.size)=false:=decide_eq_false zbt
   clear c3
   by_cases c4:0<(a0.size:Int)
   ·rw [if_pos c4] at H
    have c4b0:decide (0<(a0.size:Int))=true:=decide_eq_true c4
    have c4b1:decide (0<a0.size)=true:=decide_eq_true zbt
    clear c4
    by_cases c6:(bt a0 0)<97
    ·rw [if_pos c6] at H
     have c6b0:decide ((bt a0 0)<97)=true:=decide_eq_true c6
     clear c6
     obtain rfl:=Option.some.inj H
     have p5:0≤(0:Int):=zbt
     have q5:0<a0.size:=(by have:(0:Int)<(a0.size:Int):=of_decide_eq_true zb;omega)
     have hx5:∀h:0<a0.size,((a0[0]'h).toNat:Int)=bt a0 0:=bt_at a0 0
     clear p5
     have qi5:(0<(a0.size:Int))=True:=eq_true (of_decide_eq_true zb)
     replace q5:=eq_true q5
     go_enter Try.func108,Try.ntmps108
     go_wp2
     go_ret
     exact ⟨zm,zw⟩
    ·rw [if_neg c6] at H
     have c6b0:decide ((bt a0 0)<97)=false:=decide_eq_false c6
     clear c6
     by_cases c8:(bt a0 0) > 122
     ·rw [if_pos c8] at H
      have c8b0:decide (122<(bt a0 0))=true:=decide_eq_true c8
      clear c8
      obtain rfl:=Option.some.inj H
      have p5:0≤(0:Int):=zbt
      have q5:0<a0.size:=(by have:(0:Int)<(a0.size:Int):=of_decide_eq_true zb;omega)
      have hx5:∀h:0<a0.size,((a0[0]'h).toNat:Int)=bt a0 0:=bt_at a0 0
      clear p5
      have qi5:(0<(a0.size:Int))=True:=eq_true (of_decide_eq_true zb)
      replace q5:=eq_true q5
      have p7:0≤(0:Int):=zbt
      have q7:0<a0.size:=(by have:(0:Int)<(a0.size:Int):=of_decide_eq_true zb;omega)
      have hx7:∀h:0<a0.size,((a0[0]'h).toNat:Int)=bt a0 0:=bt_at a0 0
      clear p7
      have qi7:(0<(a0.size:Int))=True:=eq_true (of_decide_eq_true zb)
      replace q7:=eq_true q7
      go_enter Try.func108,Try.ntmps108
      go_wp2
      go_ret
      exact ⟨zm,zw⟩
     ·rw [if_neg c8] at H
      have c8b0:decide (122<(bt a0 0))=false:=decide_eq_false c8
      clear c8
      replace H:=Option.bind_eq_some_iff.mp H
      obtain ⟨t101,A90,H⟩:=H
      replace H:(some t101)=some r:=H
      have A9:=Aside0.mk A90
      clear A90
      obtain rfl:=Option.some.inj H
      have p5:0≤(0:Int):=zbt
      have q5:0<a0.size:=(by have:(0:Int)<(a0.size:Int):=of_decide_eq_true zb;omega)
      have hx5:∀h:0<a0.size,((a0[0]'h).toNat:Int)=bt a0 0:=bt_at a0 0
      clear p5
      have qi5:(0<(a0.size:Int))=True:=eq_true (of_decide_eq_true zb)
      replace q5:=eq_true q5
      have p7:0≤(0:Int):=zbt
      have q7:0<a0.size:=(by have:(0:Int)<(a0.size:Int):=of_decide_eq_true zb;omega)
      have hx7:∀h:0<a0.size,((a0[0]'h).toNat:Int)=bt a0 0:=bt_at a0 0
      clear p7
      have qi7:(0<(a0.size:Int))=True:=eq_true (of_decide_eq_true zb)
      replace q7:=eq_true q7
      go_enter Try.func108,Try.ntmps108
      go_wp2_with (first|((with_reducible refine gate_callee (f:=140) rfl ?_);refine goesL_ (some 22) rfl rfl Try.func140 zbk rfl #[.string a0] rfl zc ?_;(with_reducible refine (impl_onlyNameBytes.calls k a0 t101 _ A9.out).mono ?_);rintro e w' ⟨rfl,⟨nd,rfl⟩⟩;refine ⟨_,rfl,?_⟩))
      go_ret
      exact ⟨zm,zw⟩
   ·rw [if_neg c4] at H
    exact absurd H zdd

def impl_Turn_valid.f (k:Nat) (a0_0:ByteArray) (a0_1:Int) (a0_2:Int):Option (Bool):=(impl_IsName.f k a0_0).bind fun t102=>(if t102=true then ((impl_within.f a0_1 0 10000).bind fun t103=>(if t103=true then ((impl_within.f a0_2 1 10000).bind fun t104=>(some t104)) else (some false))) else (some false))
set_option maxHeartbeats 8000000 in
set_option maxRecDepth 100000 in
theorem impl_Turn_valid.calls (k:Nat) (a0_0:ByteArray) (a0_1:Int) (a0_2:Int) (r:Bool) (w:World) (h:impl_Turn_valid.f k a0_0 a0_1 a0_2=some r) :
 Calls Try.prog 101 #[.agg #[.string a0_0,.int .i64 a0_1,.int .i64 a0_2]] w fun e w'=>e = .returned (.bool r)∧Below w.heap.size w w':=by
 have hu127:=Try.underlying127
 have HB:=Aside0.mk (Below.refl w.heap.size w)
 have H:((impl_IsName.f k a0_0).bind fun t102=>(if t102=true then ((impl_within.f a0_1 0 10000).bind fun t103=>(if t103=true then ((impl_within.f a0_2 1 10000).bind fun t104=>(some t104)) else (some false))) else (some false)))=some r:=h
 clear h
 replace H:=Option.bind_eq_some_iff.mp H
 obtain ⟨t102,A20,H⟩:=H
 replace H:(if t102=true then ((impl_within.f a0_1 0 10000).bind fun t103=>(if t103=true then ((impl_within.f a0_2 1 10000).bind fun t104=>(some t104)) else (some false))) else (some false))=some r:=H
 have A2:=Aside0.mk A20
 clear A20
 by_cases c3:t102=true
 ·subst c3
  have H1:((impl_within.f a0_1 0 10000).bind fun t103=>(if t103=true then ((impl_within.f a0_2 1 10000).bind fun t104=>(some t104)) else (some false)))=some r:=by rw [if_pos rfl] at H;exact H
  clear H
  have H:=H1
  clear H1
  replace H:=Option.bind_eq_some_iff.mp H
  obtain ⟨t103,A40,H⟩:=H
  replace H:(if t103=true then ((impl_within.f a0_2 1 10000).bind fun t104=>(some t104)) else (some false))=some r:=H
  have A4:=Aside0.mk A40
  clear A40
  by_cases c5:t103=true
  ·subst c5
   have H1:((impl_within.f a0_2 1 10000).bind fun t104=>(some t104))=some r:=by rw [if_pos rfl] at H;exact H
   clear H
   have H:=H1
   clear H1
   replace H:=Option.bind_eq_some_iff.mp H
   obtain ⟨t104,A60,H⟩:=H
   replace H:(some t104)=some r:=H
   have A6:=Aside0.mk A60
   clear A60
   obtain rfl:=Option.some.inj H
   go_enter Try.func101,Try.ntmps101
   go_wp2_with (first|((with_reducible refine gate_dst (N:=1) rfl ?_);refine box_event ?hg (N:=1) ?hd (cs:=#[.string a0_0,.int .i64 a0_1,.int .i64 a0_2]) (t:=127) ?hr ?_;(case hd=>rfl);(case hg=>rfl);(case hr=>exact zt);intro gb101 hg w7 hbox hb;have n0_:=Aside0.mk (below_step za hb);have n1_:=Aside0.mk (hbox);have n2_:=Aside0.mk ((by rw [hg];exact (below_size za):w.heap.size≤gb101));have n3_:=Aside0.mk ((by rw [hg];exact (below_size za):w.heap.size≤gb101));clear HB;have HB:=n0_;have BK101:=n1_;have GW101:=n2_;have GE101:=n3_;clear n0_ n1_ n2_ n3_;clear hb hbox hg;have hcz8_0:w7.cell? ⟨gb101,0,none⟩=some (.string a0_0):=(blk_cell BK101.out 0).trans rfl;have hcz8_1:w7.cell? ⟨gb101,1,none⟩=some (.int .i64 a0_1):=(blk_cell BK101.out 1).trans rfl;have hcz8_2:w7.cell? ⟨gb101,2,none⟩=some (.int .i64 a0_2):=(blk_cell BK101.out 2).trans rfl;have hfz8_0:=blk_frozen BK101.out 0;have hfz8_1:=blk_frozen BK101.out 1;have hfz8_2:=blk_frozen BK101.out 2)|((with_reducible refine gate_callee (f:=108) rfl ?_);refine goesL_ (some 5) rfl rfl Try.func108 zbk rfl #[.string a0_0] rfl zc ?_;(with_reducible refine (impl_IsName.calls k a0_0 true _ A2.out).mono ?_);rintro e w' ⟨rfl,⟨nd,rfl⟩⟩;refine ⟨_,rfl,?_⟩)|(go_at_call 96;(with_reducible refine (impl_within.calls a0_1 0 10000 true _ A4.out).mono ?_);rintro e w' ⟨rfl,⟨nd,rfl⟩⟩)|(go_at_call 96;(with_reducible refine (impl_within.calls a0_2 1 10000 t104 _ A6.out).mono ?_);rintro e w' ⟨rfl,⟨nd,rfl⟩⟩))
   go_ret
   exact ⟨zk,zd⟩
  ·replace c5:=Bool.eq_false_iff.mpr c5
   subst c5
   have H1:(some false)=some r:=by rw [if_neg (show ¬ (false=true) by decide)] at H;exact H
   clear H
   have H:=H1
   clear H1
   obtain rfl:=Option.some.inj H
   go_enter Try.func101,Try.ntmps101
   go_wp2_with (first|((with_reducible refine gate_dst (N:=1) rfl ?_);refine box_event ?hg (N:=1) ?hd (cs:=#[.string a0_0,.int .i64 a0_1,.int .i64 a0_2]) (t:=127) ?hr ?_;(case hd=>rfl);(case hg=>rfl);(case hr=>exact zt);intro gb101 hg w9 hbox hb;have n0_:=Aside0.mk (below_step za hb);have n1_:=Aside0.mk (hbox);have n2_:=Aside0.mk ((by rw [hg];exact (below_size za):w.heap.size≤gb101));have n3_:=Aside0.mk ((by rw [hg];exact (below_size za):w.heap.size≤gb101));clear HB;have HB:=n0_;have BK101:=n1_;have GW101:=n2_;have GE101:=n3_;clear n0_ n1_ n2_ n3_;clear hb hbox hg;have hcz10_0:w9.cell? ⟨gb101,0,none⟩=some (.string a0_0):=(blk_cell BK101.out 0).trans rfl;have hcz10_1:w9.cell? ⟨gb101,1,none⟩=some (.int .i64 a0_1):=(blk_cell BK101.out 1).trans rfl;have hcz10_2:w9.cell? ⟨gb101,2,none⟩=some (.int .i64 a0_2):=(blk_cell BK101.out 2).trans rfl;have hfz10_0:=blk_frozen BK101.out 0;have hfz10_1:=blk_frozen BK101.out 1;have hfz10_2:=blk_frozen BK101.out 2)|((with_reducible refine gate_callee (f:=108) rfl ?_);refine goesL_ (some 5) rfl rfl Try.func108 zbk rfl #[.string a0_0] rfl zc ?_;(with_reducible refine (impl_IsName.calls k a0_0 true _ A2.out).mono ?_);rintro e w' ⟨rfl,⟨nd,rfl⟩⟩;refine ⟨_,rfl,?_⟩)|(go_at_call 96;(with_reducible refine (impl_within.calls a0_1 0 10000 false _ A4.out).mono ?_);rintro e w' ⟨rfl,⟨nd,rfl⟩⟩))
   go_ret
   exact ⟨zk,zd⟩
 ·replace c3:=Bool.eq_false_iff.mpr c3
  subst c3
  have H1:(some false)=some r:=by rw [if_neg (show ¬ (false=true) by decide)] at H;exact H
  clear H
  have H:=H1
  clear H1
  obtain rfl:=Option.some.inj H
  go_enter Try.func101,Try.ntmps101
  go_wp2_with (first|((with_reducible refine gate_dst (N:=1) rfl ?_);refine box_event ?hg (N:=1) ?hd (cs:=#[.string a0_0,.int .i64 a0_1,.int .i64 a0_2]) (t:=127) ?hr ?_;(case hd=>rfl);(case hg=>rfl);(case hr=>exact zt);intro gb101 hg w11 hbox hb;have n0_:=Aside0.mk (below_step za hb);have n1_:=Aside0.mk (hbox);have n2_:=Aside0.mk ((by rw [hg];exact (below_size za):w.heap.size≤gb101));have n3_:=Aside0.mk ((by rw [hg];exact (below_size za):w.heap.size≤gb101));clear HB;have HB:=n0_;have BK101:=n1_;have GW101:=n2_;have GE101:=n3_;clear n0_ n1_ n2_ n3_;clear hb hbox hg;have hcz12_0:w11.cell? ⟨gb101,0,none⟩=some (.string a0_0):=(blk_cell BK101.out 0).trans rfl;have hcz12_1:w11.cell? ⟨gb101,1,none⟩=some (.int .i64 a0_1):=(blk_cell BK101.out 1).trans rfl;have hcz12_2:w11.cell? ⟨gb101,2,none⟩=some (.int .i64 a0_2):=(blk_cell BK101.out 2).trans rfl;have hfz12_0:=blk_frozen BK101.out 0;have hfz12_1:=blk_frozen BK101.out 1;have hfz12_2:=blk_frozen BK101.out 2)|((with_reducible refine gate_callee (f:=108) rfl ?_);refine goesL_ (some 5) rfl rfl Try.func108 zbk rfl #[.string a0_0] rfl zc ?_;(with_reducible refine (impl_IsName.calls k a0_0 false _ A2.out).mono ?_);rintro e w' ⟨rfl,⟨nd,rfl⟩⟩;refine ⟨_,rfl,?_⟩))
  go_ret
  exact ⟨zk,zd⟩

def cmp_isNaN_string.f (a0:ByteArray):Option (Bool):=some (a0.toList != a0.toList)
set_option maxHeartbeats 8000000 in
set_option maxRecDepth 100000 in
theorem cmp_isNaN_string.calls (a0:ByteArray) (r:Bool) (w:World) (h:cmp_isNaN_string.f a0=some r) :
 Calls Try.prog 141 #[.string a0] w fun e w'=>e = .returned (.bool r)∧Drawn0 w w':=by
 have H:(some (a0.toList != a0.toList))=some r:=h
 clear h
 obtain rfl:=Option.some.inj H
 go_enter Try.func141,Try.ntmps141
 go_wp2
 go_ret
 exact ⟨zm,zw⟩

def cmp_Compare_string.f (a0:ByteArray) (a1:ByteArray):Option (Int):=(cmp_isNaN_string.f a0).bind fun t101=>((cmp_isNaN_string.f a1).bind fun t102=>(if t101=true then (if t102=true then (some 0) else (some (-1))) else (if t102=true then (some 1) else (if (Op.bytesLess a0.toList a1.toList)=true then (some (-1)) else (if (Op.bytesLess a1.toList a0.toList)=true then (some 1) else (some 0))))))
set_option maxHeartbeats 8000000 in
set_option maxRecDepth 100000 in
theorem cmp_Compare_string.calls (a0:ByteArray) (a1:ByteArray) (r:Int) (w:World) (h:cmp_Compare_string.f a0 a1=some r) :
 Calls Try.prog 110 #[.string a0,.string a1] w fun e w'=>e = .returned (.int .i64 r)∧Drawn0 w w':=by
 have H:((cmp_isNaN_string.f a0).bind fun t101=>((cmp_isNaN_string.f a1).bind fun t102=>(if t101=true then (if t102=true then (some 0) else (some (-1))) else (if t102=true then (some 1) else (if (Op.bytesLess a0.toList a1.toList)=true then (some (-1)) else (if (Op.bytesLess a1.toList a0.toList)=true then (some 1) else (some 0)))))))=some r:=h
 clear h
 replace H:=Option.bind_eq_some_iff.mp H
 obtain ⟨t101,A30,H⟩:=H
 replace H:((cmp_isNaN_string.f a1).bind fun t102=>(if t101=true then (if t102=true then (some 0) else (some (-1))) else (if t102=true then (some 1) else (if (Op.bytesLess a0.toList a1.toList)=true then (some (-1)) else (if (Op.bytesLess a1.toList a0.toList)=true then (some 1) else (some 0))))))=some r:=H
 have A3:=Aside0.mk A30
 clear A30
 replace H:=Option.bind_eq_some_iff.mp H
 obtain ⟨t102,A40,H⟩:=H
 replace H:(if t101=true then (if t102=true then (some 0) else (some (-1))) else (if t102=true then (some 1) else (if (Op.bytesLess a0.toList a1.toList)=true then (some (-1)) else (if (Op.bytesLess a1.toList a0.toList)=true then (some 1) else (some 0)))))=some r:=H
 have A4:=Aside0.mk A40
 clear A40
 by_cases c5:t101=true
 ·subst c5
  have H1:(if t102=true then (some 0) else (some (-1)))=some r:=by rw [if_pos rfl] at H;exact H
  clear H
  have H:=H1
  clear H1
  by_cases c6:t102=true
  ·subst c6
   have H1:(some 0)=some r:=by rw [if_pos rfl] at H;exact H
   clear H
   have H:=H1
   clear H1
   obtain rfl:=Option.some.inj H
   go_enter Try.func110,Try.ntmps110
   go_wp2_with (first|((with_reducible refine gate_callee (f:=141) rfl ?_);refine goesL_ (some 8) rfl rfl Try.func141 zbk rfl #[.string a0] rfl zc ?_;(with_reducible refine (cmp_isNaN_string.calls a0 true _ A3.out).mono ?_);rintro e w' ⟨rfl,⟨nd,rfl⟩⟩;refine ⟨_,rfl,?_⟩)|((with_reducible refine gate_callee (f:=141) rfl ?_);refine goesL_ (some 10) rfl rfl Try.func141 zbk rfl #[.string a1] rfl zc ?_;(with_reducible refine (cmp_isNaN_string.calls a1 true _ A4.out).mono ?_);rintro e w' ⟨rfl,⟨nd,rfl⟩⟩;refine ⟨_,rfl,?_⟩))
   go_ret
   exact ⟨zm,zw⟩
  ·replace c6:=Bool.eq_false_iff.mpr c6
   subst c6
   have H1:(some (-1))=some r:=by rw [if_neg (show ¬ (false=true) by decide)] at H;exact H
   clear H
   have H:=H1
   clear H1
   obtain rfl:=Option.some.inj H
   go_enter Try.func110,Try.ntmps110
   go_wp2_with (first|((with_reducible refine gate_callee (f:=141) rfl ?_);refine goesL_ (some 8) rfl rfl Try.func141 zbk rfl #[.string a0] rfl zc ?_;(with_reducible refine (cmp_isNaN_string.calls a0 true _ A3.out).mono ?_);rintro e w' ⟨rfl,⟨nd,rfl⟩⟩;refine ⟨_,rfl,?_⟩)|((with_reducible refine gate_callee (f:=141) rfl ?_);refine goesL_ (some 10) rfl rfl Try.func141 zbk rfl #[.string a1] rfl zc ?_;(with_reducible refine (cmp_isNaN_string.calls a1 false _ A4.out).mono ?_);rintro e w' ⟨rfl,⟨nd,rfl⟩⟩;refine ⟨_,rfl,?_⟩))
   go_ret
   exact ⟨zm,zw⟩
 ·replace c5:=Bool.eq_false_iff.mpr c5
  subst c5
  have H1:(if t102=true then (some 1) else (if (Op.bytesLess a0.toList a1.toList)=true then (some (-1)) else (if (Op.bytesLess a1.toList a0.toList)=true then (some 1) else (some 0))))=some r:=by rw [if_neg (show ¬ (false=true) by decide)] at H;exact H
  clear H
  have H:=H1
  clear H1
  by_cases c7:t102=true
  ·subst c7
   have H1:(some 1)=some r:=by rw [if_pos rfl] at H;exact H
   clear H
   have H:=H1
   clear H1
   obtain rfl:=Option.some.inj H
   go_enter Try.func110,Try.ntmps110
   go_wp2_with (first|((with_reducible refine gate_callee (f:=141) rfl ?_);refine goesL_ (some 8) rfl rfl Try.func141 zbk rfl #[.string a0] rfl zc ?_;(with_reducible refine (cmp_isNaN_string.calls a0 false _ A3.out).mono ?_);rintro e w' ⟨rfl,⟨nd,rfl⟩⟩;refine ⟨_,rfl,?_⟩)|((with_reducible refine gate_callee (f:=141) rfl ?_);refine goesL_ (some 10) rfl rfl Try.func141 zbk rfl #[.string a1] rfl zc ?_;(with_reducible refine (cmp_isNaN_string.calls a1 true _ A4.out).mono ?_);rintro e w' ⟨rfl,⟨nd,rfl⟩⟩;refine ⟨_,rfl,?_⟩))
   go_ret
   exact ⟨zm,zw⟩
  ·replace c7:=Bool.eq_false_iff.mpr c7
   subst c7
   have H1:(if (Op.bytesLess a0.toList a1.toList)=true then (some (-1)) else (if (Op.bytesLess a1.toList a0.toList)=true then (some 1) else (some 0)))=some r:=by rw [if_neg (show ¬ (false=true) by decide)] at H;exact H
   clear H
   have H:=H1
   clear H1
   by_cases c8:(Op.bytesLess a0.toList a1.toList)=true
   ·rw [if_pos c8] at H
    have c8b0:(Op.bytesLess a0.toList a1.toList)=true:=c8
    clear c8
    obtain rfl:=Option.some.inj H
    go_enter Try.func110,Try.ntmps110
    go_wp2_with (first|((with_reducible refine gate_callee (f:=141) rfl ?_);refine goesL_ (some 8) rfl rfl Try.func141 zbk rfl #[.string a0] rfl zc ?_;(with_reducible refine (cmp_isNaN_string.calls a0 false _ A3.out).mono ?_);rintro e w' ⟨rfl,⟨nd,rfl⟩⟩;refine ⟨_,rfl,?_⟩)|((with_reducible refine gate_callee (f:=141) rfl ?_);refine goesL_ (some 10) rfl rfl Try.func141 zbk rfl #[.string a1] rfl zc ?_;(with_reducible refine (cmp_isNaN_string.calls a1 false _ A4.out).mono ?_);rintro e w' ⟨rfl,⟨nd,rfl⟩⟩;refine ⟨_,rfl,?_⟩))
    go_ret
    exact ⟨zm,zw⟩
   ·rw [if_neg c8] at H
    have c8b0:(Op.bytesLess a0.toList a1.toList)=false:=by simpa using c8
    clear c8
    by_cases c9:(Op.bytesLess a1.toList a0.toList)=true
    ·rw [if_pos c9] at H
     have c9b0:(Op.bytesLess a1.toList a0.toList)=true:=c9
     clear c9
     obtain rfl:=Option.some.inj H
     go_enter Try.func110,Try.ntmps110
     go_wp2_with (first|((with_reducible refine gate_callee (f:=141) rfl ?_);refine goesL_ (some 8) rfl rfl Try.func141 zbk rfl #[.string a0] rfl zc ?_;(with_reducible refine (cmp_isNaN_string.calls a0 false _ A3.out).mono ?_);rintro e w' ⟨rfl,⟨nd,rfl⟩⟩;refine ⟨_,rfl,?_⟩)|((with_reducible refine gate_callee (f:=141) rfl ?_);refine goesL_ (some 10) rfl rfl Try.func141 zbk rfl #[.string a1] rfl zc ?_;(with_reducible refine (cmp_isNaN_string.calls a1 false _ A4.out).mono ?_);rintro e w' ⟨rfl,⟨nd,rfl⟩⟩;refine ⟨_,rfl,?_⟩))
     go_ret
     exact ⟨zm,zw⟩
    ·rw [if_neg c9] at H
     have c9b0:(Op.bytesLess a1.toList a0.toList)=false:=by simpa using c9
     clear c9
     obtain rfl:=Option.some.inj H
     go_enter Try.func110,Try.ntmps110
     go_wp2_with (first|((with_reducible refine gate_callee (f:=141) rfl ?_);refine goesL_ (some 8) rfl rfl Try.func141 zbk rfl #[.string a0] rfl zc ?_;(with_reducible refine (cmp_isNaN_string.calls a0 false _ A3.out).mono ?_);rintro e w' ⟨rfl,⟨nd,rfl⟩⟩;refine ⟨_,rfl,?_⟩)|((with_reducible refine gate_callee (f:=141) rfl ?_);refine goesL_ (some 10) rfl rfl Try.func141 zbk rfl #[.string a1] rfl zc ?_;(with_reducible refine (cmp_isNaN_string.calls a1 false _ A4.out).mono ?_);rintro e w' ⟨rfl,⟨nd,rfl⟩⟩;refine ⟨_,rfl,?_⟩))
     go_ret
     exact ⟨zm,zw⟩

def cmp_Or_int.l0:Nat→Int→List Int→Int→Int→Option (Int)
 | 0,_,_,_,_=>none
 | k+1,x3,x6,x7,x8=>if x8<x7 then (if 0≤x8 then (if x8<(x6.length:Int) then (if (rd x6 x8)=x3 then (cmp_Or_int.l0 k x3 x6 x7 (wrap64 (x8+1))) else (some (rd x6 x8))) else (none)) else (none)) else (some x3)
def cmp_Or_int.f (k:Nat) (l0:List Int):Option (Int):=cmp_Or_int.l0 k 0 l0 (l0.length:Int) 0
set_option maxHeartbeats 8000000 in
set_option maxRecDepth 100000 in
theorem cmp_Or_int.calls (k:Nat) (A0:Option Addr) (c0:Nat) (l0:List Int) (r:Int) (w:World) (hr0:Kd.C (Kd.int .i64) w A0 l0.length l0) (hc0:l0.length≤c0) (h:cmp_Or_int.f k l0=some r) :
 Calls Try.prog 136 #[.slice A0 l0.length c0] w fun e w'=>e = .returned (.int .i64 r)∧Drawn0 w w':=by
 have HR0:=Aside0.mk hr0
 have HC0:=Aside0.mk hc0
 clear hr0 hc0
 have H:(cmp_Or_int.l0 k 0 l0 (l0.length:Int) 0)=some r:=h
 clear h
 have H':=Aside0.mk H
 clear H
 go_enter Try.func136,Try.ntmps136
 go_wp2
 go_loopg [8] k (fun kq v8 w'=>∃(x8_1:Int),v8 = .int .i64 x8_1∧Aside0 (cmp_Or_int.l0 kq 0 l0 (l0.length:Int) x8_1=some r)∧Aside0 (kq≤k)∧Drawn0 w w')
 case atStart=>exact ⟨(0),zm,H',⟨Nat.le_refl _⟩,zw⟩
 case round=>
  clear H'
  try clear c1
  obtain ⟨x8_1,rfl,HA,HK1,⟨m1,rfl⟩⟩:=hrel
  cases gk with
  | zero=>exact absurd HA.out (by simp [cmp_Or_int.l0])
  | succ k1=>
   have H:=HA.out
   clear HA
   simp only [cmp_Or_int.l0] at H
   by_cases c2:x8_1<(l0.length:Int)
   ·rw [if_pos c2] at H
    have c2b0:decide (x8_1<(l0.length:Int))=true:=decide_eq_true c2
    clear c2
    by_cases c3:0≤x8_1
    ·rw [if_pos c3] at H
     have c3b0:decide (0≤x8_1)=true:=decide_eq_true c3
     clear c3
     by_cases c4:x8_1<(l0.length:Int)
     ·rw [if_pos c4] at H
      have c4b0:decide (x8_1<(l0.length:Int))=true:=decide_eq_true c4
      clear c4
      by_cases c5:(rd l0 x8_1)=0
      ·rw [if_pos c5] at H
       have c5b0:((rd l0 x8_1) == 0)=true:=beq_iff_eq.mpr c5
       have c5b1:((rd l0 x8_1) != 0)=false:=bne_eq_false_iff_eq.mpr c5
       clear c5
       have H':=Aside0.mk H
       clear H
       have p101:0≤(x8_1:Int):=of_decide_eq_true zb
       have q101:x8_1<(l0.length:Int):=of_decide_eq_true zb
       obtain ⟨ad101,e101,hx101_0⟩:=Kd.at_int HR0.out x8_1 p101 q101
       cases e101
       replace p101:=eq_true p101
       replace q101:=eq_true q101
       go_wp2
       go_roundg k1
       case measure=>have:=HK1.out;omega
       case rel=>exact ⟨(wrap64 (x8_1+1)),zm,H',⟨zdn⟩,zw⟩
      ·rw [if_neg c5] at H
       have c5b0:((rd l0 x8_1) == 0)=false:=beq_eq_false_iff_ne.mpr c5
       have c5b1:((rd l0 x8_1) != 0)=true:=bne_iff_ne.mpr c5
       obtain rfl:=Option.some.inj H
       have p101:0≤(x8_1:Int):=of_decide_eq_true zb
       have q101:x8_1<(l0.length:Int):=of_decide_eq_true zb
       obtain ⟨ad101,e101,hx101_0⟩:=Kd.at_int HR0.out x8_1 p101 q101
       cases e101
       replace p101:=eq_true p101
       replace q101:=eq_true q101
       go_wp2
       go_ret
       exact ⟨zm,zw⟩
     ·rw [if_neg c4] at H
      exact absurd H zdd
    ·rw [if_neg c3] at H
     exact absurd H zdd
   ·rw [if_neg c2] at H
    have c2b0:decide (x8_1<(l0.length:Int))=false:=decide_eq_false c2
    clear c2
    obtain rfl:=Option.some.inj H
    go_wp2
    go_ret
    exact ⟨zm,zw⟩

def cmp_isNaN_int64.f (a0:Int):Option (Bool):=some (a0 != a0)
set_option maxHeartbeats 8000000 in
set_option maxRecDepth 100000 in
theorem cmp_isNaN_int64.calls (a0:Int) (r:Bool) (w:World) (h:cmp_isNaN_int64.f a0=some r) :
 Calls Try.prog 154 #[.int .i64 a0] w fun e w'=>e = .returned (.bool r)∧Drawn0 w w':=by
 have H:(some (a0 != a0))=some r:=h
 clear h
 obtain rfl:=Option.some.inj H
 go_enter Try.func154,Try.ntmps154
 go_wp2
 go_ret
 exact ⟨zm,zw⟩

def cmp_Compare_int64.f (a0:Int) (a1:Int):Option (Int):=(cmp_isNaN_int64.f a0).bind fun t101=>((cmp_isNaN_int64.f a1).bind fun t102=>(if t101=true then (if t102=true then (some 0) else (some (-1))) else (if t102=true then (some 1) else (if a0<a1 then (some (-1)) else (if a0 > a1 then (some 1) else (some 0))))))
set_option maxHeartbeats 8000000 in
set_option maxRecDepth 100000 in
theorem cmp_Compare_int64.calls (a0:Int) (a1:Int) (r:Int) (w:World) (h:cmp_Compare_int64.f a0 a1=some r) :
 Calls Try.prog 137 #[.int .i64 a0,.int .i64 a1] w fun e w'=>e = .returned (.int .i64 r)∧Drawn0 w w':=by
 have H:((cmp_isNaN_int64.f a0).bind fun t101=>((cmp_isNaN_int64.f a1).bind fun t102=>(if t101=true then (if t102=true then (some 0) else (some (-1))) else (if t102=true then (some 1) else (if a0<a1 then (some (-1)) else (if a0 > a1 then (some 1) else (some 0)))))))=some r:=h
 clear h
 replace H:=Option.bind_eq_some_iff.mp H
 obtain ⟨t101,A30,H⟩:=H
 replace H:((cmp_isNaN_int64.f a1).bind fun t102=>(if t101=true then (if t102=true then (some 0) else (some (-1))) else (if t102=true then (some 1) else (if a0<a1 then (some (-1)) else (if a0 > a1 then (some 1) else (some 0))))))=some r:=H
 have A3:=Aside0.mk A30
 clear A30
 replace H:=Option.bind_eq_some_iff.mp H
 obtain ⟨t102,A40,H⟩:=H
 replace H:(if t101=true then (if t102=true then (some 0) else (some (-1))) else (if t102=true then (some 1) else (if a0<a1 then (some (-1)) else (if a0 > a1 then (some 1) else (some 0)))))=some r:=H
 have A4:=Aside0.mk A40
 clear A40
 by_cases c5:t101=true
 ·subst c5
  have H1:(if t102=true then (some 0) else (some (-1)))=some r:=by rw [if_pos rfl] at H;exact H
  clear H
  have H:=H1
  clear H1
  by_cases c6:t102=true
  ·subst c6
   have H1:(some 0)=some r:=by rw [if_pos rfl] at H;exact H
   clear H
   have H:=H1
   clear H1
   obtain rfl:=Option.some.inj H
   go_enter Try.func137,Try.ntmps137
   go_wp2_with (first|((with_reducible refine gate_callee (f:=154) rfl ?_);refine goesL_ (some 8) rfl rfl Try.func154 zbk rfl #[.int .i64 a0] rfl zc ?_;(with_reducible refine (cmp_isNaN_int64.calls a0 true _ A3.out).mono ?_);rintro e w' ⟨rfl,⟨nd,rfl⟩⟩;refine ⟨_,rfl,?_⟩)|((with_reducible refine gate_callee (f:=154) rfl ?_);refine goesL_ (some 10) rfl rfl Try.func154 zbk rfl #[.int .i64 a1] rfl zc ?_;(with_reducible refine (cmp_isNaN_int64.calls a1 true _ A4.out).mono ?_);rintro e w' ⟨rfl,⟨nd,rfl⟩⟩;refine ⟨_,rfl,?_⟩))
   go_ret
   exact ⟨zm,zw⟩
  ·replace c6:=Bool.eq_false_iff.mpr c6
   subst c6
   have H1:(some (-1))=some r:=by rw [if_neg (show ¬ (false=true) by decide)] at H;exact H
   clear H
   have H:=H1
   clear H1
   obtain rfl:=Option.some.inj H
   go_enter Try.func137,Try.ntmps137
   go_wp2_with (first|((with_reducible refine gate_callee (f:=154) rfl ?_);refine goesL_ (some 8) rfl rfl Try.func154 zbk rfl #[.int .i64 a0] rfl zc ?_;(with_reducible refine (cmp_isNaN_int64.calls a0 true _ A3.out).mono ?_);rintro e w' ⟨rfl,⟨nd,rfl⟩⟩;refine ⟨_,rfl,?_⟩)|((with_reducible refine gate_callee (f:=154) rfl ?_);refine goesL_ (some 10) rfl rfl Try.func154 zbk rfl #[.int .i64 a1] rfl zc ?_;(with_reducible refine (cmp_isNaN_int64.calls a1 false _ A4.out).mono ?_);rintro e w' ⟨rfl,⟨nd,rfl⟩⟩;refine ⟨_,rfl,?_⟩))
   go_ret
   exact ⟨zm,zw⟩
 ·replace c5:=Bool.eq_false_iff.mpr c5
  subst c5
  have H1:(if t102=true then (some 1) else (if a0<a1 then (some (-1)) else (if a0 > a1 then (some 1) else (some 0))))=some r:=by rw [if_neg (show ¬ (false=true) by decide)] at H;exact H
  clear H
  have H:=H1
  clear H1
  by_cases c7:t102=true
  ·subst c7
   have H1:(some 1)=some r:=by rw [if_pos rfl] at H;exact H
   clear H
   have H:=H1
   clear H1
   obtain rfl:=Option.some.inj H
   go_enter Try.func137,Try.ntmps137
   go_wp2_with (first|((with_reducible refine gate_callee (f:=154) rfl ?_);refine goesL_ (some 8) rfl rfl Try.func154 zbk rfl #[.int .i64 a0] rfl zc ?_;(with_reducible refine (cmp_isNaN_int64.calls a0 false _ A3.out).mono ?_);rintro e w' ⟨rfl,⟨nd,rfl⟩⟩;refine ⟨_,rfl,?_⟩)|((with_reducible refine gate_callee (f:=154) rfl ?_);refine goesL_ (some 10) rfl rfl Try.func154 zbk rfl #[.int .i64 a1] rfl zc ?_;(with_reducible refine (cmp_isNaN_int64.calls a1 true _ A4.out).mono ?_);rintro e w' ⟨rfl,⟨nd,rfl⟩⟩;refine ⟨_,rfl,?_⟩))
   go_ret
   exact ⟨zm,zw⟩
  ·replace c7:=Bool.eq_false_iff.mpr c7
   subst c7
   have H1:(if a0<a1 then (some (-1)) else (if a0 > a1 then (some 1) else (some 0)))=some r:=by rw [if_neg (show ¬ (false=true) by decide)] at H;exact H
   clear H
   have H:=H1
   clear H1
   by_cases c8:a0<a1
   ·rw [if_pos c8] at H
    have c8b0:decide (a0<a1)=true:=decide_eq_true c8
    clear c8
    obtain rfl:=Option.some.inj H
    go_enter Try.func137,Try.ntmps137
    go_wp2_with (first|((with_reducible refine gate_callee (f:=154) rfl ?_);refine goesL_ (some 8) rfl rfl Try.func154 zbk rfl #[.int .i64 a0] rfl zc ?_;(with_reducible refine (cmp_isNaN_int64.calls a0 false _ A3.out).mono ?_);rintro e w' ⟨rfl,⟨nd,rfl⟩⟩;refine ⟨_,rfl,?_⟩)|((with_reducible refine gate_callee (f:=154) rfl ?_);refine goesL_ (some 10) rfl rfl Try.func154 zbk rfl #[.int .i64 a1] rfl zc ?_;(with_reducible refine (cmp_isNaN_int64.calls a1 false _ A4.out).mono ?_);rintro e w' ⟨rfl,⟨nd,rfl⟩⟩;refine ⟨_,rfl,?_⟩))
    go_ret
    exact ⟨zm,zw⟩
   ·rw [if_neg c8] at H
    have c8b0:decide (a0<a1)=false:=decide_eq_false c8
    clear c8
    by_cases c9:a0 > a1
    ·rw [if_pos c9] at H
     have c9b0:decide (a1<a0)=true:=decide_eq_true c9
     clear c9
     obtain rfl:=Option.some.inj H
     go_enter Try.func137,Try.ntmps137
     go_wp2_with (first|((with_reducible refine gate_callee (f:=154) rfl ?_);refine goesL_ (some 8) rfl rfl Try.func154 zbk rfl #[.int .i64 a0] rfl zc ?_;(with_reducible refine (cmp_isNaN_int64.calls a0 false _ A3.out).mono ?_);rintro e w' ⟨rfl,⟨nd,rfl⟩⟩;refine ⟨_,rfl,?_⟩)|((with_reducible refine gate_callee (f:=154) rfl ?_);refine goesL_ (some 10) rfl rfl Try.func154 zbk rfl #[.int .i64 a1] rfl zc ?_;(with_reducible refine (cmp_isNaN_int64.calls a1 false _ A4.out).mono ?_);rintro e w' ⟨rfl,⟨nd,rfl⟩⟩;refine ⟨_,rfl,?_⟩))
     go_ret
     exact ⟨zm,zw⟩
    ·rw [if_neg c9] at H
     have c9b0:decide (a1<a0)=false:=decide_eq_false c9
     clear c9
     obtain rfl:=Option.some.inj H
     go_enter Try.func137,Try.ntmps137
     go_wp2_with (first|((with_reducible refine gate_callee (f:=154) rfl ?_);refine goesL_ (some 8) rfl rfl Try.func154 zbk rfl #[.int .i64 a0] rfl zc ?_;(with_reducible refine (cmp_isNaN_int64.calls a0 false _ A3.out).mono ?_);rintro e w' ⟨rfl,⟨nd,rfl⟩⟩;refine ⟨_,rfl,?_⟩)|((with_reducible refine gate_callee (f:=154) rfl ?_);refine goesL_ (some 10) rfl rfl Try.func154 zbk rfl #[.int .i64 a1] rfl zc ?_;(with_reducible refine (cmp_isNaN_int64.calls a1 false _ A4.out).mono ?_);rintro e w' ⟨rfl,⟨nd,rfl⟩⟩;refine ⟨_,rfl,?_⟩))
     go_ret
     exact ⟨zm,zw⟩

def impl_compareTurns.f (k:Nat) (a0_0:ByteArray) (a0_1:Int) (a0_2:Int) (a1_0:ByteArray) (a1_1:Int) (a1_2:Int):Option (Int):=(cmp_Compare_int64.f a0_1 a1_1).bind fun t103=>((cmp_Compare_string.f a0_0 a1_0).bind fun t104=>((cmp_Compare_int64.f a0_2 a1_2).bind fun t105=>((cmp_Or_int.f k (([t103,t104,t105]:List Int))).bind fun t109=>(some t109))))
def impl_compareTurns.T1:Bool × List (List Nat × List Nat):=(true,[([],[]),([0],[0]),([],[]),([2],[2]),([1,3],[1,3]),([],[]),([5],[5]),([],[]),([7],[7]),([6,8,4],[6,8]),([],[]),([10],[10]),([],[]),([12],[12]),([11,13,9],[11,13]),([4,9,14],[4,9,14]),([15,14],[15]),([16,16,0,1,2,3,4,5,6,7,8,9,10,11,12,13,14,15,16],[16])])
def impl_compareTurns.B1:List Nat:=[0,1,0,4,15,0,32,0,128,511,0,1024,0,4096,16383,32767,65535,131071]
theorem impl_compareTurns.tab1:rtab .any (opsOf Try.f103 1)=impl_compareTurns.T1:=by kernel_rfl
theorem impl_compareTurns.bits1:waitsOk impl_compareTurns.T1.2 impl_compareTurns.B1=true:=by kernel_rfl
set_option maxHeartbeats 8000000 in
set_option maxRecDepth 100000 in
theorem impl_compareTurns.calls (k:Nat) (a0_0:ByteArray) (a0_1:Int) (a0_2:Int) (a1_0:ByteArray) (a1_1:Int) (a1_2:Int) (r:Int) (w:World) (h:impl_compareTurns.f k a0_0 a0_1 a0_2 a1_0 a1_1 a1_2=some r) :
 Calls Try.prog 103 #[.agg #[.string a0_0,.int .i64 a0_1,.int .i64 a0_2],.agg #[.string a1_0,.int .i64 a1_1,.int .i64 a1_2]] w fun e w'=>e = .returned (.int .i64 r)∧Below w.heap.size w w':=by
 have hu127:=Try.underlying127
 have HB:=Aside0.mk (Below.refl w.heap.size w)
 have H:((cmp_Compare_int64.f a0_1 a1_1).bind fun t103=>((cmp_Compare_string.f a0_0 a1_0).bind fun t104=>((cmp_Compare_int64.f a0_2 a1_2).bind fun t105=>((cmp_Or_int.f k (([t103,t104,t105]:List Int))).bind fun t109=>(some t109)))))=some r:=h
 clear h
 replace H:=Option.bind_eq_some_iff.mp H
 obtain ⟨t103,A30,H⟩:=H
 replace H:((cmp_Compare_string.f a0_0 a1_0).bind fun t104=>((cmp_Compare_int64.f a0_2 a1_2).bind fun t105=>((cmp_Or_int.f k (([t103,t104,t105]:List Int))).bind fun t109=>(some t109))))=some r:=H
 have A3:=Aside0.mk A30
 clear A30
 replace H:=Option.bind_eq_some_iff.mp H
 obtain ⟨t104,A40,H⟩:=H
 replace H:((cmp_Compare_int64.f a0_2 a1_2).bind fun t105=>((cmp_Or_int.f k (([t103,t104,t105]:List Int))).bind fun t109=>(some t109)))=some r:=H
 have A4:=Aside0.mk A40
 clear A40
 replace H:=Option.bind_eq_some_iff.mp H
 obtain ⟨t105,A50,H⟩:=H
 replace H:((cmp_Or_int.f k (([t103,t104,t105]:List Int))).bind fun t109=>(some t109))=some r:=H
 have A5:=Aside0.mk A50
 clear A50
 obtain ⟨y106,hy106⟩:∃y_:List Int,y_=(([t103,t104,t105]:List Int)):=⟨_,rfl⟩
 replace H:((cmp_Or_int.f k y106).bind fun t109=>(some t109))=some r:=by first|(rw [hy106];with_reducible exact H)|(have H2_:=(Option.bind_some _ _).symm.trans H;rw [hy106];with_reducible exact H2_)|(have H2_:=(Option.bind_some _ _).symm.trans H;with_reducible exact H2_)|with_reducible exact H|(rw [hy106];exact H)|exact H
 have Ny106:=Aside0.mk hy106
 clear hy106
 replace H:=Option.bind_eq_some_iff.mp H
 obtain ⟨t109,A60,H⟩:=H
 replace H:(some t109)=some r:=H
 have A6:=Aside0.mk A60
 clear A60
 obtain rfl:=Option.some.inj H
 go_enter Try.func103,Try.ntmps103
 try go_wp2_with (first|((with_reducible refine gate_dst (N:=2) rfl ?_);refine box_event ?hg (N:=2) ?hd (cs:=#[.string a0_0,.int .i64 a0_1,.int .i64 a0_2]) (t:=127) ?hr ?_;(case hd=>rfl);(case hg=>rfl);(case hr=>exact zt);intro gb101 hg w7 hbox hb;have n0_:=Aside0.mk (below_step za hb);have n1_:=Aside0.mk (hbox);have n2_:=Aside0.mk ((by rw [hg];exact (below_size za):w.heap.size≤gb101));have n3_:=Aside0.mk ((by rw [hg];exact (below_size za):w.heap.size≤gb101));clear HB;have HB:=n0_;have BK101:=n1_;have GW101:=n2_;have GE101:=n3_;clear n0_ n1_ n2_ n3_;clear hb hbox hg)|((with_reducible refine gate_dst (N:=3) rfl ?_);refine box_event ?hg (N:=3) ?hd (cs:=#[.string a1_0,.int .i64 a1_1,.int .i64 a1_2]) (t:=127) ?hr ?_;(case hd=>rfl);(case hg=>rfl);(case hr=>exact zt);intro gb102 hg w8 hbox hb;have n0_:=Aside0.mk (blk_below (g:=gb101) (o:=.cells #[.string a0_0,.int .i64 a0_1,.int .i64 a0_2] 127 (0,0)) ze hb);have n1_:=Aside0.mk (below_step zd hb);have n2_:=Aside0.mk (hbox);have n3_:=Aside0.mk ((by rw [hg];exact (below_size zd):w.heap.size≤gb102));have n4_:=Aside0.mk ((by rw [hg];exact (below_size zd):w.heap.size≤gb102));have n5_:=Aside0.mk ((by rw [hg];exact Nat.ne_of_lt (blk_lt (g:=gb101) (o:=.cells #[.string a0_0,.int .i64 a0_1,.int .i64 a0_2] 127 (0,0)) ze):gb101≠gb102));have n6_:=Aside0.mk ((by rw [hg];exact Nat.ne_of_gt (blk_lt (g:=gb101) (o:=.cells #[.string a0_0,.int .i64 a0_1,.int .i64 a0_2] 127 (0,0)) ze):gb102≠gb101));clear BK101;clear HB;have BK101:=n0_;have HB:=n1_;have BK102:=n2_;have GW102:=n3_;have GE102:=n4_;have NB101_102:=n5_;have NB102_101:=n6_;clear n0_ n1_ n2_ n3_ n4_ n5_ n6_;clear hb hbox hg))
 replace BK101:=Aside0.mk (blk_drew BK101.out)
 replace BK102:=Aside0.mk (blk_drew BK102.out)
 replace HB:=Aside0.mk (below_drew1 HB.out)
 refine start_ (n:=18) (S:=fun w'=>w'.cell? ⟨gb101,0,none⟩=some (.string a0_0)∧w'.cell? ⟨gb101,1,none⟩=some (.int .i64 a0_1)∧w'.cell? ⟨gb101,2,none⟩=some (.int .i64 a0_2)∧w'.cell? ⟨gb102,0,none⟩=some (.string a1_0)∧w'.cell? ⟨gb102,1,none⟩=some (.int .i64 a1_1)∧w'.cell? ⟨gb102,2,none⟩=some (.int .i64 a1_2)) (ds:=[]) #[false,false,false,false,false,false,false,false,false,false,false,false,false,false,false,false,false,false] zbk rfl rfl ⟨(blk_cell BK101.out 0).trans rfl,(blk_cell BK101.out 1).trans rfl,(blk_cell BK101.out 2).trans rfl,(blk_cell BK102.out 0).trans rfl,(blk_cell BK102.out 1).trans rfl,(blk_cell BK102.out 2).trans rfl⟩ (fun hHeld=>?_);refine with_tabW impl_compareTurns.tab1 impl_compareTurns.bits1 (fun HT_ HW_=>?_)
 generalize w8.drew=w9 at BK101 BK102 HB hHeld ⊢
 refine pA 0 5 ?_
 refine pA 2 7 ?_
 refine pA 5 10 ?_
 refine pA 7 12 ?_
 refine pA 10 15 ?_
 refine pA 12 17 ?_
 refine pT 1 6 rfl zao ?_
 refine pT 3 8 rfl zao ?_
 refine pT 6 11 rfl zao ?_
 refine pT 8 13 rfl zao ?_
 refine pT 11 16 rfl zao ?_
 refine pT 13 18 rfl zao ?_
 refine one_ (i:=4) (N:=some 9) #[true,true,true,true,true,true,true,true,true,false,true,true,true,true,false,false,false,false] rfl rfl (one_of HT_.out zbk) zbq (fun K hK=>?_)
 refine goes_ Try.func137 zbk rfl #[.int .i64 a0_1,.int .i64 a1_1] (by rfl) rfl rfl zc ?_
 with_reducible refine (cmp_Compare_int64.calls a0_1 a1_1 t103 _ A3.out).mono ?_
 rintro e w' ⟨rfl,⟨nd,rfl⟩⟩
 refine ⟨_,rfl,?_⟩
 refine hK.out _ _ ⟨(blk_cell BK101.out 0).trans rfl,(blk_cell BK101.out 1).trans rfl,(blk_cell BK101.out 2).trans rfl,(blk_cell BK102.out 0).trans rfl,(blk_cell BK102.out 1).trans rfl,(blk_cell BK102.out 2).trans rfl⟩ (fun hHeld=>?_)
 clear hK K
 refine pN 9 ?_
 refine one_ (i:=9) (N:=some 14) #[true,true,true,true,true,true,true,true,true,true,true,true,true,true,false,false,false,false] rfl rfl (one_of HT_.out zbk) zbq (fun K hK=>?_)
 refine goes_ Try.func110 zbk rfl #[.string a0_0,.string a1_0] (by rfl) rfl rfl zc ?_
 with_reducible refine (cmp_Compare_string.calls a0_0 a1_0 t104 _ A4.out).mono ?_
 rintro e w' ⟨rfl,⟨nd,rfl⟩⟩
 refine ⟨_,rfl,?_⟩
 refine hK.out _ _ ⟨(blk_cell BK101.out 0).trans rfl,(blk_cell BK101.out 1).trans rfl,(blk_cell BK101.out 2).trans rfl,(blk_cell BK102.out 0).trans rfl,(blk_cell BK102.out 1).trans rfl,(blk_cell BK102.out 2).trans rfl⟩ (fun hHeld=>?_)
 clear hK K
 refine pN 14 ?_
 refine one_ (i:=14) (N:=some 19) #[true,true,true,true,true,true,true,true,true,true,true,true,true,true,true,false,false,false] rfl rfl (one_of HT_.out zbk) zbq (fun K hK=>?_)
 refine goes_ Try.func137 zbk rfl #[.int .i64 a0_2,.int .i64 a1_2] (by rfl) rfl rfl zc ?_
 with_reducible refine (cmp_Compare_int64.calls a0_2 a1_2 t105 _ A5.out).mono ?_
 rintro e w' ⟨rfl,⟨nd,rfl⟩⟩
 refine ⟨_,rfl,?_⟩
 refine hK.out _ _ ⟨(blk_cell BK101.out 0).trans rfl,(blk_cell BK101.out 1).trans rfl,(blk_cell BK101.out 2).trans rfl,(blk_cell BK102.out 0).trans rfl,(blk_cell BK102.out 1).trans rfl,(blk_cell BK102.out 2).trans rfl⟩ (fun hHeld=>?_)
 clear hK K
 refine pN 19 ?_
 refine one_ (i:=15) (N:=some 20) #[true,true,true,true,true,true,true,true,true,true,true,true,true,true,true,true,false,false] rfl rfl (one_of HT_.out zbk) zbq (fun K hK=>?_)
 refine Kd.R_lit_step (Kd.int .i64) _ 3 ?hg (N:=20) ?hd (xs:=([t103,t104,t105]:List Int)) (inner:=[.int .i64 t103,.int .i64 t104,.int .i64 t105]) (ok:=fun _=>True) (okp:=fun _=>True) ?hr ?hp (fun _ hk=>hk) trivial (Below.refl _ _) (Nat.le_refl _) zdd ?_;(case hd=>rfl);(case hg=>rfl);(case hr=>exact zt);(case hp=>exact (Reps.one (show Kd.M (Kd.int .i64) _ _ _ t103 [.int .i64 t103] from rfl) (Reps.one (show Kd.M (Kd.int .i64) _ _ _ t104 [.int .i64 t104] from rfl) (Reps.one (show Kd.M (Kd.int .i64) _ _ _ t105 [.int .i64 t105] from rfl) (Reps.none _ _)))))
 intro v107 w10 ho11 hb hg_ hnew_
 clear hg_ hnew_
 (first|rw [←Ny106.out] at ho11|(simp only [Int.reduceToNat] at ho11;rw [←Ny106.out] at ho11))
 have HO108:=Aside0.mk (Kd.R_lower ho11 (below_size zah))
 replace BK101:=Aside0.mk (blk_below (g:=gb101) (o:=.cells #[.string a0_0,.int .i64 a0_1,.int .i64 a0_2] 127 (0,0)) ze hb)
 replace BK102:=Aside0.mk (blk_below (g:=gb102) (o:=.cells #[.string a1_0,.int .i64 a1_1,.int .i64 a1_2] 127 (0,0)) zz hb)
 replace HB:=Aside0.mk (below_step zah hb)
 clear hb ho11
 obtain ⟨Ao12,co12,eo12⟩:=Kd.R_slice HO108.out
 (first|subst eo12|(injection eo12 with f1_ f2_ f3_;have f4_:=f1_.symm;have f5_:=f3_.symm;clear f1_ f2_ f3_;subst f4_;subst f5_))
 refine hK.out _ _ ⟨(blk_cell BK101.out 0).trans rfl,(blk_cell BK101.out 1).trans rfl,(blk_cell BK101.out 2).trans rfl,(blk_cell BK102.out 0).trans rfl,(blk_cell BK102.out 1).trans rfl,(blk_cell BK102.out 2).trans rfl⟩ (fun hHeld=>?_)
 clear hK K
 refine pN 20 ?_
 refine one_ (i:=16) (N:=some 21) #[true,true,true,true,true,true,true,true,true,true,true,true,true,true,true,true,true,false] rfl rfl (one_of HT_.out zbk) zbq (fun K hK=>?_)
 refine goes_ Try.func136 zbk rfl #[.slice Ao12 y106.length co12] (by rfl) rfl rfl zc ?_
 with_reducible refine (cmp_Or_int.calls k _ _ y106 t109 _ ?side1 ?side2 A6.out).mono ?_
 (case side1=>repeat (first|exact (Kd.R_reads' HO108.out).2.2|(with_reducible refine Kd.C_alloc ?_ _)|(with_reducible refine Kd.C_drewN ?_ _)|(with_reducible refine Kd.C_drew ?_)))
 (case side2=>exact (Kd.R_reads' HO108.out).2.1)
 rintro e w' ⟨rfl,⟨nd,rfl⟩⟩
 refine ⟨_,rfl,?_⟩
 refine hK.out _ _ ⟨(blk_cell BK101.out 0).trans rfl,(blk_cell BK101.out 1).trans rfl,(blk_cell BK101.out 2).trans rfl,(blk_cell BK102.out 0).trans rfl,(blk_cell BK102.out 1).trans rfl,(blk_cell BK102.out 2).trans rfl⟩ (fun hHeld=>?_)
 clear hK K
 refine pN 21 ?_
 refine pA 17 4 ?_
 refine done_ (done_of HT_.out zbk) ?_
 try go_wp2
 go_ret
 exact ⟨zk,zah⟩

def impl_ValidTurns.l0:Nat→List (S127)→List (S127)→Int→Int→Option (Bool)
 | 0,_,_,_,_=>none
 | k+1,x0,x8,x9,x10=>if x10<x9 then (if 0≤x10 then (if x10<(x8.length:Int) then ((impl_Turn_valid.f k ((rd_T127 x8 x10).f0) ((rd_T127 x8 x10).f1) ((rd_T127 x8 x10).f2)).bind fun t103=>(if t103=true then (if x10 > 0 then (if 0≤(wrap64 (x10 - 1)) then (if (wrap64 (x10 - 1))<(x0.length:Int) then ((impl_compareTurns.f k ((rd_T127 x0 (wrap64 (x10 - 1))).f0) ((rd_T127 x0 (wrap64 (x10 - 1))).f1) ((rd_T127 x0 (wrap64 (x10 - 1))).f2) ((rd_T127 x8 x10).f0) ((rd_T127 x8 x10).f1) ((rd_T127 x8 x10).f2)).bind fun t105=>(if t105≥0 then (some false) else (impl_ValidTurns.l0 k x0 x8 x9 (wrap64 (x10+1))))) else (none)) else (none)) else (impl_ValidTurns.l0 k x0 x8 x9 (wrap64 (x10+1)))) else (some false))) else (none)) else (none)) else (some true)
def impl_ValidTurns.f (k:Nat) (l0:List (S127)):Option (Bool):=if (l0.length:Int) > 24 then (some false) else (impl_ValidTurns.l0 k l0 l0 (l0.length:Int) 0)
def impl_ValidTurns.T6:Bool × List (List Nat × List Nat):=(true,[([],[]),([0],[0]),([1],[1]),([2,1],[2]),([3],[3]),([4,3],[3,4]),([5,3,3],[3,5]),([6],[6]),([6],[6]),([8,6],[6,8]),([7,9,6],[6,7,9]),([10,6],[6,10]),([6],[6]),([11,12,6,6],[6,11,12]),([13,6],[6,13]),([6,14,3],[3,6,14]),([3,15],[3,15])])
def impl_ValidTurns.B6:List Nat:=[0,1,3,7,15,31,63,127,127,383,1023,2047,127,8191,16383,32767,65535]
theorem impl_ValidTurns.tab6:rtab .any (opsOf Try.f94 6)=impl_ValidTurns.T6:=by kernel_rfl
theorem impl_ValidTurns.bits6:waitsOk impl_ValidTurns.T6.2 impl_ValidTurns.B6=true:=by kernel_rfl
set_option maxHeartbeats 8000000 in
set_option maxRecDepth 100000 in
theorem impl_ValidTurns.calls (k:Nat) (A0:Option Addr) (c0:Nat) (l0:List (S127)) (r:Bool) (w:World) (hr0:Kd.C k127 w A0 l0.length l0) (hc0:l0.length≤c0) (h:impl_ValidTurns.f k l0=some r) :
 Calls Try.prog 94 #[.slice A0 l0.length c0] w fun e w'=>e = .returned (.bool r)∧Below w.heap.size w w':=by
 have hu127:=Try.underlying127
 have HR0:=Aside0.mk hr0
 have HC0:=Aside0.mk hc0
 clear hr0 hc0
 have HB:=Aside0.mk (Below.refl w.heap.size w)
 have H:(if (l0.length:Int) > 24 then (some false) else (impl_ValidTurns.l0 k l0 l0 (l0.length:Int) 0))=some r:=h
 clear h
 by_cases c2:(l0.length:Int) > 24
 ·rw [if_pos c2] at H
  have c2b0:decide (24<(l0.length:Int))=true:=decide_eq_true c2
  have c2b1:decide (24<l0.length)=true:=decide_eq_true zbt
  clear c2
  obtain rfl:=Option.some.inj H
  go_enter Try.func94,Try.ntmps94
  go_wp2
  go_ret
  exact ⟨zk,za⟩
 ·rw [if_neg c2] at H
  have c2b0:decide (24<(l0.length:Int))=false:=decide_eq_false c2
  have c2b1:decide (24<l0.length)=false:=decide_eq_false zbt
  clear c2
  have H':=Aside0.mk H
  clear H
  go_enter Try.func94,Try.ntmps94
  go_wp2
  go_loopg [10] k (fun kq v10 w'=>∃(x10_1:Int),v10 = .int .i64 x10_1∧Aside0 (impl_ValidTurns.l0 kq l0 l0 (l0.length:Int) x10_1=some r)∧Aside0 (kq≤k)∧Aside0 (Below w.heap.size w w'))
  case atStart=>exact ⟨(0),zm,H',⟨Nat.le_refl _⟩,⟨za⟩⟩
  case round=>
   clear H'
   try clear c2
   try clear c2b0
   try clear c2b1
   try clear p2
   obtain ⟨x10_1,rfl,HA,HK1,HB⟩:=hrel
   cases gk with
   | zero=>exact absurd HA.out (by simp [impl_ValidTurns.l0])
   | succ k1=>
    have H:=HA.out
    clear HA
    simp only [impl_ValidTurns.l0] at H
    by_cases c3:x10_1<(l0.length:Int)
    ·rw [if_pos c3] at H
     have c3b0:decide (x10_1<(l0.length:Int))=true:=decide_eq_true c3
     clear c3
     by_cases c4:0≤x10_1
     ·rw [if_pos c4] at H
      have c4b0:decide (0≤x10_1)=true:=decide_eq_true c4
      clear c4
      by_cases c5:x10_1<(l0.length:Int)
      ·rw [if_pos c5] at H
       have c5b0:decide (x10_1<(l0.length:Int))=true:=decide_eq_true c5
       clear c5
       replace H:=Option.bind_eq_some_iff.mp H
       obtain ⟨t103,A60,H⟩:=H
       replace H:(if t103=true then (if x10_1 > 0 then (if 0≤(wrap64 (x10_1 - 1)) then (if (wrap64 (x10_1 - 1))<(l0.length:Int) then ((impl_compareTurns.f k1 ((rd_T127 l0 (wrap64 (x10_1 - 1))).f0) ((rd_T127 l0 (wrap64 (x10_1 - 1))).f1) ((rd_T127 l0 (wrap64 (x10_1 - 1))).f2) ((rd_T127 l0 x10_1).f0) ((rd_T127 l0 x10_1).f1) ((rd_T127 l0 x10_1).f2)).bind fun t105=>(if t105≥0 then (some false) else (impl_ValidTurns.l0 k1 l0 l0 (l0.length:Int) (wrap64 (x10_1+1))))) else (none)) else (none)) else (impl_ValidTurns.l0 k1 l0 l0 (l0.length:Int) (wrap64 (x10_1+1)))) else (some false))=some r:=H
       have A6:=Aside0.mk A60
       clear A60
       by_cases c7:t103=true
       ·subst c7
        have H1:(if x10_1 > 0 then (if 0≤(wrap64 (x10_1 - 1)) then (if (wrap64 (x10_1 - 1))<(l0.length:Int) then ((impl_compareTurns.f k1 ((rd_T127 l0 (wrap64 (x10_1 - 1))).f0) ((rd_T127 l0 (wrap64 (x10_1 - 1))).f1) ((rd_T127 l0 (wrap64 (x10_1 - 1))).f2) ((rd_T127 l0 x10_1).f0) ((rd_T127 l0 x10_1).f1) ((rd_T127 l0 x10_1).f2)).bind fun t105=>(if t105≥0 then (some false) else (impl_ValidTurns.l0 k1 l0 l0 (l0.length:Int) (wrap64 (x10_1+1))))) else (none)) else (none)) else (impl_ValidTurns.l0 k1 l0 l0 (l0.length:Int) (wrap64 (x10_1+1))))=some r:=by rw [if_pos rfl] at H;exact H
        clear H
        have H:=H1
        clear H1
        by_cases c8:x10_1 > 0
        ·rw [if_pos c8] at H
         have c8b0:decide (0<x10_1)=true:=decide_eq_true c8
         clear c8
         obtain ⟨ji9,hji9⟩:∃j_:Int,(wrap64 (x10_1 - 1))=j_:=⟨_,rfl⟩
         replace H:(if 0≤(ji9) then (if (ji9)<(l0.length:Int) then ((impl_compareTurns.f k1 ((rd_T127 l0 (ji9)).f0) ((rd_T127 l0 (ji9)).f1) ((rd_T127 l0 (ji9)).f2) ((rd_T127 l0 x10_1).f0) ((rd_T127 l0 x10_1).f1) ((rd_T127 l0 x10_1).f2)).bind fun t105=>(if t105≥0 then (some false) else (impl_ValidTurns.l0 k1 l0 l0 (l0.length:Int) (wrap64 (x10_1+1))))) else (none)) else (none))=some r:=by first|(rw [hji9] at H;exact H)|(simp only [hji9] at H ⊢;exact H)
         (try rw [hji9] at A6)
         have hji9w:(IntKind.i64.wrap (x10_1 - 1))=ji9:=(i64_w _).trans hji9
         by_cases c10:0≤(ji9)
         ·rw [if_pos c10] at H
          have c10b0:decide (0≤(ji9))=true:=decide_eq_true c10
          clear c10
          by_cases c11:(ji9)<(l0.length:Int)
          ·rw [if_pos c11] at H
           have c11b0:decide ((ji9)<(l0.length:Int))=true:=decide_eq_true c11
           clear c11
           replace H:=Option.bind_eq_some_iff.mp H
           obtain ⟨t105,A120,H⟩:=H
           replace H:(if t105≥0 then (some false) else (impl_ValidTurns.l0 k1 l0 l0 (l0.length:Int) (wrap64 (x10_1+1))))=some r:=H
           have A12:=Aside0.mk A120
           clear A120
           by_cases c13:t105≥0
           ·rw [if_pos c13] at H
            have c13b0:decide (0≤t105)=true:=decide_eq_true c13
            clear c13
            obtain rfl:=Option.some.inj H
            have p101:0≤(x10_1:Int):=of_decide_eq_true zb
            have q101:x10_1<(l0.length:Int):=of_decide_eq_true zb
            obtain ⟨ad101,e101,hx101_0,hx101_1,hx101_2⟩:=at_T127 HR0.out x10_1 p101 q101
            cases e101
            replace hx101_0:=(HB.out.cell (World.block_lt_of_cell? w _ hx101_0)).trans hx101_0
            replace hx101_1:=(HB.out.cell (World.block_lt_of_cell? w _ hx101_1)).trans hx101_1
            replace hx101_2:=(HB.out.cell (World.block_lt_of_cell? w _ hx101_2)).trans hx101_2
            replace p101:=eq_true p101
            replace q101:=eq_true q101
            try go_wp2_with (first|((with_reducible refine gate_dst (N:=4) rfl ?_);refine box_event ?hg (N:=4) ?hd (cs:=#[.string (⟨#[]⟩:ByteArray),.int .i64 0,.int .i64 0]) (t:=127) ?hr ?_;(case hd=>rfl);(case hg=>rfl);(case hr=>exact zt);intro gb102 hg w14 hbox hb;have n0_:=Aside0.mk (below_step za hb);have n1_:=Aside0.mk (hbox);have n2_:=Aside0.mk ((by rw [hg];exact (below_size za):w.heap.size≤gb102));have n3_:=Aside0.mk ((by rw [hg];exact (below_size za):w.heap.size≤gb102));clear HB;have HB:=n0_;have BK102:=n1_;have GW102:=n2_;have GE102:=n3_;clear n0_ n1_ n2_ n3_;clear hb hbox hg;have hcz15_0:w14.cell? ⟨gb102,0,none⟩=some (.string (⟨#[]⟩:ByteArray)):=(blk_cell BK102.out 0).trans rfl;have hcz15_1:w14.cell? ⟨gb102,1,none⟩=some (.int .i64 0):=(blk_cell BK102.out 1).trans rfl;have hcz15_2:w14.cell? ⟨gb102,2,none⟩=some (.int .i64 0):=(blk_cell BK102.out 2).trans rfl;have hfz15_0:=blk_frozen BK102.out 0;have hfz15_1:=blk_frozen BK102.out 1;have hfz15_2:=blk_frozen BK102.out 2))
            have n0_:Aside0 ((((w14.setCell ⟨gb102,0,none⟩ (.string ((rd_T127 l0 x10_1).f0))).setCell ⟨gb102,1,none⟩ (.int .i64 ((rd_T127 l0 x10_1).f1))).setCell ⟨gb102,2,none⟩ (.int .i64 ((rd_T127 l0 x10_1).f2))).heap[gb102]?=some (.cells #[.string ((rd_T127 l0 x10_1).f0),.int .i64 ((rd_T127 l0 x10_1).f1),.int .i64 ((rd_T127 l0 x10_1).f2)] 127 (0,0))):=⟨zaq⟩
            have n1_:Aside0 (Below w.heap.size w (((w14.setCell ⟨gb102,0,none⟩ (.string ((rd_T127 l0 x10_1).f0))).setCell ⟨gb102,1,none⟩ (.int .i64 ((rd_T127 l0 x10_1).f1))).setCell ⟨gb102,2,none⟩ (.int .i64 ((rd_T127 l0 x10_1).f2)))):=⟨zp⟩
            (try clear BK102)
            (try clear HB)
            generalize (((w14.setCell ⟨gb102,0,none⟩ (.string ((rd_T127 l0 x10_1).f0))).setCell ⟨gb102,1,none⟩ (.int .i64 ((rd_T127 l0 x10_1).f1))).setCell ⟨gb102,2,none⟩ (.int .i64 ((rd_T127 l0 x10_1).f2)))=w16 at n0_ n1_ ⊢
            have BK102:=n0_
            have HB:=n1_
            clear n0_ n1_
            replace BK102:=Aside0.mk (blk_drew BK102.out)
            replace HB:=Aside0.mk (below_drew1 HB.out)
            have p104:0≤((ji9):Int):=of_decide_eq_true zb
            have q104:(ji9)<(l0.length:Int):=of_decide_eq_true zb
            obtain ⟨ad104,e104,hx104_0,hx104_1,hx104_2⟩:=at_T127 HR0.out (ji9) p104 q104
            have hw104_2:=hx104_2
            have hw104_1:=hx104_1
            have hw104_0:=hx104_0
            obtain rfl:ad101=ad104:=(by injection e104)
            replace hx104_0:=(HB.out.cell (World.block_lt_of_cell? w _ hx104_0)).trans hx104_0
            replace hx104_1:=(HB.out.cell (World.block_lt_of_cell? w _ hx104_1)).trans hx104_1
            replace hx104_2:=(HB.out.cell (World.block_lt_of_cell? w _ hx104_2)).trans hx104_2
            replace p104:=eq_true p104
            replace q104:=eq_true q104
            refine start_ (n:=17) (S:=fun w'=>w'.cell? ⟨gb102,0,none⟩=some (.string ((rd_T127 l0 x10_1).f0))∧w'.cell? ⟨gb102,1,none⟩=some (.int .i64 ((rd_T127 l0 x10_1).f1))∧w'.cell? ⟨gb102,2,none⟩=some (.int .i64 ((rd_T127 l0 x10_1).f2))∧w'.cell? (ad101.add (((ji9)).toNat*3))=some (.string ((rd_T127 l0 (ji9)).f0))∧w'.cell? ⟨(ad101.add (((ji9)).toNat*3)).block,(ad101.add (((ji9)).toNat*3)).off+1,none⟩=some (.int .i64 ((rd_T127 l0 (ji9)).f1))∧w'.cell? ⟨(ad101.add (((ji9)).toNat*3)).block,(ad101.add (((ji9)).toNat*3)).off+2,none⟩=some (.int .i64 ((rd_T127 l0 (ji9)).f2))) (ds:=[]) #[false,false,false,false,false,false,false,false,false,false,false,false,false,false,false,false,false] zbk rfl rfl ⟨(blk_cell BK102.out 0).trans rfl,(blk_cell BK102.out 1).trans rfl,(blk_cell BK102.out 2).trans rfl,((HB.out.cell (World.block_lt_of_cell? w _ hw104_0)).trans hw104_0),((HB.out.cell (World.block_lt_of_cell? w _ hw104_1)).trans hw104_1),((HB.out.cell (World.block_lt_of_cell? w _ hw104_2)).trans hw104_2)⟩ (fun hHeld=>?_);refine with_tabW impl_ValidTurns.tab6 impl_ValidTurns.bits6 (fun HT_ HW_=>?_)
            generalize w16.drew=w17 at BK102 HB hx104_0 hx104_1 hx104_2 hHeld ⊢
            refine pT 0 15 rfl zao ?_
            refine one_ (i:=1) (N:=some 16) #[true,true,false,false,false,false,false,false,false,false,false,false,false,false,false,false,false] rfl rfl (one_of HT_.out zbk) zbq (fun K hK=>?_)
            refine goes_ Try.func101 zbk rfl #[.agg #[.string ((rd_T127 l0 x10_1).f0),.int .i64 ((rd_T127 l0 x10_1).f1),.int .i64 ((rd_T127 l0 x10_1).f2)]] (by rfl) rfl rfl zc ?_
            with_reducible refine (impl_Turn_valid.calls k1 ((rd_T127 l0 x10_1).f0) ((rd_T127 l0 x10_1).f1) ((rd_T127 l0 x10_1).f2) true _ A6.out).mono ?_
            rintro e w18 ⟨rfl,hb⟩
            refine ⟨_,rfl,?_⟩
            replace BK102:=Aside0.mk (blk_below (g:=gb102) (o:=.cells #[.string ((rd_T127 l0 x10_1).f0),.int .i64 ((rd_T127 l0 x10_1).f1),.int .i64 ((rd_T127 l0 x10_1).f2)] 127 (0,0)) zz hb)
            replace HB:=Aside0.mk (below_step zp hb)
            (try clear hb)
            (try clear hb2)
            (try clear hk)
            (try clear hi)
            refine hK.out _ _ ⟨(blk_cell BK102.out 0).trans rfl,(blk_cell BK102.out 1).trans rfl,(blk_cell BK102.out 2).trans rfl,((HB.out.cell (World.block_lt_of_cell? w _ hw104_0)).trans hw104_0),((HB.out.cell (World.block_lt_of_cell? w _ hw104_1)).trans hw104_1),((HB.out.cell (World.block_lt_of_cell? w _ hw104_2)).trans hw104_2)⟩ (fun hHeld=>?_)
            clear hK K
            refine pN 16 ?_
            refine pA 2 17 ?_
            refine pA 3 18 ?_
            refine pA 4 19 ?_
            refine pA 5 20 ?_
            refine pA 6 21 ?_
            refine pA 7 22 ?_
            refine pA 8 23 ?_
            refine pA 9 24 ?_
            refine pA 10 25 ?_
            refine pT 11 26 rfl zao ?_
            refine pT 12 27 rfl zao ?_
            refine one_ (i:=13) (N:=some 28) #[true,true,true,true,true,true,true,true,true,true,true,true,true,true,false,false,false] rfl rfl (one_of HT_.out zbk) zbq (fun K hK=>?_)
            refine goes_ Try.func103 zbk rfl #[.agg #[.string ((rd_T127 l0 (ji9)).f0),.int .i64 ((rd_T127 l0 (ji9)).f1),.int .i64 ((rd_T127 l0 (ji9)).f2)],.agg #[.string ((rd_T127 l0 x10_1).f0),.int .i64 ((rd_T127 l0 x10_1).f1),.int .i64 ((rd_T127 l0 x10_1).f2)]] (by rfl) rfl rfl (by (try simp only [List.map_toArray,List.map_cons,List.map_nil]);first|done|(simp only [hji9];rfl)|rfl|(simp only [List.length_drop,List.length_take];rfl)) ?_
            with_reducible refine (impl_compareTurns.calls k1 ((rd_T127 l0 (ji9)).f0) ((rd_T127 l0 (ji9)).f1) ((rd_T127 l0 (ji9)).f2) ((rd_T127 l0 x10_1).f0) ((rd_T127 l0 x10_1).f1) ((rd_T127 l0 x10_1).f2) t105 _ A12.out).mono ?_
            rintro e w19 ⟨rfl,hb⟩
            refine ⟨_,rfl,?_⟩
            replace BK102:=Aside0.mk (blk_below (g:=gb102) (o:=.cells #[.string ((rd_T127 l0 x10_1).f0),.int .i64 ((rd_T127 l0 x10_1).f1),.int .i64 ((rd_T127 l0 x10_1).f2)] 127 (0,0)) zz hb)
            replace HB:=Aside0.mk (below_step zp hb)
            (try clear hb)
            (try clear hb2)
            (try clear hk)
            (try clear hi)
            refine hK.out _ _ ⟨(blk_cell BK102.out 0).trans rfl,(blk_cell BK102.out 1).trans rfl,(blk_cell BK102.out 2).trans rfl,((HB.out.cell (World.block_lt_of_cell? w _ hw104_0)).trans hw104_0),((HB.out.cell (World.block_lt_of_cell? w _ hw104_1)).trans hw104_1),((HB.out.cell (World.block_lt_of_cell? w _ hw104_2)).trans hw104_2)⟩ (fun hHeld=>?_)
            clear hK K
            refine pN 28 ?_
            refine pA 14 29 ?_
            refine pA 15 30 ?_
            refine pA 16 31 ?_
            refine done_ (done_of HT_.out zbk) ?_
            try go_wp2
            go_ret
            exact ⟨by first|rfl|(simp [errW_none,errW_some]<;>rfl)|(simp only [←hji9];first|rfl|(simp [errW_none,errW_some]<;>rfl))|(simp [*,errW_none,errW_some]<;>rfl),zp⟩
           ·rw [if_neg c13] at H
            have c13b0:decide (0≤t105)=false:=decide_eq_false c13
            clear c13
            have H':=Aside0.mk H
            clear H
            have p101:0≤(x10_1:Int):=of_decide_eq_true zb
            have q101:x10_1<(l0.length:Int):=of_decide_eq_true zb
            obtain ⟨ad101,e101,hx101_0,hx101_1,hx101_2⟩:=at_T127 HR0.out x10_1 p101 q101
            cases e101
            replace hx101_0:=(HB.out.cell (World.block_lt_of_cell? w _ hx101_0)).trans hx101_0
            replace hx101_1:=(HB.out.cell (World.block_lt_of_cell? w _ hx101_1)).trans hx101_1
            replace hx101_2:=(HB.out.cell (World.block_lt_of_cell? w _ hx101_2)).trans hx101_2
            replace p101:=eq_true p101
            replace q101:=eq_true q101
            try go_wp2_with (first|((with_reducible refine gate_dst (N:=4) rfl ?_);refine box_event ?hg (N:=4) ?hd (cs:=#[.string (⟨#[]⟩:ByteArray),.int .i64 0,.int .i64 0]) (t:=127) ?hr ?_;(case hd=>rfl);(case hg=>rfl);(case hr=>exact zt);intro gb102 hg w20 hbox hb;have n0_:=Aside0.mk (below_step za hb);have n1_:=Aside0.mk (hbox);have n2_:=Aside0.mk ((by rw [hg];exact (below_size za):w.heap.size≤gb102));have n3_:=Aside0.mk ((by rw [hg];exact (below_size za):w.heap.size≤gb102));clear HB;have HB:=n0_;have BK102:=n1_;have GW102:=n2_;have GE102:=n3_;clear n0_ n1_ n2_ n3_;clear hb hbox hg;have hcz21_0:w20.cell? ⟨gb102,0,none⟩=some (.string (⟨#[]⟩:ByteArray)):=(blk_cell BK102.out 0).trans rfl;have hcz21_1:w20.cell? ⟨gb102,1,none⟩=some (.int .i64 0):=(blk_cell BK102.out 1).trans rfl;have hcz21_2:w20.cell? ⟨gb102,2,none⟩=some (.int .i64 0):=(blk_cell BK102.out 2).trans rfl;have hfz21_0:=blk_frozen BK102.out 0;have hfz21_1:=blk_frozen BK102.out 1;have hfz21_2:=blk_frozen BK102.out 2))
            have n0_:Aside0 ((((w20.setCell ⟨gb102,0,none⟩ (.string ((rd_T127 l0 x10_1).f0))).setCell ⟨gb102,1,none⟩ (.int .i64 ((rd_T127 l0 x10_1).f1))).setCell ⟨gb102,2,none⟩ (.int .i64 ((rd_T127 l0 x10_1).f2))).heap[gb102]?=some (.cells #[.string ((rd_T127 l0 x10_1).f0),.int .i64 ((rd_T127 l0 x10_1).f1),.int .i64 ((rd_T127 l0 x10_1).f2)] 127 (0,0))):=⟨zaq⟩
            have n1_:Aside0 (Below w.heap.size w (((w20.setCell ⟨gb102,0,none⟩ (.string ((rd_T127 l0 x10_1).f0))).setCell ⟨gb102,1,none⟩ (.int .i64 ((rd_T127 l0 x10_1).f1))).setCell ⟨gb102,2,none⟩ (.int .i64 ((rd_T127 l0 x10_1).f2)))):=⟨zp⟩
            (try clear BK102)
            (try clear HB)
            generalize (((w20.setCell ⟨gb102,0,none⟩ (.string ((rd_T127 l0 x10_1).f0))).setCell ⟨gb102,1,none⟩ (.int .i64 ((rd_T127 l0 x10_1).f1))).setCell ⟨gb102,2,none⟩ (.int .i64 ((rd_T127 l0 x10_1).f2)))=w22 at n0_ n1_ ⊢
            have BK102:=n0_
            have HB:=n1_
            clear n0_ n1_
            replace BK102:=Aside0.mk (blk_drew BK102.out)
            replace HB:=Aside0.mk (below_drew1 HB.out)
            have p104:0≤((ji9):Int):=of_decide_eq_true zb
            have q104:(ji9)<(l0.length:Int):=of_decide_eq_true zb
            obtain ⟨ad104,e104,hx104_0,hx104_1,hx104_2⟩:=at_T127 HR0.out (ji9) p104 q104
            have hw104_2:=hx104_2
            have hw104_1:=hx104_1
            have hw104_0:=hx104_0
            obtain rfl:ad101=ad104:=(by injection e104)
            replace hx104_0:=(HB.out.cell (World.block_lt_of_cell? w _ hx104_0)).trans hx104_0
            replace hx104_1:=(HB.out.cell (World.block_lt_of_cell? w _ hx104_1)).trans hx104_1
            replace hx104_2:=(HB.out.cell (World.block_lt_of_cell? w _ hx104_2)).trans hx104_2
            replace p104:=eq_true p104
            replace q104:=eq_true q104
            refine start_ (n:=17) (S:=fun w'=>w'.cell? ⟨gb102,0,none⟩=some (.string ((rd_T127 l0 x10_1).f0))∧w'.cell? ⟨gb102,1,none⟩=some (.int .i64 ((rd_T127 l0 x10_1).f1))∧w'.cell? ⟨gb102,2,none⟩=some (.int .i64 ((rd_T127 l0 x10_1).f2))∧w'.cell? (ad101.add (((ji9)).toNat*3))=some (.string ((rd_T127 l0 (ji9)).f0))∧w'.cell? ⟨(ad101.add (((ji9)).toNat*3)).block,(ad101.add (((ji9)).toNat*3)).off+1,none⟩=some (.int .i64 ((rd_T127 l0 (ji9)).f1))∧w'.cell? ⟨(ad101.add (((ji9)).toNat*3)).block,(ad101.add (((ji9)).toNat*3)).off+2,none⟩=some (.int .i64 ((rd_T127 l0 (ji9)).f2))) (ds:=[]) #[false,false,false,false,false,false,false,false,false,false,false,false,false,false,false,false,false] zbk rfl rfl ⟨(blk_cell BK102.out 0).trans rfl,(blk_cell BK102.out 1).trans rfl,(blk_cell BK102.out 2).trans rfl,((HB.out.cell (World.block_lt_of_cell? w _ hw104_0)).trans hw104_0),((HB.out.cell (World.block_lt_of_cell? w _ hw104_1)).trans hw104_1),((HB.out.cell (World.block_lt_of_cell? w _ hw104_2)).trans hw104_2)⟩ (fun hHeld=>?_);refine with_tabW impl_ValidTurns.tab6 impl_ValidTurns.bits6 (fun HT_ HW_=>?_)
            generalize w22.drew=w23 at BK102 HB hx104_0 hx104_1 hx104_2 hHeld ⊢
            refine pT 0 15 rfl zao ?_
            refine one_ (i:=1) (N:=some 16) #[true,true,false,false,false,false,false,false,false,false,false,false,false,false,false,false,false] rfl rfl (one_of HT_.out zbk) zbq (fun K hK=>?_)
            refine goes_ Try.func101 zbk rfl #[.agg #[.string ((rd_T127 l0 x10_1).f0),.int .i64 ((rd_T127 l0 x10_1).f1),.int .i64 ((rd_T127 l0 x10_1).f2)]] (by rfl) rfl rfl zc ?_
            with_reducible refine (impl_Turn_valid.calls k1 ((rd_T127 l0 x10_1).f0) ((rd_T127 l0 x10_1).f1) ((rd_T127 l0 x10_1).f2) true _ A6.out).mono ?_
            rintro e w24 ⟨rfl,hb⟩
            refine ⟨_,rfl,?_⟩
            replace BK102:=Aside0.mk (blk_below (g:=gb102) (o:=.cells #[.string ((rd_T127 l0 x10_1).f0),.int .i64 ((rd_T127 l0 x10_1).f1),.int .i64 ((rd_T127 l0 x10_1).f2)] 127 (0,0)) zz hb)
            replace HB:=Aside0.mk (below_step zp hb)
            (try clear hb)
            (try clear hb2)
            (try clear hk)
            (try clear hi)
            refine hK.out _ _ ⟨(blk_cell BK102.out 0).trans rfl,(blk_cell BK102.out 1).trans rfl,(blk_cell BK102.out 2).trans rfl,((HB.out.cell (World.block_lt_of_cell? w _ hw104_0)).trans hw104_0),((HB.out.cell (World.block_lt_of_cell? w _ hw104_1)).trans hw104_1),((HB.out.cell (World.block_lt_of_cell? w _ hw104_2)).trans hw104_2)⟩ (fun hHeld=>?_)
            clear hK K
            refine pN 16 ?_
            refine pA 2 17 ?_
            refine pA 3 18 ?_
            refine pA 4 19 ?_
            refine pA 5 20 ?_
            refine pA 6 21 ?_
            refine pA 7 22 ?_
            refine pA 8 23 ?_
            refine pA 9 24 ?_
            refine pA 10 25 ?_
            refine pT 11 26 rfl zao ?_
            refine pT 12 27 rfl zao ?_
            refine one_ (i:=13) (N:=some 28) #[true,true,true,true,true,true,true,true,true,true,true,true,true,true,false,false,false] rfl rfl (one_of HT_.out zbk) zbq (fun K hK=>?_)
            refine goes_ Try.func103 zbk rfl #[.agg #[.string ((rd_T127 l0 (ji9)).f0),.int .i64 ((rd_T127 l0 (ji9)).f1),.int .i64 ((rd_T127 l0 (ji9)).f2)],.agg #[.string ((rd_T127 l0 x10_1).f0),.int .i64 ((rd_T127 l0 x10_1).f1),.int .i64 ((rd_T127 l0 x10_1).f2)]] (by rfl) rfl rfl (by (try simp only [List.map_toArray,List.map_cons,List.map_nil]);first|done|(simp only [hji9];rfl)|rfl|(simp only [List.length_drop,List.length_take];rfl)) ?_
            with_reducible refine (impl_compareTurns.calls k1 ((rd_T127 l0 (ji9)).f0) ((rd_T127 l0 (ji9)).f1) ((rd_T127 l0 (ji9)).f2) ((rd_T127 l0 x10_1).f0) ((rd_T127 l0 x10_1).f1) ((rd_T127 l0 x10_1).f2) t105 _ A12.out).mono ?_
            rintro e w25 ⟨rfl,hb⟩
            refine ⟨_,rfl,?_⟩
            replace BK102:=Aside0.mk (blk_below (g:=gb102) (o:=.cells #[.string ((rd_T127 l0 x10_1).f0),.int .i64 ((rd_T127 l0 x10_1).f1),.int .i64 ((rd_T127 l0 x10_1).f2)] 127 (0,0)) zz hb)
            replace HB:=Aside0.mk (below_step zp hb)
            (try clear hb)
            (try clear hb2)
            (try clear hk)
            (try clear hi)
            refine hK.out _ _ ⟨(blk_cell BK102.out 0).trans rfl,(blk_cell BK102.out 1).trans rfl,(blk_cell BK102.out 2).trans rfl,((HB.out.cell (World.block_lt_of_cell? w _ hw104_0)).trans hw104_0),((HB.out.cell (World.block_lt_of_cell? w _ hw104_1)).trans hw104_1),((HB.out.cell (World.block_lt_of_cell? w _ hw104_2)).trans hw104_2)⟩ (fun hHeld=>?_)
            clear hK K
            refine pN 28 ?_
            refine pA 14 29 ?_
            refine pA 15 30 ?_
            refine pA 16 31 ?_
            refine done_ (done_of HT_.out zbk) ?_
            try go_wp2
            go_roundg k1
            case measure=>have:=HK1.out;omega
            case rel=>exact ⟨(wrap64 (x10_1+1)),zm,H',⟨zdn⟩,⟨zp⟩⟩
          ·rw [if_neg c11] at H
           exact absurd H zdd
         ·rw [if_neg c10] at H
          exact absurd H zdd
        ·rw [if_neg c8] at H
         have c8b0:decide (0<x10_1)=false:=decide_eq_false c8
         clear c8
         have H':=Aside0.mk H
         clear H
         have p101:0≤(x10_1:Int):=of_decide_eq_true zb
         have q101:x10_1<(l0.length:Int):=of_decide_eq_true zb
         obtain ⟨ad101,e101,hx101_0,hx101_1,hx101_2⟩:=at_T127 HR0.out x10_1 p101 q101
         cases e101
         replace hx101_0:=(HB.out.cell (World.block_lt_of_cell? w _ hx101_0)).trans hx101_0
         replace hx101_1:=(HB.out.cell (World.block_lt_of_cell? w _ hx101_1)).trans hx101_1
         replace hx101_2:=(HB.out.cell (World.block_lt_of_cell? w _ hx101_2)).trans hx101_2
         replace p101:=eq_true p101
         replace q101:=eq_true q101
         try go_wp2_with (first|((with_reducible refine gate_dst (N:=4) rfl ?_);refine box_event ?hg (N:=4) ?hd (cs:=#[.string (⟨#[]⟩:ByteArray),.int .i64 0,.int .i64 0]) (t:=127) ?hr ?_;(case hd=>rfl);(case hg=>rfl);(case hr=>exact zt);intro gb102 hg w26 hbox hb;have n0_:=Aside0.mk (below_step za hb);have n1_:=Aside0.mk (hbox);have n2_:=Aside0.mk ((by rw [hg];exact (below_size za):w.heap.size≤gb102));have n3_:=Aside0.mk ((by rw [hg];exact (below_size za):w.heap.size≤gb102));clear HB;have HB:=n0_;have BK102:=n1_;have GW102:=n2_;have GE102:=n3_;clear n0_ n1_ n2_ n3_;clear hb hbox hg;have hcz27_0:w26.cell? ⟨gb102,0,none⟩=some (.string (⟨#[]⟩:ByteArray)):=(blk_cell BK102.out 0).trans rfl;have hcz27_1:w26.cell? ⟨gb102,1,none⟩=some (.int .i64 0):=(blk_cell BK102.out 1).trans rfl;have hcz27_2:w26.cell? ⟨gb102,2,none⟩=some (.int .i64 0):=(blk_cell BK102.out 2).trans rfl;have hfz27_0:=blk_frozen BK102.out 0;have hfz27_1:=blk_frozen BK102.out 1;have hfz27_2:=blk_frozen BK102.out 2))
         have n0_:Aside0 ((((w26.setCell ⟨gb102,0,none⟩ (.string ((rd_T127 l0 x10_1).f0))).setCell ⟨gb102,1,none⟩ (.int .i64 ((rd_T127 l0 x10_1).f1))).setCell ⟨gb102,2,none⟩ (.int .i64 ((rd_T127 l0 x10_1).f2))).heap[gb102]?=some (.cells #[.string ((rd_T127 l0 x10_1).f0),.int .i64 ((rd_T127 l0 x10_1).f1),.int .i64 ((rd_T127 l0 x10_1).f2)] 127 (0,0))):=⟨zaq⟩
         have n1_:Aside0 (Below w.heap.size w (((w26.setCell ⟨gb102,0,none⟩ (.string ((rd_T127 l0 x10_1).f0))).setCell ⟨gb102,1,none⟩ (.int .i64 ((rd_T127 l0 x10_1).f1))).setCell ⟨gb102,2,none⟩ (.int .i64 ((rd_T127 l0 x10_1).f2)))):=⟨zp⟩
         (try clear BK102)
         (try clear HB)
         generalize (((w26.setCell ⟨gb102,0,none⟩ (.string ((rd_T127 l0 x10_1).f0))).setCell ⟨gb102,1,none⟩ (.int .i64 ((rd_T127 l0 x10_1).f1))).setCell ⟨gb102,2,none⟩ (.int .i64 ((rd_T127 l0 x10_1).f2)))=w28 at n0_ n1_ ⊢
         have BK102:=n0_
         have HB:=n1_
         clear n0_ n1_
         replace BK102:=Aside0.mk (blk_drew BK102.out)
         replace HB:=Aside0.mk (below_drew1 HB.out)
         refine start_ (n:=17) (S:=fun w'=>w'.cell? ⟨gb102,0,none⟩=some (.string ((rd_T127 l0 x10_1).f0))∧w'.cell? ⟨gb102,1,none⟩=some (.int .i64 ((rd_T127 l0 x10_1).f1))∧w'.cell? ⟨gb102,2,none⟩=some (.int .i64 ((rd_T127 l0 x10_1).f2))) (ds:=[]) #[false,false,false,false,false,false,false,false,false,false,false,false,false,false,false,false,false] zbk rfl rfl ⟨(blk_cell BK102.out 0).trans rfl,(blk_cell BK102.out 1).trans rfl,(blk_cell BK102.out 2).trans rfl⟩ (fun hHeld=>?_);refine with_tabW impl_ValidTurns.tab6 impl_ValidTurns.bits6 (fun HT_ HW_=>?_)
         generalize w28.drew=w29 at BK102 HB hHeld ⊢
         refine pT 0 15 rfl (by rintro w' ⟨s0,s1,s2⟩;go_simp;with_reducible rfl) ?_
         refine one_ (i:=1) (N:=some 16) #[true,true,false,false,false,false,false,false,false,false,false,false,false,false,false,false,false] rfl rfl (one_of HT_.out zbk) zbq (fun K hK=>?_)
         refine goes_ Try.func101 zbk rfl #[.agg #[.string ((rd_T127 l0 x10_1).f0),.int .i64 ((rd_T127 l0 x10_1).f1),.int .i64 ((rd_T127 l0 x10_1).f2)]] (by rfl) rfl rfl zc ?_
         with_reducible refine (impl_Turn_valid.calls k1 ((rd_T127 l0 x10_1).f0) ((rd_T127 l0 x10_1).f1) ((rd_T127 l0 x10_1).f2) true _ A6.out).mono ?_
         rintro e w30 ⟨rfl,hb⟩
         refine ⟨_,rfl,?_⟩
         replace BK102:=Aside0.mk (blk_below (g:=gb102) (o:=.cells #[.string ((rd_T127 l0 x10_1).f0),.int .i64 ((rd_T127 l0 x10_1).f1),.int .i64 ((rd_T127 l0 x10_1).f2)] 127 (0,0)) zz hb)
         replace HB:=Aside0.mk (below_step zp hb)
         (try clear hb)
         (try clear hb2)
         (try clear hk)
         (try clear hi)
         refine hK.out _ _ ⟨(blk_cell BK102.out 0).trans rfl,(blk_cell BK102.out 1).trans rfl,(blk_cell BK102.out 2).trans rfl⟩ (fun hHeld=>?_)
         clear hK K
         refine pN 16 ?_
         refine pA 2 17 ?_
         refine pA 3 18 ?_
         refine pA 4 19 ?_
         refine pA 5 20 ?_
         refine pA 6 21 ?_
         refine pU 7 22 ?_
         refine pU 8 23 ?_
         refine pU 9 24 ?_
         refine pU 10 25 ?_
         refine pU 11 26 ?_
         refine pU 12 27 ?_
         refine pU 13 28 ?_
         refine pU 14 29 ?_
         refine pA 15 30 ?_
         refine pA 16 31 ?_
         refine done_ (done_of HT_.out zbk) ?_
         try go_wp2
         go_roundg k1
         case measure=>have:=HK1.out;omega
         case rel=>exact ⟨(wrap64 (x10_1+1)),zm,H',⟨zdn⟩,⟨zp⟩⟩
       ·replace c7:=Bool.eq_false_iff.mpr c7
        subst c7
        have H1:(some false)=some r:=by rw [if_neg (show ¬ (false=true) by decide)] at H;exact H
        clear H
        have H:=H1
        clear H1
        obtain rfl:=Option.some.inj H
        have p101:0≤(x10_1:Int):=of_decide_eq_true zb
        have q101:x10_1<(l0.length:Int):=of_decide_eq_true zb
        obtain ⟨ad101,e101,hx101_0,hx101_1,hx101_2⟩:=at_T127 HR0.out x10_1 p101 q101
        cases e101
        replace hx101_0:=(HB.out.cell (World.block_lt_of_cell? w _ hx101_0)).trans hx101_0
        replace hx101_1:=(HB.out.cell (World.block_lt_of_cell? w _ hx101_1)).trans hx101_1
        replace hx101_2:=(HB.out.cell (World.block_lt_of_cell? w _ hx101_2)).trans hx101_2
        replace p101:=eq_true p101
        replace q101:=eq_true q101
        try go_wp2_with (first|((with_reducible refine gate_dst (N:=4) rfl ?_);refine box_event ?hg (N:=4) ?hd (cs:=#[.string (⟨#[]⟩:ByteArray),.int .i64 0,.int .i64 0]) (t:=127) ?hr ?_;(case hd=>rfl);(case hg=>rfl);(case hr=>exact zt);intro gb102 hg w31 hbox hb;have n0_:=Aside0.mk (below_step za hb);have n1_:=Aside0.mk (hbox);have n2_:=Aside0.mk ((by rw [hg];exact (below_size za):w.heap.size≤gb102));have n3_:=Aside0.mk ((by rw [hg];exact (below_size za):w.heap.size≤gb102));clear HB;have HB:=n0_;have BK102:=n1_;have GW102:=n2_;have GE102:=n3_;clear n0_ n1_ n2_ n3_;clear hb hbox hg;have hcz32_0:w31.cell? ⟨gb102,0,none⟩=some (.string (⟨#[]⟩:ByteArray)):=(blk_cell BK102.out 0).trans rfl;have hcz32_1:w31.cell? ⟨gb102,1,none⟩=some (.int .i64 0):=(blk_cell BK102.out 1).trans rfl;have hcz32_2:w31.cell? ⟨gb102,2,none⟩=some (.int .i64 0):=(blk_cell BK102.out 2).trans rfl;have hfz32_0:=blk_frozen BK102.out 0;have hfz32_1:=blk_frozen BK102.out 1;have hfz32_2:=blk_frozen BK102.out 2))
        have n0_:Aside0 ((((w31.setCell ⟨gb102,0,none⟩ (.string ((rd_T127 l0 x10_1).f0))).setCell ⟨gb102,1,none⟩ (.int .i64 ((rd_T127 l0 x10_1).f1))).setCell ⟨gb102,2,none⟩ (.int .i64 ((rd_T127 l0 x10_1).f2))).heap[gb102]?=some (.cells #[.string ((rd_T127 l0 x10_1).f0),.int .i64 ((rd_T127 l0 x10_1).f1),.int .i64 ((rd_T127 l0 x10_1).f2)] 127 (0,0))):=⟨zaq⟩
        have n1_:Aside0 (Below w.heap.size w (((w31.setCell ⟨gb102,0,none⟩ (.string ((rd_T127 l0 x10_1).f0))).setCell ⟨gb102,1,none⟩ (.int .i64 ((rd_T127 l0 x10_1).f1))).setCell ⟨gb102,2,none⟩ (.int .i64 ((rd_T127 l0 x10_1).f2)))):=⟨zp⟩
        (try clear BK102)
        (try clear HB)
        generalize (((w31.setCell ⟨gb102,0,none⟩ (.string ((rd_T127 l0 x10_1).f0))).setCell ⟨gb102,1,none⟩ (.int .i64 ((rd_T127 l0 x10_1).f1))).setCell ⟨gb102,2,none⟩ (.int .i64 ((rd_T127 l0 x10_1).f2)))=w33 at n0_ n1_ ⊢
        have BK102:=n0_
        have HB:=n1_
        clear n0_ n1_
        replace BK102:=Aside0.mk (blk_drew BK102.out)
        replace HB:=Aside0.mk (below_drew1 HB.out)
        refine start_ (n:=17) (S:=fun w'=>w'.cell? ⟨gb102,0,none⟩=some (.string ((rd_T127 l0 x10_1).f0))∧w'.cell? ⟨gb102,1,none⟩=some (.int .i64 ((rd_T127 l0 x10_1).f1))∧w'.cell? ⟨gb102,2,none⟩=some (.int .i64 ((rd_T127 l0 x10_1).f2))) (ds:=[]) #[false,false,false,false,false,false,false,false,false,false,false,false,false,false,false,false,false] zbk rfl rfl ⟨(blk_cell BK102.out 0).trans rfl,(blk_cell BK102.out 1).trans rfl,(blk_cell BK102.out 2).trans rfl⟩ (fun hHeld=>?_);refine with_tabW impl_ValidTurns.tab6 impl_ValidTurns.bits6 (fun HT_ HW_=>?_)
        generalize w33.drew=w34 at BK102 HB hHeld ⊢
        refine pT 0 15 rfl (by rintro w' ⟨s0,s1,s2⟩;go_simp;with_reducible rfl) ?_
        refine one_ (i:=1) (N:=some 16) #[true,true,false,false,false,false,false,false,false,false,false,false,false,false,false,false,false] rfl rfl (one_of HT_.out zbk) zbq (fun K hK=>?_)
        refine goes_ Try.func101 zbk rfl #[.agg #[.string ((rd_T127 l0 x10_1).f0),.int .i64 ((rd_T127 l0 x10_1).f1),.int .i64 ((rd_T127 l0 x10_1).f2)]] (by rfl) rfl rfl zc ?_
        with_reducible refine (impl_Turn_valid.calls k1 ((rd_T127 l0 x10_1).f0) ((rd_T127 l0 x10_1).f1) ((rd_T127 l0 x10_1).f2) false _ A6.out).mono ?_
        rintro e w35 ⟨rfl,hb⟩
        refine ⟨_,rfl,?_⟩
        replace BK102:=Aside0.mk (blk_below (g:=gb102) (o:=.cells #[.string ((rd_T127 l0 x10_1).f0),.int .i64 ((rd_T127 l0 x10_1).f1),.int .i64 ((rd_T127 l0 x10_1).f2)] 127 (0,0)) zz hb)
        replace HB:=Aside0.mk (below_step zp hb)
        (try clear hb)
        (try clear hb2)
        (try clear hk)
        (try clear hi)
        refine hK.out _ _ ⟨(blk_cell BK102.out 0).trans rfl,(blk_cell BK102.out 1).trans rfl,(blk_cell BK102.out 2).trans rfl⟩ (fun hHeld=>?_)
        clear hK K
        refine pN 16 ?_
        refine pA 2 17 ?_
        refine pA 3 18 ?_
        refine pU 4 19 ?_
        refine pU 5 20 ?_
        refine pU 6 21 ?_
        refine pU 7 22 ?_
        refine pU 8 23 ?_
        refine pU 9 24 ?_
        refine pU 10 25 ?_
        refine pU 11 26 ?_
        refine pU 12 27 ?_
        refine pU 13 28 ?_
        refine pU 14 29 ?_
        refine pU 15 30 ?_
        refine pA 16 31 ?_
        refine done_ (done_of HT_.out zbk) ?_
        try go_wp2
        go_ret
        exact ⟨zk,zp⟩
      ·rw [if_neg c5] at H
       exact absurd H zdd
     ·rw [if_neg c4] at H
      exact absurd H zdd
    ·rw [if_neg c3] at H
     have c3b0:decide (x10_1<(l0.length:Int))=false:=decide_eq_false c3
     clear c3
     obtain rfl:=Option.some.inj H
     go_wp2
     go_ret
     exact ⟨zk,za⟩

def impl_answersOk_1.f (k:Nat) (a0_0:ByteArray) (a0_1:ByteArray) (a0_2:Int):Option (Bool):=(impl_IsName.f k a0_0).bind fun t102=>(if t102=true then ((impl_IsName.f k a0_1).bind fun t103=>(if t103=true then ((impl_within.f a0_2 0 10000).bind fun t104=>(some (!t104))) else (some true))) else (some true))
set_option maxHeartbeats 8000000 in
set_option maxRecDepth 100000 in
theorem impl_answersOk_1.calls (k:Nat) (a0_0:ByteArray) (a0_1:ByteArray) (a0_2:Int) (r:Bool) (w:World) (h:impl_answersOk_1.f k a0_0 a0_1 a0_2=some r) :
 Calls Try.prog 133 #[.agg #[.string a0_0,.string a0_1,.int .i64 a0_2]] w fun e w'=>e = .returned (.bool r)∧Below w.heap.size w w':=by
 have hu125:=Try.underlying125
 have HB:=Aside0.mk (Below.refl w.heap.size w)
 have H:((impl_IsName.f k a0_0).bind fun t102=>(if t102=true then ((impl_IsName.f k a0_1).bind fun t103=>(if t103=true then ((impl_within.f a0_2 0 10000).bind fun t104=>(some (!t104))) else (some true))) else (some true)))=some r:=h
 clear h
 replace H:=Option.bind_eq_some_iff.mp H
 obtain ⟨t102,A20,H⟩:=H
 replace H:(if t102=true then ((impl_IsName.f k a0_1).bind fun t103=>(if t103=true then ((impl_within.f a0_2 0 10000).bind fun t104=>(some (!t104))) else (some true))) else (some true))=some r:=H
 have A2:=Aside0.mk A20
 clear A20
 by_cases c3:t102=true
 ·subst c3
  have H1:((impl_IsName.f k a0_1).bind fun t103=>(if t103=true then ((impl_within.f a0_2 0 10000).bind fun t104=>(some (!t104))) else (some true)))=some r:=by rw [if_pos rfl] at H;exact H
  clear H
  have H:=H1
  clear H1
  replace H:=Option.bind_eq_some_iff.mp H
  obtain ⟨t103,A40,H⟩:=H
  replace H:(if t103=true then ((impl_within.f a0_2 0 10000).bind fun t104=>(some (!t104))) else (some true))=some r:=H
  have A4:=Aside0.mk A40
  clear A40
  by_cases c5:t103=true
  ·subst c5
   have H1:((impl_within.f a0_2 0 10000).bind fun t104=>(some (!t104)))=some r:=by rw [if_pos rfl] at H;exact H
   clear H
   have H:=H1
   clear H1
   replace H:=Option.bind_eq_some_iff.mp H
   obtain ⟨t104,A60,H⟩:=H
   replace H:(some (!t104))=some r:=H
   have A6:=Aside0.mk A60
   clear A60
   obtain rfl:=Option.some.inj H
   go_enter Try.func133,Try.ntmps133
   go_wp2_with (first|((with_reducible refine gate_dst (N:=1) rfl ?_);refine box_event ?hg (N:=1) ?hd (cs:=#[.string a0_0,.string a0_1,.int .i64 a0_2]) (t:=125) ?hr ?_;(case hd=>rfl);(case hg=>rfl);(case hr=>exact zt);intro gb101 hg w7 hbox hb;have n0_:=Aside0.mk (below_step za hb);have n1_:=Aside0.mk (hbox);have n2_:=Aside0.mk ((by rw [hg];exact (below_size za):w.heap.size≤gb101));have n3_:=Aside0.mk ((by rw [hg];exact (below_size za):w.heap.size≤gb101));clear HB;have HB:=n0_;have BK101:=n1_;have GW101:=n2_;have GE101:=n3_;clear n0_ n1_ n2_ n3_;clear hb hbox hg;have hcz8_0:w7.cell? ⟨gb101,0,none⟩=some (.string a0_0):=(blk_cell BK101.out 0).trans rfl;have hcz8_1:w7.cell? ⟨gb101,1,none⟩=some (.string a0_1):=(blk_cell BK101.out 1).trans rfl;have hcz8_2:w7.cell? ⟨gb101,2,none⟩=some (.int .i64 a0_2):=(blk_cell BK101.out 2).trans rfl;have hfz8_0:=blk_frozen BK101.out 0;have hfz8_1:=blk_frozen BK101.out 1;have hfz8_2:=blk_frozen BK101.out 2)|((with_reducible refine gate_callee (f:=108) rfl ?_);refine goesL_ (some 5) rfl rfl Try.func108 zbk rfl #[.string a0_0] rfl zc ?_;(with_reducible refine (impl_IsName.calls k a0_0 true _ A2.out).mono ?_);rintro e w' ⟨rfl,⟨nd,rfl⟩⟩;refine ⟨_,rfl,?_⟩)|(go_at_call 108;(with_reducible refine (impl_IsName.calls k a0_1 true _ A4.out).mono ?_);rintro e w' ⟨rfl,⟨nd,rfl⟩⟩)|(go_at_call 96;(with_reducible refine (impl_within.calls a0_2 0 10000 t104 _ A6.out).mono ?_);rintro e w' ⟨rfl,⟨nd,rfl⟩⟩))
   go_ret
   exact ⟨zk,zd⟩
  ·replace c5:=Bool.eq_false_iff.mpr c5
   subst c5
   have H1:(some true)=some r:=by rw [if_neg (show ¬ (false=true) by decide)] at H;exact H
   clear H
   have H:=H1
   clear H1
   obtain rfl:=Option.some.inj H
   go_enter Try.func133,Try.ntmps133
   go_wp2_with (first|((with_reducible refine gate_dst (N:=1) rfl ?_);refine box_event ?hg (N:=1) ?hd (cs:=#[.string a0_0,.string a0_1,.int .i64 a0_2]) (t:=125) ?hr ?_;(case hd=>rfl);(case hg=>rfl);(case hr=>exact zt);intro gb101 hg w9 hbox hb;have n0_:=Aside0.mk (below_step za hb);have n1_:=Aside0.mk (hbox);have n2_:=Aside0.mk ((by rw [hg];exact (below_size za):w.heap.size≤gb101));have n3_:=Aside0.mk ((by rw [hg];exact (below_size za):w.heap.size≤gb101));clear HB;have HB:=n0_;have BK101:=n1_;have GW101:=n2_;have GE101:=n3_;clear n0_ n1_ n2_ n3_;clear hb hbox hg;have hcz10_0:w9.cell? ⟨gb101,0,none⟩=some (.string a0_0):=(blk_cell BK101.out 0).trans rfl;have hcz10_1:w9.cell? ⟨gb101,1,none⟩=some (.string a0_1):=(blk_cell BK101.out 1).trans rfl;have hcz10_2:w9.cell? ⟨gb101,2,none⟩=some (.int .i64 a0_2):=(blk_cell BK101.out 2).trans rfl;have hfz10_0:=blk_frozen BK101.out 0;have hfz10_1:=blk_frozen BK101.out 1;have hfz10_2:=blk_frozen BK101.out 2)|((with_reducible refine gate_callee (f:=108) rfl ?_);refine goesL_ (some 5) rfl rfl Try.func108 zbk rfl #[.string a0_0] rfl zc ?_;(with_reducible refine (impl_IsName.calls k a0_0 true _ A2.out).mono ?_);rintro e w' ⟨rfl,⟨nd,rfl⟩⟩;refine ⟨_,rfl,?_⟩)|(go_at_call 108;(with_reducible refine (impl_IsName.calls k a0_1 false _ A4.out).mono ?_);rintro e w' ⟨rfl,⟨nd,rfl⟩⟩))
   go_ret
   exact ⟨zk,zd⟩
 ·replace c3:=Bool.eq_false_iff.mpr c3
  subst c3
  have H1:(some true)=some r:=by rw [if_neg (show ¬ (false=true) by decide)] at H;exact H
  clear H
  have H:=H1
  clear H1
  obtain rfl:=Option.some.inj H
  go_enter Try.func133,Try.ntmps133
  go_wp2_with (first|((with_reducible refine gate_dst (N:=1) rfl ?_);refine box_event ?hg (N:=1) ?hd (cs:=#[.string a0_0,.string a0_1,.int .i64 a0_2]) (t:=125) ?hr ?_;(case hd=>rfl);(case hg=>rfl);(case hr=>exact zt);intro gb101 hg w11 hbox hb;have n0_:=Aside0.mk (below_step za hb);have n1_:=Aside0.mk (hbox);have n2_:=Aside0.mk ((by rw [hg];exact (below_size za):w.heap.size≤gb101));have n3_:=Aside0.mk ((by rw [hg];exact (below_size za):w.heap.size≤gb101));clear HB;have HB:=n0_;have BK101:=n1_;have GW101:=n2_;have GE101:=n3_;clear n0_ n1_ n2_ n3_;clear hb hbox hg;have hcz12_0:w11.cell? ⟨gb101,0,none⟩=some (.string a0_0):=(blk_cell BK101.out 0).trans rfl;have hcz12_1:w11.cell? ⟨gb101,1,none⟩=some (.string a0_1):=(blk_cell BK101.out 1).trans rfl;have hcz12_2:w11.cell? ⟨gb101,2,none⟩=some (.int .i64 a0_2):=(blk_cell BK101.out 2).trans rfl;have hfz12_0:=blk_frozen BK101.out 0;have hfz12_1:=blk_frozen BK101.out 1;have hfz12_2:=blk_frozen BK101.out 2)|((with_reducible refine gate_callee (f:=108) rfl ?_);refine goesL_ (some 5) rfl rfl Try.func108 zbk rfl #[.string a0_0] rfl zc ?_;(with_reducible refine (impl_IsName.calls k a0_0 false _ A2.out).mono ?_);rintro e w' ⟨rfl,⟨nd,rfl⟩⟩;refine ⟨_,rfl,?_⟩))
  go_ret
  exact ⟨zk,zd⟩
end Go.Proofs.Ytocegmkifmdlcaa.P

namespace Go.Proofs.Ytocegmkifmdlcaa.P
open Go.RowKit Go.Proofs.YtocegmkifmdlcaaW.PrintWords
set_option linter.unusedVariables false
set_option linter.unusedSimpArgs false
def anyO {α : Type} (p : α → Option Bool) : List α → Option Bool
  | [] => some false
  | x :: r => (p x).bind fun b => if b = true then some true else anyO p r
theorem anyO_drop {α : Type} {p : α → Option Bool} {l : List α} {k : Nat} {r : Bool} (hk : k < l.length) (h : anyO p (l.drop k) = some r) :
    ∃ b, p l[k] = some b ∧ ((b = true ∧ r = true) ∨ (b = false ∧ anyO p (l.drop (k + 1)) = some r)) := by
  rw [List.drop_eq_getElem_cons hk] at h
  obtain ⟨b, hb, h2⟩ := Option.bind_eq_some_iff.1 h
  refine ⟨b, hb, ?_⟩
  cases b with
  | true => rw [if_pos rfl] at h2; exact .inl ⟨rfl, (Option.some.inj h2).symm⟩
  | false => rw [if_neg (by decide)] at h2; exact .inr ⟨rfl, h2⟩
theorem anyO_some {α : Type} {p : α → Option Bool} {q : α → Bool} : ∀ {l : List α}, (∀ x ∈ l, p x = some (q x)) → anyO p l = some (l.any q)
  | [], _ => rfl
  | x :: r, h => by
    have ih := anyO_some (l := r) (fun y hy => h y (List.mem_cons_of_mem _ hy))
    rw [anyO, h x List.mem_cons_self, Option.bind_some, ih, List.any_cons]
    cases q x <;> simp
end Go.Proofs.Ytocegmkifmdlcaa.P

namespace Go.Proofs.Ytocegmkifmdlcaa.P
open Go.RowKit Go.Proofs.YtocegmkifmdlcaaW.PrintWords Go.Proofs.YtocegmkifmdlcaaW.PrintLast Go.Proofs.YtocegmkifmdlcaaW.PrintMore
attribute [local go_sem] max2_int min2_int max_two min_two max_three min_three max_four min_four str_leq str_gtr str_geq
set_option linter.unusedVariables false
set_option linter.unusedSimpArgs false
set_option maxHeartbeats 1600000
set_option maxRecDepth 100000
def impl_answersOk.f (k:Nat) (l0:List S125):Option Bool:=if (l0.length:Int)≤8 then ((anyO (fun x=>impl_answersOk_1.f k x.f0 x.f1 x.f2) l0).bind fun b=>some (!b)) else some false
theorem impl_answersOk.idx (p:S125→Option Bool) (A0:Option Addr) (c0:Nat) (l0:List S125) (r:Bool) (w:World) (hr0:Kd.C k125 w A0 l0.length l0)
 (hclo:∀(x:S125) (b:Bool),p x=some b→∀(W:World),Below w.heap.size w W→Calls Try.prog 133 #[.agg #[.string (x.f0),.string (x.f1),.int .i64 (x.f2)]] W fun e W'=>e = .returned (.bool b)∧Below W.heap.size W W') (h:anyO p l0=some r) :
 Calls Try.prog 152 #[.slice A0 l0.length c0,.func (.func 133) #[] #[]] w fun e w'=>∃n:Int,e = .returned (.int .i64 n)∧(r=decide (0≤n))∧Below w.heap.size w w':=by
 have hlen:l0.length≤9223372036854775807:=hr0.2.1
 have hu:=Try.underlying125
 have HR:=Aside0.mk hr0
 have HCL:=Aside0.mk hclo
 have HH:=Aside0.mk h
 clear hr0 hclo h
 go_enter Try.func152,Try.ntmps152
 go_wp2_with fail
 go_loopw [8] (fun i wr=>∃k:Nat,k≤l0.length∧i = .int .i64 k∧Aside0 (anyO p (l0.drop k)=some r)∧Aside0 (Below w.heap.size w wr)) (fun i _=>l0.length - (intOf i).toNat)
 case atStart=>exact ⟨0,Nat.zero_le _,rfl,⟨by rw [List.drop_zero];exact HH.out⟩,⟨Below.refl _ _⟩⟩
 case round=>
  obtain ⟨k,hk,rfl,HN,HB⟩:=hrel
  clear HH
  by_cases hlt:k<l0.length
  ·obtain ⟨ad,e0,hx0,hx1,hx2⟩:=at_T125 HR.out (k:Int) zbt zbt
   subst e0
   replace hx0:=(HB.out.cell (World.block_lt_of_cell? w _ hx0)).trans hx0
   (try simp only [Int.toNat_natCast] at hx0)
   replace hx1:=(HB.out.cell (World.block_lt_of_cell? w _ hx1)).trans hx1
   (try simp only [Int.toNat_natCast] at hx1)
   replace hx2:=(HB.out.cell (World.block_lt_of_cell? w _ hx2)).trans hx2
   (try simp only [Int.toNat_natCast] at hx2)
   have er:(rd_T125 l0 (k:Int))=l0[k]:=by simp [rd_T125,List.getD_eq_getElem?_getD,List.getElem?_eq_getElem hlt]
   obtain ⟨b,hb,hbr⟩:=anyO_drop hlt HN.out
   rw [←er] at hb
   have HG:=Aside0.mk (HCL.out (rd_T125 l0 (k:Int)) b hb wr HB.out)
   have HBR:=Aside0.mk hbr
   clear hb hbr er HN
   cases b with
   | true=>
    go_wp2_with (go_at_call 133;refine HG.out.mono ?_;rintro e w1 ⟨rfl,hb1⟩;have HB1:=Aside0.mk (below_step HB.out hb1);clear hb1)
    go_ret
    refine ⟨k,rfl,?_,HB1.out⟩
    rw [decide_eq_true zbt]
    rcases HBR.out with h|h
    ·exact h.2
    ·exact absurd h.1 zbq
   | false=>
    go_wp2_with (go_at_call 133;refine HG.out.mono ?_;rintro e w1 ⟨rfl,hb1⟩;have HB1:=Aside0.mk (below_step HB.out hb1);clear hb1)
    go_roundw
    case rel=>
     refine ⟨k+1,zbt,by go_num,⟨?_⟩,HB1⟩
     rcases HBR.out with h|h
     ·exact absurd h.1 zbq
     ·exact h.2
    case measure=>simp [intOf];omega
  ·have hkl:k=l0.length:=by omega
   have hd1:decide ((k:Int)<(l0.length:Int))=false:=decide_eq_false zbt
   have hd2:decide (k<l0.length)=false:=decide_eq_false zbt
   have HN':=HN
   have HK:=Aside0.mk hkl
   clear hkl HN
   go_wp2_with fail
   go_ret
   refine ⟨-1,rfl,?_,HB.out⟩
   rw [decide_eq_false zbt]
   have h:=HN'.out
   rw [HK.out,List.drop_length] at h
   exact (Option.some.inj h).symm
theorem impl_answersOk.has (p:S125→Option Bool) (A0:Option Addr) (c0:Nat) (l0:List S125) (r:Bool) (w:World) (hr0:Kd.C k125 w A0 l0.length l0)
 (hclo:∀(x:S125) (b:Bool),p x=some b→∀(W:World),Below w.heap.size w W→Calls Try.prog 133 #[.agg #[.string (x.f0),.string (x.f1),.int .i64 (x.f2)]] W fun e W'=>e = .returned (.bool b)∧Below W.heap.size W W') (h:anyO p l0=some r) :
 Calls Try.prog 132 #[.slice A0 l0.length c0,.func (.func 133) #[] #[]] w fun e w'=>e = .returned (.bool r)∧Below w.heap.size w w':=by
 have HC:=Aside0.mk (impl_answersOk.idx p A0 c0 l0 r w hr0 hclo h)
 clear hr0 hclo h
 go_enter Try.func132,Try.ntmps132
 go_wp2_with (go_at_call 152;refine HC.out.mono ?_;rintro e w1 ⟨n,rfl,hn,hb⟩;have HB:=Aside0.mk hb;have HN:=Aside0.mk hn;clear hb hn)
 go_ret
 exact ⟨by rw [HN.out];rfl,HB.out⟩
theorem impl_answersOk.calls (k:Nat) (A0:Option Addr) (c0:Nat) (l0:List S125) (r:Bool) (w:World) (hr0:Kd.C k125 w A0 l0.length l0) (hc0:l0.length≤c0) (h:impl_answersOk.f k l0=some r) :
 Calls Try.prog 95 #[.slice A0 l0.length c0] w fun e w'=>e = .returned (.bool r)∧Below w.heap.size w w':=by
 unfold impl_answersOk.f at h
 by_cases h12:(l0.length:Int)≤8
 ·rw [if_pos h12] at h
  obtain ⟨b,hb,h2⟩:=Option.bind_eq_some_iff.1 h
  obtain rfl:=Option.some.inj h2
  have HC:=Aside0.mk (impl_answersOk.has (fun x=>impl_answersOk_1.f k x.f0 x.f1 x.f2) A0 c0 l0 b w hr0 (fun x b hp W hW=>(impl_answersOk_1.calls k x.f0 x.f1 x.f2 b W hp)) hb)
  have hd:decide ((l0.length:Int)≤8)=true:=decide_eq_true h12
  have hd2:decide (l0.length≤8)=true:=decide_eq_true zbt
  clear hr0 hc0 h h2 hb h12
  go_enter Try.func95,Try.ntmps95
  go_wp2_with (go_at_call 132;refine HC.out.mono ?_;rintro e w1 ⟨rfl,hb⟩;have HB:=Aside0.mk hb;clear hb)
  go_ret
  exact ⟨rfl,HB.out⟩
 ·rw [if_neg h12] at h
  obtain rfl:=Option.some.inj h
  have hd:decide ((l0.length:Int)≤8)=false:=decide_eq_false h12
  have hd2:decide (l0.length≤8)=false:=decide_eq_false zbt
  clear hr0 hc0 h h12
  go_enter Try.func95,Try.ntmps95
  go_wp2_with fail
  go_ret
  exact ⟨rfl,Below.refl _ _⟩

def slices_Clone_S_impl_Turn.f (l0:List S127):Option (List S127):=if l0.length<1000000000000 then some l0 else none
theorem slices_Clone_S_impl_Turn.calls (A0:Option Addr) (c0:Nat) (l0:List S127) (r:List S127) (w:World) (hr0:Kd.C k127 w A0 l0.length l0) (hc0:l0.length≤c0) (h:slices_Clone_S_impl_Turn.f l0=some r) :
 Calls Try.prog 97 #[.slice A0 l0.length c0] w fun e w'=>∃v0_:Value,e = .returned (v0_)∧Kd.R k127 127 w' w.heap.size (fun _=>True) v0_ r∧Below w.heap.size w w':=by
 have q22:∀(w:World) (a:Option Addr) (n c n' c':Nat),(binOp .eql 61 (.slice a n c) (.slice none n' c')).run Try.prog w = .ok (.bool a.isNone) w:=fun w a n c n' c'=>Lib.run_eql_slice_nil w _ _ a n c n' c' Try.underlying61
 unfold slices_Clone_S_impl_Turn.f at h
 by_cases hl:l0.length<1000000000000
 rotate_left
 ·rw [if_neg hl] at h;exact absurd h zdd
 rw [if_pos hl] at h
 obtain rfl:=Option.some.inj h
 have HL:=Aside0.mk hl
 clear h hl
 cases A0 with
 | none=>
  have h0:l0.length=0:=by
   rcases Nat.eq_zero_or_pos l0.length with h0|h0
   ·exact h0
   ·obtain ⟨ad,h,_⟩:=hr0.2.2 h0
    cases h
  obtain rfl:=List.eq_nil_of_length_eq_zero h0
  clear hr0 hc0 h0
  go_enter Try.func97,Try.ntmps97
  go_wp2_with fail
  go_ret
  exact ⟨_,rfl,Kd.R_nil _ _ _ _ _,Below.refl _ _⟩
 | some ad=>
  have HR0:=Aside0.mk hr0
  have HRW:=Aside0.mk (show Kd.R k127 127 (w.alloc (.cells #[] 127)) w.heap.size (fun _=>True) (.slice (some ⟨w.heap.size,0,none⟩) 0 0) [] from ⟨fun _ _=>trivial,[],World.ownsRow_made w #[] 0 (Nat.le_refl _) (Nat.zero_le _) rfl,Reps.none _ _⟩)
  have HB:=Aside0.mk (Below.refl w.heap.size w)
  clear hr0 hc0
  go_enter Try.func97,Try.ntmps97
  go_wp2_with (first
   | ((with_reducible refine gate_builtin (b:=.append) (xs:=#[.tmp 5,.tmp 6]) rfl ?_)
      at_builtin
      refine Kd.R_append_rows k127 (w0:=w) w.heap.size rfl (.tmp 5) (.tmp 6) 61 127 (.agg #[(.string ⟨#[]⟩),(.int .i64 0),(.int .i64 0)]) 32 rfl Try.underlying61 info127 rfl zbq zbt (.slice (some ⟨w.heap.size,0,none⟩) 0 0) [] l0 _ _ _ (fun _=>True) (fun _=>False) rfl rfl ?aO ?aR (fun _ _ h=>h) (fun _ h=>h.elim) ?aF ?aB ?aS ?aL ?_
      (case aO=>exact HRW.out)
      (case aR=>exact Kd.C_alloc HR0.out _)
      (case aF=>exact (fun _ _=>trivial))
      (case aB=>exact (below_alloc HB.out _))
      (case aS=>exact (below_alloc HB.out _).size)
      (case aL=>have h_:=HL.out;simp only [List.length_nil];omega)
      intro v102 w8 ho hb hg hat
      have HO:=Aside0.mk ho
      have HB2:=Aside0.mk hb
      clear ho hb hg hat))
  go_ret
  exact ⟨_,rfl,by simpa using HO.out,HB2.out⟩
end Go.Proofs.Ytocegmkifmdlcaa.P

namespace Go.Proofs.Ytocegmkifmdlcaa.P
open Go.RowKit Go.Proofs.YtocegmkifmdlcaaW.PrintWords Go.Proofs.YtocegmkifmdlcaaW.PrintLast Go.Proofs.YtocegmkifmdlcaaW.PrintMore
attribute [local go_sem] max2_int min2_int max_two min_two max_three min_three max_four min_four str_leq str_gtr str_geq
set_option linter.unusedVariables false
set_option linter.unusedSimpArgs false
def impl_Turn_end.f (a0_0:ByteArray) (a0_1:Int) (a0_2:Int):Option (Int):=some (wrap64 (a0_1+a0_2))
set_option maxHeartbeats 8000000 in
set_option maxRecDepth 100000 in
theorem impl_Turn_end.calls (a0_0:ByteArray) (a0_1:Int) (a0_2:Int) (r:Int) (w:World) (h:impl_Turn_end.f a0_0 a0_1 a0_2=some r) :
 Calls Try.prog 99 #[.agg #[.string a0_0,.int .i64 a0_1,.int .i64 a0_2]] w fun e w'=>e = .returned (.int .i64 r)∧Below w.heap.size w w':=by
 have hu127:=Try.underlying127
 have HB:=Aside0.mk (Below.refl w.heap.size w)
 have H:(some (wrap64 (a0_1+a0_2)))=some r:=h
 clear h
 obtain rfl:=Option.some.inj H
 go_enter Try.func99,Try.ntmps99
 go_wp2_with (first|((with_reducible refine gate_dst (N:=1) rfl ?_);refine box_event ?hg (N:=1) ?hd (cs:=#[.string a0_0,.int .i64 a0_1,.int .i64 a0_2]) (t:=127) ?hr ?_;(case hd=>rfl);(case hg=>rfl);(case hr=>exact zt);intro gb101 hg w2 hbox hb;have n0_:=Aside0.mk (below_step za hb);have n1_:=Aside0.mk (hbox);have n2_:=Aside0.mk ((by rw [hg];exact (below_size za):w.heap.size≤gb101));have n3_:=Aside0.mk ((by rw [hg];exact (below_size za):w.heap.size≤gb101));clear HB;have HB:=n0_;have BK101:=n1_;have GW101:=n2_;have GE101:=n3_;clear n0_ n1_ n2_ n3_;clear hb hbox hg;have hcz3_0:w2.cell? ⟨gb101,0,none⟩=some (.string a0_0):=(blk_cell BK101.out 0).trans rfl;have hcz3_1:w2.cell? ⟨gb101,1,none⟩=some (.int .i64 a0_1):=(blk_cell BK101.out 1).trans rfl;have hcz3_2:w2.cell? ⟨gb101,2,none⟩=some (.int .i64 a0_2):=(blk_cell BK101.out 2).trans rfl;have hfz3_0:=blk_frozen BK101.out 0;have hfz3_1:=blk_frozen BK101.out 1;have hfz3_2:=blk_frozen BK101.out 2))
 go_ret
 exact ⟨zk,zd⟩
end Go.Proofs.Ytocegmkifmdlcaa.P

namespace Go.Proofs.Ytocegmkifmdlcaa.P
open Go.RowKit Go.Proofs.YtocegmkifmdlcaaW.PrintWords Go.Proofs.YtocegmkifmdlcaaW.PrintLast Go.Proofs.YtocegmkifmdlcaaW.PrintMore
attribute [local go_sem] max2_int min2_int max_two min_two max_three min_three max_four min_four str_leq str_gtr str_geq
set_option linter.unusedVariables false
set_option linter.unusedSimpArgs false
set_option maxHeartbeats 1600000
set_option maxRecDepth 100000
def impl_begins.p (pl:ByteArray) (st:Int) (x:S127):Bool:=decide (x.f0.toList=pl.toList)&&decide (x.f1=st)
def impl_begins.f (l0:List S127) (a1:ByteArray) (a2:Int):Option Bool:=some (l0.any (impl_begins.p a1 a2))
theorem impl_begins.past {w:World} {b:Nat} {v:Value} (h:w.cell? ⟨b,0,none⟩=some v) (o:Obj):(w.alloc o).cell? ⟨b,0,none⟩=some v:=(World.cell?_alloc_past _ _ _ (World.block_lt_of_cell? w _ h)).trans h
theorem impl_begins.clo (x:S127) (pl:ByteArray) (st:Int) (b1 b2:Nat) (w:World) (h1:w.cell? ⟨b1,0,none⟩=some (.string pl)) (h2:w.cell? ⟨b2,0,none⟩=some (.int .i64 st)) :
 Calls Try.prog 135 #[.agg #[.string (x.f0),.int .i64 (x.f1),.int .i64 (x.f2)],.pointer (some ⟨b1,0,none⟩),.pointer (some ⟨b2,0,none⟩)] w fun e w'=>e = .returned (.bool (impl_begins.p pl st x))∧Below w.heap.size w w':=by
 have h3:=fun o=>impl_begins.past h1 o
 have h4:=fun o=>impl_begins.past h2 o
 unfold impl_begins.p
 by_cases e1:x.f0.toList=pl.toList
 ·have c1:(x.f0.toList == pl.toList)=true:=beq_iff_eq.mpr e1
  have d1:decide (x.f0.toList=pl.toList)=true:=decide_eq_true e1
  by_cases e2:x.f1=st
  ·have c2:(x.f1 == st)=true:=beq_iff_eq.mpr e2
   have d2:decide (x.f1=st)=true:=decide_eq_true e2
   rw [d1,d2]
   clear e1 e2 d1 d2
   go_enter Try.func135,Try.ntmps135
   go_wp2_with fail
   go_ret
   exact ⟨rfl,below_alloc (Below.refl _ _) _⟩
  ·have c2:(x.f1 == st)=false:=beq_eq_false_iff_ne.mpr e2
   have d2:decide (x.f1=st)=false:=decide_eq_false e2
   rw [d1,d2]
   clear e1 e2 d1 d2
   go_enter Try.func135,Try.ntmps135
   go_wp2_with fail
   go_ret
   exact ⟨rfl,below_alloc (Below.refl _ _) _⟩
 ·have c1:(x.f0.toList == pl.toList)=false:=beq_eq_false_iff_ne.mpr e1
  have d1:decide (x.f0.toList=pl.toList)=false:=decide_eq_false e1
  rw [d1,Bool.false_and]
  clear e1 d1
  go_enter Try.func135,Try.ntmps135
  go_wp2_with fail
  go_ret
  exact ⟨rfl,below_alloc (Below.refl _ _) _⟩
theorem impl_begins.below_cell {w W:World} (hb:Below w.heap.size w W) {b:Nat} {v:Value} (h:w.cell? ⟨b,0,none⟩=some v):W.cell? ⟨b,0,none⟩=some v:=(hb.cell (World.block_lt_of_cell? w _ h)).trans h
theorem impl_begins.idx (p:S127→Option Bool) (cap0 cap1:Value) (A0:Option Addr) (c0:Nat) (l0:List S127) (r:Bool) (w:World) (hr0:Kd.C k127 w A0 l0.length l0)
 (hclo:∀(x:S127) (b:Bool),p x=some b→∀(W:World),Below w.heap.size w W→Calls Try.prog 135 #[.agg #[.string (x.f0),.int .i64 (x.f1),.int .i64 (x.f2)],cap0,cap1] W fun e W'=>e = .returned (.bool b)∧Below W.heap.size W W') (h:anyO p l0=some r) :
 Calls Try.prog 153 #[.slice A0 l0.length c0,.func (.func 135) #[] #[cap0,cap1]] w fun e w'=>∃n:Int,e = .returned (.int .i64 n)∧(r=decide (0≤n))∧Below w.heap.size w w':=by
 have hlen:l0.length≤9223372036854775807:=hr0.2.1
 have hu:=Try.underlying127
 have HR:=Aside0.mk hr0
 have HCL:=Aside0.mk hclo
 have HH:=Aside0.mk h
 clear hr0 hclo h
 go_enter Try.func153,Try.ntmps153
 go_wp2_with fail
 go_loopw [8] (fun i wr=>∃k:Nat,k≤l0.length∧i = .int .i64 k∧Aside0 (anyO p (l0.drop k)=some r)∧Aside0 (Below w.heap.size w wr)) (fun i _=>l0.length - (intOf i).toNat)
 case atStart=>exact ⟨0,Nat.zero_le _,rfl,⟨by rw [List.drop_zero];exact HH.out⟩,⟨Below.refl _ _⟩⟩
 case round=>
  obtain ⟨k,hk,rfl,HN,HB⟩:=hrel
  clear HH
  by_cases hlt:k<l0.length
  ·obtain ⟨ad,e0,hx0,hx1,hx2⟩:=at_T127 HR.out (k:Int) zbt zbt
   subst e0
   replace hx0:=(HB.out.cell (World.block_lt_of_cell? w _ hx0)).trans hx0
   (try simp only [Int.toNat_natCast] at hx0)
   replace hx1:=(HB.out.cell (World.block_lt_of_cell? w _ hx1)).trans hx1
   (try simp only [Int.toNat_natCast] at hx1)
   replace hx2:=(HB.out.cell (World.block_lt_of_cell? w _ hx2)).trans hx2
   (try simp only [Int.toNat_natCast] at hx2)
   have er:(rd_T127 l0 (k:Int))=l0[k]:=by simp [rd_T127,List.getD_eq_getElem?_getD,List.getElem?_eq_getElem hlt]
   obtain ⟨b,hb,hbr⟩:=anyO_drop hlt HN.out
   rw [←er] at hb
   have HG:=Aside0.mk (HCL.out (rd_T127 l0 (k:Int)) b hb wr HB.out)
   have HBR:=Aside0.mk hbr
   clear hb hbr er HN
   cases b with
   | true=>
    go_wp2_with (go_at_call 135;refine HG.out.mono ?_;rintro e w1 ⟨rfl,hb1⟩;have HB1:=Aside0.mk (below_step HB.out hb1);clear hb1)
    go_ret
    refine ⟨k,rfl,?_,HB1.out⟩
    rw [decide_eq_true zbt]
    rcases HBR.out with h|h
    ·exact h.2
    ·exact absurd h.1 zbq
   | false=>
    go_wp2_with (go_at_call 135;refine HG.out.mono ?_;rintro e w1 ⟨rfl,hb1⟩;have HB1:=Aside0.mk (below_step HB.out hb1);clear hb1)
    go_roundw
    case rel=>
     refine ⟨k+1,zbt,by go_num,⟨?_⟩,HB1⟩
     rcases HBR.out with h|h
     ·exact absurd h.1 zbq
     ·exact h.2
    case measure=>simp [intOf];omega
  ·have hkl:k=l0.length:=by omega
   have hd1:decide ((k:Int)<(l0.length:Int))=false:=decide_eq_false zbt
   have hd2:decide (k<l0.length)=false:=decide_eq_false zbt
   have HN':=HN
   have HK:=Aside0.mk hkl
   clear hkl HN
   go_wp2_with fail
   go_ret
   refine ⟨-1,rfl,?_,HB.out⟩
   rw [decide_eq_false zbt]
   have h:=HN'.out
   rw [HK.out,List.drop_length] at h
   exact (Option.some.inj h).symm
theorem impl_begins.has (p:S127→Option Bool) (cap0 cap1:Value) (A0:Option Addr) (c0:Nat) (l0:List S127) (r:Bool) (w:World) (hr0:Kd.C k127 w A0 l0.length l0)
 (hclo:∀(x:S127) (b:Bool),p x=some b→∀(W:World),Below w.heap.size w W→Calls Try.prog 135 #[.agg #[.string (x.f0),.int .i64 (x.f1),.int .i64 (x.f2)],cap0,cap1] W fun e W'=>e = .returned (.bool b)∧Below W.heap.size W W') (h:anyO p l0=some r) :
 Calls Try.prog 134 #[.slice A0 l0.length c0,.func (.func 135) #[] #[cap0,cap1]] w fun e w'=>e = .returned (.bool r)∧Below w.heap.size w w':=by
 have HC:=Aside0.mk (impl_begins.idx p cap0 cap1 A0 c0 l0 r w hr0 hclo h)
 clear hr0 hclo h
 go_enter Try.func134,Try.ntmps134
 go_wp2_with (go_at_call 153;refine HC.out.mono ?_;rintro e w1 ⟨n,rfl,hn,hb⟩;have HB:=Aside0.mk hb;have HN:=Aside0.mk hn;clear hb hn)
 go_ret
 exact ⟨by rw [HN.out];rfl,HB.out⟩
theorem impl_begins.calls (A0:Option Addr) (c0:Nat) (l0:List S127) (a1:ByteArray) (a2:Int) (r:Bool) (w:World) (hr0:Kd.C k127 w A0 l0.length l0) (hc0:l0.length≤c0) (h:impl_begins.f l0 a1 a2=some r) :
 Calls Try.prog 100 #[.slice A0 l0.length c0,.string a1,.int .i64 a2] w fun e w'=>e = .returned (.bool r)∧Below w.heap.size w w':=by
 obtain rfl:=Option.some.inj h
 have hmf:∀(fn:Fn) (first cap:Array Value) (w:World),(Instr.makeFunc fn first cap).run Try.prog w = .ok (.func fn first cap) w:=fun _ _ _ _=>rfl
 have hb2:Below w.heap.size w ((w.alloc (.cells #[.string a1] 9)).alloc (.cells #[.int .i64 a2] 2)):=((Below.refl _ _).alloc (Nat.le_refl _) _).alloc zdd _
 have HC:=Aside0.mk (impl_begins.has (fun x=>some (impl_begins.p a1 a2 x)) (.pointer (some ⟨w.heap.size,0,none⟩)) (.pointer (some ⟨w.heap.size+1,0,none⟩)) A0 c0 l0 (l0.any (impl_begins.p a1 a2)) ((w.alloc (.cells #[.string a1] 9)).alloc (.cells #[.int .i64 a2] 2)) (Kd.C_below hr0 hb2)
  (fun x b hp W hW=>by
    obtain rfl:=Option.some.inj hp
    exact impl_begins.clo x a1 a2 w.heap.size (w.heap.size+1) W (impl_begins.below_cell hW (by rw [World.cell?_alloc_past _ _ _ zdd,World.cell?_alloc_at _ _ _ _ rfl];rfl)) (impl_begins.below_cell hW (by rw [World.cell?_alloc_at _ _ _ _ zdd];rfl)))
  (anyO_some (fun _ _=>rfl)))
 clear hr0 hc0 h
 go_enter Try.func100,Try.ntmps100
 go_wp2_with (go_at_call 134;refine HC.out.mono ?_;rintro e w1 ⟨rfl,hb⟩;have HB:=Aside0.mk (below_then hb2 (by simp;omega) hb);clear hb)
 go_ret
 exact ⟨rfl,HB.out⟩
end Go.Proofs.Ytocegmkifmdlcaa.P

namespace Go.Proofs.Ytocegmkifmdlcaa.P
open Go.RowKit Go.Proofs.YtocegmkifmdlcaaW.PrintWords Go.Proofs.YtocegmkifmdlcaaW.PrintLast Go.Proofs.YtocegmkifmdlcaaW.PrintMore
attribute [local go_sem] max2_int min2_int max_two min_two max_three min_three max_four min_four str_leq str_gtr str_geq
set_option linter.unusedVariables false
set_option linter.unusedSimpArgs false
mutual
def impl_missed.l0:Nat→List (S127)→List (List Int)→List (S125)→Int→Int→Option ((List (List Int)))
 | 0,_,_,_,_,_=>none
 | k+1,x0,x5,x10,x11,x12=>if x12<x11 then (if 0≤x12 then (if x12<(x10.length:Int) then (impl_missed.l1 k x0 x5 x12 x10 x11 x12 x0 (x0.length:Int) 0 ((rd_T125 x10 x12).f0) ((rd_T125 x10 x12).f1) ((rd_T125 x10 x12).f2)) else (none)) else (none)) else (some x5)
def impl_missed.l1:Nat→List (S127)→List (List Int)→Int→List (S125)→Int→Int→List (S127)→Int→Int→ByteArray→ByteArray→Int→Option ((List (List Int)))
 | 0,_,_,_,_,_,_,_,_,_,_,_,_=>none
 | k+1,x0,x5,x6,x10,x11,x12,x17,x18,x19,x103000,x103001,x103002=>if x19<x18 then (if 0≤x19 then (if x19<(x17.length:Int) then (if ((rd_T127 x17 x19).f0).toList=x103000.toList then ((impl_Turn_end.f ((rd_T127 x17 x19).f0) ((rd_T127 x17 x19).f1) ((rd_T127 x17 x19).f2)).bind fun t105=>((impl_begins.f x0 x103001 (wrap64 (t105+x103002))).bind fun t106=>(if t106=true then (impl_missed.l1 k x0 x5 x6 x10 x11 x12 x17 x18 (wrap64 (x19+1)) x103000 x103001 x103002) else (if x5.length<5864062014805 then (impl_missed.l1 k x0 (x5++[(([x6,x19]:List Int))]) x6 x10 x11 x12 x17 x18 (wrap64 (x19+1)) x103000 x103001 x103002) else (none))))) else (impl_missed.l1 k x0 x5 x6 x10 x11 x12 x17 x18 (wrap64 (x19+1)) x103000 x103001 x103002)) else (none)) else (none)) else (impl_missed.l0 k x0 x5 x10 x11 (wrap64 (x12+1)))
end
def impl_missed.f (k:Nat) (l0:List (S127)) (l1:List (S125)):Option ((List (List Int))):=impl_missed.l0 k l0 ([]:List (List Int)) l1 (l1.length:Int) 0
def impl_missed.T8:Bool × List (List Nat × List Nat):=(true,[([],[]),([0],[0]),([],[]),([2],[2]),([1,3],[1,3]),([4],[4]),([5],[5]),([5],[5]),([7,5],[5,7]),([5],[5]),([9,5,5],[5,9]),([5],[5]),([11,5],[5,11]),([10,12,5],[5,10,12]),([6,8,13,10,5],[5,6,8,13]),([14,5],[5,14]),([5,15],[5,15])])
def impl_missed.B8:List Nat:=[0,1,0,4,15,31,63,63,191,63,575,63,2111,7743,16383,32767,65535]
theorem impl_missed.tab8:rtab .any (opsOf Try.f98 8)=impl_missed.T8:=by kernel_rfl
theorem impl_missed.bits8:waitsOk impl_missed.T8.2 impl_missed.B8=true:=by kernel_rfl
set_option maxHeartbeats 8000000 in
set_option maxRecDepth 100000 in
theorem impl_missed.calls (k:Nat) (A0:Option Addr) (c0:Nat) (l0:List (S127)) (A1:Option Addr) (c1:Nat) (l1:List (S125)) (r:List (List Int)) (w:World) (hr0:Kd.C k127 w A0 l0.length l0) (hc0:l0.length≤c0) (hr1:Kd.C k125 w A1 l1.length l1) (hc1:l1.length≤c1) (h:impl_missed.f k l0 l1=some r) :
 Calls Try.prog 98 #[.slice A0 l0.length c0,.slice A1 l1.length c1] w fun e w'=>∃v0_:Value,e = .returned (v0_)∧Kd.S (Kd.slice 2 (Kd.int .i64)) 126 w' w.heap.size (fun _=>True) v0_ r∧Below w.heap.size w w':=by
 have hu125:=Try.underlying125
 have hu127:=Try.underlying127
 have HR0:=Aside0.mk hr0
 have HC0:=Aside0.mk hc0
 clear hr0 hc0
 have HR1:=Aside0.mk hr1
 have HC1:=Aside0.mk hc1
 clear hr1 hc1
 have HB:=Aside0.mk (Below.refl w.heap.size w)
 have H:(impl_missed.l0 k l0 ([]:List (List Int)) l1 (l1.length:Int) 0)=some r:=h
 clear h
 have H':=Aside0.mk H
 clear H
 go_enter Try.func98,Try.ntmps98
 go_wp2
 go_loopg [5,12] k (fun kq v5 v12 w'=>∃(x5_1:List (List Int)) (x12_1:Int),v12 = .int .i64 x12_1∧Aside0 (impl_missed.l0 kq l0 x5_1 l1 (l1.length:Int) x12_1=some r)∧Aside0 (kq≤k)∧Aside0 (Kd.S (Kd.slice 2 (Kd.int .i64)) 126 w' w.heap.size (fun _=>True) v5 x5_1)∧Aside0 (Below w.heap.size w w'))
 case atStart=>exact ⟨(([]:List (List Int))),(0),zm,H',⟨Nat.le_refl _⟩,⟨by first|exact Kd.S_nil _ _ _ _ _|exact Kd.N_nil _ _ _ _ _|exact Kd.V_nil _ _ _ _ _|exact Kd.Q_nil _ _ _ _ _|exact Kd.R_nil _ _ _ _ _⟩,⟨za⟩⟩
 case round=>
  clear H'
  try clear c1
  try clear p2
  obtain ⟨x5_1,x12_1,rfl,HA,HK1,HO_5,HB⟩:=hrel
  cases gk with
  | zero=>exact absurd HA.out (by simp [impl_missed.l0])
  | succ k1=>
   have H:=HA.out
   clear HA
   simp only [impl_missed.l0] at H
   by_cases c3:x12_1<(l1.length:Int)
   ·rw [if_pos c3] at H
    have c3b0:decide (x12_1<(l1.length:Int))=true:=decide_eq_true c3
    clear c3
    by_cases c4:0≤x12_1
    ·rw [if_pos c4] at H
     have c4b0:decide (0≤x12_1)=true:=decide_eq_true c4
     clear c4
     by_cases c5:x12_1<(l1.length:Int)
     ·rw [if_pos c5] at H
      have c5b0:decide (x12_1<(l1.length:Int))=true:=decide_eq_true c5
      clear c5
      have H':=Aside0.mk H
      clear H
      have p101:0≤(x12_1:Int):=of_decide_eq_true zb
      have q101:x12_1<(l1.length:Int):=of_decide_eq_true zb
      obtain ⟨ad101,e101,hx101_0,hx101_1,hx101_2⟩:=at_T125 HR1.out x12_1 p101 q101
      cases e101
      replace hx101_0:=(HB.out.cell (World.block_lt_of_cell? w _ hx101_0)).trans hx101_0
      replace hx101_1:=(HB.out.cell (World.block_lt_of_cell? w _ hx101_1)).trans hx101_1
      replace hx101_2:=(HB.out.cell (World.block_lt_of_cell? w _ hx101_2)).trans hx101_2
      replace p101:=eq_true p101
      replace q101:=eq_true q101
      go_wp2_with (first|((with_reducible refine gate_dst (N:=7) rfl ?_);refine box_event ?hg (N:=7) ?hd (cs:=#[.string (⟨#[]⟩:ByteArray),.string (⟨#[]⟩:ByteArray),.int .i64 0]) (t:=125) ?hr ?_;(case hd=>rfl);(case hg=>rfl);(case hr=>exact zt);intro gb102 hg w6 hbox hb;have n0_:=Aside0.mk (Kd.S_below zav hb);have n1_:=Aside0.mk (below_step za hb);have n2_:=Aside0.mk (hbox);have n3_:=Aside0.mk ((by rw [hg];exact (below_size za):w.heap.size≤gb102));have n4_:=Aside0.mk ((by rw [hg];exact (below_size za):w.heap.size≤gb102));clear HO_5;clear HB;have HO_5:=n0_;have HB:=n1_;have BK102:=n2_;have GW102:=n3_;have GE102:=n4_;clear n0_ n1_ n2_ n3_ n4_;clear hb hbox hg;have hcz7_0:w6.cell? ⟨gb102,0,none⟩=some (.string (⟨#[]⟩:ByteArray)):=(blk_cell BK102.out 0).trans rfl;have hcz7_1:w6.cell? ⟨gb102,1,none⟩=some (.string (⟨#[]⟩:ByteArray)):=(blk_cell BK102.out 1).trans rfl;have hcz7_2:w6.cell? ⟨gb102,2,none⟩=some (.int .i64 0):=(blk_cell BK102.out 2).trans rfl;have hfz7_0:=blk_frozen BK102.out 0;have hfz7_1:=blk_frozen BK102.out 1;have hfz7_2:=blk_frozen BK102.out 2))
      go_loopg [5,19] k1 (fun kq v5 v19 w'=>∃(x5_2:List (List Int)) (x19_2:Int),v19 = .int .i64 x19_2∧Aside0 (impl_missed.l1 kq l0 x5_2 x12_1 l1 (l1.length:Int) x12_1 l0 (l0.length:Int) x19_2 ((rd_T125 l1 x12_1).f0) ((rd_T125 l1 x12_1).f1) ((rd_T125 l1 x12_1).f2)=some r)∧Aside0 (kq≤k1)∧Aside0 (Kd.S (Kd.slice 2 (Kd.int .i64)) 126 w' w.heap.size (fun _=>True) v5 x5_2)∧Aside0 (w'.heap[gb102]?=some (.cells #[.string ((rd_T125 l1 x12_1).f0),.string ((rd_T125 l1 x12_1).f1),.int .i64 ((rd_T125 l1 x12_1).f2)] 125 (0,0)))∧Aside0 (Below w.heap.size w w'))
      case atStart=>exact ⟨(x5_1),(0),zm,H',⟨Nat.le_refl _⟩,⟨by (with_reducible repeat (first|apply Kd.S_alloc|apply Kd.S_drewN|apply Kd.S_drew));exact Kd.S_mono (Kd.S_far (p:=⟨gb102,2,none⟩) (Kd.S_far (p:=⟨gb102,1,none⟩) (Kd.S_far (p:=⟨gb102,0,none⟩) (Kd.S_types HO_5.out BK102.out zbq) (fun _ hk=>hk.2) (.string ((rd_T125 l1 x12_1).f0))) (fun _ hk=>hk.2) (.string ((rd_T125 l1 x12_1).f1))) (fun _ hk=>hk.2) (.int .i64 ((rd_T125 l1 x12_1).f2))) (fun _ hk=>trivial)⟩,⟨by (with_reducible repeat (first|refine blk_drewN ?_ _|refine blk_drew ?_|refine blk_alloc ?_ _));refine blk_put (cs:=#[.string ((rd_T125 l1 x12_1).f0),.string ((rd_T125 l1 x12_1).f1),.int .i64 0]) ?_ 2 _ rfl;(with_reducible repeat (first|refine blk_drewN ?_ _|refine blk_drew ?_|refine blk_alloc ?_ _));refine blk_put (cs:=#[.string ((rd_T125 l1 x12_1).f0),.string (⟨#[]⟩:ByteArray),.int .i64 0]) ?_ 1 _ rfl;(with_reducible repeat (first|refine blk_drewN ?_ _|refine blk_drew ?_|refine blk_alloc ?_ _));refine blk_put (cs:=#[.string (⟨#[]⟩:ByteArray),.string (⟨#[]⟩:ByteArray),.int .i64 0]) ?_ 0 _ rfl;(with_reducible repeat (first|refine blk_drewN ?_ _|refine blk_drew ?_|refine blk_alloc ?_ _));exact BK102.out⟩,⟨zp⟩⟩
      case round=>
       clear H'
       try clear c1
       try clear p1
       try clear q1
       try clear hx1
       try clear p2
       try clear c3
       try clear c3b0
       try clear c4
       try clear c4b0
       try clear c5
       try clear c5b0
       try clear hcz7_0
       try clear hcz7_1
       try clear hcz7_2
       try clear hfz7_0
       try clear hfz7_1
       try clear hfz7_2
       try clear hx101_0
       try clear hx101_1
       try clear hx101_2
       try clear p101
       try clear p2
       try clear q101
       obtain ⟨x5_2,x19_2,rfl,HA,HK2,HO_5,BK102,HB⟩:=hrel
       cases gk with
       | zero=>exact absurd HA.out (by simp [impl_missed.l1])
       | succ k2=>
        have H:=HA.out
        clear HA
        simp only [impl_missed.l1] at H
        by_cases c8:x19_2<(l0.length:Int)
        ·rw [if_pos c8] at H
         have c8b0:decide (x19_2<(l0.length:Int))=true:=decide_eq_true c8
         clear c8
         by_cases c9:0≤x19_2
         ·rw [if_pos c9] at H
          have c9b0:decide (0≤x19_2)=true:=decide_eq_true c9
          clear c9
          by_cases c10:x19_2<(l0.length:Int)
          ·rw [if_pos c10] at H
           have c10b0:decide (x19_2<(l0.length:Int))=true:=decide_eq_true c10
           clear c10
           by_cases c11:((rd_T127 l0 x19_2).f0).toList=((rd_T125 l1 x12_1).f0).toList
           ·rw [if_pos c11] at H
            have c11b0:(((rd_T127 l0 x19_2).f0).toList == ((rd_T125 l1 x12_1).f0).toList)=true:=beq_iff_eq.mpr c11
            have c11b1:(((rd_T127 l0 x19_2).f0).toList != ((rd_T125 l1 x12_1).f0).toList)=false:=bne_eq_false_iff_eq.mpr c11
            clear c11
            replace H:=Option.bind_eq_some_iff.mp H
            obtain ⟨t105,A120,H⟩:=H
            replace H:((impl_begins.f l0 ((rd_T125 l1 x12_1).f1) (wrap64 (t105+((rd_T125 l1 x12_1).f2)))).bind fun t106=>(if t106=true then (impl_missed.l1 k2 l0 x5_2 x12_1 l1 (l1.length:Int) x12_1 l0 (l0.length:Int) (wrap64 (x19_2+1)) ((rd_T125 l1 x12_1).f0) ((rd_T125 l1 x12_1).f1) ((rd_T125 l1 x12_1).f2)) else (if x5_2.length<5864062014805 then (impl_missed.l1 k2 l0 (x5_2++[(([x12_1,x19_2]:List Int))]) x12_1 l1 (l1.length:Int) x12_1 l0 (l0.length:Int) (wrap64 (x19_2+1)) ((rd_T125 l1 x12_1).f0) ((rd_T125 l1 x12_1).f1) ((rd_T125 l1 x12_1).f2)) else (none))))=some r:=H
            have A12:=Aside0.mk A120
            clear A120
            replace H:=Option.bind_eq_some_iff.mp H
            obtain ⟨t106,A130,H⟩:=H
            replace H:(if t106=true then (impl_missed.l1 k2 l0 x5_2 x12_1 l1 (l1.length:Int) x12_1 l0 (l0.length:Int) (wrap64 (x19_2+1)) ((rd_T125 l1 x12_1).f0) ((rd_T125 l1 x12_1).f1) ((rd_T125 l1 x12_1).f2)) else (if x5_2.length<5864062014805 then (impl_missed.l1 k2 l0 (x5_2++[(([x12_1,x19_2]:List Int))]) x12_1 l1 (l1.length:Int) x12_1 l0 (l0.length:Int) (wrap64 (x19_2+1)) ((rd_T125 l1 x12_1).f0) ((rd_T125 l1 x12_1).f1) ((rd_T125 l1 x12_1).f2)) else (none)))=some r:=H
            have A13:=Aside0.mk A130
            clear A130
            by_cases c14:t106=true
            ·subst c14
             have H1:(impl_missed.l1 k2 l0 x5_2 x12_1 l1 (l1.length:Int) x12_1 l0 (l0.length:Int) (wrap64 (x19_2+1)) ((rd_T125 l1 x12_1).f0) ((rd_T125 l1 x12_1).f1) ((rd_T125 l1 x12_1).f2))=some r:=by rw [if_pos rfl] at H;exact H
             clear H
             have H:=H1
             clear H1
             have H':=Aside0.mk H
             clear H
             have p103:0≤(x19_2:Int):=of_decide_eq_true zb
             have q103:x19_2<(l0.length:Int):=of_decide_eq_true zb
             obtain ⟨ad103,e103,hx103_0,hx103_1,hx103_2⟩:=at_T127 HR0.out x19_2 p103 q103
             cases e103
             replace hx103_0:=(HB.out.cell (World.block_lt_of_cell? w _ hx103_0)).trans hx103_0
             replace hx103_1:=(HB.out.cell (World.block_lt_of_cell? w _ hx103_1)).trans hx103_1
             replace hx103_2:=(HB.out.cell (World.block_lt_of_cell? w _ hx103_2)).trans hx103_2
             replace p103:=eq_true p103
             replace q103:=eq_true q103
             try go_wp2_with (first|((with_reducible refine gate_dst (N:=9) rfl ?_);refine box_event ?hg (N:=9) ?hd (cs:=#[.string (⟨#[]⟩:ByteArray),.int .i64 0,.int .i64 0]) (t:=127) ?hr ?_;(case hd=>rfl);(case hg=>rfl);(case hr=>exact zt);intro gb104 hg w15 hbox hb;have n0_:=Aside0.mk (Kd.S_below zav hb);have n1_:=Aside0.mk (blk_below (g:=gb102) (o:=.cells #[.string ((rd_T125 l1 x12_1).f0),.string ((rd_T125 l1 x12_1).f1),.int .i64 ((rd_T125 l1 x12_1).f2)] 125 (0,0)) zz hb);have n2_:=Aside0.mk (below_step zp hb);have n3_:=Aside0.mk (hbox);have n4_:=Aside0.mk ((by rw [hg];exact (below_size zp):w.heap.size≤gb104));have n5_:=Aside0.mk ((by rw [hg];exact (below_size zp):w.heap.size≤gb104));have n6_:=Aside0.mk ((by rw [hg];exact Nat.ne_of_lt (blk_lt (g:=gb102) (o:=.cells #[.string ((rd_T125 l1 x12_1).f0),.string ((rd_T125 l1 x12_1).f1),.int .i64 ((rd_T125 l1 x12_1).f2)] 125 (0,0)) zz):gb102≠gb104));have n7_:=Aside0.mk ((by rw [hg];exact Nat.ne_of_gt (blk_lt (g:=gb102) (o:=.cells #[.string ((rd_T125 l1 x12_1).f0),.string ((rd_T125 l1 x12_1).f1),.int .i64 ((rd_T125 l1 x12_1).f2)] 125 (0,0)) zz):gb104≠gb102));clear HO_5;clear BK102;clear HB;have HO_5:=n0_;have BK102:=n1_;have HB:=n2_;have BK104:=n3_;have GW104:=n4_;have GE104:=n5_;have NB102_104:=n6_;have NB104_102:=n7_;clear n0_ n1_ n2_ n3_ n4_ n5_ n6_ n7_;clear hb hbox hg;have hnb16:=NB104_102.out;have hnc16:=NB102_104.out;have hcz17_0:w15.cell? ⟨gb104,0,none⟩=some (.string (⟨#[]⟩:ByteArray)):=(blk_cell BK104.out 0).trans rfl;have hcz17_1:w15.cell? ⟨gb104,1,none⟩=some (.int .i64 0):=(blk_cell BK104.out 1).trans rfl;have hcz17_2:w15.cell? ⟨gb104,2,none⟩=some (.int .i64 0):=(blk_cell BK104.out 2).trans rfl;have hfz17_0:=blk_frozen BK104.out 0;have hfz17_1:=blk_frozen BK104.out 1;have hfz17_2:=blk_frozen BK104.out 2))
             have n0_:Aside0 (Kd.S (Kd.slice 2 (Kd.int .i64)) 126 (((w15.setCell ⟨gb104,0,none⟩ (.string ((rd_T127 l0 x19_2).f0))).setCell ⟨gb104,1,none⟩ (.int .i64 ((rd_T127 l0 x19_2).f1))).setCell ⟨gb104,2,none⟩ (.int .i64 ((rd_T127 l0 x19_2).f2))) w.heap.size (fun _=>True) u5 x5_2):=⟨zcl⟩
             have n1_:Aside0 ((((w15.setCell ⟨gb104,0,none⟩ (.string ((rd_T127 l0 x19_2).f0))).setCell ⟨gb104,1,none⟩ (.int .i64 ((rd_T127 l0 x19_2).f1))).setCell ⟨gb104,2,none⟩ (.int .i64 ((rd_T127 l0 x19_2).f2))).heap[gb102]?=some (.cells #[.string ((rd_T125 l1 x12_1).f0),.string ((rd_T125 l1 x12_1).f1),.int .i64 ((rd_T125 l1 x12_1).f2)] 125 (0,0))):=⟨zbu⟩
             have n2_:Aside0 ((((w15.setCell ⟨gb104,0,none⟩ (.string ((rd_T127 l0 x19_2).f0))).setCell ⟨gb104,1,none⟩ (.int .i64 ((rd_T127 l0 x19_2).f1))).setCell ⟨gb104,2,none⟩ (.int .i64 ((rd_T127 l0 x19_2).f2))).heap[gb104]?=some (.cells #[.string ((rd_T127 l0 x19_2).f0),.int .i64 ((rd_T127 l0 x19_2).f1),.int .i64 ((rd_T127 l0 x19_2).f2)] 127 (0,0))):=⟨zbb⟩
             have n3_:Aside0 (Below w.heap.size w (((w15.setCell ⟨gb104,0,none⟩ (.string ((rd_T127 l0 x19_2).f0))).setCell ⟨gb104,1,none⟩ (.int .i64 ((rd_T127 l0 x19_2).f1))).setCell ⟨gb104,2,none⟩ (.int .i64 ((rd_T127 l0 x19_2).f2)))):=⟨zar⟩
             (try clear HO_5)
             (try clear BK102)
             (try clear BK104)
             (try clear HB)
             generalize (((w15.setCell ⟨gb104,0,none⟩ (.string ((rd_T127 l0 x19_2).f0))).setCell ⟨gb104,1,none⟩ (.int .i64 ((rd_T127 l0 x19_2).f1))).setCell ⟨gb104,2,none⟩ (.int .i64 ((rd_T127 l0 x19_2).f2)))=w18 at n0_ n1_ n2_ n3_ ⊢
             have HO_5:=n0_
             have BK102:=n1_
             have BK104:=n2_
             have HB:=n3_
             clear n0_ n1_ n2_ n3_
             replace HO_5:=Aside0.mk (Kd.S_drew HO_5.out)
             replace BK102:=Aside0.mk (blk_drew BK102.out)
             replace BK104:=Aside0.mk (blk_drew BK104.out)
             replace HB:=Aside0.mk (below_drew1 HB.out)
             refine start_ (n:=17) (S:=fun w'=>w'.cell? ⟨gb104,0,none⟩=some (.string ((rd_T127 l0 x19_2).f0))∧w'.cell? ⟨gb104,1,none⟩=some (.int .i64 ((rd_T127 l0 x19_2).f1))∧w'.cell? ⟨gb104,2,none⟩=some (.int .i64 ((rd_T127 l0 x19_2).f2))∧w'.cell? ⟨gb102,0,none⟩=some (.string ((rd_T125 l1 x12_1).f0))∧w'.cell? ⟨gb102,1,none⟩=some (.string ((rd_T125 l1 x12_1).f1))∧w'.cell? ⟨gb102,2,none⟩=some (.int .i64 ((rd_T125 l1 x12_1).f2))) (ds:=[]) #[false,false,false,false,false,false,false,false,false,false,false,false,false,false,false,false,false] zbk rfl rfl ⟨(blk_cell BK104.out 0).trans rfl,(blk_cell BK104.out 1).trans rfl,(blk_cell BK104.out 2).trans rfl,(blk_cell BK102.out 0).trans rfl,(blk_cell BK102.out 1).trans rfl,(blk_cell BK102.out 2).trans rfl⟩ (fun hHeld=>?_);refine with_tabW impl_missed.tab8 impl_missed.bits8 (fun HT_ HW_=>?_)
             generalize w18.drew=w19 at HO_5 BK102 BK104 HB hHeld ⊢
             refine pA 0 24 ?_
             refine pA 2 26 ?_
             refine pT 1 25 rfl zao ?_
             refine pT 3 27 rfl zao ?_
             refine pA 4 28 ?_
             refine pA 5 29 ?_
             refine pA 6 30 ?_
             refine pA 7 31 ?_
             refine pA 11 35 ?_
             refine pT 8 32 rfl zao ?_
             refine pT 9 33 rfl zao ?_
             refine pT 12 36 rfl zao ?_
             refine one_ (i:=10) (N:=some 34) #[true,true,true,true,true,true,true,true,true,true,true,true,true,false,false,false,false] rfl rfl (one_of HT_.out zbk) zbq (fun K hK=>?_)
             refine goes_ Try.func99 zbk rfl #[.agg #[.string ((rd_T127 l0 x19_2).f0),.int .i64 ((rd_T127 l0 x19_2).f1),.int .i64 ((rd_T127 l0 x19_2).f2)]] (by rfl) rfl rfl zc ?_
             with_reducible refine (impl_Turn_end.calls ((rd_T127 l0 x19_2).f0) ((rd_T127 l0 x19_2).f1) ((rd_T127 l0 x19_2).f2) t105 _ A12.out).mono ?_
             rintro e w20 ⟨rfl,hb⟩
             refine ⟨_,rfl,?_⟩
             replace HO_5:=Aside0.mk (Kd.S_below zav hb)
             replace BK102:=Aside0.mk (blk_below (g:=gb102) (o:=.cells #[.string ((rd_T125 l1 x12_1).f0),.string ((rd_T125 l1 x12_1).f1),.int .i64 ((rd_T125 l1 x12_1).f2)] 125 (0,0)) zz hb)
             replace BK104:=Aside0.mk (blk_below (g:=gb104) (o:=.cells #[.string ((rd_T127 l0 x19_2).f0),.int .i64 ((rd_T127 l0 x19_2).f1),.int .i64 ((rd_T127 l0 x19_2).f2)] 127 (0,0)) zdc hb)
             replace HB:=Aside0.mk (below_step zar hb)
             (try clear hb)
             (try clear hb2)
             (try clear hk)
             (try clear hi)
             refine hK.out _ _ ⟨(blk_cell BK104.out 0).trans rfl,(blk_cell BK104.out 1).trans rfl,(blk_cell BK104.out 2).trans rfl,(blk_cell BK102.out 0).trans rfl,(blk_cell BK102.out 1).trans rfl,(blk_cell BK102.out 2).trans rfl⟩ (fun hHeld=>?_)
             clear hK K
             refine pN 34 ?_
             refine pA 13 37 ?_
             refine one_ (i:=14) (N:=some 38) #[true,true,true,true,true,true,true,true,true,true,true,true,true,true,true,false,false] rfl rfl (one_of HT_.out zbk) zbq (fun K hK=>?_)
             refine goes_ Try.func100 zbk rfl #[.slice (some ad103) l0.length c0,.string ((rd_T125 l1 x12_1).f1),.int .i64 (wrap64 (t105+((rd_T125 l1 x12_1).f2)))] (by rfl) rfl rfl zc ?_
             with_reducible refine (impl_begins.calls _ _ l0 ((rd_T125 l1 x12_1).f1) (wrap64 (t105+((rd_T125 l1 x12_1).f2))) true _ ?side1 ?side2 A13.out).mono ?_
             (case side1=>exact zbs)
             (case side2=>exact HC0.out)
             rintro e w21 ⟨rfl,hb⟩
             refine ⟨_,rfl,?_⟩
             replace HO_5:=Aside0.mk (Kd.S_below zav hb)
             replace BK102:=Aside0.mk (blk_below (g:=gb102) (o:=.cells #[.string ((rd_T125 l1 x12_1).f0),.string ((rd_T125 l1 x12_1).f1),.int .i64 ((rd_T125 l1 x12_1).f2)] 125 (0,0)) zz hb)
             replace BK104:=Aside0.mk (blk_below (g:=gb104) (o:=.cells #[.string ((rd_T127 l0 x19_2).f0),.int .i64 ((rd_T127 l0 x19_2).f1),.int .i64 ((rd_T127 l0 x19_2).f2)] 127 (0,0)) zdc hb)
             replace HB:=Aside0.mk (below_step zar hb)
             (try clear hb)
             (try clear hb2)
             (try clear hk)
             (try clear hi)
             refine hK.out _ _ ⟨(blk_cell BK104.out 0).trans rfl,(blk_cell BK104.out 1).trans rfl,(blk_cell BK104.out 2).trans rfl,(blk_cell BK102.out 0).trans rfl,(blk_cell BK102.out 1).trans rfl,(blk_cell BK102.out 2).trans rfl⟩ (fun hHeld=>?_)
             clear hK K
             refine pN 38 ?_
             refine pA 15 39 ?_
             refine pA 16 40 ?_
             refine done_ (done_of HT_.out zbk) ?_
             try go_wp2
             go_roundg k2
             case measure=>have:=HK1.out;have:=HK2.out;omega
             case rel=>exact ⟨(x5_2),(wrap64 (x19_2+1)),zm,H',⟨by have:=HK1.out;have:=HK2.out;omega⟩,⟨zav⟩,⟨zz⟩,⟨zar⟩⟩
            ·replace c14:=Bool.eq_false_iff.mpr c14
             subst c14
             have H1:(if x5_2.length<5864062014805 then (impl_missed.l1 k2 l0 (x5_2++[(([x12_1,x19_2]:List Int))]) x12_1 l1 (l1.length:Int) x12_1 l0 (l0.length:Int) (wrap64 (x19_2+1)) ((rd_T125 l1 x12_1).f0) ((rd_T125 l1 x12_1).f1) ((rd_T125 l1 x12_1).f2)) else (none))=some r:=by rw [if_neg (show ¬ (false=true) by decide)] at H;exact H
             clear H
             have H:=H1
             clear H1
             obtain ⟨y107,hy107⟩:∃y_:List Int,y_=(([x12_1,x19_2]:List Int)):=⟨_,rfl⟩
             replace H:(if x5_2.length<5864062014805 then (impl_missed.l1 k2 l0 (x5_2++[y107]) x12_1 l1 (l1.length:Int) x12_1 l0 (l0.length:Int) (wrap64 (x19_2+1)) ((rd_T125 l1 x12_1).f0) ((rd_T125 l1 x12_1).f1) ((rd_T125 l1 x12_1).f2)) else (none))=some r:=by first|(rw [hy107];with_reducible exact H)|(have H2_:=(Option.bind_some _ _).symm.trans H;rw [hy107];with_reducible exact H2_)|(have H2_:=(Option.bind_some _ _).symm.trans H;with_reducible exact H2_)|with_reducible exact H|(rw [hy107];exact H)|exact H
             have Ny107:=Aside0.mk hy107
             clear hy107
             by_cases c22:x5_2.length<5864062014805
             ·rw [if_pos c22] at H
              have LMc22:=Aside0.mk c22
              clear c22
              obtain ⟨y110,hy110⟩:∃y_:List (List Int),y_=(x5_2++[y107]):=⟨_,rfl⟩
              replace H:(impl_missed.l1 k2 l0 y110 x12_1 l1 (l1.length:Int) x12_1 l0 (l0.length:Int) (wrap64 (x19_2+1)) ((rd_T125 l1 x12_1).f0) ((rd_T125 l1 x12_1).f1) ((rd_T125 l1 x12_1).f2))=some r:=by first|(rw [hy110];with_reducible exact H)|(have H2_:=(Option.bind_some _ _).symm.trans H;rw [hy110];with_reducible exact H2_)|(have H2_:=(Option.bind_some _ _).symm.trans H;with_reducible exact H2_)|with_reducible exact H|(rw [hy110];exact H)|exact H
              have Ny110:=Aside0.mk hy110
              clear hy110
              have H':=Aside0.mk H
              clear H
              have p103:0≤(x19_2:Int):=of_decide_eq_true zb
              have q103:x19_2<(l0.length:Int):=of_decide_eq_true zb
              obtain ⟨ad103,e103,hx103_0,hx103_1,hx103_2⟩:=at_T127 HR0.out x19_2 p103 q103
              cases e103
              replace hx103_0:=(HB.out.cell (World.block_lt_of_cell? w _ hx103_0)).trans hx103_0
              replace hx103_1:=(HB.out.cell (World.block_lt_of_cell? w _ hx103_1)).trans hx103_1
              replace hx103_2:=(HB.out.cell (World.block_lt_of_cell? w _ hx103_2)).trans hx103_2
              replace p103:=eq_true p103
              replace q103:=eq_true q103
              try go_wp2_with (first|((with_reducible refine gate_dst (N:=9) rfl ?_);refine box_event ?hg (N:=9) ?hd (cs:=#[.string (⟨#[]⟩:ByteArray),.int .i64 0,.int .i64 0]) (t:=127) ?hr ?_;(case hd=>rfl);(case hg=>rfl);(case hr=>exact zt);intro gb104 hg w23 hbox hb;have n0_:=Aside0.mk (Kd.S_below zav hb);have n1_:=Aside0.mk (blk_below (g:=gb102) (o:=.cells #[.string ((rd_T125 l1 x12_1).f0),.string ((rd_T125 l1 x12_1).f1),.int .i64 ((rd_T125 l1 x12_1).f2)] 125 (0,0)) zz hb);have n2_:=Aside0.mk (below_step zp hb);have n3_:=Aside0.mk (hbox);have n4_:=Aside0.mk ((by rw [hg];exact (below_size zp):w.heap.size≤gb104));have n5_:=Aside0.mk ((by rw [hg];exact (below_size zp):w.heap.size≤gb104));have n6_:=Aside0.mk ((by rw [hg];exact Nat.ne_of_lt (blk_lt (g:=gb102) (o:=.cells #[.string ((rd_T125 l1 x12_1).f0),.string ((rd_T125 l1 x12_1).f1),.int .i64 ((rd_T125 l1 x12_1).f2)] 125 (0,0)) zz):gb102≠gb104));have n7_:=Aside0.mk ((by rw [hg];exact Nat.ne_of_gt (blk_lt (g:=gb102) (o:=.cells #[.string ((rd_T125 l1 x12_1).f0),.string ((rd_T125 l1 x12_1).f1),.int .i64 ((rd_T125 l1 x12_1).f2)] 125 (0,0)) zz):gb104≠gb102));clear HO_5;clear BK102;clear HB;have HO_5:=n0_;have BK102:=n1_;have HB:=n2_;have BK104:=n3_;have GW104:=n4_;have GE104:=n5_;have NB102_104:=n6_;have NB104_102:=n7_;clear n0_ n1_ n2_ n3_ n4_ n5_ n6_ n7_;clear hb hbox hg;have hnb24:=NB104_102.out;have hnc24:=NB102_104.out;have hcz25_0:w23.cell? ⟨gb104,0,none⟩=some (.string (⟨#[]⟩:ByteArray)):=(blk_cell BK104.out 0).trans rfl;have hcz25_1:w23.cell? ⟨gb104,1,none⟩=some (.int .i64 0):=(blk_cell BK104.out 1).trans rfl;have hcz25_2:w23.cell? ⟨gb104,2,none⟩=some (.int .i64 0):=(blk_cell BK104.out 2).trans rfl;have hfz25_0:=blk_frozen BK104.out 0;have hfz25_1:=blk_frozen BK104.out 1;have hfz25_2:=blk_frozen BK104.out 2))
              have n0_:Aside0 (Kd.S (Kd.slice 2 (Kd.int .i64)) 126 (((w23.setCell ⟨gb104,0,none⟩ (.string ((rd_T127 l0 x19_2).f0))).setCell ⟨gb104,1,none⟩ (.int .i64 ((rd_T127 l0 x19_2).f1))).setCell ⟨gb104,2,none⟩ (.int .i64 ((rd_T127 l0 x19_2).f2))) w.heap.size (fun _=>True) u5 x5_2):=⟨zcl⟩
              have n1_:Aside0 ((((w23.setCell ⟨gb104,0,none⟩ (.string ((rd_T127 l0 x19_2).f0))).setCell ⟨gb104,1,none⟩ (.int .i64 ((rd_T127 l0 x19_2).f1))).setCell ⟨gb104,2,none⟩ (.int .i64 ((rd_T127 l0 x19_2).f2))).heap[gb102]?=some (.cells #[.string ((rd_T125 l1 x12_1).f0),.string ((rd_T125 l1 x12_1).f1),.int .i64 ((rd_T125 l1 x12_1).f2)] 125 (0,0))):=⟨zbu⟩
              have n2_:Aside0 ((((w23.setCell ⟨gb104,0,none⟩ (.string ((rd_T127 l0 x19_2).f0))).setCell ⟨gb104,1,none⟩ (.int .i64 ((rd_T127 l0 x19_2).f1))).setCell ⟨gb104,2,none⟩ (.int .i64 ((rd_T127 l0 x19_2).f2))).heap[gb104]?=some (.cells #[.string ((rd_T127 l0 x19_2).f0),.int .i64 ((rd_T127 l0 x19_2).f1),.int .i64 ((rd_T127 l0 x19_2).f2)] 127 (0,0))):=⟨zbb⟩
              have n3_:Aside0 (Below w.heap.size w (((w23.setCell ⟨gb104,0,none⟩ (.string ((rd_T127 l0 x19_2).f0))).setCell ⟨gb104,1,none⟩ (.int .i64 ((rd_T127 l0 x19_2).f1))).setCell ⟨gb104,2,none⟩ (.int .i64 ((rd_T127 l0 x19_2).f2)))):=⟨zar⟩
              (try clear HO_5)
              (try clear BK102)
              (try clear BK104)
              (try clear HB)
              generalize (((w23.setCell ⟨gb104,0,none⟩ (.string ((rd_T127 l0 x19_2).f0))).setCell ⟨gb104,1,none⟩ (.int .i64 ((rd_T127 l0 x19_2).f1))).setCell ⟨gb104,2,none⟩ (.int .i64 ((rd_T127 l0 x19_2).f2)))=w26 at n0_ n1_ n2_ n3_ ⊢
              have HO_5:=n0_
              have BK102:=n1_
              have BK104:=n2_
              have HB:=n3_
              clear n0_ n1_ n2_ n3_
              replace HO_5:=Aside0.mk (Kd.S_drew HO_5.out)
              replace BK102:=Aside0.mk (blk_drew BK102.out)
              replace BK104:=Aside0.mk (blk_drew BK104.out)
              replace HB:=Aside0.mk (below_drew1 HB.out)
              refine start_ (n:=17) (S:=fun w'=>w'.cell? ⟨gb104,0,none⟩=some (.string ((rd_T127 l0 x19_2).f0))∧w'.cell? ⟨gb104,1,none⟩=some (.int .i64 ((rd_T127 l0 x19_2).f1))∧w'.cell? ⟨gb104,2,none⟩=some (.int .i64 ((rd_T127 l0 x19_2).f2))∧w'.cell? ⟨gb102,0,none⟩=some (.string ((rd_T125 l1 x12_1).f0))∧w'.cell? ⟨gb102,1,none⟩=some (.string ((rd_T125 l1 x12_1).f1))∧w'.cell? ⟨gb102,2,none⟩=some (.int .i64 ((rd_T125 l1 x12_1).f2))) (ds:=[]) #[false,false,false,false,false,false,false,false,false,false,false,false,false,false,false,false,false] zbk rfl rfl ⟨(blk_cell BK104.out 0).trans rfl,(blk_cell BK104.out 1).trans rfl,(blk_cell BK104.out 2).trans rfl,(blk_cell BK102.out 0).trans rfl,(blk_cell BK102.out 1).trans rfl,(blk_cell BK102.out 2).trans rfl⟩ (fun hHeld=>?_);refine with_tabW impl_missed.tab8 impl_missed.bits8 (fun HT_ HW_=>?_)
              generalize w26.drew=w27 at HO_5 BK102 BK104 HB hHeld ⊢
              refine pA 0 24 ?_
              refine pA 2 26 ?_
              refine pT 1 25 rfl zao ?_
              refine pT 3 27 rfl zao ?_
              refine pA 4 28 ?_
              refine pA 5 29 ?_
              refine pA 6 30 ?_
              refine pA 7 31 ?_
              refine pA 11 35 ?_
              refine pT 8 32 rfl zao ?_
              refine pT 9 33 rfl zao ?_
              refine pT 12 36 rfl zao ?_
              refine one_ (i:=10) (N:=some 34) #[true,true,true,true,true,true,true,true,true,true,true,true,true,false,false,false,false] rfl rfl (one_of HT_.out zbk) zbq (fun K hK=>?_)
              refine goes_ Try.func99 zbk rfl #[.agg #[.string ((rd_T127 l0 x19_2).f0),.int .i64 ((rd_T127 l0 x19_2).f1),.int .i64 ((rd_T127 l0 x19_2).f2)]] (by rfl) rfl rfl zc ?_
              with_reducible refine (impl_Turn_end.calls ((rd_T127 l0 x19_2).f0) ((rd_T127 l0 x19_2).f1) ((rd_T127 l0 x19_2).f2) t105 _ A12.out).mono ?_
              rintro e w28 ⟨rfl,hb⟩
              refine ⟨_,rfl,?_⟩
              replace HO_5:=Aside0.mk (Kd.S_below zav hb)
              replace BK102:=Aside0.mk (blk_below (g:=gb102) (o:=.cells #[.string ((rd_T125 l1 x12_1).f0),.string ((rd_T125 l1 x12_1).f1),.int .i64 ((rd_T125 l1 x12_1).f2)] 125 (0,0)) zz hb)
              replace BK104:=Aside0.mk (blk_below (g:=gb104) (o:=.cells #[.string ((rd_T127 l0 x19_2).f0),.int .i64 ((rd_T127 l0 x19_2).f1),.int .i64 ((rd_T127 l0 x19_2).f2)] 127 (0,0)) zdc hb)
              replace HB:=Aside0.mk (below_step zar hb)
              (try clear hb)
              (try clear hb2)
              (try clear hk)
              (try clear hi)
              refine hK.out _ _ ⟨(blk_cell BK104.out 0).trans rfl,(blk_cell BK104.out 1).trans rfl,(blk_cell BK104.out 2).trans rfl,(blk_cell BK102.out 0).trans rfl,(blk_cell BK102.out 1).trans rfl,(blk_cell BK102.out 2).trans rfl⟩ (fun hHeld=>?_)
              clear hK K
              refine pN 34 ?_
              refine pA 13 37 ?_
              refine one_ (i:=14) (N:=some 38) #[true,true,true,true,true,true,true,true,true,true,true,true,true,true,true,false,false] rfl rfl (one_of HT_.out zbk) zbq (fun K hK=>?_)
              refine goes_ Try.func100 zbk rfl #[.slice (some ad103) l0.length c0,.string ((rd_T125 l1 x12_1).f1),.int .i64 (wrap64 (t105+((rd_T125 l1 x12_1).f2)))] (by rfl) rfl rfl zc ?_
              with_reducible refine (impl_begins.calls _ _ l0 ((rd_T125 l1 x12_1).f1) (wrap64 (t105+((rd_T125 l1 x12_1).f2))) false _ ?side1 ?side2 A13.out).mono ?_
              (case side1=>exact zbs)
              (case side2=>exact HC0.out)
              rintro e w29 ⟨rfl,hb⟩
              refine ⟨_,rfl,?_⟩
              replace HO_5:=Aside0.mk (Kd.S_below zav hb)
              replace BK102:=Aside0.mk (blk_below (g:=gb102) (o:=.cells #[.string ((rd_T125 l1 x12_1).f0),.string ((rd_T125 l1 x12_1).f1),.int .i64 ((rd_T125 l1 x12_1).f2)] 125 (0,0)) zz hb)
              replace BK104:=Aside0.mk (blk_below (g:=gb104) (o:=.cells #[.string ((rd_T127 l0 x19_2).f0),.int .i64 ((rd_T127 l0 x19_2).f1),.int .i64 ((rd_T127 l0 x19_2).f2)] 127 (0,0)) zdc hb)
              replace HB:=Aside0.mk (below_step zar hb)
              (try clear hb)
              (try clear hb2)
              (try clear hk)
              (try clear hi)
              refine hK.out _ _ ⟨(blk_cell BK104.out 0).trans rfl,(blk_cell BK104.out 1).trans rfl,(blk_cell BK104.out 2).trans rfl,(blk_cell BK102.out 0).trans rfl,(blk_cell BK102.out 1).trans rfl,(blk_cell BK102.out 2).trans rfl⟩ (fun hHeld=>?_)
              clear hK K
              refine pN 38 ?_
              refine pA 15 39 ?_
              refine pA 16 40 ?_
              refine done_ (done_of HT_.out zbk) ?_
              try go_wp2_with (first|((with_reducible refine gate_dst (N:=44) rfl ?_);refine Kd.R_lit (Kd.int .i64) _ 2 ?hg (N:=44) ?hd (xs:=([x12_1,x19_2]:List Int)) (inner:=[.int .i64 x12_1,.int .i64 x19_2]) (ok:=fun _=>True) (okp:=fun _=>True) ?hr ?hp (fun _ hk=>hk) trivial (Below.refl _ _) (Nat.le_refl _) zdd ?_;(case hd=>rfl);(case hg=>rfl);(case hr=>exact zt);(case hp=>exact (Reps.one (show Kd.M (Kd.int .i64) _ _ _ x12_1 [.int .i64 x12_1] from rfl) (Reps.one (show Kd.M (Kd.int .i64) _ _ _ x19_2 [.int .i64 x19_2] from rfl) (Reps.none _ _))));intro v108 w30 ho31 hb hg_ hnew_;clear hg_ hnew_;(first|rw [←Ny107.out] at ho31|(simp only [Int.reduceToNat] at ho31;rw [←Ny107.out] at ho31));replace HO_5:=Aside0.mk (Kd.S_elder' zav (Kd.R_base ho31) hb);have HO109:=Aside0.mk (Kd.R_lower ho31 (below_size zar));replace BK102:=Aside0.mk (blk_below (g:=gb102) (o:=.cells #[.string ((rd_T125 l1 x12_1).f0),.string ((rd_T125 l1 x12_1).f1),.int .i64 ((rd_T125 l1 x12_1).f2)] 125 (0,0)) zz hb);replace BK104:=Aside0.mk (blk_below (g:=gb104) (o:=.cells #[.string ((rd_T127 l0 x19_2).f0),.int .i64 ((rd_T127 l0 x19_2).f1),.int .i64 ((rd_T127 l0 x19_2).f2)] 127 (0,0)) zdc hb);replace HB:=Aside0.mk (below_step zar hb);clear hb ho31;obtain ⟨Ao33,co33,eo33⟩:=Kd.R_slice HO109.out;subst eo33)|((with_reducible refine gate_builtin (b:=.append) (xs:=#[.tmp 41,.tmp 45]) rfl ?_);at_builtin;refine Kd.S_append (Kd.slice 2 (Kd.int .i64)) (w0:=w) w.heap.size rfl (.tmp 41) (.tmp 45) 123 126 (.slice none 0 0) 24 rfl Try.underlying123 info126 rfl zbq zbt u5 x5_2 y107 [.slice Ao33 y107.length co33] (fun _=>True) (fun k_=>some k_=(.slice Ao33 y107.length co33:Value).ownBlock) rfl rfl ?aP (fun k_ hk_=>((Kd.R_mono (ok':=fun k_=>((fun _=>True)) k_∧some k_≠(u5:Value).ownBlock) (Kd.R_apart' (HO109.out) (Kd.S_typed HO_5.out) zbq) (fun k_ hk=>⟨trivial,hk.2⟩))).1 k_ hk_.symm) ?aF ?aO ?aB ?aS ?aL ?_;(case aP=>exact Kd.M_row (Kd.R_mono (Kd.R_tight rfl (Kd.R_mono (ok':=fun k_=>((fun _=>True)) k_∧some k_≠(u5:Value).ownBlock) (Kd.R_apart' (HO109.out) (Kd.S_typed HO_5.out) zbq) (fun k_ hk=>⟨trivial,hk.2⟩))) (fun _ h_=>h_)));(case aB=>exact zar);(case aF=>exact (fun _ _=>trivial));(case aO=>exact zdf);(case aS=>exact (below_size zar));(case aL=>have:=LMc22.out;omega);intro v111 w32 ho hb hg hat;rw [←Ny110.out] at ho;replace BK102:=Aside0.mk (blk_grown (g:=gb102) (o:=.cells #[.string ((rd_T125 l1 x12_1).f0),.string ((rd_T125 l1 x12_1).f1),.int .i64 ((rd_T125 l1 x12_1).f2)] 125 (0,0)) zz hg (Kd.S_ne HO_5.out BK102.out zbq));replace BK104:=Aside0.mk (blk_grown (g:=gb104) (o:=.cells #[.string ((rd_T127 l0 x19_2).f0),.int .i64 ((rd_T127 l0 x19_2).f1),.int .i64 ((rd_T127 l0 x19_2).f2)] 127 (0,0)) zdc hg (Kd.S_ne HO_5.out BK104.out zbq));replace HB:=Aside0.mk (hb);have HO112:=Aside0.mk (ho);clear HO_5 HO109;clear ho hb hg hat))
              go_roundg k2
              case measure=>have:=HK1.out;have:=HK2.out;omega
              case rel=>exact ⟨(y110),(wrap64 (x19_2+1)),zm,H',⟨by have:=HK1.out;have:=HK2.out;omega⟩,⟨by (with_reducible repeat (first|apply Kd.S_alloc|apply Kd.S_drewN|apply Kd.S_drew));exact HO112.out⟩,⟨zz⟩,⟨zar⟩⟩
             ·rw [if_neg c22] at H
              exact absurd H zdd
           ·rw [if_neg c11] at H
            have c11b0:(((rd_T127 l0 x19_2).f0).toList == ((rd_T125 l1 x12_1).f0).toList)=false:=beq_eq_false_iff_ne.mpr c11
            have c11b1:(((rd_T127 l0 x19_2).f0).toList != ((rd_T125 l1 x12_1).f0).toList)=true:=bne_iff_ne.mpr c11
            have H':=Aside0.mk H
            clear H
            have p103:0≤(x19_2:Int):=of_decide_eq_true zb
            have q103:x19_2<(l0.length:Int):=of_decide_eq_true zb
            obtain ⟨ad103,e103,hx103_0,hx103_1,hx103_2⟩:=at_T127 HR0.out x19_2 p103 q103
            cases e103
            replace hx103_0:=(HB.out.cell (World.block_lt_of_cell? w _ hx103_0)).trans hx103_0
            replace hx103_1:=(HB.out.cell (World.block_lt_of_cell? w _ hx103_1)).trans hx103_1
            replace hx103_2:=(HB.out.cell (World.block_lt_of_cell? w _ hx103_2)).trans hx103_2
            replace p103:=eq_true p103
            replace q103:=eq_true q103
            try go_wp2_with (first|((with_reducible refine gate_dst (N:=9) rfl ?_);refine box_event ?hg (N:=9) ?hd (cs:=#[.string (⟨#[]⟩:ByteArray),.int .i64 0,.int .i64 0]) (t:=127) ?hr ?_;(case hd=>rfl);(case hg=>rfl);(case hr=>exact zt);intro gb104 hg w34 hbox hb;have n0_:=Aside0.mk (Kd.S_below zav hb);have n1_:=Aside0.mk (blk_below (g:=gb102) (o:=.cells #[.string ((rd_T125 l1 x12_1).f0),.string ((rd_T125 l1 x12_1).f1),.int .i64 ((rd_T125 l1 x12_1).f2)] 125 (0,0)) zz hb);have n2_:=Aside0.mk (below_step zp hb);have n3_:=Aside0.mk (hbox);have n4_:=Aside0.mk ((by rw [hg];exact (below_size zp):w.heap.size≤gb104));have n5_:=Aside0.mk ((by rw [hg];exact (below_size zp):w.heap.size≤gb104));have n6_:=Aside0.mk ((by rw [hg];exact Nat.ne_of_lt (blk_lt (g:=gb102) (o:=.cells #[.string ((rd_T125 l1 x12_1).f0),.string ((rd_T125 l1 x12_1).f1),.int .i64 ((rd_T125 l1 x12_1).f2)] 125 (0,0)) zz):gb102≠gb104));have n7_:=Aside0.mk ((by rw [hg];exact Nat.ne_of_gt (blk_lt (g:=gb102) (o:=.cells #[.string ((rd_T125 l1 x12_1).f0),.string ((rd_T125 l1 x12_1).f1),.int .i64 ((rd_T125 l1 x12_1).f2)] 125 (0,0)) zz):gb104≠gb102));clear HO_5;clear BK102;clear HB;have HO_5:=n0_;have BK102:=n1_;have HB:=n2_;have BK104:=n3_;have GW104:=n4_;have GE104:=n5_;have NB102_104:=n6_;have NB104_102:=n7_;clear n0_ n1_ n2_ n3_ n4_ n5_ n6_ n7_;clear hb hbox hg;have hnb35:=NB104_102.out;have hnc35:=NB102_104.out;have hcz36_0:w34.cell? ⟨gb104,0,none⟩=some (.string (⟨#[]⟩:ByteArray)):=(blk_cell BK104.out 0).trans rfl;have hcz36_1:w34.cell? ⟨gb104,1,none⟩=some (.int .i64 0):=(blk_cell BK104.out 1).trans rfl;have hcz36_2:w34.cell? ⟨gb104,2,none⟩=some (.int .i64 0):=(blk_cell BK104.out 2).trans rfl;have hfz36_0:=blk_frozen BK104.out 0;have hfz36_1:=blk_frozen BK104.out 1;have hfz36_2:=blk_frozen BK104.out 2))
            have n0_:Aside0 (Kd.S (Kd.slice 2 (Kd.int .i64)) 126 (((w34.setCell ⟨gb104,0,none⟩ (.string ((rd_T127 l0 x19_2).f0))).setCell ⟨gb104,1,none⟩ (.int .i64 ((rd_T127 l0 x19_2).f1))).setCell ⟨gb104,2,none⟩ (.int .i64 ((rd_T127 l0 x19_2).f2))) w.heap.size (fun _=>True) u5 x5_2):=⟨zcl⟩
            have n1_:Aside0 ((((w34.setCell ⟨gb104,0,none⟩ (.string ((rd_T127 l0 x19_2).f0))).setCell ⟨gb104,1,none⟩ (.int .i64 ((rd_T127 l0 x19_2).f1))).setCell ⟨gb104,2,none⟩ (.int .i64 ((rd_T127 l0 x19_2).f2))).heap[gb102]?=some (.cells #[.string ((rd_T125 l1 x12_1).f0),.string ((rd_T125 l1 x12_1).f1),.int .i64 ((rd_T125 l1 x12_1).f2)] 125 (0,0))):=⟨zbu⟩
            have n2_:Aside0 ((((w34.setCell ⟨gb104,0,none⟩ (.string ((rd_T127 l0 x19_2).f0))).setCell ⟨gb104,1,none⟩ (.int .i64 ((rd_T127 l0 x19_2).f1))).setCell ⟨gb104,2,none⟩ (.int .i64 ((rd_T127 l0 x19_2).f2))).heap[gb104]?=some (.cells #[.string ((rd_T127 l0 x19_2).f0),.int .i64 ((rd_T127 l0 x19_2).f1),.int .i64 ((rd_T127 l0 x19_2).f2)] 127 (0,0))):=⟨zbb⟩
            have n3_:Aside0 (Below w.heap.size w (((w34.setCell ⟨gb104,0,none⟩ (.string ((rd_T127 l0 x19_2).f0))).setCell ⟨gb104,1,none⟩ (.int .i64 ((rd_T127 l0 x19_2).f1))).setCell ⟨gb104,2,none⟩ (.int .i64 ((rd_T127 l0 x19_2).f2)))):=⟨zar⟩
            (try clear HO_5)
            (try clear BK102)
            (try clear BK104)
            (try clear HB)
            generalize (((w34.setCell ⟨gb104,0,none⟩ (.string ((rd_T127 l0 x19_2).f0))).setCell ⟨gb104,1,none⟩ (.int .i64 ((rd_T127 l0 x19_2).f1))).setCell ⟨gb104,2,none⟩ (.int .i64 ((rd_T127 l0 x19_2).f2)))=w37 at n0_ n1_ n2_ n3_ ⊢
            have HO_5:=n0_
            have BK102:=n1_
            have BK104:=n2_
            have HB:=n3_
            clear n0_ n1_ n2_ n3_
            replace HO_5:=Aside0.mk (Kd.S_drew HO_5.out)
            replace BK102:=Aside0.mk (blk_drew BK102.out)
            replace BK104:=Aside0.mk (blk_drew BK104.out)
            replace HB:=Aside0.mk (below_drew1 HB.out)
            refine start_ (n:=17) (S:=fun w'=>w'.cell? ⟨gb104,0,none⟩=some (.string ((rd_T127 l0 x19_2).f0))∧w'.cell? ⟨gb104,1,none⟩=some (.int .i64 ((rd_T127 l0 x19_2).f1))∧w'.cell? ⟨gb104,2,none⟩=some (.int .i64 ((rd_T127 l0 x19_2).f2))∧w'.cell? ⟨gb102,0,none⟩=some (.string ((rd_T125 l1 x12_1).f0))∧w'.cell? ⟨gb102,1,none⟩=some (.string ((rd_T125 l1 x12_1).f1))∧w'.cell? ⟨gb102,2,none⟩=some (.int .i64 ((rd_T125 l1 x12_1).f2))) (ds:=[]) #[false,false,false,false,false,false,false,false,false,false,false,false,false,false,false,false,false] zbk rfl rfl ⟨(blk_cell BK104.out 0).trans rfl,(blk_cell BK104.out 1).trans rfl,(blk_cell BK104.out 2).trans rfl,(blk_cell BK102.out 0).trans rfl,(blk_cell BK102.out 1).trans rfl,(blk_cell BK102.out 2).trans rfl⟩ (fun hHeld=>?_);refine with_tabW impl_missed.tab8 impl_missed.bits8 (fun HT_ HW_=>?_)
            generalize w37.drew=w38 at HO_5 BK102 BK104 HB hHeld ⊢
            refine pA 0 24 ?_
            refine pA 2 26 ?_
            refine pT 1 25 rfl zao ?_
            refine pT 3 27 rfl zao ?_
            refine pA 4 28 ?_
            refine pA 5 29 ?_
            refine pU 6 30 ?_
            refine pU 7 31 ?_
            refine pU 8 32 ?_
            refine pU 9 33 ?_
            refine pU 10 34 ?_
            refine pU 11 35 ?_
            refine pU 12 36 ?_
            refine pU 13 37 ?_
            refine pU 14 38 ?_
            refine pU 15 39 ?_
            refine pA 16 40 ?_
            refine done_ (done_of HT_.out zbk) ?_
            try go_wp2
            go_roundg k2
            case measure=>have:=HK1.out;have:=HK2.out;omega
            case rel=>exact ⟨(x5_2),(wrap64 (x19_2+1)),zm,H',⟨by have:=HK1.out;have:=HK2.out;omega⟩,⟨zav⟩,⟨zz⟩,⟨zar⟩⟩
          ·rw [if_neg c10] at H
           exact absurd H zdd
         ·rw [if_neg c9] at H
          exact absurd H zdd
        ·rw [if_neg c8] at H
         have c8b0:decide (x19_2<(l0.length:Int))=false:=decide_eq_false c8
         clear c8
         have H':=Aside0.mk H
         clear H
         go_wp2
         go_roundg k2
         case measure=>have:=HK1.out;have:=HK2.out;omega
         case rel=>exact ⟨(x5_2),(wrap64 (x12_1+1)),zm,H',⟨by have:=HK1.out;have:=HK2.out;omega⟩,⟨zav⟩,⟨zp⟩⟩
     ·rw [if_neg c5] at H
      exact absurd H zdd
    ·rw [if_neg c4] at H
     exact absurd H zdd
   ·rw [if_neg c3] at H
    have c3b0:decide (x12_1<(l1.length:Int))=false:=decide_eq_false c3
    clear c3
    obtain rfl:=Option.some.inj H
    go_wp2
    go_ret
    exact ⟨_,zk,zav,za⟩
end Go.Proofs.Ytocegmkifmdlcaa.P
