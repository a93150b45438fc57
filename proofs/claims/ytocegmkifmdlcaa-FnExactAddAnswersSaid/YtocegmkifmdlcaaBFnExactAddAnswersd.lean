/- Part d of what FnExactAddAnswers stands on: functions of the program as Lean functions with their walks, and plain lemmas. -/
import Derived.Test.YtocegmkifmdlcaaBFnExactAddAnswersa
import Derived.Test.YtocegmkifmdlcaaK
import Derived.Test.YtocegmkifmdlcaaBFnExactAddAnswersb
import Derived.Test.YtocegmkifmdlcaaBFnExactAddAnswersc
namespace Go.Proofs.Ytocegmkifmdlcaa.P
open Go.RowKit Go.Proofs.YtocegmkifmdlcaaW.PrintWords Go.Proofs.YtocegmkifmdlcaaW.PrintLast Go.Proofs.YtocegmkifmdlcaaW.PrintMore
attribute [local go_sem] max2_int min2_int max_two min_two max_three min_three max_four min_four str_leq str_gtr str_geq
set_option linter.unusedVariables false
set_option linter.unusedSimpArgs false
mutual
def impl_AddAnswers.j0:Nat→List (S127)→List (S125)→Int→Bool→Option ((List (S127)) × Int)
 | 0,_,_,_,_=>none
 | k+1,x0,x1,x2,x16=>if x16=true then (some (([]:List (S127)),1)) else ((impl_within.f x2 1 10000).bind fun t103=>(if t103=true then ((slices_Clone_S_impl_Turn.f x0).bind fun t104=>((impl_missed.f k x0 x1).bind fun t107=>(impl_AddAnswers.l0 k x0 x1 x2 t104 t107 (t107.length:Int) 0))) else (some (([]:List (S127)),2))))
def impl_AddAnswers.l0:Nat→List (S127)→List (S125)→Int→List (S127)→List (List Int)→Int→Int→Option ((List (S127)) × Int)
 | 0,_,_,_,_,_,_,_=>none
 | k+1,x0,x1,x2,x8,x33,x34,x35=>if x35<x34 then (if 0≤x35 then (if x35<(x33.length:Int) then (if 0<((rd_L6 x33 x35).length:Int) then (if 0≤(rd (rd_L6 x33 x35) 0) then (if (rd (rd_L6 x33 x35) 0)<(x1.length:Int) then (if 1<((rd_L6 x33 x35).length:Int) then (if 0≤(rd (rd_L6 x33 x35) 1) then (if (rd (rd_L6 x33 x35) 1)<(x0.length:Int) then ((impl_Turn_end.f ((rd_T127 x0 (rd (rd_L6 x33 x35) 1)).f0) ((rd_T127 x0 (rd (rd_L6 x33 x35) 1)).f1) ((rd_T127 x0 (rd (rd_L6 x33 x35) 1)).f2)).bind fun t117=>((impl_begins.f x8 ((rd_T125 x1 (rd (rd_L6 x33 x35) 0)).f1) (wrap64 (t117+((rd_T125 x1 (rd (rd_L6 x33 x35) 0)).f2)))).bind fun t119=>(if t119=true then (impl_AddAnswers.l0 k x0 x1 x2 x8 x33 x34 (wrap64 (x35+1))) else ((impl_Turn_valid.f k ((rd_T125 x1 (rd (rd_L6 x33 x35) 0)).f1) (wrap64 (t117+((rd_T125 x1 (rd (rd_L6 x33 x35) 0)).f2))) x2).bind fun t120=>(if t120=true then ((slices_BinarySearchFunc_S_impl_Turn.f k x8 ((rd_T125 x1 (rd (rd_L6 x33 x35) 0)).f1) (wrap64 (t117+((rd_T125 x1 (rd (rd_L6 x33 x35) 0)).f2))) x2 0).bind fun bt121=>((slices_Insert_S_impl_Turn.f x8 bt121.1 (([(⟨(rd_T125 x1 (rd (rd_L6 x33 x35) 0)).f1,wrap64 (t117+((rd_T125 x1 (rd (rd_L6 x33 x35) 0)).f2)),x2⟩:S127)]:List (S127)))).bind fun t126=>(impl_AddAnswers.l0 k x0 x1 x2 t126 x33 x34 (wrap64 (x35+1))))) else (some (([]:List (S127)),6))))))) else (none)) else (none)) else (none)) else (none)) else (none)) else (none)) else (none)) else (none)) else (if (x8.length:Int) > 24 then (some (([]:List (S127)),5)) else (some (x8,0)))
end
def impl_AddAnswers.f (k:Nat) (l0:List (S127)) (l1:List (S125)) (a2:Int):Option ((List (S127)) × Int):=(impl_ValidTurns.f k l0).bind fun t101=>(if t101=true then ((impl_answersOk.f k l1).bind fun t102=>(impl_AddAnswers.j0 k l0 l1 a2 (!t102))) else (impl_AddAnswers.j0 k l0 l1 a2 true))
def impl_AddAnswers.T9:Bool × List (List Nat × List Nat):=(true,[([],[]),([],[]),([1],[1]),([2],[2]),([0,3],[0,3]),([4],[4]),([],[]),([],[]),([7],[7]),([8],[8]),([6,9],[6,9]),([10],[10]),([],[]),([],[]),([12,5,0,1,2,3,4,5,12,13],[5,12]),([13,11,14,0,1,2,3,4,5,6,7,8,9,10,11,12,13,14],[11,13])])
def impl_AddAnswers.B9:List Nat:=[0,0,2,6,15,31,0,0,128,384,960,1984,0,0,12351,32767]
theorem impl_AddAnswers.tab9:rtab .any (opsOf Try.f41 9)=impl_AddAnswers.T9:=by kernel_rfl
theorem impl_AddAnswers.bits9:waitsOk impl_AddAnswers.T9.2 impl_AddAnswers.B9=true:=by kernel_rfl
def impl_AddAnswers.T10:Bool × List (List Nat × List Nat):=(true,[([],[]),([0],[0]),([],[]),([2],[2]),([],[]),([4],[4]),([3,5],[3,5]),([],[]),([1,6,7],[1,6,7]),([],[]),([9,8,3,0,1,2,3,4,5,6,7,8,9],[8,9])])
def impl_AddAnswers.B10:List Nat:=[0,1,0,4,0,16,60,0,255,0,1023]
theorem impl_AddAnswers.tab10:rtab .any (opsOf Try.f41 10)=impl_AddAnswers.T10:=by kernel_rfl
theorem impl_AddAnswers.bits10:waitsOk impl_AddAnswers.T10.2 impl_AddAnswers.B10=true:=by kernel_rfl
set_option maxHeartbeats 8000000 in
set_option maxRecDepth 100000 in
theorem impl_AddAnswers.calls (k:Nat) (A0:Option Addr) (c0:Nat) (l0:List (S127)) (A1:Option Addr) (c1:Nat) (l1:List (S125)) (a2:Int) (r1:List (S127)) (r2:Int) (w:World) (hr0:Kd.C k127 w A0 l0.length l0) (hc0:l0.length≤c0) (hr1:Kd.C k125 w A1 l1.length l1) (hc1:l1.length≤c1) (h:impl_AddAnswers.f k l0 l1 a2=some (r1,r2)) :
 Calls Try.prog 41 #[.slice A0 l0.length c0,.slice A1 l1.length c1,.int .i64 a2] w fun e w'=>∃v0_:Value,e = .returned (.tuple #[v0_,.int .i64 r2])∧Kd.R k127 127 w' w.heap.size (fun _=>True) v0_ r1∧Below w.heap.size w w':=by
 have hu125:=Try.underlying125
 have hu127:=Try.underlying127
 have HR0:=Aside0.mk hr0
 have HC0:=Aside0.mk hc0
 clear hr0 hc0
 have HR1:=Aside0.mk hr1
 have HC1:=Aside0.mk hc1
 clear hr1 hc1
 have HB:=Aside0.mk (Below.refl w.heap.size w)
 have H:((impl_ValidTurns.f k l0).bind fun t101=>(if t101=true then ((impl_answersOk.f k l1).bind fun t102=>(impl_AddAnswers.j0 k l0 l1 a2 (!t102))) else (impl_AddAnswers.j0 k l0 l1 a2 true)))=some (r1,r2):=h
 clear h
 have HC4:=Aside0.mk H
 clear H
 go_enter Try.func41,Try.ntmps41
 go_upto_region 1 with (fail)
 go_cut [16] (fun v16 wc=>∃(kq:Nat) (x16_3:Bool),v16 = .bool x16_3∧Aside0 (impl_AddAnswers.j0 kq l0 l1 a2 x16_3=some (r1,r2))∧Aside0 (kq≤k)∧Aside0 (Below w.heap.size w wc))
 case first=>
  have H:=HC4.out
  clear HC4
  replace H:=Option.bind_eq_some_iff.mp H
  obtain ⟨t101,A50,H⟩:=H
  replace H:(if t101=true then ((impl_answersOk.f k l1).bind fun t102=>(impl_AddAnswers.j0 k l0 l1 a2 (!t102))) else (impl_AddAnswers.j0 k l0 l1 a2 true))=some (r1,r2):=H
  have A5:=Aside0.mk A50
  clear A50
  by_cases c6:t101=true
  ·subst c6
   have H1:((impl_answersOk.f k l1).bind fun t102=>(impl_AddAnswers.j0 k l0 l1 a2 (!t102)))=some (r1,r2):=by rw [if_pos rfl] at H;exact H
   clear H
   have H:=H1
   clear H1
   replace H:=Option.bind_eq_some_iff.mp H
   obtain ⟨t102,A70,H⟩:=H
   replace H:(impl_AddAnswers.j0 k l0 l1 a2 (!t102))=some (r1,r2):=H
   have A7:=Aside0.mk A70
   clear A70
   have H':=Aside0.mk H
   clear H
   go_wp2_with (first|((with_reducible refine gate_callee (f:=94) rfl ?_);refine goesL_ (some 18) rfl rfl Try.func94 zbk rfl #[.slice A0 l0.length c0] rfl zc ?_;(with_reducible refine (impl_ValidTurns.calls k _ _ l0 true _ ?side1 ?side2 A5.out).mono ?_);(case side1=>exact zbs);(case side2=>exact HC0.out);rintro e w8 ⟨rfl,hb⟩;refine ⟨_,rfl,?_⟩;replace HB:=Aside0.mk (below_step za hb);(try clear hb);(try clear hb2);(try clear hk);(try clear hi))|(go_at_call 95;(with_reducible refine (impl_answersOk.calls k _ _ l1 t102 _ ?side1 ?side2 A7.out).mono ?_);(case side1=>repeat (first|exact (Kd.C_below HR1.out HB.out)|(with_reducible refine Kd.C_alloc ?_ _)|(with_reducible refine Kd.C_drewN ?_ _)|(with_reducible refine Kd.C_drew ?_)));(case side2=>exact HC1.out);rintro e w9 ⟨rfl,hb⟩;replace HB:=Aside0.mk (below_step za hb);(try clear hb);(try clear hb2);(try clear hk);(try clear hi)))
   go_meet
   case rel=>exact ⟨_,(!t102),zm,H',⟨by first|omega|exact Nat.le_refl _⟩,⟨za⟩⟩
  ·replace c6:=Bool.eq_false_iff.mpr c6
   subst c6
   have H1:(impl_AddAnswers.j0 k l0 l1 a2 true)=some (r1,r2):=by rw [if_neg (show ¬ (false=true) by decide)] at H;exact H
   clear H
   have H:=H1
   clear H1
   have H':=Aside0.mk H
   clear H
   go_wp2_with (first|((with_reducible refine gate_callee (f:=94) rfl ?_);refine goesL_ (some 18) rfl rfl Try.func94 zbk rfl #[.slice A0 l0.length c0] rfl zc ?_;(with_reducible refine (impl_ValidTurns.calls k _ _ l0 false _ ?side1 ?side2 A5.out).mono ?_);(case side1=>exact zbs);(case side2=>exact HC0.out);rintro e w10 ⟨rfl,hb⟩;refine ⟨_,rfl,?_⟩;replace HB:=Aside0.mk (below_step za hb);(try clear hb);(try clear hb2);(try clear hk);(try clear hi)))
   go_meet
   case rel=>exact ⟨_,(true),zm,H',⟨by first|omega|exact Nat.le_refl _⟩,⟨za⟩⟩
 case rest=>
  clear HC4
  try clear c1
  try clear p2
  try clear c4
  try clear c6
  try clear c9
  obtain ⟨kq,x16_3,rfl,HA,HJ3,HB⟩:=hcut
  cases kq with
  | zero=>exact absurd HA.out (by simp [impl_AddAnswers.j0])
  | succ kj3=>
   have H:=HA.out
   clear HA
   simp only [impl_AddAnswers.j0] at H
   by_cases c11:x16_3=true
   ·subst c11
    have H1:(some (([]:List (S127)),1))=some (r1,r2):=by rw [if_pos rfl] at H;exact H
    clear H
    have H:=H1
    clear H1
    simp only [Option.some.injEq,Prod.mk.injEq] at H
    obtain ⟨rfl,rfl⟩:=H
    go_wp2
    go_ret2
    exact ⟨_,zk,zct,za⟩
   ·replace c11:=Bool.eq_false_iff.mpr c11
    subst c11
    have H1:((impl_within.f a2 1 10000).bind fun t103=>(if t103=true then ((slices_Clone_S_impl_Turn.f l0).bind fun t104=>((impl_missed.f kj3 l0 l1).bind fun t107=>(impl_AddAnswers.l0 kj3 l0 l1 a2 t104 t107 (t107.length:Int) 0))) else (some (([]:List (S127)),2))))=some (r1,r2):=by rw [if_neg (show ¬ (false=true) by decide)] at H;exact H
    clear H
    have H:=H1
    clear H1
    replace H:=Option.bind_eq_some_iff.mp H
    obtain ⟨t103,A120,H⟩:=H
    replace H:(if t103=true then ((slices_Clone_S_impl_Turn.f l0).bind fun t104=>((impl_missed.f kj3 l0 l1).bind fun t107=>(impl_AddAnswers.l0 kj3 l0 l1 a2 t104 t107 (t107.length:Int) 0))) else (some (([]:List (S127)),2)))=some (r1,r2):=H
    have A12:=Aside0.mk A120
    clear A120
    by_cases c13:t103=true
    ·subst c13
     have H1:((slices_Clone_S_impl_Turn.f l0).bind fun t104=>((impl_missed.f kj3 l0 l1).bind fun t107=>(impl_AddAnswers.l0 kj3 l0 l1 a2 t104 t107 (t107.length:Int) 0)))=some (r1,r2):=by rw [if_pos rfl] at H;exact H
     clear H
     have H:=H1
     clear H1
     replace H:=Option.bind_eq_some_iff.mp H
     obtain ⟨t104,A140,H⟩:=H
     replace H:((impl_missed.f kj3 l0 l1).bind fun t107=>(impl_AddAnswers.l0 kj3 l0 l1 a2 t104 t107 (t107.length:Int) 0))=some (r1,r2):=H
     have A14:=Aside0.mk A140
     clear A140
     replace H:=Option.bind_eq_some_iff.mp H
     obtain ⟨t107,A150,H⟩:=H
     replace H:(impl_AddAnswers.l0 kj3 l0 l1 a2 t104 t107 (t107.length:Int) 0)=some (r1,r2):=H
     have A15:=Aside0.mk A150
     clear A150
     have H':=Aside0.mk H
     clear H
     go_wp2_with (first|((with_reducible refine gate_callee (f:=96) rfl ?_);refine goesL_ (some 27) rfl rfl Try.func96 zbk rfl #[.int .i64 a2,.int .i64 1,.int .i64 10000] rfl zc ?_;(with_reducible refine (impl_within.calls a2 1 10000 true _ A12.out).mono ?_);rintro e w' ⟨rfl,⟨nd,rfl⟩⟩;refine ⟨_,rfl,?_⟩)|((with_reducible refine gate_callee (f:=97) rfl ?_);refine goesL_ (some 30) rfl rfl Try.func97 zbk rfl #[.slice A0 l0.length c0] rfl zc ?_;(with_reducible refine (slices_Clone_S_impl_Turn.calls _ _ l0 t104 _ ?side1 ?side2 A14.out).mono ?_);(case side1=>repeat (first|exact (Kd.C_below HR0.out za)|(with_reducible refine Kd.C_alloc ?_ _)|(with_reducible refine Kd.C_drewN ?_ _)|(with_reducible refine Kd.C_drew ?_)));(case side2=>exact HC0.out);rintro e w16 ⟨v105,rfl,ho0,hb⟩;refine ⟨_,rfl,?_⟩;have HO106:=Aside0.mk (Kd.R_lower ho0 (below_size za));replace HB:=Aside0.mk (below_step za hb);(try clear hb);(try clear hb2);(try clear hk);(try clear hi);(try clear ho0))|((with_reducible refine gate_callee (f:=98) rfl ?_);refine goesL_ (some 33) rfl rfl Try.func98 zbk rfl #[.slice A0 l0.length c0,.slice A1 l1.length c1] rfl zc ?_;(with_reducible refine (impl_missed.calls kj3 _ _ l0 _ _ l1 t107 _ ?side1 ?side2 ?side3 ?side4 A15.out).mono ?_);(case side1=>exact zbs);(case side2=>exact HC0.out);(case side3=>repeat (first|exact (Kd.C_below HR1.out HB.out)|(with_reducible refine Kd.C_alloc ?_ _)|(with_reducible refine Kd.C_drewN ?_ _)|(with_reducible refine Kd.C_drew ?_)));(case side4=>exact HC1.out);rintro e w17 ⟨v108,rfl,ho0,hb⟩;refine ⟨_,rfl,?_⟩;replace HO106:=Aside0.mk (Kd.R_below (by (with_reducible repeat (first|apply Kd.R_alloc|apply Kd.R_drewN|apply Kd.R_drew));exact HO106.out) hb);have HO109:=Aside0.mk (Kd.S_lower ho0 (below_size za));replace HB:=Aside0.mk (below_step za hb);(try clear hb);(try clear hb2);(try clear hk);(try clear hi);(try clear ho0);obtain ⟨Ao18,co18,eo18⟩:=Kd.S_slice HO109.out;subst eo18))
     go_loopg [8,35] kj3 (fun kq v8 v35 w'=>∃(x8_2:List (S127)) (x35_2:Int),v35 = .int .i64 x35_2∧Aside0 (impl_AddAnswers.l0 kq l0 l1 a2 x8_2 t107 (t107.length:Int) x35_2=some (r1,r2))∧Aside0 (kq≤kj3)∧Aside0 (Kd.R k127 127 w' w.heap.size (fun _=>True) v8 x8_2)∧Aside0 (Kd.S (Kd.slice 2 (Kd.int .i64)) 126 w' w.heap.size (fun _=>True) (.slice Ao18 t107.length co18) t107)∧Aside0 (Below w.heap.size w w'))
     case atStart=>exact ⟨(t104),(0),zm,H',⟨Nat.le_refl _⟩,⟨by (with_reducible repeat (first|apply Kd.R_alloc|apply Kd.R_drewN|apply Kd.R_drew));exact HO106.out⟩,⟨by (with_reducible repeat (first|apply Kd.S_alloc|apply Kd.S_drewN|apply Kd.S_drew));exact HO109.out⟩,⟨za⟩⟩
     case round=>
      clear H'
      try clear c1
      try clear p2
      try clear c4
      try clear c6
      try clear c9
      try clear c11
      try clear c13
      try clear p2
      obtain ⟨x8_2,x35_2,rfl,HA,HK2,HO_8,HO_33,HB⟩:=hrel
      cases gk with
      | zero=>exact absurd HA.out (by simp [impl_AddAnswers.l0])
      | succ k2=>
       have H:=HA.out
       clear HA
       simp only [impl_AddAnswers.l0] at H
       by_cases c19:x35_2<(t107.length:Int)
       ·rw [if_pos c19] at H
        have c19b0:decide (x35_2<(t107.length:Int))=true:=decide_eq_true c19
        clear c19
        by_cases c20:0≤x35_2
        ·rw [if_pos c20] at H
         have c20b0:decide (0≤x35_2)=true:=decide_eq_true c20
         clear c20
         by_cases c21:x35_2<(t107.length:Int)
         ·rw [if_pos c21] at H
          have c21b0:decide (x35_2<(t107.length:Int))=true:=decide_eq_true c21
          clear c21
          by_cases c22:0<((rd_L6 t107 x35_2).length:Int)
          ·rw [if_pos c22] at H
           have c22b0:decide (0<((rd_L6 t107 x35_2).length:Int))=true:=decide_eq_true c22
           have c22b1:decide (0<(rd_L6 t107 x35_2).length)=true:=decide_eq_true zbt
           clear c22
           by_cases c23:0≤(rd (rd_L6 t107 x35_2) 0)
           ·rw [if_pos c23] at H
            have c23b0:decide (0≤(rd (rd_L6 t107 x35_2) 0))=true:=decide_eq_true c23
            clear c23
            by_cases c24:(rd (rd_L6 t107 x35_2) 0)<(l1.length:Int)
            ·rw [if_pos c24] at H
             have c24b0:decide ((rd (rd_L6 t107 x35_2) 0)<(l1.length:Int))=true:=decide_eq_true c24
             clear c24
             by_cases c25:1<((rd_L6 t107 x35_2).length:Int)
             ·rw [if_pos c25] at H
              have c25b0:decide (1<((rd_L6 t107 x35_2).length:Int))=true:=decide_eq_true c25
              have c25b1:decide (1<(rd_L6 t107 x35_2).length)=true:=decide_eq_true zbt
              clear c25
              by_cases c26:0≤(rd (rd_L6 t107 x35_2) 1)
              ·rw [if_pos c26] at H
               have c26b0:decide (0≤(rd (rd_L6 t107 x35_2) 1))=true:=decide_eq_true c26
               clear c26
               by_cases c27:(rd (rd_L6 t107 x35_2) 1)<(l0.length:Int)
               ·rw [if_pos c27] at H
                have c27b0:decide ((rd (rd_L6 t107 x35_2) 1)<(l0.length:Int))=true:=decide_eq_true c27
                clear c27
                replace H:=Option.bind_eq_some_iff.mp H
                obtain ⟨t117,A280,H⟩:=H
                replace H:((impl_begins.f x8_2 ((rd_T125 l1 (rd (rd_L6 t107 x35_2) 0)).f1) (wrap64 (t117+((rd_T125 l1 (rd (rd_L6 t107 x35_2) 0)).f2)))).bind fun t119=>(if t119=true then (impl_AddAnswers.l0 k2 l0 l1 a2 x8_2 t107 (t107.length:Int) (wrap64 (x35_2+1))) else ((impl_Turn_valid.f k2 ((rd_T125 l1 (rd (rd_L6 t107 x35_2) 0)).f1) (wrap64 (t117+((rd_T125 l1 (rd (rd_L6 t107 x35_2) 0)).f2))) a2).bind fun t120=>(if t120=true then ((slices_BinarySearchFunc_S_impl_Turn.f k2 x8_2 ((rd_T125 l1 (rd (rd_L6 t107 x35_2) 0)).f1) (wrap64 (t117+((rd_T125 l1 (rd (rd_L6 t107 x35_2) 0)).f2))) a2 0).bind fun bt121=>((slices_Insert_S_impl_Turn.f x8_2 bt121.1 (([(⟨(rd_T125 l1 (rd (rd_L6 t107 x35_2) 0)).f1,wrap64 (t117+((rd_T125 l1 (rd (rd_L6 t107 x35_2) 0)).f2)),a2⟩:S127)]:List (S127)))).bind fun t126=>(impl_AddAnswers.l0 k2 l0 l1 a2 t126 t107 (t107.length:Int) (wrap64 (x35_2+1))))) else (some (([]:List (S127)),6))))))=some (r1,r2):=H
                have A28:=Aside0.mk A280
                clear A280
                replace H:=Option.bind_eq_some_iff.mp H
                obtain ⟨t119,A290,H⟩:=H
                replace H:(if t119=true then (impl_AddAnswers.l0 k2 l0 l1 a2 x8_2 t107 (t107.length:Int) (wrap64 (x35_2+1))) else ((impl_Turn_valid.f k2 ((rd_T125 l1 (rd (rd_L6 t107 x35_2) 0)).f1) (wrap64 (t117+((rd_T125 l1 (rd (rd_L6 t107 x35_2) 0)).f2))) a2).bind fun t120=>(if t120=true then ((slices_BinarySearchFunc_S_impl_Turn.f k2 x8_2 ((rd_T125 l1 (rd (rd_L6 t107 x35_2) 0)).f1) (wrap64 (t117+((rd_T125 l1 (rd (rd_L6 t107 x35_2) 0)).f2))) a2 0).bind fun bt121=>((slices_Insert_S_impl_Turn.f x8_2 bt121.1 (([(⟨(rd_T125 l1 (rd (rd_L6 t107 x35_2) 0)).f1,wrap64 (t117+((rd_T125 l1 (rd (rd_L6 t107 x35_2) 0)).f2)),a2⟩:S127)]:List (S127)))).bind fun t126=>(impl_AddAnswers.l0 k2 l0 l1 a2 t126 t107 (t107.length:Int) (wrap64 (x35_2+1))))) else (some (([]:List (S127)),6)))))=some (r1,r2):=H
                have A29:=Aside0.mk A290
                clear A290
                by_cases c30:t119=true
                ·subst c30
                 have H1:(impl_AddAnswers.l0 k2 l0 l1 a2 x8_2 t107 (t107.length:Int) (wrap64 (x35_2+1)))=some (r1,r2):=by rw [if_pos rfl] at H;exact H
                 clear H
                 have H:=H1
                 clear H1
                 have H':=Aside0.mk H
                 clear H
                 have p110:0≤(x35_2:Int):=of_decide_eq_true zb
                 have q110:x35_2<(t107.length:Int):=of_decide_eq_true zb
                 obtain ⟨ad110,A110_0,c110_0,e110,hx110_0,hl110_0,hi110_0⟩:=at_L6 (Kd.S_reads' HO_33.out).2.2 x35_2 p110 q110
                 cases e110
                 obtain ⟨ce110,hce110,hMe110,hcc110⟩:=Kd.S_get HO_33.out [] x35_2 p110 (by first|exact q110|exact of_decide_eq_true zb|(have e_:=(Kd.S_reads' HO_33.out).1;omega))
                 obtain ⟨ve110_0,rfl,ge110_0⟩:=hMe110
                 have hv110_0:=hcc110 0 _ rfl
                 rw [Nat.add_zero,show ((Kd.slice 2 (Kd.int .i64))).sz=1 from rfl,Nat.mul_one] at hv110_0
                 replace hv110_0:=Option.some.inj (hv110_0.symm.trans hx110_0)
                 rw [hv110_0] at ge110_0
                 have HL110_0:=Aside0.mk (show Kd.R (Kd.int .i64) 2 _ _ _ _ (rd_L6 t107 x35_2) from ge110_0)
                 clear hv110_0 ge110_0
                 clear hcc110 hce110
                 have HR110_0:=Aside0.mk hi110_0
                 have HC110_0:=Aside0.mk hl110_0
                 clear hi110_0 hl110_0
                 replace p110:=eq_true p110
                 replace q110:=eq_true q110
                 try go_wp2
                 replace HO_8:=Aside0.mk (Kd.R_drew HO_8.out)
                 replace HO_33:=Aside0.mk (Kd.S_drew HO_33.out)
                 replace HL110_0:=Aside0.mk (Kd.R_drew HL110_0.out)
                 replace HR110_0:=Aside0.mk (Kd.C_drew HR110_0.out)
                 replace HB:=Aside0.mk (below_drew1 HB.out)
                 have p111:0≤(0:Int):=zbt
                 have q111:0<((rd_L6 t107 x35_2).length:Int):=of_decide_eq_true zb
                 obtain ⟨ad111,e111,hx111_0⟩:=Kd.at_int zae 0 p111 q111
                 cases e111
                 have qi111:(0<(rd_L6 t107 x35_2).length)=True:=eq_true zbt
                 (try rw [show ((0:Int)).toNat=0 from rfl] at hx111_0)
                 (try rw [Addr.add_zero'] at hx111_0)
                 replace p111:=eq_true p111
                 replace q111:=eq_true q111
                 have p112:0≤((rd (rd_L6 t107 x35_2) 0):Int):=of_decide_eq_true zb
                 have q112:(rd (rd_L6 t107 x35_2) 0)<(l1.length:Int):=of_decide_eq_true zb
                 obtain ⟨ad112,e112,hx112_0,hx112_1,hx112_2⟩:=at_T125 HR1.out (rd (rd_L6 t107 x35_2) 0) p112 q112
                 have hw112_2:=hx112_2
                 have hw112_1:=hx112_1
                 have hw112_0:=hx112_0
                 cases e112
                 replace hx112_0:=(HB.out.cell (World.block_lt_of_cell? w _ hx112_0)).trans hx112_0
                 replace hx112_1:=(HB.out.cell (World.block_lt_of_cell? w _ hx112_1)).trans hx112_1
                 replace hx112_2:=(HB.out.cell (World.block_lt_of_cell? w _ hx112_2)).trans hx112_2
                 replace p112:=eq_true p112
                 replace q112:=eq_true q112
                 have p113:0≤(1:Int):=zbt
                 have q113:1<((rd_L6 t107 x35_2).length:Int):=of_decide_eq_true zb
                 obtain ⟨ad113,e113,hx113_0⟩:=Kd.at_int zae 1 p113 q113
                 obtain rfl:ad111=ad113:=(by injection e113)
                 (try simp only [show (1:Int).toNat=1 from rfl,Nat.reduceMul,Nat.reduceEqDiff,Go.Addr.add,↓reduceIte] at hx113_0)
                 have qi113:(1<(rd_L6 t107 x35_2).length)=True:=eq_true zbt
                 (try rw [show ((1:Int)).toNat=1 from rfl] at hx113_0)
                 replace p113:=eq_true p113
                 replace q113:=eq_true q113
                 have p114:0≤((rd (rd_L6 t107 x35_2) 1):Int):=of_decide_eq_true zb
                 have q114:(rd (rd_L6 t107 x35_2) 1)<(l0.length:Int):=of_decide_eq_true zb
                 obtain ⟨ad114,e114,hx114_0,hx114_1,hx114_2⟩:=at_T127 HR0.out (rd (rd_L6 t107 x35_2) 1) p114 q114
                 have hw114_2:=hx114_2
                 have hw114_1:=hx114_1
                 have hw114_0:=hx114_0
                 cases e114
                 replace hx114_0:=(HB.out.cell (World.block_lt_of_cell? w _ hx114_0)).trans hx114_0
                 replace hx114_1:=(HB.out.cell (World.block_lt_of_cell? w _ hx114_1)).trans hx114_1
                 replace hx114_2:=(HB.out.cell (World.block_lt_of_cell? w _ hx114_2)).trans hx114_2
                 replace p114:=eq_true p114
                 replace q114:=eq_true q114
                 refine start_ (n:=16) (S:=fun w'=>w'.cell? ad111=some (.int .i64 (rd (rd_L6 t107 x35_2) 0))∧w'.cell? (ad112.add (((rd (rd_L6 t107 x35_2) 0)).toNat*3))=some (.string ((rd_T125 l1 (rd (rd_L6 t107 x35_2) 0)).f0))∧w'.cell? ⟨(ad112.add (((rd (rd_L6 t107 x35_2) 0)).toNat*3)).block,(ad112.add (((rd (rd_L6 t107 x35_2) 0)).toNat*3)).off+1,none⟩=some (.string ((rd_T125 l1 (rd (rd_L6 t107 x35_2) 0)).f1))∧w'.cell? ⟨(ad112.add (((rd (rd_L6 t107 x35_2) 0)).toNat*3)).block,(ad112.add (((rd (rd_L6 t107 x35_2) 0)).toNat*3)).off+2,none⟩=some (.int .i64 ((rd_T125 l1 (rd (rd_L6 t107 x35_2) 0)).f2))∧w'.cell? ⟨ad111.block,ad111.off+1,none⟩=some (.int .i64 (rd (rd_L6 t107 x35_2) 1))∧w'.cell? (ad114.add (((rd (rd_L6 t107 x35_2) 1)).toNat*3))=some (.string ((rd_T127 l0 (rd (rd_L6 t107 x35_2) 1)).f0))∧w'.cell? ⟨(ad114.add (((rd (rd_L6 t107 x35_2) 1)).toNat*3)).block,(ad114.add (((rd (rd_L6 t107 x35_2) 1)).toNat*3)).off+1,none⟩=some (.int .i64 ((rd_T127 l0 (rd (rd_L6 t107 x35_2) 1)).f1))∧w'.cell? ⟨(ad114.add (((rd (rd_L6 t107 x35_2) 1)).toNat*3)).block,(ad114.add (((rd (rd_L6 t107 x35_2) 1)).toNat*3)).off+2,none⟩=some (.int .i64 ((rd_T127 l0 (rd (rd_L6 t107 x35_2) 1)).f2))) (ds:=[]) #[false,false,false,false,false,false,false,false,false,false,false,false,false,false,false,false] zbk rfl rfl ⟨hx111_0,((HB.out.cell (World.block_lt_of_cell? w _ hw112_0)).trans hw112_0),((HB.out.cell (World.block_lt_of_cell? w _ hw112_1)).trans hw112_1),((HB.out.cell (World.block_lt_of_cell? w _ hw112_2)).trans hw112_2),hx113_0,((HB.out.cell (World.block_lt_of_cell? w _ hw114_0)).trans hw114_0),((HB.out.cell (World.block_lt_of_cell? w _ hw114_1)).trans hw114_1),((HB.out.cell (World.block_lt_of_cell? w _ hw114_2)).trans hw114_2)⟩ (fun hHeld=>?_);refine with_tabW impl_AddAnswers.tab9 impl_AddAnswers.bits9 (fun HT_ HW_=>?_)
                 generalize wr.drew=w31 at HO_8 HO_33 HL110_0 HR110_0 HB hx111_0 hx112_0 hx112_1 hx112_2 hx113_0 hx114_0 hx114_1 hx114_2 hHeld ⊢
                 refine pA 0 39 ?_
                 refine pA 1 40 ?_
                 refine pA 2 41 ?_
                 refine pA 6 45 ?_
                 refine pA 7 46 ?_
                 refine pA 8 47 ?_
                 refine pT 3 42 rfl zcv ?_
                 refine pA 4 43 ?_
                 refine pT 5 44 rfl zcv ?_
                 refine pT 9 48 rfl zcv ?_
                 refine pA 10 49 ?_
                 refine pT 11 50 rfl zcv ?_
                 refine join_ (σ:=Nat × Nat) 2 #[true,true,true,true,true,true,true,true,true,true,true,true,true,true,false,false] (fun s_=>[(11,.pointer (some ⟨s_.1,0,none⟩)),(12,.pointer (some ⟨s_.2,0,none⟩))]) (fun s_ w'=>(w'.cell? ad111=some (.int .i64 (rd (rd_L6 t107 x35_2) 0))∧w'.cell? (ad112.add (((rd (rd_L6 t107 x35_2) 0)).toNat*3))=some (.string ((rd_T125 l1 (rd (rd_L6 t107 x35_2) 0)).f0))∧w'.cell? ⟨(ad112.add (((rd (rd_L6 t107 x35_2) 0)).toNat*3)).block,(ad112.add (((rd (rd_L6 t107 x35_2) 0)).toNat*3)).off+1,none⟩=some (.string ((rd_T125 l1 (rd (rd_L6 t107 x35_2) 0)).f1))∧w'.cell? ⟨(ad112.add (((rd (rd_L6 t107 x35_2) 0)).toNat*3)).block,(ad112.add (((rd (rd_L6 t107 x35_2) 0)).toNat*3)).off+2,none⟩=some (.int .i64 ((rd_T125 l1 (rd (rd_L6 t107 x35_2) 0)).f2))∧w'.cell? ⟨ad111.block,ad111.off+1,none⟩=some (.int .i64 (rd (rd_L6 t107 x35_2) 1))∧w'.cell? (ad114.add (((rd (rd_L6 t107 x35_2) 1)).toNat*3))=some (.string ((rd_T127 l0 (rd (rd_L6 t107 x35_2) 1)).f0))∧w'.cell? ⟨(ad114.add (((rd (rd_L6 t107 x35_2) 1)).toNat*3)).block,(ad114.add (((rd (rd_L6 t107 x35_2) 1)).toNat*3)).off+1,none⟩=some (.int .i64 ((rd_T127 l0 (rd (rd_L6 t107 x35_2) 1)).f1))∧w'.cell? ⟨(ad114.add (((rd (rd_L6 t107 x35_2) 1)).toNat*3)).block,(ad114.add (((rd (rd_L6 t107 x35_2) 1)).toNat*3)).off+2,none⟩=some (.int .i64 ((rd_T127 l0 (rd (rd_L6 t107 x35_2) 1)).f2)))∧(Kd.R (Kd.int .i64) 2 w' w.heap.size (fun k_=>some k_≠(.slice (some ad110) t107.length co18:Value).ownBlock) (.slice (some ad111) (rd_L6 t107 x35_2).length c110_0) (rd_L6 t107 x35_2))∧(Kd.S (Kd.slice 2 (Kd.int .i64)) 126 w' w.heap.size (fun _=>True) (.slice (some ad110) t107.length co18) t107)∧(Kd.R k127 127 w' w.heap.size (fun k_=>k_≠s_.2) u8 x8_2)∧(w'.heap[s_.1]?=some (.cells #[.string (⟨#[]⟩:ByteArray),.string (⟨#[]⟩:ByteArray),.int .i64 0] 125 (0,0)))∧(w'.heap[s_.2]?=some (.cells #[.string (⟨#[]⟩:ByteArray),.int .i64 0,.int .i64 0] 127 (0,0)))∧(w.heap.size≤s_.1)∧(w.heap.size≤s_.1)∧(s_.2≠s_.1)∧(s_.1≠s_.2)∧(w.heap.size≤s_.2)∧(w.heap.size≤s_.2)∧(Below w.heap.size w w')) ?_ ?_
                 rotate_left
                 ·intro hCont
                  refine two_ (i:=12) (j:=13) (Ni:=some 11) (Nj:=some 12) #[true,true,true,true,true,true,true,true,true,true,true,true,true,false,false,false] #[true,true,true,true,true,true,true,true,true,true,true,true,false,true,false,false] rfl rfl rfl rfl (two_of HT_.out zbk) zbq zbq (fun K hK=>?_) (fun K hK=>?_)
                  ·skip
                   refine box_step ?hg (N:=11) ?hd (cs:=#[.string (⟨#[]⟩:ByteArray),.string (⟨#[]⟩:ByteArray),.int .i64 0]) (t:=125) ?hr ?_;(case hd=>rfl);(case hg=>rfl);(case hr=>exact zt)
                   intro gb115 hg w32 hbox hb
                   have HS0_:=(hb.cell (World.block_lt_of_cell? _ _ (hHeld.1))).trans (hHeld.1)
                   have HS4_:=(hb.cell (World.block_lt_of_cell? _ _ (hHeld.2.2.2.2.1))).trans (hHeld.2.2.2.2.1)
                   have n0_:=Aside0.mk (Kd.R_below zv hb)
                   have n1_:=Aside0.mk (Kd.S_below zu hb)
                   have n2_:=Aside0.mk (Kd.R_below zaa hb)
                   have n3_:=Aside0.mk (Kd.C_below zae hb)
                   have n4_:=Aside0.mk (below_step za hb)
                   have n5_:=Aside0.mk (hbox)
                   have n6_:=Aside0.mk ((by rw [hg];exact (below_size za):w.heap.size≤gb115))
                   have n7_:=Aside0.mk ((by rw [hg];exact (below_size za):w.heap.size≤gb115))
                   clear HO_8
                   clear HO_33
                   clear HL110_0
                   clear HR110_0
                   clear HB
                   have HO_8:=n0_
                   have HO_33:=n1_
                   have HL110_0:=n2_
                   have HR110_0:=n3_
                   have HB:=n4_
                   have BK115:=n5_
                   have GW115:=n6_
                   have GE115:=n7_
                   clear n0_ n1_ n2_ n3_ n4_ n5_ n6_ n7_
                   clear hb hbox hg
                   refine hK.out _ _ ⟨HS0_,((HB.out.cell (World.block_lt_of_cell? w _ hw112_0)).trans hw112_0),((HB.out.cell (World.block_lt_of_cell? w _ hw112_1)).trans hw112_1),((HB.out.cell (World.block_lt_of_cell? w _ hw112_2)).trans hw112_2),HS4_,((HB.out.cell (World.block_lt_of_cell? w _ hw114_0)).trans hw114_0),((HB.out.cell (World.block_lt_of_cell? w _ hw114_1)).trans hw114_1),((HB.out.cell (World.block_lt_of_cell? w _ hw114_2)).trans hw114_2)⟩ (fun hHeld=>?_)
                   clear hK K
                   refine pN 11 ?_
                   refine one_ (i:=13) (N:=some 12) #[true,true,true,true,true,true,true,true,true,true,true,true,true,true,false,false] rfl rfl (one_of HT_.out zbk) zbq (fun K hK=>?_)
                   refine box_step ?hg (N:=12) ?hd (cs:=#[.string (⟨#[]⟩:ByteArray),.int .i64 0,.int .i64 0]) (t:=127) ?hr ?_;(case hd=>rfl);(case hg=>rfl);(case hr=>exact zt)
                   intro gb116 hg w33 hbox hb
                   have HS0_:=(hb.cell (World.block_lt_of_cell? _ _ (hHeld.1))).trans (hHeld.1)
                   have HS4_:=(hb.cell (World.block_lt_of_cell? _ _ (hHeld.2.2.2.2.1))).trans (hHeld.2.2.2.2.1)
                   have n0_:=Aside0.mk (Kd.R_below (Kd.R_elderB zv gb116 (Nat.le_of_eq hg.symm)) hb)
                   have n1_:=Aside0.mk (Kd.S_below zu hb)
                   have n2_:=Aside0.mk (Kd.R_below zaa hb)
                   have n3_:=Aside0.mk (Kd.C_below zae hb)
                   have n4_:=Aside0.mk (blk_below (g:=gb115) (o:=.cells #[.string (⟨#[]⟩:ByteArray),.string (⟨#[]⟩:ByteArray),.int .i64 0] 125 (0,0)) zl hb)
                   have n5_:=Aside0.mk (below_step zch hb)
                   have n6_:=Aside0.mk (hbox)
                   have n7_:=Aside0.mk ((by rw [hg];exact (below_size zch):w.heap.size≤gb116))
                   have n8_:=Aside0.mk ((by rw [hg];exact (below_size zch):w.heap.size≤gb116))
                   have n9_:=Aside0.mk ((by rw [hg];exact Nat.ne_of_lt (blk_lt (g:=gb115) (o:=.cells #[.string (⟨#[]⟩:ByteArray),.string (⟨#[]⟩:ByteArray),.int .i64 0] 125 (0,0)) zl):gb115≠gb116))
                   have n10_:=Aside0.mk ((by rw [hg];exact Nat.ne_of_gt (blk_lt (g:=gb115) (o:=.cells #[.string (⟨#[]⟩:ByteArray),.string (⟨#[]⟩:ByteArray),.int .i64 0] 125 (0,0)) zl):gb116≠gb115))
                   clear HO_8
                   clear HO_33
                   clear HL110_0
                   clear HR110_0
                   clear BK115
                   clear HB
                   have HO_8:=n0_
                   have HO_33:=n1_
                   have HL110_0:=n2_
                   have HR110_0:=n3_
                   have BK115:=n4_
                   have HB:=n5_
                   have BK116:=n6_
                   have GW116:=n7_
                   have GE116:=n8_
                   have NB115_116:=n9_
                   have NB116_115:=n10_
                   clear n0_ n1_ n2_ n3_ n4_ n5_ n6_ n7_ n8_ n9_ n10_
                   clear hb hbox hg
                   refine hK.out _ _ ⟨HS0_,((HB.out.cell (World.block_lt_of_cell? w _ hw112_0)).trans hw112_0),((HB.out.cell (World.block_lt_of_cell? w _ hw112_1)).trans hw112_1),((HB.out.cell (World.block_lt_of_cell? w _ hw112_2)).trans hw112_2),HS4_,((HB.out.cell (World.block_lt_of_cell? w _ hw114_0)).trans hw114_0),((HB.out.cell (World.block_lt_of_cell? w _ hw114_1)).trans hw114_1),((HB.out.cell (World.block_lt_of_cell? w _ hw114_2)).trans hw114_2)⟩ (fun hHeld=>?_)
                   clear hK K
                   refine pN 12 ?_
                   exact norm_ zcq (hCont (gb115,gb116) _ ⟨hHeld,zcx,zu,zcy,zl,zg,GW115.out,GE115.out,NB116_115.out,NB115_116.out,GW116.out,GE116.out,zn⟩)
                  ·skip
                   refine box_step ?hg (N:=12) ?hd (cs:=#[.string (⟨#[]⟩:ByteArray),.int .i64 0,.int .i64 0]) (t:=127) ?hr ?_;(case hd=>rfl);(case hg=>rfl);(case hr=>exact zt)
                   intro gb116 hg w32 hbox hb
                   have HS0_:=(hb.cell (World.block_lt_of_cell? _ _ (hHeld.1))).trans (hHeld.1)
                   have HS4_:=(hb.cell (World.block_lt_of_cell? _ _ (hHeld.2.2.2.2.1))).trans (hHeld.2.2.2.2.1)
                   have n0_:=Aside0.mk (Kd.R_below (Kd.R_elderB zv gb116 (Nat.le_of_eq hg.symm)) hb)
                   have n1_:=Aside0.mk (Kd.S_below zu hb)
                   have n2_:=Aside0.mk (Kd.R_below zaa hb)
                   have n3_:=Aside0.mk (Kd.C_below zae hb)
                   have n4_:=Aside0.mk (below_step za hb)
                   have n5_:=Aside0.mk (hbox)
                   have n6_:=Aside0.mk ((by rw [hg];exact (below_size za):w.heap.size≤gb116))
                   have n7_:=Aside0.mk ((by rw [hg];exact (below_size za):w.heap.size≤gb116))
                   clear HO_8
                   clear HO_33
                   clear HL110_0
                   clear HR110_0
                   clear HB
                   have HO_8:=n0_
                   have HO_33:=n1_
                   have HL110_0:=n2_
                   have HR110_0:=n3_
                   have HB:=n4_
                   have BK116:=n5_
                   have GW116:=n6_
                   have GE116:=n7_
                   clear n0_ n1_ n2_ n3_ n4_ n5_ n6_ n7_
                   clear hb hbox hg
                   refine hK.out _ _ ⟨HS0_,((HB.out.cell (World.block_lt_of_cell? w _ hw112_0)).trans hw112_0),((HB.out.cell (World.block_lt_of_cell? w _ hw112_1)).trans hw112_1),((HB.out.cell (World.block_lt_of_cell? w _ hw112_2)).trans hw112_2),HS4_,((HB.out.cell (World.block_lt_of_cell? w _ hw114_0)).trans hw114_0),((HB.out.cell (World.block_lt_of_cell? w _ hw114_1)).trans hw114_1),((HB.out.cell (World.block_lt_of_cell? w _ hw114_2)).trans hw114_2)⟩ (fun hHeld=>?_)
                   clear hK K
                   refine pN 12 ?_
                   refine one_ (i:=12) (N:=some 11) #[true,true,true,true,true,true,true,true,true,true,true,true,true,true,false,false] rfl rfl (one_of HT_.out zbk) zbq (fun K hK=>?_)
                   refine box_step ?hg (N:=11) ?hd (cs:=#[.string (⟨#[]⟩:ByteArray),.string (⟨#[]⟩:ByteArray),.int .i64 0]) (t:=125) ?hr ?_;(case hd=>rfl);(case hg=>rfl);(case hr=>exact zt)
                   intro gb115 hg w33 hbox hb
                   have HS0_:=(hb.cell (World.block_lt_of_cell? _ _ (hHeld.1))).trans (hHeld.1)
                   have HS4_:=(hb.cell (World.block_lt_of_cell? _ _ (hHeld.2.2.2.2.1))).trans (hHeld.2.2.2.2.1)
                   have n0_:=Aside0.mk (Kd.R_below zv hb)
                   have n1_:=Aside0.mk (Kd.S_below zu hb)
                   have n2_:=Aside0.mk (Kd.R_below zaa hb)
                   have n3_:=Aside0.mk (Kd.C_below zae hb)
                   have n4_:=Aside0.mk (blk_below (g:=gb116) (o:=.cells #[.string (⟨#[]⟩:ByteArray),.int .i64 0,.int .i64 0] 127 (0,0)) zg hb)
                   have n5_:=Aside0.mk (below_step zag hb)
                   have n6_:=Aside0.mk (hbox)
                   have n7_:=Aside0.mk ((by rw [hg];exact (below_size zag):w.heap.size≤gb115))
                   have n8_:=Aside0.mk ((by rw [hg];exact (below_size zag):w.heap.size≤gb115))
                   have n9_:=Aside0.mk ((by rw [hg];exact Nat.ne_of_lt (blk_lt (g:=gb116) (o:=.cells #[.string (⟨#[]⟩:ByteArray),.int .i64 0,.int .i64 0] 127 (0,0)) zg):gb116≠gb115))
                   have n10_:=Aside0.mk ((by rw [hg];exact Nat.ne_of_gt (blk_lt (g:=gb116) (o:=.cells #[.string (⟨#[]⟩:ByteArray),.int .i64 0,.int .i64 0] 127 (0,0)) zg):gb115≠gb116))
                   clear HO_8
                   clear HO_33
                   clear HL110_0
                   clear HR110_0
                   clear BK116
                   clear HB
                   have HO_8:=n0_
                   have HO_33:=n1_
                   have HL110_0:=n2_
                   have HR110_0:=n3_
                   have BK116:=n4_
                   have HB:=n5_
                   have BK115:=n6_
                   have GW115:=n7_
                   have GE115:=n8_
                   have NB116_115:=n9_
                   have NB115_116:=n10_
                   clear n0_ n1_ n2_ n3_ n4_ n5_ n6_ n7_ n8_ n9_ n10_
                   clear hb hbox hg
                   refine hK.out _ _ ⟨HS0_,((HB.out.cell (World.block_lt_of_cell? w _ hw112_0)).trans hw112_0),((HB.out.cell (World.block_lt_of_cell? w _ hw112_1)).trans hw112_1),((HB.out.cell (World.block_lt_of_cell? w _ hw112_2)).trans hw112_2),HS4_,((HB.out.cell (World.block_lt_of_cell? w _ hw114_0)).trans hw114_0),((HB.out.cell (World.block_lt_of_cell? w _ hw114_1)).trans hw114_1),((HB.out.cell (World.block_lt_of_cell? w _ hw114_2)).trans hw114_2)⟩ (fun hHeld=>?_)
                   clear hK K
                   refine pN 11 ?_
                   exact norm_ zcq (hCont (gb115,gb116) _ ⟨hHeld,zcx,zu,zcy,zl,zg,GW115.out,GE115.out,NB116_115.out,NB115_116.out,GW116.out,GE116.out,zdg⟩)
                 rintro ⟨gb115,gb116⟩ w34 ⟨hS_,h0_,h1_,h2_,h3_,h4_,h5_,h6_,h7_,h8_,h9_,h10_,h11_⟩
                 have n0_:Aside0 (Kd.R (Kd.int .i64) 2 w34 w.heap.size (fun k_=>some k_≠(.slice (some ad110) t107.length co18:Value).ownBlock) (.slice (some ad111) (rd_L6 t107 x35_2).length c110_0) (rd_L6 t107 x35_2)):=⟨h0_⟩
                 have n1_:Aside0 (Kd.S (Kd.slice 2 (Kd.int .i64)) 126 w34 w.heap.size (fun _=>True) (.slice (some ad110) t107.length co18) t107):=⟨h1_⟩
                 have n2_:Aside0 (Kd.R k127 127 w34 w.heap.size (fun k_=>k_≠gb116) u8 x8_2):=⟨h2_⟩
                 have n3_:Aside0 (w34.heap[gb115]?=some (.cells #[.string (⟨#[]⟩:ByteArray),.string (⟨#[]⟩:ByteArray),.int .i64 0] 125 (0,0))):=⟨h3_⟩
                 have n4_:Aside0 (w34.heap[gb116]?=some (.cells #[.string (⟨#[]⟩:ByteArray),.int .i64 0,.int .i64 0] 127 (0,0))):=⟨h4_⟩
                 have n5_:Aside0 (w.heap.size≤gb115):=⟨h5_⟩
                 have n6_:Aside0 (w.heap.size≤gb115):=⟨h6_⟩
                 have n7_:Aside0 (gb116≠gb115):=⟨h7_⟩
                 have n8_:Aside0 (gb115≠gb116):=⟨h8_⟩
                 have n9_:Aside0 (w.heap.size≤gb116):=⟨h9_⟩
                 have n10_:Aside0 (w.heap.size≤gb116):=⟨h10_⟩
                 have n11_:Aside0 (Below w.heap.size w w34):=⟨h11_⟩
                 clear HO_8
                 clear HO_33
                 clear HL110_0
                 clear HR110_0
                 clear HB
                 clear h0_ h1_ h2_ h3_ h4_ h5_ h6_ h7_ h8_ h9_ h10_ h11_
                 have HL110_0:=n0_
                 have HO_33:=n1_
                 have HO_8:=n2_
                 have BK115:=n3_
                 have BK116:=n4_
                 have GW115:=n5_
                 have GE115:=n6_
                 have NB116_115:=n7_
                 have NB115_116:=n8_
                 have GW116:=n9_
                 have GE116:=n10_
                 have HB:=n11_
                 clear n0_ n1_ n2_ n3_ n4_ n5_ n6_ n7_ n8_ n9_ n10_ n11_
                 have hHeld:w34.cell? ad111=some (.int .i64 (rd (rd_L6 t107 x35_2) 0))∧w34.cell? (ad112.add (((rd (rd_L6 t107 x35_2) 0)).toNat*3))=some (.string ((rd_T125 l1 (rd (rd_L6 t107 x35_2) 0)).f0))∧w34.cell? ⟨(ad112.add (((rd (rd_L6 t107 x35_2) 0)).toNat*3)).block,(ad112.add (((rd (rd_L6 t107 x35_2) 0)).toNat*3)).off+1,none⟩=some (.string ((rd_T125 l1 (rd (rd_L6 t107 x35_2) 0)).f1))∧w34.cell? ⟨(ad112.add (((rd (rd_L6 t107 x35_2) 0)).toNat*3)).block,(ad112.add (((rd (rd_L6 t107 x35_2) 0)).toNat*3)).off+2,none⟩=some (.int .i64 ((rd_T125 l1 (rd (rd_L6 t107 x35_2) 0)).f2))∧w34.cell? ⟨ad111.block,ad111.off+1,none⟩=some (.int .i64 (rd (rd_L6 t107 x35_2) 1))∧w34.cell? (ad114.add (((rd (rd_L6 t107 x35_2) 1)).toNat*3))=some (.string ((rd_T127 l0 (rd (rd_L6 t107 x35_2) 1)).f0))∧w34.cell? ⟨(ad114.add (((rd (rd_L6 t107 x35_2) 1)).toNat*3)).block,(ad114.add (((rd (rd_L6 t107 x35_2) 1)).toNat*3)).off+1,none⟩=some (.int .i64 ((rd_T127 l0 (rd (rd_L6 t107 x35_2) 1)).f1))∧w34.cell? ⟨(ad114.add (((rd (rd_L6 t107 x35_2) 1)).toNat*3)).block,(ad114.add (((rd (rd_L6 t107 x35_2) 1)).toNat*3)).off+2,none⟩=some (.int .i64 ((rd_T127 l0 (rd (rd_L6 t107 x35_2) 1)).f2)):=hS_
                 refine norm_ (a':=?_) ?_ ?_
                 rotate_left
                 ·simp only [putAll,Act.put,List.setIfInBounds_toArray,List.set_cons_zero,List.set_cons_succ]
                  rfl
                 refine one_ (i:=14) (N:=none) #[true,true,true,true,true,true,true,true,true,true,true,true,true,true,true,false] rfl rfl (one_of HT_.out zbk) zbq (fun K hK=>?_)
                 have hs35:w34.cell? ⟨gb115,0,none⟩=some (.string (⟨#[]⟩:ByteArray)):=(blk_cell BK115.out 0).trans rfl
                 have hfs35:=blk_frozen BK115.out 0
                 have hns35_1:=NB116_115.out
                 have hms35_1:=NB115_116.out
                 have hs36:w34.cell? ⟨gb115,1,none⟩=some (.string (⟨#[]⟩:ByteArray)):=(blk_cell BK115.out 1).trans rfl
                 have hfs36:=blk_frozen BK115.out 1
                 have hns36_1:=NB116_115.out
                 have hms36_1:=NB115_116.out
                 have hs37:w34.cell? ⟨gb115,2,none⟩=some (.int .i64 0):=(blk_cell BK115.out 2).trans rfl
                 have hfs37:=blk_frozen BK115.out 2
                 have hns37_1:=NB116_115.out
                 have hms37_1:=NB115_116.out
                 refine skip_ (w1:=?_) (by rfl) rfl ?_ ?_
                 rotate_left
                 ·go_simp
                  rfl
                 refine hK.out _ _ ⟨((cell_far (p:=⟨gb115,_,none⟩) zi _).trans (((cell_far (p:=⟨gb115,_,none⟩) zi _).trans (((cell_far (p:=⟨gb115,_,none⟩) zi _).trans (hHeld.1)))))),((cell_far (p:=⟨gb115,_,none⟩) (by first|exact Nat.ne_of_lt (Nat.lt_of_lt_of_le (by have:=World.block_lt_of_cell? _ _ hw112_0;first|rwa [add_block] at this|exact this) GW115.out)|(rw [add_block];exact Nat.ne_of_lt (Nat.lt_of_lt_of_le (by have:=World.block_lt_of_cell? _ _ hw112_0;first|rwa [add_block] at this|exact this) GW115.out))|(show (Addr.add _ _).block≠_;rw [add_block];exact Nat.ne_of_lt (Nat.lt_of_lt_of_le (by have:=World.block_lt_of_cell? _ _ hw112_0;first|rwa [add_block] at this|exact this) GW115.out))|(dsimp only;exact Nat.ne_of_lt (Nat.lt_of_lt_of_le (by have:=World.block_lt_of_cell? _ _ hw112_0;first|rwa [add_block] at this|exact this) GW115.out))) _).trans (((cell_far (p:=⟨gb115,_,none⟩) (by first|exact Nat.ne_of_lt (Nat.lt_of_lt_of_le (by have:=World.block_lt_of_cell? _ _ hw112_0;first|rwa [add_block] at this|exact this) GW115.out)|(rw [add_block];exact Nat.ne_of_lt (Nat.lt_of_lt_of_le (by have:=World.block_lt_of_cell? _ _ hw112_0;first|rwa [add_block] at this|exact this) GW115.out))|(show (Addr.add _ _).block≠_;rw [add_block];exact Nat.ne_of_lt (Nat.lt_of_lt_of_le (by have:=World.block_lt_of_cell? _ _ hw112_0;first|rwa [add_block] at this|exact this) GW115.out))|(dsimp only;exact Nat.ne_of_lt (Nat.lt_of_lt_of_le (by have:=World.block_lt_of_cell? _ _ hw112_0;first|rwa [add_block] at this|exact this) GW115.out))) _).trans (((cell_far (p:=⟨gb115,_,none⟩) (by first|exact Nat.ne_of_lt (Nat.lt_of_lt_of_le (by have:=World.block_lt_of_cell? _ _ hw112_0;first|rwa [add_block] at this|exact this) GW115.out)|(rw [add_block];exact Nat.ne_of_lt (Nat.lt_of_lt_of_le (by have:=World.block_lt_of_cell? _ _ hw112_0;first|rwa [add_block] at this|exact this) GW115.out))|(show (Addr.add _ _).block≠_;rw [add_block];exact Nat.ne_of_lt (Nat.lt_of_lt_of_le (by have:=World.block_lt_of_cell? _ _ hw112_0;first|rwa [add_block] at this|exact this) GW115.out))|(dsimp only;exact Nat.ne_of_lt (Nat.lt_of_lt_of_le (by have:=World.block_lt_of_cell? _ _ hw112_0;first|rwa [add_block] at this|exact this) GW115.out))) _).trans (hHeld.2.1)))))),((cell_far (p:=⟨gb115,_,none⟩) (by first|exact Nat.ne_of_lt (Nat.lt_of_lt_of_le (by have:=World.block_lt_of_cell? _ _ hw112_1;first|rwa [add_block] at this|exact this) GW115.out)|(rw [add_block];exact Nat.ne_of_lt (Nat.lt_of_lt_of_le (by have:=World.block_lt_of_cell? _ _ hw112_1;first|rwa [add_block] at this|exact this) GW115.out))|(show (Addr.add _ _).block≠_;rw [add_block];exact Nat.ne_of_lt (Nat.lt_of_lt_of_le (by have:=World.block_lt_of_cell? _ _ hw112_1;first|rwa [add_block] at this|exact this) GW115.out))|(dsimp only;exact Nat.ne_of_lt (Nat.lt_of_lt_of_le (by have:=World.block_lt_of_cell? _ _ hw112_1;first|rwa [add_block] at this|exact this) GW115.out))) _).trans (((cell_far (p:=⟨gb115,_,none⟩) (by first|exact Nat.ne_of_lt (Nat.lt_of_lt_of_le (by have:=World.block_lt_of_cell? _ _ hw112_1;first|rwa [add_block] at this|exact this) GW115.out)|(rw [add_block];exact Nat.ne_of_lt (Nat.lt_of_lt_of_le (by have:=World.block_lt_of_cell? _ _ hw112_1;first|rwa [add_block] at this|exact this) GW115.out))|(show (Addr.add _ _).block≠_;rw [add_block];exact Nat.ne_of_lt (Nat.lt_of_lt_of_le (by have:=World.block_lt_of_cell? _ _ hw112_1;first|rwa [add_block] at this|exact this) GW115.out))|(dsimp only;exact Nat.ne_of_lt (Nat.lt_of_lt_of_le (by have:=World.block_lt_of_cell? _ _ hw112_1;first|rwa [add_block] at this|exact this) GW115.out))) _).trans (((cell_far (p:=⟨gb115,_,none⟩) (by first|exact Nat.ne_of_lt (Nat.lt_of_lt_of_le (by have:=World.block_lt_of_cell? _ _ hw112_1;first|rwa [add_block] at this|exact this) GW115.out)|(rw [add_block];exact Nat.ne_of_lt (Nat.lt_of_lt_of_le (by have:=World.block_lt_of_cell? _ _ hw112_1;first|rwa [add_block] at this|exact this) GW115.out))|(show (Addr.add _ _).block≠_;rw [add_block];exact Nat.ne_of_lt (Nat.lt_of_lt_of_le (by have:=World.block_lt_of_cell? _ _ hw112_1;first|rwa [add_block] at this|exact this) GW115.out))|(dsimp only;exact Nat.ne_of_lt (Nat.lt_of_lt_of_le (by have:=World.block_lt_of_cell? _ _ hw112_1;first|rwa [add_block] at this|exact this) GW115.out))) _).trans (hHeld.2.2.1)))))),((cell_far (p:=⟨gb115,_,none⟩) (by first|exact Nat.ne_of_lt (Nat.lt_of_lt_of_le (by have:=World.block_lt_of_cell? _ _ hw112_2;first|rwa [add_block] at this|exact this) GW115.out)|(rw [add_block];exact Nat.ne_of_lt (Nat.lt_of_lt_of_le (by have:=World.block_lt_of_cell? _ _ hw112_2;first|rwa [add_block] at this|exact this) GW115.out))|(show (Addr.add _ _).block≠_;rw [add_block];exact Nat.ne_of_lt (Nat.lt_of_lt_of_le (by have:=World.block_lt_of_cell? _ _ hw112_2;first|rwa [add_block] at this|exact this) GW115.out))|(dsimp only;exact Nat.ne_of_lt (Nat.lt_of_lt_of_le (by have:=World.block_lt_of_cell? _ _ hw112_2;first|rwa [add_block] at this|exact this) GW115.out))) _).trans (((cell_far (p:=⟨gb115,_,none⟩) (by first|exact Nat.ne_of_lt (Nat.lt_of_lt_of_le (by have:=World.block_lt_of_cell? _ _ hw112_2;first|rwa [add_block] at this|exact this) GW115.out)|(rw [add_block];exact Nat.ne_of_lt (Nat.lt_of_lt_of_le (by have:=World.block_lt_of_cell? _ _ hw112_2;first|rwa [add_block] at this|exact this) GW115.out))|(show (Addr.add _ _).block≠_;rw [add_block];exact Nat.ne_of_lt (Nat.lt_of_lt_of_le (by have:=World.block_lt_of_cell? _ _ hw112_2;first|rwa [add_block] at this|exact this) GW115.out))|(dsimp only;exact Nat.ne_of_lt (Nat.lt_of_lt_of_le (by have:=World.block_lt_of_cell? _ _ hw112_2;first|rwa [add_block] at this|exact this) GW115.out))) _).trans (((cell_far (p:=⟨gb115,_,none⟩) (by first|exact Nat.ne_of_lt (Nat.lt_of_lt_of_le (by have:=World.block_lt_of_cell? _ _ hw112_2;first|rwa [add_block] at this|exact this) GW115.out)|(rw [add_block];exact Nat.ne_of_lt (Nat.lt_of_lt_of_le (by have:=World.block_lt_of_cell? _ _ hw112_2;first|rwa [add_block] at this|exact this) GW115.out))|(show (Addr.add _ _).block≠_;rw [add_block];exact Nat.ne_of_lt (Nat.lt_of_lt_of_le (by have:=World.block_lt_of_cell? _ _ hw112_2;first|rwa [add_block] at this|exact this) GW115.out))|(dsimp only;exact Nat.ne_of_lt (Nat.lt_of_lt_of_le (by have:=World.block_lt_of_cell? _ _ hw112_2;first|rwa [add_block] at this|exact this) GW115.out))) _).trans (hHeld.2.2.2.1)))))),((cell_far (p:=⟨gb115,_,none⟩) zi _).trans (((cell_far (p:=⟨gb115,_,none⟩) zi _).trans (((cell_far (p:=⟨gb115,_,none⟩) zi _).trans (hHeld.2.2.2.2.1)))))),((cell_far (p:=⟨gb115,_,none⟩) (by first|exact Nat.ne_of_lt (Nat.lt_of_lt_of_le (by have:=World.block_lt_of_cell? _ _ hw114_0;first|rwa [add_block] at this|exact this) GW115.out)|(rw [add_block];exact Nat.ne_of_lt (Nat.lt_of_lt_of_le (by have:=World.block_lt_of_cell? _ _ hw114_0;first|rwa [add_block] at this|exact this) GW115.out))|(show (Addr.add _ _).block≠_;rw [add_block];exact Nat.ne_of_lt (Nat.lt_of_lt_of_le (by have:=World.block_lt_of_cell? _ _ hw114_0;first|rwa [add_block] at this|exact this) GW115.out))|(dsimp only;exact Nat.ne_of_lt (Nat.lt_of_lt_of_le (by have:=World.block_lt_of_cell? _ _ hw114_0;first|rwa [add_block] at this|exact this) GW115.out))) _).trans (((cell_far (p:=⟨gb115,_,none⟩) (by first|exact Nat.ne_of_lt (Nat.lt_of_lt_of_le (by have:=World.block_lt_of_cell? _ _ hw114_0;first|rwa [add_block] at this|exact this) GW115.out)|(rw [add_block];exact Nat.ne_of_lt (Nat.lt_of_lt_of_le (by have:=World.block_lt_of_cell? _ _ hw114_0;first|rwa [add_block] at this|exact this) GW115.out))|(show (Addr.add _ _).block≠_;rw [add_block];exact Nat.ne_of_lt (Nat.lt_of_lt_of_le (by have:=World.block_lt_of_cell? _ _ hw114_0;first|rwa [add_block] at this|exact this) GW115.out))|(dsimp only;exact Nat.ne_of_lt (Nat.lt_of_lt_of_le (by have:=World.block_lt_of_cell? _ _ hw114_0;first|rwa [add_block] at this|exact this) GW115.out))) _).trans (((cell_far (p:=⟨gb115,_,none⟩) (by first|exact Nat.ne_of_lt (Nat.lt_of_lt_of_le (by have:=World.block_lt_of_cell? _ _ hw114_0;first|rwa [add_block] at this|exact this) GW115.out)|(rw [add_block];exact Nat.ne_of_lt (Nat.lt_of_lt_of_le (by have:=World.block_lt_of_cell? _ _ hw114_0;first|rwa [add_block] at this|exact this) GW115.out))|(show (Addr.add _ _).block≠_;rw [add_block];exact Nat.ne_of_lt (Nat.lt_of_lt_of_le (by have:=World.block_lt_of_cell? _ _ hw114_0;first|rwa [add_block] at this|exact this) GW115.out))|(dsimp only;exact Nat.ne_of_lt (Nat.lt_of_lt_of_le (by have:=World.block_lt_of_cell? _ _ hw114_0;first|rwa [add_block] at this|exact this) GW115.out))) _).trans (hHeld.2.2.2.2.2.1)))))),((cell_far (p:=⟨gb115,_,none⟩) (by first|exact Nat.ne_of_lt (Nat.lt_of_lt_of_le (by have:=World.block_lt_of_cell? _ _ hw114_1;first|rwa [add_block] at this|exact this) GW115.out)|(rw [add_block];exact Nat.ne_of_lt (Nat.lt_of_lt_of_le (by have:=World.block_lt_of_cell? _ _ hw114_1;first|rwa [add_block] at this|exact this) GW115.out))|(show (Addr.add _ _).block≠_;rw [add_block];exact Nat.ne_of_lt (Nat.lt_of_lt_of_le (by have:=World.block_lt_of_cell? _ _ hw114_1;first|rwa [add_block] at this|exact this) GW115.out))|(dsimp only;exact Nat.ne_of_lt (Nat.lt_of_lt_of_le (by have:=World.block_lt_of_cell? _ _ hw114_1;first|rwa [add_block] at this|exact this) GW115.out))) _).trans (((cell_far (p:=⟨gb115,_,none⟩) (by first|exact Nat.ne_of_lt (Nat.lt_of_lt_of_le (by have:=World.block_lt_of_cell? _ _ hw114_1;first|rwa [add_block] at this|exact this) GW115.out)|(rw [add_block];exact Nat.ne_of_lt (Nat.lt_of_lt_of_le (by have:=World.block_lt_of_cell? _ _ hw114_1;first|rwa [add_block] at this|exact this) GW115.out))|(show (Addr.add _ _).block≠_;rw [add_block];exact Nat.ne_of_lt (Nat.lt_of_lt_of_le (by have:=World.block_lt_of_cell? _ _ hw114_1;first|rwa [add_block] at this|exact this) GW115.out))|(dsimp only;exact Nat.ne_of_lt (Nat.lt_of_lt_of_le (by have:=World.block_lt_of_cell? _ _ hw114_1;first|rwa [add_block] at this|exact this) GW115.out))) _).trans (((cell_far (p:=⟨gb115,_,none⟩) (by first|exact Nat.ne_of_lt (Nat.lt_of_lt_of_le (by have:=World.block_lt_of_cell? _ _ hw114_1;first|rwa [add_block] at this|exact this) GW115.out)|(rw [add_block];exact Nat.ne_of_lt (Nat.lt_of_lt_of_le (by have:=World.block_lt_of_cell? _ _ hw114_1;first|rwa [add_block] at this|exact this) GW115.out))|(show (Addr.add _ _).block≠_;rw [add_block];exact Nat.ne_of_lt (Nat.lt_of_lt_of_le (by have:=World.block_lt_of_cell? _ _ hw114_1;first|rwa [add_block] at this|exact this) GW115.out))|(dsimp only;exact Nat.ne_of_lt (Nat.lt_of_lt_of_le (by have:=World.block_lt_of_cell? _ _ hw114_1;first|rwa [add_block] at this|exact this) GW115.out))) _).trans (hHeld.2.2.2.2.2.2.1)))))),((cell_far (p:=⟨gb115,_,none⟩) (by first|exact Nat.ne_of_lt (Nat.lt_of_lt_of_le (by have:=World.block_lt_of_cell? _ _ hw114_2;first|rwa [add_block] at this|exact this) GW115.out)|(rw [add_block];exact Nat.ne_of_lt (Nat.lt_of_lt_of_le (by have:=World.block_lt_of_cell? _ _ hw114_2;first|rwa [add_block] at this|exact this) GW115.out))|(show (Addr.add _ _).block≠_;rw [add_block];exact Nat.ne_of_lt (Nat.lt_of_lt_of_le (by have:=World.block_lt_of_cell? _ _ hw114_2;first|rwa [add_block] at this|exact this) GW115.out))|(dsimp only;exact Nat.ne_of_lt (Nat.lt_of_lt_of_le (by have:=World.block_lt_of_cell? _ _ hw114_2;first|rwa [add_block] at this|exact this) GW115.out))) _).trans (((cell_far (p:=⟨gb115,_,none⟩) (by first|exact Nat.ne_of_lt (Nat.lt_of_lt_of_le (by have:=World.block_lt_of_cell? _ _ hw114_2;first|rwa [add_block] at this|exact this) GW115.out)|(rw [add_block];exact Nat.ne_of_lt (Nat.lt_of_lt_of_le (by have:=World.block_lt_of_cell? _ _ hw114_2;first|rwa [add_block] at this|exact this) GW115.out))|(show (Addr.add _ _).block≠_;rw [add_block];exact Nat.ne_of_lt (Nat.lt_of_lt_of_le (by have:=World.block_lt_of_cell? _ _ hw114_2;first|rwa [add_block] at this|exact this) GW115.out))|(dsimp only;exact Nat.ne_of_lt (Nat.lt_of_lt_of_le (by have:=World.block_lt_of_cell? _ _ hw114_2;first|rwa [add_block] at this|exact this) GW115.out))) _).trans (((cell_far (p:=⟨gb115,_,none⟩) (by first|exact Nat.ne_of_lt (Nat.lt_of_lt_of_le (by have:=World.block_lt_of_cell? _ _ hw114_2;first|rwa [add_block] at this|exact this) GW115.out)|(rw [add_block];exact Nat.ne_of_lt (Nat.lt_of_lt_of_le (by have:=World.block_lt_of_cell? _ _ hw114_2;first|rwa [add_block] at this|exact this) GW115.out))|(show (Addr.add _ _).block≠_;rw [add_block];exact Nat.ne_of_lt (Nat.lt_of_lt_of_le (by have:=World.block_lt_of_cell? _ _ hw114_2;first|rwa [add_block] at this|exact this) GW115.out))|(dsimp only;exact Nat.ne_of_lt (Nat.lt_of_lt_of_le (by have:=World.block_lt_of_cell? _ _ hw114_2;first|rwa [add_block] at this|exact this) GW115.out))) _).trans (hHeld.2.2.2.2.2.2.2))))))⟩ (fun hHeld=>?_)
                 clear hK K
                 refine one_ (i:=15) (N:=none) #[true,true,true,true,true,true,true,true,true,true,true,true,true,true,true,true] rfl rfl (one_of HT_.out zbk) zbq (fun K hK=>?_)
                 have hs38:w34.cell? ⟨gb116,0,none⟩=some (.string (⟨#[]⟩:ByteArray)):=(blk_cell BK116.out 0).trans rfl
                 have hfs38:=blk_frozen BK116.out 0
                 have hns38_0:=NB115_116.out
                 have hms38_0:=NB116_115.out
                 have hs39:w34.cell? ⟨gb116,1,none⟩=some (.int .i64 0):=(blk_cell BK116.out 1).trans rfl
                 have hfs39:=blk_frozen BK116.out 1
                 have hns39_0:=NB115_116.out
                 have hms39_0:=NB116_115.out
                 have hs40:w34.cell? ⟨gb116,2,none⟩=some (.int .i64 0):=(blk_cell BK116.out 2).trans rfl
                 have hfs40:=blk_frozen BK116.out 2
                 have hns40_0:=NB115_116.out
                 have hms40_0:=NB116_115.out
                 refine skip_ (w1:=?_) (by rfl) rfl ?_ ?_
                 rotate_left
                 ·go_simp
                  rfl
                 refine hK.out _ _ ⟨((cell_far (p:=⟨gb116,_,none⟩) zj _).trans (((cell_far (p:=⟨gb116,_,none⟩) zj _).trans (((cell_far (p:=⟨gb116,_,none⟩) zj _).trans (hHeld.1)))))),((cell_far (p:=⟨gb116,_,none⟩) (by first|exact Nat.ne_of_lt (Nat.lt_of_lt_of_le (by have:=World.block_lt_of_cell? _ _ hw112_0;first|rwa [add_block] at this|exact this) GW116.out)|(rw [add_block];exact Nat.ne_of_lt (Nat.lt_of_lt_of_le (by have:=World.block_lt_of_cell? _ _ hw112_0;first|rwa [add_block] at this|exact this) GW116.out))|(show (Addr.add _ _).block≠_;rw [add_block];exact Nat.ne_of_lt (Nat.lt_of_lt_of_le (by have:=World.block_lt_of_cell? _ _ hw112_0;first|rwa [add_block] at this|exact this) GW116.out))|(dsimp only;exact Nat.ne_of_lt (Nat.lt_of_lt_of_le (by have:=World.block_lt_of_cell? _ _ hw112_0;first|rwa [add_block] at this|exact this) GW116.out))) _).trans (((cell_far (p:=⟨gb116,_,none⟩) (by first|exact Nat.ne_of_lt (Nat.lt_of_lt_of_le (by have:=World.block_lt_of_cell? _ _ hw112_0;first|rwa [add_block] at this|exact this) GW116.out)|(rw [add_block];exact Nat.ne_of_lt (Nat.lt_of_lt_of_le (by have:=World.block_lt_of_cell? _ _ hw112_0;first|rwa [add_block] at this|exact this) GW116.out))|(show (Addr.add _ _).block≠_;rw [add_block];exact Nat.ne_of_lt (Nat.lt_of_lt_of_le (by have:=World.block_lt_of_cell? _ _ hw112_0;first|rwa [add_block] at this|exact this) GW116.out))|(dsimp only;exact Nat.ne_of_lt (Nat.lt_of_lt_of_le (by have:=World.block_lt_of_cell? _ _ hw112_0;first|rwa [add_block] at this|exact this) GW116.out))) _).trans (((cell_far (p:=⟨gb116,_,none⟩) (by first|exact Nat.ne_of_lt (Nat.lt_of_lt_of_le (by have:=World.block_lt_of_cell? _ _ hw112_0;first|rwa [add_block] at this|exact this) GW116.out)|(rw [add_block];exact Nat.ne_of_lt (Nat.lt_of_lt_of_le (by have:=World.block_lt_of_cell? _ _ hw112_0;first|rwa [add_block] at this|exact this) GW116.out))|(show (Addr.add _ _).block≠_;rw [add_block];exact Nat.ne_of_lt (Nat.lt_of_lt_of_le (by have:=World.block_lt_of_cell? _ _ hw112_0;first|rwa [add_block] at this|exact this) GW116.out))|(dsimp only;exact Nat.ne_of_lt (Nat.lt_of_lt_of_le (by have:=World.block_lt_of_cell? _ _ hw112_0;first|rwa [add_block] at this|exact this) GW116.out))) _).trans (hHeld.2.1)))))),((cell_far (p:=⟨gb116,_,none⟩) (by first|exact Nat.ne_of_lt (Nat.lt_of_lt_of_le (by have:=World.block_lt_of_cell? _ _ hw112_1;first|rwa [add_block] at this|exact this) GW116.out)|(rw [add_block];exact Nat.ne_of_lt (Nat.lt_of_lt_of_le (by have:=World.block_lt_of_cell? _ _ hw112_1;first|rwa [add_block] at this|exact this) GW116.out))|(show (Addr.add _ _).block≠_;rw [add_block];exact Nat.ne_of_lt (Nat.lt_of_lt_of_le (by have:=World.block_lt_of_cell? _ _ hw112_1;first|rwa [add_block] at this|exact this) GW116.out))|(dsimp only;exact Nat.ne_of_lt (Nat.lt_of_lt_of_le (by have:=World.block_lt_of_cell? _ _ hw112_1;first|rwa [add_block] at this|exact this) GW116.out))) _).trans (((cell_far (p:=⟨gb116,_,none⟩) (by first|exact Nat.ne_of_lt (Nat.lt_of_lt_of_le (by have:=World.block_lt_of_cell? _ _ hw112_1;first|rwa [add_block] at this|exact this) GW116.out)|(rw [add_block];exact Nat.ne_of_lt (Nat.lt_of_lt_of_le (by have:=World.block_lt_of_cell? _ _ hw112_1;first|rwa [add_block] at this|exact this) GW116.out))|(show (Addr.add _ _).block≠_;rw [add_block];exact Nat.ne_of_lt (Nat.lt_of_lt_of_le (by have:=World.block_lt_of_cell? _ _ hw112_1;first|rwa [add_block] at this|exact this) GW116.out))|(dsimp only;exact Nat.ne_of_lt (Nat.lt_of_lt_of_le (by have:=World.block_lt_of_cell? _ _ hw112_1;first|rwa [add_block] at this|exact this) GW116.out))) _).trans (((cell_far (p:=⟨gb116,_,none⟩) (by first|exact Nat.ne_of_lt (Nat.lt_of_lt_of_le (by have:=World.block_lt_of_cell? _ _ hw112_1;first|rwa [add_block] at this|exact this) GW116.out)|(rw [add_block];exact Nat.ne_of_lt (Nat.lt_of_lt_of_le (by have:=World.block_lt_of_cell? _ _ hw112_1;first|rwa [add_block] at this|exact this) GW116.out))|(show (Addr.add _ _).block≠_;rw [add_block];exact Nat.ne_of_lt (Nat.lt_of_lt_of_le (by have:=World.block_lt_of_cell? _ _ hw112_1;first|rwa [add_block] at this|exact this) GW116.out))|(dsimp only;exact Nat.ne_of_lt (Nat.lt_of_lt_of_le (by have:=World.block_lt_of_cell? _ _ hw112_1;first|rwa [add_block] at this|exact this) GW116.out))) _).trans (hHeld.2.2.1)))))),((cell_far (p:=⟨gb116,_,none⟩) (by first|exact Nat.ne_of_lt (Nat.lt_of_lt_of_le (by have:=World.block_lt_of_cell? _ _ hw112_2;first|rwa [add_block] at this|exact this) GW116.out)|(rw [add_block];exact Nat.ne_of_lt (Nat.lt_of_lt_of_le (by have:=World.block_lt_of_cell? _ _ hw112_2;first|rwa [add_block] at this|exact this) GW116.out))|(show (Addr.add _ _).block≠_;rw [add_block];exact Nat.ne_of_lt (Nat.lt_of_lt_of_le (by have:=World.block_lt_of_cell? _ _ hw112_2;first|rwa [add_block] at this|exact this) GW116.out))|(dsimp only;exact Nat.ne_of_lt (Nat.lt_of_lt_of_le (by have:=World.block_lt_of_cell? _ _ hw112_2;first|rwa [add_block] at this|exact this) GW116.out))) _).trans (((cell_far (p:=⟨gb116,_,none⟩) (by first|exact Nat.ne_of_lt (Nat.lt_of_lt_of_le (by have:=World.block_lt_of_cell? _ _ hw112_2;first|rwa [add_block] at this|exact this) GW116.out)|(rw [add_block];exact Nat.ne_of_lt (Nat.lt_of_lt_of_le (by have:=World.block_lt_of_cell? _ _ hw112_2;first|rwa [add_block] at this|exact this) GW116.out))|(show (Addr.add _ _).block≠_;rw [add_block];exact Nat.ne_of_lt (Nat.lt_of_lt_of_le (by have:=World.block_lt_of_cell? _ _ hw112_2;first|rwa [add_block] at this|exact this) GW116.out))|(dsimp only;exact Nat.ne_of_lt (Nat.lt_of_lt_of_le (by have:=World.block_lt_of_cell? _ _ hw112_2;first|rwa [add_block] at this|exact this) GW116.out))) _).trans (((cell_far (p:=⟨gb116,_,none⟩) (by first|exact Nat.ne_of_lt (Nat.lt_of_lt_of_le (by have:=World.block_lt_of_cell? _ _ hw112_2;first|rwa [add_block] at this|exact this) GW116.out)|(rw [add_block];exact Nat.ne_of_lt (Nat.lt_of_lt_of_le (by have:=World.block_lt_of_cell? _ _ hw112_2;first|rwa [add_block] at this|exact this) GW116.out))|(show (Addr.add _ _).block≠_;rw [add_block];exact Nat.ne_of_lt (Nat.lt_of_lt_of_le (by have:=World.block_lt_of_cell? _ _ hw112_2;first|rwa [add_block] at this|exact this) GW116.out))|(dsimp only;exact Nat.ne_of_lt (Nat.lt_of_lt_of_le (by have:=World.block_lt_of_cell? _ _ hw112_2;first|rwa [add_block] at this|exact this) GW116.out))) _).trans (hHeld.2.2.2.1)))))),((cell_far (p:=⟨gb116,_,none⟩) zj _).trans (((cell_far (p:=⟨gb116,_,none⟩) zj _).trans (((cell_far (p:=⟨gb116,_,none⟩) zj _).trans (hHeld.2.2.2.2.1)))))),((cell_far (p:=⟨gb116,_,none⟩) (by first|exact Nat.ne_of_lt (Nat.lt_of_lt_of_le (by have:=World.block_lt_of_cell? _ _ hw114_0;first|rwa [add_block] at this|exact this) GW116.out)|(rw [add_block];exact Nat.ne_of_lt (Nat.lt_of_lt_of_le (by have:=World.block_lt_of_cell? _ _ hw114_0;first|rwa [add_block] at this|exact this) GW116.out))|(show (Addr.add _ _).block≠_;rw [add_block];exact Nat.ne_of_lt (Nat.lt_of_lt_of_le (by have:=World.block_lt_of_cell? _ _ hw114_0;first|rwa [add_block] at this|exact this) GW116.out))|(dsimp only;exact Nat.ne_of_lt (Nat.lt_of_lt_of_le (by have:=World.block_lt_of_cell? _ _ hw114_0;first|rwa [add_block] at this|exact this) GW116.out))) _).trans (((cell_far (p:=⟨gb116,_,none⟩) (by first|exact Nat.ne_of_lt (Nat.lt_of_lt_of_le (by have:=World.block_lt_of_cell? _ _ hw114_0;first|rwa [add_block] at this|exact this) GW116.out)|(rw [add_block];exact Nat.ne_of_lt (Nat.lt_of_lt_of_le (by have:=World.block_lt_of_cell? _ _ hw114_0;first|rwa [add_block] at this|exact this) GW116.out))|(show (Addr.add _ _).block≠_;rw [add_block];exact Nat.ne_of_lt (Nat.lt_of_lt_of_le (by have:=World.block_lt_of_cell? _ _ hw114_0;first|rwa [add_block] at this|exact this) GW116.out))|(dsimp only;exact Nat.ne_of_lt (Nat.lt_of_lt_of_le (by have:=World.block_lt_of_cell? _ _ hw114_0;first|rwa [add_block] at this|exact this) GW116.out))) _).trans (((cell_far (p:=⟨gb116,_,none⟩) (by first|exact Nat.ne_of_lt (Nat.lt_of_lt_of_le (by have:=World.block_lt_of_cell? _ _ hw114_0;first|rwa [add_block] at this|exact this) GW116.out)|(rw [add_block];exact Nat.ne_of_lt (Nat.lt_of_lt_of_le (by have:=World.block_lt_of_cell? _ _ hw114_0;first|rwa [add_block] at this|exact this) GW116.out))|(show (Addr.add _ _).block≠_;rw [add_block];exact Nat.ne_of_lt (Nat.lt_of_lt_of_le (by have:=World.block_lt_of_cell? _ _ hw114_0;first|rwa [add_block] at this|exact this) GW116.out))|(dsimp only;exact Nat.ne_of_lt (Nat.lt_of_lt_of_le (by have:=World.block_lt_of_cell? _ _ hw114_0;first|rwa [add_block] at this|exact this) GW116.out))) _).trans (hHeld.2.2.2.2.2.1)))))),((cell_far (p:=⟨gb116,_,none⟩) (by first|exact Nat.ne_of_lt (Nat.lt_of_lt_of_le (by have:=World.block_lt_of_cell? _ _ hw114_1;first|rwa [add_block] at this|exact this) GW116.out)|(rw [add_block];exact Nat.ne_of_lt (Nat.lt_of_lt_of_le (by have:=World.block_lt_of_cell? _ _ hw114_1;first|rwa [add_block] at this|exact this) GW116.out))|(show (Addr.add _ _).block≠_;rw [add_block];exact Nat.ne_of_lt (Nat.lt_of_lt_of_le (by have:=World.block_lt_of_cell? _ _ hw114_1;first|rwa [add_block] at this|exact this) GW116.out))|(dsimp only;exact Nat.ne_of_lt (Nat.lt_of_lt_of_le (by have:=World.block_lt_of_cell? _ _ hw114_1;first|rwa [add_block] at this|exact this) GW116.out))) _).trans (((cell_far (p:=⟨gb116,_,none⟩) (by first|exact Nat.ne_of_lt (Nat.lt_of_lt_of_le (by have:=World.block_lt_of_cell? _ _ hw114_1;first|rwa [add_block] at this|exact this) GW116.out)|(rw [add_block];exact Nat.ne_of_lt (Nat.lt_of_lt_of_le (by have:=World.block_lt_of_cell? _ _ hw114_1;first|rwa [add_block] at this|exact this) GW116.out))|(show (Addr.add _ _).block≠_;rw [add_block];exact Nat.ne_of_lt (Nat.lt_of_lt_of_le (by have:=World.block_lt_of_cell? _ _ hw114_1;first|rwa [add_block] at this|exact this) GW116.out))|(dsimp only;exact Nat.ne_of_lt (Nat.lt_of_lt_of_le (by have:=World.block_lt_of_cell? _ _ hw114_1;first|rwa [add_block] at this|exact this) GW116.out))) _).trans (((cell_far (p:=⟨gb116,_,none⟩) (by first|exact Nat.ne_of_lt (Nat.lt_of_lt_of_le (by have:=World.block_lt_of_cell? _ _ hw114_1;first|rwa [add_block] at this|exact this) GW116.out)|(rw [add_block];exact Nat.ne_of_lt (Nat.lt_of_lt_of_le (by have:=World.block_lt_of_cell? _ _ hw114_1;first|rwa [add_block] at this|exact this) GW116.out))|(show (Addr.add _ _).block≠_;rw [add_block];exact Nat.ne_of_lt (Nat.lt_of_lt_of_le (by have:=World.block_lt_of_cell? _ _ hw114_1;first|rwa [add_block] at this|exact this) GW116.out))|(dsimp only;exact Nat.ne_of_lt (Nat.lt_of_lt_of_le (by have:=World.block_lt_of_cell? _ _ hw114_1;first|rwa [add_block] at this|exact this) GW116.out))) _).trans (hHeld.2.2.2.2.2.2.1)))))),((cell_far (p:=⟨gb116,_,none⟩) (by first|exact Nat.ne_of_lt (Nat.lt_of_lt_of_le (by have:=World.block_lt_of_cell? _ _ hw114_2;first|rwa [add_block] at this|exact this) GW116.out)|(rw [add_block];exact Nat.ne_of_lt (Nat.lt_of_lt_of_le (by have:=World.block_lt_of_cell? _ _ hw114_2;first|rwa [add_block] at this|exact this) GW116.out))|(show (Addr.add _ _).block≠_;rw [add_block];exact Nat.ne_of_lt (Nat.lt_of_lt_of_le (by have:=World.block_lt_of_cell? _ _ hw114_2;first|rwa [add_block] at this|exact this) GW116.out))|(dsimp only;exact Nat.ne_of_lt (Nat.lt_of_lt_of_le (by have:=World.block_lt_of_cell? _ _ hw114_2;first|rwa [add_block] at this|exact this) GW116.out))) _).trans (((cell_far (p:=⟨gb116,_,none⟩) (by first|exact Nat.ne_of_lt (Nat.lt_of_lt_of_le (by have:=World.block_lt_of_cell? _ _ hw114_2;first|rwa [add_block] at this|exact this) GW116.out)|(rw [add_block];exact Nat.ne_of_lt (Nat.lt_of_lt_of_le (by have:=World.block_lt_of_cell? _ _ hw114_2;first|rwa [add_block] at this|exact this) GW116.out))|(show (Addr.add _ _).block≠_;rw [add_block];exact Nat.ne_of_lt (Nat.lt_of_lt_of_le (by have:=World.block_lt_of_cell? _ _ hw114_2;first|rwa [add_block] at this|exact this) GW116.out))|(dsimp only;exact Nat.ne_of_lt (Nat.lt_of_lt_of_le (by have:=World.block_lt_of_cell? _ _ hw114_2;first|rwa [add_block] at this|exact this) GW116.out))) _).trans (((cell_far (p:=⟨gb116,_,none⟩) (by first|exact Nat.ne_of_lt (Nat.lt_of_lt_of_le (by have:=World.block_lt_of_cell? _ _ hw114_2;first|rwa [add_block] at this|exact this) GW116.out)|(rw [add_block];exact Nat.ne_of_lt (Nat.lt_of_lt_of_le (by have:=World.block_lt_of_cell? _ _ hw114_2;first|rwa [add_block] at this|exact this) GW116.out))|(show (Addr.add _ _).block≠_;rw [add_block];exact Nat.ne_of_lt (Nat.lt_of_lt_of_le (by have:=World.block_lt_of_cell? _ _ hw114_2;first|rwa [add_block] at this|exact this) GW116.out))|(dsimp only;exact Nat.ne_of_lt (Nat.lt_of_lt_of_le (by have:=World.block_lt_of_cell? _ _ hw114_2;first|rwa [add_block] at this|exact this) GW116.out))) _).trans (hHeld.2.2.2.2.2.2.2))))))⟩ (fun hHeld=>?_)
                 clear hK K
                 refine done_ (done_of HT_.out zbk) ?_
                 try go_wp2
                 have n0_:Aside0 (Kd.R k127 127 ((((((w34.setCell ⟨gb115,0,none⟩ (.string ((rd_T125 l1 (rd (rd_L6 t107 x35_2) 0)).f0))).setCell ⟨gb115,1,none⟩ (.string ((rd_T125 l1 (rd (rd_L6 t107 x35_2) 0)).f1))).setCell ⟨gb115,2,none⟩ (.int .i64 ((rd_T125 l1 (rd (rd_L6 t107 x35_2) 0)).f2))).setCell ⟨gb116,0,none⟩ (.string ((rd_T127 l0 (rd (rd_L6 t107 x35_2) 1)).f0))).setCell ⟨gb116,1,none⟩ (.int .i64 ((rd_T127 l0 (rd (rd_L6 t107 x35_2) 1)).f1))).setCell ⟨gb116,2,none⟩ (.int .i64 ((rd_T127 l0 (rd (rd_L6 t107 x35_2) 1)).f2))) w.heap.size (fun k_=>k_≠gb116) u8 x8_2):=⟨zas⟩
                 have n1_:Aside0 (Kd.S (Kd.slice 2 (Kd.int .i64)) 126 ((((((w34.setCell ⟨gb115,0,none⟩ (.string ((rd_T125 l1 (rd (rd_L6 t107 x35_2) 0)).f0))).setCell ⟨gb115,1,none⟩ (.string ((rd_T125 l1 (rd (rd_L6 t107 x35_2) 0)).f1))).setCell ⟨gb115,2,none⟩ (.int .i64 ((rd_T125 l1 (rd (rd_L6 t107 x35_2) 0)).f2))).setCell ⟨gb116,0,none⟩ (.string ((rd_T127 l0 (rd (rd_L6 t107 x35_2) 1)).f0))).setCell ⟨gb116,1,none⟩ (.int .i64 ((rd_T127 l0 (rd (rd_L6 t107 x35_2) 1)).f1))).setCell ⟨gb116,2,none⟩ (.int .i64 ((rd_T127 l0 (rd (rd_L6 t107 x35_2) 1)).f2))) w.heap.size (fun _=>True) (.slice (some ad110) t107.length co18) t107):=⟨zau⟩
                 have n2_:Aside0 (Kd.R (Kd.int .i64) 2 ((((((w34.setCell ⟨gb115,0,none⟩ (.string ((rd_T125 l1 (rd (rd_L6 t107 x35_2) 0)).f0))).setCell ⟨gb115,1,none⟩ (.string ((rd_T125 l1 (rd (rd_L6 t107 x35_2) 0)).f1))).setCell ⟨gb115,2,none⟩ (.int .i64 ((rd_T125 l1 (rd (rd_L6 t107 x35_2) 0)).f2))).setCell ⟨gb116,0,none⟩ (.string ((rd_T127 l0 (rd (rd_L6 t107 x35_2) 1)).f0))).setCell ⟨gb116,1,none⟩ (.int .i64 ((rd_T127 l0 (rd (rd_L6 t107 x35_2) 1)).f1))).setCell ⟨gb116,2,none⟩ (.int .i64 ((rd_T127 l0 (rd (rd_L6 t107 x35_2) 1)).f2))) w.heap.size (fun k_=>some k_≠(.slice (some ad110) t107.length co18:Value).ownBlock) (.slice (some ad111) (rd_L6 t107 x35_2).length c110_0) (rd_L6 t107 x35_2)):=⟨zat⟩
                 have n3_:Aside0 (((((((w34.setCell ⟨gb115,0,none⟩ (.string ((rd_T125 l1 (rd (rd_L6 t107 x35_2) 0)).f0))).setCell ⟨gb115,1,none⟩ (.string ((rd_T125 l1 (rd (rd_L6 t107 x35_2) 0)).f1))).setCell ⟨gb115,2,none⟩ (.int .i64 ((rd_T125 l1 (rd (rd_L6 t107 x35_2) 0)).f2))).setCell ⟨gb116,0,none⟩ (.string ((rd_T127 l0 (rd (rd_L6 t107 x35_2) 1)).f0))).setCell ⟨gb116,1,none⟩ (.int .i64 ((rd_T127 l0 (rd (rd_L6 t107 x35_2) 1)).f1))).setCell ⟨gb116,2,none⟩ (.int .i64 ((rd_T127 l0 (rd (rd_L6 t107 x35_2) 1)).f2))).heap[gb115]?=some (.cells #[.string ((rd_T125 l1 (rd (rd_L6 t107 x35_2) 0)).f0),.string ((rd_T125 l1 (rd (rd_L6 t107 x35_2) 0)).f1),.int .i64 ((rd_T125 l1 (rd (rd_L6 t107 x35_2) 0)).f2)] 125 (0,0))):=⟨zx⟩
                 have n4_:Aside0 (((((((w34.setCell ⟨gb115,0,none⟩ (.string ((rd_T125 l1 (rd (rd_L6 t107 x35_2) 0)).f0))).setCell ⟨gb115,1,none⟩ (.string ((rd_T125 l1 (rd (rd_L6 t107 x35_2) 0)).f1))).setCell ⟨gb115,2,none⟩ (.int .i64 ((rd_T125 l1 (rd (rd_L6 t107 x35_2) 0)).f2))).setCell ⟨gb116,0,none⟩ (.string ((rd_T127 l0 (rd (rd_L6 t107 x35_2) 1)).f0))).setCell ⟨gb116,1,none⟩ (.int .i64 ((rd_T127 l0 (rd (rd_L6 t107 x35_2) 1)).f1))).setCell ⟨gb116,2,none⟩ (.int .i64 ((rd_T127 l0 (rd (rd_L6 t107 x35_2) 1)).f2))).heap[gb116]?=some (.cells #[.string ((rd_T127 l0 (rd (rd_L6 t107 x35_2) 1)).f0),.int .i64 ((rd_T127 l0 (rd (rd_L6 t107 x35_2) 1)).f1),.int .i64 ((rd_T127 l0 (rd (rd_L6 t107 x35_2) 1)).f2)] 127 (0,0))):=⟨zab⟩
                 have n5_:Aside0 (Below w.heap.size w ((((((w34.setCell ⟨gb115,0,none⟩ (.string ((rd_T125 l1 (rd (rd_L6 t107 x35_2) 0)).f0))).setCell ⟨gb115,1,none⟩ (.string ((rd_T125 l1 (rd (rd_L6 t107 x35_2) 0)).f1))).setCell ⟨gb115,2,none⟩ (.int .i64 ((rd_T125 l1 (rd (rd_L6 t107 x35_2) 0)).f2))).setCell ⟨gb116,0,none⟩ (.string ((rd_T127 l0 (rd (rd_L6 t107 x35_2) 1)).f0))).setCell ⟨gb116,1,none⟩ (.int .i64 ((rd_T127 l0 (rd (rd_L6 t107 x35_2) 1)).f1))).setCell ⟨gb116,2,none⟩ (.int .i64 ((rd_T127 l0 (rd (rd_L6 t107 x35_2) 1)).f2)))):=⟨zn⟩
                 (try clear HO_8)
                 (try clear HO_33)
                 (try clear HL110_0)
                 (try clear BK115)
                 (try clear BK116)
                 (try clear HB)
                 generalize ((((((w34.setCell ⟨gb115,0,none⟩ (.string ((rd_T125 l1 (rd (rd_L6 t107 x35_2) 0)).f0))).setCell ⟨gb115,1,none⟩ (.string ((rd_T125 l1 (rd (rd_L6 t107 x35_2) 0)).f1))).setCell ⟨gb115,2,none⟩ (.int .i64 ((rd_T125 l1 (rd (rd_L6 t107 x35_2) 0)).f2))).setCell ⟨gb116,0,none⟩ (.string ((rd_T127 l0 (rd (rd_L6 t107 x35_2) 1)).f0))).setCell ⟨gb116,1,none⟩ (.int .i64 ((rd_T127 l0 (rd (rd_L6 t107 x35_2) 1)).f1))).setCell ⟨gb116,2,none⟩ (.int .i64 ((rd_T127 l0 (rd (rd_L6 t107 x35_2) 1)).f2)))=w41 at n0_ n1_ n2_ n3_ n4_ n5_ ⊢
                 have HO_8:=n0_
                 have HO_33:=n1_
                 have HL110_0:=n2_
                 have BK115:=n3_
                 have BK116:=n4_
                 have HB:=n5_
                 clear n0_ n1_ n2_ n3_ n4_ n5_
                 replace HO_8:=Aside0.mk (Kd.R_drew HO_8.out)
                 replace HO_33:=Aside0.mk (Kd.S_drew HO_33.out)
                 replace HL110_0:=Aside0.mk (Kd.R_drew HL110_0.out)
                 replace BK115:=Aside0.mk (blk_drew BK115.out)
                 replace BK116:=Aside0.mk (blk_drew BK116.out)
                 replace HB:=Aside0.mk (below_drew1 HB.out)
                 refine start_ (n:=11) (S:=fun w'=>w'.cell? ⟨gb115,0,none⟩=some (.string ((rd_T125 l1 (rd (rd_L6 t107 x35_2) 0)).f0))∧w'.cell? ⟨gb115,1,none⟩=some (.string ((rd_T125 l1 (rd (rd_L6 t107 x35_2) 0)).f1))∧w'.cell? ⟨gb115,2,none⟩=some (.int .i64 ((rd_T125 l1 (rd (rd_L6 t107 x35_2) 0)).f2))∧w'.cell? ⟨gb116,0,none⟩=some (.string ((rd_T127 l0 (rd (rd_L6 t107 x35_2) 1)).f0))∧w'.cell? ⟨gb116,1,none⟩=some (.int .i64 ((rd_T127 l0 (rd (rd_L6 t107 x35_2) 1)).f1))∧w'.cell? ⟨gb116,2,none⟩=some (.int .i64 ((rd_T127 l0 (rd (rd_L6 t107 x35_2) 1)).f2))) (ds:=[]) #[false,false,false,false,false,false,false,false,false,false,false] zbk rfl rfl ⟨(blk_cell BK115.out 0).trans rfl,(blk_cell BK115.out 1).trans rfl,(blk_cell BK115.out 2).trans rfl,(blk_cell BK116.out 0).trans rfl,(blk_cell BK116.out 1).trans rfl,(blk_cell BK116.out 2).trans rfl⟩ (fun hHeld=>?_);refine with_tabW impl_AddAnswers.tab10 impl_AddAnswers.bits10 (fun HT_ HW_=>?_)
                 generalize w41.drew=w42 at HO_8 HO_33 HL110_0 BK115 BK116 HB hHeld ⊢
                 refine pA 0 51 ?_
                 refine pA 4 55 ?_
                 refine pA 7 58 ?_
                 refine pT 1 52 rfl zao ?_
                 refine pT 2 53 rfl zao ?_
                 refine pT 5 56 rfl zao ?_
                 refine join_ (σ:=Nat) 1 #[true,true,true,true,true,true,true,true,true,true,false] (fun s_=>[(54,.int .i64 t117),(13,.pointer (some ⟨s_,0,none⟩)),(57,.int .i64 (wrap64 (t117+((rd_T125 l1 (rd (rd_L6 t107 x35_2) 0)).f2)))),(59,.agg #[.string ((rd_T125 l1 (rd (rd_L6 t107 x35_2) 0)).f1),.int .i64 (wrap64 (t117+((rd_T125 l1 (rd (rd_L6 t107 x35_2) 0)).f2))),.int .i64 a2])]) (fun s_ w'=>(w'.cell? ⟨gb115,0,none⟩=some (.string ((rd_T125 l1 (rd (rd_L6 t107 x35_2) 0)).f0))∧w'.cell? ⟨gb115,1,none⟩=some (.string ((rd_T125 l1 (rd (rd_L6 t107 x35_2) 0)).f1))∧w'.cell? ⟨gb115,2,none⟩=some (.int .i64 ((rd_T125 l1 (rd (rd_L6 t107 x35_2) 0)).f2))∧w'.cell? ⟨gb116,0,none⟩=some (.string ((rd_T127 l0 (rd (rd_L6 t107 x35_2) 1)).f0))∧w'.cell? ⟨gb116,1,none⟩=some (.int .i64 ((rd_T127 l0 (rd (rd_L6 t107 x35_2) 1)).f1))∧w'.cell? ⟨gb116,2,none⟩=some (.int .i64 ((rd_T127 l0 (rd (rd_L6 t107 x35_2) 1)).f2)))∧(Kd.R (Kd.int .i64) 2 w' w.heap.size (fun k_=>some k_≠(.slice (some ad110) t107.length co18:Value).ownBlock) (.slice (some ad111) (rd_L6 t107 x35_2).length c110_0) (rd_L6 t107 x35_2))∧(Kd.S (Kd.slice 2 (Kd.int .i64)) 126 w' w.heap.size (fun _=>True) (.slice (some ad110) t107.length co18) t107)∧(Kd.R k127 127 w' w.heap.size (fun k_=>k_≠gb116∧k_≠s_) u8 x8_2)∧(w'.heap[gb115]?=some (.cells #[.string ((rd_T125 l1 (rd (rd_L6 t107 x35_2) 0)).f0),.string ((rd_T125 l1 (rd (rd_L6 t107 x35_2) 0)).f1),.int .i64 ((rd_T125 l1 (rd (rd_L6 t107 x35_2) 0)).f2)] 125 (0,0)))∧(w'.heap[gb116]?=some (.cells #[.string ((rd_T127 l0 (rd (rd_L6 t107 x35_2) 1)).f0),.int .i64 ((rd_T127 l0 (rd (rd_L6 t107 x35_2) 1)).f1),.int .i64 ((rd_T127 l0 (rd (rd_L6 t107 x35_2) 1)).f2)] 127 (0,0)))∧(w'.heap[s_]?=some (.cells #[.string (⟨#[]⟩:ByteArray),.int .i64 0,.int .i64 0] 127 (0,0)))∧(w.heap.size≤s_)∧(w.heap.size≤s_)∧(gb115≠s_)∧(s_≠gb115)∧(gb116≠s_)∧(s_≠gb116)∧(Below w.heap.size w w')) ?_ ?_
                 rotate_left
                 ·intro hCont
                  refine two_ (i:=3) (j:=9) (Ni:=some 54) (Nj:=some 13) #[true,true,true,true,true,true,false,true,false,false,false] #[true,true,true,false,true,true,false,true,false,true,false] rfl rfl rfl rfl (two_of HT_.out zbk) zbq zbq (fun K hK=>?_) (fun K hK=>?_)
                  ·skip
                   refine goes_ Try.func99 zbk rfl #[.agg #[.string ((rd_T127 l0 (rd (rd_L6 t107 x35_2) 1)).f0),.int .i64 ((rd_T127 l0 (rd (rd_L6 t107 x35_2) 1)).f1),.int .i64 ((rd_T127 l0 (rd (rd_L6 t107 x35_2) 1)).f2)]] (by rfl) rfl rfl zc ?_
                   with_reducible refine (impl_Turn_end.calls ((rd_T127 l0 (rd (rd_L6 t107 x35_2) 1)).f0) ((rd_T127 l0 (rd (rd_L6 t107 x35_2) 1)).f1) ((rd_T127 l0 (rd (rd_L6 t107 x35_2) 1)).f2) t117 _ A28.out).mono ?_
                   rintro e w43 ⟨rfl,hb⟩
                   refine ⟨_,rfl,?_⟩
                   replace HO_8:=Aside0.mk (Kd.R_below zv hb)
                   replace HO_33:=Aside0.mk (Kd.S_below zu hb)
                   replace HL110_0:=Aside0.mk (Kd.R_below zaa hb)
                   replace BK115:=Aside0.mk (blk_below (g:=gb115) (o:=.cells #[.string ((rd_T125 l1 (rd (rd_L6 t107 x35_2) 0)).f0),.string ((rd_T125 l1 (rd (rd_L6 t107 x35_2) 0)).f1),.int .i64 ((rd_T125 l1 (rd (rd_L6 t107 x35_2) 0)).f2)] 125 (0,0)) zl hb)
                   replace BK116:=Aside0.mk (blk_below (g:=gb116) (o:=.cells #[.string ((rd_T127 l0 (rd (rd_L6 t107 x35_2) 1)).f0),.int .i64 ((rd_T127 l0 (rd (rd_L6 t107 x35_2) 1)).f1),.int .i64 ((rd_T127 l0 (rd (rd_L6 t107 x35_2) 1)).f2)] 127 (0,0)) zg hb)
                   replace HB:=Aside0.mk (below_step zn hb)
                   (try clear hb)
                   (try clear hb2)
                   (try clear hk)
                   (try clear hi)
                   refine hK.out _ _ ⟨(blk_cell BK115.out 0).trans rfl,(blk_cell BK115.out 1).trans rfl,(blk_cell BK115.out 2).trans rfl,(blk_cell BK116.out 0).trans rfl,(blk_cell BK116.out 1).trans rfl,(blk_cell BK116.out 2).trans rfl⟩ (fun hHeld=>?_)
                   clear hK K
                   refine pN 54 ?_
                   refine pA 6 57 ?_
                   refine pA 8 59 ?_
                   refine one_ (i:=9) (N:=some 13) #[true,true,true,true,true,true,true,true,true,true,false] rfl rfl (one_of HT_.out zbk) zbq (fun K hK=>?_)
                   refine box_step ?hg (N:=13) ?hd (cs:=#[.string (⟨#[]⟩:ByteArray),.int .i64 0,.int .i64 0]) (t:=127) ?hr ?_;(case hd=>rfl);(case hg=>rfl);(case hr=>exact zt)
                   intro gb118 hg w44 hbox hb
                   have n0_:=Aside0.mk (Kd.R_below (Kd.R_elderB zv gb118 (Nat.le_of_eq hg.symm)) hb)
                   have n1_:=Aside0.mk (Kd.S_below zu hb)
                   have n2_:=Aside0.mk (Kd.R_below zaa hb)
                   have n3_:=Aside0.mk (blk_below (g:=gb115) (o:=.cells #[.string ((rd_T125 l1 (rd (rd_L6 t107 x35_2) 0)).f0),.string ((rd_T125 l1 (rd (rd_L6 t107 x35_2) 0)).f1),.int .i64 ((rd_T125 l1 (rd (rd_L6 t107 x35_2) 0)).f2)] 125 (0,0)) zl hb)
                   have n4_:=Aside0.mk (blk_below (g:=gb116) (o:=.cells #[.string ((rd_T127 l0 (rd (rd_L6 t107 x35_2) 1)).f0),.int .i64 ((rd_T127 l0 (rd (rd_L6 t107 x35_2) 1)).f1),.int .i64 ((rd_T127 l0 (rd (rd_L6 t107 x35_2) 1)).f2)] 127 (0,0)) zg hb)
                   have n5_:=Aside0.mk (below_step zn hb)
                   have n6_:=Aside0.mk (hbox)
                   have n7_:=Aside0.mk ((by rw [hg];exact (below_size zn):w.heap.size≤gb118))
                   have n8_:=Aside0.mk ((by rw [hg];exact (below_size zn):w.heap.size≤gb118))
                   have n9_:=Aside0.mk ((by rw [hg];exact Nat.ne_of_lt (blk_lt (g:=gb115) (o:=.cells #[.string ((rd_T125 l1 (rd (rd_L6 t107 x35_2) 0)).f0),.string ((rd_T125 l1 (rd (rd_L6 t107 x35_2) 0)).f1),.int .i64 ((rd_T125 l1 (rd (rd_L6 t107 x35_2) 0)).f2)] 125 (0,0)) zl):gb115≠gb118))
                   have n10_:=Aside0.mk ((by rw [hg];exact Nat.ne_of_gt (blk_lt (g:=gb115) (o:=.cells #[.string ((rd_T125 l1 (rd (rd_L6 t107 x35_2) 0)).f0),.string ((rd_T125 l1 (rd (rd_L6 t107 x35_2) 0)).f1),.int .i64 ((rd_T125 l1 (rd (rd_L6 t107 x35_2) 0)).f2)] 125 (0,0)) zl):gb118≠gb115))
                   have n11_:=Aside0.mk ((by rw [hg];exact Nat.ne_of_lt (blk_lt (g:=gb116) (o:=.cells #[.string ((rd_T127 l0 (rd (rd_L6 t107 x35_2) 1)).f0),.int .i64 ((rd_T127 l0 (rd (rd_L6 t107 x35_2) 1)).f1),.int .i64 ((rd_T127 l0 (rd (rd_L6 t107 x35_2) 1)).f2)] 127 (0,0)) zg):gb116≠gb118))
                   have n12_:=Aside0.mk ((by rw [hg];exact Nat.ne_of_gt (blk_lt (g:=gb116) (o:=.cells #[.string ((rd_T127 l0 (rd (rd_L6 t107 x35_2) 1)).f0),.int .i64 ((rd_T127 l0 (rd (rd_L6 t107 x35_2) 1)).f1),.int .i64 ((rd_T127 l0 (rd (rd_L6 t107 x35_2) 1)).f2)] 127 (0,0)) zg):gb118≠gb116))
                   clear HO_8
                   clear HO_33
                   clear HL110_0
                   clear BK115
                   clear BK116
                   clear HB
                   have HO_8:=n0_
                   have HO_33:=n1_
                   have HL110_0:=n2_
                   have BK115:=n3_
                   have BK116:=n4_
                   have HB:=n5_
                   have BK118:=n6_
                   have GW118:=n7_
                   have GE118:=n8_
                   have NB115_118:=n9_
                   have NB118_115:=n10_
                   have NB116_118:=n11_
                   have NB118_116:=n12_
                   clear n0_ n1_ n2_ n3_ n4_ n5_ n6_ n7_ n8_ n9_ n10_ n11_ n12_
                   clear hb hbox hg
                   refine hK.out _ _ ⟨(blk_cell BK115.out 0).trans rfl,(blk_cell BK115.out 1).trans rfl,(blk_cell BK115.out 2).trans rfl,(blk_cell BK116.out 0).trans rfl,(blk_cell BK116.out 1).trans rfl,(blk_cell BK116.out 2).trans rfl⟩ (fun hHeld=>?_)
                   clear hK K
                   refine pN 13 ?_
                   exact norm_ zcq (hCont (gb118) _ ⟨hHeld,zaa,zu,zv,zl,zg,zbp,GW118.out,GE118.out,NB115_118.out,NB118_115.out,NB116_118.out,NB118_116.out,zo⟩)
                  ·skip
                   refine box_step ?hg (N:=13) ?hd (cs:=#[.string (⟨#[]⟩:ByteArray),.int .i64 0,.int .i64 0]) (t:=127) ?hr ?_;(case hd=>rfl);(case hg=>rfl);(case hr=>exact zt)
                   intro gb118 hg w43 hbox hb
                   have n0_:=Aside0.mk (Kd.R_below (Kd.R_elderB zv gb118 (Nat.le_of_eq hg.symm)) hb)
                   have n1_:=Aside0.mk (Kd.S_below zu hb)
                   have n2_:=Aside0.mk (Kd.R_below zaa hb)
                   have n3_:=Aside0.mk (blk_below (g:=gb115) (o:=.cells #[.string ((rd_T125 l1 (rd (rd_L6 t107 x35_2) 0)).f0),.string ((rd_T125 l1 (rd (rd_L6 t107 x35_2) 0)).f1),.int .i64 ((rd_T125 l1 (rd (rd_L6 t107 x35_2) 0)).f2)] 125 (0,0)) zl hb)
                   have n4_:=Aside0.mk (blk_below (g:=gb116) (o:=.cells #[.string ((rd_T127 l0 (rd (rd_L6 t107 x35_2) 1)).f0),.int .i64 ((rd_T127 l0 (rd (rd_L6 t107 x35_2) 1)).f1),.int .i64 ((rd_T127 l0 (rd (rd_L6 t107 x35_2) 1)).f2)] 127 (0,0)) zg hb)
                   have n5_:=Aside0.mk (below_step zn hb)
                   have n6_:=Aside0.mk (hbox)
                   have n7_:=Aside0.mk ((by rw [hg];exact (below_size zn):w.heap.size≤gb118))
                   have n8_:=Aside0.mk ((by rw [hg];exact (below_size zn):w.heap.size≤gb118))
                   have n9_:=Aside0.mk ((by rw [hg];exact Nat.ne_of_lt (blk_lt (g:=gb115) (o:=.cells #[.string ((rd_T125 l1 (rd (rd_L6 t107 x35_2) 0)).f0),.string ((rd_T125 l1 (rd (rd_L6 t107 x35_2) 0)).f1),.int .i64 ((rd_T125 l1 (rd (rd_L6 t107 x35_2) 0)).f2)] 125 (0,0)) zl):gb115≠gb118))
                   have n10_:=Aside0.mk ((by rw [hg];exact Nat.ne_of_gt (blk_lt (g:=gb115) (o:=.cells #[.string ((rd_T125 l1 (rd (rd_L6 t107 x35_2) 0)).f0),.string ((rd_T125 l1 (rd (rd_L6 t107 x35_2) 0)).f1),.int .i64 ((rd_T125 l1 (rd (rd_L6 t107 x35_2) 0)).f2)] 125 (0,0)) zl):gb118≠gb115))
                   have n11_:=Aside0.mk ((by rw [hg];exact Nat.ne_of_lt (blk_lt (g:=gb116) (o:=.cells #[.string ((rd_T127 l0 (rd (rd_L6 t107 x35_2) 1)).f0),.int .i64 ((rd_T127 l0 (rd (rd_L6 t107 x35_2) 1)).f1),.int .i64 ((rd_T127 l0 (rd (rd_L6 t107 x35_2) 1)).f2)] 127 (0,0)) zg):gb116≠gb118))
                   have n12_:=Aside0.mk ((by rw [hg];exact Nat.ne_of_gt (blk_lt (g:=gb116) (o:=.cells #[.string ((rd_T127 l0 (rd (rd_L6 t107 x35_2) 1)).f0),.int .i64 ((rd_T127 l0 (rd (rd_L6 t107 x35_2) 1)).f1),.int .i64 ((rd_T127 l0 (rd (rd_L6 t107 x35_2) 1)).f2)] 127 (0,0)) zg):gb118≠gb116))
                   clear HO_8
                   clear HO_33
                   clear HL110_0
                   clear BK115
                   clear BK116
                   clear HB
                   have HO_8:=n0_
                   have HO_33:=n1_
                   have HL110_0:=n2_
                   have BK115:=n3_
                   have BK116:=n4_
                   have HB:=n5_
                   have BK118:=n6_
                   have GW118:=n7_
                   have GE118:=n8_
                   have NB115_118:=n9_
                   have NB118_115:=n10_
                   have NB116_118:=n11_
                   have NB118_116:=n12_
                   clear n0_ n1_ n2_ n3_ n4_ n5_ n6_ n7_ n8_ n9_ n10_ n11_ n12_
                   clear hb hbox hg
                   refine hK.out _ _ ⟨(blk_cell BK115.out 0).trans rfl,(blk_cell BK115.out 1).trans rfl,(blk_cell BK115.out 2).trans rfl,(blk_cell BK116.out 0).trans rfl,(blk_cell BK116.out 1).trans rfl,(blk_cell BK116.out 2).trans rfl⟩ (fun hHeld=>?_)
                   clear hK K
                   refine pN 13 ?_
                   refine one_ (i:=3) (N:=some 54) #[true,true,true,true,true,true,false,true,false,true,false] rfl rfl (one_of HT_.out zbk) zbq (fun K hK=>?_)
                   refine goes_ Try.func99 zbk rfl #[.agg #[.string ((rd_T127 l0 (rd (rd_L6 t107 x35_2) 1)).f0),.int .i64 ((rd_T127 l0 (rd (rd_L6 t107 x35_2) 1)).f1),.int .i64 ((rd_T127 l0 (rd (rd_L6 t107 x35_2) 1)).f2)]] (by rfl) rfl rfl zc ?_
                   with_reducible refine (impl_Turn_end.calls ((rd_T127 l0 (rd (rd_L6 t107 x35_2) 1)).f0) ((rd_T127 l0 (rd (rd_L6 t107 x35_2) 1)).f1) ((rd_T127 l0 (rd (rd_L6 t107 x35_2) 1)).f2) t117 _ A28.out).mono ?_
                   rintro e w44 ⟨rfl,hb⟩
                   refine ⟨_,rfl,?_⟩
                   replace HO_8:=Aside0.mk (Kd.R_below zv hb)
                   replace HO_33:=Aside0.mk (Kd.S_below zu hb)
                   replace HL110_0:=Aside0.mk (Kd.R_below zaa hb)
                   replace BK115:=Aside0.mk (blk_below (g:=gb115) (o:=.cells #[.string ((rd_T125 l1 (rd (rd_L6 t107 x35_2) 0)).f0),.string ((rd_T125 l1 (rd (rd_L6 t107 x35_2) 0)).f1),.int .i64 ((rd_T125 l1 (rd (rd_L6 t107 x35_2) 0)).f2)] 125 (0,0)) zl hb)
                   replace BK116:=Aside0.mk (blk_below (g:=gb116) (o:=.cells #[.string ((rd_T127 l0 (rd (rd_L6 t107 x35_2) 1)).f0),.int .i64 ((rd_T127 l0 (rd (rd_L6 t107 x35_2) 1)).f1),.int .i64 ((rd_T127 l0 (rd (rd_L6 t107 x35_2) 1)).f2)] 127 (0,0)) zg hb)
                   replace BK118:=Aside0.mk (blk_below (g:=gb118) (o:=.cells #[.string (⟨#[]⟩:ByteArray),.int .i64 0,.int .i64 0] 127 (0,0)) zbp hb)
                   replace HB:=Aside0.mk (below_step zo hb)
                   (try clear hb)
                   (try clear hb2)
                   (try clear hk)
                   (try clear hi)
                   refine hK.out _ _ ⟨(blk_cell BK115.out 0).trans rfl,(blk_cell BK115.out 1).trans rfl,(blk_cell BK115.out 2).trans rfl,(blk_cell BK116.out 0).trans rfl,(blk_cell BK116.out 1).trans rfl,(blk_cell BK116.out 2).trans rfl⟩ (fun hHeld=>?_)
                   clear hK K
                   refine pN 54 ?_
                   refine pA 6 57 ?_
                   refine pA 8 59 ?_
                   exact norm_ zcq (hCont (gb118) _ ⟨hHeld,zaa,zu,zv,zl,zg,zbp,GW118.out,GE118.out,NB115_118.out,NB118_115.out,NB116_118.out,NB118_116.out,zo⟩)
                 rintro gb118 w45 ⟨hS_,h0_,h1_,h2_,h3_,h4_,h5_,h6_,h7_,h8_,h9_,h10_,h11_,h12_⟩
                 have n0_:Aside0 (Kd.R (Kd.int .i64) 2 w45 w.heap.size (fun k_=>some k_≠(.slice (some ad110) t107.length co18:Value).ownBlock) (.slice (some ad111) (rd_L6 t107 x35_2).length c110_0) (rd_L6 t107 x35_2)):=⟨h0_⟩
                 have n1_:Aside0 (Kd.S (Kd.slice 2 (Kd.int .i64)) 126 w45 w.heap.size (fun _=>True) (.slice (some ad110) t107.length co18) t107):=⟨h1_⟩
                 have n2_:Aside0 (Kd.R k127 127 w45 w.heap.size (fun k_=>k_≠gb116∧k_≠gb118) u8 x8_2):=⟨h2_⟩
                 have n3_:Aside0 (w45.heap[gb115]?=some (.cells #[.string ((rd_T125 l1 (rd (rd_L6 t107 x35_2) 0)).f0),.string ((rd_T125 l1 (rd (rd_L6 t107 x35_2) 0)).f1),.int .i64 ((rd_T125 l1 (rd (rd_L6 t107 x35_2) 0)).f2)] 125 (0,0))):=⟨h3_⟩
                 have n4_:Aside0 (w45.heap[gb116]?=some (.cells #[.string ((rd_T127 l0 (rd (rd_L6 t107 x35_2) 1)).f0),.int .i64 ((rd_T127 l0 (rd (rd_L6 t107 x35_2) 1)).f1),.int .i64 ((rd_T127 l0 (rd (rd_L6 t107 x35_2) 1)).f2)] 127 (0,0))):=⟨h4_⟩
                 have n5_:Aside0 (w45.heap[gb118]?=some (.cells #[.string (⟨#[]⟩:ByteArray),.int .i64 0,.int .i64 0] 127 (0,0))):=⟨h5_⟩
                 have n6_:Aside0 (w.heap.size≤gb118):=⟨h6_⟩
                 have n7_:Aside0 (w.heap.size≤gb118):=⟨h7_⟩
                 have n8_:Aside0 (gb115≠gb118):=⟨h8_⟩
                 have n9_:Aside0 (gb118≠gb115):=⟨h9_⟩
                 have n10_:Aside0 (gb116≠gb118):=⟨h10_⟩
                 have n11_:Aside0 (gb118≠gb116):=⟨h11_⟩
                 have n12_:Aside0 (Below w.heap.size w w45):=⟨h12_⟩
                 clear HO_8
                 clear HO_33
                 clear HL110_0
                 clear BK115
                 clear BK116
                 clear HB
                 clear h0_ h1_ h2_ h3_ h4_ h5_ h6_ h7_ h8_ h9_ h10_ h11_ h12_
                 have HL110_0:=n0_
                 have HO_33:=n1_
                 have HO_8:=n2_
                 have BK115:=n3_
                 have BK116:=n4_
                 have BK118:=n5_
                 have GW118:=n6_
                 have GE118:=n7_
                 have NB115_118:=n8_
                 have NB118_115:=n9_
                 have NB116_118:=n10_
                 have NB118_116:=n11_
                 have HB:=n12_
                 clear n0_ n1_ n2_ n3_ n4_ n5_ n6_ n7_ n8_ n9_ n10_ n11_ n12_
                 have hHeld:w45.cell? ⟨gb115,0,none⟩=some (.string ((rd_T125 l1 (rd (rd_L6 t107 x35_2) 0)).f0))∧w45.cell? ⟨gb115,1,none⟩=some (.string ((rd_T125 l1 (rd (rd_L6 t107 x35_2) 0)).f1))∧w45.cell? ⟨gb115,2,none⟩=some (.int .i64 ((rd_T125 l1 (rd (rd_L6 t107 x35_2) 0)).f2))∧w45.cell? ⟨gb116,0,none⟩=some (.string ((rd_T127 l0 (rd (rd_L6 t107 x35_2) 1)).f0))∧w45.cell? ⟨gb116,1,none⟩=some (.int .i64 ((rd_T127 l0 (rd (rd_L6 t107 x35_2) 1)).f1))∧w45.cell? ⟨gb116,2,none⟩=some (.int .i64 ((rd_T127 l0 (rd (rd_L6 t107 x35_2) 1)).f2)):=hS_
                 refine norm_ (a':=?_) ?_ ?_
                 rotate_left
                 ·simp only [putAll,Act.put,List.setIfInBounds_toArray,List.set_cons_zero,List.set_cons_succ]
                  rfl
                 refine one_ (i:=10) (N:=none) #[true,true,true,true,true,true,true,true,true,true,true] rfl rfl (one_of HT_.out zbk) zbq (fun K hK=>?_)
                 have hs46:w45.cell? ⟨gb118,0,none⟩=some (.string (⟨#[]⟩:ByteArray)):=(blk_cell BK118.out 0).trans rfl
                 have hfs46:=blk_frozen BK118.out 0
                 have hns46_0:=NB115_118.out
                 have hns46_1:=NB116_118.out
                 have hms46_0:=NB118_115.out
                 have hms46_1:=NB118_116.out
                 have hs47:w45.cell? ⟨gb118,1,none⟩=some (.int .i64 0):=(blk_cell BK118.out 1).trans rfl
                 have hfs47:=blk_frozen BK118.out 1
                 have hns47_0:=NB115_118.out
                 have hns47_1:=NB116_118.out
                 have hms47_0:=NB118_115.out
                 have hms47_1:=NB118_116.out
                 have hs48:w45.cell? ⟨gb118,2,none⟩=some (.int .i64 0):=(blk_cell BK118.out 2).trans rfl
                 have hfs48:=blk_frozen BK118.out 2
                 have hns48_0:=NB115_118.out
                 have hns48_1:=NB116_118.out
                 have hms48_0:=NB118_115.out
                 have hms48_1:=NB118_116.out
                 refine skip_ (w1:=?_) (by rfl) rfl ?_ ?_
                 rotate_left
                 ·go_simp
                  rfl
                 refine hK.out _ _ ⟨((cell_far (p:=⟨gb118,_,none⟩) NB115_118.out _).trans (((cell_far (p:=⟨gb118,_,none⟩) NB115_118.out _).trans (((cell_far (p:=⟨gb118,_,none⟩) NB115_118.out _).trans (hHeld.1)))))),((cell_far (p:=⟨gb118,_,none⟩) NB115_118.out _).trans (((cell_far (p:=⟨gb118,_,none⟩) NB115_118.out _).trans (((cell_far (p:=⟨gb118,_,none⟩) NB115_118.out _).trans (hHeld.2.1)))))),((cell_far (p:=⟨gb118,_,none⟩) NB115_118.out _).trans (((cell_far (p:=⟨gb118,_,none⟩) NB115_118.out _).trans (((cell_far (p:=⟨gb118,_,none⟩) NB115_118.out _).trans (hHeld.2.2.1)))))),((cell_far (p:=⟨gb118,_,none⟩) NB116_118.out _).trans (((cell_far (p:=⟨gb118,_,none⟩) NB116_118.out _).trans (((cell_far (p:=⟨gb118,_,none⟩) NB116_118.out _).trans (hHeld.2.2.2.1)))))),((cell_far (p:=⟨gb118,_,none⟩) NB116_118.out _).trans (((cell_far (p:=⟨gb118,_,none⟩) NB116_118.out _).trans (((cell_far (p:=⟨gb118,_,none⟩) NB116_118.out _).trans (hHeld.2.2.2.2.1)))))),((cell_far (p:=⟨gb118,_,none⟩) NB116_118.out _).trans (((cell_far (p:=⟨gb118,_,none⟩) NB116_118.out _).trans (((cell_far (p:=⟨gb118,_,none⟩) NB116_118.out _).trans (hHeld.2.2.2.2.2))))))⟩ (fun hHeld=>?_)
                 clear hK K
                 refine done_ (done_of HT_.out zbk) ?_
                 have hnb49:=NB118_115.out
                 have hnc49:=NB115_118.out
                 have hnb50:=NB118_116.out
                 have hnc50:=NB116_118.out
                 have hcz51_0:w45.cell? ⟨gb118,0,none⟩=some (.string (⟨#[]⟩:ByteArray)):=(blk_cell BK118.out 0).trans rfl
                 have hcz51_1:w45.cell? ⟨gb118,1,none⟩=some (.int .i64 0):=(blk_cell BK118.out 1).trans rfl
                 have hcz51_2:w45.cell? ⟨gb118,2,none⟩=some (.int .i64 0):=(blk_cell BK118.out 2).trans rfl
                 have hfz51_0:=blk_frozen BK118.out 0
                 have hfz51_1:=blk_frozen BK118.out 1
                 have hfz51_2:=blk_frozen BK118.out 2
                 obtain ⟨Ao52,co52,eo52⟩:=Kd.R_slice HO_8.out
                 subst eo52
                 try go_wp2_with (first|((with_reducible refine gate_callee (f:=100) rfl ?_);refine goesL_ (some 65) rfl rfl Try.func100 zbk rfl #[.slice Ao52 x8_2.length co52,.string ((rd_T125 l1 (rd (rd_L6 t107 x35_2) 0)).f1),.int .i64 (wrap64 (t117+((rd_T125 l1 (rd (rd_L6 t107 x35_2) 0)).f2)))] rfl zc ?_;(with_reducible refine (impl_begins.calls _ _ x8_2 ((rd_T125 l1 (rd (rd_L6 t107 x35_2) 0)).f1) (wrap64 (t117+((rd_T125 l1 (rd (rd_L6 t107 x35_2) 0)).f2))) true _ ?side1 ?side2 A29.out).mono ?_);(case side1=>refine (Kd.R_reads' (e:=127) (base:=w.heap.size) (ok:=fun k_=>(k_≠gb116∧k_≠gb118)) (n:=x8_2.length) (c:=co52) ?_).2.2;exact zan);(case side2=>exact (Kd.R_reads' HO_8.out).2.1);rintro e w53 ⟨rfl,hb⟩;refine ⟨_,rfl,?_⟩;replace HO_8:=Aside0.mk (Kd.R_below zan hb);replace HO_33:=Aside0.mk (Kd.S_below zcj hb);replace HL110_0:=Aside0.mk (Kd.R_below zci hb);replace BK115:=Aside0.mk (blk_below (g:=gb115) (o:=.cells #[.string ((rd_T125 l1 (rd (rd_L6 t107 x35_2) 0)).f0),.string ((rd_T125 l1 (rd (rd_L6 t107 x35_2) 0)).f1),.int .i64 ((rd_T125 l1 (rd (rd_L6 t107 x35_2) 0)).f2)] 125 (0,0)) zbv hb);replace BK116:=Aside0.mk (blk_below (g:=gb116) (o:=.cells #[.string ((rd_T127 l0 (rd (rd_L6 t107 x35_2) 1)).f0),.int .i64 ((rd_T127 l0 (rd (rd_L6 t107 x35_2) 1)).f1),.int .i64 ((rd_T127 l0 (rd (rd_L6 t107 x35_2) 1)).f2)] 127 (0,0)) zbw hb);replace BK118:=Aside0.mk (blk_below (g:=gb118) (o:=.cells #[.string ((rd_T125 l1 (rd (rd_L6 t107 x35_2) 0)).f1),.int .i64 (wrap64 (t117+((rd_T125 l1 (rd (rd_L6 t107 x35_2) 0)).f2))),.int .i64 a2] 127 (0,0)) zay hb);replace HB:=Aside0.mk (below_step zo hb);(try clear hb);(try clear hb2);(try clear hk);(try clear hi)))
                 go_roundg k2
                 case measure=>have:=HJ3.out;have:=HK2.out;omega
                 case rel=>exact ⟨(x8_2),(wrap64 (x35_2+1)),zm,H',⟨by have:=HJ3.out;have:=HK2.out;omega⟩,⟨by (with_reducible repeat (first|apply Kd.R_alloc|apply Kd.R_drewN|apply Kd.R_drew));exact Kd.R_mono HO_8.out (fun _ hk=>trivial)⟩,⟨zu⟩,⟨zo⟩⟩
                ·replace c30:=Bool.eq_false_iff.mpr c30
                 subst c30
                 have H1:((impl_Turn_valid.f k2 ((rd_T125 l1 (rd (rd_L6 t107 x35_2) 0)).f1) (wrap64 (t117+((rd_T125 l1 (rd (rd_L6 t107 x35_2) 0)).f2))) a2).bind fun t120=>(if t120=true then ((slices_BinarySearchFunc_S_impl_Turn.f k2 x8_2 ((rd_T125 l1 (rd (rd_L6 t107 x35_2) 0)).f1) (wrap64 (t117+((rd_T125 l1 (rd (rd_L6 t107 x35_2) 0)).f2))) a2 0).bind fun bt121=>((slices_Insert_S_impl_Turn.f x8_2 bt121.1 (([(⟨(rd_T125 l1 (rd (rd_L6 t107 x35_2) 0)).f1,wrap64 (t117+((rd_T125 l1 (rd (rd_L6 t107 x35_2) 0)).f2)),a2⟩:S127)]:List (S127)))).bind fun t126=>(impl_AddAnswers.l0 k2 l0 l1 a2 t126 t107 (t107.length:Int) (wrap64 (x35_2+1))))) else (some (([]:List (S127)),6))))=some (r1,r2):=by rw [if_neg (show ¬ (false=true) by decide)] at H;exact H
                 clear H
                 have H:=H1
                 clear H1
                 replace H:=Option.bind_eq_some_iff.mp H
                 obtain ⟨t120,A540,H⟩:=H
                 replace H:(if t120=true then ((slices_BinarySearchFunc_S_impl_Turn.f k2 x8_2 ((rd_T125 l1 (rd (rd_L6 t107 x35_2) 0)).f1) (wrap64 (t117+((rd_T125 l1 (rd (rd_L6 t107 x35_2) 0)).f2))) a2 0).bind fun bt121=>((slices_Insert_S_impl_Turn.f x8_2 bt121.1 (([(⟨(rd_T125 l1 (rd (rd_L6 t107 x35_2) 0)).f1,wrap64 (t117+((rd_T125 l1 (rd (rd_L6 t107 x35_2) 0)).f2)),a2⟩:S127)]:List (S127)))).bind fun t126=>(impl_AddAnswers.l0 k2 l0 l1 a2 t126 t107 (t107.length:Int) (wrap64 (x35_2+1))))) else (some (([]:List (S127)),6)))=some (r1,r2):=H
                 have A54:=Aside0.mk A540
                 clear A540
                 by_cases c55:t120=true
                 ·subst c55
                  have H1:((slices_BinarySearchFunc_S_impl_Turn.f k2 x8_2 ((rd_T125 l1 (rd (rd_L6 t107 x35_2) 0)).f1) (wrap64 (t117+((rd_T125 l1 (rd (rd_L6 t107 x35_2) 0)).f2))) a2 0).bind fun bt121=>((slices_Insert_S_impl_Turn.f x8_2 bt121.1 (([(⟨(rd_T125 l1 (rd (rd_L6 t107 x35_2) 0)).f1,wrap64 (t117+((rd_T125 l1 (rd (rd_L6 t107 x35_2) 0)).f2)),a2⟩:S127)]:List (S127)))).bind fun t126=>(impl_AddAnswers.l0 k2 l0 l1 a2 t126 t107 (t107.length:Int) (wrap64 (x35_2+1)))))=some (r1,r2):=by rw [if_pos rfl] at H;exact H
                  clear H
                  have H:=H1
                  clear H1
                  replace H:=Option.bind_eq_some_iff.mp H
                  obtain ⟨⟨t121,t122⟩,A560,H⟩:=H
                  replace H:((slices_Insert_S_impl_Turn.f x8_2 t121 (([(⟨(rd_T125 l1 (rd (rd_L6 t107 x35_2) 0)).f1,wrap64 (t117+((rd_T125 l1 (rd (rd_L6 t107 x35_2) 0)).f2)),a2⟩:S127)]:List (S127)))).bind fun t126=>(impl_AddAnswers.l0 k2 l0 l1 a2 t126 t107 (t107.length:Int) (wrap64 (x35_2+1))))=some (r1,r2):=H
                  have A56:=Aside0.mk A560
                  clear A560
                  obtain ⟨y123,hy123⟩:∃y_:List (S127),y_=(([(⟨(rd_T125 l1 (rd (rd_L6 t107 x35_2) 0)).f1,wrap64 (t117+((rd_T125 l1 (rd (rd_L6 t107 x35_2) 0)).f2)),a2⟩:S127)]:List (S127))):=⟨_,rfl⟩
                  replace H:((slices_Insert_S_impl_Turn.f x8_2 t121 y123).bind fun t126=>(impl_AddAnswers.l0 k2 l0 l1 a2 t126 t107 (t107.length:Int) (wrap64 (x35_2+1))))=some (r1,r2):=by first|(rw [hy123];with_reducible exact H)|(have H2_:=(Option.bind_some _ _).symm.trans H;rw [hy123];with_reducible exact H2_)|(have H2_:=(Option.bind_some _ _).symm.trans H;with_reducible exact H2_)|with_reducible exact H|(rw [hy123];exact H)|exact H
                  have Ny123:=Aside0.mk hy123
                  clear hy123
                  replace H:=Option.bind_eq_some_iff.mp H
                  obtain ⟨t126,A570,H⟩:=H
                  replace H:(impl_AddAnswers.l0 k2 l0 l1 a2 t126 t107 (t107.length:Int) (wrap64 (x35_2+1)))=some (r1,r2):=H
                  have A57:=Aside0.mk A570
                  clear A570
                  have H':=Aside0.mk H
                  clear H
                  have p110:0≤(x35_2:Int):=of_decide_eq_true zb
                  have q110:x35_2<(t107.length:Int):=of_decide_eq_true zb
                  obtain ⟨ad110,A110_0,c110_0,e110,hx110_0,hl110_0,hi110_0⟩:=at_L6 (Kd.S_reads' HO_33.out).2.2 x35_2 p110 q110
                  cases e110
                  obtain ⟨ce110,hce110,hMe110,hcc110⟩:=Kd.S_get HO_33.out [] x35_2 p110 (by first|exact q110|exact of_decide_eq_true zb|(have e_:=(Kd.S_reads' HO_33.out).1;omega))
                  obtain ⟨ve110_0,rfl,ge110_0⟩:=hMe110
                  have hv110_0:=hcc110 0 _ rfl
                  rw [Nat.add_zero,show ((Kd.slice 2 (Kd.int .i64))).sz=1 from rfl,Nat.mul_one] at hv110_0
                  replace hv110_0:=Option.some.inj (hv110_0.symm.trans hx110_0)
                  rw [hv110_0] at ge110_0
                  have HL110_0:=Aside0.mk (show Kd.R (Kd.int .i64) 2 _ _ _ _ (rd_L6 t107 x35_2) from ge110_0)
                  clear hv110_0 ge110_0
                  clear hcc110 hce110
                  have HR110_0:=Aside0.mk hi110_0
                  have HC110_0:=Aside0.mk hl110_0
                  clear hi110_0 hl110_0
                  replace p110:=eq_true p110
                  replace q110:=eq_true q110
                  try go_wp2
                  replace HO_8:=Aside0.mk (Kd.R_drew HO_8.out)
                  replace HO_33:=Aside0.mk (Kd.S_drew HO_33.out)
                  replace HL110_0:=Aside0.mk (Kd.R_drew HL110_0.out)
                  replace HR110_0:=Aside0.mk (Kd.C_drew HR110_0.out)
                  replace HB:=Aside0.mk (below_drew1 HB.out)
                  have p111:0≤(0:Int):=zbt
                  have q111:0<((rd_L6 t107 x35_2).length:Int):=of_decide_eq_true zb
                  obtain ⟨ad111,e111,hx111_0⟩:=Kd.at_int zae 0 p111 q111
                  cases e111
                  have qi111:(0<(rd_L6 t107 x35_2).length)=True:=eq_true zbt
                  (try rw [show ((0:Int)).toNat=0 from rfl] at hx111_0)
                  (try rw [Addr.add_zero'] at hx111_0)
                  replace p111:=eq_true p111
                  replace q111:=eq_true q111
                  have p112:0≤((rd (rd_L6 t107 x35_2) 0):Int):=of_decide_eq_true zb
                  have q112:(rd (rd_L6 t107 x35_2) 0)<(l1.length:Int):=of_decide_eq_true zb
                  obtain ⟨ad112,e112,hx112_0,hx112_1,hx112_2⟩:=at_T125 HR1.out (rd (rd_L6 t107 x35_2) 0) p112 q112
                  have hw112_2:=hx112_2
                  have hw112_1:=hx112_1
                  have hw112_0:=hx112_0
                  cases e112
                  replace hx112_0:=(HB.out.cell (World.block_lt_of_cell? w _ hx112_0)).trans hx112_0
                  replace hx112_1:=(HB.out.cell (World.block_lt_of_cell? w _ hx112_1)).trans hx112_1
                  replace hx112_2:=(HB.out.cell (World.block_lt_of_cell? w _ hx112_2)).trans hx112_2
                  replace p112:=eq_true p112
                  replace q112:=eq_true q112
                  have p113:0≤(1:Int):=zbt
                  have q113:1<((rd_L6 t107 x35_2).length:Int):=of_decide_eq_true zb
                  obtain ⟨ad113,e113,hx113_0⟩:=Kd.at_int zae 1 p113 q113
                  obtain rfl:ad111=ad113:=(by injection e113)
                  (try simp only [show (1:Int).toNat=1 from rfl,Nat.reduceMul,Nat.reduceEqDiff,Go.Addr.add,↓reduceIte] at hx113_0)
                  have qi113:(1<(rd_L6 t107 x35_2).length)=True:=eq_true zbt
                  (try rw [show ((1:Int)).toNat=1 from rfl] at hx113_0)
                  replace p113:=eq_true p113
                  replace q113:=eq_true q113
                  have p114:0≤((rd (rd_L6 t107 x35_2) 1):Int):=of_decide_eq_true zb
                  have q114:(rd (rd_L6 t107 x35_2) 1)<(l0.length:Int):=of_decide_eq_true zb
                  obtain ⟨ad114,e114,hx114_0,hx114_1,hx114_2⟩:=at_T127 HR0.out (rd (rd_L6 t107 x35_2) 1) p114 q114
                  have hw114_2:=hx114_2
                  have hw114_1:=hx114_1
                  have hw114_0:=hx114_0
                  cases e114
                  replace hx114_0:=(HB.out.cell (World.block_lt_of_cell? w _ hx114_0)).trans hx114_0
                  replace hx114_1:=(HB.out.cell (World.block_lt_of_cell? w _ hx114_1)).trans hx114_1
                  replace hx114_2:=(HB.out.cell (World.block_lt_of_cell? w _ hx114_2)).trans hx114_2
                  replace p114:=eq_true p114
                  replace q114:=eq_true q114
                  refine start_ (n:=16) (S:=fun w'=>w'.cell? ad111=some (.int .i64 (rd (rd_L6 t107 x35_2) 0))∧w'.cell? (ad112.add (((rd (rd_L6 t107 x35_2) 0)).toNat*3))=some (.string ((rd_T125 l1 (rd (rd_L6 t107 x35_2) 0)).f0))∧w'.cell? ⟨(ad112.add (((rd (rd_L6 t107 x35_2) 0)).toNat*3)).block,(ad112.add (((rd (rd_L6 t107 x35_2) 0)).toNat*3)).off+1,none⟩=some (.string ((rd_T125 l1 (rd (rd_L6 t107 x35_2) 0)).f1))∧w'.cell? ⟨(ad112.add (((rd (rd_L6 t107 x35_2) 0)).toNat*3)).block,(ad112.add (((rd (rd_L6 t107 x35_2) 0)).toNat*3)).off+2,none⟩=some (.int .i64 ((rd_T125 l1 (rd (rd_L6 t107 x35_2) 0)).f2))∧w'.cell? ⟨ad111.block,ad111.off+1,none⟩=some (.int .i64 (rd (rd_L6 t107 x35_2) 1))∧w'.cell? (ad114.add (((rd (rd_L6 t107 x35_2) 1)).toNat*3))=some (.string ((rd_T127 l0 (rd (rd_L6 t107 x35_2) 1)).f0))∧w'.cell? ⟨(ad114.add (((rd (rd_L6 t107 x35_2) 1)).toNat*3)).block,(ad114.add (((rd (rd_L6 t107 x35_2) 1)).toNat*3)).off+1,none⟩=some (.int .i64 ((rd_T127 l0 (rd (rd_L6 t107 x35_2) 1)).f1))∧w'.cell? ⟨(ad114.add (((rd (rd_L6 t107 x35_2) 1)).toNat*3)).block,(ad114.add (((rd (rd_L6 t107 x35_2) 1)).toNat*3)).off+2,none⟩=some (.int .i64 ((rd_T127 l0 (rd (rd_L6 t107 x35_2) 1)).f2))) (ds:=[]) #[false,false,false,false,false,false,false,false,false,false,false,false,false,false,false,false] zbk rfl rfl ⟨hx111_0,((HB.out.cell (World.block_lt_of_cell? w _ hw112_0)).trans hw112_0),((HB.out.cell (World.block_lt_of_cell? w _ hw112_1)).trans hw112_1),((HB.out.cell (World.block_lt_of_cell? w _ hw112_2)).trans hw112_2),hx113_0,((HB.out.cell (World.block_lt_of_cell? w _ hw114_0)).trans hw114_0),((HB.out.cell (World.block_lt_of_cell? w _ hw114_1)).trans hw114_1),((HB.out.cell (World.block_lt_of_cell? w _ hw114_2)).trans hw114_2)⟩ (fun hHeld=>?_);refine with_tabW impl_AddAnswers.tab9 impl_AddAnswers.bits9 (fun HT_ HW_=>?_)
                  generalize wr.drew=w58 at HO_8 HO_33 HL110_0 HR110_0 HB hx111_0 hx112_0 hx112_1 hx112_2 hx113_0 hx114_0 hx114_1 hx114_2 hHeld ⊢
                  refine pA 0 39 ?_
                  refine pA 1 40 ?_
                  refine pA 2 41 ?_
                  refine pA 6 45 ?_
                  refine pA 7 46 ?_
                  refine pA 8 47 ?_
                  refine pT 3 42 rfl zcv ?_
                  refine pA 4 43 ?_
                  refine pT 5 44 rfl zcv ?_
                  refine pT 9 48 rfl zcv ?_
                  refine pA 10 49 ?_
                  refine pT 11 50 rfl zcv ?_
                  refine join_ (σ:=Nat × Nat) 2 #[true,true,true,true,true,true,true,true,true,true,true,true,true,true,false,false] (fun s_=>[(11,.pointer (some ⟨s_.1,0,none⟩)),(12,.pointer (some ⟨s_.2,0,none⟩))]) (fun s_ w'=>(w'.cell? ad111=some (.int .i64 (rd (rd_L6 t107 x35_2) 0))∧w'.cell? (ad112.add (((rd (rd_L6 t107 x35_2) 0)).toNat*3))=some (.string ((rd_T125 l1 (rd (rd_L6 t107 x35_2) 0)).f0))∧w'.cell? ⟨(ad112.add (((rd (rd_L6 t107 x35_2) 0)).toNat*3)).block,(ad112.add (((rd (rd_L6 t107 x35_2) 0)).toNat*3)).off+1,none⟩=some (.string ((rd_T125 l1 (rd (rd_L6 t107 x35_2) 0)).f1))∧w'.cell? ⟨(ad112.add (((rd (rd_L6 t107 x35_2) 0)).toNat*3)).block,(ad112.add (((rd (rd_L6 t107 x35_2) 0)).toNat*3)).off+2,none⟩=some (.int .i64 ((rd_T125 l1 (rd (rd_L6 t107 x35_2) 0)).f2))∧w'.cell? ⟨ad111.block,ad111.off+1,none⟩=some (.int .i64 (rd (rd_L6 t107 x35_2) 1))∧w'.cell? (ad114.add (((rd (rd_L6 t107 x35_2) 1)).toNat*3))=some (.string ((rd_T127 l0 (rd (rd_L6 t107 x35_2) 1)).f0))∧w'.cell? ⟨(ad114.add (((rd (rd_L6 t107 x35_2) 1)).toNat*3)).block,(ad114.add (((rd (rd_L6 t107 x35_2) 1)).toNat*3)).off+1,none⟩=some (.int .i64 ((rd_T127 l0 (rd (rd_L6 t107 x35_2) 1)).f1))∧w'.cell? ⟨(ad114.add (((rd (rd_L6 t107 x35_2) 1)).toNat*3)).block,(ad114.add (((rd (rd_L6 t107 x35_2) 1)).toNat*3)).off+2,none⟩=some (.int .i64 ((rd_T127 l0 (rd (rd_L6 t107 x35_2) 1)).f2)))∧(Kd.R (Kd.int .i64) 2 w' w.heap.size (fun k_=>some k_≠(.slice (some ad110) t107.length co18:Value).ownBlock) (.slice (some ad111) (rd_L6 t107 x35_2).length c110_0) (rd_L6 t107 x35_2))∧(Kd.S (Kd.slice 2 (Kd.int .i64)) 126 w' w.heap.size (fun _=>True) (.slice (some ad110) t107.length co18) t107)∧(Kd.R k127 127 w' w.heap.size (fun k_=>k_≠s_.2) u8 x8_2)∧(w'.heap[s_.1]?=some (.cells #[.string (⟨#[]⟩:ByteArray),.string (⟨#[]⟩:ByteArray),.int .i64 0] 125 (0,0)))∧(w'.heap[s_.2]?=some (.cells #[.string (⟨#[]⟩:ByteArray),.int .i64 0,.int .i64 0] 127 (0,0)))∧(w.heap.size≤s_.1)∧(w.heap.size≤s_.1)∧(s_.2≠s_.1)∧(s_.1≠s_.2)∧(w.heap.size≤s_.2)∧(w.heap.size≤s_.2)∧(Below w.heap.size w w')) ?_ ?_
                  rotate_left
                  ·intro hCont
                   refine two_ (i:=12) (j:=13) (Ni:=some 11) (Nj:=some 12) #[true,true,true,true,true,true,true,true,true,true,true,true,true,false,false,false] #[true,true,true,true,true,true,true,true,true,true,true,true,false,true,false,false] rfl rfl rfl rfl (two_of HT_.out zbk) zbq zbq (fun K hK=>?_) (fun K hK=>?_)
                   ·skip
                    refine box_step ?hg (N:=11) ?hd (cs:=#[.string (⟨#[]⟩:ByteArray),.string (⟨#[]⟩:ByteArray),.int .i64 0]) (t:=125) ?hr ?_;(case hd=>rfl);(case hg=>rfl);(case hr=>exact zt)
                    intro gb115 hg w59 hbox hb
                    have HS0_:=(hb.cell (World.block_lt_of_cell? _ _ (hHeld.1))).trans (hHeld.1)
                    have HS4_:=(hb.cell (World.block_lt_of_cell? _ _ (hHeld.2.2.2.2.1))).trans (hHeld.2.2.2.2.1)
                    have n0_:=Aside0.mk (Kd.R_below zv hb)
                    have n1_:=Aside0.mk (Kd.S_below zu hb)
                    have n2_:=Aside0.mk (Kd.R_below zaa hb)
                    have n3_:=Aside0.mk (Kd.C_below zae hb)
                    have n4_:=Aside0.mk (below_step za hb)
                    have n5_:=Aside0.mk (hbox)
                    have n6_:=Aside0.mk ((by rw [hg];exact (below_size za):w.heap.size≤gb115))
                    have n7_:=Aside0.mk ((by rw [hg];exact (below_size za):w.heap.size≤gb115))
                    clear HO_8
                    clear HO_33
                    clear HL110_0
                    clear HR110_0
                    clear HB
                    have HO_8:=n0_
                    have HO_33:=n1_
                    have HL110_0:=n2_
                    have HR110_0:=n3_
                    have HB:=n4_
                    have BK115:=n5_
                    have GW115:=n6_
                    have GE115:=n7_
                    clear n0_ n1_ n2_ n3_ n4_ n5_ n6_ n7_
                    clear hb hbox hg
                    refine hK.out _ _ ⟨HS0_,((HB.out.cell (World.block_lt_of_cell? w _ hw112_0)).trans hw112_0),((HB.out.cell (World.block_lt_of_cell? w _ hw112_1)).trans hw112_1),((HB.out.cell (World.block_lt_of_cell? w _ hw112_2)).trans hw112_2),HS4_,((HB.out.cell (World.block_lt_of_cell? w _ hw114_0)).trans hw114_0),((HB.out.cell (World.block_lt_of_cell? w _ hw114_1)).trans hw114_1),((HB.out.cell (World.block_lt_of_cell? w _ hw114_2)).trans hw114_2)⟩ (fun hHeld=>?_)
                    clear hK K
                    refine pN 11 ?_
                    refine one_ (i:=13) (N:=some 12) #[true,true,true,true,true,true,true,true,true,true,true,true,true,true,false,false] rfl rfl (one_of HT_.out zbk) zbq (fun K hK=>?_)
                    refine box_step ?hg (N:=12) ?hd (cs:=#[.string (⟨#[]⟩:ByteArray),.int .i64 0,.int .i64 0]) (t:=127) ?hr ?_;(case hd=>rfl);(case hg=>rfl);(case hr=>exact zt)
                    intro gb116 hg w60 hbox hb
                    have HS0_:=(hb.cell (World.block_lt_of_cell? _ _ (hHeld.1))).trans (hHeld.1)
                    have HS4_:=(hb.cell (World.block_lt_of_cell? _ _ (hHeld.2.2.2.2.1))).trans (hHeld.2.2.2.2.1)
                    have n0_:=Aside0.mk (Kd.R_below (Kd.R_elderB zv gb116 (Nat.le_of_eq hg.symm)) hb)
                    have n1_:=Aside0.mk (Kd.S_below zu hb)
                    have n2_:=Aside0.mk (Kd.R_below zaa hb)
                    have n3_:=Aside0.mk (Kd.C_below zae hb)
                    have n4_:=Aside0.mk (blk_below (g:=gb115) (o:=.cells #[.string (⟨#[]⟩:ByteArray),.string (⟨#[]⟩:ByteArray),.int .i64 0] 125 (0,0)) zl hb)
                    have n5_:=Aside0.mk (below_step zch hb)
                    have n6_:=Aside0.mk (hbox)
                    have n7_:=Aside0.mk ((by rw [hg];exact (below_size zch):w.heap.size≤gb116))
                    have n8_:=Aside0.mk ((by rw [hg];exact (below_size zch):w.heap.size≤gb116))
                    have n9_:=Aside0.mk ((by rw [hg];exact Nat.ne_of_lt (blk_lt (g:=gb115) (o:=.cells #[.string (⟨#[]⟩:ByteArray),.string (⟨#[]⟩:ByteArray),.int .i64 0] 125 (0,0)) zl):gb115≠gb116))
                    have n10_:=Aside0.mk ((by rw [hg];exact Nat.ne_of_gt (blk_lt (g:=gb115) (o:=.cells #[.string (⟨#[]⟩:ByteArray),.string (⟨#[]⟩:ByteArray),.int .i64 0] 125 (0,0)) zl):gb116≠gb115))
                    clear HO_8
                    clear HO_33
                    clear HL110_0
                    clear HR110_0
                    clear BK115
                    clear HB
                    have HO_8:=n0_
                    have HO_33:=n1_
                    have HL110_0:=n2_
                    have HR110_0:=n3_
                    have BK115:=n4_
                    have HB:=n5_
                    have BK116:=n6_
                    have GW116:=n7_
                    have GE116:=n8_
                    have NB115_116:=n9_
                    have NB116_115:=n10_
                    clear n0_ n1_ n2_ n3_ n4_ n5_ n6_ n7_ n8_ n9_ n10_
                    clear hb hbox hg
                    refine hK.out _ _ ⟨HS0_,((HB.out.cell (World.block_lt_of_cell? w _ hw112_0)).trans hw112_0),((HB.out.cell (World.block_lt_of_cell? w _ hw112_1)).trans hw112_1),((HB.out.cell (World.block_lt_of_cell? w _ hw112_2)).trans hw112_2),HS4_,((HB.out.cell (World.block_lt_of_cell? w _ hw114_0)).trans hw114_0),((HB.out.cell (World.block_lt_of_cell? w _ hw114_1)).trans hw114_1),((HB.out.cell (World.block_lt_of_cell? w _ hw114_2)).trans hw114_2)⟩ (fun hHeld=>?_)
                    clear hK K
                    refine pN 12 ?_
                    exact norm_ zcq (hCont (gb115,gb116) _ ⟨hHeld,zcx,zu,zcy,zl,zg,GW115.out,GE115.out,NB116_115.out,NB115_116.out,GW116.out,GE116.out,zn⟩)
                   ·skip
                    refine box_step ?hg (N:=12) ?hd (cs:=#[.string (⟨#[]⟩:ByteArray),.int .i64 0,.int .i64 0]) (t:=127) ?hr ?_;(case hd=>rfl);(case hg=>rfl);(case hr=>exact zt)
                    intro gb116 hg w59 hbox hb
                    have HS0_:=(hb.cell (World.block_lt_of_cell? _ _ (hHeld.1))).trans (hHeld.1)
                    have HS4_:=(hb.cell (World.block_lt_of_cell? _ _ (hHeld.2.2.2.2.1))).trans (hHeld.2.2.2.2.1)
                    have n0_:=Aside0.mk (Kd.R_below (Kd.R_elderB zv gb116 (Nat.le_of_eq hg.symm)) hb)
                    have n1_:=Aside0.mk (Kd.S_below zu hb)
                    have n2_:=Aside0.mk (Kd.R_below zaa hb)
                    have n3_:=Aside0.mk (Kd.C_below zae hb)
                    have n4_:=Aside0.mk (below_step za hb)
                    have n5_:=Aside0.mk (hbox)
                    have n6_:=Aside0.mk ((by rw [hg];exact (below_size za):w.heap.size≤gb116))
                    have n7_:=Aside0.mk ((by rw [hg];exact (below_size za):w.heap.size≤gb116))
                    clear HO_8
                    clear HO_33
                    clear HL110_0
                    clear HR110_0
                    clear HB
                    have HO_8:=n0_
                    have HO_33:=n1_
                    have HL110_0:=n2_
                    have HR110_0:=n3_
                    have HB:=n4_
                    have BK116:=n5_
                    have GW116:=n6_
                    have GE116:=n7_
                    clear n0_ n1_ n2_ n3_ n4_ n5_ n6_ n7_
                    clear hb hbox hg
                    refine hK.out _ _ ⟨HS0_,((HB.out.cell (World.block_lt_of_cell? w _ hw112_0)).trans hw112_0),((HB.out.cell (World.block_lt_of_cell? w _ hw112_1)).trans hw112_1),((HB.out.cell (World.block_lt_of_cell? w _ hw112_2)).trans hw112_2),HS4_,((HB.out.cell (World.block_lt_of_cell? w _ hw114_0)).trans hw114_0),((HB.out.cell (World.block_lt_of_cell? w _ hw114_1)).trans hw114_1),((HB.out.cell (World.block_lt_of_cell? w _ hw114_2)).trans hw114_2)⟩ (fun hHeld=>?_)
                    clear hK K
                    refine pN 12 ?_
                    refine one_ (i:=12) (N:=some 11) #[true,true,true,true,true,true,true,true,true,true,true,true,true,true,false,false] rfl rfl (one_of HT_.out zbk) zbq (fun K hK=>?_)
                    refine box_step ?hg (N:=11) ?hd (cs:=#[.string (⟨#[]⟩:ByteArray),.string (⟨#[]⟩:ByteArray),.int .i64 0]) (t:=125) ?hr ?_;(case hd=>rfl);(case hg=>rfl);(case hr=>exact zt)
                    intro gb115 hg w60 hbox hb
                    have HS0_:=(hb.cell (World.block_lt_of_cell? _ _ (hHeld.1))).trans (hHeld.1)
                    have HS4_:=(hb.cell (World.block_lt_of_cell? _ _ (hHeld.2.2.2.2.1))).trans (hHeld.2.2.2.2.1)
                    have n0_:=Aside0.mk (Kd.R_below zv hb)
                    have n1_:=Aside0.mk (Kd.S_below zu hb)
                    have n2_:=Aside0.mk (Kd.R_below zaa hb)
                    have n3_:=Aside0.mk (Kd.C_below zae hb)
                    have n4_:=Aside0.mk (blk_below (g:=gb116) (o:=.cells #[.string (⟨#[]⟩:ByteArray),.int .i64 0,.int .i64 0] 127 (0,0)) zg hb)
                    have n5_:=Aside0.mk (below_step zag hb)
                    have n6_:=Aside0.mk (hbox)
                    have n7_:=Aside0.mk ((by rw [hg];exact (below_size zag):w.heap.size≤gb115))
                    have n8_:=Aside0.mk ((by rw [hg];exact (below_size zag):w.heap.size≤gb115))
                    have n9_:=Aside0.mk ((by rw [hg];exact Nat.ne_of_lt (blk_lt (g:=gb116) (o:=.cells #[.string (⟨#[]⟩:ByteArray),.int .i64 0,.int .i64 0] 127 (0,0)) zg):gb116≠gb115))
                    have n10_:=Aside0.mk ((by rw [hg];exact Nat.ne_of_gt (blk_lt (g:=gb116) (o:=.cells #[.string (⟨#[]⟩:ByteArray),.int .i64 0,.int .i64 0] 127 (0,0)) zg):gb115≠gb116))
                    clear HO_8
                    clear HO_33
                    clear HL110_0
                    clear HR110_0
                    clear BK116
                    clear HB
                    have HO_8:=n0_
                    have HO_33:=n1_
                    have HL110_0:=n2_
                    have HR110_0:=n3_
                    have BK116:=n4_
                    have HB:=n5_
                    have BK115:=n6_
                    have GW115:=n7_
                    have GE115:=n8_
                    have NB116_115:=n9_
                    have NB115_116:=n10_
                    clear n0_ n1_ n2_ n3_ n4_ n5_ n6_ n7_ n8_ n9_ n10_
                    clear hb hbox hg
                    refine hK.out _ _ ⟨HS0_,((HB.out.cell (World.block_lt_of_cell? w _ hw112_0)).trans hw112_0),((HB.out.cell (World.block_lt_of_cell? w _ hw112_1)).trans hw112_1),((HB.out.cell (World.block_lt_of_cell? w _ hw112_2)).trans hw112_2),HS4_,((HB.out.cell (World.block_lt_of_cell? w _ hw114_0)).trans hw114_0),((HB.out.cell (World.block_lt_of_cell? w _ hw114_1)).trans hw114_1),((HB.out.cell (World.block_lt_of_cell? w _ hw114_2)).trans hw114_2)⟩ (fun hHeld=>?_)
                    clear hK K
                    refine pN 11 ?_
                    exact norm_ zcq (hCont (gb115,gb116) _ ⟨hHeld,zcx,zu,zcy,zl,zg,GW115.out,GE115.out,NB116_115.out,NB115_116.out,GW116.out,GE116.out,zdg⟩)
                  rintro ⟨gb115,gb116⟩ w61 ⟨hS_,h0_,h1_,h2_,h3_,h4_,h5_,h6_,h7_,h8_,h9_,h10_,h11_⟩
                  have n0_:Aside0 (Kd.R (Kd.int .i64) 2 w61 w.heap.size (fun k_=>some k_≠(.slice (some ad110) t107.length co18:Value).ownBlock) (.slice (some ad111) (rd_L6 t107 x35_2).length c110_0) (rd_L6 t107 x35_2)):=⟨h0_⟩
                  have n1_:Aside0 (Kd.S (Kd.slice 2 (Kd.int .i64)) 126 w61 w.heap.size (fun _=>True) (.slice (some ad110) t107.length co18) t107):=⟨h1_⟩
                  have n2_:Aside0 (Kd.R k127 127 w61 w.heap.size (fun k_=>k_≠gb116) u8 x8_2):=⟨h2_⟩
                  have n3_:Aside0 (w61.heap[gb115]?=some (.cells #[.string (⟨#[]⟩:ByteArray),.string (⟨#[]⟩:ByteArray),.int .i64 0] 125 (0,0))):=⟨h3_⟩
                  have n4_:Aside0 (w61.heap[gb116]?=some (.cells #[.string (⟨#[]⟩:ByteArray),.int .i64 0,.int .i64 0] 127 (0,0))):=⟨h4_⟩
                  have n5_:Aside0 (w.heap.size≤gb115):=⟨h5_⟩
                  have n6_:Aside0 (w.heap.size≤gb115):=⟨h6_⟩
                  have n7_:Aside0 (gb116≠gb115):=⟨h7_⟩
                  have n8_:Aside0 (gb115≠gb116):=⟨h8_⟩
                  have n9_:Aside0 (w.heap.size≤gb116):=⟨h9_⟩
                  have n10_:Aside0 (w.heap.size≤gb116):=⟨h10_⟩
                  have n11_:Aside0 (Below w.heap.size w w61):=⟨h11_⟩
                  clear HO_8
                  clear HO_33
                  clear HL110_0
                  clear HR110_0
                  clear HB
                  clear h0_ h1_ h2_ h3_ h4_ h5_ h6_ h7_ h8_ h9_ h10_ h11_
                  have HL110_0:=n0_
                  have HO_33:=n1_
                  have HO_8:=n2_
                  have BK115:=n3_
                  have BK116:=n4_
                  have GW115:=n5_
                  have GE115:=n6_
                  have NB116_115:=n7_
                  have NB115_116:=n8_
                  have GW116:=n9_
                  have GE116:=n10_
                  have HB:=n11_
                  clear n0_ n1_ n2_ n3_ n4_ n5_ n6_ n7_ n8_ n9_ n10_ n11_
                  have hHeld:w61.cell? ad111=some (.int .i64 (rd (rd_L6 t107 x35_2) 0))∧w61.cell? (ad112.add (((rd (rd_L6 t107 x35_2) 0)).toNat*3))=some (.string ((rd_T125 l1 (rd (rd_L6 t107 x35_2) 0)).f0))∧w61.cell? ⟨(ad112.add (((rd (rd_L6 t107 x35_2) 0)).toNat*3)).block,(ad112.add (((rd (rd_L6 t107 x35_2) 0)).toNat*3)).off+1,none⟩=some (.string ((rd_T125 l1 (rd (rd_L6 t107 x35_2) 0)).f1))∧w61.cell? ⟨(ad112.add (((rd (rd_L6 t107 x35_2) 0)).toNat*3)).block,(ad112.add (((rd (rd_L6 t107 x35_2) 0)).toNat*3)).off+2,none⟩=some (.int .i64 ((rd_T125 l1 (rd (rd_L6 t107 x35_2) 0)).f2))∧w61.cell? ⟨ad111.block,ad111.off+1,none⟩=some (.int .i64 (rd (rd_L6 t107 x35_2) 1))∧w61.cell? (ad114.add (((rd (rd_L6 t107 x35_2) 1)).toNat*3))=some (.string ((rd_T127 l0 (rd (rd_L6 t107 x35_2) 1)).f0))∧w61.cell? ⟨(ad114.add (((rd (rd_L6 t107 x35_2) 1)).toNat*3)).block,(ad114.add (((rd (rd_L6 t107 x35_2) 1)).toNat*3)).off+1,none⟩=some (.int .i64 ((rd_T127 l0 (rd (rd_L6 t107 x35_2) 1)).f1))∧w61.cell? ⟨(ad114.add (((rd (rd_L6 t107 x35_2) 1)).toNat*3)).block,(ad114.add (((rd (rd_L6 t107 x35_2) 1)).toNat*3)).off+2,none⟩=some (.int .i64 ((rd_T127 l0 (rd (rd_L6 t107 x35_2) 1)).f2)):=hS_
                  refine norm_ (a':=?_) ?_ ?_
                  rotate_left
                  ·simp only [putAll,Act.put,List.setIfInBounds_toArray,List.set_cons_zero,List.set_cons_succ]
                   rfl
                  refine one_ (i:=14) (N:=none) #[true,true,true,true,true,true,true,true,true,true,true,true,true,true,true,false] rfl rfl (one_of HT_.out zbk) zbq (fun K hK=>?_)
                  have hs62:w61.cell? ⟨gb115,0,none⟩=some (.string (⟨#[]⟩:ByteArray)):=(blk_cell BK115.out 0).trans rfl
                  have hfs62:=blk_frozen BK115.out 0
                  have hns62_1:=NB116_115.out
                  have hms62_1:=NB115_116.out
                  have hs63:w61.cell? ⟨gb115,1,none⟩=some (.string (⟨#[]⟩:ByteArray)):=(blk_cell BK115.out 1).trans rfl
                  have hfs63:=blk_frozen BK115.out 1
                  have hns63_1:=NB116_115.out
                  have hms63_1:=NB115_116.out
                  have hs64:w61.cell? ⟨gb115,2,none⟩=some (.int .i64 0):=(blk_cell BK115.out 2).trans rfl
                  have hfs64:=blk_frozen BK115.out 2
                  have hns64_1:=NB116_115.out
                  have hms64_1:=NB115_116.out
                  refine skip_ (w1:=?_) (by rfl) rfl ?_ ?_
                  rotate_left
                  ·go_simp
                   rfl
                  refine hK.out _ _ ⟨((cell_far (p:=⟨gb115,_,none⟩) zi _).trans (((cell_far (p:=⟨gb115,_,none⟩) zi _).trans (((cell_far (p:=⟨gb115,_,none⟩) zi _).trans (hHeld.1)))))),((cell_far (p:=⟨gb115,_,none⟩) (by first|exact Nat.ne_of_lt (Nat.lt_of_lt_of_le (by have:=World.block_lt_of_cell? _ _ hw112_0;first|rwa [add_block] at this|exact this) GW115.out)|(rw [add_block];exact Nat.ne_of_lt (Nat.lt_of_lt_of_le (by have:=World.block_lt_of_cell? _ _ hw112_0;first|rwa [add_block] at this|exact this) GW115.out))|(show (Addr.add _ _).block≠_;rw [add_block];exact Nat.ne_of_lt (Nat.lt_of_lt_of_le (by have:=World.block_lt_of_cell? _ _ hw112_0;first|rwa [add_block] at this|exact this) GW115.out))|(dsimp only;exact Nat.ne_of_lt (Nat.lt_of_lt_of_le (by have:=World.block_lt_of_cell? _ _ hw112_0;first|rwa [add_block] at this|exact this) GW115.out))) _).trans (((cell_far (p:=⟨gb115,_,none⟩) (by first|exact Nat.ne_of_lt (Nat.lt_of_lt_of_le (by have:=World.block_lt_of_cell? _ _ hw112_0;first|rwa [add_block] at this|exact this) GW115.out)|(rw [add_block];exact Nat.ne_of_lt (Nat.lt_of_lt_of_le (by have:=World.block_lt_of_cell? _ _ hw112_0;first|rwa [add_block] at this|exact this) GW115.out))|(show (Addr.add _ _).block≠_;rw [add_block];exact Nat.ne_of_lt (Nat.lt_of_lt_of_le (by have:=World.block_lt_of_cell? _ _ hw112_0;first|rwa [add_block] at this|exact this) GW115.out))|(dsimp only;exact Nat.ne_of_lt (Nat.lt_of_lt_of_le (by have:=World.block_lt_of_cell? _ _ hw112_0;first|rwa [add_block] at this|exact this) GW115.out))) _).trans (((cell_far (p:=⟨gb115,_,none⟩) (by first|exact Nat.ne_of_lt (Nat.lt_of_lt_of_le (by have:=World.block_lt_of_cell? _ _ hw112_0;first|rwa [add_block] at this|exact this) GW115.out)|(rw [add_block];exact Nat.ne_of_lt (Nat.lt_of_lt_of_le (by have:=World.block_lt_of_cell? _ _ hw112_0;first|rwa [add_block] at this|exact this) GW115.out))|(show (Addr.add _ _).block≠_;rw [add_block];exact Nat.ne_of_lt (Nat.lt_of_lt_of_le (by have:=World.block_lt_of_cell? _ _ hw112_0;first|rwa [add_block] at this|exact this) GW115.out))|(dsimp only;exact Nat.ne_of_lt (Nat.lt_of_lt_of_le (by have:=World.block_lt_of_cell? _ _ hw112_0;first|rwa [add_block] at this|exact this) GW115.out))) _).trans (hHeld.2.1)))))),((cell_far (p:=⟨gb115,_,none⟩) (by first|exact Nat.ne_of_lt (Nat.lt_of_lt_of_le (by have:=World.block_lt_of_cell? _ _ hw112_1;first|rwa [add_block] at this|exact this) GW115.out)|(rw [add_block];exact Nat.ne_of_lt (Nat.lt_of_lt_of_le (by have:=World.block_lt_of_cell? _ _ hw112_1;first|rwa [add_block] at this|exact this) GW115.out))|(show (Addr.add _ _).block≠_;rw [add_block];exact Nat.ne_of_lt (Nat.lt_of_lt_of_le (by have:=World.block_lt_of_cell? _ _ hw112_1;first|rwa [add_block] at this|exact this) GW115.out))|(dsimp only;exact Nat.ne_of_lt (Nat.lt_of_lt_of_le (by have:=World.block_lt_of_cell? _ _ hw112_1;first|rwa [add_block] at this|exact this) GW115.out))) _).trans (((cell_far (p:=⟨gb115,_,none⟩) (by first|exact Nat.ne_of_lt (Nat.lt_of_lt_of_le (by have:=World.block_lt_of_cell? _ _ hw112_1;first|rwa [add_block] at this|exact this) GW115.out)|(rw [add_block];exact Nat.ne_of_lt (Nat.lt_of_lt_of_le (by have:=World.block_lt_of_cell? _ _ hw112_1;first|rwa [add_block] at this|exact this) GW115.out))|(show (Addr.add _ _).block≠_;rw [add_block];exact Nat.ne_of_lt (Nat.lt_of_lt_of_le (by have:=World.block_lt_of_cell? _ _ hw112_1;first|rwa [add_block] at this|exact this) GW115.out))|(dsimp only;exact Nat.ne_of_lt (Nat.lt_of_lt_of_le (by have:=World.block_lt_of_cell? _ _ hw112_1;first|rwa [add_block] at this|exact this) GW115.out))) _).trans (((cell_far (p:=⟨gb115,_,none⟩) (by first|exact Nat.ne_of_lt (Nat.lt_of_lt_of_le (by have:=World.block_lt_of_cell? _ _ hw112_1;first|rwa [add_block] at this|exact this) GW115.out)|(rw [add_block];exact Nat.ne_of_lt (Nat.lt_of_lt_of_le (by have:=World.block_lt_of_cell? _ _ hw112_1;first|rwa [add_block] at this|exact this) GW115.out))|(show (Addr.add _ _).block≠_;rw [add_block];exact Nat.ne_of_lt (Nat.lt_of_lt_of_le (by have:=World.block_lt_of_cell? _ _ hw112_1;first|rwa [add_block] at this|exact this) GW115.out))|(dsimp only;exact Nat.ne_of_lt (Nat.lt_of_lt_of_le (by have:=World.block_lt_of_cell? _ _ hw112_1;first|rwa [add_block] at this|exact this) GW115.out))) _).trans (hHeld.2.2.1)))))),((cell_far (p:=⟨gb115,_,none⟩) (by first|exact Nat.ne_of_lt (Nat.lt_of_lt_of_le (by have:=World.block_lt_of_cell? _ _ hw112_2;first|rwa [add_block] at this|exact this) GW115.out)|(rw [add_block];exact Nat.ne_of_lt (Nat.lt_of_lt_of_le (by have:=World.block_lt_of_cell? _ _ hw112_2;first|rwa [add_block] at this|exact this) GW115.out))|(show (Addr.add _ _).block≠_;rw [add_block];exact Nat.ne_of_lt (Nat.lt_of_lt_of_le (by have:=World.block_lt_of_cell? _ _ hw112_2;first|rwa [add_block] at this|exact this) GW115.out))|(dsimp only;exact Nat.ne_of_lt (Nat.lt_of_lt_of_le (by have:=World.block_lt_of_cell? _ _ hw112_2;first|rwa [add_block] at this|exact this) GW115.out))) _).trans (((cell_far (p:=⟨gb115,_,none⟩) (by first|exact Nat.ne_of_lt (Nat.lt_of_lt_of_le (by have:=World.block_lt_of_cell? _ _ hw112_2;first|rwa [add_block] at this|exact this) GW115.out)|(rw [add_block];exact Nat.ne_of_lt (Nat.lt_of_lt_of_le (by have:=World.block_lt_of_cell? _ _ hw112_2;first|rwa [add_block] at this|exact this) GW115.out))|(show (Addr.add _ _).block≠_;rw [add_block];exact Nat.ne_of_lt (Nat.lt_of_lt_of_le (by have:=World.block_lt_of_cell? _ _ hw112_2;first|rwa [add_block] at this|exact this) GW115.out))|(dsimp only;exact Nat.ne_of_lt (Nat.lt_of_lt_of_le (by have:=World.block_lt_of_cell? _ _ hw112_2;first|rwa [add_block] at this|exact this) GW115.out))) _).trans (((cell_far (p:=⟨gb115,_,none⟩) (by first|exact Nat.ne_of_lt (Nat.lt_of_lt_of_le (by have:=World.block_lt_of_cell? _ _ hw112_2;first|rwa [add_block] at this|exact this) GW115.out)|(rw [add_block];exact Nat.ne_of_lt (Nat.lt_of_lt_of_le (by have:=World.block_lt_of_cell? _ _ hw112_2;first|rwa [add_block] at this|exact this) GW115.out))|(show (Addr.add _ _).block≠_;rw [add_block];exact Nat.ne_of_lt (Nat.lt_of_lt_of_le (by have:=World.block_lt_of_cell? _ _ hw112_2;first|rwa [add_block] at this|exact this) GW115.out))|(dsimp only;exact Nat.ne_of_lt (Nat.lt_of_lt_of_le (by have:=World.block_lt_of_cell? _ _ hw112_2;first|rwa [add_block] at this|exact this) GW115.out))) _).trans (hHeld.2.2.2.1)))))),((cell_far (p:=⟨gb115,_,none⟩) zi _).trans (((cell_far (p:=⟨gb115,_,none⟩) zi _).trans (((cell_far (p:=⟨gb115,_,none⟩) zi _).trans (hHeld.2.2.2.2.1)))))),((cell_far (p:=⟨gb115,_,none⟩) (by first|exact Nat.ne_of_lt (Nat.lt_of_lt_of_le (by have:=World.block_lt_of_cell? _ _ hw114_0;first|rwa [add_block] at this|exact this) GW115.out)|(rw [add_block];exact Nat.ne_of_lt (Nat.lt_of_lt_of_le (by have:=World.block_lt_of_cell? _ _ hw114_0;first|rwa [add_block] at this|exact this) GW115.out))|(show (Addr.add _ _).block≠_;rw [add_block];exact Nat.ne_of_lt (Nat.lt_of_lt_of_le (by have:=World.block_lt_of_cell? _ _ hw114_0;first|rwa [add_block] at this|exact this) GW115.out))|(dsimp only;exact Nat.ne_of_lt (Nat.lt_of_lt_of_le (by have:=World.block_lt_of_cell? _ _ hw114_0;first|rwa [add_block] at this|exact this) GW115.out))) _).trans (((cell_far (p:=⟨gb115,_,none⟩) (by first|exact Nat.ne_of_lt (Nat.lt_of_lt_of_le (by have:=World.block_lt_of_cell? _ _ hw114_0;first|rwa [add_block] at this|exact this) GW115.out)|(rw [add_block];exact Nat.ne_of_lt (Nat.lt_of_lt_of_le (by have:=World.block_lt_of_cell? _ _ hw114_0;first|rwa [add_block] at this|exact this) GW115.out))|(show (Addr.add _ _).block≠_;rw [add_block];exact Nat.ne_of_lt (Nat.lt_of_lt_of_le (by have:=World.block_lt_of_cell? _ _ hw114_0;first|rwa [add_block] at this|exact this) GW115.out))|(dsimp only;exact Nat.ne_of_lt (Nat.lt_of_lt_of_le (by have:=World.block_lt_of_cell? _ _ hw114_0;first|rwa [add_block] at this|exact this) GW115.out))) _).trans (((cell_far (p:=⟨gb115,_,none⟩) (by first|exact Nat.ne_of_lt (Nat.lt_of_lt_of_le (by have:=World.block_lt_of_cell? _ _ hw114_0;first|rwa [add_block] at this|exact this) GW115.out)|(rw [add_block];exact Nat.ne_of_lt (Nat.lt_of_lt_of_le (by have:=World.block_lt_of_cell? _ _ hw114_0;first|rwa [add_block] at this|exact this) GW115.out))|(show (Addr.add _ _).block≠_;rw [add_block];exact Nat.ne_of_lt (Nat.lt_of_lt_of_le (by have:=World.block_lt_of_cell? _ _ hw114_0;first|rwa [add_block] at this|exact this) GW115.out))|(dsimp only;exact Nat.ne_of_lt (Nat.lt_of_lt_of_le (by have:=World.block_lt_of_cell? _ _ hw114_0;first|rwa [add_block] at this|exact this) GW115.out))) _).trans (hHeld.2.2.2.2.2.1)))))),((cell_far (p:=⟨gb115,_,none⟩) (by first|exact Nat.ne_of_lt (Nat.lt_of_lt_of_le (by have:=World.block_lt_of_cell? _ _ hw114_1;first|rwa [add_block] at this|exact this) GW115.out)|(rw [add_block];exact Nat.ne_of_lt (Nat.lt_of_lt_of_le (by have:=World.block_lt_of_cell? _ _ hw114_1;first|rwa [add_block] at this|exact this) GW115.out))|(show (Addr.add _ _).block≠_;rw [add_block];exact Nat.ne_of_lt (Nat.lt_of_lt_of_le (by have:=World.block_lt_of_cell? _ _ hw114_1;first|rwa [add_block] at this|exact this) GW115.out))|(dsimp only;exact Nat.ne_of_lt (Nat.lt_of_lt_of_le (by have:=World.block_lt_of_cell? _ _ hw114_1;first|rwa [add_block] at this|exact this) GW115.out))) _).trans (((cell_far (p:=⟨gb115,_,none⟩) (by first|exact Nat.ne_of_lt (Nat.lt_of_lt_of_le (by have:=World.block_lt_of_cell? _ _ hw114_1;first|rwa [add_block] at this|exact this) GW115.out)|(rw [add_block];exact Nat.ne_of_lt (Nat.lt_of_lt_of_le (by have:=World.block_lt_of_cell? _ _ hw114_1;first|rwa [add_block] at this|exact this) GW115.out))|(show (Addr.add _ _).block≠_;rw [add_block];exact Nat.ne_of_lt (Nat.lt_of_lt_of_le (by have:=World.block_lt_of_cell? _ _ hw114_1;first|rwa [add_block] at this|exact this) GW115.out))|(dsimp only;exact Nat.ne_of_lt (Nat.lt_of_lt_of_le (by have:=World.block_lt_of_cell? _ _ hw114_1;first|rwa [add_block] at this|exact this) GW115.out))) _).trans (((cell_far (p:=⟨gb115,_,none⟩) (by first|exact Nat.ne_of_lt (Nat.lt_of_lt_of_le (by have:=World.block_lt_of_cell? _ _ hw114_1;first|rwa [add_block] at this|exact this) GW115.out)|(rw [add_block];exact Nat.ne_of_lt (Nat.lt_of_lt_of_le (by have:=World.block_lt_of_cell? _ _ hw114_1;first|rwa [add_block] at this|exact this) GW115.out))|(show (Addr.add _ _).block≠_;rw [add_block];exact Nat.ne_of_lt (Nat.lt_of_lt_of_le (by have:=World.block_lt_of_cell? _ _ hw114_1;first|rwa [add_block] at this|exact this) GW115.out))|(dsimp only;exact Nat.ne_of_lt (Nat.lt_of_lt_of_le (by have:=World.block_lt_of_cell? _ _ hw114_1;first|rwa [add_block] at this|exact this) GW115.out))) _).trans (hHeld.2.2.2.2.2.2.1)))))),((cell_far (p:=⟨gb115,_,none⟩) (by first|exact Nat.ne_of_lt (Nat.lt_of_lt_of_le (by have:=World.block_lt_of_cell? _ _ hw114_2;first|rwa [add_block] at this|exact this) GW115.out)|(rw [add_block];exact Nat.ne_of_lt (Nat.lt_of_lt_of_le (by have:=World.block_lt_of_cell? _ _ hw114_2;first|rwa [add_block] at this|exact this) GW115.out))|(show (Addr.add _ _).block≠_;rw [add_block];exact Nat.ne_of_lt (Nat.lt_of_lt_of_le (by have:=World.block_lt_of_cell? _ _ hw114_2;first|rwa [add_block] at this|exact this) GW115.out))|(dsimp only;exact Nat.ne_of_lt (Nat.lt_of_lt_of_le (by have:=World.block_lt_of_cell? _ _ hw114_2;first|rwa [add_block] at this|exact this) GW115.out))) _).trans (((cell_far (p:=⟨gb115,_,none⟩) (by first|exact Nat.ne_of_lt (Nat.lt_of_lt_of_le (by have:=World.block_lt_of_cell? _ _ hw114_2;first|rwa [add_block] at this|exact this) GW115.out)|(rw [add_block];exact Nat.ne_of_lt (Nat.lt_of_lt_of_le (by have:=World.block_lt_of_cell? _ _ hw114_2;first|rwa [add_block] at this|exact this) GW115.out))|(show (Addr.add _ _).block≠_;rw [add_block];exact Nat.ne_of_lt (Nat.lt_of_lt_of_le (by have:=World.block_lt_of_cell? _ _ hw114_2;first|rwa [add_block] at this|exact this) GW115.out))|(dsimp only;exact Nat.ne_of_lt (Nat.lt_of_lt_of_le (by have:=World.block_lt_of_cell? _ _ hw114_2;first|rwa [add_block] at this|exact this) GW115.out))) _).trans (((cell_far (p:=⟨gb115,_,none⟩) (by first|exact Nat.ne_of_lt (Nat.lt_of_lt_of_le (by have:=World.block_lt_of_cell? _ _ hw114_2;first|rwa [add_block] at this|exact this) GW115.out)|(rw [add_block];exact Nat.ne_of_lt (Nat.lt_of_lt_of_le (by have:=World.block_lt_of_cell? _ _ hw114_2;first|rwa [add_block] at this|exact this) GW115.out))|(show (Addr.add _ _).block≠_;rw [add_block];exact Nat.ne_of_lt (Nat.lt_of_lt_of_le (by have:=World.block_lt_of_cell? _ _ hw114_2;first|rwa [add_block] at this|exact this) GW115.out))|(dsimp only;exact Nat.ne_of_lt (Nat.lt_of_lt_of_le (by have:=World.block_lt_of_cell? _ _ hw114_2;first|rwa [add_block] at this|exact this) GW115.out))) _).trans (hHeld.2.2.2.2.2.2.2))))))⟩ (fun hHeld=>?_)
                  clear hK K
                  refine one_ (i:=15) (N:=none) #[true,true,true,true,true,true,true,true,true,true,true,true,true,true,true,true] rfl rfl (one_of HT_.out zbk) zbq (fun K hK=>?_)
                  have hs65:w61.cell? ⟨gb116,0,none⟩=some (.string (⟨#[]⟩:ByteArray)):=(blk_cell BK116.out 0).trans rfl
                  have hfs65:=blk_frozen BK116.out 0
                  have hns65_0:=NB115_116.out
                  have hms65_0:=NB116_115.out
                  have hs66:w61.cell? ⟨gb116,1,none⟩=some (.int .i64 0):=(blk_cell BK116.out 1).trans rfl
                  have hfs66:=blk_frozen BK116.out 1
                  have hns66_0:=NB115_116.out
                  have hms66_0:=NB116_115.out
                  have hs67:w61.cell? ⟨gb116,2,none⟩=some (.int .i64 0):=(blk_cell BK116.out 2).trans rfl
                  have hfs67:=blk_frozen BK116.out 2
                  have hns67_0:=NB115_116.out
                  have hms67_0:=NB116_115.out
                  refine skip_ (w1:=?_) (by rfl) rfl ?_ ?_
                  rotate_left
                  ·go_simp
                   rfl
                  refine hK.out _ _ ⟨((cell_far (p:=⟨gb116,_,none⟩) zj _).trans (((cell_far (p:=⟨gb116,_,none⟩) zj _).trans (((cell_far (p:=⟨gb116,_,none⟩) zj _).trans (hHeld.1)))))),((cell_far (p:=⟨gb116,_,none⟩) (by first|exact Nat.ne_of_lt (Nat.lt_of_lt_of_le (by have:=World.block_lt_of_cell? _ _ hw112_0;first|rwa [add_block] at this|exact this) GW116.out)|(rw [add_block];exact Nat.ne_of_lt (Nat.lt_of_lt_of_le (by have:=World.block_lt_of_cell? _ _ hw112_0;first|rwa [add_block] at this|exact this) GW116.out))|(show (Addr.add _ _).block≠_;rw [add_block];exact Nat.ne_of_lt (Nat.lt_of_lt_of_le (by have:=World.block_lt_of_cell? _ _ hw112_0;first|rwa [add_block] at this|exact this) GW116.out))|(dsimp only;exact Nat.ne_of_lt (Nat.lt_of_lt_of_le (by have:=World.block_lt_of_cell? _ _ hw112_0;first|rwa [add_block] at this|exact this) GW116.out))) _).trans (((cell_far (p:=⟨gb116,_,none⟩) (by first|exact Nat.ne_of_lt (Nat.lt_of_lt_of_le (by have:=World.block_lt_of_cell? _ _ hw112_0;first|rwa [add_block] at this|exact this) GW116.out)|(rw [add_block];exact Nat.ne_of_lt (Nat.lt_of_lt_of_le (by have:=World.block_lt_of_cell? _ _ hw112_0;first|rwa [add_block] at this|exact this) GW116.out))|(show (Addr.add _ _).block≠_;rw [add_block];exact Nat.ne_of_lt (Nat.lt_of_lt_of_le (by have:=World.block_lt_of_cell? _ _ hw112_0;first|rwa [add_block] at this|exact this) GW116.out))|(dsimp only;exact Nat.ne_of_lt (Nat.lt_of_lt_of_le (by have:=World.block_lt_of_cell? _ _ hw112_0;first|rwa [add_block] at this|exact this) GW116.out))) _).trans (((cell_far (p:=⟨gb116,_,none⟩) (by first|exact Nat.ne_of_lt (Nat.lt_of_lt_of_le (by have:=World.block_lt_of_cell? _ _ hw112_0;first|rwa [add_block] at this|exact this) GW116.out)|(rw [add_block];exact Nat.ne_of_lt (Nat.lt_of_lt_of_le (by have:=World.block_lt_of_cell? _ _ hw112_0;first|rwa [add_block] at this|exact this) GW116.out))|(show (Addr.add _ _).block≠_;rw [add_block];exact Nat.ne_of_lt (Nat.lt_of_lt_of_le (by have:=World.block_lt_of_cell? _ _ hw112_0;first|rwa [add_block] at this|exact this) GW116.out))|(dsimp only;exact Nat.ne_of_lt (Nat.lt_of_lt_of_le (by have:=World.block_lt_of_cell? _ _ hw112_0;first|rwa [add_block] at this|exact this) GW116.out))) _).trans (hHeld.2.1)))))),((cell_far (p:=⟨gb116,_,none⟩) (by first|exact Nat.ne_of_lt (Nat.lt_of_lt_of_le (by have:=World.block_lt_of_cell? _ _ hw112_1;first|rwa [add_block] at this|exact this) GW116.out)|(rw [add_block];exact Nat.ne_of_lt (Nat.lt_of_lt_of_le (by have:=World.block_lt_of_cell? _ _ hw112_1;first|rwa [add_block] at this|exact this) GW116.out))|(show (Addr.add _ _).block≠_;rw [add_block];exact Nat.ne_of_lt (Nat.lt_of_lt_of_le (by have:=World.block_lt_of_cell? _ _ hw112_1;first|rwa [add_block] at this|exact this) GW116.out))|(dsimp only;exact Nat.ne_of_lt (Nat.lt_of_lt_of_le (by have:=World.block_lt_of_cell? _ _ hw112_1;first|rwa [add_block] at this|exact this) GW116.out))) _).trans (((cell_far (p:=⟨gb116,_,none⟩) (by first|exact Nat.ne_of_lt (Nat.lt_of_lt_of_le (by have:=World.block_lt_of_cell? _ _ hw112_1;first|rwa [add_block] at this|exact this) GW116.out)|(rw [add_block];exact Nat.ne_of_lt (Nat.lt_of_lt_of_le (by have:=World.block_lt_of_cell? _ _ hw112_1;first|rwa [add_block] at this|exact this) GW116.out))|(show (Addr.add _ _).block≠_;rw [add_block];exact Nat.ne_of_lt (Nat.lt_of_lt_of_le (by have:=World.block_lt_of_cell? _ _ hw112_1;first|rwa [add_block] at this|exact this) GW116.out))|(dsimp only;exact Nat.ne_of_lt (Nat.lt_of_lt_of_le (by have:=World.block_lt_of_cell? _ _ hw112_1;first|rwa [add_block] at this|exact this) GW116.out))) _).trans (((cell_far (p:=⟨gb116,_,none⟩) (by first|exact Nat.ne_of_lt (Nat.lt_of_lt_of_le (by have:=World.block_lt_of_cell? _ _ hw112_1;first|rwa [add_block] at this|exact this) GW116.out)|(rw [add_block];exact Nat.ne_of_lt (Nat.lt_of_lt_of_le (by have:=World.block_lt_of_cell? _ _ hw112_1;first|rwa [add_block] at this|exact this) GW116.out))|(show (Addr.add _ _).block≠_;rw [add_block];exact Nat.ne_of_lt (Nat.lt_of_lt_of_le (by have:=World.block_lt_of_cell? _ _ hw112_1;first|rwa [add_block] at this|exact this) GW116.out))|(dsimp only;exact Nat.ne_of_lt (Nat.lt_of_lt_of_le (by have:=World.block_lt_of_cell? _ _ hw112_1;first|rwa [add_block] at this|exact this) GW116.out))) _).trans (hHeld.2.2.1)))))),((cell_far (p:=⟨gb116,_,none⟩) (by first|exact Nat.ne_of_lt (Nat.lt_of_lt_of_le (by have:=World.block_lt_of_cell? _ _ hw112_2;first|rwa [add_block] at this|exact this) GW116.out)|(rw [add_block];exact Nat.ne_of_lt (Nat.lt_of_lt_of_le (by have:=World.block_lt_of_cell? _ _ hw112_2;first|rwa [add_block] at this|exact this) GW116.out))|(show (Addr.add _ _).block≠_;rw [add_block];exact Nat.ne_of_lt (Nat.lt_of_lt_of_le (by have:=World.block_lt_of_cell? _ _ hw112_2;first|rwa [add_block] at this|exact this) GW116.out))|(dsimp only;exact Nat.ne_of_lt (Nat.lt_of_lt_of_le (by have:=World.block_lt_of_cell? _ _ hw112_2;first|rwa [add_block] at this|exact this) GW116.out))) _).trans (((cell_far (p:=⟨gb116,_,none⟩) (by first|exact Nat.ne_of_lt (Nat.lt_of_lt_of_le (by have:=World.block_lt_of_cell? _ _ hw112_2;first|rwa [add_block] at this|exact this) GW116.out)|(rw [add_block];exact Nat.ne_of_lt (Nat.lt_of_lt_of_le (by have:=World.block_lt_of_cell? _ _ hw112_2;first|rwa [add_block] at this|exact this) GW116.out))|(show (Addr.add _ _).block≠_;rw [add_block];exact Nat.ne_of_lt (Nat.lt_of_lt_of_le (by have:=World.block_lt_of_cell? _ _ hw112_2;first|rwa [add_block] at this|exact this) GW116.out))|(dsimp only;exact Nat.ne_of_lt (Nat.lt_of_lt_of_le (by have:=World.block_lt_of_cell? _ _ hw112_2;first|rwa [add_block] at this|exact this) GW116.out))) _).trans (((cell_far (p:=⟨gb116,_,none⟩) (by first|exact Nat.ne_of_lt (Nat.lt_of_lt_of_le (by have:=World.block_lt_of_cell? _ _ hw112_2;first|rwa [add_block] at this|exact this) GW116.out)|(rw [add_block];exact Nat.ne_of_lt (Nat.lt_of_lt_of_le (by have:=World.block_lt_of_cell? _ _ hw112_2;first|rwa [add_block] at this|exact this) GW116.out))|(show (Addr.add _ _).block≠_;rw [add_block];exact Nat.ne_of_lt (Nat.lt_of_lt_of_le (by have:=World.block_lt_of_cell? _ _ hw112_2;first|rwa [add_block] at this|exact this) GW116.out))|(dsimp only;exact Nat.ne_of_lt (Nat.lt_of_lt_of_le (by have:=World.block_lt_of_cell? _ _ hw112_2;first|rwa [add_block] at this|exact this) GW116.out))) _).trans (hHeld.2.2.2.1)))))),((cell_far (p:=⟨gb116,_,none⟩) zj _).trans (((cell_far (p:=⟨gb116,_,none⟩) zj _).trans (((cell_far (p:=⟨gb116,_,none⟩) zj _).trans (hHeld.2.2.2.2.1)))))),((cell_far (p:=⟨gb116,_,none⟩) (by first|exact Nat.ne_of_lt (Nat.lt_of_lt_of_le (by have:=World.block_lt_of_cell? _ _ hw114_0;first|rwa [add_block] at this|exact this) GW116.out)|(rw [add_block];exact Nat.ne_of_lt (Nat.lt_of_lt_of_le (by have:=World.block_lt_of_cell? _ _ hw114_0;first|rwa [add_block] at this|exact this) GW116.out))|(show (Addr.add _ _).block≠_;rw [add_block];exact Nat.ne_of_lt (Nat.lt_of_lt_of_le (by have:=World.block_lt_of_cell? _ _ hw114_0;first|rwa [add_block] at this|exact this) GW116.out))|(dsimp only;exact Nat.ne_of_lt (Nat.lt_of_lt_of_le (by have:=World.block_lt_of_cell? _ _ hw114_0;first|rwa [add_block] at this|exact this) GW116.out))) _).trans (((cell_far (p:=⟨gb116,_,none⟩) (by first|exact Nat.ne_of_lt (Nat.lt_of_lt_of_le (by have:=World.block_lt_of_cell? _ _ hw114_0;first|rwa [add_block] at this|exact this) GW116.out)|(rw [add_block];exact Nat.ne_of_lt (Nat.lt_of_lt_of_le (by have:=World.block_lt_of_cell? _ _ hw114_0;first|rwa [add_block] at this|exact this) GW116.out))|(show (Addr.add _ _).block≠_;rw [add_block];exact Nat.ne_of_lt (Nat.lt_of_lt_of_le (by have:=World.block_lt_of_cell? _ _ hw114_0;first|rwa [add_block] at this|exact this) GW116.out))|(dsimp only;exact Nat.ne_of_lt (Nat.lt_of_lt_of_le (by have:=World.block_lt_of_cell? _ _ hw114_0;first|rwa [add_block] at this|exact this) GW116.out))) _).trans (((cell_far (p:=⟨gb116,_,none⟩) (by first|exact Nat.ne_of_lt (Nat.lt_of_lt_of_le (by have:=World.block_lt_of_cell? _ _ hw114_0;first|rwa [add_block] at this|exact this) GW116.out)|(rw [add_block];exact Nat.ne_of_lt (Nat.lt_of_lt_of_le (by have:=World.block_lt_of_cell? _ _ hw114_0;first|rwa [add_block] at this|exact this) GW116.out))|(show (Addr.add _ _).block≠_;rw [add_block];exact Nat.ne_of_lt (Nat.lt_of_lt_of_le (by have:=World.block_lt_of_cell? _ _ hw114_0;first|rwa [add_block] at this|exact this) GW116.out))|(dsimp only;exact Nat.ne_of_lt (Nat.lt_of_lt_of_le (by have:=World.block_lt_of_cell? _ _ hw114_0;first|rwa [add_block] at this|exact this) GW116.out))) _).trans (hHeld.2.2.2.2.2.1)))))),((cell_far (p:=⟨gb116,_,none⟩) (by first|exact Nat.ne_of_lt (Nat.lt_of_lt_of_le (by have:=World.block_lt_of_cell? _ _ hw114_1;first|rwa [add_block] at this|exact this) GW116.out)|(rw [add_block];exact Nat.ne_of_lt (Nat.lt_of_lt_of_le (by have:=World.block_lt_of_cell? _ _ hw114_1;first|rwa [add_block] at this|exact this) GW116.out))|(show (Addr.add _ _).block≠_;rw [add_block];exact Nat.ne_of_lt (Nat.lt_of_lt_of_le (by have:=World.block_lt_of_cell? _ _ hw114_1;first|rwa [add_block] at this|exact this) GW116.out))|(dsimp only;exact Nat.ne_of_lt (Nat.lt_of_lt_of_le (by have:=World.block_lt_of_cell? _ _ hw114_1;first|rwa [add_block] at this|exact this) GW116.out))) _).trans (((cell_far (p:=⟨gb116,_,none⟩) (by first|exact Nat.ne_of_lt (Nat.lt_of_lt_of_le (by have:=World.block_lt_of_cell? _ _ hw114_1;first|rwa [add_block] at this|exact this) GW116.out)|(rw [add_block];exact Nat.ne_of_lt (Nat.lt_of_lt_of_le (by have:=World.block_lt_of_cell? _ _ hw114_1;first|rwa [add_block] at this|exact this) GW116.out))|(show (Addr.add _ _).block≠_;rw [add_block];exact Nat.ne_of_lt (Nat.lt_of_lt_of_le (by have:=World.block_lt_of_cell? _ _ hw114_1;first|rwa [add_block] at this|exact this) GW116.out))|(dsimp only;exact Nat.ne_of_lt (Nat.lt_of_lt_of_le (by have:=World.block_lt_of_cell? _ _ hw114_1;first|rwa [add_block] at this|exact this) GW116.out))) _).trans (((cell_far (p:=⟨gb116,_,none⟩) (by first|exact Nat.ne_of_lt (Nat.lt_of_lt_of_le (by have:=World.block_lt_of_cell? _ _ hw114_1;first|rwa [add_block] at this|exact this) GW116.out)|(rw [add_block];exact Nat.ne_of_lt (Nat.lt_of_lt_of_le (by have:=World.block_lt_of_cell? _ _ hw114_1;first|rwa [add_block] at this|exact this) GW116.out))|(show (Addr.add _ _).block≠_;rw [add_block];exact Nat.ne_of_lt (Nat.lt_of_lt_of_le (by have:=World.block_lt_of_cell? _ _ hw114_1;first|rwa [add_block] at this|exact this) GW116.out))|(dsimp only;exact Nat.ne_of_lt (Nat.lt_of_lt_of_le (by have:=World.block_lt_of_cell? _ _ hw114_1;first|rwa [add_block] at this|exact this) GW116.out))) _).trans (hHeld.2.2.2.2.2.2.1)))))),((cell_far (p:=⟨gb116,_,none⟩) (by first|exact Nat.ne_of_lt (Nat.lt_of_lt_of_le (by have:=World.block_lt_of_cell? _ _ hw114_2;first|rwa [add_block] at this|exact this) GW116.out)|(rw [add_block];exact Nat.ne_of_lt (Nat.lt_of_lt_of_le (by have:=World.block_lt_of_cell? _ _ hw114_2;first|rwa [add_block] at this|exact this) GW116.out))|(show (Addr.add _ _).block≠_;rw [add_block];exact Nat.ne_of_lt (Nat.lt_of_lt_of_le (by have:=World.block_lt_of_cell? _ _ hw114_2;first|rwa [add_block] at this|exact this) GW116.out))|(dsimp only;exact Nat.ne_of_lt (Nat.lt_of_lt_of_le (by have:=World.block_lt_of_cell? _ _ hw114_2;first|rwa [add_block] at this|exact this) GW116.out))) _).trans (((cell_far (p:=⟨gb116,_,none⟩) (by first|exact Nat.ne_of_lt (Nat.lt_of_lt_of_le (by have:=World.block_lt_of_cell? _ _ hw114_2;first|rwa [add_block] at this|exact this) GW116.out)|(rw [add_block];exact Nat.ne_of_lt (Nat.lt_of_lt_of_le (by have:=World.block_lt_of_cell? _ _ hw114_2;first|rwa [add_block] at this|exact this) GW116.out))|(show (Addr.add _ _).block≠_;rw [add_block];exact Nat.ne_of_lt (Nat.lt_of_lt_of_le (by have:=World.block_lt_of_cell? _ _ hw114_2;first|rwa [add_block] at this|exact this) GW116.out))|(dsimp only;exact Nat.ne_of_lt (Nat.lt_of_lt_of_le (by have:=World.block_lt_of_cell? _ _ hw114_2;first|rwa [add_block] at this|exact this) GW116.out))) _).trans (((cell_far (p:=⟨gb116,_,none⟩) (by first|exact Nat.ne_of_lt (Nat.lt_of_lt_of_le (by have:=World.block_lt_of_cell? _ _ hw114_2;first|rwa [add_block] at this|exact this) GW116.out)|(rw [add_block];exact Nat.ne_of_lt (Nat.lt_of_lt_of_le (by have:=World.block_lt_of_cell? _ _ hw114_2;first|rwa [add_block] at this|exact this) GW116.out))|(show (Addr.add _ _).block≠_;rw [add_block];exact Nat.ne_of_lt (Nat.lt_of_lt_of_le (by have:=World.block_lt_of_cell? _ _ hw114_2;first|rwa [add_block] at this|exact this) GW116.out))|(dsimp only;exact Nat.ne_of_lt (Nat.lt_of_lt_of_le (by have:=World.block_lt_of_cell? _ _ hw114_2;first|rwa [add_block] at this|exact this) GW116.out))) _).trans (hHeld.2.2.2.2.2.2.2))))))⟩ (fun hHeld=>?_)
                  clear hK K
                  refine done_ (done_of HT_.out zbk) ?_
                  try go_wp2
                  have n0_:Aside0 (Kd.R k127 127 ((((((w61.setCell ⟨gb115,0,none⟩ (.string ((rd_T125 l1 (rd (rd_L6 t107 x35_2) 0)).f0))).setCell ⟨gb115,1,none⟩ (.string ((rd_T125 l1 (rd (rd_L6 t107 x35_2) 0)).f1))).setCell ⟨gb115,2,none⟩ (.int .i64 ((rd_T125 l1 (rd (rd_L6 t107 x35_2) 0)).f2))).setCell ⟨gb116,0,none⟩ (.string ((rd_T127 l0 (rd (rd_L6 t107 x35_2) 1)).f0))).setCell ⟨gb116,1,none⟩ (.int .i64 ((rd_T127 l0 (rd (rd_L6 t107 x35_2) 1)).f1))).setCell ⟨gb116,2,none⟩ (.int .i64 ((rd_T127 l0 (rd (rd_L6 t107 x35_2) 1)).f2))) w.heap.size (fun k_=>k_≠gb116) u8 x8_2):=⟨zas⟩
                  have n1_:Aside0 (Kd.S (Kd.slice 2 (Kd.int .i64)) 126 ((((((w61.setCell ⟨gb115,0,none⟩ (.string ((rd_T125 l1 (rd (rd_L6 t107 x35_2) 0)).f0))).setCell ⟨gb115,1,none⟩ (.string ((rd_T125 l1 (rd (rd_L6 t107 x35_2) 0)).f1))).setCell ⟨gb115,2,none⟩ (.int .i64 ((rd_T125 l1 (rd (rd_L6 t107 x35_2) 0)).f2))).setCell ⟨gb116,0,none⟩ (.string ((rd_T127 l0 (rd (rd_L6 t107 x35_2) 1)).f0))).setCell ⟨gb116,1,none⟩ (.int .i64 ((rd_T127 l0 (rd (rd_L6 t107 x35_2) 1)).f1))).setCell ⟨gb116,2,none⟩ (.int .i64 ((rd_T127 l0 (rd (rd_L6 t107 x35_2) 1)).f2))) w.heap.size (fun _=>True) (.slice (some ad110) t107.length co18) t107):=⟨zau⟩
                  have n2_:Aside0 (Kd.R (Kd.int .i64) 2 ((((((w61.setCell ⟨gb115,0,none⟩ (.string ((rd_T125 l1 (rd (rd_L6 t107 x35_2) 0)).f0))).setCell ⟨gb115,1,none⟩ (.string ((rd_T125 l1 (rd (rd_L6 t107 x35_2) 0)).f1))).setCell ⟨gb115,2,none⟩ (.int .i64 ((rd_T125 l1 (rd (rd_L6 t107 x35_2) 0)).f2))).setCell ⟨gb116,0,none⟩ (.string ((rd_T127 l0 (rd (rd_L6 t107 x35_2) 1)).f0))).setCell ⟨gb116,1,none⟩ (.int .i64 ((rd_T127 l0 (rd (rd_L6 t107 x35_2) 1)).f1))).setCell ⟨gb116,2,none⟩ (.int .i64 ((rd_T127 l0 (rd (rd_L6 t107 x35_2) 1)).f2))) w.heap.size (fun k_=>some k_≠(.slice (some ad110) t107.length co18:Value).ownBlock) (.slice (some ad111) (rd_L6 t107 x35_2).length c110_0) (rd_L6 t107 x35_2)):=⟨zat⟩
                  have n3_:Aside0 (((((((w61.setCell ⟨gb115,0,none⟩ (.string ((rd_T125 l1 (rd (rd_L6 t107 x35_2) 0)).f0))).setCell ⟨gb115,1,none⟩ (.string ((rd_T125 l1 (rd (rd_L6 t107 x35_2) 0)).f1))).setCell ⟨gb115,2,none⟩ (.int .i64 ((rd_T125 l1 (rd (rd_L6 t107 x35_2) 0)).f2))).setCell ⟨gb116,0,none⟩ (.string ((rd_T127 l0 (rd (rd_L6 t107 x35_2) 1)).f0))).setCell ⟨gb116,1,none⟩ (.int .i64 ((rd_T127 l0 (rd (rd_L6 t107 x35_2) 1)).f1))).setCell ⟨gb116,2,none⟩ (.int .i64 ((rd_T127 l0 (rd (rd_L6 t107 x35_2) 1)).f2))).heap[gb115]?=some (.cells #[.string ((rd_T125 l1 (rd (rd_L6 t107 x35_2) 0)).f0),.string ((rd_T125 l1 (rd (rd_L6 t107 x35_2) 0)).f1),.int .i64 ((rd_T125 l1 (rd (rd_L6 t107 x35_2) 0)).f2)] 125 (0,0))):=⟨zx⟩
                  have n4_:Aside0 (((((((w61.setCell ⟨gb115,0,none⟩ (.string ((rd_T125 l1 (rd (rd_L6 t107 x35_2) 0)).f0))).setCell ⟨gb115,1,none⟩ (.string ((rd_T125 l1 (rd (rd_L6 t107 x35_2) 0)).f1))).setCell ⟨gb115,2,none⟩ (.int .i64 ((rd_T125 l1 (rd (rd_L6 t107 x35_2) 0)).f2))).setCell ⟨gb116,0,none⟩ (.string ((rd_T127 l0 (rd (rd_L6 t107 x35_2) 1)).f0))).setCell ⟨gb116,1,none⟩ (.int .i64 ((rd_T127 l0 (rd (rd_L6 t107 x35_2) 1)).f1))).setCell ⟨gb116,2,none⟩ (.int .i64 ((rd_T127 l0 (rd (rd_L6 t107 x35_2) 1)).f2))).heap[gb116]?=some (.cells #[.string ((rd_T127 l0 (rd (rd_L6 t107 x35_2) 1)).f0),.int .i64 ((rd_T127 l0 (rd (rd_L6 t107 x35_2) 1)).f1),.int .i64 ((rd_T127 l0 (rd (rd_L6 t107 x35_2) 1)).f2)] 127 (0,0))):=⟨zab⟩
                  have n5_:Aside0 (Below w.heap.size w ((((((w61.setCell ⟨gb115,0,none⟩ (.string ((rd_T125 l1 (rd (rd_L6 t107 x35_2) 0)).f0))).setCell ⟨gb115,1,none⟩ (.string ((rd_T125 l1 (rd (rd_L6 t107 x35_2) 0)).f1))).setCell ⟨gb115,2,none⟩ (.int .i64 ((rd_T125 l1 (rd (rd_L6 t107 x35_2) 0)).f2))).setCell ⟨gb116,0,none⟩ (.string ((rd_T127 l0 (rd (rd_L6 t107 x35_2) 1)).f0))).setCell ⟨gb116,1,none⟩ (.int .i64 ((rd_T127 l0 (rd (rd_L6 t107 x35_2) 1)).f1))).setCell ⟨gb116,2,none⟩ (.int .i64 ((rd_T127 l0 (rd (rd_L6 t107 x35_2) 1)).f2)))):=⟨zn⟩
                  (try clear HO_8)
                  (try clear HO_33)
                  (try clear HL110_0)
                  (try clear BK115)
                  (try clear BK116)
                  (try clear HB)
                  generalize ((((((w61.setCell ⟨gb115,0,none⟩ (.string ((rd_T125 l1 (rd (rd_L6 t107 x35_2) 0)).f0))).setCell ⟨gb115,1,none⟩ (.string ((rd_T125 l1 (rd (rd_L6 t107 x35_2) 0)).f1))).setCell ⟨gb115,2,none⟩ (.int .i64 ((rd_T125 l1 (rd (rd_L6 t107 x35_2) 0)).f2))).setCell ⟨gb116,0,none⟩ (.string ((rd_T127 l0 (rd (rd_L6 t107 x35_2) 1)).f0))).setCell ⟨gb116,1,none⟩ (.int .i64 ((rd_T127 l0 (rd (rd_L6 t107 x35_2) 1)).f1))).setCell ⟨gb116,2,none⟩ (.int .i64 ((rd_T127 l0 (rd (rd_L6 t107 x35_2) 1)).f2)))=w68 at n0_ n1_ n2_ n3_ n4_ n5_ ⊢
                  have HO_8:=n0_
                  have HO_33:=n1_
                  have HL110_0:=n2_
                  have BK115:=n3_
                  have BK116:=n4_
                  have HB:=n5_
                  clear n0_ n1_ n2_ n3_ n4_ n5_
                  replace HO_8:=Aside0.mk (Kd.R_drew HO_8.out)
                  replace HO_33:=Aside0.mk (Kd.S_drew HO_33.out)
                  replace HL110_0:=Aside0.mk (Kd.R_drew HL110_0.out)
                  replace BK115:=Aside0.mk (blk_drew BK115.out)
                  replace BK116:=Aside0.mk (blk_drew BK116.out)
                  replace HB:=Aside0.mk (below_drew1 HB.out)
                  refine start_ (n:=11) (S:=fun w'=>w'.cell? ⟨gb115,0,none⟩=some (.string ((rd_T125 l1 (rd (rd_L6 t107 x35_2) 0)).f0))∧w'.cell? ⟨gb115,1,none⟩=some (.string ((rd_T125 l1 (rd (rd_L6 t107 x35_2) 0)).f1))∧w'.cell? ⟨gb115,2,none⟩=some (.int .i64 ((rd_T125 l1 (rd (rd_L6 t107 x35_2) 0)).f2))∧w'.cell? ⟨gb116,0,none⟩=some (.string ((rd_T127 l0 (rd (rd_L6 t107 x35_2) 1)).f0))∧w'.cell? ⟨gb116,1,none⟩=some (.int .i64 ((rd_T127 l0 (rd (rd_L6 t107 x35_2) 1)).f1))∧w'.cell? ⟨gb116,2,none⟩=some (.int .i64 ((rd_T127 l0 (rd (rd_L6 t107 x35_2) 1)).f2))) (ds:=[]) #[false,false,false,false,false,false,false,false,false,false,false] zbk rfl rfl ⟨(blk_cell BK115.out 0).trans rfl,(blk_cell BK115.out 1).trans rfl,(blk_cell BK115.out 2).trans rfl,(blk_cell BK116.out 0).trans rfl,(blk_cell BK116.out 1).trans rfl,(blk_cell BK116.out 2).trans rfl⟩ (fun hHeld=>?_);refine with_tabW impl_AddAnswers.tab10 impl_AddAnswers.bits10 (fun HT_ HW_=>?_)
                  generalize w68.drew=w69 at HO_8 HO_33 HL110_0 BK115 BK116 HB hHeld ⊢
                  refine pA 0 51 ?_
                  refine pA 4 55 ?_
                  refine pA 7 58 ?_
                  refine pT 1 52 rfl zao ?_
                  refine pT 2 53 rfl zao ?_
                  refine pT 5 56 rfl zao ?_
                  refine join_ (σ:=Nat) 1 #[true,true,true,true,true,true,true,true,true,true,false] (fun s_=>[(54,.int .i64 t117),(13,.pointer (some ⟨s_,0,none⟩)),(57,.int .i64 (wrap64 (t117+((rd_T125 l1 (rd (rd_L6 t107 x35_2) 0)).f2)))),(59,.agg #[.string ((rd_T125 l1 (rd (rd_L6 t107 x35_2) 0)).f1),.int .i64 (wrap64 (t117+((rd_T125 l1 (rd (rd_L6 t107 x35_2) 0)).f2))),.int .i64 a2])]) (fun s_ w'=>(w'.cell? ⟨gb115,0,none⟩=some (.string ((rd_T125 l1 (rd (rd_L6 t107 x35_2) 0)).f0))∧w'.cell? ⟨gb115,1,none⟩=some (.string ((rd_T125 l1 (rd (rd_L6 t107 x35_2) 0)).f1))∧w'.cell? ⟨gb115,2,none⟩=some (.int .i64 ((rd_T125 l1 (rd (rd_L6 t107 x35_2) 0)).f2))∧w'.cell? ⟨gb116,0,none⟩=some (.string ((rd_T127 l0 (rd (rd_L6 t107 x35_2) 1)).f0))∧w'.cell? ⟨gb116,1,none⟩=some (.int .i64 ((rd_T127 l0 (rd (rd_L6 t107 x35_2) 1)).f1))∧w'.cell? ⟨gb116,2,none⟩=some (.int .i64 ((rd_T127 l0 (rd (rd_L6 t107 x35_2) 1)).f2)))∧(Kd.R (Kd.int .i64) 2 w' w.heap.size (fun k_=>some k_≠(.slice (some ad110) t107.length co18:Value).ownBlock) (.slice (some ad111) (rd_L6 t107 x35_2).length c110_0) (rd_L6 t107 x35_2))∧(Kd.S (Kd.slice 2 (Kd.int .i64)) 126 w' w.heap.size (fun _=>True) (.slice (some ad110) t107.length co18) t107)∧(Kd.R k127 127 w' w.heap.size (fun k_=>k_≠gb116∧k_≠s_) u8 x8_2)∧(w'.heap[gb115]?=some (.cells #[.string ((rd_T125 l1 (rd (rd_L6 t107 x35_2) 0)).f0),.string ((rd_T125 l1 (rd (rd_L6 t107 x35_2) 0)).f1),.int .i64 ((rd_T125 l1 (rd (rd_L6 t107 x35_2) 0)).f2)] 125 (0,0)))∧(w'.heap[gb116]?=some (.cells #[.string ((rd_T127 l0 (rd (rd_L6 t107 x35_2) 1)).f0),.int .i64 ((rd_T127 l0 (rd (rd_L6 t107 x35_2) 1)).f1),.int .i64 ((rd_T127 l0 (rd (rd_L6 t107 x35_2) 1)).f2)] 127 (0,0)))∧(w'.heap[s_]?=some (.cells #[.string (⟨#[]⟩:ByteArray),.int .i64 0,.int .i64 0] 127 (0,0)))∧(w.heap.size≤s_)∧(w.heap.size≤s_)∧(gb115≠s_)∧(s_≠gb115)∧(gb116≠s_)∧(s_≠gb116)∧(Below w.heap.size w w')) ?_ ?_
                  rotate_left
                  ·intro hCont
                   refine two_ (i:=3) (j:=9) (Ni:=some 54) (Nj:=some 13) #[true,true,true,true,true,true,false,true,false,false,false] #[true,true,true,false,true,true,false,true,false,true,false] rfl rfl rfl rfl (two_of HT_.out zbk) zbq zbq (fun K hK=>?_) (fun K hK=>?_)
                   ·skip
                    refine goes_ Try.func99 zbk rfl #[.agg #[.string ((rd_T127 l0 (rd (rd_L6 t107 x35_2) 1)).f0),.int .i64 ((rd_T127 l0 (rd (rd_L6 t107 x35_2) 1)).f1),.int .i64 ((rd_T127 l0 (rd (rd_L6 t107 x35_2) 1)).f2)]] (by rfl) rfl rfl zc ?_
                    with_reducible refine (impl_Turn_end.calls ((rd_T127 l0 (rd (rd_L6 t107 x35_2) 1)).f0) ((rd_T127 l0 (rd (rd_L6 t107 x35_2) 1)).f1) ((rd_T127 l0 (rd (rd_L6 t107 x35_2) 1)).f2) t117 _ A28.out).mono ?_
                    rintro e w70 ⟨rfl,hb⟩
                    refine ⟨_,rfl,?_⟩
                    replace HO_8:=Aside0.mk (Kd.R_below zv hb)
                    replace HO_33:=Aside0.mk (Kd.S_below zu hb)
                    replace HL110_0:=Aside0.mk (Kd.R_below zaa hb)
                    replace BK115:=Aside0.mk (blk_below (g:=gb115) (o:=.cells #[.string ((rd_T125 l1 (rd (rd_L6 t107 x35_2) 0)).f0),.string ((rd_T125 l1 (rd (rd_L6 t107 x35_2) 0)).f1),.int .i64 ((rd_T125 l1 (rd (rd_L6 t107 x35_2) 0)).f2)] 125 (0,0)) zl hb)
                    replace BK116:=Aside0.mk (blk_below (g:=gb116) (o:=.cells #[.string ((rd_T127 l0 (rd (rd_L6 t107 x35_2) 1)).f0),.int .i64 ((rd_T127 l0 (rd (rd_L6 t107 x35_2) 1)).f1),.int .i64 ((rd_T127 l0 (rd (rd_L6 t107 x35_2) 1)).f2)] 127 (0,0)) zg hb)
                    replace HB:=Aside0.mk (below_step zn hb)
                    (try clear hb)
                    (try clear hb2)
                    (try clear hk)
                    (try clear hi)
                    refine hK.out _ _ ⟨(blk_cell BK115.out 0).trans rfl,(blk_cell BK115.out 1).trans rfl,(blk_cell BK115.out 2).trans rfl,(blk_cell BK116.out 0).trans rfl,(blk_cell BK116.out 1).trans rfl,(blk_cell BK116.out 2).trans rfl⟩ (fun hHeld=>?_)
                    clear hK K
                    refine pN 54 ?_
                    refine pA 6 57 ?_
                    refine pA 8 59 ?_
                    refine one_ (i:=9) (N:=some 13) #[true,true,true,true,true,true,true,true,true,true,false] rfl rfl (one_of HT_.out zbk) zbq (fun K hK=>?_)
                    refine box_step ?hg (N:=13) ?hd (cs:=#[.string (⟨#[]⟩:ByteArray),.int .i64 0,.int .i64 0]) (t:=127) ?hr ?_;(case hd=>rfl);(case hg=>rfl);(case hr=>exact zt)
                    intro gb118 hg w71 hbox hb
                    have n0_:=Aside0.mk (Kd.R_below (Kd.R_elderB zv gb118 (Nat.le_of_eq hg.symm)) hb)
                    have n1_:=Aside0.mk (Kd.S_below zu hb)
                    have n2_:=Aside0.mk (Kd.R_below zaa hb)
                    have n3_:=Aside0.mk (blk_below (g:=gb115) (o:=.cells #[.string ((rd_T125 l1 (rd (rd_L6 t107 x35_2) 0)).f0),.string ((rd_T125 l1 (rd (rd_L6 t107 x35_2) 0)).f1),.int .i64 ((rd_T125 l1 (rd (rd_L6 t107 x35_2) 0)).f2)] 125 (0,0)) zl hb)
                    have n4_:=Aside0.mk (blk_below (g:=gb116) (o:=.cells #[.string ((rd_T127 l0 (rd (rd_L6 t107 x35_2) 1)).f0),.int .i64 ((rd_T127 l0 (rd (rd_L6 t107 x35_2) 1)).f1),.int .i64 ((rd_T127 l0 (rd (rd_L6 t107 x35_2) 1)).f2)] 127 (0,0)) zg hb)
                    have n5_:=Aside0.mk (below_step zn hb)
                    have n6_:=Aside0.mk (hbox)
                    have n7_:=Aside0.mk ((by rw [hg];exact (below_size zn):w.heap.size≤gb118))
                    have n8_:=Aside0.mk ((by rw [hg];exact (below_size zn):w.heap.size≤gb118))
                    have n9_:=Aside0.mk ((by rw [hg];exact Nat.ne_of_lt (blk_lt (g:=gb115) (o:=.cells #[.string ((rd_T125 l1 (rd (rd_L6 t107 x35_2) 0)).f0),.string ((rd_T125 l1 (rd (rd_L6 t107 x35_2) 0)).f1),.int .i64 ((rd_T125 l1 (rd (rd_L6 t107 x35_2) 0)).f2)] 125 (0,0)) zl):gb115≠gb118))
                    have n10_:=Aside0.mk ((by rw [hg];exact Nat.ne_of_gt (blk_lt (g:=gb115) (o:=.cells #[.string ((rd_T125 l1 (rd (rd_L6 t107 x35_2) 0)).f0),.string ((rd_T125 l1 (rd (rd_L6 t107 x35_2) 0)).f1),.int .i64 ((rd_T125 l1 (rd (rd_L6 t107 x35_2) 0)).f2)] 125 (0,0)) zl):gb118≠gb115))
                    have n11_:=Aside0.mk ((by rw [hg];exact Nat.ne_of_lt (blk_lt (g:=gb116) (o:=.cells #[.string ((rd_T127 l0 (rd (rd_L6 t107 x35_2) 1)).f0),.int .i64 ((rd_T127 l0 (rd (rd_L6 t107 x35_2) 1)).f1),.int .i64 ((rd_T127 l0 (rd (rd_L6 t107 x35_2) 1)).f2)] 127 (0,0)) zg):gb116≠gb118))
                    have n12_:=Aside0.mk ((by rw [hg];exact Nat.ne_of_gt (blk_lt (g:=gb116) (o:=.cells #[.string ((rd_T127 l0 (rd (rd_L6 t107 x35_2) 1)).f0),.int .i64 ((rd_T127 l0 (rd (rd_L6 t107 x35_2) 1)).f1),.int .i64 ((rd_T127 l0 (rd (rd_L6 t107 x35_2) 1)).f2)] 127 (0,0)) zg):gb118≠gb116))
                    clear HO_8
                    clear HO_33
                    clear HL110_0
                    clear BK115
                    clear BK116
                    clear HB
                    have HO_8:=n0_
                    have HO_33:=n1_
                    have HL110_0:=n2_
                    have BK115:=n3_
                    have BK116:=n4_
                    have HB:=n5_
                    have BK118:=n6_
                    have GW118:=n7_
                    have GE118:=n8_
                    have NB115_118:=n9_
                    have NB118_115:=n10_
                    have NB116_118:=n11_
                    have NB118_116:=n12_
                    clear n0_ n1_ n2_ n3_ n4_ n5_ n6_ n7_ n8_ n9_ n10_ n11_ n12_
                    clear hb hbox hg
                    refine hK.out _ _ ⟨(blk_cell BK115.out 0).trans rfl,(blk_cell BK115.out 1).trans rfl,(blk_cell BK115.out 2).trans rfl,(blk_cell BK116.out 0).trans rfl,(blk_cell BK116.out 1).trans rfl,(blk_cell BK116.out 2).trans rfl⟩ (fun hHeld=>?_)
                    clear hK K
                    refine pN 13 ?_
                    exact norm_ zcq (hCont (gb118) _ ⟨hHeld,zaa,zu,zv,zl,zg,zbp,GW118.out,GE118.out,NB115_118.out,NB118_115.out,NB116_118.out,NB118_116.out,zo⟩)
                   ·skip
                    refine box_step ?hg (N:=13) ?hd (cs:=#[.string (⟨#[]⟩:ByteArray),.int .i64 0,.int .i64 0]) (t:=127) ?hr ?_;(case hd=>rfl);(case hg=>rfl);(case hr=>exact zt)
                    intro gb118 hg w70 hbox hb
                    have n0_:=Aside0.mk (Kd.R_below (Kd.R_elderB zv gb118 (Nat.le_of_eq hg.symm)) hb)
                    have n1_:=Aside0.mk (Kd.S_below zu hb)
                    have n2_:=Aside0.mk (Kd.R_below zaa hb)
                    have n3_:=Aside0.mk (blk_below (g:=gb115) (o:=.cells #[.string ((rd_T125 l1 (rd (rd_L6 t107 x35_2) 0)).f0),.string ((rd_T125 l1 (rd (rd_L6 t107 x35_2) 0)).f1),.int .i64 ((rd_T125 l1 (rd (rd_L6 t107 x35_2) 0)).f2)] 125 (0,0)) zl hb)
                    have n4_:=Aside0.mk (blk_below (g:=gb116) (o:=.cells #[.string ((rd_T127 l0 (rd (rd_L6 t107 x35_2) 1)).f0),.int .i64 ((rd_T127 l0 (rd (rd_L6 t107 x35_2) 1)).f1),.int .i64 ((rd_T127 l0 (rd (rd_L6 t107 x35_2) 1)).f2)] 127 (0,0)) zg hb)
                    have n5_:=Aside0.mk (below_step zn hb)
                    have n6_:=Aside0.mk (hbox)
                    have n7_:=Aside0.mk ((by rw [hg];exact (below_size zn):w.heap.size≤gb118))
                    have n8_:=Aside0.mk ((by rw [hg];exact (below_size zn):w.heap.size≤gb118))
                    have n9_:=Aside0.mk ((by rw [hg];exact Nat.ne_of_lt (blk_lt (g:=gb115) (o:=.cells #[.string ((rd_T125 l1 (rd (rd_L6 t107 x35_2) 0)).f0),.string ((rd_T125 l1 (rd (rd_L6 t107 x35_2) 0)).f1),.int .i64 ((rd_T125 l1 (rd (rd_L6 t107 x35_2) 0)).f2)] 125 (0,0)) zl):gb115≠gb118))
                    have n10_:=Aside0.mk ((by rw [hg];exact Nat.ne_of_gt (blk_lt (g:=gb115) (o:=.cells #[.string ((rd_T125 l1 (rd (rd_L6 t107 x35_2) 0)).f0),.string ((rd_T125 l1 (rd (rd_L6 t107 x35_2) 0)).f1),.int .i64 ((rd_T125 l1 (rd (rd_L6 t107 x35_2) 0)).f2)] 125 (0,0)) zl):gb118≠gb115))
                    have n11_:=Aside0.mk ((by rw [hg];exact Nat.ne_of_lt (blk_lt (g:=gb116) (o:=.cells #[.string ((rd_T127 l0 (rd (rd_L6 t107 x35_2) 1)).f0),.int .i64 ((rd_T127 l0 (rd (rd_L6 t107 x35_2) 1)).f1),.int .i64 ((rd_T127 l0 (rd (rd_L6 t107 x35_2) 1)).f2)] 127 (0,0)) zg):gb116≠gb118))
                    have n12_:=Aside0.mk ((by rw [hg];exact Nat.ne_of_gt (blk_lt (g:=gb116) (o:=.cells #[.string ((rd_T127 l0 (rd (rd_L6 t107 x35_2) 1)).f0),.int .i64 ((rd_T127 l0 (rd (rd_L6 t107 x35_2) 1)).f1),.int .i64 ((rd_T127 l0 (rd (rd_L6 t107 x35_2) 1)).f2)] 127 (0,0)) zg):gb118≠gb116))
                    clear HO_8
                    clear HO_33
                    clear HL110_0
                    clear BK115
                    clear BK116
                    clear HB
                    have HO_8:=n0_
                    have HO_33:=n1_
                    have HL110_0:=n2_
                    have BK115:=n3_
                    have BK116:=n4_
                    have HB:=n5_
                    have BK118:=n6_
                    have GW118:=n7_
                    have GE118:=n8_
                    have NB115_118:=n9_
                    have NB118_115:=n10_
                    have NB116_118:=n11_
                    have NB118_116:=n12_
                    clear n0_ n1_ n2_ n3_ n4_ n5_ n6_ n7_ n8_ n9_ n10_ n11_ n12_
                    clear hb hbox hg
                    refine hK.out _ _ ⟨(blk_cell BK115.out 0).trans rfl,(blk_cell BK115.out 1).trans rfl,(blk_cell BK115.out 2).trans rfl,(blk_cell BK116.out 0).trans rfl,(blk_cell BK116.out 1).trans rfl,(blk_cell BK116.out 2).trans rfl⟩ (fun hHeld=>?_)
                    clear hK K
                    refine pN 13 ?_
                    refine one_ (i:=3) (N:=some 54) #[true,true,true,true,true,true,false,true,false,true,false] rfl rfl (one_of HT_.out zbk) zbq (fun K hK=>?_)
                    refine goes_ Try.func99 zbk rfl #[.agg #[.string ((rd_T127 l0 (rd (rd_L6 t107 x35_2) 1)).f0),.int .i64 ((rd_T127 l0 (rd (rd_L6 t107 x35_2) 1)).f1),.int .i64 ((rd_T127 l0 (rd (rd_L6 t107 x35_2) 1)).f2)]] (by rfl) rfl rfl zc ?_
                    with_reducible refine (impl_Turn_end.calls ((rd_T127 l0 (rd (rd_L6 t107 x35_2) 1)).f0) ((rd_T127 l0 (rd (rd_L6 t107 x35_2) 1)).f1) ((rd_T127 l0 (rd (rd_L6 t107 x35_2) 1)).f2) t117 _ A28.out).mono ?_
                    rintro e w71 ⟨rfl,hb⟩
                    refine ⟨_,rfl,?_⟩
                    replace HO_8:=Aside0.mk (Kd.R_below zv hb)
                    replace HO_33:=Aside0.mk (Kd.S_below zu hb)
                    replace HL110_0:=Aside0.mk (Kd.R_below zaa hb)
                    replace BK115:=Aside0.mk (blk_below (g:=gb115) (o:=.cells #[.string ((rd_T125 l1 (rd (rd_L6 t107 x35_2) 0)).f0),.string ((rd_T125 l1 (rd (rd_L6 t107 x35_2) 0)).f1),.int .i64 ((rd_T125 l1 (rd (rd_L6 t107 x35_2) 0)).f2)] 125 (0,0)) zl hb)
                    replace BK116:=Aside0.mk (blk_below (g:=gb116) (o:=.cells #[.string ((rd_T127 l0 (rd (rd_L6 t107 x35_2) 1)).f0),.int .i64 ((rd_T127 l0 (rd (rd_L6 t107 x35_2) 1)).f1),.int .i64 ((rd_T127 l0 (rd (rd_L6 t107 x35_2) 1)).f2)] 127 (0,0)) zg hb)
                    replace BK118:=Aside0.mk (blk_below (g:=gb118) (o:=.cells #[.string (⟨#[]⟩:ByteArray),.int .i64 0,.int .i64 0] 127 (0,0)) zbp hb)
                    replace HB:=Aside0.mk (below_step zo hb)
                    (try clear hb)
                    (try clear hb2)
                    (try clear hk)
                    (try clear hi)
                    refine hK.out _ _ ⟨(blk_cell BK115.out 0).trans rfl,(blk_cell BK115.out 1).trans rfl,(blk_cell BK115.out 2).trans rfl,(blk_cell BK116.out 0).trans rfl,(blk_cell BK116.out 1).trans rfl,(blk_cell BK116.out 2).trans rfl⟩ (fun hHeld=>?_)
                    clear hK K
                    refine pN 54 ?_
                    refine pA 6 57 ?_
                    refine pA 8 59 ?_
                    exact norm_ zcq (hCont (gb118) _ ⟨hHeld,zaa,zu,zv,zl,zg,zbp,GW118.out,GE118.out,NB115_118.out,NB118_115.out,NB116_118.out,NB118_116.out,zo⟩)
                  rintro gb118 w72 ⟨hS_,h0_,h1_,h2_,h3_,h4_,h5_,h6_,h7_,h8_,h9_,h10_,h11_,h12_⟩
                  have n0_:Aside0 (Kd.R (Kd.int .i64) 2 w72 w.heap.size (fun k_=>some k_≠(.slice (some ad110) t107.length co18:Value).ownBlock) (.slice (some ad111) (rd_L6 t107 x35_2).length c110_0) (rd_L6 t107 x35_2)):=⟨h0_⟩
                  have n1_:Aside0 (Kd.S (Kd.slice 2 (Kd.int .i64)) 126 w72 w.heap.size (fun _=>True) (.slice (some ad110) t107.length co18) t107):=⟨h1_⟩
                  have n2_:Aside0 (Kd.R k127 127 w72 w.heap.size (fun k_=>k_≠gb116∧k_≠gb118) u8 x8_2):=⟨h2_⟩
                  have n3_:Aside0 (w72.heap[gb115]?=some (.cells #[.string ((rd_T125 l1 (rd (rd_L6 t107 x35_2) 0)).f0),.string ((rd_T125 l1 (rd (rd_L6 t107 x35_2) 0)).f1),.int .i64 ((rd_T125 l1 (rd (rd_L6 t107 x35_2) 0)).f2)] 125 (0,0))):=⟨h3_⟩
                  have n4_:Aside0 (w72.heap[gb116]?=some (.cells #[.string ((rd_T127 l0 (rd (rd_L6 t107 x35_2) 1)).f0),.int .i64 ((rd_T127 l0 (rd (rd_L6 t107 x35_2) 1)).f1),.int .i64 ((rd_T127 l0 (rd (rd_L6 t107 x35_2) 1)).f2)] 127 (0,0))):=⟨h4_⟩
                  have n5_:Aside0 (w72.heap[gb118]?=some (.cells #[.string (⟨#[]⟩:ByteArray),.int .i64 0,.int .i64 0] 127 (0,0))):=⟨h5_⟩
                  have n6_:Aside0 (w.heap.size≤gb118):=⟨h6_⟩
                  have n7_:Aside0 (w.heap.size≤gb118):=⟨h7_⟩
                  have n8_:Aside0 (gb115≠gb118):=⟨h8_⟩
                  have n9_:Aside0 (gb118≠gb115):=⟨h9_⟩
                  have n10_:Aside0 (gb116≠gb118):=⟨h10_⟩
                  have n11_:Aside0 (gb118≠gb116):=⟨h11_⟩
                  have n12_:Aside0 (Below w.heap.size w w72):=⟨h12_⟩
                  clear HO_8
                  clear HO_33
                  clear HL110_0
                  clear BK115
                  clear BK116
                  clear HB
                  clear h0_ h1_ h2_ h3_ h4_ h5_ h6_ h7_ h8_ h9_ h10_ h11_ h12_
                  have HL110_0:=n0_
                  have HO_33:=n1_
                  have HO_8:=n2_
                  have BK115:=n3_
                  have BK116:=n4_
                  have BK118:=n5_
                  have GW118:=n6_
                  have GE118:=n7_
                  have NB115_118:=n8_
                  have NB118_115:=n9_
                  have NB116_118:=n10_
                  have NB118_116:=n11_
                  have HB:=n12_
                  clear n0_ n1_ n2_ n3_ n4_ n5_ n6_ n7_ n8_ n9_ n10_ n11_ n12_
                  have hHeld:w72.cell? ⟨gb115,0,none⟩=some (.string ((rd_T125 l1 (rd (rd_L6 t107 x35_2) 0)).f0))∧w72.cell? ⟨gb115,1,none⟩=some (.string ((rd_T125 l1 (rd (rd_L6 t107 x35_2) 0)).f1))∧w72.cell? ⟨gb115,2,none⟩=some (.int .i64 ((rd_T125 l1 (rd (rd_L6 t107 x35_2) 0)).f2))∧w72.cell? ⟨gb116,0,none⟩=some (.string ((rd_T127 l0 (rd (rd_L6 t107 x35_2) 1)).f0))∧w72.cell? ⟨gb116,1,none⟩=some (.int .i64 ((rd_T127 l0 (rd (rd_L6 t107 x35_2) 1)).f1))∧w72.cell? ⟨gb116,2,none⟩=some (.int .i64 ((rd_T127 l0 (rd (rd_L6 t107 x35_2) 1)).f2)):=hS_
                  refine norm_ (a':=?_) ?_ ?_
                  rotate_left
                  ·simp only [putAll,Act.put,List.setIfInBounds_toArray,List.set_cons_zero,List.set_cons_succ]
                   rfl
                  refine one_ (i:=10) (N:=none) #[true,true,true,true,true,true,true,true,true,true,true] rfl rfl (one_of HT_.out zbk) zbq (fun K hK=>?_)
                  have hs73:w72.cell? ⟨gb118,0,none⟩=some (.string (⟨#[]⟩:ByteArray)):=(blk_cell BK118.out 0).trans rfl
                  have hfs73:=blk_frozen BK118.out 0
                  have hns73_0:=NB115_118.out
                  have hns73_1:=NB116_118.out
                  have hms73_0:=NB118_115.out
                  have hms73_1:=NB118_116.out
                  have hs74:w72.cell? ⟨gb118,1,none⟩=some (.int .i64 0):=(blk_cell BK118.out 1).trans rfl
                  have hfs74:=blk_frozen BK118.out 1
                  have hns74_0:=NB115_118.out
                  have hns74_1:=NB116_118.out
                  have hms74_0:=NB118_115.out
                  have hms74_1:=NB118_116.out
                  have hs75:w72.cell? ⟨gb118,2,none⟩=some (.int .i64 0):=(blk_cell BK118.out 2).trans rfl
                  have hfs75:=blk_frozen BK118.out 2
                  have hns75_0:=NB115_118.out
                  have hns75_1:=NB116_118.out
                  have hms75_0:=NB118_115.out
                  have hms75_1:=NB118_116.out
                  refine skip_ (w1:=?_) (by rfl) rfl ?_ ?_
                  rotate_left
                  ·go_simp
                   rfl
                  refine hK.out _ _ ⟨((cell_far (p:=⟨gb118,_,none⟩) NB115_118.out _).trans (((cell_far (p:=⟨gb118,_,none⟩) NB115_118.out _).trans (((cell_far (p:=⟨gb118,_,none⟩) NB115_118.out _).trans (hHeld.1)))))),((cell_far (p:=⟨gb118,_,none⟩) NB115_118.out _).trans (((cell_far (p:=⟨gb118,_,none⟩) NB115_118.out _).trans (((cell_far (p:=⟨gb118,_,none⟩) NB115_118.out _).trans (hHeld.2.1)))))),((cell_far (p:=⟨gb118,_,none⟩) NB115_118.out _).trans (((cell_far (p:=⟨gb118,_,none⟩) NB115_118.out _).trans (((cell_far (p:=⟨gb118,_,none⟩) NB115_118.out _).trans (hHeld.2.2.1)))))),((cell_far (p:=⟨gb118,_,none⟩) NB116_118.out _).trans (((cell_far (p:=⟨gb118,_,none⟩) NB116_118.out _).trans (((cell_far (p:=⟨gb118,_,none⟩) NB116_118.out _).trans (hHeld.2.2.2.1)))))),((cell_far (p:=⟨gb118,_,none⟩) NB116_118.out _).trans (((cell_far (p:=⟨gb118,_,none⟩) NB116_118.out _).trans (((cell_far (p:=⟨gb118,_,none⟩) NB116_118.out _).trans (hHeld.2.2.2.2.1)))))),((cell_far (p:=⟨gb118,_,none⟩) NB116_118.out _).trans (((cell_far (p:=⟨gb118,_,none⟩) NB116_118.out _).trans (((cell_far (p:=⟨gb118,_,none⟩) NB116_118.out _).trans (hHeld.2.2.2.2.2))))))⟩ (fun hHeld=>?_)
                  clear hK K
                  refine done_ (done_of HT_.out zbk) ?_
                  have hnb76:=NB118_115.out
                  have hnc76:=NB115_118.out
                  have hnb77:=NB118_116.out
                  have hnc77:=NB116_118.out
                  have hcz78_0:w72.cell? ⟨gb118,0,none⟩=some (.string (⟨#[]⟩:ByteArray)):=(blk_cell BK118.out 0).trans rfl
                  have hcz78_1:w72.cell? ⟨gb118,1,none⟩=some (.int .i64 0):=(blk_cell BK118.out 1).trans rfl
                  have hcz78_2:w72.cell? ⟨gb118,2,none⟩=some (.int .i64 0):=(blk_cell BK118.out 2).trans rfl
                  have hfz78_0:=blk_frozen BK118.out 0
                  have hfz78_1:=blk_frozen BK118.out 1
                  have hfz78_2:=blk_frozen BK118.out 2
                  obtain ⟨Ao79,co79,eo79⟩:=Kd.R_slice HO_8.out
                  subst eo79
                  try go_wp2_with (first|((with_reducible refine gate_callee (f:=100) rfl ?_);refine goesL_ (some 65) rfl rfl Try.func100 zbk rfl #[.slice Ao79 x8_2.length co79,.string ((rd_T125 l1 (rd (rd_L6 t107 x35_2) 0)).f1),.int .i64 (wrap64 (t117+((rd_T125 l1 (rd (rd_L6 t107 x35_2) 0)).f2)))] rfl zc ?_;(with_reducible refine (impl_begins.calls _ _ x8_2 ((rd_T125 l1 (rd (rd_L6 t107 x35_2) 0)).f1) (wrap64 (t117+((rd_T125 l1 (rd (rd_L6 t107 x35_2) 0)).f2))) false _ ?side1 ?side2 A29.out).mono ?_);(case side1=>refine (Kd.R_reads' (e:=127) (base:=w.heap.size) (ok:=fun k_=>(k_≠gb116∧k_≠gb118)) (n:=x8_2.length) (c:=co79) ?_).2.2;exact zan);(case side2=>exact (Kd.R_reads' HO_8.out).2.1);rintro e w80 ⟨rfl,hb⟩;refine ⟨_,rfl,?_⟩;replace HO_8:=Aside0.mk (Kd.R_below zan hb);replace HO_33:=Aside0.mk (Kd.S_below zcj hb);replace HL110_0:=Aside0.mk (Kd.R_below zci hb);replace BK115:=Aside0.mk (blk_below (g:=gb115) (o:=.cells #[.string ((rd_T125 l1 (rd (rd_L6 t107 x35_2) 0)).f0),.string ((rd_T125 l1 (rd (rd_L6 t107 x35_2) 0)).f1),.int .i64 ((rd_T125 l1 (rd (rd_L6 t107 x35_2) 0)).f2)] 125 (0,0)) zbv hb);replace BK116:=Aside0.mk (blk_below (g:=gb116) (o:=.cells #[.string ((rd_T127 l0 (rd (rd_L6 t107 x35_2) 1)).f0),.int .i64 ((rd_T127 l0 (rd (rd_L6 t107 x35_2) 1)).f1),.int .i64 ((rd_T127 l0 (rd (rd_L6 t107 x35_2) 1)).f2)] 127 (0,0)) zbw hb);replace BK118:=Aside0.mk (blk_below (g:=gb118) (o:=.cells #[.string ((rd_T125 l1 (rd (rd_L6 t107 x35_2) 0)).f1),.int .i64 (wrap64 (t117+((rd_T125 l1 (rd (rd_L6 t107 x35_2) 0)).f2))),.int .i64 a2] 127 (0,0)) zay hb);replace HB:=Aside0.mk (below_step zo hb);(try clear hb);(try clear hb2);(try clear hk);(try clear hi);have hcz81_0:w80.cell? ⟨gb118,0,none⟩=some (.string ((rd_T125 l1 (rd (rd_L6 t107 x35_2) 0)).f1)):=(blk_cell BK118.out 0).trans rfl;have hcz81_1:w80.cell? ⟨gb118,1,none⟩=some (.int .i64 (wrap64 (t117+((rd_T125 l1 (rd (rd_L6 t107 x35_2) 0)).f2)))):=(blk_cell BK118.out 1).trans rfl;have hcz81_2:w80.cell? ⟨gb118,2,none⟩=some (.int .i64 a2):=(blk_cell BK118.out 2).trans rfl;have hfz81_0:=blk_frozen BK118.out 0;have hfz81_1:=blk_frozen BK118.out 1;have hfz81_2:=blk_frozen BK118.out 2)|((with_reducible refine gate_callee (f:=101) rfl ?_);refine goesL_ (some 67) rfl rfl Try.func101 zbk rfl #[.agg #[.string ((rd_T125 l1 (rd (rd_L6 t107 x35_2) 0)).f1),.int .i64 (wrap64 (t117+((rd_T125 l1 (rd (rd_L6 t107 x35_2) 0)).f2))),.int .i64 a2]] rfl zc ?_;(with_reducible refine (impl_Turn_valid.calls k2 ((rd_T125 l1 (rd (rd_L6 t107 x35_2) 0)).f1) (wrap64 (t117+((rd_T125 l1 (rd (rd_L6 t107 x35_2) 0)).f2))) a2 true _ A54.out).mono ?_);rintro e w82 ⟨rfl,hb⟩;refine ⟨_,rfl,?_⟩;replace HO_8:=Aside0.mk (Kd.R_below zv hb);replace HO_33:=Aside0.mk (Kd.S_below zu hb);replace HL110_0:=Aside0.mk (Kd.R_below zaa hb);replace BK115:=Aside0.mk (blk_below (g:=gb115) (o:=.cells #[.string ((rd_T125 l1 (rd (rd_L6 t107 x35_2) 0)).f0),.string ((rd_T125 l1 (rd (rd_L6 t107 x35_2) 0)).f1),.int .i64 ((rd_T125 l1 (rd (rd_L6 t107 x35_2) 0)).f2)] 125 (0,0)) zl hb);replace BK116:=Aside0.mk (blk_below (g:=gb116) (o:=.cells #[.string ((rd_T127 l0 (rd (rd_L6 t107 x35_2) 1)).f0),.int .i64 ((rd_T127 l0 (rd (rd_L6 t107 x35_2) 1)).f1),.int .i64 ((rd_T127 l0 (rd (rd_L6 t107 x35_2) 1)).f2)] 127 (0,0)) zg hb);replace BK118:=Aside0.mk (blk_below (g:=gb118) (o:=.cells #[.string ((rd_T125 l1 (rd (rd_L6 t107 x35_2) 0)).f1),.int .i64 (wrap64 (t117+((rd_T125 l1 (rd (rd_L6 t107 x35_2) 0)).f2))),.int .i64 a2] 127 (0,0)) zbp hb);replace HB:=Aside0.mk (below_step zo hb);(try clear hb);(try clear hb2);(try clear hk);(try clear hi);have hcz83_0:w82.cell? ⟨gb118,0,none⟩=some (.string ((rd_T125 l1 (rd (rd_L6 t107 x35_2) 0)).f1)):=(blk_cell BK118.out 0).trans rfl;have hcz83_1:w82.cell? ⟨gb118,1,none⟩=some (.int .i64 (wrap64 (t117+((rd_T125 l1 (rd (rd_L6 t107 x35_2) 0)).f2)))):=(blk_cell BK118.out 1).trans rfl;have hcz83_2:w82.cell? ⟨gb118,2,none⟩=some (.int .i64 a2):=(blk_cell BK118.out 2).trans rfl;have hfz83_0:=blk_frozen BK118.out 0;have hfz83_1:=blk_frozen BK118.out 1;have hfz83_2:=blk_frozen BK118.out 2)|((with_reducible refine gate_callee (f:=102) rfl ?_);refine goesL_ (some 72) rfl rfl Try.func102 zbk rfl #[.slice Ao79 x8_2.length co79,.agg #[.string ((rd_T125 l1 (rd (rd_L6 t107 x35_2) 0)).f1),.int .i64 (wrap64 (t117+((rd_T125 l1 (rd (rd_L6 t107 x35_2) 0)).f2))),.int .i64 a2],.func (.func 103) #[] #[]] rfl zc ?_;(with_reducible refine (slices_BinarySearchFunc_S_impl_Turn.calls k2 _ _ x8_2 ((rd_T125 l1 (rd (rd_L6 t107 x35_2) 0)).f1) (wrap64 (t117+((rd_T125 l1 (rd (rd_L6 t107 x35_2) 0)).f2))) a2 0 t121 t122 _ ?side1 ?side2 A56.out).mono ?_);(case side1=>repeat (first|exact (Kd.R_reads' HO_8.out).2.2|(with_reducible refine Kd.C_alloc ?_ _)|(with_reducible refine Kd.C_drewN ?_ _)|(with_reducible refine Kd.C_drew ?_)));(case side2=>exact (Kd.R_reads' HO_8.out).2.1);rintro e w84 ⟨rfl,hb⟩;refine ⟨_,rfl,?_⟩;replace HO_8:=Aside0.mk (Kd.R_below zv hb);replace HO_33:=Aside0.mk (Kd.S_below zu hb);replace HL110_0:=Aside0.mk (Kd.R_below zaa hb);replace BK115:=Aside0.mk (blk_below (g:=gb115) (o:=.cells #[.string ((rd_T125 l1 (rd (rd_L6 t107 x35_2) 0)).f0),.string ((rd_T125 l1 (rd (rd_L6 t107 x35_2) 0)).f1),.int .i64 ((rd_T125 l1 (rd (rd_L6 t107 x35_2) 0)).f2)] 125 (0,0)) zl hb);replace BK116:=Aside0.mk (blk_below (g:=gb116) (o:=.cells #[.string ((rd_T127 l0 (rd (rd_L6 t107 x35_2) 1)).f0),.int .i64 ((rd_T127 l0 (rd (rd_L6 t107 x35_2) 1)).f1),.int .i64 ((rd_T127 l0 (rd (rd_L6 t107 x35_2) 1)).f2)] 127 (0,0)) zg hb);replace BK118:=Aside0.mk (blk_below (g:=gb118) (o:=.cells #[.string ((rd_T125 l1 (rd (rd_L6 t107 x35_2) 0)).f1),.int .i64 (wrap64 (t117+((rd_T125 l1 (rd (rd_L6 t107 x35_2) 0)).f2))),.int .i64 a2] 127 (0,0)) zbp hb);replace HB:=Aside0.mk (below_step zo hb);(try clear hb);(try clear hb2);(try clear hk);(try clear hi);have hcz85_0:w84.cell? ⟨gb118,0,none⟩=some (.string ((rd_T125 l1 (rd (rd_L6 t107 x35_2) 0)).f1)):=(blk_cell BK118.out 0).trans rfl;have hcz85_1:w84.cell? ⟨gb118,1,none⟩=some (.int .i64 (wrap64 (t117+((rd_T125 l1 (rd (rd_L6 t107 x35_2) 0)).f2)))):=(blk_cell BK118.out 1).trans rfl;have hcz85_2:w84.cell? ⟨gb118,2,none⟩=some (.int .i64 a2):=(blk_cell BK118.out 2).trans rfl;have hfz85_0:=blk_frozen BK118.out 0;have hfz85_1:=blk_frozen BK118.out 1;have hfz85_2:=blk_frozen BK118.out 2)|((with_reducible refine gate_dst (N:=78) rfl ?_);refine Kd.R_lit k127 _ 127 ?hg (N:=78) ?hd (xs:=([(⟨(rd_T125 l1 (rd (rd_L6 t107 x35_2) 0)).f1,wrap64 (t117+((rd_T125 l1 (rd (rd_L6 t107 x35_2) 0)).f2)),a2⟩:S127)]:List (S127))) (inner:=[.string ((rd_T125 l1 (rd (rd_L6 t107 x35_2) 0)).f1),.int .i64 (wrap64 (t117+((rd_T125 l1 (rd (rd_L6 t107 x35_2) 0)).f2))),.int .i64 a2]) (ok:=fun _=>True) (okp:=fun _=>True) ?hr ?hp (fun _ hk=>hk) trivial (Below.refl _ _) (Nat.le_refl _) zdd ?_;(case hd=>rfl);(case hg=>rfl);(case hr=>exact zt);(case hp=>exact (Reps.c3 (show Kd.M k127 _ _ _ (⟨(rd_T125 l1 (rd (rd_L6 t107 x35_2) 0)).f1,wrap64 (t117+((rd_T125 l1 (rd (rd_L6 t107 x35_2) 0)).f2)),a2⟩:S127) [.string ((rd_T125 l1 (rd (rd_L6 t107 x35_2) 0)).f1),.int .i64 (wrap64 (t117+((rd_T125 l1 (rd (rd_L6 t107 x35_2) 0)).f2))),.int .i64 a2] from (k127_mkM _ _ _ (⟨(rd_T125 l1 (rd (rd_L6 t107 x35_2) 0)).f1,wrap64 (t117+((rd_T125 l1 (rd (rd_L6 t107 x35_2) 0)).f2)),a2⟩:S127))) (Reps.none _ _)));intro v124 w86 ho87 hb hg_ hnew_;clear hg_ hnew_;(first|rw [←Ny123.out] at ho87|(simp only [Int.reduceToNat] at ho87;rw [←Ny123.out] at ho87));have n0_:=Aside0.mk (Kd.R_elder' zv (Kd.R_base ho87) hb);have n1_:=Aside0.mk (Kd.S_below zu hb);have n2_:=Aside0.mk (Kd.R_below zaa hb);have n3_:=Aside0.mk (Kd.R_lower (Kd.R_newB (Kd.R_newB (Kd.R_new' ho87 (Kd.R_lt zv)) (g:=gb116) (o:=.cells #[.string ((rd_T127 l0 (rd (rd_L6 t107 x35_2) 1)).f0),.int .i64 ((rd_T127 l0 (rd (rd_L6 t107 x35_2) 1)).f1),.int .i64 ((rd_T127 l0 (rd (rd_L6 t107 x35_2) 1)).f2)] 127 (0,0)) zg) (g:=gb118) (o:=.cells #[.string ((rd_T125 l1 (rd (rd_L6 t107 x35_2) 0)).f1),.int .i64 (wrap64 (t117+((rd_T125 l1 (rd (rd_L6 t107 x35_2) 0)).f2))),.int .i64 a2] 127 (0,0)) zbp) (below_size zo));have n4_:=Aside0.mk (blk_below (g:=gb115) (o:=.cells #[.string ((rd_T125 l1 (rd (rd_L6 t107 x35_2) 0)).f0),.string ((rd_T125 l1 (rd (rd_L6 t107 x35_2) 0)).f1),.int .i64 ((rd_T125 l1 (rd (rd_L6 t107 x35_2) 0)).f2)] 125 (0,0)) zl hb);have n5_:=Aside0.mk (blk_below (g:=gb116) (o:=.cells #[.string ((rd_T127 l0 (rd (rd_L6 t107 x35_2) 1)).f0),.int .i64 ((rd_T127 l0 (rd (rd_L6 t107 x35_2) 1)).f1),.int .i64 ((rd_T127 l0 (rd (rd_L6 t107 x35_2) 1)).f2)] 127 (0,0)) zg hb);have n6_:=Aside0.mk (blk_below (g:=gb118) (o:=.cells #[.string ((rd_T125 l1 (rd (rd_L6 t107 x35_2) 0)).f1),.int .i64 (wrap64 (t117+((rd_T125 l1 (rd (rd_L6 t107 x35_2) 0)).f2))),.int .i64 a2] 127 (0,0)) zbp hb);have n7_:=Aside0.mk (below_step zo hb);clear HO_8;clear HO_33;clear HL110_0;clear BK115;clear BK116;clear BK118;clear HB;have HO_8:=n0_;have HO_33:=n1_;have HL110_0:=n2_;have HO125:=n3_;have BK115:=n4_;have BK116:=n5_;have BK118:=n6_;have HB:=n7_;clear n0_ n1_ n2_ n3_ n4_ n5_ n6_ n7_;clear hb ho87;obtain ⟨Ao88,co88,eo88⟩:=Kd.R_slice HO125.out;subst eo88)|((with_reducible refine gate_callee (f:=104) rfl ?_);refine goesL_ (some 79) rfl rfl Try.func104 zbk rfl #[.slice Ao79 x8_2.length co79,.int .i64 t121,.slice Ao88 y123.length co88] rfl zc ?_;(with_reducible refine (slices_Insert_S_impl_Turn.calls (fun k_=>some k_=(.slice Ao79 x8_2.length co79:Value).ownBlock) (.slice Ao79 x8_2.length co79) x8_2 t121 (fun k_=>some k_=(.slice Ao88 y123.length co88:Value).ownBlock) (.slice Ao88 y123.length co88) y123 t126 w _ ?side1 ?side2 ?side3 ?side4 ?side5 A57.out).mono ?_);(case side1=>exact zo);(case side2=>exact Kd.R_tight rfl HO_8.out);(case side3=>exact fun k_ e_=>(HO_8.out.1 k_ e_.symm).2);(case side4=>exact Kd.R_tight rfl HO125.out);(case side5=>exact fun k_ e_=>(HO125.out.1 k_ e_.symm).1.1.2);rintro e w89 ⟨v127,rfl,ho0,hb,hkp⟩;refine ⟨_,rfl,?_⟩;have n0_:=Aside0.mk (Kd.S_mono (ok':=fun k_=>True) (Kd.S_keptB ((Kd.S_apart' (Kd.S_apart' HO_33.out (Kd.R_typed HO_8.out) zbq) (Kd.R_typed HO125.out) zbq)) hkp (fun k_ hk_ hs_=>Or.elim hs_ (fun e_=>(hk_.1.2) e_) (fun e_=>(hk_.2) e_))) (fun k_ hk_=>trivial));have n1_:=Aside0.mk (blk_kept zl hkp (fun hs_=>Or.elim hs_ (fun e_=>(fun e_=>(Kd.R_ne HO_8.out BK115.out zbq) e_) e_) (fun e_=>(fun e_=>(Kd.R_ne HO125.out BK115.out zbq) e_) e_)));have n2_:=Aside0.mk (blk_kept zg hkp (fun hs_=>Or.elim hs_ (fun e_=>(fun e_=>(Kd.R_away HO_8.out (fun _ hk=>hk.1.1)) e_) e_) (fun e_=>(fun e_=>(Kd.R_away HO125.out (fun _ hk=>hk.1.2)) e_) e_)));have n3_:=Aside0.mk (blk_kept zbp hkp (fun hs_=>Or.elim hs_ (fun e_=>(fun e_=>(Kd.R_away HO_8.out (fun _ hk=>hk.1.2)) e_) e_) (fun e_=>(fun e_=>(Kd.R_away HO125.out (fun _ hk=>hk.2)) e_) e_)));have n4_:=Aside0.mk (Kd.R_mono (ok':=fun k_=>k_≠gb116∧k_≠gb118) ho0 (fun k_ hk_=>⟨Or.elim hk_ (fun hs_=>Or.elim hs_ (fun hs_=>fun e_=>(Kd.R_away HO_8.out (fun _ hk=>hk.1.1)) (by rw [←e_];exact hs_)) (fun hs_=>fun e_=>(Kd.R_away HO125.out (fun _ hk=>hk.1.2)) (by rw [←e_];exact hs_))) (fun hn_=>(Kd.freshB (g:=gb116) (o:=.cells #[.string ((rd_T127 l0 (rd (rd_L6 t107 x35_2) 1)).f0),.int .i64 ((rd_T127 l0 (rd (rd_L6 t107 x35_2) 1)).f1),.int .i64 ((rd_T127 l0 (rd (rd_L6 t107 x35_2) 1)).f2)] 127 (0,0)) zg k_ hn_)),Or.elim hk_ (fun hs_=>Or.elim hs_ (fun hs_=>fun e_=>(Kd.R_away HO_8.out (fun _ hk=>hk.1.2)) (by rw [←e_];exact hs_)) (fun hs_=>fun e_=>(Kd.R_away HO125.out (fun _ hk=>hk.2)) (by rw [←e_];exact hs_))) (fun hn_=>(Kd.freshB (g:=gb118) (o:=.cells #[.string ((rd_T125 l1 (rd (rd_L6 t107 x35_2) 0)).f1),.int .i64 (wrap64 (t117+((rd_T125 l1 (rd (rd_L6 t107 x35_2) 0)).f2))),.int .i64 a2] 127 (0,0)) zbp k_ hn_))⟩));have n5_:=Aside0.mk (hb);clear HO_33;clear BK115;clear BK116;clear BK118;clear HB;clear HO125;clear HO_8;clear HL110_0;have HO_33:=n0_;have BK115:=n1_;have BK116:=n2_;have BK118:=n3_;have HO128:=n4_;have HB:=n5_;clear n0_ n1_ n2_ n3_ n4_ n5_;(try clear hb);(try clear hkp);(try clear ho0)))
                  go_roundg k2
                  case measure=>have:=HJ3.out;have:=HK2.out;omega
                  case rel=>exact ⟨(t126),(wrap64 (x35_2+1)),zm,H',⟨by have:=HJ3.out;have:=HK2.out;omega⟩,⟨by (with_reducible repeat (first|apply Kd.R_alloc|apply Kd.R_drewN|apply Kd.R_drew));exact Kd.R_mono HO128.out (fun _ hk=>trivial)⟩,⟨zu⟩,⟨zo⟩⟩
                 ·replace c55:=Bool.eq_false_iff.mpr c55
                  subst c55
                  have H1:(some (([]:List (S127)),6))=some (r1,r2):=by rw [if_neg (show ¬ (false=true) by decide)] at H;exact H
                  clear H
                  have H:=H1
                  clear H1
                  simp only [Option.some.injEq,Prod.mk.injEq] at H
                  obtain ⟨rfl,rfl⟩:=H
                  have p110:0≤(x35_2:Int):=of_decide_eq_true zb
                  have q110:x35_2<(t107.length:Int):=of_decide_eq_true zb
                  obtain ⟨ad110,A110_0,c110_0,e110,hx110_0,hl110_0,hi110_0⟩:=at_L6 (Kd.S_reads' HO_33.out).2.2 x35_2 p110 q110
                  cases e110
                  obtain ⟨ce110,hce110,hMe110,hcc110⟩:=Kd.S_get HO_33.out [] x35_2 p110 (by first|exact q110|exact of_decide_eq_true zb|(have e_:=(Kd.S_reads' HO_33.out).1;omega))
                  obtain ⟨ve110_0,rfl,ge110_0⟩:=hMe110
                  have hv110_0:=hcc110 0 _ rfl
                  rw [Nat.add_zero,show ((Kd.slice 2 (Kd.int .i64))).sz=1 from rfl,Nat.mul_one] at hv110_0
                  replace hv110_0:=Option.some.inj (hv110_0.symm.trans hx110_0)
                  rw [hv110_0] at ge110_0
                  have HL110_0:=Aside0.mk (show Kd.R (Kd.int .i64) 2 _ _ _ _ (rd_L6 t107 x35_2) from ge110_0)
                  clear hv110_0 ge110_0
                  clear hcc110 hce110
                  have HR110_0:=Aside0.mk hi110_0
                  have HC110_0:=Aside0.mk hl110_0
                  clear hi110_0 hl110_0
                  replace p110:=eq_true p110
                  replace q110:=eq_true q110
                  try go_wp2
                  replace HO_8:=Aside0.mk (Kd.R_drew HO_8.out)
                  replace HO_33:=Aside0.mk (Kd.S_drew HO_33.out)
                  replace HL110_0:=Aside0.mk (Kd.R_drew HL110_0.out)
                  replace HR110_0:=Aside0.mk (Kd.C_drew HR110_0.out)
                  replace HB:=Aside0.mk (below_drew1 HB.out)
                  have p111:0≤(0:Int):=zbt
                  have q111:0<((rd_L6 t107 x35_2).length:Int):=of_decide_eq_true zb
                  obtain ⟨ad111,e111,hx111_0⟩:=Kd.at_int zae 0 p111 q111
                  cases e111
                  have qi111:(0<(rd_L6 t107 x35_2).length)=True:=eq_true zbt
                  (try rw [show ((0:Int)).toNat=0 from rfl] at hx111_0)
                  (try rw [Addr.add_zero'] at hx111_0)
                  replace p111:=eq_true p111
                  replace q111:=eq_true q111
                  have p112:0≤((rd (rd_L6 t107 x35_2) 0):Int):=of_decide_eq_true zb
                  have q112:(rd (rd_L6 t107 x35_2) 0)<(l1.length:Int):=of_decide_eq_true zb
                  obtain ⟨ad112,e112,hx112_0,hx112_1,hx112_2⟩:=at_T125 HR1.out (rd (rd_L6 t107 x35_2) 0) p112 q112
                  have hw112_2:=hx112_2
                  have hw112_1:=hx112_1
                  have hw112_0:=hx112_0
                  cases e112
                  replace hx112_0:=(HB.out.cell (World.block_lt_of_cell? w _ hx112_0)).trans hx112_0
                  replace hx112_1:=(HB.out.cell (World.block_lt_of_cell? w _ hx112_1)).trans hx112_1
                  replace hx112_2:=(HB.out.cell (World.block_lt_of_cell? w _ hx112_2)).trans hx112_2
                  replace p112:=eq_true p112
                  replace q112:=eq_true q112
                  have p113:0≤(1:Int):=zbt
                  have q113:1<((rd_L6 t107 x35_2).length:Int):=of_decide_eq_true zb
                  obtain ⟨ad113,e113,hx113_0⟩:=Kd.at_int zae 1 p113 q113
                  obtain rfl:ad111=ad113:=(by injection e113)
                  (try simp only [show (1:Int).toNat=1 from rfl,Nat.reduceMul,Nat.reduceEqDiff,Go.Addr.add,↓reduceIte] at hx113_0)
                  have qi113:(1<(rd_L6 t107 x35_2).length)=True:=eq_true zbt
                  (try rw [show ((1:Int)).toNat=1 from rfl] at hx113_0)
                  replace p113:=eq_true p113
                  replace q113:=eq_true q113
                  have p114:0≤((rd (rd_L6 t107 x35_2) 1):Int):=of_decide_eq_true zb
                  have q114:(rd (rd_L6 t107 x35_2) 1)<(l0.length:Int):=of_decide_eq_true zb
                  obtain ⟨ad114,e114,hx114_0,hx114_1,hx114_2⟩:=at_T127 HR0.out (rd (rd_L6 t107 x35_2) 1) p114 q114
                  have hw114_2:=hx114_2
                  have hw114_1:=hx114_1
                  have hw114_0:=hx114_0
                  cases e114
                  replace hx114_0:=(HB.out.cell (World.block_lt_of_cell? w _ hx114_0)).trans hx114_0
                  replace hx114_1:=(HB.out.cell (World.block_lt_of_cell? w _ hx114_1)).trans hx114_1
                  replace hx114_2:=(HB.out.cell (World.block_lt_of_cell? w _ hx114_2)).trans hx114_2
                  replace p114:=eq_true p114
                  replace q114:=eq_true q114
                  refine start_ (n:=16) (S:=fun w'=>w'.cell? ad111=some (.int .i64 (rd (rd_L6 t107 x35_2) 0))∧w'.cell? (ad112.add (((rd (rd_L6 t107 x35_2) 0)).toNat*3))=some (.string ((rd_T125 l1 (rd (rd_L6 t107 x35_2) 0)).f0))∧w'.cell? ⟨(ad112.add (((rd (rd_L6 t107 x35_2) 0)).toNat*3)).block,(ad112.add (((rd (rd_L6 t107 x35_2) 0)).toNat*3)).off+1,none⟩=some (.string ((rd_T125 l1 (rd (rd_L6 t107 x35_2) 0)).f1))∧w'.cell? ⟨(ad112.add (((rd (rd_L6 t107 x35_2) 0)).toNat*3)).block,(ad112.add (((rd (rd_L6 t107 x35_2) 0)).toNat*3)).off+2,none⟩=some (.int .i64 ((rd_T125 l1 (rd (rd_L6 t107 x35_2) 0)).f2))∧w'.cell? ⟨ad111.block,ad111.off+1,none⟩=some (.int .i64 (rd (rd_L6 t107 x35_2) 1))∧w'.cell? (ad114.add (((rd (rd_L6 t107 x35_2) 1)).toNat*3))=some (.string ((rd_T127 l0 (rd (rd_L6 t107 x35_2) 1)).f0))∧w'.cell? ⟨(ad114.add (((rd (rd_L6 t107 x35_2) 1)).toNat*3)).block,(ad114.add (((rd (rd_L6 t107 x35_2) 1)).toNat*3)).off+1,none⟩=some (.int .i64 ((rd_T127 l0 (rd (rd_L6 t107 x35_2) 1)).f1))∧w'.cell? ⟨(ad114.add (((rd (rd_L6 t107 x35_2) 1)).toNat*3)).block,(ad114.add (((rd (rd_L6 t107 x35_2) 1)).toNat*3)).off+2,none⟩=some (.int .i64 ((rd_T127 l0 (rd (rd_L6 t107 x35_2) 1)).f2))) (ds:=[]) #[false,false,false,false,false,false,false,false,false,false,false,false,false,false,false,false] zbk rfl rfl ⟨hx111_0,((HB.out.cell (World.block_lt_of_cell? w _ hw112_0)).trans hw112_0),((HB.out.cell (World.block_lt_of_cell? w _ hw112_1)).trans hw112_1),((HB.out.cell (World.block_lt_of_cell? w _ hw112_2)).trans hw112_2),hx113_0,((HB.out.cell (World.block_lt_of_cell? w _ hw114_0)).trans hw114_0),((HB.out.cell (World.block_lt_of_cell? w _ hw114_1)).trans hw114_1),((HB.out.cell (World.block_lt_of_cell? w _ hw114_2)).trans hw114_2)⟩ (fun hHeld=>?_);refine with_tabW impl_AddAnswers.tab9 impl_AddAnswers.bits9 (fun HT_ HW_=>?_)
                  generalize wr.drew=w90 at HO_8 HO_33 HL110_0 HR110_0 HB hx111_0 hx112_0 hx112_1 hx112_2 hx113_0 hx114_0 hx114_1 hx114_2 hHeld ⊢
                  refine pA 0 39 ?_
                  refine pA 1 40 ?_
                  refine pA 2 41 ?_
                  refine pA 6 45 ?_
                  refine pA 7 46 ?_
                  refine pA 8 47 ?_
                  refine pT 3 42 rfl zcv ?_
                  refine pA 4 43 ?_
                  refine pT 5 44 rfl zcv ?_
                  refine pT 9 48 rfl zcv ?_
                  refine pA 10 49 ?_
                  refine pT 11 50 rfl zcv ?_
                  refine join_ (σ:=Nat × Nat) 2 #[true,true,true,true,true,true,true,true,true,true,true,true,true,true,false,false] (fun s_=>[(11,.pointer (some ⟨s_.1,0,none⟩)),(12,.pointer (some ⟨s_.2,0,none⟩))]) (fun s_ w'=>(w'.cell? ad111=some (.int .i64 (rd (rd_L6 t107 x35_2) 0))∧w'.cell? (ad112.add (((rd (rd_L6 t107 x35_2) 0)).toNat*3))=some (.string ((rd_T125 l1 (rd (rd_L6 t107 x35_2) 0)).f0))∧w'.cell? ⟨(ad112.add (((rd (rd_L6 t107 x35_2) 0)).toNat*3)).block,(ad112.add (((rd (rd_L6 t107 x35_2) 0)).toNat*3)).off+1,none⟩=some (.string ((rd_T125 l1 (rd (rd_L6 t107 x35_2) 0)).f1))∧w'.cell? ⟨(ad112.add (((rd (rd_L6 t107 x35_2) 0)).toNat*3)).block,(ad112.add (((rd (rd_L6 t107 x35_2) 0)).toNat*3)).off+2,none⟩=some (.int .i64 ((rd_T125 l1 (rd (rd_L6 t107 x35_2) 0)).f2))∧w'.cell? ⟨ad111.block,ad111.off+1,none⟩=some (.int .i64 (rd (rd_L6 t107 x35_2) 1))∧w'.cell? (ad114.add (((rd (rd_L6 t107 x35_2) 1)).toNat*3))=some (.string ((rd_T127 l0 (rd (rd_L6 t107 x35_2) 1)).f0))∧w'.cell? ⟨(ad114.add (((rd (rd_L6 t107 x35_2) 1)).toNat*3)).block,(ad114.add (((rd (rd_L6 t107 x35_2) 1)).toNat*3)).off+1,none⟩=some (.int .i64 ((rd_T127 l0 (rd (rd_L6 t107 x35_2) 1)).f1))∧w'.cell? ⟨(ad114.add (((rd (rd_L6 t107 x35_2) 1)).toNat*3)).block,(ad114.add (((rd (rd_L6 t107 x35_2) 1)).toNat*3)).off+2,none⟩=some (.int .i64 ((rd_T127 l0 (rd (rd_L6 t107 x35_2) 1)).f2)))∧(Kd.R (Kd.int .i64) 2 w' w.heap.size (fun k_=>some k_≠(.slice (some ad110) t107.length co18:Value).ownBlock) (.slice (some ad111) (rd_L6 t107 x35_2).length c110_0) (rd_L6 t107 x35_2))∧(Kd.S (Kd.slice 2 (Kd.int .i64)) 126 w' w.heap.size (fun _=>True) (.slice (some ad110) t107.length co18) t107)∧(Kd.R k127 127 w' w.heap.size (fun k_=>k_≠s_.2) u8 x8_2)∧(w'.heap[s_.1]?=some (.cells #[.string (⟨#[]⟩:ByteArray),.string (⟨#[]⟩:ByteArray),.int .i64 0] 125 (0,0)))∧(w'.heap[s_.2]?=some (.cells #[.string (⟨#[]⟩:ByteArray),.int .i64 0,.int .i64 0] 127 (0,0)))∧(w.heap.size≤s_.1)∧(w.heap.size≤s_.1)∧(s_.2≠s_.1)∧(s_.1≠s_.2)∧(w.heap.size≤s_.2)∧(w.heap.size≤s_.2)∧(Below w.heap.size w w')) ?_ ?_
                  rotate_left
                  ·intro hCont
                   refine two_ (i:=12) (j:=13) (Ni:=some 11) (Nj:=some 12) #[true,true,true,true,true,true,true,true,true,true,true,true,true,false,false,false] #[true,true,true,true,true,true,true,true,true,true,true,true,false,true,false,false] rfl rfl rfl rfl (two_of HT_.out zbk) zbq zbq (fun K hK=>?_) (fun K hK=>?_)
                   ·skip
                    refine box_step ?hg (N:=11) ?hd (cs:=#[.string (⟨#[]⟩:ByteArray),.string (⟨#[]⟩:ByteArray),.int .i64 0]) (t:=125) ?hr ?_;(case hd=>rfl);(case hg=>rfl);(case hr=>exact zt)
                    intro gb115 hg w91 hbox hb
                    have HS0_:=(hb.cell (World.block_lt_of_cell? _ _ (hHeld.1))).trans (hHeld.1)
                    have HS4_:=(hb.cell (World.block_lt_of_cell? _ _ (hHeld.2.2.2.2.1))).trans (hHeld.2.2.2.2.1)
                    have n0_:=Aside0.mk (Kd.R_below zv hb)
                    have n1_:=Aside0.mk (Kd.S_below zu hb)
                    have n2_:=Aside0.mk (Kd.R_below zaa hb)
                    have n3_:=Aside0.mk (Kd.C_below zae hb)
                    have n4_:=Aside0.mk (below_step za hb)
                    have n5_:=Aside0.mk (hbox)
                    have n6_:=Aside0.mk ((by rw [hg];exact (below_size za):w.heap.size≤gb115))
                    have n7_:=Aside0.mk ((by rw [hg];exact (below_size za):w.heap.size≤gb115))
                    clear HO_8
                    clear HO_33
                    clear HL110_0
                    clear HR110_0
                    clear HB
                    have HO_8:=n0_
                    have HO_33:=n1_
                    have HL110_0:=n2_
                    have HR110_0:=n3_
                    have HB:=n4_
                    have BK115:=n5_
                    have GW115:=n6_
                    have GE115:=n7_
                    clear n0_ n1_ n2_ n3_ n4_ n5_ n6_ n7_
                    clear hb hbox hg
                    refine hK.out _ _ ⟨HS0_,((HB.out.cell (World.block_lt_of_cell? w _ hw112_0)).trans hw112_0),((HB.out.cell (World.block_lt_of_cell? w _ hw112_1)).trans hw112_1),((HB.out.cell (World.block_lt_of_cell? w _ hw112_2)).trans hw112_2),HS4_,((HB.out.cell (World.block_lt_of_cell? w _ hw114_0)).trans hw114_0),((HB.out.cell (World.block_lt_of_cell? w _ hw114_1)).trans hw114_1),((HB.out.cell (World.block_lt_of_cell? w _ hw114_2)).trans hw114_2)⟩ (fun hHeld=>?_)
                    clear hK K
                    refine pN 11 ?_
                    refine one_ (i:=13) (N:=some 12) #[true,true,true,true,true,true,true,true,true,true,true,true,true,true,false,false] rfl rfl (one_of HT_.out zbk) zbq (fun K hK=>?_)
                    refine box_step ?hg (N:=12) ?hd (cs:=#[.string (⟨#[]⟩:ByteArray),.int .i64 0,.int .i64 0]) (t:=127) ?hr ?_;(case hd=>rfl);(case hg=>rfl);(case hr=>exact zt)
                    intro gb116 hg w92 hbox hb
                    have HS0_:=(hb.cell (World.block_lt_of_cell? _ _ (hHeld.1))).trans (hHeld.1)
                    have HS4_:=(hb.cell (World.block_lt_of_cell? _ _ (hHeld.2.2.2.2.1))).trans (hHeld.2.2.2.2.1)
                    have n0_:=Aside0.mk (Kd.R_below (Kd.R_elderB zv gb116 (Nat.le_of_eq hg.symm)) hb)
                    have n1_:=Aside0.mk (Kd.S_below zu hb)
                    have n2_:=Aside0.mk (Kd.R_below zaa hb)
                    have n3_:=Aside0.mk (Kd.C_below zae hb)
                    have n4_:=Aside0.mk (blk_below (g:=gb115) (o:=.cells #[.string (⟨#[]⟩:ByteArray),.string (⟨#[]⟩:ByteArray),.int .i64 0] 125 (0,0)) zl hb)
                    have n5_:=Aside0.mk (below_step zch hb)
                    have n6_:=Aside0.mk (hbox)
                    have n7_:=Aside0.mk ((by rw [hg];exact (below_size zch):w.heap.size≤gb116))
                    have n8_:=Aside0.mk ((by rw [hg];exact (below_size zch):w.heap.size≤gb116))
                    have n9_:=Aside0.mk ((by rw [hg];exact Nat.ne_of_lt (blk_lt (g:=gb115) (o:=.cells #[.string (⟨#[]⟩:ByteArray),.string (⟨#[]⟩:ByteArray),.int .i64 0] 125 (0,0)) zl):gb115≠gb116))
                    have n10_:=Aside0.mk ((by rw [hg];exact Nat.ne_of_gt (blk_lt (g:=gb115) (o:=.cells #[.string (⟨#[]⟩:ByteArray),.string (⟨#[]⟩:ByteArray),.int .i64 0] 125 (0,0)) zl):gb116≠gb115))
                    clear HO_8
                    clear HO_33
                    clear HL110_0
                    clear HR110_0
                    clear BK115
                    clear HB
                    have HO_8:=n0_
                    have HO_33:=n1_
                    have HL110_0:=n2_
                    have HR110_0:=n3_
                    have BK115:=n4_
                    have HB:=n5_
                    have BK116:=n6_
                    have GW116:=n7_
                    have GE116:=n8_
                    have NB115_116:=n9_
                    have NB116_115:=n10_
                    clear n0_ n1_ n2_ n3_ n4_ n5_ n6_ n7_ n8_ n9_ n10_
                    clear hb hbox hg
                    refine hK.out _ _ ⟨HS0_,((HB.out.cell (World.block_lt_of_cell? w _ hw112_0)).trans hw112_0),((HB.out.cell (World.block_lt_of_cell? w _ hw112_1)).trans hw112_1),((HB.out.cell (World.block_lt_of_cell? w _ hw112_2)).trans hw112_2),HS4_,((HB.out.cell (World.block_lt_of_cell? w _ hw114_0)).trans hw114_0),((HB.out.cell (World.block_lt_of_cell? w _ hw114_1)).trans hw114_1),((HB.out.cell (World.block_lt_of_cell? w _ hw114_2)).trans hw114_2)⟩ (fun hHeld=>?_)
                    clear hK K
                    refine pN 12 ?_
                    exact norm_ zcq (hCont (gb115,gb116) _ ⟨hHeld,zcx,zu,zcy,zl,zg,GW115.out,GE115.out,NB116_115.out,NB115_116.out,GW116.out,GE116.out,zn⟩)
                   ·skip
                    refine box_step ?hg (N:=12) ?hd (cs:=#[.string (⟨#[]⟩:ByteArray),.int .i64 0,.int .i64 0]) (t:=127) ?hr ?_;(case hd=>rfl);(case hg=>rfl);(case hr=>exact zt)
                    intro gb116 hg w91 hbox hb
                    have HS0_:=(hb.cell (World.block_lt_of_cell? _ _ (hHeld.1))).trans (hHeld.1)
                    have HS4_:=(hb.cell (World.block_lt_of_cell? _ _ (hHeld.2.2.2.2.1))).trans (hHeld.2.2.2.2.1)
                    have n0_:=Aside0.mk (Kd.R_below (Kd.R_elderB zv gb116 (Nat.le_of_eq hg.symm)) hb)
                    have n1_:=Aside0.mk (Kd.S_below zu hb)
                    have n2_:=Aside0.mk (Kd.R_below zaa hb)
                    have n3_:=Aside0.mk (Kd.C_below zae hb)
                    have n4_:=Aside0.mk (below_step za hb)
                    have n5_:=Aside0.mk (hbox)
                    have n6_:=Aside0.mk ((by rw [hg];exact (below_size za):w.heap.size≤gb116))
                    have n7_:=Aside0.mk ((by rw [hg];exact (below_size za):w.heap.size≤gb116))
                    clear HO_8
                    clear HO_33
                    clear HL110_0
                    clear HR110_0
                    clear HB
                    have HO_8:=n0_
                    have HO_33:=n1_
                    have HL110_0:=n2_
                    have HR110_0:=n3_
                    have HB:=n4_
                    have BK116:=n5_
                    have GW116:=n6_
                    have GE116:=n7_
                    clear n0_ n1_ n2_ n3_ n4_ n5_ n6_ n7_
                    clear hb hbox hg
                    refine hK.out _ _ ⟨HS0_,((HB.out.cell (World.block_lt_of_cell? w _ hw112_0)).trans hw112_0),((HB.out.cell (World.block_lt_of_cell? w _ hw112_1)).trans hw112_1),((HB.out.cell (World.block_lt_of_cell? w _ hw112_2)).trans hw112_2),HS4_,((HB.out.cell (World.block_lt_of_cell? w _ hw114_0)).trans hw114_0),((HB.out.cell (World.block_lt_of_cell? w _ hw114_1)).trans hw114_1),((HB.out.cell (World.block_lt_of_cell? w _ hw114_2)).trans hw114_2)⟩ (fun hHeld=>?_)
                    clear hK K
                    refine pN 12 ?_
                    refine one_ (i:=12) (N:=some 11) #[true,true,true,true,true,true,true,true,true,true,true,true,true,true,false,false] rfl rfl (one_of HT_.out zbk) zbq (fun K hK=>?_)
                    refine box_step ?hg (N:=11) ?hd (cs:=#[.string (⟨#[]⟩:ByteArray),.string (⟨#[]⟩:ByteArray),.int .i64 0]) (t:=125) ?hr ?_;(case hd=>rfl);(case hg=>rfl);(case hr=>exact zt)
                    intro gb115 hg w92 hbox hb
                    have HS0_:=(hb.cell (World.block_lt_of_cell? _ _ (hHeld.1))).trans (hHeld.1)
                    have HS4_:=(hb.cell (World.block_lt_of_cell? _ _ (hHeld.2.2.2.2.1))).trans (hHeld.2.2.2.2.1)
                    have n0_:=Aside0.mk (Kd.R_below zv hb)
                    have n1_:=Aside0.mk (Kd.S_below zu hb)
                    have n2_:=Aside0.mk (Kd.R_below zaa hb)
                    have n3_:=Aside0.mk (Kd.C_below zae hb)
                    have n4_:=Aside0.mk (blk_below (g:=gb116) (o:=.cells #[.string (⟨#[]⟩:ByteArray),.int .i64 0,.int .i64 0] 127 (0,0)) zg hb)
                    have n5_:=Aside0.mk (below_step zag hb)
                    have n6_:=Aside0.mk (hbox)
                    have n7_:=Aside0.mk ((by rw [hg];exact (below_size zag):w.heap.size≤gb115))
                    have n8_:=Aside0.mk ((by rw [hg];exact (below_size zag):w.heap.size≤gb115))
                    have n9_:=Aside0.mk ((by rw [hg];exact Nat.ne_of_lt (blk_lt (g:=gb116) (o:=.cells #[.string (⟨#[]⟩:ByteArray),.int .i64 0,.int .i64 0] 127 (0,0)) zg):gb116≠gb115))
                    have n10_:=Aside0.mk ((by rw [hg];exact Nat.ne_of_gt (blk_lt (g:=gb116) (o:=.cells #[.string (⟨#[]⟩:ByteArray),.int .i64 0,.int .i64 0] 127 (0,0)) zg):gb115≠gb116))
                    clear HO_8
                    clear HO_33
                    clear HL110_0
                    clear HR110_0
                    clear BK116
                    clear HB
                    have HO_8:=n0_
                    have HO_33:=n1_
                    have HL110_0:=n2_
                    have HR110_0:=n3_
                    have BK116:=n4_
                    have HB:=n5_
                    have BK115:=n6_
                    have GW115:=n7_
                    have GE115:=n8_
                    have NB116_115:=n9_
                    have NB115_116:=n10_
                    clear n0_ n1_ n2_ n3_ n4_ n5_ n6_ n7_ n8_ n9_ n10_
                    clear hb hbox hg
                    refine hK.out _ _ ⟨HS0_,((HB.out.cell (World.block_lt_of_cell? w _ hw112_0)).trans hw112_0),((HB.out.cell (World.block_lt_of_cell? w _ hw112_1)).trans hw112_1),((HB.out.cell (World.block_lt_of_cell? w _ hw112_2)).trans hw112_2),HS4_,((HB.out.cell (World.block_lt_of_cell? w _ hw114_0)).trans hw114_0),((HB.out.cell (World.block_lt_of_cell? w _ hw114_1)).trans hw114_1),((HB.out.cell (World.block_lt_of_cell? w _ hw114_2)).trans hw114_2)⟩ (fun hHeld=>?_)
                    clear hK K
                    refine pN 11 ?_
                    exact norm_ zcq (hCont (gb115,gb116) _ ⟨hHeld,zcx,zu,zcy,zl,zg,GW115.out,GE115.out,NB116_115.out,NB115_116.out,GW116.out,GE116.out,zdg⟩)
                  rintro ⟨gb115,gb116⟩ w93 ⟨hS_,h0_,h1_,h2_,h3_,h4_,h5_,h6_,h7_,h8_,h9_,h10_,h11_⟩
                  have n0_:Aside0 (Kd.R (Kd.int .i64) 2 w93 w.heap.size (fun k_=>some k_≠(.slice (some ad110) t107.length co18:Value).ownBlock) (.slice (some ad111) (rd_L6 t107 x35_2).length c110_0) (rd_L6 t107 x35_2)):=⟨h0_⟩
                  have n1_:Aside0 (Kd.S (Kd.slice 2 (Kd.int .i64)) 126 w93 w.heap.size (fun _=>True) (.slice (some ad110) t107.length co18) t107):=⟨h1_⟩
                  have n2_:Aside0 (Kd.R k127 127 w93 w.heap.size (fun k_=>k_≠gb116) u8 x8_2):=⟨h2_⟩
                  have n3_:Aside0 (w93.heap[gb115]?=some (.cells #[.string (⟨#[]⟩:ByteArray),.string (⟨#[]⟩:ByteArray),.int .i64 0] 125 (0,0))):=⟨h3_⟩
                  have n4_:Aside0 (w93.heap[gb116]?=some (.cells #[.string (⟨#[]⟩:ByteArray),.int .i64 0,.int .i64 0] 127 (0,0))):=⟨h4_⟩
                  have n5_:Aside0 (w.heap.size≤gb115):=⟨h5_⟩
                  have n6_:Aside0 (w.heap.size≤gb115):=⟨h6_⟩
                  have n7_:Aside0 (gb116≠gb115):=⟨h7_⟩
                  have n8_:Aside0 (gb115≠gb116):=⟨h8_⟩
                  have n9_:Aside0 (w.heap.size≤gb116):=⟨h9_⟩
                  have n10_:Aside0 (w.heap.size≤gb116):=⟨h10_⟩
                  have n11_:Aside0 (Below w.heap.size w w93):=⟨h11_⟩
                  clear HO_8
                  clear HO_33
                  clear HL110_0
                  clear HR110_0
                  clear HB
                  clear h0_ h1_ h2_ h3_ h4_ h5_ h6_ h7_ h8_ h9_ h10_ h11_
                  have HL110_0:=n0_
                  have HO_33:=n1_
                  have HO_8:=n2_
                  have BK115:=n3_
                  have BK116:=n4_
                  have GW115:=n5_
                  have GE115:=n6_
                  have NB116_115:=n7_
                  have NB115_116:=n8_
                  have GW116:=n9_
                  have GE116:=n10_
                  have HB:=n11_
                  clear n0_ n1_ n2_ n3_ n4_ n5_ n6_ n7_ n8_ n9_ n10_ n11_
                  have hHeld:w93.cell? ad111=some (.int .i64 (rd (rd_L6 t107 x35_2) 0))∧w93.cell? (ad112.add (((rd (rd_L6 t107 x35_2) 0)).toNat*3))=some (.string ((rd_T125 l1 (rd (rd_L6 t107 x35_2) 0)).f0))∧w93.cell? ⟨(ad112.add (((rd (rd_L6 t107 x35_2) 0)).toNat*3)).block,(ad112.add (((rd (rd_L6 t107 x35_2) 0)).toNat*3)).off+1,none⟩=some (.string ((rd_T125 l1 (rd (rd_L6 t107 x35_2) 0)).f1))∧w93.cell? ⟨(ad112.add (((rd (rd_L6 t107 x35_2) 0)).toNat*3)).block,(ad112.add (((rd (rd_L6 t107 x35_2) 0)).toNat*3)).off+2,none⟩=some (.int .i64 ((rd_T125 l1 (rd (rd_L6 t107 x35_2) 0)).f2))∧w93.cell? ⟨ad111.block,ad111.off+1,none⟩=some (.int .i64 (rd (rd_L6 t107 x35_2) 1))∧w93.cell? (ad114.add (((rd (rd_L6 t107 x35_2) 1)).toNat*3))=some (.string ((rd_T127 l0 (rd (rd_L6 t107 x35_2) 1)).f0))∧w93.cell? ⟨(ad114.add (((rd (rd_L6 t107 x35_2) 1)).toNat*3)).block,(ad114.add (((rd (rd_L6 t107 x35_2) 1)).toNat*3)).off+1,none⟩=some (.int .i64 ((rd_T127 l0 (rd (rd_L6 t107 x35_2) 1)).f1))∧w93.cell? ⟨(ad114.add (((rd (rd_L6 t107 x35_2) 1)).toNat*3)).block,(ad114.add (((rd (rd_L6 t107 x35_2) 1)).toNat*3)).off+2,none⟩=some (.int .i64 ((rd_T127 l0 (rd (rd_L6 t107 x35_2) 1)).f2)):=hS_
                  refine norm_ (a':=?_) ?_ ?_
                  rotate_left
                  ·simp only [putAll,Act.put,List.setIfInBounds_toArray,List.set_cons_zero,List.set_cons_succ]
                   rfl
                  refine one_ (i:=14) (N:=none) #[true,true,true,true,true,true,true,true,true,true,true,true,true,true,true,false] rfl rfl (one_of HT_.out zbk) zbq (fun K hK=>?_)
                  have hs94:w93.cell? ⟨gb115,0,none⟩=some (.string (⟨#[]⟩:ByteArray)):=(blk_cell BK115.out 0).trans rfl
                  have hfs94:=blk_frozen BK115.out 0
                  have hns94_1:=NB116_115.out
                  have hms94_1:=NB115_116.out
                  have hs95:w93.cell? ⟨gb115,1,none⟩=some (.string (⟨#[]⟩:ByteArray)):=(blk_cell BK115.out 1).trans rfl
                  have hfs95:=blk_frozen BK115.out 1
                  have hns95_1:=NB116_115.out
                  have hms95_1:=NB115_116.out
                  have hs96:w93.cell? ⟨gb115,2,none⟩=some (.int .i64 0):=(blk_cell BK115.out 2).trans rfl
                  have hfs96:=blk_frozen BK115.out 2
                  have hns96_1:=NB116_115.out
                  have hms96_1:=NB115_116.out
                  refine skip_ (w1:=?_) (by rfl) rfl ?_ ?_
                  rotate_left
                  ·go_simp
                   rfl
                  refine hK.out _ _ ⟨((cell_far (p:=⟨gb115,_,none⟩) zi _).trans (((cell_far (p:=⟨gb115,_,none⟩) zi _).trans (((cell_far (p:=⟨gb115,_,none⟩) zi _).trans (hHeld.1)))))),((cell_far (p:=⟨gb115,_,none⟩) (by first|exact Nat.ne_of_lt (Nat.lt_of_lt_of_le (by have:=World.block_lt_of_cell? _ _ hw112_0;first|rwa [add_block] at this|exact this) GW115.out)|(rw [add_block];exact Nat.ne_of_lt (Nat.lt_of_lt_of_le (by have:=World.block_lt_of_cell? _ _ hw112_0;first|rwa [add_block] at this|exact this) GW115.out))|(show (Addr.add _ _).block≠_;rw [add_block];exact Nat.ne_of_lt (Nat.lt_of_lt_of_le (by have:=World.block_lt_of_cell? _ _ hw112_0;first|rwa [add_block] at this|exact this) GW115.out))|(dsimp only;exact Nat.ne_of_lt (Nat.lt_of_lt_of_le (by have:=World.block_lt_of_cell? _ _ hw112_0;first|rwa [add_block] at this|exact this) GW115.out))) _).trans (((cell_far (p:=⟨gb115,_,none⟩) (by first|exact Nat.ne_of_lt (Nat.lt_of_lt_of_le (by have:=World.block_lt_of_cell? _ _ hw112_0;first|rwa [add_block] at this|exact this) GW115.out)|(rw [add_block];exact Nat.ne_of_lt (Nat.lt_of_lt_of_le (by have:=World.block_lt_of_cell? _ _ hw112_0;first|rwa [add_block] at this|exact this) GW115.out))|(show (Addr.add _ _).block≠_;rw [add_block];exact Nat.ne_of_lt (Nat.lt_of_lt_of_le (by have:=World.block_lt_of_cell? _ _ hw112_0;first|rwa [add_block] at this|exact this) GW115.out))|(dsimp only;exact Nat.ne_of_lt (Nat.lt_of_lt_of_le (by have:=World.block_lt_of_cell? _ _ hw112_0;first|rwa [add_block] at this|exact this) GW115.out))) _).trans (((cell_far (p:=⟨gb115,_,none⟩) (by first|exact Nat.ne_of_lt (Nat.lt_of_lt_of_le (by have:=World.block_lt_of_cell? _ _ hw112_0;first|rwa [add_block] at this|exact this) GW115.out)|(rw [add_block];exact Nat.ne_of_lt (Nat.lt_of_lt_of_le (by have:=World.block_lt_of_cell? _ _ hw112_0;first|rwa [add_block] at this|exact this) GW115.out))|(show (Addr.add _ _).block≠_;rw [add_block];exact Nat.ne_of_lt (Nat.lt_of_lt_of_le (by have:=World.block_lt_of_cell? _ _ hw112_0;first|rwa [add_block] at this|exact this) GW115.out))|(dsimp only;exact Nat.ne_of_lt (Nat.lt_of_lt_of_le (by have:=World.block_lt_of_cell? _ _ hw112_0;first|rwa [add_block] at this|exact this) GW115.out))) _).trans (hHeld.2.1)))))),((cell_far (p:=⟨gb115,_,none⟩) (by first|exact Nat.ne_of_lt (Nat.lt_of_lt_of_le (by have:=World.block_lt_of_cell? _ _ hw112_1;first|rwa [add_block] at this|exact this) GW115.out)|(rw [add_block];exact Nat.ne_of_lt (Nat.lt_of_lt_of_le (by have:=World.block_lt_of_cell? _ _ hw112_1;first|rwa [add_block] at this|exact this) GW115.out))|(show (Addr.add _ _).block≠_;rw [add_block];exact Nat.ne_of_lt (Nat.lt_of_lt_of_le (by have:=World.block_lt_of_cell? _ _ hw112_1;first|rwa [add_block] at this|exact this) GW115.out))|(dsimp only;exact Nat.ne_of_lt (Nat.lt_of_lt_of_le (by have:=World.block_lt_of_cell? _ _ hw112_1;first|rwa [add_block] at this|exact this) GW115.out))) _).trans (((cell_far (p:=⟨gb115,_,none⟩) (by first|exact Nat.ne_of_lt (Nat.lt_of_lt_of_le (by have:=World.block_lt_of_cell? _ _ hw112_1;first|rwa [add_block] at this|exact this) GW115.out)|(rw [add_block];exact Nat.ne_of_lt (Nat.lt_of_lt_of_le (by have:=World.block_lt_of_cell? _ _ hw112_1;first|rwa [add_block] at this|exact this) GW115.out))|(show (Addr.add _ _).block≠_;rw [add_block];exact Nat.ne_of_lt (Nat.lt_of_lt_of_le (by have:=World.block_lt_of_cell? _ _ hw112_1;first|rwa [add_block] at this|exact this) GW115.out))|(dsimp only;exact Nat.ne_of_lt (Nat.lt_of_lt_of_le (by have:=World.block_lt_of_cell? _ _ hw112_1;first|rwa [add_block] at this|exact this) GW115.out))) _).trans (((cell_far (p:=⟨gb115,_,none⟩) (by first|exact Nat.ne_of_lt (Nat.lt_of_lt_of_le (by have:=World.block_lt_of_cell? _ _ hw112_1;first|rwa [add_block] at this|exact this) GW115.out)|(rw [add_block];exact Nat.ne_of_lt (Nat.lt_of_lt_of_le (by have:=World.block_lt_of_cell? _ _ hw112_1;first|rwa [add_block] at this|exact this) GW115.out))|(show (Addr.add _ _).block≠_;rw [add_block];exact Nat.ne_of_lt (Nat.lt_of_lt_of_le (by have:=World.block_lt_of_cell? _ _ hw112_1;first|rwa [add_block] at this|exact this) GW115.out))|(dsimp only;exact Nat.ne_of_lt (Nat.lt_of_lt_of_le (by have:=World.block_lt_of_cell? _ _ hw112_1;first|rwa [add_block] at this|exact this) GW115.out))) _).trans (hHeld.2.2.1)))))),((cell_far (p:=⟨gb115,_,none⟩) (by first|exact Nat.ne_of_lt (Nat.lt_of_lt_of_le (by have:=World.block_lt_of_cell? _ _ hw112_2;first|rwa [add_block] at this|exact this) GW115.out)|(rw [add_block];exact Nat.ne_of_lt (Nat.lt_of_lt_of_le (by have:=World.block_lt_of_cell? _ _ hw112_2;first|rwa [add_block] at this|exact this) GW115.out))|(show (Addr.add _ _).block≠_;rw [add_block];exact Nat.ne_of_lt (Nat.lt_of_lt_of_le (by have:=World.block_lt_of_cell? _ _ hw112_2;first|rwa [add_block] at this|exact this) GW115.out))|(dsimp only;exact Nat.ne_of_lt (Nat.lt_of_lt_of_le (by have:=World.block_lt_of_cell? _ _ hw112_2;first|rwa [add_block] at this|exact this) GW115.out))) _).trans (((cell_far (p:=⟨gb115,_,none⟩) (by first|exact Nat.ne_of_lt (Nat.lt_of_lt_of_le (by have:=World.block_lt_of_cell? _ _ hw112_2;first|rwa [add_block] at this|exact this) GW115.out)|(rw [add_block];exact Nat.ne_of_lt (Nat.lt_of_lt_of_le (by have:=World.block_lt_of_cell? _ _ hw112_2;first|rwa [add_block] at this|exact this) GW115.out))|(show (Addr.add _ _).block≠_;rw [add_block];exact Nat.ne_of_lt (Nat.lt_of_lt_of_le (by have:=World.block_lt_of_cell? _ _ hw112_2;first|rwa [add_block] at this|exact this) GW115.out))|(dsimp only;exact Nat.ne_of_lt (Nat.lt_of_lt_of_le (by have:=World.block_lt_of_cell? _ _ hw112_2;first|rwa [add_block] at this|exact this) GW115.out))) _).trans (((cell_far (p:=⟨gb115,_,none⟩) (by first|exact Nat.ne_of_lt (Nat.lt_of_lt_of_le (by have:=World.block_lt_of_cell? _ _ hw112_2;first|rwa [add_block] at this|exact this) GW115.out)|(rw [add_block];exact Nat.ne_of_lt (Nat.lt_of_lt_of_le (by have:=World.block_lt_of_cell? _ _ hw112_2;first|rwa [add_block] at this|exact this) GW115.out))|(show (Addr.add _ _).block≠_;rw [add_block];exact Nat.ne_of_lt (Nat.lt_of_lt_of_le (by have:=World.block_lt_of_cell? _ _ hw112_2;first|rwa [add_block] at this|exact this) GW115.out))|(dsimp only;exact Nat.ne_of_lt (Nat.lt_of_lt_of_le (by have:=World.block_lt_of_cell? _ _ hw112_2;first|rwa [add_block] at this|exact this) GW115.out))) _).trans (hHeld.2.2.2.1)))))),((cell_far (p:=⟨gb115,_,none⟩) zi _).trans (((cell_far (p:=⟨gb115,_,none⟩) zi _).trans (((cell_far (p:=⟨gb115,_,none⟩) zi _).trans (hHeld.2.2.2.2.1)))))),((cell_far (p:=⟨gb115,_,none⟩) (by first|exact Nat.ne_of_lt (Nat.lt_of_lt_of_le (by have:=World.block_lt_of_cell? _ _ hw114_0;first|rwa [add_block] at this|exact this) GW115.out)|(rw [add_block];exact Nat.ne_of_lt (Nat.lt_of_lt_of_le (by have:=World.block_lt_of_cell? _ _ hw114_0;first|rwa [add_block] at this|exact this) GW115.out))|(show (Addr.add _ _).block≠_;rw [add_block];exact Nat.ne_of_lt (Nat.lt_of_lt_of_le (by have:=World.block_lt_of_cell? _ _ hw114_0;first|rwa [add_block] at this|exact this) GW115.out))|(dsimp only;exact Nat.ne_of_lt (Nat.lt_of_lt_of_le (by have:=World.block_lt_of_cell? _ _ hw114_0;first|rwa [add_block] at this|exact this) GW115.out))) _).trans (((cell_far (p:=⟨gb115,_,none⟩) (by first|exact Nat.ne_of_lt (Nat.lt_of_lt_of_le (by have:=World.block_lt_of_cell? _ _ hw114_0;first|rwa [add_block] at this|exact this) GW115.out)|(rw [add_block];exact Nat.ne_of_lt (Nat.lt_of_lt_of_le (by have:=World.block_lt_of_cell? _ _ hw114_0;first|rwa [add_block] at this|exact this) GW115.out))|(show (Addr.add _ _).block≠_;rw [add_block];exact Nat.ne_of_lt (Nat.lt_of_lt_of_le (by have:=World.block_lt_of_cell? _ _ hw114_0;first|rwa [add_block] at this|exact this) GW115.out))|(dsimp only;exact Nat.ne_of_lt (Nat.lt_of_lt_of_le (by have:=World.block_lt_of_cell? _ _ hw114_0;first|rwa [add_block] at this|exact this) GW115.out))) _).trans (((cell_far (p:=⟨gb115,_,none⟩) (by first|exact Nat.ne_of_lt (Nat.lt_of_lt_of_le (by have:=World.block_lt_of_cell? _ _ hw114_0;first|rwa [add_block] at this|exact this) GW115.out)|(rw [add_block];exact Nat.ne_of_lt (Nat.lt_of_lt_of_le (by have:=World.block_lt_of_cell? _ _ hw114_0;first|rwa [add_block] at this|exact this) GW115.out))|(show (Addr.add _ _).block≠_;rw [add_block];exact Nat.ne_of_lt (Nat.lt_of_lt_of_le (by have:=World.block_lt_of_cell? _ _ hw114_0;first|rwa [add_block] at this|exact this) GW115.out))|(dsimp only;exact Nat.ne_of_lt (Nat.lt_of_lt_of_le (by have:=World.block_lt_of_cell? _ _ hw114_0;first|rwa [add_block] at this|exact this) GW115.out))) _).trans (hHeld.2.2.2.2.2.1)))))),((cell_far (p:=⟨gb115,_,none⟩) (by first|exact Nat.ne_of_lt (Nat.lt_of_lt_of_le (by have:=World.block_lt_of_cell? _ _ hw114_1;first|rwa [add_block] at this|exact this) GW115.out)|(rw [add_block];exact Nat.ne_of_lt (Nat.lt_of_lt_of_le (by have:=World.block_lt_of_cell? _ _ hw114_1;first|rwa [add_block] at this|exact this) GW115.out))|(show (Addr.add _ _).block≠_;rw [add_block];exact Nat.ne_of_lt (Nat.lt_of_lt_of_le (by have:=World.block_lt_of_cell? _ _ hw114_1;first|rwa [add_block] at this|exact this) GW115.out))|(dsimp only;exact Nat.ne_of_lt (Nat.lt_of_lt_of_le (by have:=World.block_lt_of_cell? _ _ hw114_1;first|rwa [add_block] at this|exact this) GW115.out))) _).trans (((cell_far (p:=⟨gb115,_,none⟩) (by first|exact Nat.ne_of_lt (Nat.lt_of_lt_of_le (by have:=World.block_lt_of_cell? _ _ hw114_1;first|rwa [add_block] at this|exact this) GW115.out)|(rw [add_block];exact Nat.ne_of_lt (Nat.lt_of_lt_of_le (by have:=World.block_lt_of_cell? _ _ hw114_1;first|rwa [add_block] at this|exact this) GW115.out))|(show (Addr.add _ _).block≠_;rw [add_block];exact Nat.ne_of_lt (Nat.lt_of_lt_of_le (by have:=World.block_lt_of_cell? _ _ hw114_1;first|rwa [add_block] at this|exact this) GW115.out))|(dsimp only;exact Nat.ne_of_lt (Nat.lt_of_lt_of_le (by have:=World.block_lt_of_cell? _ _ hw114_1;first|rwa [add_block] at this|exact this) GW115.out))) _).trans (((cell_far (p:=⟨gb115,_,none⟩) (by first|exact Nat.ne_of_lt (Nat.lt_of_lt_of_le (by have:=World.block_lt_of_cell? _ _ hw114_1;first|rwa [add_block] at this|exact this) GW115.out)|(rw [add_block];exact Nat.ne_of_lt (Nat.lt_of_lt_of_le (by have:=World.block_lt_of_cell? _ _ hw114_1;first|rwa [add_block] at this|exact this) GW115.out))|(show (Addr.add _ _).block≠_;rw [add_block];exact Nat.ne_of_lt (Nat.lt_of_lt_of_le (by have:=World.block_lt_of_cell? _ _ hw114_1;first|rwa [add_block] at this|exact this) GW115.out))|(dsimp only;exact Nat.ne_of_lt (Nat.lt_of_lt_of_le (by have:=World.block_lt_of_cell? _ _ hw114_1;first|rwa [add_block] at this|exact this) GW115.out))) _).trans (hHeld.2.2.2.2.2.2.1)))))),((cell_far (p:=⟨gb115,_,none⟩) (by first|exact Nat.ne_of_lt (Nat.lt_of_lt_of_le (by have:=World.block_lt_of_cell? _ _ hw114_2;first|rwa [add_block] at this|exact this) GW115.out)|(rw [add_block];exact Nat.ne_of_lt (Nat.lt_of_lt_of_le (by have:=World.block_lt_of_cell? _ _ hw114_2;first|rwa [add_block] at this|exact this) GW115.out))|(show (Addr.add _ _).block≠_;rw [add_block];exact Nat.ne_of_lt (Nat.lt_of_lt_of_le (by have:=World.block_lt_of_cell? _ _ hw114_2;first|rwa [add_block] at this|exact this) GW115.out))|(dsimp only;exact Nat.ne_of_lt (Nat.lt_of_lt_of_le (by have:=World.block_lt_of_cell? _ _ hw114_2;first|rwa [add_block] at this|exact this) GW115.out))) _).trans (((cell_far (p:=⟨gb115,_,none⟩) (by first|exact Nat.ne_of_lt (Nat.lt_of_lt_of_le (by have:=World.block_lt_of_cell? _ _ hw114_2;first|rwa [add_block] at this|exact this) GW115.out)|(rw [add_block];exact Nat.ne_of_lt (Nat.lt_of_lt_of_le (by have:=World.block_lt_of_cell? _ _ hw114_2;first|rwa [add_block] at this|exact this) GW115.out))|(show (Addr.add _ _).block≠_;rw [add_block];exact Nat.ne_of_lt (Nat.lt_of_lt_of_le (by have:=World.block_lt_of_cell? _ _ hw114_2;first|rwa [add_block] at this|exact this) GW115.out))|(dsimp only;exact Nat.ne_of_lt (Nat.lt_of_lt_of_le (by have:=World.block_lt_of_cell? _ _ hw114_2;first|rwa [add_block] at this|exact this) GW115.out))) _).trans (((cell_far (p:=⟨gb115,_,none⟩) (by first|exact Nat.ne_of_lt (Nat.lt_of_lt_of_le (by have:=World.block_lt_of_cell? _ _ hw114_2;first|rwa [add_block] at this|exact this) GW115.out)|(rw [add_block];exact Nat.ne_of_lt (Nat.lt_of_lt_of_le (by have:=World.block_lt_of_cell? _ _ hw114_2;first|rwa [add_block] at this|exact this) GW115.out))|(show (Addr.add _ _).block≠_;rw [add_block];exact Nat.ne_of_lt (Nat.lt_of_lt_of_le (by have:=World.block_lt_of_cell? _ _ hw114_2;first|rwa [add_block] at this|exact this) GW115.out))|(dsimp only;exact Nat.ne_of_lt (Nat.lt_of_lt_of_le (by have:=World.block_lt_of_cell? _ _ hw114_2;first|rwa [add_block] at this|exact this) GW115.out))) _).trans (hHeld.2.2.2.2.2.2.2))))))⟩ (fun hHeld=>?_)
                  clear hK K
                  refine one_ (i:=15) (N:=none) #[true,true,true,true,true,true,true,true,true,true,true,true,true,true,true,true] rfl rfl (one_of HT_.out zbk) zbq (fun K hK=>?_)
                  have hs97:w93.cell? ⟨gb116,0,none⟩=some (.string (⟨#[]⟩:ByteArray)):=(blk_cell BK116.out 0).trans rfl
                  have hfs97:=blk_frozen BK116.out 0
                  have hns97_0:=NB115_116.out
                  have hms97_0:=NB116_115.out
                  have hs98:w93.cell? ⟨gb116,1,none⟩=some (.int .i64 0):=(blk_cell BK116.out 1).trans rfl
                  have hfs98:=blk_frozen BK116.out 1
                  have hns98_0:=NB115_116.out
                  have hms98_0:=NB116_115.out
                  have hs99:w93.cell? ⟨gb116,2,none⟩=some (.int .i64 0):=(blk_cell BK116.out 2).trans rfl
                  have hfs99:=blk_frozen BK116.out 2
                  have hns99_0:=NB115_116.out
                  have hms99_0:=NB116_115.out
                  refine skip_ (w1:=?_) (by rfl) rfl ?_ ?_
                  rotate_left
                  ·go_simp
                   rfl
                  refine hK.out _ _ ⟨((cell_far (p:=⟨gb116,_,none⟩) zj _).trans (((cell_far (p:=⟨gb116,_,none⟩) zj _).trans (((cell_far (p:=⟨gb116,_,none⟩) zj _).trans (hHeld.1)))))),((cell_far (p:=⟨gb116,_,none⟩) (by first|exact Nat.ne_of_lt (Nat.lt_of_lt_of_le (by have:=World.block_lt_of_cell? _ _ hw112_0;first|rwa [add_block] at this|exact this) GW116.out)|(rw [add_block];exact Nat.ne_of_lt (Nat.lt_of_lt_of_le (by have:=World.block_lt_of_cell? _ _ hw112_0;first|rwa [add_block] at this|exact this) GW116.out))|(show (Addr.add _ _).block≠_;rw [add_block];exact Nat.ne_of_lt (Nat.lt_of_lt_of_le (by have:=World.block_lt_of_cell? _ _ hw112_0;first|rwa [add_block] at this|exact this) GW116.out))|(dsimp only;exact Nat.ne_of_lt (Nat.lt_of_lt_of_le (by have:=World.block_lt_of_cell? _ _ hw112_0;first|rwa [add_block] at this|exact this) GW116.out))) _).trans (((cell_far (p:=⟨gb116,_,none⟩) (by first|exact Nat.ne_of_lt (Nat.lt_of_lt_of_le (by have:=World.block_lt_of_cell? _ _ hw112_0;first|rwa [add_block] at this|exact this) GW116.out)|(rw [add_block];exact Nat.ne_of_lt (Nat.lt_of_lt_of_le (by have:=World.block_lt_of_cell? _ _ hw112_0;first|rwa [add_block] at this|exact this) GW116.out))|(show (Addr.add _ _).block≠_;rw [add_block];exact Nat.ne_of_lt (Nat.lt_of_lt_of_le (by have:=World.block_lt_of_cell? _ _ hw112_0;first|rwa [add_block] at this|exact this) GW116.out))|(dsimp only;exact Nat.ne_of_lt (Nat.lt_of_lt_of_le (by have:=World.block_lt_of_cell? _ _ hw112_0;first|rwa [add_block] at this|exact this) GW116.out))) _).trans (((cell_far (p:=⟨gb116,_,none⟩) (by first|exact Nat.ne_of_lt (Nat.lt_of_lt_of_le (by have:=World.block_lt_of_cell? _ _ hw112_0;first|rwa [add_block] at this|exact this) GW116.out)|(rw [add_block];exact Nat.ne_of_lt (Nat.lt_of_lt_of_le (by have:=World.block_lt_of_cell? _ _ hw112_0;first|rwa [add_block] at this|exact this) GW116.out))|(show (Addr.add _ _).block≠_;rw [add_block];exact Nat.ne_of_lt (Nat.lt_of_lt_of_le (by have:=World.block_lt_of_cell? _ _ hw112_0;first|rwa [add_block] at this|exact this) GW116.out))|(dsimp only;exact Nat.ne_of_lt (Nat.lt_of_lt_of_le (by have:=World.block_lt_of_cell? _ _ hw112_0;first|rwa [add_block] at this|exact this) GW116.out))) _).trans (hHeld.2.1)))))),((cell_far (p:=⟨gb116,_,none⟩) (by first|exact Nat.ne_of_lt (Nat.lt_of_lt_of_le (by have:=World.block_lt_of_cell? _ _ hw112_1;first|rwa [add_block] at this|exact this) GW116.out)|(rw [add_block];exact Nat.ne_of_lt (Nat.lt_of_lt_of_le (by have:=World.block_lt_of_cell? _ _ hw112_1;first|rwa [add_block] at this|exact this) GW116.out))|(show (Addr.add _ _).block≠_;rw [add_block];exact Nat.ne_of_lt (Nat.lt_of_lt_of_le (by have:=World.block_lt_of_cell? _ _ hw112_1;first|rwa [add_block] at this|exact this) GW116.out))|(dsimp only;exact Nat.ne_of_lt (Nat.lt_of_lt_of_le (by have:=World.block_lt_of_cell? _ _ hw112_1;first|rwa [add_block] at this|exact this) GW116.out))) _).trans (((cell_far (p:=⟨gb116,_,none⟩) (by first|exact Nat.ne_of_lt (Nat.lt_of_lt_of_le (by have:=World.block_lt_of_cell? _ _ hw112_1;first|rwa [add_block] at this|exact this) GW116.out)|(rw [add_block];exact Nat.ne_of_lt (Nat.lt_of_lt_of_le (by have:=World.block_lt_of_cell? _ _ hw112_1;first|rwa [add_block] at this|exact this) GW116.out))|(show (Addr.add _ _).block≠_;rw [add_block];exact Nat.ne_of_lt (Nat.lt_of_lt_of_le (by have:=World.block_lt_of_cell? _ _ hw112_1;first|rwa [add_block] at this|exact this) GW116.out))|(dsimp only;exact Nat.ne_of_lt (Nat.lt_of_lt_of_le (by have:=World.block_lt_of_cell? _ _ hw112_1;first|rwa [add_block] at this|exact this) GW116.out))) _).trans (((cell_far (p:=⟨gb116,_,none⟩) (by first|exact Nat.ne_of_lt (Nat.lt_of_lt_of_le (by have:=World.block_lt_of_cell? _ _ hw112_1;first|rwa [add_block] at this|exact this) GW116.out)|(rw [add_block];exact Nat.ne_of_lt (Nat.lt_of_lt_of_le (by have:=World.block_lt_of_cell? _ _ hw112_1;first|rwa [add_block] at this|exact this) GW116.out))|(show (Addr.add _ _).block≠_;rw [add_block];exact Nat.ne_of_lt (Nat.lt_of_lt_of_le (by have:=World.block_lt_of_cell? _ _ hw112_1;first|rwa [add_block] at this|exact this) GW116.out))|(dsimp only;exact Nat.ne_of_lt (Nat.lt_of_lt_of_le (by have:=World.block_lt_of_cell? _ _ hw112_1;first|rwa [add_block] at this|exact this) GW116.out))) _).trans (hHeld.2.2.1)))))),((cell_far (p:=⟨gb116,_,none⟩) (by first|exact Nat.ne_of_lt (Nat.lt_of_lt_of_le (by have:=World.block_lt_of_cell? _ _ hw112_2;first|rwa [add_block] at this|exact this) GW116.out)|(rw [add_block];exact Nat.ne_of_lt (Nat.lt_of_lt_of_le (by have:=World.block_lt_of_cell? _ _ hw112_2;first|rwa [add_block] at this|exact this) GW116.out))|(show (Addr.add _ _).block≠_;rw [add_block];exact Nat.ne_of_lt (Nat.lt_of_lt_of_le (by have:=World.block_lt_of_cell? _ _ hw112_2;first|rwa [add_block] at this|exact this) GW116.out))|(dsimp only;exact Nat.ne_of_lt (Nat.lt_of_lt_of_le (by have:=World.block_lt_of_cell? _ _ hw112_2;first|rwa [add_block] at this|exact this) GW116.out))) _).trans (((cell_far (p:=⟨gb116,_,none⟩) (by first|exact Nat.ne_of_lt (Nat.lt_of_lt_of_le (by have:=World.block_lt_of_cell? _ _ hw112_2;first|rwa [add_block] at this|exact this) GW116.out)|(rw [add_block];exact Nat.ne_of_lt (Nat.lt_of_lt_of_le (by have:=World.block_lt_of_cell? _ _ hw112_2;first|rwa [add_block] at this|exact this) GW116.out))|(show (Addr.add _ _).block≠_;rw [add_block];exact Nat.ne_of_lt (Nat.lt_of_lt_of_le (by have:=World.block_lt_of_cell? _ _ hw112_2;first|rwa [add_block] at this|exact this) GW116.out))|(dsimp only;exact Nat.ne_of_lt (Nat.lt_of_lt_of_le (by have:=World.block_lt_of_cell? _ _ hw112_2;first|rwa [add_block] at this|exact this) GW116.out))) _).trans (((cell_far (p:=⟨gb116,_,none⟩) (by first|exact Nat.ne_of_lt (Nat.lt_of_lt_of_le (by have:=World.block_lt_of_cell? _ _ hw112_2;first|rwa [add_block] at this|exact this) GW116.out)|(rw [add_block];exact Nat.ne_of_lt (Nat.lt_of_lt_of_le (by have:=World.block_lt_of_cell? _ _ hw112_2;first|rwa [add_block] at this|exact this) GW116.out))|(show (Addr.add _ _).block≠_;rw [add_block];exact Nat.ne_of_lt (Nat.lt_of_lt_of_le (by have:=World.block_lt_of_cell? _ _ hw112_2;first|rwa [add_block] at this|exact this) GW116.out))|(dsimp only;exact Nat.ne_of_lt (Nat.lt_of_lt_of_le (by have:=World.block_lt_of_cell? _ _ hw112_2;first|rwa [add_block] at this|exact this) GW116.out))) _).trans (hHeld.2.2.2.1)))))),((cell_far (p:=⟨gb116,_,none⟩) zj _).trans (((cell_far (p:=⟨gb116,_,none⟩) zj _).trans (((cell_far (p:=⟨gb116,_,none⟩) zj _).trans (hHeld.2.2.2.2.1)))))),((cell_far (p:=⟨gb116,_,none⟩) (by first|exact Nat.ne_of_lt (Nat.lt_of_lt_of_le (by have:=World.block_lt_of_cell? _ _ hw114_0;first|rwa [add_block] at this|exact this) GW116.out)|(rw [add_block];exact Nat.ne_of_lt (Nat.lt_of_lt_of_le (by have:=World.block_lt_of_cell? _ _ hw114_0;first|rwa [add_block] at this|exact this) GW116.out))|(show (Addr.add _ _).block≠_;rw [add_block];exact Nat.ne_of_lt (Nat.lt_of_lt_of_le (by have:=World.block_lt_of_cell? _ _ hw114_0;first|rwa [add_block] at this|exact this) GW116.out))|(dsimp only;exact Nat.ne_of_lt (Nat.lt_of_lt_of_le (by have:=World.block_lt_of_cell? _ _ hw114_0;first|rwa [add_block] at this|exact this) GW116.out))) _).trans (((cell_far (p:=⟨gb116,_,none⟩) (by first|exact Nat.ne_of_lt (Nat.lt_of_lt_of_le (by have:=World.block_lt_of_cell? _ _ hw114_0;first|rwa [add_block] at this|exact this) GW116.out)|(rw [add_block];exact Nat.ne_of_lt (Nat.lt_of_lt_of_le (by have:=World.block_lt_of_cell? _ _ hw114_0;first|rwa [add_block] at this|exact this) GW116.out))|(show (Addr.add _ _).block≠_;rw [add_block];exact Nat.ne_of_lt (Nat.lt_of_lt_of_le (by have:=World.block_lt_of_cell? _ _ hw114_0;first|rwa [add_block] at this|exact this) GW116.out))|(dsimp only;exact Nat.ne_of_lt (Nat.lt_of_lt_of_le (by have:=World.block_lt_of_cell? _ _ hw114_0;first|rwa [add_block] at this|exact this) GW116.out))) _).trans (((cell_far (p:=⟨gb116,_,none⟩) (by first|exact Nat.ne_of_lt (Nat.lt_of_lt_of_le (by have:=World.block_lt_of_cell? _ _ hw114_0;first|rwa [add_block] at this|exact this) GW116.out)|(rw [add_block];exact Nat.ne_of_lt (Nat.lt_of_lt_of_le (by have:=World.block_lt_of_cell? _ _ hw114_0;first|rwa [add_block] at this|exact this) GW116.out))|(show (Addr.add _ _).block≠_;rw [add_block];exact Nat.ne_of_lt (Nat.lt_of_lt_of_le (by have:=World.block_lt_of_cell? _ _ hw114_0;first|rwa [add_block] at this|exact this) GW116.out))|(dsimp only;exact Nat.ne_of_lt (Nat.lt_of_lt_of_le (by have:=World.block_lt_of_cell? _ _ hw114_0;first|rwa [add_block] at this|exact this) GW116.out))) _).trans (hHeld.2.2.2.2.2.1)))))),((cell_far (p:=⟨gb116,_,none⟩) (by first|exact Nat.ne_of_lt (Nat.lt_of_lt_of_le (by have:=World.block_lt_of_cell? _ _ hw114_1;first|rwa [add_block] at this|exact this) GW116.out)|(rw [add_block];exact Nat.ne_of_lt (Nat.lt_of_lt_of_le (by have:=World.block_lt_of_cell? _ _ hw114_1;first|rwa [add_block] at this|exact this) GW116.out))|(show (Addr.add _ _).block≠_;rw [add_block];exact Nat.ne_of_lt (Nat.lt_of_lt_of_le (by have:=World.block_lt_of_cell? _ _ hw114_1;first|rwa [add_block] at this|exact this) GW116.out))|(dsimp only;exact Nat.ne_of_lt (Nat.lt_of_lt_of_le (by have:=World.block_lt_of_cell? _ _ hw114_1;first|rwa [add_block] at this|exact this) GW116.out))) _).trans (((cell_far (p:=⟨gb116,_,none⟩) (by first|exact Nat.ne_of_lt (Nat.lt_of_lt_of_le (by have:=World.block_lt_of_cell? _ _ hw114_1;first|rwa [add_block] at this|exact this) GW116.out)|(rw [add_block];exact Nat.ne_of_lt (Nat.lt_of_lt_of_le (by have:=World.block_lt_of_cell? _ _ hw114_1;first|rwa [add_block] at this|exact this) GW116.out))|(show (Addr.add _ _).block≠_;rw [add_block];exact Nat.ne_of_lt (Nat.lt_of_lt_of_le (by have:=World.block_lt_of_cell? _ _ hw114_1;first|rwa [add_block] at this|exact this) GW116.out))|(dsimp only;exact Nat.ne_of_lt (Nat.lt_of_lt_of_le (by have:=World.block_lt_of_cell? _ _ hw114_1;first|rwa [add_block] at this|exact this) GW116.out))) _).trans (((cell_far (p:=⟨gb116,_,none⟩) (by first|exact Nat.ne_of_lt (Nat.lt_of_lt_of_le (by have:=World.block_lt_of_cell? _ _ hw114_1;first|rwa [add_block] at this|exact this) GW116.out)|(rw [add_block];exact Nat.ne_of_lt (Nat.lt_of_lt_of_le (by have:=World.block_lt_of_cell? _ _ hw114_1;first|rwa [add_block] at this|exact this) GW116.out))|(show (Addr.add _ _).block≠_;rw [add_block];exact Nat.ne_of_lt (Nat.lt_of_lt_of_le (by have:=World.block_lt_of_cell? _ _ hw114_1;first|rwa [add_block] at this|exact this) GW116.out))|(dsimp only;exact Nat.ne_of_lt (Nat.lt_of_lt_of_le (by have:=World.block_lt_of_cell? _ _ hw114_1;first|rwa [add_block] at this|exact this) GW116.out))) _).trans (hHeld.2.2.2.2.2.2.1)))))),((cell_far (p:=⟨gb116,_,none⟩) (by first|exact Nat.ne_of_lt (Nat.lt_of_lt_of_le (by have:=World.block_lt_of_cell? _ _ hw114_2;first|rwa [add_block] at this|exact this) GW116.out)|(rw [add_block];exact Nat.ne_of_lt (Nat.lt_of_lt_of_le (by have:=World.block_lt_of_cell? _ _ hw114_2;first|rwa [add_block] at this|exact this) GW116.out))|(show (Addr.add _ _).block≠_;rw [add_block];exact Nat.ne_of_lt (Nat.lt_of_lt_of_le (by have:=World.block_lt_of_cell? _ _ hw114_2;first|rwa [add_block] at this|exact this) GW116.out))|(dsimp only;exact Nat.ne_of_lt (Nat.lt_of_lt_of_le (by have:=World.block_lt_of_cell? _ _ hw114_2;first|rwa [add_block] at this|exact this) GW116.out))) _).trans (((cell_far (p:=⟨gb116,_,none⟩) (by first|exact Nat.ne_of_lt (Nat.lt_of_lt_of_le (by have:=World.block_lt_of_cell? _ _ hw114_2;first|rwa [add_block] at this|exact this) GW116.out)|(rw [add_block];exact Nat.ne_of_lt (Nat.lt_of_lt_of_le (by have:=World.block_lt_of_cell? _ _ hw114_2;first|rwa [add_block] at this|exact this) GW116.out))|(show (Addr.add _ _).block≠_;rw [add_block];exact Nat.ne_of_lt (Nat.lt_of_lt_of_le (by have:=World.block_lt_of_cell? _ _ hw114_2;first|rwa [add_block] at this|exact this) GW116.out))|(dsimp only;exact Nat.ne_of_lt (Nat.lt_of_lt_of_le (by have:=World.block_lt_of_cell? _ _ hw114_2;first|rwa [add_block] at this|exact this) GW116.out))) _).trans (((cell_far (p:=⟨gb116,_,none⟩) (by first|exact Nat.ne_of_lt (Nat.lt_of_lt_of_le (by have:=World.block_lt_of_cell? _ _ hw114_2;first|rwa [add_block] at this|exact this) GW116.out)|(rw [add_block];exact Nat.ne_of_lt (Nat.lt_of_lt_of_le (by have:=World.block_lt_of_cell? _ _ hw114_2;first|rwa [add_block] at this|exact this) GW116.out))|(show (Addr.add _ _).block≠_;rw [add_block];exact Nat.ne_of_lt (Nat.lt_of_lt_of_le (by have:=World.block_lt_of_cell? _ _ hw114_2;first|rwa [add_block] at this|exact this) GW116.out))|(dsimp only;exact Nat.ne_of_lt (Nat.lt_of_lt_of_le (by have:=World.block_lt_of_cell? _ _ hw114_2;first|rwa [add_block] at this|exact this) GW116.out))) _).trans (hHeld.2.2.2.2.2.2.2))))))⟩ (fun hHeld=>?_)
                  clear hK K
                  refine done_ (done_of HT_.out zbk) ?_
                  try go_wp2
                  have n0_:Aside0 (Kd.R k127 127 ((((((w93.setCell ⟨gb115,0,none⟩ (.string ((rd_T125 l1 (rd (rd_L6 t107 x35_2) 0)).f0))).setCell ⟨gb115,1,none⟩ (.string ((rd_T125 l1 (rd (rd_L6 t107 x35_2) 0)).f1))).setCell ⟨gb115,2,none⟩ (.int .i64 ((rd_T125 l1 (rd (rd_L6 t107 x35_2) 0)).f2))).setCell ⟨gb116,0,none⟩ (.string ((rd_T127 l0 (rd (rd_L6 t107 x35_2) 1)).f0))).setCell ⟨gb116,1,none⟩ (.int .i64 ((rd_T127 l0 (rd (rd_L6 t107 x35_2) 1)).f1))).setCell ⟨gb116,2,none⟩ (.int .i64 ((rd_T127 l0 (rd (rd_L6 t107 x35_2) 1)).f2))) w.heap.size (fun k_=>k_≠gb116) u8 x8_2):=⟨zas⟩
                  have n1_:Aside0 (Kd.S (Kd.slice 2 (Kd.int .i64)) 126 ((((((w93.setCell ⟨gb115,0,none⟩ (.string ((rd_T125 l1 (rd (rd_L6 t107 x35_2) 0)).f0))).setCell ⟨gb115,1,none⟩ (.string ((rd_T125 l1 (rd (rd_L6 t107 x35_2) 0)).f1))).setCell ⟨gb115,2,none⟩ (.int .i64 ((rd_T125 l1 (rd (rd_L6 t107 x35_2) 0)).f2))).setCell ⟨gb116,0,none⟩ (.string ((rd_T127 l0 (rd (rd_L6 t107 x35_2) 1)).f0))).setCell ⟨gb116,1,none⟩ (.int .i64 ((rd_T127 l0 (rd (rd_L6 t107 x35_2) 1)).f1))).setCell ⟨gb116,2,none⟩ (.int .i64 ((rd_T127 l0 (rd (rd_L6 t107 x35_2) 1)).f2))) w.heap.size (fun _=>True) (.slice (some ad110) t107.length co18) t107):=⟨zau⟩
                  have n2_:Aside0 (Kd.R (Kd.int .i64) 2 ((((((w93.setCell ⟨gb115,0,none⟩ (.string ((rd_T125 l1 (rd (rd_L6 t107 x35_2) 0)).f0))).setCell ⟨gb115,1,none⟩ (.string ((rd_T125 l1 (rd (rd_L6 t107 x35_2) 0)).f1))).setCell ⟨gb115,2,none⟩ (.int .i64 ((rd_T125 l1 (rd (rd_L6 t107 x35_2) 0)).f2))).setCell ⟨gb116,0,none⟩ (.string ((rd_T127 l0 (rd (rd_L6 t107 x35_2) 1)).f0))).setCell ⟨gb116,1,none⟩ (.int .i64 ((rd_T127 l0 (rd (rd_L6 t107 x35_2) 1)).f1))).setCell ⟨gb116,2,none⟩ (.int .i64 ((rd_T127 l0 (rd (rd_L6 t107 x35_2) 1)).f2))) w.heap.size (fun k_=>some k_≠(.slice (some ad110) t107.length co18:Value).ownBlock) (.slice (some ad111) (rd_L6 t107 x35_2).length c110_0) (rd_L6 t107 x35_2)):=⟨zat⟩
                  have n3_:Aside0 (((((((w93.setCell ⟨gb115,0,none⟩ (.string ((rd_T125 l1 (rd (rd_L6 t107 x35_2) 0)).f0))).setCell ⟨gb115,1,none⟩ (.string ((rd_T125 l1 (rd (rd_L6 t107 x35_2) 0)).f1))).setCell ⟨gb115,2,none⟩ (.int .i64 ((rd_T125 l1 (rd (rd_L6 t107 x35_2) 0)).f2))).setCell ⟨gb116,0,none⟩ (.string ((rd_T127 l0 (rd (rd_L6 t107 x35_2) 1)).f0))).setCell ⟨gb116,1,none⟩ (.int .i64 ((rd_T127 l0 (rd (rd_L6 t107 x35_2) 1)).f1))).setCell ⟨gb116,2,none⟩ (.int .i64 ((rd_T127 l0 (rd (rd_L6 t107 x35_2) 1)).f2))).heap[gb115]?=some (.cells #[.string ((rd_T125 l1 (rd (rd_L6 t107 x35_2) 0)).f0),.string ((rd_T125 l1 (rd (rd_L6 t107 x35_2) 0)).f1),.int .i64 ((rd_T125 l1 (rd (rd_L6 t107 x35_2) 0)).f2)] 125 (0,0))):=⟨zx⟩
                  have n4_:Aside0 (((((((w93.setCell ⟨gb115,0,none⟩ (.string ((rd_T125 l1 (rd (rd_L6 t107 x35_2) 0)).f0))).setCell ⟨gb115,1,none⟩ (.string ((rd_T125 l1 (rd (rd_L6 t107 x35_2) 0)).f1))).setCell ⟨gb115,2,none⟩ (.int .i64 ((rd_T125 l1 (rd (rd_L6 t107 x35_2) 0)).f2))).setCell ⟨gb116,0,none⟩ (.string ((rd_T127 l0 (rd (rd_L6 t107 x35_2) 1)).f0))).setCell ⟨gb116,1,none⟩ (.int .i64 ((rd_T127 l0 (rd (rd_L6 t107 x35_2) 1)).f1))).setCell ⟨gb116,2,none⟩ (.int .i64 ((rd_T127 l0 (rd (rd_L6 t107 x35_2) 1)).f2))).heap[gb116]?=some (.cells #[.string ((rd_T127 l0 (rd (rd_L6 t107 x35_2) 1)).f0),.int .i64 ((rd_T127 l0 (rd (rd_L6 t107 x35_2) 1)).f1),.int .i64 ((rd_T127 l0 (rd (rd_L6 t107 x35_2) 1)).f2)] 127 (0,0))):=⟨zab⟩
                  have n5_:Aside0 (Below w.heap.size w ((((((w93.setCell ⟨gb115,0,none⟩ (.string ((rd_T125 l1 (rd (rd_L6 t107 x35_2) 0)).f0))).setCell ⟨gb115,1,none⟩ (.string ((rd_T125 l1 (rd (rd_L6 t107 x35_2) 0)).f1))).setCell ⟨gb115,2,none⟩ (.int .i64 ((rd_T125 l1 (rd (rd_L6 t107 x35_2) 0)).f2))).setCell ⟨gb116,0,none⟩ (.string ((rd_T127 l0 (rd (rd_L6 t107 x35_2) 1)).f0))).setCell ⟨gb116,1,none⟩ (.int .i64 ((rd_T127 l0 (rd (rd_L6 t107 x35_2) 1)).f1))).setCell ⟨gb116,2,none⟩ (.int .i64 ((rd_T127 l0 (rd (rd_L6 t107 x35_2) 1)).f2)))):=⟨zn⟩
                  (try clear HO_8)
                  (try clear HO_33)
                  (try clear HL110_0)
                  (try clear BK115)
                  (try clear BK116)
                  (try clear HB)
                  generalize ((((((w93.setCell ⟨gb115,0,none⟩ (.string ((rd_T125 l1 (rd (rd_L6 t107 x35_2) 0)).f0))).setCell ⟨gb115,1,none⟩ (.string ((rd_T125 l1 (rd (rd_L6 t107 x35_2) 0)).f1))).setCell ⟨gb115,2,none⟩ (.int .i64 ((rd_T125 l1 (rd (rd_L6 t107 x35_2) 0)).f2))).setCell ⟨gb116,0,none⟩ (.string ((rd_T127 l0 (rd (rd_L6 t107 x35_2) 1)).f0))).setCell ⟨gb116,1,none⟩ (.int .i64 ((rd_T127 l0 (rd (rd_L6 t107 x35_2) 1)).f1))).setCell ⟨gb116,2,none⟩ (.int .i64 ((rd_T127 l0 (rd (rd_L6 t107 x35_2) 1)).f2)))=w100 at n0_ n1_ n2_ n3_ n4_ n5_ ⊢
                  have HO_8:=n0_
                  have HO_33:=n1_
                  have HL110_0:=n2_
                  have BK115:=n3_
                  have BK116:=n4_
                  have HB:=n5_
                  clear n0_ n1_ n2_ n3_ n4_ n5_
                  replace HO_8:=Aside0.mk (Kd.R_drew HO_8.out)
                  replace HO_33:=Aside0.mk (Kd.S_drew HO_33.out)
                  replace HL110_0:=Aside0.mk (Kd.R_drew HL110_0.out)
                  replace BK115:=Aside0.mk (blk_drew BK115.out)
                  replace BK116:=Aside0.mk (blk_drew BK116.out)
                  replace HB:=Aside0.mk (below_drew1 HB.out)
                  refine start_ (n:=11) (S:=fun w'=>w'.cell? ⟨gb115,0,none⟩=some (.string ((rd_T125 l1 (rd (rd_L6 t107 x35_2) 0)).f0))∧w'.cell? ⟨gb115,1,none⟩=some (.string ((rd_T125 l1 (rd (rd_L6 t107 x35_2) 0)).f1))∧w'.cell? ⟨gb115,2,none⟩=some (.int .i64 ((rd_T125 l1 (rd (rd_L6 t107 x35_2) 0)).f2))∧w'.cell? ⟨gb116,0,none⟩=some (.string ((rd_T127 l0 (rd (rd_L6 t107 x35_2) 1)).f0))∧w'.cell? ⟨gb116,1,none⟩=some (.int .i64 ((rd_T127 l0 (rd (rd_L6 t107 x35_2) 1)).f1))∧w'.cell? ⟨gb116,2,none⟩=some (.int .i64 ((rd_T127 l0 (rd (rd_L6 t107 x35_2) 1)).f2))) (ds:=[]) #[false,false,false,false,false,false,false,false,false,false,false] zbk rfl rfl ⟨(blk_cell BK115.out 0).trans rfl,(blk_cell BK115.out 1).trans rfl,(blk_cell BK115.out 2).trans rfl,(blk_cell BK116.out 0).trans rfl,(blk_cell BK116.out 1).trans rfl,(blk_cell BK116.out 2).trans rfl⟩ (fun hHeld=>?_);refine with_tabW impl_AddAnswers.tab10 impl_AddAnswers.bits10 (fun HT_ HW_=>?_)
                  generalize w100.drew=w101 at HO_8 HO_33 HL110_0 BK115 BK116 HB hHeld ⊢
                  refine pA 0 51 ?_
                  refine pA 4 55 ?_
                  refine pA 7 58 ?_
                  refine pT 1 52 rfl zao ?_
                  refine pT 2 53 rfl zao ?_
                  refine pT 5 56 rfl zao ?_
                  refine join_ (σ:=Nat) 1 #[true,true,true,true,true,true,true,true,true,true,false] (fun s_=>[(54,.int .i64 t117),(13,.pointer (some ⟨s_,0,none⟩)),(57,.int .i64 (wrap64 (t117+((rd_T125 l1 (rd (rd_L6 t107 x35_2) 0)).f2)))),(59,.agg #[.string ((rd_T125 l1 (rd (rd_L6 t107 x35_2) 0)).f1),.int .i64 (wrap64 (t117+((rd_T125 l1 (rd (rd_L6 t107 x35_2) 0)).f2))),.int .i64 a2])]) (fun s_ w'=>(w'.cell? ⟨gb115,0,none⟩=some (.string ((rd_T125 l1 (rd (rd_L6 t107 x35_2) 0)).f0))∧w'.cell? ⟨gb115,1,none⟩=some (.string ((rd_T125 l1 (rd (rd_L6 t107 x35_2) 0)).f1))∧w'.cell? ⟨gb115,2,none⟩=some (.int .i64 ((rd_T125 l1 (rd (rd_L6 t107 x35_2) 0)).f2))∧w'.cell? ⟨gb116,0,none⟩=some (.string ((rd_T127 l0 (rd (rd_L6 t107 x35_2) 1)).f0))∧w'.cell? ⟨gb116,1,none⟩=some (.int .i64 ((rd_T127 l0 (rd (rd_L6 t107 x35_2) 1)).f1))∧w'.cell? ⟨gb116,2,none⟩=some (.int .i64 ((rd_T127 l0 (rd (rd_L6 t107 x35_2) 1)).f2)))∧(Kd.R (Kd.int .i64) 2 w' w.heap.size (fun k_=>some k_≠(.slice (some ad110) t107.length co18:Value).ownBlock) (.slice (some ad111) (rd_L6 t107 x35_2).length c110_0) (rd_L6 t107 x35_2))∧(Kd.S (Kd.slice 2 (Kd.int .i64)) 126 w' w.heap.size (fun _=>True) (.slice (some ad110) t107.length co18) t107)∧(Kd.R k127 127 w' w.heap.size (fun k_=>k_≠gb116∧k_≠s_) u8 x8_2)∧(w'.heap[gb115]?=some (.cells #[.string ((rd_T125 l1 (rd (rd_L6 t107 x35_2) 0)).f0),.string ((rd_T125 l1 (rd (rd_L6 t107 x35_2) 0)).f1),.int .i64 ((rd_T125 l1 (rd (rd_L6 t107 x35_2) 0)).f2)] 125 (0,0)))∧(w'.heap[gb116]?=some (.cells #[.string ((rd_T127 l0 (rd (rd_L6 t107 x35_2) 1)).f0),.int .i64 ((rd_T127 l0 (rd (rd_L6 t107 x35_2) 1)).f1),.int .i64 ((rd_T127 l0 (rd (rd_L6 t107 x35_2) 1)).f2)] 127 (0,0)))∧(w'.heap[s_]?=some (.cells #[.string (⟨#[]⟩:ByteArray),.int .i64 0,.int .i64 0] 127 (0,0)))∧(w.heap.size≤s_)∧(w.heap.size≤s_)∧(gb115≠s_)∧(s_≠gb115)∧(gb116≠s_)∧(s_≠gb116)∧(Below w.heap.size w w')) ?_ ?_
                  rotate_left
                  ·intro hCont
                   refine two_ (i:=3) (j:=9) (Ni:=some 54) (Nj:=some 13) #[true,true,true,true,true,true,false,true,false,false,false] #[true,true,true,false,true,true,false,true,false,true,false] rfl rfl rfl rfl (two_of HT_.out zbk) zbq zbq (fun K hK=>?_) (fun K hK=>?_)
                   ·skip
                    refine goes_ Try.func99 zbk rfl #[.agg #[.string ((rd_T127 l0 (rd (rd_L6 t107 x35_2) 1)).f0),.int .i64 ((rd_T127 l0 (rd (rd_L6 t107 x35_2) 1)).f1),.int .i64 ((rd_T127 l0 (rd (rd_L6 t107 x35_2) 1)).f2)]] (by rfl) rfl rfl zc ?_
                    with_reducible refine (impl_Turn_end.calls ((rd_T127 l0 (rd (rd_L6 t107 x35_2) 1)).f0) ((rd_T127 l0 (rd (rd_L6 t107 x35_2) 1)).f1) ((rd_T127 l0 (rd (rd_L6 t107 x35_2) 1)).f2) t117 _ A28.out).mono ?_
                    rintro e w102 ⟨rfl,hb⟩
                    refine ⟨_,rfl,?_⟩
                    replace HO_8:=Aside0.mk (Kd.R_below zv hb)
                    replace HO_33:=Aside0.mk (Kd.S_below zu hb)
                    replace HL110_0:=Aside0.mk (Kd.R_below zaa hb)
                    replace BK115:=Aside0.mk (blk_below (g:=gb115) (o:=.cells #[.string ((rd_T125 l1 (rd (rd_L6 t107 x35_2) 0)).f0),.string ((rd_T125 l1 (rd (rd_L6 t107 x35_2) 0)).f1),.int .i64 ((rd_T125 l1 (rd (rd_L6 t107 x35_2) 0)).f2)] 125 (0,0)) zl hb)
                    replace BK116:=Aside0.mk (blk_below (g:=gb116) (o:=.cells #[.string ((rd_T127 l0 (rd (rd_L6 t107 x35_2) 1)).f0),.int .i64 ((rd_T127 l0 (rd (rd_L6 t107 x35_2) 1)).f1),.int .i64 ((rd_T127 l0 (rd (rd_L6 t107 x35_2) 1)).f2)] 127 (0,0)) zg hb)
                    replace HB:=Aside0.mk (below_step zn hb)
                    (try clear hb)
                    (try clear hb2)
                    (try clear hk)
                    (try clear hi)
                    refine hK.out _ _ ⟨(blk_cell BK115.out 0).trans rfl,(blk_cell BK115.out 1).trans rfl,(blk_cell BK115.out 2).trans rfl,(blk_cell BK116.out 0).trans rfl,(blk_cell BK116.out 1).trans rfl,(blk_cell BK116.out 2).trans rfl⟩ (fun hHeld=>?_)
                    clear hK K
                    refine pN 54 ?_
                    refine pA 6 57 ?_
                    refine pA 8 59 ?_
                    refine one_ (i:=9) (N:=some 13) #[true,true,true,true,true,true,true,true,true,true,false] rfl rfl (one_of HT_.out zbk) zbq (fun K hK=>?_)
                    refine box_step ?hg (N:=13) ?hd (cs:=#[.string (⟨#[]⟩:ByteArray),.int .i64 0,.int .i64 0]) (t:=127) ?hr ?_;(case hd=>rfl);(case hg=>rfl);(case hr=>exact zt)
                    intro gb118 hg w103 hbox hb
                    have n0_:=Aside0.mk (Kd.R_below (Kd.R_elderB zv gb118 (Nat.le_of_eq hg.symm)) hb)
                    have n1_:=Aside0.mk (Kd.S_below zu hb)
                    have n2_:=Aside0.mk (Kd.R_below zaa hb)
                    have n3_:=Aside0.mk (blk_below (g:=gb115) (o:=.cells #[.string ((rd_T125 l1 (rd (rd_L6 t107 x35_2) 0)).f0),.string ((rd_T125 l1 (rd (rd_L6 t107 x35_2) 0)).f1),.int .i64 ((rd_T125 l1 (rd (rd_L6 t107 x35_2) 0)).f2)] 125 (0,0)) zl hb)
                    have n4_:=Aside0.mk (blk_below (g:=gb116) (o:=.cells #[.string ((rd_T127 l0 (rd (rd_L6 t107 x35_2) 1)).f0),.int .i64 ((rd_T127 l0 (rd (rd_L6 t107 x35_2) 1)).f1),.int .i64 ((rd_T127 l0 (rd (rd_L6 t107 x35_2) 1)).f2)] 127 (0,0)) zg hb)
                    have n5_:=Aside0.mk (below_step zn hb)
                    have n6_:=Aside0.mk (hbox)
                    have n7_:=Aside0.mk ((by rw [hg];exact (below_size zn):w.heap.size≤gb118))
                    have n8_:=Aside0.mk ((by rw [hg];exact (below_size zn):w.heap.size≤gb118))
                    have n9_:=Aside0.mk ((by rw [hg];exact Nat.ne_of_lt (blk_lt (g:=gb115) (o:=.cells #[.string ((rd_T125 l1 (rd (rd_L6 t107 x35_2) 0)).f0),.string ((rd_T125 l1 (rd (rd_L6 t107 x35_2) 0)).f1),.int .i64 ((rd_T125 l1 (rd (rd_L6 t107 x35_2) 0)).f2)] 125 (0,0)) zl):gb115≠gb118))
                    have n10_:=Aside0.mk ((by rw [hg];exact Nat.ne_of_gt (blk_lt (g:=gb115) (o:=.cells #[.string ((rd_T125 l1 (rd (rd_L6 t107 x35_2) 0)).f0),.string ((rd_T125 l1 (rd (rd_L6 t107 x35_2) 0)).f1),.int .i64 ((rd_T125 l1 (rd (rd_L6 t107 x35_2) 0)).f2)] 125 (0,0)) zl):gb118≠gb115))
                    have n11_:=Aside0.mk ((by rw [hg];exact Nat.ne_of_lt (blk_lt (g:=gb116) (o:=.cells #[.string ((rd_T127 l0 (rd (rd_L6 t107 x35_2) 1)).f0),.int .i64 ((rd_T127 l0 (rd (rd_L6 t107 x35_2) 1)).f1),.int .i64 ((rd_T127 l0 (rd (rd_L6 t107 x35_2) 1)).f2)] 127 (0,0)) zg):gb116≠gb118))
                    have n12_:=Aside0.mk ((by rw [hg];exact Nat.ne_of_gt (blk_lt (g:=gb116) (o:=.cells #[.string ((rd_T127 l0 (rd (rd_L6 t107 x35_2) 1)).f0),.int .i64 ((rd_T127 l0 (rd (rd_L6 t107 x35_2) 1)).f1),.int .i64 ((rd_T127 l0 (rd (rd_L6 t107 x35_2) 1)).f2)] 127 (0,0)) zg):gb118≠gb116))
                    clear HO_8
                    clear HO_33
                    clear HL110_0
                    clear BK115
                    clear BK116
                    clear HB
                    have HO_8:=n0_
                    have HO_33:=n1_
                    have HL110_0:=n2_
                    have BK115:=n3_
                    have BK116:=n4_
                    have HB:=n5_
                    have BK118:=n6_
                    have GW118:=n7_
                    have GE118:=n8_
                    have NB115_118:=n9_
                    have NB118_115:=n10_
                    have NB116_118:=n11_
                    have NB118_116:=n12_
                    clear n0_ n1_ n2_ n3_ n4_ n5_ n6_ n7_ n8_ n9_ n10_ n11_ n12_
                    clear hb hbox hg
                    refine hK.out _ _ ⟨(blk_cell BK115.out 0).trans rfl,(blk_cell BK115.out 1).trans rfl,(blk_cell BK115.out 2).trans rfl,(blk_cell BK116.out 0).trans rfl,(blk_cell BK116.out 1).trans rfl,(blk_cell BK116.out 2).trans rfl⟩ (fun hHeld=>?_)
                    clear hK K
                    refine pN 13 ?_
                    exact norm_ zcq (hCont (gb118) _ ⟨hHeld,zaa,zu,zv,zl,zg,zbp,GW118.out,GE118.out,NB115_118.out,NB118_115.out,NB116_118.out,NB118_116.out,zo⟩)
                   ·skip
                    refine box_step ?hg (N:=13) ?hd (cs:=#[.string (⟨#[]⟩:ByteArray),.int .i64 0,.int .i64 0]) (t:=127) ?hr ?_;(case hd=>rfl);(case hg=>rfl);(case hr=>exact zt)
                    intro gb118 hg w102 hbox hb
                    have n0_:=Aside0.mk (Kd.R_below (Kd.R_elderB zv gb118 (Nat.le_of_eq hg.symm)) hb)
                    have n1_:=Aside0.mk (Kd.S_below zu hb)
                    have n2_:=Aside0.mk (Kd.R_below zaa hb)
                    have n3_:=Aside0.mk (blk_below (g:=gb115) (o:=.cells #[.string ((rd_T125 l1 (rd (rd_L6 t107 x35_2) 0)).f0),.string ((rd_T125 l1 (rd (rd_L6 t107 x35_2) 0)).f1),.int .i64 ((rd_T125 l1 (rd (rd_L6 t107 x35_2) 0)).f2)] 125 (0,0)) zl hb)
                    have n4_:=Aside0.mk (blk_below (g:=gb116) (o:=.cells #[.string ((rd_T127 l0 (rd (rd_L6 t107 x35_2) 1)).f0),.int .i64 ((rd_T127 l0 (rd (rd_L6 t107 x35_2) 1)).f1),.int .i64 ((rd_T127 l0 (rd (rd_L6 t107 x35_2) 1)).f2)] 127 (0,0)) zg hb)
                    have n5_:=Aside0.mk (below_step zn hb)
                    have n6_:=Aside0.mk (hbox)
                    have n7_:=Aside0.mk ((by rw [hg];exact (below_size zn):w.heap.size≤gb118))
                    have n8_:=Aside0.mk ((by rw [hg];exact (below_size zn):w.heap.size≤gb118))
                    have n9_:=Aside0.mk ((by rw [hg];exact Nat.ne_of_lt (blk_lt (g:=gb115) (o:=.cells #[.string ((rd_T125 l1 (rd (rd_L6 t107 x35_2) 0)).f0),.string ((rd_T125 l1 (rd (rd_L6 t107 x35_2) 0)).f1),.int .i64 ((rd_T125 l1 (rd (rd_L6 t107 x35_2) 0)).f2)] 125 (0,0)) zl):gb115≠gb118))
                    have n10_:=Aside0.mk ((by rw [hg];exact Nat.ne_of_gt (blk_lt (g:=gb115) (o:=.cells #[.string ((rd_T125 l1 (rd (rd_L6 t107 x35_2) 0)).f0),.string ((rd_T125 l1 (rd (rd_L6 t107 x35_2) 0)).f1),.int .i64 ((rd_T125 l1 (rd (rd_L6 t107 x35_2) 0)).f2)] 125 (0,0)) zl):gb118≠gb115))
                    have n11_:=Aside0.mk ((by rw [hg];exact Nat.ne_of_lt (blk_lt (g:=gb116) (o:=.cells #[.string ((rd_T127 l0 (rd (rd_L6 t107 x35_2) 1)).f0),.int .i64 ((rd_T127 l0 (rd (rd_L6 t107 x35_2) 1)).f1),.int .i64 ((rd_T127 l0 (rd (rd_L6 t107 x35_2) 1)).f2)] 127 (0,0)) zg):gb116≠gb118))
                    have n12_:=Aside0.mk ((by rw [hg];exact Nat.ne_of_gt (blk_lt (g:=gb116) (o:=.cells #[.string ((rd_T127 l0 (rd (rd_L6 t107 x35_2) 1)).f0),.int .i64 ((rd_T127 l0 (rd (rd_L6 t107 x35_2) 1)).f1),.int .i64 ((rd_T127 l0 (rd (rd_L6 t107 x35_2) 1)).f2)] 127 (0,0)) zg):gb118≠gb116))
                    clear HO_8
                    clear HO_33
                    clear HL110_0
                    clear BK115
                    clear BK116
                    clear HB
                    have HO_8:=n0_
                    have HO_33:=n1_
                    have HL110_0:=n2_
                    have BK115:=n3_
                    have BK116:=n4_
                    have HB:=n5_
                    have BK118:=n6_
                    have GW118:=n7_
                    have GE118:=n8_
                    have NB115_118:=n9_
                    have NB118_115:=n10_
                    have NB116_118:=n11_
                    have NB118_116:=n12_
                    clear n0_ n1_ n2_ n3_ n4_ n5_ n6_ n7_ n8_ n9_ n10_ n11_ n12_
                    clear hb hbox hg
                    refine hK.out _ _ ⟨(blk_cell BK115.out 0).trans rfl,(blk_cell BK115.out 1).trans rfl,(blk_cell BK115.out 2).trans rfl,(blk_cell BK116.out 0).trans rfl,(blk_cell BK116.out 1).trans rfl,(blk_cell BK116.out 2).trans rfl⟩ (fun hHeld=>?_)
                    clear hK K
                    refine pN 13 ?_
                    refine one_ (i:=3) (N:=some 54) #[true,true,true,true,true,true,false,true,false,true,false] rfl rfl (one_of HT_.out zbk) zbq (fun K hK=>?_)
                    refine goes_ Try.func99 zbk rfl #[.agg #[.string ((rd_T127 l0 (rd (rd_L6 t107 x35_2) 1)).f0),.int .i64 ((rd_T127 l0 (rd (rd_L6 t107 x35_2) 1)).f1),.int .i64 ((rd_T127 l0 (rd (rd_L6 t107 x35_2) 1)).f2)]] (by rfl) rfl rfl zc ?_
                    with_reducible refine (impl_Turn_end.calls ((rd_T127 l0 (rd (rd_L6 t107 x35_2) 1)).f0) ((rd_T127 l0 (rd (rd_L6 t107 x35_2) 1)).f1) ((rd_T127 l0 (rd (rd_L6 t107 x35_2) 1)).f2) t117 _ A28.out).mono ?_
                    rintro e w103 ⟨rfl,hb⟩
                    refine ⟨_,rfl,?_⟩
                    replace HO_8:=Aside0.mk (Kd.R_below zv hb)
                    replace HO_33:=Aside0.mk (Kd.S_below zu hb)
                    replace HL110_0:=Aside0.mk (Kd.R_below zaa hb)
                    replace BK115:=Aside0.mk (blk_below (g:=gb115) (o:=.cells #[.string ((rd_T125 l1 (rd (rd_L6 t107 x35_2) 0)).f0),.string ((rd_T125 l1 (rd (rd_L6 t107 x35_2) 0)).f1),.int .i64 ((rd_T125 l1 (rd (rd_L6 t107 x35_2) 0)).f2)] 125 (0,0)) zl hb)
                    replace BK116:=Aside0.mk (blk_below (g:=gb116) (o:=.cells #[.string ((rd_T127 l0 (rd (rd_L6 t107 x35_2) 1)).f0),.int .i64 ((rd_T127 l0 (rd (rd_L6 t107 x35_2) 1)).f1),.int .i64 ((rd_T127 l0 (rd (rd_L6 t107 x35_2) 1)).f2)] 127 (0,0)) zg hb)
                    replace BK118:=Aside0.mk (blk_below (g:=gb118) (o:=.cells #[.string (⟨#[]⟩:ByteArray),.int .i64 0,.int .i64 0] 127 (0,0)) zbp hb)
                    replace HB:=Aside0.mk (below_step zo hb)
                    (try clear hb)
                    (try clear hb2)
                    (try clear hk)
                    (try clear hi)
                    refine hK.out _ _ ⟨(blk_cell BK115.out 0).trans rfl,(blk_cell BK115.out 1).trans rfl,(blk_cell BK115.out 2).trans rfl,(blk_cell BK116.out 0).trans rfl,(blk_cell BK116.out 1).trans rfl,(blk_cell BK116.out 2).trans rfl⟩ (fun hHeld=>?_)
                    clear hK K
                    refine pN 54 ?_
                    refine pA 6 57 ?_
                    refine pA 8 59 ?_
                    exact norm_ zcq (hCont (gb118) _ ⟨hHeld,zaa,zu,zv,zl,zg,zbp,GW118.out,GE118.out,NB115_118.out,NB118_115.out,NB116_118.out,NB118_116.out,zo⟩)
                  rintro gb118 w104 ⟨hS_,h0_,h1_,h2_,h3_,h4_,h5_,h6_,h7_,h8_,h9_,h10_,h11_,h12_⟩
                  have n0_:Aside0 (Kd.R (Kd.int .i64) 2 w104 w.heap.size (fun k_=>some k_≠(.slice (some ad110) t107.length co18:Value).ownBlock) (.slice (some ad111) (rd_L6 t107 x35_2).length c110_0) (rd_L6 t107 x35_2)):=⟨h0_⟩
                  have n1_:Aside0 (Kd.S (Kd.slice 2 (Kd.int .i64)) 126 w104 w.heap.size (fun _=>True) (.slice (some ad110) t107.length co18) t107):=⟨h1_⟩
                  have n2_:Aside0 (Kd.R k127 127 w104 w.heap.size (fun k_=>k_≠gb116∧k_≠gb118) u8 x8_2):=⟨h2_⟩
                  have n3_:Aside0 (w104.heap[gb115]?=some (.cells #[.string ((rd_T125 l1 (rd (rd_L6 t107 x35_2) 0)).f0),.string ((rd_T125 l1 (rd (rd_L6 t107 x35_2) 0)).f1),.int .i64 ((rd_T125 l1 (rd (rd_L6 t107 x35_2) 0)).f2)] 125 (0,0))):=⟨h3_⟩
                  have n4_:Aside0 (w104.heap[gb116]?=some (.cells #[.string ((rd_T127 l0 (rd (rd_L6 t107 x35_2) 1)).f0),.int .i64 ((rd_T127 l0 (rd (rd_L6 t107 x35_2) 1)).f1),.int .i64 ((rd_T127 l0 (rd (rd_L6 t107 x35_2) 1)).f2)] 127 (0,0))):=⟨h4_⟩
                  have n5_:Aside0 (w104.heap[gb118]?=some (.cells #[.string (⟨#[]⟩:ByteArray),.int .i64 0,.int .i64 0] 127 (0,0))):=⟨h5_⟩
                  have n6_:Aside0 (w.heap.size≤gb118):=⟨h6_⟩
                  have n7_:Aside0 (w.heap.size≤gb118):=⟨h7_⟩
                  have n8_:Aside0 (gb115≠gb118):=⟨h8_⟩
                  have n9_:Aside0 (gb118≠gb115):=⟨h9_⟩
                  have n10_:Aside0 (gb116≠gb118):=⟨h10_⟩
                  have n11_:Aside0 (gb118≠gb116):=⟨h11_⟩
                  have n12_:Aside0 (Below w.heap.size w w104):=⟨h12_⟩
                  clear HO_8
                  clear HO_33
                  clear HL110_0
                  clear BK115
                  clear BK116
                  clear HB
                  clear h0_ h1_ h2_ h3_ h4_ h5_ h6_ h7_ h8_ h9_ h10_ h11_ h12_
                  have HL110_0:=n0_
                  have HO_33:=n1_
                  have HO_8:=n2_
                  have BK115:=n3_
                  have BK116:=n4_
                  have BK118:=n5_
                  have GW118:=n6_
                  have GE118:=n7_
                  have NB115_118:=n8_
                  have NB118_115:=n9_
                  have NB116_118:=n10_
                  have NB118_116:=n11_
                  have HB:=n12_
                  clear n0_ n1_ n2_ n3_ n4_ n5_ n6_ n7_ n8_ n9_ n10_ n11_ n12_
                  have hHeld:w104.cell? ⟨gb115,0,none⟩=some (.string ((rd_T125 l1 (rd (rd_L6 t107 x35_2) 0)).f0))∧w104.cell? ⟨gb115,1,none⟩=some (.string ((rd_T125 l1 (rd (rd_L6 t107 x35_2) 0)).f1))∧w104.cell? ⟨gb115,2,none⟩=some (.int .i64 ((rd_T125 l1 (rd (rd_L6 t107 x35_2) 0)).f2))∧w104.cell? ⟨gb116,0,none⟩=some (.string ((rd_T127 l0 (rd (rd_L6 t107 x35_2) 1)).f0))∧w104.cell? ⟨gb116,1,none⟩=some (.int .i64 ((rd_T127 l0 (rd (rd_L6 t107 x35_2) 1)).f1))∧w104.cell? ⟨gb116,2,none⟩=some (.int .i64 ((rd_T127 l0 (rd (rd_L6 t107 x35_2) 1)).f2)):=hS_
                  refine norm_ (a':=?_) ?_ ?_
                  rotate_left
                  ·simp only [putAll,Act.put,List.setIfInBounds_toArray,List.set_cons_zero,List.set_cons_succ]
                   rfl
                  refine one_ (i:=10) (N:=none) #[true,true,true,true,true,true,true,true,true,true,true] rfl rfl (one_of HT_.out zbk) zbq (fun K hK=>?_)
                  have hs105:w104.cell? ⟨gb118,0,none⟩=some (.string (⟨#[]⟩:ByteArray)):=(blk_cell BK118.out 0).trans rfl
                  have hfs105:=blk_frozen BK118.out 0
                  have hns105_0:=NB115_118.out
                  have hns105_1:=NB116_118.out
                  have hms105_0:=NB118_115.out
                  have hms105_1:=NB118_116.out
                  have hs106:w104.cell? ⟨gb118,1,none⟩=some (.int .i64 0):=(blk_cell BK118.out 1).trans rfl
                  have hfs106:=blk_frozen BK118.out 1
                  have hns106_0:=NB115_118.out
                  have hns106_1:=NB116_118.out
                  have hms106_0:=NB118_115.out
                  have hms106_1:=NB118_116.out
                  have hs107:w104.cell? ⟨gb118,2,none⟩=some (.int .i64 0):=(blk_cell BK118.out 2).trans rfl
                  have hfs107:=blk_frozen BK118.out 2
                  have hns107_0:=NB115_118.out
                  have hns107_1:=NB116_118.out
                  have hms107_0:=NB118_115.out
                  have hms107_1:=NB118_116.out
                  refine skip_ (w1:=?_) (by rfl) rfl ?_ ?_
                  rotate_left
                  ·go_simp
                   rfl
                  refine hK.out _ _ ⟨((cell_far (p:=⟨gb118,_,none⟩) NB115_118.out _).trans (((cell_far (p:=⟨gb118,_,none⟩) NB115_118.out _).trans (((cell_far (p:=⟨gb118,_,none⟩) NB115_118.out _).trans (hHeld.1)))))),((cell_far (p:=⟨gb118,_,none⟩) NB115_118.out _).trans (((cell_far (p:=⟨gb118,_,none⟩) NB115_118.out _).trans (((cell_far (p:=⟨gb118,_,none⟩) NB115_118.out _).trans (hHeld.2.1)))))),((cell_far (p:=⟨gb118,_,none⟩) NB115_118.out _).trans (((cell_far (p:=⟨gb118,_,none⟩) NB115_118.out _).trans (((cell_far (p:=⟨gb118,_,none⟩) NB115_118.out _).trans (hHeld.2.2.1)))))),((cell_far (p:=⟨gb118,_,none⟩) NB116_118.out _).trans (((cell_far (p:=⟨gb118,_,none⟩) NB116_118.out _).trans (((cell_far (p:=⟨gb118,_,none⟩) NB116_118.out _).trans (hHeld.2.2.2.1)))))),((cell_far (p:=⟨gb118,_,none⟩) NB116_118.out _).trans (((cell_far (p:=⟨gb118,_,none⟩) NB116_118.out _).trans (((cell_far (p:=⟨gb118,_,none⟩) NB116_118.out _).trans (hHeld.2.2.2.2.1)))))),((cell_far (p:=⟨gb118,_,none⟩) NB116_118.out _).trans (((cell_far (p:=⟨gb118,_,none⟩) NB116_118.out _).trans (((cell_far (p:=⟨gb118,_,none⟩) NB116_118.out _).trans (hHeld.2.2.2.2.2))))))⟩ (fun hHeld=>?_)
                  clear hK K
                  refine done_ (done_of HT_.out zbk) ?_
                  have hnb108:=NB118_115.out
                  have hnc108:=NB115_118.out
                  have hnb109:=NB118_116.out
                  have hnc109:=NB116_118.out
                  have hcz110_0:w104.cell? ⟨gb118,0,none⟩=some (.string (⟨#[]⟩:ByteArray)):=(blk_cell BK118.out 0).trans rfl
                  have hcz110_1:w104.cell? ⟨gb118,1,none⟩=some (.int .i64 0):=(blk_cell BK118.out 1).trans rfl
                  have hcz110_2:w104.cell? ⟨gb118,2,none⟩=some (.int .i64 0):=(blk_cell BK118.out 2).trans rfl
                  have hfz110_0:=blk_frozen BK118.out 0
                  have hfz110_1:=blk_frozen BK118.out 1
                  have hfz110_2:=blk_frozen BK118.out 2
                  obtain ⟨Ao111,co111,eo111⟩:=Kd.R_slice HO_8.out
                  subst eo111
                  try go_wp2_with (first|((with_reducible refine gate_callee (f:=100) rfl ?_);refine goesL_ (some 65) rfl rfl Try.func100 zbk rfl #[.slice Ao111 x8_2.length co111,.string ((rd_T125 l1 (rd (rd_L6 t107 x35_2) 0)).f1),.int .i64 (wrap64 (t117+((rd_T125 l1 (rd (rd_L6 t107 x35_2) 0)).f2)))] rfl zc ?_;(with_reducible refine (impl_begins.calls _ _ x8_2 ((rd_T125 l1 (rd (rd_L6 t107 x35_2) 0)).f1) (wrap64 (t117+((rd_T125 l1 (rd (rd_L6 t107 x35_2) 0)).f2))) false _ ?side1 ?side2 A29.out).mono ?_);(case side1=>refine (Kd.R_reads' (e:=127) (base:=w.heap.size) (ok:=fun k_=>(k_≠gb116∧k_≠gb118)) (n:=x8_2.length) (c:=co111) ?_).2.2;exact zan);(case side2=>exact (Kd.R_reads' HO_8.out).2.1);rintro e w112 ⟨rfl,hb⟩;refine ⟨_,rfl,?_⟩;replace HO_8:=Aside0.mk (Kd.R_below zan hb);replace HO_33:=Aside0.mk (Kd.S_below zcj hb);replace HL110_0:=Aside0.mk (Kd.R_below zci hb);replace BK115:=Aside0.mk (blk_below (g:=gb115) (o:=.cells #[.string ((rd_T125 l1 (rd (rd_L6 t107 x35_2) 0)).f0),.string ((rd_T125 l1 (rd (rd_L6 t107 x35_2) 0)).f1),.int .i64 ((rd_T125 l1 (rd (rd_L6 t107 x35_2) 0)).f2)] 125 (0,0)) zbv hb);replace BK116:=Aside0.mk (blk_below (g:=gb116) (o:=.cells #[.string ((rd_T127 l0 (rd (rd_L6 t107 x35_2) 1)).f0),.int .i64 ((rd_T127 l0 (rd (rd_L6 t107 x35_2) 1)).f1),.int .i64 ((rd_T127 l0 (rd (rd_L6 t107 x35_2) 1)).f2)] 127 (0,0)) zbw hb);replace BK118:=Aside0.mk (blk_below (g:=gb118) (o:=.cells #[.string ((rd_T125 l1 (rd (rd_L6 t107 x35_2) 0)).f1),.int .i64 (wrap64 (t117+((rd_T125 l1 (rd (rd_L6 t107 x35_2) 0)).f2))),.int .i64 a2] 127 (0,0)) zay hb);replace HB:=Aside0.mk (below_step zo hb);(try clear hb);(try clear hb2);(try clear hk);(try clear hi);have hcz113_0:w112.cell? ⟨gb118,0,none⟩=some (.string ((rd_T125 l1 (rd (rd_L6 t107 x35_2) 0)).f1)):=(blk_cell BK118.out 0).trans rfl;have hcz113_1:w112.cell? ⟨gb118,1,none⟩=some (.int .i64 (wrap64 (t117+((rd_T125 l1 (rd (rd_L6 t107 x35_2) 0)).f2)))):=(blk_cell BK118.out 1).trans rfl;have hcz113_2:w112.cell? ⟨gb118,2,none⟩=some (.int .i64 a2):=(blk_cell BK118.out 2).trans rfl;have hfz113_0:=blk_frozen BK118.out 0;have hfz113_1:=blk_frozen BK118.out 1;have hfz113_2:=blk_frozen BK118.out 2)|((with_reducible refine gate_callee (f:=101) rfl ?_);refine goesL_ (some 67) rfl rfl Try.func101 zbk rfl #[.agg #[.string ((rd_T125 l1 (rd (rd_L6 t107 x35_2) 0)).f1),.int .i64 (wrap64 (t117+((rd_T125 l1 (rd (rd_L6 t107 x35_2) 0)).f2))),.int .i64 a2]] rfl zc ?_;(with_reducible refine (impl_Turn_valid.calls k2 ((rd_T125 l1 (rd (rd_L6 t107 x35_2) 0)).f1) (wrap64 (t117+((rd_T125 l1 (rd (rd_L6 t107 x35_2) 0)).f2))) a2 false _ A54.out).mono ?_);rintro e w114 ⟨rfl,hb⟩;refine ⟨_,rfl,?_⟩;replace HO_8:=Aside0.mk (Kd.R_below zv hb);replace HO_33:=Aside0.mk (Kd.S_below zu hb);replace HL110_0:=Aside0.mk (Kd.R_below zaa hb);replace BK115:=Aside0.mk (blk_below (g:=gb115) (o:=.cells #[.string ((rd_T125 l1 (rd (rd_L6 t107 x35_2) 0)).f0),.string ((rd_T125 l1 (rd (rd_L6 t107 x35_2) 0)).f1),.int .i64 ((rd_T125 l1 (rd (rd_L6 t107 x35_2) 0)).f2)] 125 (0,0)) zl hb);replace BK116:=Aside0.mk (blk_below (g:=gb116) (o:=.cells #[.string ((rd_T127 l0 (rd (rd_L6 t107 x35_2) 1)).f0),.int .i64 ((rd_T127 l0 (rd (rd_L6 t107 x35_2) 1)).f1),.int .i64 ((rd_T127 l0 (rd (rd_L6 t107 x35_2) 1)).f2)] 127 (0,0)) zg hb);replace BK118:=Aside0.mk (blk_below (g:=gb118) (o:=.cells #[.string ((rd_T125 l1 (rd (rd_L6 t107 x35_2) 0)).f1),.int .i64 (wrap64 (t117+((rd_T125 l1 (rd (rd_L6 t107 x35_2) 0)).f2))),.int .i64 a2] 127 (0,0)) zbp hb);replace HB:=Aside0.mk (below_step zo hb);(try clear hb);(try clear hb2);(try clear hk);(try clear hi)))
                  go_ret2
                  exact ⟨_,zk,zct,zo⟩
               ·rw [if_neg c27] at H
                exact absurd H zdd
              ·rw [if_neg c26] at H
               exact absurd H zdd
             ·rw [if_neg c25] at H
              exact absurd H zdd
            ·rw [if_neg c24] at H
             exact absurd H zdd
           ·rw [if_neg c23] at H
            exact absurd H zdd
          ·rw [if_neg c22] at H
           exact absurd H zdd
         ·rw [if_neg c21] at H
          exact absurd H zdd
        ·rw [if_neg c20] at H
         exact absurd H zdd
       ·rw [if_neg c19] at H
        have c19b0:decide (x35_2<(t107.length:Int))=false:=decide_eq_false c19
        clear c19
        by_cases c115:(x8_2.length:Int) > 24
        ·rw [if_pos c115] at H
         have c115b0:decide (24<(x8_2.length:Int))=true:=decide_eq_true c115
         have c115b1:decide (24<x8_2.length)=true:=decide_eq_true zbt
         clear c115
         simp only [Option.some.injEq,Prod.mk.injEq] at H
         obtain ⟨rfl,rfl⟩:=H
         obtain ⟨Ao116,co116,eo116⟩:=Kd.R_slice HO_8.out
         subst eo116
         go_wp2
         go_ret2
         exact ⟨_,zk,zct,za⟩
        ·rw [if_neg c115] at H
         have c115b0:decide (24<(x8_2.length:Int))=false:=decide_eq_false c115
         have c115b1:decide (24<x8_2.length)=false:=decide_eq_false zbt
         clear c115
         simp only [Option.some.injEq,Prod.mk.injEq] at H
         obtain ⟨rfl,rfl⟩:=H
         obtain ⟨Ao117,co117,eo117⟩:=Kd.R_slice HO_8.out
         subst eo117
         go_wp2
         go_ret2
         exact ⟨_,zk,zv,za⟩
    ·replace c13:=Bool.eq_false_iff.mpr c13
     subst c13
     have H1:(some (([]:List (S127)),2))=some (r1,r2):=by rw [if_neg (show ¬ (false=true) by decide)] at H;exact H
     clear H
     have H:=H1
     clear H1
     simp only [Option.some.injEq,Prod.mk.injEq] at H
     obtain ⟨rfl,rfl⟩:=H
     go_wp2_with (first|((with_reducible refine gate_callee (f:=96) rfl ?_);refine goesL_ (some 27) rfl rfl Try.func96 zbk rfl #[.int .i64 a2,.int .i64 1,.int .i64 10000] rfl zc ?_;(with_reducible refine (impl_within.calls a2 1 10000 false _ A12.out).mono ?_);rintro e w' ⟨rfl,⟨nd,rfl⟩⟩;refine ⟨_,rfl,?_⟩))
     go_ret2
     exact ⟨_,zk,zct,za⟩
end Go.Proofs.Ytocegmkifmdlcaa.P
