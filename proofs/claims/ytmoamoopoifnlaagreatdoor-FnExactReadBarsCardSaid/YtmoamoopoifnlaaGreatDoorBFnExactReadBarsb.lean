/- Part b of what FnExactReadBars stands on: functions of the program as Lean functions with their walks, and plain lemmas. -/
import Derived.Test.YtmoamoopoifnlaaGreatDoorBFnExactReadBarsa
import Derived.Test.YtmoamoopoifnlaaGreatDoorK
import Derived.Lib.LaidTab
import Derived.Lib.ItoaNum
namespace Go.Proofs.YtmoamoopoifnlaaGreatDoor.P
open Go.RowKit Go.Proofs.YtmoamoopoifnlaaGreatDoorW.PrintWords Go.Proofs.YtmoamoopoifnlaaGreatDoorW.PrintLast Go.Proofs.YtmoamoopoifnlaaGreatDoorW.PrintMore
attribute [local go_sem] max2_int min2_int max_two min_two max_three min_three max_four min_four str_leq str_gtr str_geq
set_option linter.unusedVariables false
set_option linter.unusedSimpArgs false
mutual
def spec_l25Tokens.l0:Nat→List (S67)→List Int→List ByteArray→Int→Option ((List (S67)) × List Int × Bool)
 | 0,_,_,_,_=>none
 | k+1,x5,x6,x7,x8=>if x8<(x7.length:Int) then (if 0≤x8 then (if (rdOf ByteArray.empty x7 x8).toList=([124]:List UInt8) then (spec_l25Tokens.j1 k x5 x6 x7 x8 true) else (spec_l25Tokens.j1 k x5 x6 x7 x8 ((rdOf ByteArray.empty x7 x8).toList == ([124,124]:List UInt8)))) else (none)) else (some (x5,x6,true))
def spec_l25Tokens.j1:Nat→List (S67)→List Int→List ByteArray→Int→Bool→Option ((List (S67)) × List Int × Bool)
 | 0,_,_,_,_,_=>none
 | k+1,x5,x6,x7,x8,x39=>if x39=true then (if x6.length<17592186044416 then (spec_l25Tokens.l0 k x5 (x6++[0]) x7 (wrap64 (x8+1))) else (none)) else (if 0≤x8 then (if x8<(x7.length:Int) then (if (rdOf ByteArray.empty x7 x8).toList=([]:List UInt8) then (spec_l25Tokens.j2 k x5 x6 x7 x8 false) else (if 0<((rdOf ByteArray.empty x7 x8).size:Int) then (spec_l25Tokens.j2 k x5 x6 x7 x8 ((bt (rdOf ByteArray.empty x7 x8) 0) == 126)) else (none))) else (none)) else (none))
def spec_l25Tokens.j2:Nat→List (S67)→List Int→List ByteArray→Int→Bool→Option ((List (S67)) × List Int × Bool)
 | 0,_,_,_,_,_=>none
 | k+1,x5,x6,x7,x8,x9=>if 0≤x8 then (if x8<(x7.length:Int) then (if x9=true then (if 1≤((rdOf ByteArray.empty x7 x8).size:Int) then (spec_l25Tokens.j3 k x5 x6 x7 x8 x9 ((rdOf ByteArray.empty x7 x8).extract 1 (rdOf ByteArray.empty x7 x8).size)) else (none)) else (spec_l25Tokens.j3 k x5 x6 x7 x8 x9 (rdOf ByteArray.empty x7 x8))) else (none)) else (none)
def spec_l25Tokens.j3:Nat→List (S67)→List Int→List ByteArray→Int→Bool→ByteArray→Option ((List (S67)) × List Int × Bool)
 | 0,_,_,_,_,_,_=>none
 | k+1,x5,x6,x7,x8,x9,x10=>(spec_l09ReadOne.f k x10).bind fun bt121=>(if bt121.2.2=true then (if x9=true then (if (wrap64 ((x5.length:Int) - 1))<0 then (spec_l25Tokens.j4 k x5 x6 x7 x8 x9 (wrap64 ((x5.length:Int) - 1)) true bt121.1 bt121.2.1) else (if 0≤(wrap64 ((x5.length:Int) - 1)) then (if (wrap64 ((x5.length:Int) - 1))<(x5.length:Int) then (spec_l25Tokens.j4 k x5 x6 x7 x8 x9 (wrap64 ((x5.length:Int) - 1)) (((rd_T67 x5 (wrap64 ((x5.length:Int) - 1))).f0) != bt121.1) bt121.1 bt121.2.1) else (none)) else (none))) else (spec_l25Tokens.j4 k x5 x6 x7 x8 x9 (wrap64 ((x5.length:Int) - 1)) false bt121.1 bt121.2.1)) else (spec_l25Tokens.j4 k x5 x6 x7 x8 x9 (wrap64 ((x5.length:Int) - 1)) true bt121.1 bt121.2.1))
def spec_l25Tokens.j4:Nat→List (S67)→List Int→List ByteArray→Int→Bool→Int→Bool→Int→Int→Option ((List (S67)) × List Int × Bool)
 | 0,_,_,_,_,_,_,_,_,_=>none
 | k+1,x5,x6,x7,x8,x9,x13,x89,x125000,x125001=>if x89=true then (some (([]:List (S67)),([]:List Int),false)) else (if 0≤(wrap64 ((x6.length:Int) - 1)) then (if (wrap64 ((x6.length:Int) - 1))<(x6.length:Int) then ((some (x6.set ((wrap64 ((x6.length:Int) - 1)):Int).toNat (wrap64 ((rd x6 (wrap64 ((x6.length:Int) - 1)))+x125001)):List Int)).bind fun y127=>(if x9=true then (if 0≤x13 then (if x13<(x5.length:Int) then (spec_l25Tokens.l0 k (x5.set (x13:Int).toNat (⟨(rd_T67 x5 x13).f0,wrap64 (((rd_T67 x5 x13).f1)+x125001)⟩:S67)) y127 x7 (wrap64 (x8+1))) else (none)) else (none)) else (if x5.length<8796093022208 then (spec_l25Tokens.l0 k (x5++[(⟨x125000,x125001⟩:S67)]) y127 x7 (wrap64 (x8+1))) else (none)))) else (none)) else (none))
end
def spec_l25Tokens.f (k:Nat) (a0:ByteArray):Option ((List (S67)) × List Int × Bool):=(some (([]:List (S67)):List (S67))).bind fun y101=>(if a0.toList=([45]:List UInt8) then (some (y101,(([]:List Int)),true)) else ((spec_l01Split.f k a0 32).bind fun t110=>(spec_l25Tokens.l0 k y101 (([0]:List Int)) t110 0)))
def spec_l25Tokens.T17:Bool × List (List Nat × List Nat):=(true,[([],[]),([0],[0]),([1],[1]),([2],[2]),([3,2,2],[2,3]),([4],[4]),([5,4],[4,5]),([6,4,4],[4,6]),([7],[7]),([7],[7]),([8,9,7],[7,8,9]),([10,7],[7,10]),([11,7],[7,11]),([7],[7]),([13,7],[7,13]),([12,14,7],[7,12,14]),([7,15,4],[4,7,15]),([4,16,2],[2,4,16]),([2,17],[2,17])])
def spec_l25Tokens.B17:List Nat:=[0,1,3,7,15,31,63,127,255,255,1023,2047,4095,255,8447,32767,65535,131071,262143]
theorem spec_l25Tokens.tab17:rtab .any (opsOf Tryz.f62 17)=spec_l25Tokens.T17:=by kernel_rfl
theorem spec_l25Tokens.bits17:waitsOk spec_l25Tokens.T17.2 spec_l25Tokens.B17=true:=by kernel_rfl
def spec_l25Tokens.T19:Bool × List (List Nat × List Nat):=(true,[([],[]),([],[]),([1],[1]),([2],[2]),([0,3],[0,3]),([4],[4]),([],[]),([6],[6]),([5,7],[5,7]),([0,3,0,1,2,3,4,5,6,7,8],[0,3]),([9,8,0,1,2,3,4,5,6,7,8],[8,9])])
def spec_l25Tokens.B19:List Nat:=[0,0,2,6,15,31,0,64,255,511,1023]
theorem spec_l25Tokens.tab19:rtab .any (opsOf Tryz.f62 19)=spec_l25Tokens.T19:=by kernel_rfl
theorem spec_l25Tokens.bits19:waitsOk spec_l25Tokens.T19.2 spec_l25Tokens.B19=true:=by kernel_rfl
def spec_l25Tokens.T21:Bool × List (List Nat × List Nat):=(true,[([],[]),([],[]),([0,1],[0,1]),([2],[2]),([3],[3]),([],[]),([5],[5]),([4,6],[4,6]),([0,1,0,1,2,3,4,5,6,7],[0,1]),([8,0,1,2,3,4,5,6,7],[8]),([9,7,0,1,2,3,4,5,6,7],[7,9])])
def spec_l25Tokens.B21:List Nat:=[0,0,3,7,15,0,32,127,255,511,1023]
theorem spec_l25Tokens.tab21:rtab .any (opsOf Tryz.f62 21)=spec_l25Tokens.T21:=by kernel_rfl
theorem spec_l25Tokens.bits21:waitsOk spec_l25Tokens.T21.2 spec_l25Tokens.B21=true:=by kernel_rfl
set_option maxHeartbeats 8000000 in
set_option maxRecDepth 100000 in
theorem spec_l25Tokens.calls (k:Nat) (a0:ByteArray) (r1:List (S67)) (r2:List Int) (r3:Bool) (w:World) (h:spec_l25Tokens.f k a0=some (r1,r2,r3)) :
 Calls Tryz.prog 62 #[.string a0] w fun e w'=>∃v0_ v1_:Value,e = .returned (.tuple #[v0_,v1_,.bool r3])∧Kd.R k67 67 w' w.heap.size (fun _=>True) v0_ r1∧Kd.R (Kd.int .i64) 2 w' w.heap.size (fun _=>True) v1_ r2∧Below w.heap.size w w':=by
 have hu67:=Tryz.underlying67
 have HB:=Aside0.mk (Below.refl w.heap.size w)
 have H:((some (([]:List (S67)):List (S67))).bind fun y101=>(if a0.toList=([45]:List UInt8) then (some (y101,(([]:List Int)),true)) else ((spec_l01Split.f k a0 32).bind fun t110=>(spec_l25Tokens.l0 k y101 (([0]:List Int)) t110 0))))=some (r1,r2,r3):=h
 clear h
 obtain ⟨y101,hy101⟩:∃y_:List (S67),y_=(([]:List (S67))):=⟨_,rfl⟩
 replace H:(if a0.toList=([45]:List UInt8) then (some (y101,(([]:List Int)),true)) else ((spec_l01Split.f k a0 32).bind fun t110=>(spec_l25Tokens.l0 k y101 (([0]:List Int)) t110 0)))=some (r1,r2,r3):=by first|(rw [hy101];with_reducible exact H)|(have H2_:=(Option.bind_some _ _).symm.trans H;rw [hy101];with_reducible exact H2_)|(have H2_:=(Option.bind_some _ _).symm.trans H;with_reducible exact H2_)|with_reducible exact H|(rw [hy101];exact H)|exact H
 have Ny101:=Aside0.mk hy101
 clear hy101
 obtain ⟨y104,hy104⟩:∃y_:List Int,y_=(([0]:List Int)):=⟨_,rfl⟩
 replace H:(if a0.toList=([45]:List UInt8) then (some (y101,(([]:List Int)),true)) else ((spec_l01Split.f k a0 32).bind fun t110=>(spec_l25Tokens.l0 k y101 y104 t110 0)))=some (r1,r2,r3):=by first|(rw [hy104];with_reducible exact H)|(have H2_:=(Option.bind_some _ _).symm.trans H;rw [hy104];with_reducible exact H2_)|(have H2_:=(Option.bind_some _ _).symm.trans H;with_reducible exact H2_)|with_reducible exact H|(rw [hy104];exact H)|exact H
 have Ny104:=Aside0.mk hy104
 clear hy104
 by_cases c2:a0.toList=([45]:List UInt8)
 ·rw [if_pos c2] at H
  have c2b0:(a0.toList == ([45]:List UInt8))=true:=beq_iff_eq.mpr c2
  have c2b1:(a0.toList != ([45]:List UInt8))=false:=bne_eq_false_iff_eq.mpr c2
  clear c2
  obtain ⟨y107,hy107⟩:∃y_:List Int,y_=(([]:List Int)):=⟨_,rfl⟩
  replace H:(some (y101,y107,true))=some (r1,r2,r3):=by first|(rw [hy107];with_reducible exact H)|(have H2_:=(Option.bind_some _ _).symm.trans H;rw [hy107];with_reducible exact H2_)|(have H2_:=(Option.bind_some _ _).symm.trans H;with_reducible exact H2_)|with_reducible exact H|(rw [hy107];exact H)|exact H
  have Ny107:=Aside0.mk hy107
  clear hy107
  simp only [Option.some.injEq,Prod.mk.injEq] at H
  obtain ⟨rfl,rfl,rfl⟩:=H
  go_enter Tryz.func62,Tryz.ntmps62
  go_wp2_with (first|((with_reducible refine gate_dst (N:=14) rfl ?_);refine Kd.R_lit k67 _ 67 ?hg (N:=14) ?hd (xs:=([]:List (S67))) (inner:=[]) (ok:=fun _=>True) (okp:=fun _=>True) ?hr ?hp (fun _ hk=>hk) trivial (Below.refl _ _) (Nat.le_refl _) zbr ?_;(case hd=>rfl);(case hg=>rfl);(case hr=>exact zo);(case hp=>exact (Reps.none _ _));intro v102 w3 ho4 hb hg_ hnew_;clear hg_ hnew_;(first|rw [←Ny101.out] at ho4|(simp only [Int.reduceToNat] at ho4;rw [←Ny101.out] at ho4));have HO103:=Aside0.mk (Kd.R_lower ho4 (below_size za));replace HB:=Aside0.mk (below_step za hb);clear hb ho4)|((with_reducible refine gate_dst (N:=15) rfl ?_);refine Kd.R_lit (Kd.int .i64) _ 2 ?hg (N:=15) ?hd (xs:=([0]:List Int)) (inner:=[.int .i64 0]) (ok:=fun _=>True) (okp:=fun _=>True) ?hr ?hp (fun _ hk=>hk) trivial (Below.refl _ _) (Nat.le_refl _) zbr ?_;(case hd=>rfl);(case hg=>rfl);(case hr=>exact zo);(case hp=>exact (Reps.one (show Kd.M (Kd.int .i64) _ _ _ 0 [.int .i64 0] from rfl) (Reps.none _ _)));intro v105 w5 ho6 hb hg_ hnew_;clear hg_ hnew_;(first|rw [←Ny104.out] at ho6|(simp only [Int.reduceToNat] at ho6;rw [←Ny104.out] at ho6));replace HO103:=Aside0.mk (Kd.R_below zbn hb);have HO106:=Aside0.mk (Kd.R_lower ho6 (below_size za));replace HB:=Aside0.mk (below_step za hb);clear hb ho6)|((with_reducible refine gate_dst (N:=19) rfl ?_);refine Kd.R_lit (Kd.int .i64) _ 2 ?hg (N:=19) ?hd (xs:=([]:List Int)) (inner:=[]) (ok:=fun _=>True) (okp:=fun _=>True) ?hr ?hp (fun _ hk=>hk) trivial (Below.refl _ _) (Nat.le_refl _) zbr ?_;(case hd=>rfl);(case hg=>rfl);(case hr=>exact zo);(case hp=>exact (Reps.none _ _));intro v108 w7 ho8 hb hg_ hnew_;clear hg_ hnew_;(first|rw [←Ny107.out] at ho8|(simp only [Int.reduceToNat] at ho8;rw [←Ny107.out] at ho8));have n0_:=Aside0.mk (Kd.R_below zbn hb);have n1_:=Aside0.mk (Kd.R_elder' zab (Kd.R_base ho8) hb);have n2_:=Aside0.mk (Kd.R_lower (Kd.R_new' ho8 (Kd.R_lt zab)) (below_size za));have n3_:=Aside0.mk (below_step za hb);clear HO103;clear HO106;clear HB;have HO103:=n0_;have HO106:=n1_;have HO109:=n2_;have HB:=n3_;clear n0_ n1_ n2_ n3_;clear hb ho8))
  go_ret3
  exact ⟨_,_,zg,zbn,by (with_reducible repeat (first|apply Kd.R_alloc|apply Kd.R_drewN|apply Kd.R_drew));exact Kd.R_mono HO109.out (fun _ hk=>trivial),za⟩
 ·rw [if_neg c2] at H
  have c2b0:(a0.toList == ([45]:List UInt8))=false:=beq_eq_false_iff_ne.mpr c2
  have c2b1:(a0.toList != ([45]:List UInt8))=true:=bne_iff_ne.mpr c2
  replace H:=Option.bind_eq_some_iff.mp H
  obtain ⟨t110,A90,H⟩:=H
  replace H:(spec_l25Tokens.l0 k y101 y104 t110 0)=some (r1,r2,r3):=H
  have A9:=Aside0.mk A90
  clear A90
  have H':=Aside0.mk H
  clear H
  go_enter Tryz.func62,Tryz.ntmps62
  go_wp2_with (first|((with_reducible refine gate_dst (N:=14) rfl ?_);refine Kd.R_lit k67 _ 67 ?hg (N:=14) ?hd (xs:=([]:List (S67))) (inner:=[]) (ok:=fun _=>True) (okp:=fun _=>True) ?hr ?hp (fun _ hk=>hk) trivial (Below.refl _ _) (Nat.le_refl _) zbr ?_;(case hd=>rfl);(case hg=>rfl);(case hr=>exact zo);(case hp=>exact (Reps.none _ _));intro v102 w10 ho11 hb hg_ hnew_;clear hg_ hnew_;(first|rw [←Ny101.out] at ho11|(simp only [Int.reduceToNat] at ho11;rw [←Ny101.out] at ho11));have HO103:=Aside0.mk (Kd.R_lower ho11 (below_size za));replace HB:=Aside0.mk (below_step za hb);clear hb ho11)|((with_reducible refine gate_dst (N:=15) rfl ?_);refine Kd.R_lit (Kd.int .i64) _ 2 ?hg (N:=15) ?hd (xs:=([0]:List Int)) (inner:=[.int .i64 0]) (ok:=fun _=>True) (okp:=fun _=>True) ?hr ?hp (fun _ hk=>hk) trivial (Below.refl _ _) (Nat.le_refl _) zbr ?_;(case hd=>rfl);(case hg=>rfl);(case hr=>exact zo);(case hp=>exact (Reps.one (show Kd.M (Kd.int .i64) _ _ _ 0 [.int .i64 0] from rfl) (Reps.none _ _)));intro v105 w12 ho13 hb hg_ hnew_;clear hg_ hnew_;(first|rw [←Ny104.out] at ho13|(simp only [Int.reduceToNat] at ho13;rw [←Ny104.out] at ho13));replace HO103:=Aside0.mk (Kd.R_below zbn hb);have HO106:=Aside0.mk (Kd.R_lower ho13 (below_size za));replace HB:=Aside0.mk (below_step za hb);clear hb ho13)|((with_reducible refine gate_callee (f:=78) rfl ?_);refine goesL_ (some 21) rfl rfl Tryz.func78 zu rfl #[.string a0,.int .u8 32] rfl zc ?_;(with_reducible refine (spec_l01Split.calls k a0 32 t110 _ A9.out).mono ?_);rintro e w14 ⟨v111,rfl,ho0,hb⟩;refine ⟨_,rfl,?_⟩;replace HO103:=Aside0.mk (Kd.R_below zbn hb);replace HO106:=Aside0.mk (Kd.R_below zab hb);have HO112:=Aside0.mk (Kd.R_lower ho0 (below_size za));replace HB:=Aside0.mk (below_step za hb);(try clear hb);(try clear hb2);(try clear hk);(try clear hi);(try clear ho0)))
  go_loopg [5,6,8] k (fun kq v5 v6 v8 w'=>∃(x5_1:List (S67)) (x6_1:List Int) (x8_1:Int),v8 = .int .i64 x8_1∧Aside0 (spec_l25Tokens.l0 kq x5_1 x6_1 t110 x8_1=some (r1,r2,r3))∧Aside0 (kq≤k)∧Aside0 (Kd.R k67 67 w' w.heap.size (fun _=>True) v5 x5_1)∧Aside0 (Kd.R (Kd.int .i64) 2 w' w.heap.size (fun _=>True) v6 x6_1)∧Aside0 (Kd.R Kd.string 9 w' w.heap.size (fun _=>True) v111 t110)∧Aside0 (Below w.heap.size w w'))
  case atStart=>exact ⟨(y101),(y104),(0),zf,H',⟨Nat.le_refl _⟩,⟨zbn⟩,⟨zab⟩,⟨zbw⟩,⟨za⟩⟩
  case round=>
   clear H'
   try clear c2
   try clear c2b0
   try clear c2b1
   try clear p2
   try clear c6
   try clear c7
   obtain ⟨x5_1,x6_1,x8_1,rfl,HA,HK1,HO_5,HO_6,HO_7,HB⟩:=hrel
   cases gk with
   | zero=>exact absurd HA.out (by simp [spec_l25Tokens.l0])
   | succ k1=>
    have H:=HA.out
    clear HA
    simp only [spec_l25Tokens.l0] at H
    by_cases c15:x8_1<(t110.length:Int)
    ·rw [if_pos c15] at H
     have c15b0:decide (x8_1<(t110.length:Int))=true:=decide_eq_true c15
     clear c15
     have HC16:=Aside0.mk H
     clear H
     obtain ⟨Ao17,co17,eo17⟩:=Kd.R_slice HO_7.out
     subst eo17
     go_upto_region 9 with (fail)
     go_cut [39] (fun v39 wc=>∃(kq:Nat) (x39_15:Bool),v39 = .bool x39_15∧Aside0 (spec_l25Tokens.j1 kq x5_1 x6_1 t110 x8_1 x39_15=some (r1,r2,r3))∧Aside0 (kq≤k1)∧Aside0 (Kd.R k67 67 wc w.heap.size (fun _=>True) u5 x5_1)∧Aside0 (Kd.R (Kd.int .i64) 2 wc w.heap.size (fun _=>True) u6 x6_1)∧Aside0 (Kd.R Kd.string 9 wc w.heap.size (fun _=>True) (.slice Ao17 t110.length co17) t110)∧Aside0 (Below w.heap.size w wc))
     case first=>
      have H:=HC16.out
      clear HC16
      by_cases c18:0≤x8_1
      ·rw [if_pos c18] at H
       have c18b0:decide (0≤x8_1)=true:=decide_eq_true c18
       clear c18
       (first|rw [c18b0]|(simp only [i64_w,i32_w];rw [c18b0])|skip)
       by_cases c19:(rdOf ByteArray.empty t110 x8_1).toList=([124]:List UInt8)
       ·rw [if_pos c19] at H
        have c19b0:((rdOf ByteArray.empty t110 x8_1).toList == ([124]:List UInt8))=true:=beq_iff_eq.mpr c19
        have c19b1:((rdOf ByteArray.empty t110 x8_1).toList != ([124]:List UInt8))=false:=bne_eq_false_iff_eq.mpr c19
        clear c19
        have H':=Aside0.mk H
        clear H
        have p113:0≤(x8_1:Int):=of_decide_eq_true ze
        have q113:x8_1<(t110.length:Int):=of_decide_eq_true ze
        obtain ⟨ad113,e113,hx113_0⟩:=Kd.at_string (Kd.R_reads' HO_7.out).2.2 x8_1 p113 q113
        cases e113
        replace p113:=eq_true p113
        replace q113:=eq_true q113
        go_wp2
        go_meet
        case rel=>exact ⟨_,(true),zf,H',⟨zcc⟩,⟨zai⟩,⟨zaj⟩,⟨zad⟩,⟨za⟩⟩
       ·rw [if_neg c19] at H
        have c19b0:((rdOf ByteArray.empty t110 x8_1).toList == ([124]:List UInt8))=false:=beq_eq_false_iff_ne.mpr c19
        have c19b1:((rdOf ByteArray.empty t110 x8_1).toList != ([124]:List UInt8))=true:=bne_iff_ne.mpr c19
        have H':=Aside0.mk H
        clear H
        have p113:0≤(x8_1:Int):=of_decide_eq_true ze
        have q113:x8_1<(t110.length:Int):=of_decide_eq_true ze
        obtain ⟨ad113,e113,hx113_0⟩:=Kd.at_string (Kd.R_reads' HO_7.out).2.2 x8_1 p113 q113
        cases e113
        replace p113:=eq_true p113
        replace q113:=eq_true q113
        have p114:0≤(x8_1:Int):=of_decide_eq_true ze
        have q114:x8_1<(t110.length:Int):=of_decide_eq_true ze
        obtain ⟨ad114,e114,hx114_0⟩:=Kd.at_string (Kd.R_reads' HO_7.out).2.2 x8_1 p114 q114
        obtain rfl:ad113=ad114:=(by injection e114)
        replace p114:=eq_true p114
        replace q114:=eq_true q114
        go_wp2
        go_meet
        case rel=>exact ⟨_,(((rdOf ByteArray.empty t110 x8_1).toList == ([124,124]:List UInt8))),zf,H',⟨zcc⟩,⟨zai⟩,⟨zaj⟩,⟨zad⟩,⟨za⟩⟩
      ·rw [if_neg c18] at H
       exact absurd H zbr
     case rest=>
      clear HC16
      try clear c1
      try clear p1
      try clear q1
      try clear hx1
      try clear c2
      try clear c2b0
      try clear c2b1
      try clear p2
      try clear c6
      try clear c7
      try clear p11
      try clear q11
      try clear hx11
      try clear c15
      try clear c15b0
      try clear c18
      try clear c18b0
      try clear c19
      try clear c19b0
      try clear c19b1
      try clear hx113_0
      try clear hx114_0
      try clear p113
      try clear p114
      try clear p2
      try clear q113
      try clear q114
      obtain ⟨kq,x39_15,rfl,HA,HJ15,HO_5,HO_6,HO_7,HB⟩:=hcut
      cases kq with
      | zero=>exact absurd HA.out (by simp [spec_l25Tokens.j1])
      | succ kj15=>
       have H:=HA.out
       clear HA
       simp only [spec_l25Tokens.j1] at H
       by_cases c20:x39_15=true
       ·subst c20
        have H1:(if x6_1.length<17592186044416 then (spec_l25Tokens.l0 kj15 x5_1 (x6_1++[0]) t110 (wrap64 (x8_1+1))) else (none))=some (r1,r2,r3):=by rw [if_pos rfl] at H;exact H
        clear H
        have H:=H1
        clear H1
        by_cases c21:x6_1.length<17592186044416
        ·rw [if_pos c21] at H
         have LMc21:=Aside0.mk c21
         clear c21
         obtain ⟨y115,hy115⟩:∃y_:List Int,y_=(x6_1++[0]):=⟨_,rfl⟩
         replace H:(spec_l25Tokens.l0 kj15 x5_1 y115 t110 (wrap64 (x8_1+1)))=some (r1,r2,r3):=by first|(rw [hy115];with_reducible exact H)|(have H2_:=(Option.bind_some _ _).symm.trans H;rw [hy115];with_reducible exact H2_)|(have H2_:=(Option.bind_some _ _).symm.trans H;with_reducible exact H2_)|with_reducible exact H|(rw [hy115];exact H)|exact H
         have Ny115:=Aside0.mk hy115
         clear hy115
         have H':=Aside0.mk H
         clear H
         go_wp2_with (first|((with_reducible refine gate_builtin (b:=.append) (xs:=#[.tmp 40,.tmp 41]) rfl ?_);at_builtin;refine Kd.R_append (Kd.int .i64) (w0:=w) w.heap.size rfl (.tmp 40) (.tmp 41) 37 2 (.int .i64 0) 8 rfl Tryz.underlying37 info2 rfl zbm zbd u6 x6_1 0 [.int .i64 0] (fun _=>True) (fun _=>False) rfl rfl ?aP (fun _ hk=>hk.elim) ?aF ?aO ?aB ?aS ?aL ?_;(case aP=>exact rfl);(case aB=>exact za);(case aF=>exact zci);(case aO=>exact zaj);(case aS=>exact (below_size za));(case aL=>have:=LMc21.out;omega);intro v116 w22 ho hb hg hat;rw [←Ny115.out] at ho;replace HO_5:=Aside0.mk (Kd.R_over' zai (Kd.R_typed zaj) zbm hg);replace HO_7:=Aside0.mk (Kd.R_over' zad (Kd.R_typed zaj) zbm hg);replace HB:=Aside0.mk (hb);have HO117:=Aside0.mk (ho);clear HO_6;clear ho hb hg hat))
         go_roundg kj15
         case measure=>have:=HK1.out;have:=HJ15.out;omega
         case rel=>exact ⟨(x5_1),(y115),(wrap64 (x8_1+1)),zf,H',⟨by have:=HK1.out;have:=HJ15.out;omega⟩,⟨zai⟩,⟨zcz⟩,⟨zad⟩,⟨za⟩⟩
        ·rw [if_neg c21] at H
         exact absurd H zbr
       ·replace c20:=Bool.eq_false_iff.mpr c20
        subst c20
        have H1:(if 0≤x8_1 then (if x8_1<(t110.length:Int) then (if (rdOf ByteArray.empty t110 x8_1).toList=([]:List UInt8) then (spec_l25Tokens.j2 kj15 x5_1 x6_1 t110 x8_1 false) else (if 0<((rdOf ByteArray.empty t110 x8_1).size:Int) then (spec_l25Tokens.j2 kj15 x5_1 x6_1 t110 x8_1 ((bt (rdOf ByteArray.empty t110 x8_1) 0) == 126)) else (none))) else (none)) else (none))=some (r1,r2,r3):=by rw [if_neg (show ¬ (false=true) by decide)] at H;exact H
        clear H
        have H:=H1
        clear H1
        have HC23:=Aside0.mk H
        clear H
        go_upto_region 11 with (fail)
        go_cut [9] (fun v9 wc=>∃(kq:Nat) (x9_22:Bool),v9 = .bool x9_22∧Aside0 (spec_l25Tokens.j2 kq x5_1 x6_1 t110 x8_1 x9_22=some (r1,r2,r3))∧Aside0 (kq≤kj15)∧Aside0 (Kd.R k67 67 wc w.heap.size (fun _=>True) u5 x5_1)∧Aside0 (Kd.R (Kd.int .i64) 2 wc w.heap.size (fun _=>True) u6 x6_1)∧Aside0 (Kd.R Kd.string 9 wc w.heap.size (fun _=>True) (.slice Ao17 t110.length co17) t110)∧Aside0 (Below w.heap.size w wc))
        case first=>
         have H:=HC23.out
         clear HC23
         by_cases c24:0≤x8_1
         ·rw [if_pos c24] at H
          have c24b0:decide (0≤x8_1)=true:=decide_eq_true c24
          clear c24
          (first|rw [c24b0]|(simp only [i64_w,i32_w];rw [c24b0])|skip)
          by_cases c25:x8_1<(t110.length:Int)
          ·rw [if_pos c25] at H
           have c25b0:decide (x8_1<(t110.length:Int))=true:=decide_eq_true c25
           clear c25
           by_cases c26:(rdOf ByteArray.empty t110 x8_1).toList=([]:List UInt8)
           ·rw [if_pos c26] at H
            have c26b0:((rdOf ByteArray.empty t110 x8_1).toList == ([]:List UInt8))=true:=beq_iff_eq.mpr c26
            have c26b1:((rdOf ByteArray.empty t110 x8_1).toList != ([]:List UInt8))=false:=bne_eq_false_iff_eq.mpr c26
            clear c26
            have H':=Aside0.mk H
            clear H
            have p118:0≤(x8_1:Int):=of_decide_eq_true ze
            have q118:x8_1<(t110.length:Int):=of_decide_eq_true ze
            obtain ⟨ad118,e118,hx118_0⟩:=Kd.at_string (Kd.R_reads' HO_7.out).2.2 x8_1 p118 q118
            cases e118
            replace p118:=eq_true p118
            replace q118:=eq_true q118
            go_wp2
            go_meet
            case rel=>exact ⟨_,(false),zf,H',⟨by have:=HK1.out;have:=HJ15.out;first|omega|exact Nat.le_refl _⟩,⟨zai⟩,⟨zaj⟩,⟨zad⟩,⟨za⟩⟩
           ·rw [if_neg c26] at H
            have c26b0:((rdOf ByteArray.empty t110 x8_1).toList == ([]:List UInt8))=false:=beq_eq_false_iff_ne.mpr c26
            have c26b1:((rdOf ByteArray.empty t110 x8_1).toList != ([]:List UInt8))=true:=bne_iff_ne.mpr c26
            by_cases c27:0<((rdOf ByteArray.empty t110 x8_1).size:Int)
            ·rw [if_pos c27] at H
             have c27b0:decide (0<((rdOf ByteArray.empty t110 x8_1).size:Int))=true:=decide_eq_true c27
             have c27b1:decide (0<(rdOf ByteArray.empty t110 x8_1).size)=true:=decide_eq_true zbd
             clear c27
             have H':=Aside0.mk H
             clear H
             have p118:0≤(x8_1:Int):=of_decide_eq_true ze
             have q118:x8_1<(t110.length:Int):=of_decide_eq_true ze
             obtain ⟨ad118,e118,hx118_0⟩:=Kd.at_string (Kd.R_reads' HO_7.out).2.2 x8_1 p118 q118
             cases e118
             replace p118:=eq_true p118
             replace q118:=eq_true q118
             have p119:0≤(x8_1:Int):=of_decide_eq_true ze
             have q119:x8_1<(t110.length:Int):=of_decide_eq_true ze
             obtain ⟨ad119,e119,hx119_0⟩:=Kd.at_string (Kd.R_reads' HO_7.out).2.2 x8_1 p119 q119
             obtain rfl:ad118=ad119:=(by injection e119)
             replace p119:=eq_true p119
             replace q119:=eq_true q119
             have p28:0≤(0:Int):=zbd
             have q28:0<(rdOf ByteArray.empty t110 x8_1).size:=(by have:(0:Int)<((rdOf ByteArray.empty t110 x8_1).size:Int):=of_decide_eq_true ze;omega)
             have hx28:∀h:0<(rdOf ByteArray.empty t110 x8_1).size,(((rdOf ByteArray.empty t110 x8_1)[0]'h).toNat:Int)=bt (rdOf ByteArray.empty t110 x8_1) 0:=bt_at (rdOf ByteArray.empty t110 x8_1) 0
             clear p28
             have qi28:(0<((rdOf ByteArray.empty t110 x8_1).size:Int))=True:=eq_true (of_decide_eq_true ze)
             replace q28:=eq_true q28
             go_wp2
             go_meet
             case rel=>exact ⟨_,(((bt (rdOf ByteArray.empty t110 x8_1) 0) == 126)),zf,H',⟨by have:=HK1.out;have:=HJ15.out;first|omega|exact Nat.le_refl _⟩,⟨zai⟩,⟨zaj⟩,⟨zad⟩,⟨za⟩⟩
            ·rw [if_neg c27] at H
             exact absurd H zbr
          ·rw [if_neg c25] at H
           exact absurd H zbr
         ·rw [if_neg c24] at H
          exact absurd H zbr
        case rest=>
         clear HC23
         try clear c1
         try clear p1
         try clear q1
         try clear hx1
         try clear c2
         try clear c2b0
         try clear c2b1
         try clear p2
         try clear q2
         try clear hx2
         try clear qi2
         try clear c6
         try clear p6
         try clear c7
         try clear p11
         try clear q11
         try clear hx11
         try clear c15
         try clear c15b0
         try clear c18
         try clear c18b0
         try clear c19
         try clear c19b0
         try clear c19b1
         try clear c20
         try clear c21
         try clear c24
         try clear c24b0
         try clear c25
         try clear c25b0
         try clear c26
         try clear c26b0
         try clear c26b1
         try clear c27
         try clear c27b0
         try clear c27b1
         try clear p28
         try clear q28
         try clear hx28
         try clear qi28
         try clear hx113_0
         try clear hx114_0
         try clear hx118_0
         try clear hx119_0
         try clear p1
         try clear p11
         try clear p113
         try clear p114
         try clear p118
         try clear p119
         try clear p2
         try clear p28
         try clear q1
         try clear q11
         try clear q113
         try clear q114
         try clear q118
         try clear q119
         try clear q28
         obtain ⟨kq,x9_22,rfl,HA,HJ22,HO_5,HO_6,HO_7,HB⟩:=hcut
         cases kq with
         | zero=>exact absurd HA.out (by simp [spec_l25Tokens.j2])
         | succ kj22=>
          have H:=HA.out
          clear HA
          simp only [spec_l25Tokens.j2] at H
          by_cases c29:0≤x8_1
          ·rw [if_pos c29] at H
           have c29b0:decide (0≤x8_1)=true:=decide_eq_true c29
           clear c29
           by_cases c30:x8_1<(t110.length:Int)
           ·rw [if_pos c30] at H
            have c30b0:decide (x8_1<(t110.length:Int))=true:=decide_eq_true c30
            clear c30
            have HC31:=Aside0.mk H
            clear H
            have p120:0≤(x8_1:Int):=of_decide_eq_true ze
            have q120:x8_1<(t110.length:Int):=of_decide_eq_true ze
            obtain ⟨ad120,e120,hx120_0⟩:=Kd.at_string (Kd.R_reads' HO_7.out).2.2 x8_1 p120 q120
            cases e120
            replace p120:=eq_true p120
            replace q120:=eq_true q120
            go_upto_if 60 with (fail)
            go_cut [10] (fun v10 wc=>∃(kq:Nat) (x10_30:ByteArray),v10 = .string x10_30∧Aside0 (spec_l25Tokens.j3 kq x5_1 x6_1 t110 x8_1 x9_22 x10_30=some (r1,r2,r3))∧Aside0 (kq≤kj22)∧Aside0 (Kd.R k67 67 wc w.heap.size (fun _=>True) u5 x5_1)∧Aside0 (Kd.R (Kd.int .i64) 2 wc w.heap.size (fun _=>True) u6 x6_1)∧Aside0 (Kd.R Kd.string 9 wc w.heap.size (fun _=>True) (.slice (some ad120) t110.length co17) t110)∧Aside0 (Below w.heap.size w wc))
            case first=>
             have H:=HC31.out
             clear HC31
             by_cases c32:x9_22=true
             ·subst c32
              have H1:(if 1≤((rdOf ByteArray.empty t110 x8_1).size:Int) then (spec_l25Tokens.j3 kj22 x5_1 x6_1 t110 x8_1 true ((rdOf ByteArray.empty t110 x8_1).extract 1 (rdOf ByteArray.empty t110 x8_1).size)) else (none))=some (r1,r2,r3):=by rw [if_pos rfl] at H;exact H
              clear H
              have H:=H1
              clear H1
              by_cases c33:1≤((rdOf ByteArray.empty t110 x8_1).size:Int)
              ·rw [if_pos c33] at H
               have c33b0:=eq_true c33
               have c33b1:decide (1≤((rdOf ByteArray.empty t110 x8_1).size:Int))=true:=decide_eq_true c33
               clear c33
               have H':=Aside0.mk H
               clear H
               go_wp2
               go_meet
               case rel=>exact ⟨_,((rdOf ByteArray.empty t110 x8_1).extract 1 (rdOf ByteArray.empty t110 x8_1).size),zf,H',⟨by have:=HK1.out;have:=HJ15.out;have:=HJ22.out;first|omega|exact Nat.le_refl _⟩,⟨zai⟩,⟨zaj⟩,⟨zad⟩,⟨za⟩⟩
              ·rw [if_neg c33] at H
               exact absurd H zbr
             ·replace c32:=Bool.eq_false_iff.mpr c32
              subst c32
              have H1:(spec_l25Tokens.j3 kj22 x5_1 x6_1 t110 x8_1 false (rdOf ByteArray.empty t110 x8_1))=some (r1,r2,r3):=by rw [if_neg (show ¬ (false=true) by decide)] at H;exact H
              clear H
              have H:=H1
              clear H1
              have H':=Aside0.mk H
              clear H
              go_wp2
              go_meet
              case rel=>exact ⟨_,(rdOf ByteArray.empty t110 x8_1),zf,H',⟨by have:=HK1.out;have:=HJ15.out;have:=HJ22.out;first|omega|exact Nat.le_refl _⟩,⟨zai⟩,⟨zaj⟩,⟨zad⟩,⟨za⟩⟩
            case rest=>
             clear HC31
             try clear c1
             try clear p1
             try clear q1
             try clear hx1
             try clear c2
             try clear c2b0
             try clear c2b1
             try clear p2
             try clear q2
             try clear hx2
             try clear qi2
             try clear c3
             try clear c6
             try clear p6
             try clear c7
             try clear p11
             try clear q11
             try clear hx11
             try clear p12
             try clear q12
             try clear hx12
             try clear c15
             try clear c15b0
             try clear c18
             try clear c18b0
             try clear c19
             try clear c19b0
             try clear c19b1
             try clear c20
             try clear c21
             try clear c24
             try clear c24b0
             try clear c25
             try clear c25b0
             try clear c26
             try clear c26b0
             try clear c26b1
             try clear c27
             try clear c27b0
             try clear c27b1
             try clear p28
             try clear q28
             try clear hx28
             try clear qi28
             try clear c29
             try clear c29b0
             try clear c30
             try clear c30b0
             try clear c32
             try clear c33
             try clear c33b0
             try clear c33b1
             try clear hx113_0
             try clear hx114_0
             try clear hx118_0
             try clear hx119_0
             try clear hx120_0
             try clear p1
             try clear p11
             try clear p113
             try clear p114
             try clear p118
             try clear p119
             try clear p120
             try clear p2
             try clear p28
             try clear p6
             try clear q1
             try clear q11
             try clear q113
             try clear q114
             try clear q118
             try clear q119
             try clear q120
             try clear q2
             try clear q28
             obtain ⟨kq,x10_30,rfl,HA,HJ30,HO_5,HO_6,HO_7,HB⟩:=hcut
             cases kq with
             | zero=>exact absurd HA.out (by simp [spec_l25Tokens.j3])
             | succ kj30=>
              have H:=HA.out
              clear HA
              simp only [spec_l25Tokens.j3] at H
              replace H:=Option.bind_eq_some_iff.mp H
              obtain ⟨⟨t121,t122,t123⟩,A340,H⟩:=H
              replace H:(if t123=true then (if x9_22=true then (if (wrap64 ((x5_1.length:Int) - 1))<0 then (spec_l25Tokens.j4 kj30 x5_1 x6_1 t110 x8_1 x9_22 (wrap64 ((x5_1.length:Int) - 1)) true t121 t122) else (if 0≤(wrap64 ((x5_1.length:Int) - 1)) then (if (wrap64 ((x5_1.length:Int) - 1))<(x5_1.length:Int) then (spec_l25Tokens.j4 kj30 x5_1 x6_1 t110 x8_1 x9_22 (wrap64 ((x5_1.length:Int) - 1)) (((rd_T67 x5_1 (wrap64 ((x5_1.length:Int) - 1))).f0) != t121) t121 t122) else (none)) else (none))) else (spec_l25Tokens.j4 kj30 x5_1 x6_1 t110 x8_1 x9_22 (wrap64 ((x5_1.length:Int) - 1)) false t121 t122)) else (spec_l25Tokens.j4 kj30 x5_1 x6_1 t110 x8_1 x9_22 (wrap64 ((x5_1.length:Int) - 1)) true t121 t122))=some (r1,r2,r3):=H
              have A34:=Aside0.mk A340
              clear A340
              have HC35:=Aside0.mk H
              clear H
              go_upto_region 17 with (first|((with_reducible refine gate_callee (f:=100) rfl ?_);refine goesL_ (some 65) rfl rfl Tryz.func100 zu rfl #[.string x10_30] rfl zc ?_;(with_reducible refine (spec_l09ReadOne.calls kj30 x10_30 t121 t122 t123 _ A34.out).mono ?_);rintro e w36 ⟨rfl,hb⟩;refine ⟨_,rfl,?_⟩;replace HO_5:=Aside0.mk (Kd.R_below zai hb);replace HO_6:=Aside0.mk (Kd.R_below zaj hb);replace HO_7:=Aside0.mk (Kd.R_below zad hb);replace HB:=Aside0.mk (below_step za hb);(try clear hb);(try clear hb2);(try clear hk);(try clear hi))|((with_reducible refine gate_dst (N:=11) rfl ?_);refine box_event ?hg (N:=11) ?hd (cs:=#[.int .i64 0,.int .i64 0]) (t:=67) ?hr ?_;(case hd=>rfl);(case hg=>rfl);(case hr=>exact zo);intro gb124 hg w37 hbox hb;have n0_:=Aside0.mk (Kd.R_below (Kd.R_elderB zai gb124 (Nat.le_of_eq hg.symm)) hb);have n1_:=Aside0.mk (Kd.R_below zaj hb);have n2_:=Aside0.mk (Kd.R_below zad hb);have n3_:=Aside0.mk (below_step za hb);have n4_:=Aside0.mk (hbox);have n5_:=Aside0.mk ((by rw [hg];exact (below_size za):w.heap.size≤gb124));have n6_:=Aside0.mk ((by rw [hg];exact (below_size za):w.heap.size≤gb124));clear HO_5;clear HO_6;clear HO_7;clear HB;have HO_5:=n0_;have HO_6:=n1_;have HO_7:=n2_;have HB:=n3_;have BK124:=n4_;have GW124:=n5_;have GE124:=n6_;clear n0_ n1_ n2_ n3_ n4_ n5_ n6_;clear hb hbox hg;have hcz38_0:w37.cell? ⟨gb124,0,none⟩=some (.int .i64 0):=(blk_cell BK124.out 0).trans rfl;have hcz38_1:w37.cell? ⟨gb124,1,none⟩=some (.int .i64 0):=(blk_cell BK124.out 1).trans rfl;have hfz38_0:=blk_frozen BK124.out 0;have hfz38_1:=blk_frozen BK124.out 1;obtain ⟨Ao39,co39,eo39⟩:=Kd.R_slice HO_5.out;subst eo39))
              (try simp only [Act.put,List.setIfInBounds_toArray,List.set_cons_zero,List.set_cons_succ])
              go_cut [89] (fun v89 wc=>∃(kq:Nat) (x89_34:Bool),v89 = .bool x89_34∧Aside0 (spec_l25Tokens.j4 kq x5_1 x6_1 t110 x8_1 x9_22 (wrap64 ((x5_1.length:Int) - 1)) x89_34 t121 t122=some (r1,r2,r3))∧Aside0 (kq≤kj30)∧Aside0 (Kd.R k67 67 wc w.heap.size (fun k_=>k_≠gb124) (.slice Ao39 x5_1.length co39) x5_1)∧Aside0 (Kd.R (Kd.int .i64) 2 wc w.heap.size (fun _=>True) u6 x6_1)∧Aside0 (Kd.R Kd.string 9 wc w.heap.size (fun _=>True) (.slice (some ad120) t110.length co17) t110)∧Aside0 (wc.heap[gb124]?=some (.cells #[.int .i64 t121,.int .i64 t122] 67 (0,0)))∧Aside0 (Below w.heap.size w wc))
              case first=>
               have H:=HC35.out
               clear HC35
               by_cases c40:t123=true
               ·subst c40
                have H1:(if x9_22=true then (if (wrap64 ((x5_1.length:Int) - 1))<0 then (spec_l25Tokens.j4 kj30 x5_1 x6_1 t110 x8_1 x9_22 (wrap64 ((x5_1.length:Int) - 1)) true t121 t122) else (if 0≤(wrap64 ((x5_1.length:Int) - 1)) then (if (wrap64 ((x5_1.length:Int) - 1))<(x5_1.length:Int) then (spec_l25Tokens.j4 kj30 x5_1 x6_1 t110 x8_1 x9_22 (wrap64 ((x5_1.length:Int) - 1)) (((rd_T67 x5_1 (wrap64 ((x5_1.length:Int) - 1))).f0) != t121) t121 t122) else (none)) else (none))) else (spec_l25Tokens.j4 kj30 x5_1 x6_1 t110 x8_1 x9_22 (wrap64 ((x5_1.length:Int) - 1)) false t121 t122))=some (r1,r2,r3):=by rw [if_pos rfl] at H;exact H
                clear H
                have H:=H1
                clear H1
                by_cases c41:x9_22=true
                ·subst c41
                 have H1:(if (wrap64 ((x5_1.length:Int) - 1))<0 then (spec_l25Tokens.j4 kj30 x5_1 x6_1 t110 x8_1 true (wrap64 ((x5_1.length:Int) - 1)) true t121 t122) else (if 0≤(wrap64 ((x5_1.length:Int) - 1)) then (if (wrap64 ((x5_1.length:Int) - 1))<(x5_1.length:Int) then (spec_l25Tokens.j4 kj30 x5_1 x6_1 t110 x8_1 true (wrap64 ((x5_1.length:Int) - 1)) (((rd_T67 x5_1 (wrap64 ((x5_1.length:Int) - 1))).f0) != t121) t121 t122) else (none)) else (none)))=some (r1,r2,r3):=by rw [if_pos rfl] at H;exact H
                 clear H
                 have H:=H1
                 clear H1
                 by_cases c42:(wrap64 ((x5_1.length:Int) - 1))<0
                 ·rw [if_pos c42] at H
                  have c42b0:decide ((wrap64 ((x5_1.length:Int) - 1))<0)=true:=decide_eq_true c42
                  clear c42
                  (first|rw [c42b0]|(simp only [i64_w,i32_w];rw [c42b0])|skip)
                  have H':=Aside0.mk H
                  clear H
                  try go_wp2
                  have n0_:Aside0 (Kd.R k67 67 ((w37.setCell ⟨gb124,0,none⟩ (.int .i64 t121)).setCell ⟨gb124,1,none⟩ (.int .i64 t122)) w.heap.size (fun k_=>k_≠gb124) (.slice Ao39 x5_1.length co39) x5_1):=⟨zbc⟩
                  have n1_:Aside0 (Kd.R (Kd.int .i64) 2 ((w37.setCell ⟨gb124,0,none⟩ (.int .i64 t121)).setCell ⟨gb124,1,none⟩ (.int .i64 t122)) w.heap.size (fun _=>True) u6 x6_1):=⟨zbg⟩
                  have n2_:Aside0 (Kd.R Kd.string 9 ((w37.setCell ⟨gb124,0,none⟩ (.int .i64 t121)).setCell ⟨gb124,1,none⟩ (.int .i64 t122)) w.heap.size (fun _=>True) (.slice (some ad120) t110.length co17) t110):=⟨zbh⟩
                  have n3_:Aside0 (((w37.setCell ⟨gb124,0,none⟩ (.int .i64 t121)).setCell ⟨gb124,1,none⟩ (.int .i64 t122)).heap[gb124]?=some (.cells #[.int .i64 t121,.int .i64 t122] 67 (0,0))):=⟨zak⟩
                  have n4_:Aside0 (Below w.heap.size w ((w37.setCell ⟨gb124,0,none⟩ (.int .i64 t121)).setCell ⟨gb124,1,none⟩ (.int .i64 t122))):=⟨zas⟩
                  (try clear HO_5)
                  (try clear HO_6)
                  (try clear HO_7)
                  (try clear BK124)
                  (try clear HB)
                  generalize ((w37.setCell ⟨gb124,0,none⟩ (.int .i64 t121)).setCell ⟨gb124,1,none⟩ (.int .i64 t122))=w43 at n0_ n1_ n2_ n3_ n4_ ⊢
                  have HO_5:=n0_
                  have HO_6:=n1_
                  have HO_7:=n2_
                  have BK124:=n3_
                  have HB:=n4_
                  clear n0_ n1_ n2_ n3_ n4_
                  replace HO_5:=Aside0.mk (Kd.R_drew HO_5.out)
                  replace HO_6:=Aside0.mk (Kd.R_drew HO_6.out)
                  replace HO_7:=Aside0.mk (Kd.R_drew HO_7.out)
                  replace BK124:=Aside0.mk (blk_drew BK124.out)
                  replace HB:=Aside0.mk (below_drew1 HB.out)
                  refine start_ (n:=19) (S:=fun w'=>True) (ds:=[]) #[false,false,false,false,false,false,false,false,false,false,false,false,false,false,false,false,false,false,false] zu rfl rfl trivial (fun hHeld=>?_);refine with_tabW spec_l25Tokens.tab17 spec_l25Tokens.bits17 (fun HT_ HW_=>?_)
                  generalize w43.drew=w44 at HO_5 HO_6 HO_7 BK124 HB hHeld ⊢
                  refine pA 0 71 ?_
                  refine pA 1 72 ?_
                  refine pA 2 73 ?_
                  refine pA 3 74 ?_
                  refine pA 4 75 ?_
                  refine pA 5 76 ?_
                  refine pA 6 77 ?_
                  refine pA 7 78 ?_
                  refine pU 8 79 ?_
                  refine pU 9 80 ?_
                  refine pU 10 81 ?_
                  refine pU 11 82 ?_
                  refine pU 12 83 ?_
                  refine pU 13 84 ?_
                  refine pU 14 85 ?_
                  refine pU 15 86 ?_
                  refine pA 16 87 ?_
                  refine pA 17 88 ?_
                  refine pA 18 89 ?_
                  refine done_ (done_of HT_.out zu) ?_
                  try go_wp2
                  go_meet
                  case rel=>exact ⟨_,(true),zf,H',⟨zcy⟩,⟨zai⟩,⟨zaj⟩,⟨zad⟩,⟨zcv⟩,⟨zas⟩⟩
                 ·rw [if_neg c42] at H
                  have c42b0:decide ((wrap64 ((x5_1.length:Int) - 1))<0)=false:=decide_eq_false c42
                  clear c42
                  (first|rw [c42b0]|(simp only [i64_w,i32_w];rw [c42b0])|skip)
                  obtain ⟨ji45,hji45⟩:∃j_:Int,(wrap64 ((x5_1.length:Int) - 1))=j_:=⟨_,rfl⟩
                  replace H:(if 0≤(ji45) then (if (ji45)<(x5_1.length:Int) then (spec_l25Tokens.j4 kj30 x5_1 x6_1 t110 x8_1 true ji45 (((rd_T67 x5_1 (ji45)).f0) != t121) t121 t122) else (none)) else (none))=some (r1,r2,r3):=by first|(rw [hji45] at H;exact H)|(simp only [hji45] at H ⊢;exact H)
                  (try rw [hji45] at c42b0)
                  have hji45w:(IntKind.i64.wrap ((x5_1.length:Int) - 1))=ji45:=(i64_w _).trans hji45
                  by_cases c46:0≤(ji45)
                  ·rw [if_pos c46] at H
                   have c46b0:decide (0≤(ji45))=true:=decide_eq_true c46
                   clear c46
                   by_cases c47:(ji45)<(x5_1.length:Int)
                   ·rw [if_pos c47] at H
                    have c47b0:decide ((ji45)<(x5_1.length:Int))=true:=decide_eq_true c47
                    clear c47
                    have H':=Aside0.mk H
                    clear H
                    try go_wp2
                    have n0_:Aside0 (Kd.R k67 67 ((w37.setCell ⟨gb124,0,none⟩ (.int .i64 t121)).setCell ⟨gb124,1,none⟩ (.int .i64 t122)) w.heap.size (fun k_=>k_≠gb124) (.slice Ao39 x5_1.length co39) x5_1):=⟨zbc⟩
                    have n1_:Aside0 (Kd.R (Kd.int .i64) 2 ((w37.setCell ⟨gb124,0,none⟩ (.int .i64 t121)).setCell ⟨gb124,1,none⟩ (.int .i64 t122)) w.heap.size (fun _=>True) u6 x6_1):=⟨zbg⟩
                    have n2_:Aside0 (Kd.R Kd.string 9 ((w37.setCell ⟨gb124,0,none⟩ (.int .i64 t121)).setCell ⟨gb124,1,none⟩ (.int .i64 t122)) w.heap.size (fun _=>True) (.slice (some ad120) t110.length co17) t110):=⟨zbh⟩
                    have n3_:Aside0 (((w37.setCell ⟨gb124,0,none⟩ (.int .i64 t121)).setCell ⟨gb124,1,none⟩ (.int .i64 t122)).heap[gb124]?=some (.cells #[.int .i64 t121,.int .i64 t122] 67 (0,0))):=⟨zak⟩
                    have n4_:Aside0 (Below w.heap.size w ((w37.setCell ⟨gb124,0,none⟩ (.int .i64 t121)).setCell ⟨gb124,1,none⟩ (.int .i64 t122))):=⟨zas⟩
                    (try clear HO_5)
                    (try clear HO_6)
                    (try clear HO_7)
                    (try clear BK124)
                    (try clear HB)
                    generalize ((w37.setCell ⟨gb124,0,none⟩ (.int .i64 t121)).setCell ⟨gb124,1,none⟩ (.int .i64 t122))=w48 at n0_ n1_ n2_ n3_ n4_ ⊢
                    have HO_5:=n0_
                    have HO_6:=n1_
                    have HO_7:=n2_
                    have BK124:=n3_
                    have HB:=n4_
                    clear n0_ n1_ n2_ n3_ n4_
                    replace HO_5:=Aside0.mk (Kd.R_drew HO_5.out)
                    replace HO_6:=Aside0.mk (Kd.R_drew HO_6.out)
                    replace HO_7:=Aside0.mk (Kd.R_drew HO_7.out)
                    replace BK124:=Aside0.mk (blk_drew BK124.out)
                    replace HB:=Aside0.mk (below_drew1 HB.out)
                    have p125:0≤((ji45):Int):=of_decide_eq_true ze
                    have q125:(ji45)<(x5_1.length:Int):=of_decide_eq_true ze
                    obtain ⟨ad125,e125,hx125_0,hx125_1⟩:=at_T67 (Kd.R_reads' HO_5.out).2.2 (ji45) p125 q125
                    cases e125
                    replace p125:=eq_true p125
                    replace q125:=eq_true q125
                    refine start_ (n:=19) (S:=fun w'=>w'.cell? ⟨gb124,0,none⟩=some (.int .i64 t121)∧w'.cell? ⟨gb124,1,none⟩=some (.int .i64 t122)∧w'.cell? (ad125.add (((ji45)).toNat*2))=some (.int .i64 ((rd_T67 x5_1 (ji45)).f0))∧w'.cell? ⟨(ad125.add (((ji45)).toNat*2)).block,(ad125.add (((ji45)).toNat*2)).off+1,none⟩=some (.int .i64 ((rd_T67 x5_1 (ji45)).f1))) (ds:=[]) #[false,false,false,false,false,false,false,false,false,false,false,false,false,false,false,false,false,false,false] zu rfl rfl ⟨(blk_cell BK124.out 0).trans rfl,(blk_cell BK124.out 1).trans rfl,hx125_0,hx125_1⟩ (fun hHeld=>?_);refine with_tabW spec_l25Tokens.tab17 spec_l25Tokens.bits17 (fun HT_ HW_=>?_)
                    generalize w48.drew=w49 at HO_5 HO_6 HO_7 BK124 HB hx125_0 hx125_1 hHeld ⊢
                    refine pA 0 71 ?_
                    refine pA 1 72 ?_
                    refine pA 2 73 ?_
                    refine pA 3 74 ?_
                    refine pA 4 75 ?_
                    refine pA 5 76 ?_
                    refine pA 6 77 ?_
                    refine pA 7 78 ?_
                    refine pA 8 79 ?_
                    refine pA 9 80 ?_
                    refine pA 10 81 ?_
                    refine pA 11 82 ?_
                    refine pA 13 84 ?_
                    refine pT 12 83 rfl zch ?_
                    refine pT 14 85 rfl zch ?_
                    refine pA 15 86 ?_
                    refine pA 16 87 ?_
                    refine pA 17 88 ?_
                    refine pA 18 89 ?_
                    refine done_ (done_of HT_.out zu) ?_
                    try go_wp2
                    (try rw [←hji45] at H')
                    (try rw [←hji45])
                    go_meet
                    case rel=>exact ⟨_,(_),(by first|rfl|(simp;done)|(simp only [←hji45]<;>(first|rfl|simp))|(simp [*];done)),H',⟨zcy⟩,⟨zai⟩,⟨zaj⟩,⟨zad⟩,⟨zcv⟩,⟨zas⟩⟩
                   ·rw [if_neg c47] at H
                    exact absurd H zbr
                  ·rw [if_neg c46] at H
                   exact absurd H zbr
                ·replace c41:=Bool.eq_false_iff.mpr c41
                 subst c41
                 have H1:(spec_l25Tokens.j4 kj30 x5_1 x6_1 t110 x8_1 false (wrap64 ((x5_1.length:Int) - 1)) false t121 t122)=some (r1,r2,r3):=by rw [if_neg (show ¬ (false=true) by decide)] at H;exact H
                 clear H
                 have H:=H1
                 clear H1
                 have H':=Aside0.mk H
                 clear H
                 try go_wp2
                 have n0_:Aside0 (Kd.R k67 67 ((w37.setCell ⟨gb124,0,none⟩ (.int .i64 t121)).setCell ⟨gb124,1,none⟩ (.int .i64 t122)) w.heap.size (fun k_=>k_≠gb124) (.slice Ao39 x5_1.length co39) x5_1):=⟨zbc⟩
                 have n1_:Aside0 (Kd.R (Kd.int .i64) 2 ((w37.setCell ⟨gb124,0,none⟩ (.int .i64 t121)).setCell ⟨gb124,1,none⟩ (.int .i64 t122)) w.heap.size (fun _=>True) u6 x6_1):=⟨zbg⟩
                 have n2_:Aside0 (Kd.R Kd.string 9 ((w37.setCell ⟨gb124,0,none⟩ (.int .i64 t121)).setCell ⟨gb124,1,none⟩ (.int .i64 t122)) w.heap.size (fun _=>True) (.slice (some ad120) t110.length co17) t110):=⟨zbh⟩
                 have n3_:Aside0 (((w37.setCell ⟨gb124,0,none⟩ (.int .i64 t121)).setCell ⟨gb124,1,none⟩ (.int .i64 t122)).heap[gb124]?=some (.cells #[.int .i64 t121,.int .i64 t122] 67 (0,0))):=⟨zak⟩
                 have n4_:Aside0 (Below w.heap.size w ((w37.setCell ⟨gb124,0,none⟩ (.int .i64 t121)).setCell ⟨gb124,1,none⟩ (.int .i64 t122))):=⟨zas⟩
                 (try clear HO_5)
                 (try clear HO_6)
                 (try clear HO_7)
                 (try clear BK124)
                 (try clear HB)
                 generalize ((w37.setCell ⟨gb124,0,none⟩ (.int .i64 t121)).setCell ⟨gb124,1,none⟩ (.int .i64 t122))=w50 at n0_ n1_ n2_ n3_ n4_ ⊢
                 have HO_5:=n0_
                 have HO_6:=n1_
                 have HO_7:=n2_
                 have BK124:=n3_
                 have HB:=n4_
                 clear n0_ n1_ n2_ n3_ n4_
                 replace HO_5:=Aside0.mk (Kd.R_drew HO_5.out)
                 replace HO_6:=Aside0.mk (Kd.R_drew HO_6.out)
                 replace HO_7:=Aside0.mk (Kd.R_drew HO_7.out)
                 replace BK124:=Aside0.mk (blk_drew BK124.out)
                 replace HB:=Aside0.mk (below_drew1 HB.out)
                 refine start_ (n:=19) (S:=fun w'=>True) (ds:=[]) #[false,false,false,false,false,false,false,false,false,false,false,false,false,false,false,false,false,false,false] zu rfl rfl trivial (fun hHeld=>?_);refine with_tabW spec_l25Tokens.tab17 spec_l25Tokens.bits17 (fun HT_ HW_=>?_)
                 generalize w50.drew=w51 at HO_5 HO_6 HO_7 BK124 HB hHeld ⊢
                 refine pA 0 71 ?_
                 refine pA 1 72 ?_
                 refine pA 2 73 ?_
                 refine pA 3 74 ?_
                 refine pA 4 75 ?_
                 refine pU 5 76 ?_
                 refine pU 6 77 ?_
                 refine pU 7 78 ?_
                 refine pU 8 79 ?_
                 refine pU 9 80 ?_
                 refine pU 10 81 ?_
                 refine pU 11 82 ?_
                 refine pU 12 83 ?_
                 refine pU 13 84 ?_
                 refine pU 14 85 ?_
                 refine pU 15 86 ?_
                 refine pU 16 87 ?_
                 refine pA 17 88 ?_
                 refine pA 18 89 ?_
                 refine done_ (done_of HT_.out zu) ?_
                 try go_wp2
                 go_meet
                 case rel=>exact ⟨_,(false),zf,H',⟨zcy⟩,⟨zai⟩,⟨zaj⟩,⟨zad⟩,⟨zcv⟩,⟨zas⟩⟩
               ·replace c40:=Bool.eq_false_iff.mpr c40
                subst c40
                have H1:(spec_l25Tokens.j4 kj30 x5_1 x6_1 t110 x8_1 x9_22 (wrap64 ((x5_1.length:Int) - 1)) true t121 t122)=some (r1,r2,r3):=by rw [if_neg (show ¬ (false=true) by decide)] at H;exact H
                clear H
                have H:=H1
                clear H1
                have H':=Aside0.mk H
                clear H
                try go_wp2
                have n0_:Aside0 (Kd.R k67 67 ((w37.setCell ⟨gb124,0,none⟩ (.int .i64 t121)).setCell ⟨gb124,1,none⟩ (.int .i64 t122)) w.heap.size (fun k_=>k_≠gb124) (.slice Ao39 x5_1.length co39) x5_1):=⟨zbc⟩
                have n1_:Aside0 (Kd.R (Kd.int .i64) 2 ((w37.setCell ⟨gb124,0,none⟩ (.int .i64 t121)).setCell ⟨gb124,1,none⟩ (.int .i64 t122)) w.heap.size (fun _=>True) u6 x6_1):=⟨zbg⟩
                have n2_:Aside0 (Kd.R Kd.string 9 ((w37.setCell ⟨gb124,0,none⟩ (.int .i64 t121)).setCell ⟨gb124,1,none⟩ (.int .i64 t122)) w.heap.size (fun _=>True) (.slice (some ad120) t110.length co17) t110):=⟨zbh⟩
                have n3_:Aside0 (((w37.setCell ⟨gb124,0,none⟩ (.int .i64 t121)).setCell ⟨gb124,1,none⟩ (.int .i64 t122)).heap[gb124]?=some (.cells #[.int .i64 t121,.int .i64 t122] 67 (0,0))):=⟨zak⟩
                have n4_:Aside0 (Below w.heap.size w ((w37.setCell ⟨gb124,0,none⟩ (.int .i64 t121)).setCell ⟨gb124,1,none⟩ (.int .i64 t122))):=⟨zas⟩
                (try clear HO_5)
                (try clear HO_6)
                (try clear HO_7)
                (try clear BK124)
                (try clear HB)
                generalize ((w37.setCell ⟨gb124,0,none⟩ (.int .i64 t121)).setCell ⟨gb124,1,none⟩ (.int .i64 t122))=w52 at n0_ n1_ n2_ n3_ n4_ ⊢
                have HO_5:=n0_
                have HO_6:=n1_
                have HO_7:=n2_
                have BK124:=n3_
                have HB:=n4_
                clear n0_ n1_ n2_ n3_ n4_
                replace HO_5:=Aside0.mk (Kd.R_drew HO_5.out)
                replace HO_6:=Aside0.mk (Kd.R_drew HO_6.out)
                replace HO_7:=Aside0.mk (Kd.R_drew HO_7.out)
                replace BK124:=Aside0.mk (blk_drew BK124.out)
                replace HB:=Aside0.mk (below_drew1 HB.out)
                refine start_ (n:=19) (S:=fun w'=>True) (ds:=[]) #[false,false,false,false,false,false,false,false,false,false,false,false,false,false,false,false,false,false,false] zu rfl rfl trivial (fun hHeld=>?_);refine with_tabW spec_l25Tokens.tab17 spec_l25Tokens.bits17 (fun HT_ HW_=>?_)
                generalize w52.drew=w53 at HO_5 HO_6 HO_7 BK124 HB hHeld ⊢
                refine pA 0 71 ?_
                refine pA 1 72 ?_
                refine pA 2 73 ?_
                refine pU 3 74 ?_
                refine pU 4 75 ?_
                refine pU 5 76 ?_
                refine pU 6 77 ?_
                refine pU 7 78 ?_
                refine pU 8 79 ?_
                refine pU 9 80 ?_
                refine pU 10 81 ?_
                refine pU 11 82 ?_
                refine pU 12 83 ?_
                refine pU 13 84 ?_
                refine pU 14 85 ?_
                refine pU 15 86 ?_
                refine pU 16 87 ?_
                refine pU 17 88 ?_
                refine pA 18 89 ?_
                refine done_ (done_of HT_.out zu) ?_
                try go_wp2
                go_meet
                case rel=>exact ⟨_,(true),zf,H',⟨zcy⟩,⟨zai⟩,⟨zaj⟩,⟨zad⟩,⟨zcv⟩,⟨zas⟩⟩
              case rest=>
               clear HC35
               try clear p1
               try clear q1
               try clear hx1
               try clear p2
               try clear c4
               try clear p6
               try clear p12
               try clear q12
               try clear hx12
               try clear c40
               try clear c41
               try clear c42
               try clear c42b0
               try clear c46
               try clear c46b0
               try clear c47
               try clear c47b0
               try clear hx125_0
               try clear hx125_1
               try clear p125
               try clear q125
               obtain ⟨kq,x89_34,rfl,HA,HJ34,HO_5,HO_6,HO_7,BK124,HB⟩:=hcut
               cases kq with
               | zero=>exact absurd HA.out (by simp [spec_l25Tokens.j4])
               | succ kj34=>
                have H:=HA.out
                clear HA
                simp only [spec_l25Tokens.j4] at H
                by_cases c54:x89_34=true
                ·subst c54
                 have H1:(some (([]:List (S67)),([]:List Int),false))=some (r1,r2,r3):=by rw [if_pos rfl] at H;exact H
                 clear H
                 have H:=H1
                 clear H1
                 simp only [Option.some.injEq,Prod.mk.injEq] at H
                 obtain ⟨rfl,rfl,rfl⟩:=H
                 go_wp2
                 go_ret3
                 exact ⟨_,_,zg,zl,zl,zas⟩
                ·replace c54:=Bool.eq_false_iff.mpr c54
                 subst c54
                 have H1:(if 0≤(wrap64 ((x6_1.length:Int) - 1)) then (if (wrap64 ((x6_1.length:Int) - 1))<(x6_1.length:Int) then ((some (x6_1.set ((wrap64 ((x6_1.length:Int) - 1)):Int).toNat (wrap64 ((rd x6_1 (wrap64 ((x6_1.length:Int) - 1)))+t122)):List Int)).bind fun y127=>(if x9_22=true then (if 0≤(wrap64 ((x5_1.length:Int) - 1)) then (if (wrap64 ((x5_1.length:Int) - 1))<(x5_1.length:Int) then (spec_l25Tokens.l0 kj34 (x5_1.set ((wrap64 ((x5_1.length:Int) - 1)):Int).toNat (⟨(rd_T67 x5_1 (wrap64 ((x5_1.length:Int) - 1))).f0,wrap64 (((rd_T67 x5_1 (wrap64 ((x5_1.length:Int) - 1))).f1)+t122)⟩:S67)) y127 t110 (wrap64 (x8_1+1))) else (none)) else (none)) else (if x5_1.length<8796093022208 then (spec_l25Tokens.l0 kj34 (x5_1++[(⟨t121,t122⟩:S67)]) y127 t110 (wrap64 (x8_1+1))) else (none)))) else (none)) else (none))=some (r1,r2,r3):=by rw [if_neg (show ¬ (false=true) by decide)] at H;exact H
                 clear H
                 have H:=H1
                 clear H1
                 obtain ⟨ji55,hji55⟩:∃j_:Int,(wrap64 ((x6_1.length:Int) - 1))=j_:=⟨_,rfl⟩
                 replace H:(if 0≤(ji55) then (if (ji55)<(x6_1.length:Int) then ((some (x6_1.set ((ji55):Int).toNat (wrap64 ((rd x6_1 (ji55))+t122)):List Int)).bind fun y127=>(if x9_22=true then (if 0≤(wrap64 ((x5_1.length:Int) - 1)) then (if (wrap64 ((x5_1.length:Int) - 1))<(x5_1.length:Int) then (spec_l25Tokens.l0 kj34 (x5_1.set ((wrap64 ((x5_1.length:Int) - 1)):Int).toNat (⟨(rd_T67 x5_1 (wrap64 ((x5_1.length:Int) - 1))).f0,wrap64 (((rd_T67 x5_1 (wrap64 ((x5_1.length:Int) - 1))).f1)+t122)⟩:S67)) y127 t110 (wrap64 (x8_1+1))) else (none)) else (none)) else (if x5_1.length<8796093022208 then (spec_l25Tokens.l0 kj34 (x5_1++[(⟨t121,t122⟩:S67)]) y127 t110 (wrap64 (x8_1+1))) else (none)))) else (none)) else (none))=some (r1,r2,r3):=by first|(rw [hji55] at H;exact H)|(simp only [hji55] at H ⊢;exact H)
                 have hji55w:(IntKind.i64.wrap ((x6_1.length:Int) - 1))=ji55:=(i64_w _).trans hji55
                 by_cases c56:0≤(ji55)
                 ·rw [if_pos c56] at H
                  have c56b0:decide (0≤(ji55))=true:=decide_eq_true c56
                  clear c56
                  by_cases c57:(ji55)<(x6_1.length:Int)
                  ·rw [if_pos c57] at H
                   have c57b0:decide ((ji55)<(x6_1.length:Int))=true:=decide_eq_true c57
                   clear c57
                   obtain ⟨y127,hy127⟩:∃y_:List Int,y_=(x6_1.set ((ji55):Int).toNat (wrap64 ((rd x6_1 (ji55))+t122))):=⟨_,rfl⟩
                   replace H:(if x9_22=true then (if 0≤(wrap64 ((x5_1.length:Int) - 1)) then (if (wrap64 ((x5_1.length:Int) - 1))<(x5_1.length:Int) then (spec_l25Tokens.l0 kj34 (x5_1.set ((wrap64 ((x5_1.length:Int) - 1)):Int).toNat (⟨(rd_T67 x5_1 (wrap64 ((x5_1.length:Int) - 1))).f0,wrap64 (((rd_T67 x5_1 (wrap64 ((x5_1.length:Int) - 1))).f1)+t122)⟩:S67)) y127 t110 (wrap64 (x8_1+1))) else (none)) else (none)) else (if x5_1.length<8796093022208 then (spec_l25Tokens.l0 kj34 (x5_1++[(⟨t121,t122⟩:S67)]) y127 t110 (wrap64 (x8_1+1))) else (none)))=some (r1,r2,r3):=by first|(rw [hy127];with_reducible exact H)|(have H2_:=(Option.bind_some _ _).symm.trans H;rw [hy127];with_reducible exact H2_)|(have H2_:=(Option.bind_some _ _).symm.trans H;with_reducible exact H2_)|with_reducible exact H|(rw [hy127];exact H)|exact H
                   have Ny127:=Aside0.mk hy127
                   clear hy127
                   by_cases c59:x9_22=true
                   ·subst c59
                    have H1:(if 0≤(wrap64 ((x5_1.length:Int) - 1)) then (if (wrap64 ((x5_1.length:Int) - 1))<(x5_1.length:Int) then (spec_l25Tokens.l0 kj34 (x5_1.set ((wrap64 ((x5_1.length:Int) - 1)):Int).toNat (⟨(rd_T67 x5_1 (wrap64 ((x5_1.length:Int) - 1))).f0,wrap64 (((rd_T67 x5_1 (wrap64 ((x5_1.length:Int) - 1))).f1)+t122)⟩:S67)) y127 t110 (wrap64 (x8_1+1))) else (none)) else (none))=some (r1,r2,r3):=by rw [if_pos rfl] at H;exact H
                    clear H
                    have H:=H1
                    clear H1
                    obtain ⟨ji60,hji60⟩:∃j_:Int,(wrap64 ((x5_1.length:Int) - 1))=j_:=⟨_,rfl⟩
                    replace H:(if 0≤(ji60) then (if (ji60)<(x5_1.length:Int) then (spec_l25Tokens.l0 kj34 (x5_1.set ((ji60):Int).toNat (⟨(rd_T67 x5_1 (ji60)).f0,wrap64 (((rd_T67 x5_1 (ji60)).f1)+t122)⟩:S67)) y127 t110 (wrap64 (x8_1+1))) else (none)) else (none))=some (r1,r2,r3):=by first|(rw [hji60] at H;exact H)|(simp only [hji60] at H ⊢;exact H)
                    have hji60w:(IntKind.i64.wrap ((x5_1.length:Int) - 1))=ji60:=(i64_w _).trans hji60
                    by_cases c61:0≤(ji60)
                    ·rw [if_pos c61] at H
                     have c61b0:decide (0≤(ji60))=true:=decide_eq_true c61
                     clear c61
                     by_cases c62:(ji60)<(x5_1.length:Int)
                     ·rw [if_pos c62] at H
                      have c62b0:decide ((ji60)<(x5_1.length:Int))=true:=decide_eq_true c62
                      clear c62
                      obtain ⟨y129,hy129⟩:∃y_:List (S67),y_=(x5_1.set ((ji60):Int).toNat (⟨(rd_T67 x5_1 (ji60)).f0,wrap64 (((rd_T67 x5_1 (ji60)).f1)+t122)⟩:S67)):=⟨_,rfl⟩
                      replace H:(spec_l25Tokens.l0 kj34 y129 y127 t110 (wrap64 (x8_1+1)))=some (r1,r2,r3):=by first|(rw [hy129];with_reducible exact H)|(have H2_:=(Option.bind_some _ _).symm.trans H;rw [hy129];with_reducible exact H2_)|(have H2_:=(Option.bind_some _ _).symm.trans H;with_reducible exact H2_)|with_reducible exact H|(rw [hy129];exact H)|exact H
                      have Ny129:=Aside0.mk hy129
                      clear hy129
                      have H':=Aside0.mk H
                      clear H
                      try go_wp2
                      replace HO_5:=Aside0.mk (Kd.R_drew HO_5.out)
                      replace HO_6:=Aside0.mk (Kd.R_drew HO_6.out)
                      replace HO_7:=Aside0.mk (Kd.R_drew HO_7.out)
                      replace BK124:=Aside0.mk (blk_drew BK124.out)
                      replace HB:=Aside0.mk (below_drew1 HB.out)
                      obtain ⟨Ao65,co65,eo65⟩:=Kd.R_slice HO_6.out
                      (first|subst eo65|(injection eo65 with f1_ f2_ f3_;have f4_:=f1_.symm;have f5_:=f3_.symm;clear f1_ f2_ f3_;subst f4_;subst f5_))
                      have p126:0≤((ji55):Int):=of_decide_eq_true ze
                      have q126:(ji55)<(x6_1.length:Int):=of_decide_eq_true ze
                      obtain ⟨ad126,e126,hx126_0⟩:=Kd.at_int (Kd.R_reads' HO_6.out).2.2 (ji55) p126 q126
                      cases e126
                      replace p126:=eq_true p126
                      replace q126:=eq_true q126
                      have p58:0≤((ji55):Int):=of_decide_eq_true ze
                      have q58:((ji55):Int)<((x6_1.length:Int):Int):=of_decide_eq_true ze
                      obtain ⟨go58,co58,eo58,gb58,gl58,cl58,HG58⟩:=Kd.R_form HO_6.out zbd
                      (first|cases eo58|(injection eo58 with ea_ en_ ec_;(first|subst ea_|(injection ea_ with ea_;subst ea_));subst ec_;clear en_))
                      have GB58:=Aside0.mk gb58
                      have GG58:=Aside0.mk HG58
                      clear gb58 gl58 HG58
                      (first|simp only [add_plain] at hx126_0|skip)
                      obtain ⟨hx58_0,hf58_0⟩:=Kd.R_celln 0 HO_6.out ((ji55):Int) p58 q58
                      replace p58:=eq_true p58
                      replace q58:=eq_true q58
                      have HP66:=Kd.R_putn HO_6.out ((ji55):Int) (wrap64 ((rd x6_1 (ji55))+t122))
                      rw [←Ny127.out] at HP66
                      have HQ66:=Aside0.mk HP66
                      clear HP66
                      refine start_ (n:=11) (S:=fun w'=>w'.cell? ⟨gb124,0,none⟩=some (.int .i64 t121)∧w'.cell? ⟨gb124,1,none⟩=some (.int .i64 t122)∧w'.cell? ⟨go58,((ji55)).toNat,none⟩=some (.int .i64 (rd x6_1 (ji55)))) (ds:=[10]) #[false,false,false,false,false,false,false,false,false,false,false] zu rfl rfl ⟨(blk_cell BK124.out 0).trans rfl,(blk_cell BK124.out 1).trans rfl,hx126_0⟩ (fun hHeld=>?_);refine with_tabW spec_l25Tokens.tab19 spec_l25Tokens.bits19 (fun HT_ HW_=>?_)
                      generalize wc.drew=w64 at HO_5 HO_6 HO_7 BK124 HB GG58 HQ66 hf58_0 hx126_0 hx58_0 hHeld ⊢
                      refine pA 0 90 ?_
                      refine pA 1 91 ?_
                      refine pA 2 92 ?_
                      refine pA 3 93 ?_
                      refine pA 4 94 ?_
                      refine pA 6 96 ?_
                      refine pT 5 95 rfl (by rintro w' ⟨s0,s1,s2⟩;go_simp;with_reducible rfl) ?_
                      refine pT 7 97 rfl (by rintro w' ⟨s0,s1,s2⟩;go_simp;with_reducible rfl) ?_
                      refine pA 8 98 ?_
                      refine pA 9 99 ?_
                      refine last_ (i:=10) (N:=none) #[true,true,true,true,true,true,true,true,true,true,true] rfl rfl (one_of HT_.out zu) zbm (fun K hK=>?_)
                      refine skip_ (w1:=?_) (by rfl) rfl ?_ ?_
                      rotate_left
                      ·go_simp
                       rfl
                      refine hK.out _ _ ?_
                      clear hK K
                      refine done_ (done_of HT_.out zu) ?_
                      try go_wp2
                      have n0_:Aside0 (Kd.R k67 67 (w64.setCell ⟨go58,((ji55):Int).toNat,none⟩ (.int .i64 (wrap64 ((rd x6_1 (ji55))+t122)))) w.heap.size (fun k_=>k_≠gb124) (.slice Ao39 x5_1.length co39) x5_1):=⟨by (with_reducible repeat (first|apply Kd.R_alloc|apply Kd.R_drewN|apply Kd.R_drew));exact Kd.R_mono (Kd.R_far (p:=⟨go58,((ji55):Int).toNat,none⟩) (Kd.R_types HO_5.out GG58.out zbm) (fun _ hk=>hk.2) (.int .i64 (wrap64 ((rd x6_1 (ji55))+t122)))) (fun _ hk=>hk.1)⟩
                      have n1_:Aside0 (Kd.R (Kd.int .i64) 2 (w64.setCell ⟨go58,((ji55):Int).toNat,none⟩ (.int .i64 (wrap64 ((rd x6_1 (ji55))+t122)))) w.heap.size (fun _=>True) (.slice (some ⟨go58,0,none⟩) x6_1.length co65) y127):=⟨by (with_reducible repeat (first|apply Kd.R_alloc|apply Kd.R_drewN|apply Kd.R_drew));exact HQ66.out⟩
                      have n2_:Aside0 (Kd.R Kd.string 9 (w64.setCell ⟨go58,((ji55):Int).toNat,none⟩ (.int .i64 (wrap64 ((rd x6_1 (ji55))+t122)))) w.heap.size (fun _=>True) (.slice (some ad120) t110.length co17) t110):=⟨by (with_reducible repeat (first|apply Kd.R_alloc|apply Kd.R_drewN|apply Kd.R_drew));exact Kd.R_mono (Kd.R_far (p:=⟨go58,((ji55):Int).toNat,none⟩) (Kd.R_types HO_7.out GG58.out zbm) (fun _ hk=>hk.2) (.int .i64 (wrap64 ((rd x6_1 (ji55))+t122)))) (fun _ hk=>trivial)⟩
                      have n3_:Aside0 ((w64.setCell ⟨go58,((ji55):Int).toNat,none⟩ (.int .i64 (wrap64 ((rd x6_1 (ji55))+t122)))).heap[gb124]?=some (.cells #[.int .i64 t121,.int .i64 t122] 67 (0,0))):=⟨zbs⟩
                      have n4_:Aside0 (Below w.heap.size w (w64.setCell ⟨go58,((ji55):Int).toNat,none⟩ (.int .i64 (wrap64 ((rd x6_1 (ji55))+t122))))):=⟨zcl⟩
                      (try clear HO_5)
                      (try clear HO_6)
                      (try clear HO_7)
                      (try clear BK124)
                      (try clear HB)
                      generalize (w64.setCell ⟨go58,((ji55):Int).toNat,none⟩ (.int .i64 (wrap64 ((rd x6_1 (ji55))+t122))))=w67 at n0_ n1_ n2_ n3_ n4_ ⊢
                      have HO_5:=n0_
                      have HO_6:=n1_
                      have HO_7:=n2_
                      have BK124:=n3_
                      have HB:=n4_
                      clear n0_ n1_ n2_ n3_ n4_
                      replace HO_5:=Aside0.mk (Kd.R_drew HO_5.out)
                      replace HO_6:=Aside0.mk (Kd.R_drew HO_6.out)
                      replace HO_7:=Aside0.mk (Kd.R_drew HO_7.out)
                      replace BK124:=Aside0.mk (blk_drew BK124.out)
                      replace HB:=Aside0.mk (below_drew1 HB.out)
                      have p128:0≤((ji60):Int):=of_decide_eq_true ze
                      have q128:(ji60)<(x5_1.length:Int):=of_decide_eq_true ze
                      obtain ⟨ad128,e128,hx128_0,hx128_1⟩:=at_T67 (Kd.R_reads' HO_5.out).2.2 (ji60) p128 q128
                      cases e128
                      replace p128:=eq_true p128
                      replace q128:=eq_true q128
                      have p63:0≤((ji60):Int):=of_decide_eq_true ze
                      have q63:((ji60):Int)<((x5_1.length:Int):Int):=of_decide_eq_true ze
                      obtain ⟨go63,co63,eo63,gb63,gl63,cl63,HG63⟩:=Kd.R_form HO_5.out zbd
                      (first|cases eo63|(injection eo63 with ea_ en_ ec_;(first|subst ea_|(injection ea_ with ea_;subst ea_));subst ec_;clear en_))
                      have GB63:=Aside0.mk gb63
                      have GG63:=Aside0.mk HG63
                      clear gb63 gl63 HG63
                      (first|simp only [add_plain] at hx128_0|skip)
                      (first|simp only [add_plain] at hx128_1|skip)
                      obtain ⟨ce63,hcl63,hM63,hcc63,hfr63⟩:=Kd.R_elem HO_5.out z67 ((ji60):Int) p63 q63
                      obtain rfl:=k67_openM hM63
                      have hx63_0:World.cell? _ ⟨go63,((ji60):Int).toNat*2,none⟩=some (.int .i64 ((rd_T67 x5_1 (ji60)).f0)):=hcc63 0 _ rfl
                      have hx63_1:World.cell? _ ⟨go63,((ji60):Int).toNat*2+1,none⟩=some (.int .i64 ((rd_T67 x5_1 (ji60)).f1)):=hcc63 1 _ rfl
                      have hf63_0:World.frozen? _ ⟨go63,((ji60):Int).toNat*2,none⟩=false:=hfr63 0
                      have hf63_1:World.frozen? _ ⟨go63,((ji60):Int).toNat*2+1,none⟩=false:=hfr63 1
                      clear hcl63 hcc63 hfr63 hM63
                      replace p63:=eq_true p63
                      replace q63:=eq_true q63
                      obtain ⟨ce69,hcl69,hM69,hcc69,hfr69⟩:=Kd.R_elem HO_5.out z67 ((ji60):Int) (of_decide_eq_true ze) (by have h_:((ji60):Int)<((x5_1.length:Int):Int):=of_decide_eq_true ze;first|exact h_|(have e_:=(Kd.R_reads' HO_5.out).1;omega)|simpa using h_)
                      obtain rfl:=k67_openM hM69
                      have HP69:=(Kd.R_seg HO_5.out ((ji60):Int) (of_decide_eq_true ze) (by have h_:((ji60):Int)<((x5_1.length:Int):Int):=of_decide_eq_true ze;first|exact h_|(have e_:=(Kd.R_reads' HO_5.out).1;omega)|simpa using h_) (seg:=[.int .i64 (wrap64 (((rd_T67 x5_1 (ji60)).f1)+t122))]) (j:=1) hcl69 hcc69 (show 2≤2 from by decide) (x':=(⟨(rd_T67 x5_1 (ji60)).f0,wrap64 (((rd_T67 x5_1 (ji60)).f1)+t122)⟩:S67)) (k67_mkM _ _ _ (⟨(rd_T67 x5_1 (ji60)).f0,wrap64 (((rd_T67 x5_1 (ji60)).f1)+t122)⟩:S67)) (fun _ hk=>hk)).1
                      rw [←Ny129.out] at HP69
                      have HQ69:=Aside0.mk HP69
                      clear hcl69 hcc69 hfr69 hM69 HP69
                      refine start_ (n:=11) (S:=fun w'=>w'.cell? ⟨gb124,0,none⟩=some (.int .i64 t121)∧w'.cell? ⟨gb124,1,none⟩=some (.int .i64 t122)∧w'.cell? ⟨go63,((ji60)).toNat*2,none⟩=some (.int .i64 ((rd_T67 x5_1 (ji60)).f0))∧w'.cell? ⟨go63,((ji60)).toNat*2+1,none⟩=some (.int .i64 ((rd_T67 x5_1 (ji60)).f1))) (ds:=[10]) #[false,false,false,false,false,false,false,false,false,false,false] zu rfl rfl ⟨(blk_cell BK124.out 0).trans rfl,(blk_cell BK124.out 1).trans rfl,hx128_0,hx128_1⟩ (fun hHeld=>?_);refine with_tabW spec_l25Tokens.tab21 spec_l25Tokens.bits21 (fun HT_ HW_=>?_)
                      generalize w67.drew=w68 at HO_5 HO_6 HO_7 BK124 HB GG63 HQ66 HQ69 hf63_0 hf63_1 hx128_0 hx128_1 hx63_0 hx63_1 hHeld ⊢
                      refine pA 0 101 ?_
                      refine pA 1 102 ?_
                      refine pA 2 103 ?_
                      refine pA 3 104 ?_
                      refine pA 5 106 ?_
                      refine pT 4 105 rfl zch ?_
                      refine pT 6 107 rfl zch ?_
                      refine pA 7 108 ?_
                      refine pA 8 109 ?_
                      refine pA 9 110 ?_
                      refine last_ (i:=10) (N:=none) #[true,true,true,true,true,true,true,true,true,true,true] rfl rfl (one_of HT_.out zu) zbm (fun K hK=>?_)
                      refine skip_ (w1:=?_) (by rfl) rfl ?_ ?_
                      rotate_left
                      ·go_simp
                       rfl
                      refine hK.out _ _ ?_
                      clear hK K
                      refine done_ (done_of HT_.out zu) ?_
                      try go_wp2
                      go_roundg kj34
                      case measure=>have:=HK1.out;have:=HJ15.out;have:=HJ22.out;have:=HJ30.out;have:=HJ34.out;omega
                      case rel=>exact ⟨(y129),(y127),(wrap64 (x8_1+1)),zf,H',⟨by have:=HK1.out;have:=HJ15.out;have:=HJ22.out;have:=HJ30.out;have:=HJ34.out;omega⟩,⟨by (with_reducible repeat (first|apply Kd.R_alloc|apply Kd.R_drewN|apply Kd.R_drew));exact Kd.R_mono HQ69.out (fun _ hk=>trivial)⟩,⟨by (with_reducible repeat (first|apply Kd.R_alloc|apply Kd.R_drewN|apply Kd.R_drew));exact Kd.R_mono (Kd.R_far (p:=⟨go63,((ji60):Int).toNat*2+1,none⟩) (Kd.R_types HO_6.out GG63.out zbm) (fun _ hk=>hk.2) (.int .i64 (wrap64 (((rd_T67 x5_1 (ji60)).f1)+t122)))) (fun _ hk=>trivial)⟩,⟨by (with_reducible repeat (first|apply Kd.R_alloc|apply Kd.R_drewN|apply Kd.R_drew));exact Kd.R_mono (Kd.R_far (p:=⟨go63,((ji60):Int).toNat*2+1,none⟩) (Kd.R_types HO_7.out GG63.out zbm) (fun _ hk=>hk.2) (.int .i64 (wrap64 (((rd_T67 x5_1 (ji60)).f1)+t122)))) (fun _ hk=>trivial)⟩,⟨by repeat (first|(with_reducible first|exact HB.out|apply below_alloc|apply pw_below_drewN|apply below_drew1|refine below_set ?_ GB63.out|refine below_set ?_ GE124.out)|exact HB.out)⟩⟩
                     ·rw [if_neg c62] at H
                      exact absurd H zbr
                    ·rw [if_neg c61] at H
                     exact absurd H zbr
                   ·replace c59:=Bool.eq_false_iff.mpr c59
                    subst c59
                    have H1:(if x5_1.length<8796093022208 then (spec_l25Tokens.l0 kj34 (x5_1++[(⟨t121,t122⟩:S67)]) y127 t110 (wrap64 (x8_1+1))) else (none))=some (r1,r2,r3):=by rw [if_neg (show ¬ (false=true) by decide)] at H;exact H
                    clear H
                    have H:=H1
                    clear H1
                    by_cases c70:x5_1.length<8796093022208
                    ·rw [if_pos c70] at H
                     have LMc70:=Aside0.mk c70
                     clear c70
                     obtain ⟨y130,hy130⟩:∃y_:List (S67),y_=(x5_1++[(⟨t121,t122⟩:S67)]):=⟨_,rfl⟩
                     replace H:(spec_l25Tokens.l0 kj34 y130 y127 t110 (wrap64 (x8_1+1)))=some (r1,r2,r3):=by first|(rw [hy130];with_reducible exact H)|(have H2_:=(Option.bind_some _ _).symm.trans H;rw [hy130];with_reducible exact H2_)|(have H2_:=(Option.bind_some _ _).symm.trans H;with_reducible exact H2_)|with_reducible exact H|(rw [hy130];exact H)|exact H
                     have Ny130:=Aside0.mk hy130
                     clear hy130
                     have H':=Aside0.mk H
                     clear H
                     try go_wp2
                     replace HO_5:=Aside0.mk (Kd.R_drew HO_5.out)
                     replace HO_6:=Aside0.mk (Kd.R_drew HO_6.out)
                     replace HO_7:=Aside0.mk (Kd.R_drew HO_7.out)
                     replace BK124:=Aside0.mk (blk_drew BK124.out)
                     replace HB:=Aside0.mk (below_drew1 HB.out)
                     obtain ⟨Ao72,co72,eo72⟩:=Kd.R_slice HO_6.out
                     (first|subst eo72|(injection eo72 with f1_ f2_ f3_;have f4_:=f1_.symm;have f5_:=f3_.symm;clear f1_ f2_ f3_;subst f4_;subst f5_))
                     have p126:0≤((ji55):Int):=of_decide_eq_true ze
                     have q126:(ji55)<(x6_1.length:Int):=of_decide_eq_true ze
                     obtain ⟨ad126,e126,hx126_0⟩:=Kd.at_int (Kd.R_reads' HO_6.out).2.2 (ji55) p126 q126
                     cases e126
                     replace p126:=eq_true p126
                     replace q126:=eq_true q126
                     have p58:0≤((ji55):Int):=of_decide_eq_true ze
                     have q58:((ji55):Int)<((x6_1.length:Int):Int):=of_decide_eq_true ze
                     obtain ⟨go58,co58,eo58,gb58,gl58,cl58,HG58⟩:=Kd.R_form HO_6.out zbd
                     (first|cases eo58|(injection eo58 with ea_ en_ ec_;(first|subst ea_|(injection ea_ with ea_;subst ea_));subst ec_;clear en_))
                     have GB58:=Aside0.mk gb58
                     have GG58:=Aside0.mk HG58
                     clear gb58 gl58 HG58
                     (first|simp only [add_plain] at hx126_0|skip)
                     obtain ⟨hx58_0,hf58_0⟩:=Kd.R_celln 0 HO_6.out ((ji55):Int) p58 q58
                     replace p58:=eq_true p58
                     replace q58:=eq_true q58
                     have HP73:=Kd.R_putn HO_6.out ((ji55):Int) (wrap64 ((rd x6_1 (ji55))+t122))
                     rw [←Ny127.out] at HP73
                     have HQ73:=Aside0.mk HP73
                     clear HP73
                     refine start_ (n:=11) (S:=fun w'=>w'.cell? ⟨gb124,0,none⟩=some (.int .i64 t121)∧w'.cell? ⟨gb124,1,none⟩=some (.int .i64 t122)∧w'.cell? ⟨go58,((ji55)).toNat,none⟩=some (.int .i64 (rd x6_1 (ji55)))) (ds:=[10]) #[false,false,false,false,false,false,false,false,false,false,false] zu rfl rfl ⟨(blk_cell BK124.out 0).trans rfl,(blk_cell BK124.out 1).trans rfl,hx126_0⟩ (fun hHeld=>?_);refine with_tabW spec_l25Tokens.tab19 spec_l25Tokens.bits19 (fun HT_ HW_=>?_)
                     generalize wc.drew=w71 at HO_5 HO_6 HO_7 BK124 HB GG58 HQ73 hf58_0 hx126_0 hx58_0 hHeld ⊢
                     refine pA 0 90 ?_
                     refine pA 1 91 ?_
                     refine pA 2 92 ?_
                     refine pA 3 93 ?_
                     refine pA 4 94 ?_
                     refine pA 6 96 ?_
                     refine pT 5 95 rfl (by rintro w' ⟨s0,s1,s2⟩;go_simp;with_reducible rfl) ?_
                     refine pT 7 97 rfl (by rintro w' ⟨s0,s1,s2⟩;go_simp;with_reducible rfl) ?_
                     refine pA 8 98 ?_
                     refine pA 9 99 ?_
                     refine last_ (i:=10) (N:=none) #[true,true,true,true,true,true,true,true,true,true,true] rfl rfl (one_of HT_.out zu) zbm (fun K hK=>?_)
                     refine skip_ (w1:=?_) (by rfl) rfl ?_ ?_
                     rotate_left
                     ·go_simp
                      rfl
                     refine hK.out _ _ ?_
                     clear hK K
                     refine done_ (done_of HT_.out zu) ?_
                     have hcz74_0:w71.cell? ⟨gb124,0,none⟩=some (.int .i64 t121):=(blk_cell BK124.out 0).trans rfl
                     have hcz74_1:w71.cell? ⟨gb124,1,none⟩=some (.int .i64 t122):=(blk_cell BK124.out 1).trans rfl
                     have BKn:=blk_far (p:=⟨go58,((ji55):Int).toNat,none⟩) BK124.out (by have h_:=Kd.R_ne HO_6.out BK124.out zbm;intro e_;exact h_ (by rw [e_];rfl)) (.int .i64 (wrap64 ((rd x6_1 (ji55))+t122)))
                     have hcy_0:=(blk_cell BKn 0).trans (rfl:_=some (Value.int .i64 t121))
                     have hcy_1:=(blk_cell BKn 1).trans (rfl:_=some (Value.int .i64 t122))
                     have hfz74_0:=blk_frozen BK124.out 0
                     have hfz74_1:=blk_frozen BK124.out 1
                     try go_wp2_with (first|((with_reducible refine gate_builtin (b:=.append) (xs:=#[.tmp 111,.tmp 113]) rfl ?_);at_builtin;refine Kd.R_append k67 (w0:=w) w.heap.size rfl (.tmp 111) (.tmp 113) 30 67 (.agg #[(.int .i64 0),(.int .i64 0)]) 16 rfl Tryz.underlying30 info67 rfl zbm zbd (.slice Ao39 x5_1.length co39) x5_1 (⟨t121,t122⟩:S67) [.int .i64 t121,.int .i64 t122] (fun k_=>k_≠gb124) (fun _=>False) rfl zo ?aP (fun _ hk=>hk.elim) ?aF ?aO ?aB ?aS ?aL ?_;(case aP=>exact k67_mkM _ _ _ (⟨t121,t122⟩:S67));(case aB=>exact zcl);(case aF=>exact (fun k_ hk=>Kd.freshB (g:=gb124) (o:=.cells #[.int .i64 t121,.int .i64 t122] 67 (0,0)) zbs k_ hk));(case aO=>exact (by (with_reducible repeat (first|apply Kd.R_alloc|apply Kd.R_drewN|apply Kd.R_drew));exact Kd.R_mono (Kd.R_far (p:=⟨go58,((ji55):Int).toNat,none⟩) (Kd.R_types HO_5.out GG58.out zbm) (fun _ hk=>hk.2) (.int .i64 (wrap64 ((rd x6_1 (ji55))+t122)))) (fun _ hk=>hk.1)));(case aS=>exact (below_size zcl));(case aL=>have:=LMc70.out;omega);intro v131 w75 ho hb hg hat;rw [←Ny130.out] at ho;have n0_:=Aside0.mk (Kd.R_over' (by (with_reducible repeat (first|apply Kd.R_alloc|apply Kd.R_drewN|apply Kd.R_drew));exact HQ73.out) (Kd.R_typed (by (with_reducible repeat (first|apply Kd.R_alloc|apply Kd.R_drewN|apply Kd.R_drew));exact (Kd.R_mono (Kd.R_far (p:=⟨go58,((ji55):Int).toNat,none⟩) (Kd.R_types HO_5.out GG58.out zbm) (fun _ hk=>hk.2) (.int .i64 (wrap64 ((rd x6_1 (ji55))+t122)))) (fun _ h_=>h_.1)))) zbm hg);have n1_:=Aside0.mk (Kd.R_over' (by (with_reducible repeat (first|apply Kd.R_alloc|apply Kd.R_drewN|apply Kd.R_drew));exact (Kd.R_mono (Kd.R_far (p:=⟨go58,((ji55):Int).toNat,none⟩) (Kd.R_types HO_7.out GG58.out zbm) (fun _ hk=>hk.2) (.int .i64 (wrap64 ((rd x6_1 (ji55))+t122)))) (fun _ h_=>h_.1))) (Kd.R_typed (by (with_reducible repeat (first|apply Kd.R_alloc|apply Kd.R_drewN|apply Kd.R_drew));exact (Kd.R_mono (Kd.R_far (p:=⟨go58,((ji55):Int).toNat,none⟩) (Kd.R_types HO_5.out GG58.out zbm) (fun _ hk=>hk.2) (.int .i64 (wrap64 ((rd x6_1 (ji55))+t122)))) (fun _ h_=>h_.1)))) zbm hg);have n2_:=Aside0.mk (blk_grown (g:=gb124) (o:=.cells #[.int .i64 t121,.int .i64 t122] 67 (0,0)) zbs hg (Kd.R_away HO_5.out (fun _ hk=>hk)));have n3_:=Aside0.mk (hb);have n4_:=Aside0.mk (ho);clear HO_6;clear HO_7;clear BK124;clear HB;clear HO_5;have HO_6:=n0_;have HO_7:=n1_;have BK124:=n2_;have HB:=n3_;have HO132:=n4_;clear n0_ n1_ n2_ n3_ n4_;clear ho hb hg hat))
                     go_roundg kj34
                     case measure=>have:=HK1.out;have:=HJ15.out;have:=HJ22.out;have:=HJ30.out;have:=HJ34.out;omega
                     case rel=>exact ⟨(y130),(y127),(wrap64 (x8_1+1)),zf,H',⟨by have:=HK1.out;have:=HJ15.out;have:=HJ22.out;have:=HJ30.out;have:=HJ34.out;omega⟩,⟨by (with_reducible repeat (first|apply Kd.R_alloc|apply Kd.R_drewN|apply Kd.R_drew));exact Kd.R_mono HO132.out (fun _ hk=>trivial)⟩,⟨zaj⟩,⟨zad⟩,⟨zas⟩⟩
                    ·rw [if_neg c70] at H
                     exact absurd H zbr
                  ·rw [if_neg c57] at H
                   exact absurd H zbr
                 ·rw [if_neg c56] at H
                  exact absurd H zbr
           ·rw [if_neg c30] at H
            exact absurd H zbr
          ·rw [if_neg c29] at H
           exact absurd H zbr
    ·rw [if_neg c15] at H
     have c15b0:decide (x8_1<(t110.length:Int))=false:=decide_eq_false c15
     clear c15
     simp only [Option.some.injEq,Prod.mk.injEq] at H
     obtain ⟨rfl,rfl,rfl⟩:=H
     obtain ⟨Ao76,co76,eo76⟩:=Kd.R_slice HO_7.out
     subst eo76
     go_wp2
     go_ret3
     exact ⟨_,_,zg,zai,zaj,za⟩

def spec_l00Min.f (a0:Int) (a1:Int):Option (Int):=if a0<a1 then (some a0) else (some a1)
set_option maxHeartbeats 8000000 in
set_option maxRecDepth 100000 in
theorem spec_l00Min.calls (a0:Int) (a1:Int) (r:Int) (w:World) (h:spec_l00Min.f a0 a1=some r) :
 Calls Tryz.prog 98 #[.int .i64 a0,.int .i64 a1] w fun e w'=>e = .returned (.int .i64 r)∧Drawn0 w w':=by
 have H:(if a0<a1 then (some a0) else (some a1))=some r:=h
 clear h
 by_cases c3:a0<a1
 ·rw [if_pos c3] at H
  have c3b0:decide (a0<a1)=true:=decide_eq_true c3
  clear c3
  obtain rfl:=Option.some.inj H
  go_enter Tryz.func98,Tryz.ntmps98
  go_wp2
  go_ret
  exact ⟨zf,zk⟩
 ·rw [if_neg c3] at H
  have c3b0:decide (a0<a1)=false:=decide_eq_false c3
  clear c3
  obtain rfl:=Option.some.inj H
  go_enter Tryz.func98,Tryz.ntmps98
  go_wp2
  go_ret
  exact ⟨zf,zk⟩

def spec_l17Beats_e.f (k:Nat) (l0:List (S50)) (a0i:Int):Option (Int):=(spec_l17Sum.f k ((rd_T50 l0 a0i).f1)).bind fun t102=>(some t102)
set_option maxHeartbeats 8000000 in
set_option maxRecDepth 100000 in
theorem spec_l17Beats_e.calls (k:Nat) (ad0:Addr) (l0:List (S50)) (a0i:Int) (r:Int) (w:World) (hr0:Kd.C k50 w (some ad0) l0.length l0) (hp0:decide (0≤a0i)=true) (hq0:decide (a0i<(l0.length:Int))=true) (h:spec_l17Beats_e.f k l0 a0i=some r) :
 Calls Tryz.prog 164 #[.pointer (some (ad0.add (a0i.toNat*3)))] w fun e w'=>e = .returned (.int .i64 r)∧Drawn0 w w':=by
 have HR0:=Aside0.mk hr0
 clear hr0
 have H:((spec_l17Sum.f k ((rd_T50 l0 a0i).f1)).bind fun t102=>(some t102))=some r:=h
 clear h
 replace H:=Option.bind_eq_some_iff.mp H
 obtain ⟨t102,A20,H⟩:=H
 replace H:(some t102)=some r:=H
 have A2:=Aside0.mk A20
 clear A20
 obtain rfl:=Option.some.inj H
 have p101:0≤(a0i:Int):=of_decide_eq_true ze
 have q101:a0i<(l0.length:Int):=of_decide_eq_true ze
 obtain ⟨ad101,A101_1,c101_1,A101_2,c101_2,e101,hx101_0,hx101_1,hx101_2,hl101_1,hi101_1,hl101_2,hi101_2⟩:=at_T50 HR0.out a0i p101 q101
 obtain rfl:ad0=ad101:=(by injection e101)
 have HR101_1:=Aside0.mk hi101_1
 have HC101_1:=Aside0.mk hl101_1
 clear hi101_1 hl101_1
 have HR101_2:=Aside0.mk hi101_2
 have HC101_2:=Aside0.mk hl101_2
 clear hi101_2 hl101_2
 replace p101:=eq_true p101
 replace q101:=eq_true q101
 go_enter Tryz.func164,Tryz.ntmps164
 go_wp2_with (first|((with_reducible refine gate_callee (f:=162) rfl ?_);refine goesL_ (some 7) rfl rfl Tryz.func162 zu rfl #[.slice A101_1 ((rd_T50 l0 a0i).f1).length c101_1] rfl zc ?_;(with_reducible refine (spec_l17Sum.calls k _ _ ((rd_T50 l0 a0i).f1) t102 _ ?side1 ?side2 A2.out).mono ?_);(case side1=>repeat (first|exact HR101_1.out|(with_reducible refine Kd.C_alloc ?_ _)|(with_reducible refine Kd.C_drewN ?_ _)|(with_reducible refine Kd.C_drew ?_)));(case side2=>exact HC101_1.out);rintro e w' ⟨rfl,⟨nd,rfl⟩⟩;refine ⟨_,rfl,?_⟩))
 go_ret
 exact ⟨zf,zk⟩

def spec_l19Units_e.f (k:Nat) (l0:List (S50)) (a0i:Int) (a1:Int):Option (Int):=(spec_l17Beats_e.f k l0 a0i).bind fun t101=>(some (wrap64 (t101*a1)))
set_option maxHeartbeats 8000000 in
set_option maxRecDepth 100000 in
theorem spec_l19Units_e.calls (k:Nat) (ad0:Addr) (l0:List (S50)) (a0i:Int) (a1:Int) (r:Int) (w:World) (hr0:Kd.C k50 w (some ad0) l0.length l0) (hp0:decide (0≤a0i)=true) (hq0:decide (a0i<(l0.length:Int))=true) (h:spec_l19Units_e.f k l0 a0i a1=some r) :
 Calls Tryz.prog 138 #[.pointer (some (ad0.add (a0i.toNat*3))),.int .i64 a1] w fun e w'=>e = .returned (.int .i64 r)∧Drawn0 w w':=by
 have HR0:=Aside0.mk hr0
 clear hr0
 have H:((spec_l17Beats_e.f k l0 a0i).bind fun t101=>(some (wrap64 (t101*a1))))=some r:=h
 clear h
 replace H:=Option.bind_eq_some_iff.mp H
 obtain ⟨t101,A30,H⟩:=H
 replace H:(some (wrap64 (t101*a1)))=some r:=H
 have A3:=Aside0.mk A30
 clear A30
 obtain rfl:=Option.some.inj H
 go_enter Tryz.func138,Tryz.ntmps138
 go_wp2_with (first|((with_reducible refine gate_callee (f:=164) rfl ?_);refine goesL_ (some 6) rfl rfl Tryz.func164 zu rfl #[.pointer (some (ad0.add ((a0i:Int).toNat*3)))] rfl zc ?_;(with_reducible refine (spec_l17Beats_e.calls k _ l0 a0i t101 _ ?side1 ?side2 ?side3 A3.out).mono ?_);(case side1=>exact zx);(case side2=>first|(with_reducible assumption)|assumption|decide|exact decide_eq_true zbr|exact decide_eq_true zbd);(case side3=>first|(with_reducible assumption)|assumption|decide|exact decide_eq_true zbr|exact decide_eq_true zbd);rintro e w' ⟨rfl,⟨nd,rfl⟩⟩;refine ⟨_,rfl,?_⟩))
 go_ret
 exact ⟨zf,zk⟩

def spec_l17At_e.l0:Nat→Int→Int→List (S50)→Int→Option (Int × Int)
 | 0,_,_,_,_=>none
 | k+1,x1,x6,x500,x501=>if 0≤x6 then (if x6<(((rd_T50 x500 x501).f1).length:Int) then (if x1≥(rd ((rd_T50 x500 x501).f1) x6) then (spec_l17At_e.l0 k (wrap64 (x1 - (rd ((rd_T50 x500 x501).f1) x6))) (wrap64 (x6+1)) x500 x501) else (some (x6,x1))) else (none)) else (none)
def spec_l17At_e.f (k:Nat) (l0:List (S50)) (a0i:Int) (a1:Int):Option (Int × Int):=spec_l17At_e.l0 k a1 0 l0 a0i
set_option maxHeartbeats 8000000 in
set_option maxRecDepth 100000 in
theorem spec_l17At_e.calls (k:Nat) (ad0:Addr) (l0:List (S50)) (a0i:Int) (a1:Int) (r1:Int) (r2:Int) (w:World) (hr0:Kd.C k50 w (some ad0) l0.length l0) (hp0:decide (0≤a0i)=true) (hq0:decide (a0i<(l0.length:Int))=true) (h:spec_l17At_e.f k l0 a0i a1=some (r1,r2)) :
 Calls Tryz.prog 163 #[.pointer (some (ad0.add (a0i.toNat*3))),.int .i64 a1] w fun e w'=>e = .returned (.tuple #[.int .i64 r1,.int .i64 r2])∧Drawn0 w w':=by
 have HR0:=Aside0.mk hr0
 clear hr0
 have H:(spec_l17At_e.l0 k a1 0 l0 a0i)=some (r1,r2):=h
 clear h
 have H':=Aside0.mk H
 clear H
 go_enter Tryz.func163,Tryz.ntmps163
 go_wp2
 go_loopg [1,6] k (fun kq v1 v6 w'=>∃(x1_1:Int) (x6_1:Int),v1 = .int .i64 x1_1∧v6 = .int .i64 x6_1∧Aside0 (spec_l17At_e.l0 kq x1_1 x6_1 l0 a0i=some (r1,r2))∧Aside0 (kq≤k)∧Drawn0 w w')
 case atStart=>exact ⟨(a1),(0),zf,zf,H',⟨Nat.le_refl _⟩,zk⟩
 case round=>
  clear H'
  try clear c1
  try clear p2
  obtain ⟨x1_1,x6_1,rfl,rfl,HA,HK1,⟨m1,rfl⟩⟩:=hrel
  cases gk with
  | zero=>exact absurd HA.out (by simp [spec_l17At_e.l0])
  | succ k1=>
   have H:=HA.out
   clear HA
   simp only [spec_l17At_e.l0] at H
   by_cases c3:0≤x6_1
   ·rw [if_pos c3] at H
    have c3b0:decide (0≤x6_1)=true:=decide_eq_true c3
    clear c3
    by_cases c4:x6_1<(((rd_T50 l0 a0i).f1).length:Int)
    ·rw [if_pos c4] at H
     have c4b0:decide (x6_1<(((rd_T50 l0 a0i).f1).length:Int))=true:=decide_eq_true c4
     clear c4
     by_cases c5:x1_1≥(rd ((rd_T50 l0 a0i).f1) x6_1)
     ·rw [if_pos c5] at H
      have c5b0:decide ((rd ((rd_T50 l0 a0i).f1) x6_1)≤x1_1)=true:=decide_eq_true c5
      clear c5
      have H':=Aside0.mk H
      clear H
      have p101:0≤(a0i:Int):=of_decide_eq_true ze
      have q101:a0i<(l0.length:Int):=of_decide_eq_true ze
      obtain ⟨ad101,A101_1,c101_1,A101_2,c101_2,e101,hx101_0,hx101_1,hx101_2,hl101_1,hi101_1,hl101_2,hi101_2⟩:=at_T50 HR0.out a0i p101 q101
      obtain rfl:ad0=ad101:=(by injection e101)
      have HR101_1:=Aside0.mk hi101_1
      have HC101_1:=Aside0.mk hl101_1
      clear hi101_1 hl101_1
      have HR101_2:=Aside0.mk hi101_2
      have HC101_2:=Aside0.mk hl101_2
      clear hi101_2 hl101_2
      replace p101:=eq_true p101
      replace q101:=eq_true q101
      have p102:0≤(x6_1:Int):=of_decide_eq_true ze
      have q102:x6_1<(((rd_T50 l0 a0i).f1).length:Int):=of_decide_eq_true ze
      obtain ⟨ad102,e102,hx102_0⟩:=Kd.at_int HR101_1.out x6_1 p102 q102
      cases e102
      replace p102:=eq_true p102
      replace q102:=eq_true q102
      have p103:0≤(a0i:Int):=of_decide_eq_true ze
      have q103:a0i<(l0.length:Int):=of_decide_eq_true ze
      obtain ⟨ad103,A103_1,c103_1,A103_2,c103_2,e103,hx103_0,hx103_1,hx103_2,hl103_1,hi103_1,hl103_2,hi103_2⟩:=at_T50 HR0.out a0i p103 q103
      obtain rfl:ad0=ad103:=(by injection e103)
      have HR103_1:=Aside0.mk hi103_1
      have HC103_1:=Aside0.mk hl103_1
      clear hi103_1 hl103_1
      have HR103_2:=Aside0.mk hi103_2
      have HC103_2:=Aside0.mk hl103_2
      clear hi103_2 hl103_2
      replace p103:=eq_true p103
      replace q103:=eq_true q103
      have ea_:=Option.some.inj (hx101_1.symm.trans hx103_1)
      injection ea_ with ea_ en_ ec_
      subst ea_
      subst ec_
      clear en_
      have ea_:=Option.some.inj (hx101_2.symm.trans hx103_2)
      injection ea_ with ea_ en_ ec_
      subst ea_
      subst ec_
      clear en_
      have p104:0≤(x6_1:Int):=of_decide_eq_true ze
      have q104:x6_1<(((rd_T50 l0 a0i).f1).length:Int):=of_decide_eq_true ze
      obtain ⟨ad104,e104,hx104_0⟩:=Kd.at_int HR103_1.out x6_1 p104 q104
      cases e104
      replace p104:=eq_true p104
      replace q104:=eq_true q104
      go_wp2
      go_roundg k1
      case measure=>have:=HK1.out;omega
      case rel=>exact ⟨(wrap64 (x1_1 - (rd ((rd_T50 l0 a0i).f1) x6_1))),(wrap64 (x6_1+1)),zf,zf,H',⟨zcq⟩,zk⟩
     ·rw [if_neg c5] at H
      have c5b0:decide ((rd ((rd_T50 l0 a0i).f1) x6_1)≤x1_1)=false:=decide_eq_false c5
      clear c5
      simp only [Option.some.injEq,Prod.mk.injEq] at H
      obtain ⟨rfl,rfl⟩:=H
      have p101:0≤(a0i:Int):=of_decide_eq_true ze
      have q101:a0i<(l0.length:Int):=of_decide_eq_true ze
      obtain ⟨ad101,A101_1,c101_1,A101_2,c101_2,e101,hx101_0,hx101_1,hx101_2,hl101_1,hi101_1,hl101_2,hi101_2⟩:=at_T50 HR0.out a0i p101 q101
      obtain rfl:ad0=ad101:=(by injection e101)
      have HR101_1:=Aside0.mk hi101_1
      have HC101_1:=Aside0.mk hl101_1
      clear hi101_1 hl101_1
      have HR101_2:=Aside0.mk hi101_2
      have HC101_2:=Aside0.mk hl101_2
      clear hi101_2 hl101_2
      replace p101:=eq_true p101
      replace q101:=eq_true q101
      have p102:0≤(x6_1:Int):=of_decide_eq_true ze
      have q102:x6_1<(((rd_T50 l0 a0i).f1).length:Int):=of_decide_eq_true ze
      obtain ⟨ad102,e102,hx102_0⟩:=Kd.at_int HR101_1.out x6_1 p102 q102
      cases e102
      replace p102:=eq_true p102
      replace q102:=eq_true q102
      go_wp2
      go_ret2
      exact ⟨zf,zk⟩
    ·rw [if_neg c4] at H
     exact absurd H zbr
   ·rw [if_neg c3] at H
    exact absurd H zbr

def spec_l25Left_e.f (k:Nat) (l0:List (S50)) (a0i:Int) (a1:Int) (a2:Int):Option (Int):=(spec_l19Units_e.f k l0 a0i a1).bind fun t101=>(if t101=0 then (none) else (if a1=0 then (none) else ((spec_l17At_e.f k l0 a0i (wrap64 (Int.tdiv (Int.tmod a2 t101) a1))).bind fun bt102=>(if 0≤bt102.1 then (if bt102.1<(((rd_T50 l0 a0i).f1).length:Int) then (some (wrap64 ((wrap64 ((wrap64 ((rd ((rd_T50 l0 a0i).f1) bt102.1) - bt102.2))*a1)) - (Int.tmod (Int.tmod a2 t101) a1)))) else (none)) else (none)))))
set_option maxHeartbeats 8000000 in
set_option maxRecDepth 100000 in
theorem spec_l25Left_e.calls (k:Nat) (ad0:Addr) (l0:List (S50)) (a0i:Int) (a1:Int) (a2:Int) (r:Int) (w:World) (hr0:Kd.C k50 w (some ad0) l0.length l0) (hp0:decide (0≤a0i)=true) (hq0:decide (a0i<(l0.length:Int))=true) (h:spec_l25Left_e.f k l0 a0i a1 a2=some r) :
 Calls Tryz.prog 136 #[.pointer (some (ad0.add (a0i.toNat*3))),.int .i64 a1,.int .i64 a2] w fun e w'=>e = .returned (.int .i64 r)∧Drawn0 w w':=by
 have HR0:=Aside0.mk hr0
 clear hr0
 have H:((spec_l19Units_e.f k l0 a0i a1).bind fun t101=>(if t101=0 then (none) else (if a1=0 then (none) else ((spec_l17At_e.f k l0 a0i (wrap64 (Int.tdiv (Int.tmod a2 t101) a1))).bind fun bt102=>(if 0≤bt102.1 then (if bt102.1<(((rd_T50 l0 a0i).f1).length:Int) then (some (wrap64 ((wrap64 ((wrap64 ((rd ((rd_T50 l0 a0i).f1) bt102.1) - bt102.2))*a1)) - (Int.tmod (Int.tmod a2 t101) a1)))) else (none)) else (none))))))=some r:=h
 clear h
 replace H:=Option.bind_eq_some_iff.mp H
 obtain ⟨t101,A40,H⟩:=H
 replace H:(if t101=0 then (none) else (if a1=0 then (none) else ((spec_l17At_e.f k l0 a0i (wrap64 (Int.tdiv (Int.tmod a2 t101) a1))).bind fun bt102=>(if 0≤bt102.1 then (if bt102.1<(((rd_T50 l0 a0i).f1).length:Int) then (some (wrap64 ((wrap64 ((wrap64 ((rd ((rd_T50 l0 a0i).f1) bt102.1) - bt102.2))*a1)) - (Int.tmod (Int.tmod a2 t101) a1)))) else (none)) else (none)))))=some r:=H
 have A4:=Aside0.mk A40
 clear A40
 by_cases c5:t101=0
 ·rw [if_pos c5] at H
  exact absurd H zbr
 ·rw [if_neg c5] at H
  have c5b0:(t101 == 0)=false:=beq_eq_false_iff_ne.mpr c5
  have c5b1:(t101 != 0)=true:=bne_iff_ne.mpr c5
  by_cases c6:a1=0
  ·rw [if_pos c6] at H
   exact absurd H zbr
  ·rw [if_neg c6] at H
   have c6b0:(a1 == 0)=false:=beq_eq_false_iff_ne.mpr c6
   have c6b1:(a1 != 0)=true:=bne_iff_ne.mpr c6
   replace H:=Option.bind_eq_some_iff.mp H
   obtain ⟨⟨t102,t103⟩,A70,H⟩:=H
   replace H:(if 0≤t102 then (if t102<(((rd_T50 l0 a0i).f1).length:Int) then (some (wrap64 ((wrap64 ((wrap64 ((rd ((rd_T50 l0 a0i).f1) t102) - t103))*a1)) - (Int.tmod (Int.tmod a2 t101) a1)))) else (none)) else (none))=some r:=H
   have A7:=Aside0.mk A70
   clear A70
   by_cases c8:0≤t102
   ·rw [if_pos c8] at H
    have c8b0:decide (0≤t102)=true:=decide_eq_true c8
    clear c8
    by_cases c9:t102<(((rd_T50 l0 a0i).f1).length:Int)
    ·rw [if_pos c9] at H
     have c9b0:decide (t102<(((rd_T50 l0 a0i).f1).length:Int))=true:=decide_eq_true c9
     clear c9
     obtain rfl:=Option.some.inj H
     go_enter Tryz.func136,Tryz.ntmps136
     go_wp2_with (first|(go_at_call 138;(with_reducible refine (spec_l19Units_e.calls k _ l0 a0i a1 t101 _ ?side1 ?side2 ?side3 A4.out).mono ?_);(case side1=>exact zx);(case side2=>first|(with_reducible assumption)|assumption|decide|exact decide_eq_true zbr|exact decide_eq_true zbd);(case side3=>first|(with_reducible assumption)|assumption|decide|exact decide_eq_true zbr|exact decide_eq_true zbd);rintro e w' ⟨rfl,⟨nd,rfl⟩⟩;(try first|exact ⟨rfl,_,World.drewN_drewN _ _ _⟩|exact ⟨rfl,_,Eq.trans (World.drewN_drewN _ _ _) (congrArg (World.drewN _) (Nat.add_assoc _ _ _))⟩))|(go_at_call 163;(with_reducible refine (spec_l17At_e.calls k _ l0 a0i (wrap64 (Int.tdiv (Int.tmod a2 t101) a1)) t102 t103 _ ?side1 ?side2 ?side3 A7.out).mono ?_);(case side1=>exact zx);(case side2=>first|(with_reducible assumption)|assumption|decide|exact decide_eq_true zbr|exact decide_eq_true zbd);(case side3=>first|(with_reducible assumption)|assumption|decide|exact decide_eq_true zbr|exact decide_eq_true zbd);rintro e w' ⟨rfl,⟨nd,rfl⟩⟩;(try first|exact ⟨rfl,_,World.drewN_drewN _ _ _⟩|exact ⟨rfl,_,Eq.trans (World.drewN_drewN _ _ _) (congrArg (World.drewN _) (Nat.add_assoc _ _ _))⟩);have p104:0≤(a0i:Int):=of_decide_eq_true ze;have q104:a0i<(l0.length:Int):=of_decide_eq_true ze;obtain ⟨ad104,A104_1,c104_1,A104_2,c104_2,e104,hx104_0,hx104_1,hx104_2,hl104_1,hi104_1,hl104_2,hi104_2⟩:=at_T50 HR0.out a0i p104 q104;obtain rfl:ad0=ad104:=(by injection e104);have HR104_1:=Aside0.mk hi104_1;have HC104_1:=Aside0.mk hl104_1;clear hi104_1 hl104_1;have HR104_2:=Aside0.mk hi104_2;have HC104_2:=Aside0.mk hl104_2;clear hi104_2 hl104_2;replace p104:=eq_true p104;replace q104:=eq_true q104;have p105:0≤(t102:Int):=of_decide_eq_true ze;have q105:t102<(((rd_T50 l0 a0i).f1).length:Int):=of_decide_eq_true ze;obtain ⟨ad105,e105,hx105_0⟩:=Kd.at_int HR104_1.out t102 p105 q105;cases e105;replace p105:=eq_true p105;replace q105:=eq_true q105))
     repeat (go_quiet (first|(go_at_call 138;(with_reducible refine (spec_l19Units_e.calls k _ l0 a0i a1 t101 _ ?side1 ?side2 ?side3 A4.out).mono ?_);(case side1=>exact zx);(case side2=>first|(with_reducible assumption)|assumption|decide|exact decide_eq_true zbr|exact decide_eq_true zbd);(case side3=>first|(with_reducible assumption)|assumption|decide|exact decide_eq_true zbr|exact decide_eq_true zbd);rintro e w' ⟨rfl,⟨nd,rfl⟩⟩;(try first|exact ⟨rfl,_,World.drewN_drewN _ _ _⟩|exact ⟨rfl,_,Eq.trans (World.drewN_drewN _ _ _) (congrArg (World.drewN _) (Nat.add_assoc _ _ _))⟩))|(go_at_call 163;(with_reducible refine (spec_l17At_e.calls k _ l0 a0i (wrap64 (Int.tdiv (Int.tmod a2 t101) a1)) t102 t103 _ ?side1 ?side2 ?side3 A7.out).mono ?_);(case side1=>exact zx);(case side2=>first|(with_reducible assumption)|assumption|decide|exact decide_eq_true zbr|exact decide_eq_true zbd);(case side3=>first|(with_reducible assumption)|assumption|decide|exact decide_eq_true zbr|exact decide_eq_true zbd);rintro e w' ⟨rfl,⟨nd,rfl⟩⟩;(try first|exact ⟨rfl,_,World.drewN_drewN _ _ _⟩|exact ⟨rfl,_,Eq.trans (World.drewN_drewN _ _ _) (congrArg (World.drewN _) (Nat.add_assoc _ _ _))⟩);have p104:0≤(a0i:Int):=of_decide_eq_true ze;have q104:a0i<(l0.length:Int):=of_decide_eq_true ze;obtain ⟨ad104,A104_1,c104_1,A104_2,c104_2,e104,hx104_0,hx104_1,hx104_2,hl104_1,hi104_1,hl104_2,hi104_2⟩:=at_T50 HR0.out a0i p104 q104;obtain rfl:ad0=ad104:=(by injection e104);have HR104_1:=Aside0.mk hi104_1;have HC104_1:=Aside0.mk hl104_1;clear hi104_1 hl104_1;have HR104_2:=Aside0.mk hi104_2;have HC104_2:=Aside0.mk hl104_2;clear hi104_2 hl104_2;replace p104:=eq_true p104;replace q104:=eq_true q104;have p105:0≤(t102:Int):=of_decide_eq_true ze;have q105:t102<(((rd_T50 l0 a0i).f1).length:Int):=of_decide_eq_true ze;obtain ⟨ad105,e105,hx105_0⟩:=Kd.at_int HR104_1.out t102 p105 q105;cases e105;replace p105:=eq_true p105;replace q105:=eq_true q105));try go_wp2_with (first|(go_at_call 138;(with_reducible refine (spec_l19Units_e.calls k _ l0 a0i a1 t101 _ ?side1 ?side2 ?side3 A4.out).mono ?_);(case side1=>exact zx);(case side2=>first|(with_reducible assumption)|assumption|decide|exact decide_eq_true zbr|exact decide_eq_true zbd);(case side3=>first|(with_reducible assumption)|assumption|decide|exact decide_eq_true zbr|exact decide_eq_true zbd);rintro e w' ⟨rfl,⟨nd,rfl⟩⟩;(try first|exact ⟨rfl,_,World.drewN_drewN _ _ _⟩|exact ⟨rfl,_,Eq.trans (World.drewN_drewN _ _ _) (congrArg (World.drewN _) (Nat.add_assoc _ _ _))⟩))|(go_at_call 163;(with_reducible refine (spec_l17At_e.calls k _ l0 a0i (wrap64 (Int.tdiv (Int.tmod a2 t101) a1)) t102 t103 _ ?side1 ?side2 ?side3 A7.out).mono ?_);(case side1=>exact zx);(case side2=>first|(with_reducible assumption)|assumption|decide|exact decide_eq_true zbr|exact decide_eq_true zbd);(case side3=>first|(with_reducible assumption)|assumption|decide|exact decide_eq_true zbr|exact decide_eq_true zbd);rintro e w' ⟨rfl,⟨nd,rfl⟩⟩;(try first|exact ⟨rfl,_,World.drewN_drewN _ _ _⟩|exact ⟨rfl,_,Eq.trans (World.drewN_drewN _ _ _) (congrArg (World.drewN _) (Nat.add_assoc _ _ _))⟩);have p104:0≤(a0i:Int):=of_decide_eq_true ze;have q104:a0i<(l0.length:Int):=of_decide_eq_true ze;obtain ⟨ad104,A104_1,c104_1,A104_2,c104_2,e104,hx104_0,hx104_1,hx104_2,hl104_1,hi104_1,hl104_2,hi104_2⟩:=at_T50 HR0.out a0i p104 q104;obtain rfl:ad0=ad104:=(by injection e104);have HR104_1:=Aside0.mk hi104_1;have HC104_1:=Aside0.mk hl104_1;clear hi104_1 hl104_1;have HR104_2:=Aside0.mk hi104_2;have HC104_2:=Aside0.mk hl104_2;clear hi104_2 hl104_2;replace p104:=eq_true p104;replace q104:=eq_true q104;have p105:0≤(t102:Int):=of_decide_eq_true ze;have q105:t102<(((rd_T50 l0 a0i).f1).length:Int):=of_decide_eq_true ze;obtain ⟨ad105,e105,hx105_0⟩:=Kd.at_int HR104_1.out t102 p105 q105;cases e105;replace p105:=eq_true p105;replace q105:=eq_true q105)))
     go_ret
     exact ⟨zf,zk⟩
    ·rw [if_neg c9] at H
     exact absurd H zbr
   ·rw [if_neg c8] at H
    exact absurd H zbr

mutual
def spec_l25Split_e.l0:Nat→List (S67)→Int→List (List Int)→Int→Int→List (S50)→Int→Option ((List (List Int)))
 | 0,_,_,_,_,_,_,_=>none
 | k+1,x0,x2,x7,x8,x9,x502,x503=>if x9<(x0.length:Int) then (if 0≤x9 then (spec_l25Split_e.l1 k x0 x2 x7 x8 x9 ((rd_T67 x0 x9).f1) x502 x503) else (none)) else (some x7)
def spec_l25Split_e.l1:Nat→List (S67)→Int→List (List Int)→Int→Int→Int→List (S50)→Int→Option ((List (List Int)))
 | 0,_,_,_,_,_,_,_,_=>none
 | k+1,x0,x2,x7,x8,x9,x10,x502,x503=>if x10 > 0 then ((spec_l25Left_e.f k x502 x503 x2 x8).bind fun t105=>((spec_l00Min.f x10 t105).bind fun t106=>(if x7.length<5864062014805 then (spec_l25Split_e.l1 k x0 x2 (x7++[(([x9,t106]:List Int))]) (wrap64 (x8+t106)) x9 (wrap64 (x10 - t106)) x502 x503) else (none)))) else (spec_l25Split_e.l0 k x0 x2 x7 x8 (wrap64 (x9+1)) x502 x503)
end
def spec_l25Split_e.f (k:Nat) (l0:List (S67)) (l1:List (S50)) (a1i:Int) (a2:Int):Option ((List (List Int))):=spec_l25Split_e.l0 k l0 a2 (([]:List (List Int))) 0 0 l1 a1i
set_option maxHeartbeats 8000000 in
set_option maxRecDepth 100000 in
theorem spec_l25Split_e.calls (k:Nat) (A0:Option Addr) (c0:Nat) (l0:List (S67)) (ad1:Addr) (l1:List (S50)) (a1i:Int) (a2:Int) (r:List (List Int)) (w:World) (hr0:Kd.C k67 w A0 l0.length l0) (hc0:l0.length≤c0) (hr1:Kd.C k50 w (some ad1) l1.length l1) (hp1:decide (0≤a1i)=true) (hq1:decide (a1i<(l1.length:Int))=true) (h:spec_l25Split_e.f k l0 l1 a1i a2=some r) :
 Calls Tryz.prog 105 #[.slice A0 l0.length c0,.pointer (some (ad1.add (a1i.toNat*3))),.int .i64 a2] w fun e w'=>∃v0_:Value,e = .returned (v0_)∧Kd.S (Kd.slice 2 (Kd.int .i64)) 37 w' w.heap.size (fun _=>True) v0_ r∧Below w.heap.size w w':=by
 have HR0:=Aside0.mk hr0
 have HC0:=Aside0.mk hc0
 clear hr0 hc0
 have HR1:=Aside0.mk hr1
 clear hr1
 have HB:=Aside0.mk (Below.refl w.heap.size w)
 have H:(spec_l25Split_e.l0 k l0 a2 (([]:List (List Int))) 0 0 l1 a1i)=some r:=h
 clear h
 obtain ⟨y101,hy101⟩:∃y_:List (List Int),y_=(([]:List (List Int))):=⟨_,rfl⟩
 replace H:(spec_l25Split_e.l0 k l0 a2 y101 0 0 l1 a1i)=some r:=by first|(rw [hy101];with_reducible exact H)|(have H2_:=(Option.bind_some _ _).symm.trans H;rw [hy101];with_reducible exact H2_)|(have H2_:=(Option.bind_some _ _).symm.trans H;with_reducible exact H2_)|with_reducible exact H|(rw [hy101];exact H)|exact H
 have Ny101:=Aside0.mk hy101
 clear hy101
 have H':=Aside0.mk H
 clear H
 go_enter Tryz.func105,Tryz.ntmps105
 go_wp2_with (first|((with_reducible refine gate_dst (N:=12) rfl ?_);refine Kd.S_lit (Kd.slice 2 (Kd.int .i64)) _ 37 ?hg (N:=12) ?hd (xs:=([]:List (List Int))) (inner:=[]) (ok:=fun _=>True) (okp:=fun _=>True) ?hr ?hp (fun _ hk=>hk) trivial (Below.refl _ _) (Nat.le_refl _) zbr ?_;(case hd=>rfl);(case hg=>rfl);(case hr=>exact zo);(case hp=>exact (Reps.none _ _));intro v102 w4 ho5 hb hg_ hnew_;clear hg_ hnew_;(first|rw [←Ny101.out] at ho5|(simp only [Int.reduceToNat] at ho5;rw [←Ny101.out] at ho5));have HO103:=Aside0.mk (Kd.S_lower ho5 (below_size za));replace HB:=Aside0.mk (below_step za hb);clear hb ho5))
 go_loopg [7,8,9] k (fun kq v7 v8 v9 w'=>∃(x7_1:List (List Int)) (x8_1:Int) (x9_1:Int),v8 = .int .i64 x8_1∧v9 = .int .i64 x9_1∧Aside0 (spec_l25Split_e.l0 kq l0 a2 x7_1 x8_1 x9_1 l1 a1i=some r)∧Aside0 (kq≤k)∧Aside0 (Kd.S (Kd.slice 2 (Kd.int .i64)) 37 w' w.heap.size (fun _=>True) v7 x7_1)∧Aside0 (Below w.heap.size w w'))
 case atStart=>exact ⟨(y101),(0),(0),zf,zf,H',⟨Nat.le_refl _⟩,⟨by (with_reducible repeat (first|apply Kd.S_alloc|apply Kd.S_drewN|apply Kd.S_drew));exact HO103.out⟩,⟨za⟩⟩
 case round=>
  clear H'
  try clear c1
  try clear p2
  obtain ⟨x7_1,x8_1,x9_1,rfl,rfl,HA,HK1,HO_7,HB⟩:=hrel
  cases gk with
  | zero=>exact absurd HA.out (by simp [spec_l25Split_e.l0])
  | succ k1=>
   have H:=HA.out
   clear HA
   simp only [spec_l25Split_e.l0] at H
   by_cases c6:x9_1<(l0.length:Int)
   ·rw [if_pos c6] at H
    have c6b0:decide (x9_1<(l0.length:Int))=true:=decide_eq_true c6
    clear c6
    by_cases c7:0≤x9_1
    ·rw [if_pos c7] at H
     have c7b0:decide (0≤x9_1)=true:=decide_eq_true c7
     clear c7
     have H':=Aside0.mk H
     clear H
     have p104:0≤(x9_1:Int):=of_decide_eq_true ze
     have q104:x9_1<(l0.length:Int):=of_decide_eq_true ze
     obtain ⟨ad104,e104,hx104_0,hx104_1⟩:=at_T67 HR0.out x9_1 p104 q104
     cases e104
     replace hx104_0:=(HB.out.cell (World.block_lt_of_cell? w _ hx104_0)).trans hx104_0
     replace hx104_1:=(HB.out.cell (World.block_lt_of_cell? w _ hx104_1)).trans hx104_1
     replace p104:=eq_true p104
     replace q104:=eq_true q104
     go_wp2
     go_loopg [7,8,10] k1 (fun kq v7 v8 v10 w'=>∃(x7_2:List (List Int)) (x8_2:Int) (x10_2:Int),v8 = .int .i64 x8_2∧v10 = .int .i64 x10_2∧Aside0 (spec_l25Split_e.l1 kq l0 a2 x7_2 x8_2 x9_1 x10_2 l1 a1i=some r)∧Aside0 (kq≤k1)∧Aside0 (Kd.S (Kd.slice 2 (Kd.int .i64)) 37 w' w.heap.size (fun _=>True) v7 x7_2)∧Aside0 (Below w.heap.size w w'))
     case atStart=>exact ⟨(x7_1),(x8_1),((rd_T67 l0 x9_1).f1),zf,zf,H',⟨Nat.le_refl _⟩,⟨zar⟩,⟨za⟩⟩
     case round=>
      clear H'
      try clear c1
      try clear p1
      try clear q1
      try clear hx1
      try clear p2
      try clear c6
      try clear c6b0
      try clear c7
      try clear c7b0
      try clear hx104_0
      try clear hx104_1
      try clear p104
      try clear p2
      try clear q104
      obtain ⟨x7_2,x8_2,x10_2,rfl,rfl,HA,HK2,HO_7,HB⟩:=hrel
      cases gk with
      | zero=>exact absurd HA.out (by simp [spec_l25Split_e.l1])
      | succ k2=>
       have H:=HA.out
       clear HA
       simp only [spec_l25Split_e.l1] at H
       by_cases c8:x10_2 > 0
       ·rw [if_pos c8] at H
        have c8b0:decide (0<x10_2)=true:=decide_eq_true c8
        clear c8
        replace H:=Option.bind_eq_some_iff.mp H
        obtain ⟨t105,A90,H⟩:=H
        replace H:((spec_l00Min.f x10_2 t105).bind fun t106=>(if x7_2.length<5864062014805 then (spec_l25Split_e.l1 k2 l0 a2 (x7_2++[(([x9_1,t106]:List Int))]) (wrap64 (x8_2+t106)) x9_1 (wrap64 (x10_2 - t106)) l1 a1i) else (none)))=some r:=H
        have A9:=Aside0.mk A90
        clear A90
        replace H:=Option.bind_eq_some_iff.mp H
        obtain ⟨t106,A100,H⟩:=H
        replace H:(if x7_2.length<5864062014805 then (spec_l25Split_e.l1 k2 l0 a2 (x7_2++[(([x9_1,t106]:List Int))]) (wrap64 (x8_2+t106)) x9_1 (wrap64 (x10_2 - t106)) l1 a1i) else (none))=some r:=H
        have A10:=Aside0.mk A100
        clear A100
        obtain ⟨y107,hy107⟩:∃y_:List Int,y_=(([x9_1,t106]:List Int)):=⟨_,rfl⟩
        replace H:(if x7_2.length<5864062014805 then (spec_l25Split_e.l1 k2 l0 a2 (x7_2++[y107]) (wrap64 (x8_2+t106)) x9_1 (wrap64 (x10_2 - t106)) l1 a1i) else (none))=some r:=by first|(rw [hy107];with_reducible exact H)|(have H2_:=(Option.bind_some _ _).symm.trans H;rw [hy107];with_reducible exact H2_)|(have H2_:=(Option.bind_some _ _).symm.trans H;with_reducible exact H2_)|with_reducible exact H|(rw [hy107];exact H)|exact H
        have Ny107:=Aside0.mk hy107
        clear hy107
        by_cases c11:x7_2.length<5864062014805
        ·rw [if_pos c11] at H
         have LMc11:=Aside0.mk c11
         clear c11
         obtain ⟨y110,hy110⟩:∃y_:List (List Int),y_=(x7_2++[y107]):=⟨_,rfl⟩
         replace H:(spec_l25Split_e.l1 k2 l0 a2 y110 (wrap64 (x8_2+t106)) x9_1 (wrap64 (x10_2 - t106)) l1 a1i)=some r:=by first|(rw [hy110];with_reducible exact H)|(have H2_:=(Option.bind_some _ _).symm.trans H;rw [hy110];with_reducible exact H2_)|(have H2_:=(Option.bind_some _ _).symm.trans H;with_reducible exact H2_)|with_reducible exact H|(rw [hy110];exact H)|exact H
         have Ny110:=Aside0.mk hy110
         clear hy110
         have H':=Aside0.mk H
         clear H
         go_wp2_with (first|((with_reducible refine gate_callee (f:=136) rfl ?_);refine goesL_ (some 30) rfl rfl Tryz.func136 zu rfl #[.pointer (some (ad1.add ((a1i:Int).toNat*3))),.int .i64 a2,.int .i64 x8_2] rfl zc ?_;(with_reducible refine (spec_l25Left_e.calls k2 _ l1 a1i a2 x8_2 t105 _ ?side1 ?side2 ?side3 A9.out).mono ?_);(case side1=>exact zbq);(case side2=>first|(with_reducible assumption)|assumption|decide|exact decide_eq_true zbr|exact decide_eq_true zbd);(case side3=>first|(with_reducible assumption)|assumption|decide|exact decide_eq_true zbr|exact decide_eq_true zbd);rintro e w' ⟨rfl,⟨nd,rfl⟩⟩;refine ⟨_,rfl,?_⟩)|((with_reducible refine gate_callee (f:=98) rfl ?_);refine goesL_ (some 31) rfl rfl Tryz.func98 zu rfl #[.int .i64 x10_2,.int .i64 t105] rfl zc ?_;(with_reducible refine (spec_l00Min.calls x10_2 t105 t106 _ A10.out).mono ?_);rintro e w' ⟨rfl,⟨nd,rfl⟩⟩;refine ⟨_,rfl,?_⟩)|((with_reducible refine gate_dst (N:=35) rfl ?_);refine Kd.R_lit (Kd.int .i64) _ 2 ?hg (N:=35) ?hd (xs:=([x9_1,t106]:List Int)) (inner:=[.int .i64 x9_1,.int .i64 t106]) (ok:=fun _=>True) (okp:=fun _=>True) ?hr ?hp (fun _ hk=>hk) trivial (Below.refl _ _) (Nat.le_refl _) zbr ?_;(case hd=>rfl);(case hg=>rfl);(case hr=>exact zo);(case hp=>exact (Reps.one (show Kd.M (Kd.int .i64) _ _ _ x9_1 [.int .i64 x9_1] from rfl) (Reps.one (show Kd.M (Kd.int .i64) _ _ _ t106 [.int .i64 t106] from rfl) (Reps.none _ _))));intro v108 w12 ho13 hb hg_ hnew_;clear hg_ hnew_;(first|rw [←Ny107.out] at ho13|(simp only [Int.reduceToNat] at ho13;rw [←Ny107.out] at ho13));replace HO_7:=Aside0.mk (Kd.S_elder' zar (Kd.R_base ho13) hb);have HO109:=Aside0.mk (Kd.R_lower ho13 (below_size za));replace HB:=Aside0.mk (below_step za hb);clear hb ho13;obtain ⟨Ao15,co15,eo15⟩:=Kd.R_slice HO109.out;subst eo15)|((with_reducible refine gate_builtin (b:=.append) (xs:=#[.tmp 32,.tmp 36]) rfl ?_);at_builtin;refine Kd.S_append (Kd.slice 2 (Kd.int .i64)) (w0:=w) w.heap.size rfl (.tmp 32) (.tmp 36) 130 37 (.slice none 0 0) 24 rfl Tryz.underlying130 info37 rfl zbm zbd u7 x7_2 y107 [.slice Ao15 y107.length co15] (fun _=>True) (fun k_=>some k_=(.slice Ao15 y107.length co15:Value).ownBlock) rfl rfl ?aP (fun k_ hk_=>((Kd.R_mono (ok':=fun k_=>((fun _=>True)) k_∧some k_≠(u7:Value).ownBlock) (Kd.R_apart' (HO109.out) (Kd.S_typed HO_7.out) zbm) (fun k_ hk=>⟨trivial,hk.2⟩))).1 k_ hk_.symm) ?aF ?aO ?aB ?aS ?aL ?_;(case aP=>exact Kd.M_row (Kd.R_mono (Kd.R_tight rfl (Kd.R_mono (ok':=fun k_=>((fun _=>True)) k_∧some k_≠(u7:Value).ownBlock) (Kd.R_apart' (HO109.out) (Kd.S_typed HO_7.out) zbm) (fun k_ hk=>⟨trivial,hk.2⟩))) (fun _ h_=>h_)));(case aB=>exact za);(case aF=>exact zci);(case aO=>exact (by (with_reducible repeat (first|apply Kd.S_alloc|apply Kd.S_drewN|apply Kd.S_drew));exact Kd.S_mono HO_7.out (fun k_ hk=>⟨trivial,fun e_=>hk.2 e_⟩)));(case aS=>exact (below_size za));(case aL=>have:=LMc11.out;omega);intro v111 w14 ho hb hg hat;rw [←Ny110.out] at ho;replace HB:=Aside0.mk (hb);have HO112:=Aside0.mk (ho);clear HO_7 HO109;clear ho hb hg hat))
         go_roundg k2
         case measure=>have:=HK1.out;have:=HK2.out;omega
         case rel=>exact ⟨(y110),(wrap64 (x8_2+t106)),(wrap64 (x10_2 - t106)),zf,zf,H',⟨by have:=HK1.out;have:=HK2.out;omega⟩,⟨by (with_reducible repeat (first|apply Kd.S_alloc|apply Kd.S_drewN|apply Kd.S_drew));exact HO112.out⟩,⟨za⟩⟩
        ·rw [if_neg c11] at H
         exact absurd H zbr
       ·rw [if_neg c8] at H
        have c8b0:decide (0<x10_2)=false:=decide_eq_false c8
        clear c8
        have H':=Aside0.mk H
        clear H
        go_wp2
        go_roundg k2
        case measure=>have:=HK1.out;have:=HK2.out;omega
        case rel=>exact ⟨(x7_2),(x8_2),(wrap64 (x9_1+1)),zf,zf,H',⟨by have:=HK1.out;have:=HK2.out;omega⟩,⟨zar⟩,⟨za⟩⟩
    ·rw [if_neg c7] at H
     exact absurd H zbr
   ·rw [if_neg c6] at H
    have c6b0:decide (x9_1<(l0.length:Int))=false:=decide_eq_false c6
    clear c6
    obtain rfl:=Option.some.inj H
    go_wp2
    go_ret
    exact ⟨_,zg,zar,za⟩

mutual
def spec_l01Dec.l0:Nat→Int→List Int→Int→Option (ByteArray)
 | 0,_,_,_=>none
 | k+1,x0,x3,x4=>if x4=0 then (if x0<0 then (if x3.length<140737488355328 then (spec_l01Dec.j1 k (x3++[45])) else (none)) else (spec_l01Dec.j1 k x3)) else (if (Int.tmod x4 10)<0 then (if x3.length<140737488355328 then (spec_l01Dec.l0 k x0 (x3++[(wrap64 (48+(wrap64 (-(Int.tmod x4 10)))))%256]) (wrap64 (Int.tdiv x4 10))) else (none)) else (if x3.length<140737488355328 then (spec_l01Dec.l0 k x0 (x3++[(wrap64 (48+(Int.tmod x4 10)))%256]) (wrap64 (Int.tdiv x4 10))) else (none)))
def spec_l01Dec.j1:Nat→List Int→Option (ByteArray)
 | 0,_=>none
 | k+1,x3=>spec_l01Dec.l1 k x3 (([]:List Int)) (wrap64 ((x3.length:Int) - 1))
def spec_l01Dec.l1:Nat→List Int→List Int→Int→Option (ByteArray)
 | 0,_,_,_=>none
 | k+1,x3,x6,x7=>if x7≥0 then (if 0≤x7 then (if x7<(x3.length:Int) then (if x6.length<140737488355328 then (spec_l01Dec.l1 k x3 (x6++[rd x3 x7]) (wrap64 (x7 - 1))) else (none)) else (none)) else (none)) else (some (strOfNums x6))
end
def spec_l01Dec.f (k:Nat) (a0:Int):Option (ByteArray):=if a0=0 then (some (⟨#[48]⟩:ByteArray)) else (spec_l01Dec.l0 k a0 (([]:List Int)) a0)
set_option maxHeartbeats 8000000 in
set_option maxRecDepth 100000 in
theorem spec_l01Dec.calls (k:Nat) (a0:Int) (r:ByteArray) (w:World) (h:spec_l01Dec.f k a0=some r) :
 Calls Tryz.prog 82 #[.int .i64 a0] w fun e w'=>e = .returned (.string r)∧Below w.heap.size w w':=by
 have HB:=Aside0.mk (Below.refl w.heap.size w)
 have H:(if a0=0 then (some (⟨#[48]⟩:ByteArray)) else (spec_l01Dec.l0 k a0 (([]:List Int)) a0))=some r:=h
 clear h
 by_cases c2:a0=0
 ·rw [if_pos c2] at H
  have c2b0:(a0 == 0)=true:=beq_iff_eq.mpr c2
  have c2b1:(a0 != 0)=false:=bne_eq_false_iff_eq.mpr c2
  clear c2
  obtain rfl:=Option.some.inj H
  go_enter Tryz.func82,Tryz.ntmps82
  go_wp2
  go_ret
  exact ⟨zg,za⟩
 ·rw [if_neg c2] at H
  have c2b0:(a0 == 0)=false:=beq_eq_false_iff_ne.mpr c2
  have c2b1:(a0 != 0)=true:=bne_iff_ne.mpr c2
  obtain ⟨y101,hy101⟩:∃y_:List Int,y_=(([]:List Int)):=⟨_,rfl⟩
  replace H:(spec_l01Dec.l0 k a0 y101 a0)=some r:=by first|(rw [hy101];with_reducible exact H)|(have H2_:=(Option.bind_some _ _).symm.trans H;rw [hy101];with_reducible exact H2_)|(have H2_:=(Option.bind_some _ _).symm.trans H;with_reducible exact H2_)|with_reducible exact H|(rw [hy101];exact H)|exact H
  have Ny101:=Aside0.mk hy101
  clear hy101
  have H':=Aside0.mk H
  clear H
  go_enter Tryz.func82,Tryz.ntmps82
  go_wp2_with (first|((with_reducible refine gate_dst (N:=10) rfl ?_);refine Kd.R_lit (Kd.int .u8) _ 5 ?hg (N:=10) ?hd (xs:=([]:List Int)) (inner:=[]) (ok:=fun _=>True) (okp:=fun _=>True) ?hr ?hp (fun _ hk=>hk) trivial (Below.refl _ _) (Nat.le_refl _) zbr ?_;(case hd=>rfl);(case hg=>rfl);(case hr=>exact zo);(case hp=>exact (Reps.none _ _));intro v102 w3 ho4 hb hg_ hnew_;clear hg_ hnew_;(first|rw [←Ny101.out] at ho4|(simp only [Int.reduceToNat] at ho4;rw [←Ny101.out] at ho4));have HO103:=Aside0.mk (Kd.R_lower ho4 (below_size za));replace HB:=Aside0.mk (below_step za hb);clear hb ho4))
  go_loopg [3,4] k (fun kq v3 v4 w'=>∃(x3_1:List Int) (x4_1:Int),v4 = .int .i64 x4_1∧Aside0 (spec_l01Dec.l0 kq a0 x3_1 x4_1=some r)∧Aside0 (kq≤k)∧Aside0 (Kd.R (Kd.int .u8) 5 w' w.heap.size (fun _=>True) v3 x3_1)∧Aside0 (Below w.heap.size w w'))
  case atStart=>exact ⟨(y101),(a0),zf,H',⟨Nat.le_refl _⟩,⟨zbn⟩,⟨za⟩⟩
  case round=>
   clear H'
   try clear c2
   try clear c2b0
   try clear c2b1
   try clear p2
   obtain ⟨x3_1,x4_1,rfl,HA,HK1,HO_3,HB⟩:=hrel
   cases gk with
   | zero=>exact absurd HA.out (by simp [spec_l01Dec.l0])
   | succ k1=>
    have H:=HA.out
    clear HA
    simp only [spec_l01Dec.l0] at H
    by_cases c5:x4_1=0
    ·rw [if_pos c5] at H
     have c5b0:(x4_1 == 0)=true:=beq_iff_eq.mpr c5
     have c5b1:(x4_1 != 0)=false:=bne_eq_false_iff_eq.mpr c5
     clear c5
     have HC6:=Aside0.mk H
     clear H
     go_upto_if 29 with (fail)
     go_cut [3] (fun v3 wc=>∃(kq:Nat) (x3_5:List Int),Aside0 (spec_l01Dec.j1 kq x3_5=some r)∧Aside0 (kq≤k1)∧Aside0 (Kd.R (Kd.int .u8) 5 wc w.heap.size (fun _=>True) v3 x3_5)∧Aside0 (Below w.heap.size w wc))
     case first=>
      have H:=HC6.out
      clear HC6
      by_cases c7:a0<0
      ·rw [if_pos c7] at H
       have c7b0:decide (a0<0)=true:=decide_eq_true c7
       clear c7
       (first|rw [c7b0]|(simp only [i64_w,i32_w];rw [c7b0])|skip)
       by_cases c8:x3_1.length<140737488355328
       ·rw [if_pos c8] at H
        have LMc8:=Aside0.mk c8
        clear c8
        obtain ⟨y110,hy110⟩:∃y_:List Int,y_=(x3_1++[45]):=⟨_,rfl⟩
        replace H:(spec_l01Dec.j1 k1 y110)=some r:=by first|(rw [hy110];with_reducible exact H)|(have H2_:=(Option.bind_some _ _).symm.trans H;rw [hy110];with_reducible exact H2_)|(have H2_:=(Option.bind_some _ _).symm.trans H;with_reducible exact H2_)|with_reducible exact H|(rw [hy110];exact H)|exact H
        have Ny110:=Aside0.mk hy110
        clear hy110
        have H':=Aside0.mk H
        clear H
        go_wp2_with (first|((with_reducible refine gate_builtin (b:=.append) (xs:=#[.tmp 30,.tmp 31]) rfl ?_);at_builtin;refine Kd.R_append (Kd.int .u8) (w0:=w) w.heap.size rfl (.tmp 30) (.tmp 31) 25 5 (.int .u8 0) 1 rfl Tryz.underlying25 info5 rfl zbm zbd u3 x3_1 45 [.int .u8 45] (fun _=>True) (fun _=>False) rfl rfl ?aP (fun _ hk=>hk.elim) ?aF ?aO ?aB ?aS ?aL ?_;(case aP=>exact rfl);(case aB=>exact za);(case aF=>exact zci);(case aO=>exact zba);(case aS=>exact (below_size za));(case aL=>have:=LMc8.out;omega);intro v111 w9 ho hb hg hat;rw [←Ny110.out] at ho;replace HB:=Aside0.mk (hb);have HO112:=Aside0.mk (ho);clear HO_3;clear ho hb hg hat))
        go_meet
        case rel=>exact ⟨_,(y110),H',⟨zcc⟩,⟨zbw⟩,⟨za⟩⟩
       ·rw [if_neg c8] at H
        exact absurd H zbr
      ·rw [if_neg c7] at H
       have c7b0:decide (a0<0)=false:=decide_eq_false c7
       clear c7
       (first|rw [c7b0]|(simp only [i64_w,i32_w];rw [c7b0])|skip)
       have H':=Aside0.mk H
       clear H
       go_wp2
       go_meet
       case rel=>exact ⟨_,(x3_1),H',⟨zcc⟩,⟨zba⟩,⟨za⟩⟩
     case rest=>
      clear HC6
      try clear c2
      try clear c2b0
      try clear c2b1
      try clear p2
      try clear c5
      try clear c5b0
      try clear c5b1
      try clear c7
      try clear c7b0
      try clear c8
      try clear p2
      obtain ⟨kq,x3_5,HA,HJ5,HO_3,HB⟩:=hcut
      cases kq with
      | zero=>exact absurd HA.out (by simp [spec_l01Dec.j1])
      | succ kj5=>
       have H:=HA.out
       clear HA
       simp only [spec_l01Dec.j1] at H
       obtain ⟨y113,hy113⟩:∃y_:List Int,y_=(([]:List Int)):=⟨_,rfl⟩
       replace H:(spec_l01Dec.l1 kj5 x3_5 y113 (wrap64 ((x3_5.length:Int) - 1)))=some r:=by first|(rw [hy113];with_reducible exact H)|(have H2_:=(Option.bind_some _ _).symm.trans H;rw [hy113];with_reducible exact H2_)|(have H2_:=(Option.bind_some _ _).symm.trans H;with_reducible exact H2_)|with_reducible exact H|(rw [hy113];exact H)|exact H
       have Ny113:=Aside0.mk hy113
       clear hy113
       have H':=Aside0.mk H
       clear H
       go_wp2_with (first|((with_reducible refine gate_dst (N:=33) rfl ?_);refine Kd.R_lit (Kd.int .u8) _ 5 ?hg (N:=33) ?hd (xs:=([]:List Int)) (inner:=[]) (ok:=fun _=>True) (okp:=fun _=>True) ?hr ?hp (fun _ hk=>hk) trivial (Below.refl _ _) (Nat.le_refl _) zbr ?_;(case hd=>rfl);(case hg=>rfl);(case hr=>exact zo);(case hp=>exact (Reps.none _ _));intro v114 w10 ho11 hb hg_ hnew_;clear hg_ hnew_;(first|rw [←Ny113.out] at ho11|(simp only [Int.reduceToNat] at ho11;rw [←Ny113.out] at ho11));have n0_:=Aside0.mk (Kd.R_elder' zba (Kd.R_base ho11) hb);have n1_:=Aside0.mk (Kd.R_lower (Kd.R_new' ho11 (Kd.R_lt zba)) (below_size za));have n2_:=Aside0.mk (below_step za hb);clear HO_3;clear HB;have HO_3:=n0_;have HO115:=n1_;have HB:=n2_;clear n0_ n1_ n2_;clear hb ho11;obtain ⟨Ao12,co12,eo12⟩:=Kd.R_slice HO_3.out;subst eo12))
       go_loopg [6,7] kj5 (fun kq v6 v7 w'=>∃(x6_3:List Int) (x7_3:Int),v7 = .int .i64 x7_3∧Aside0 (spec_l01Dec.l1 kq x3_5 x6_3 x7_3=some r)∧Aside0 (kq≤kj5)∧Aside0 (Kd.R (Kd.int .u8) 5 w' w.heap.size (fun k_=>some k_≠(v6:Value).ownBlock) (.slice Ao12 x3_5.length co12) x3_5)∧Aside0 (Kd.R (Kd.int .u8) 5 w' w.heap.size (fun k_=>some k_≠((.slice Ao12 x3_5.length co12):Value).ownBlock) v6 x6_3)∧Aside0 (Below w.heap.size w w'))
       case atStart=>exact ⟨(y113),(wrap64 ((x3_5.length:Int) - 1)),zf,H',⟨Nat.le_refl _⟩,⟨by (with_reducible repeat (first|apply Kd.R_alloc|apply Kd.R_drewN|apply Kd.R_drew));exact Kd.R_mono HO_3.out (fun _ hk=>hk.2)⟩,⟨by (with_reducible repeat (first|apply Kd.R_alloc|apply Kd.R_drewN|apply Kd.R_drew));exact Kd.R_mono HO115.out (fun _ hk=>hk.2)⟩,⟨za⟩⟩
       case round=>
        clear H'
        try clear c2
        try clear c2b0
        try clear c2b1
        try clear p2
        try clear c5
        try clear c5b0
        try clear c5b1
        try clear p6
        try clear c7
        try clear c7b0
        try clear c8
        try clear p2
        obtain ⟨x6_3,x7_3,rfl,HA,HK3,HO_3,HO_6,HB⟩:=hrel
        cases gk with
        | zero=>exact absurd HA.out (by simp [spec_l01Dec.l1])
        | succ k3=>
         have H:=HA.out
         clear HA
         simp only [spec_l01Dec.l1] at H
         by_cases c13:x7_3≥0
         ·rw [if_pos c13] at H
          have c13b0:decide (0≤x7_3)=true:=decide_eq_true c13
          clear c13
          by_cases c14:0≤x7_3
          ·rw [if_pos c14] at H
           have c14b0:decide (0≤x7_3)=true:=decide_eq_true c14
           clear c14
           by_cases c15:x7_3<(x3_5.length:Int)
           ·rw [if_pos c15] at H
            have c15b0:decide (x7_3<(x3_5.length:Int))=true:=decide_eq_true c15
            clear c15
            by_cases c16:x6_3.length<140737488355328
            ·rw [if_pos c16] at H
             have LMc16:=Aside0.mk c16
             clear c16
             obtain ⟨y117,hy117⟩:∃y_:List Int,y_=(x6_3++[rd x3_5 x7_3]):=⟨_,rfl⟩
             replace H:(spec_l01Dec.l1 k3 x3_5 y117 (wrap64 (x7_3 - 1)))=some r:=by first|(rw [hy117];with_reducible exact H)|(have H2_:=(Option.bind_some _ _).symm.trans H;rw [hy117];with_reducible exact H2_)|(have H2_:=(Option.bind_some _ _).symm.trans H;with_reducible exact H2_)|with_reducible exact H|(rw [hy117];exact H)|exact H
             have Ny117:=Aside0.mk hy117
             clear hy117
             have H':=Aside0.mk H
             clear H
             have p116:0≤(x7_3:Int):=of_decide_eq_true ze
             have q116:x7_3<(x3_5.length:Int):=of_decide_eq_true ze
             obtain ⟨ad116,e116,hx116_0⟩:=Kd.at_int (Kd.R_reads' HO_3.out).2.2 x7_3 p116 q116
             cases e116
             replace p116:=eq_true p116
             replace q116:=eq_true q116
             go_wp2_with (first|((with_reducible refine gate_builtin (b:=.append) (xs:=#[.tmp 41,.tmp 46]) rfl ?_);at_builtin;refine Kd.R_append (Kd.int .u8) (w0:=w) w.heap.size rfl (.tmp 41) (.tmp 46) 25 5 (.int .u8 0) 1 rfl Tryz.underlying25 info5 rfl zbm zbd u6 x6_3 (rd x3_5 x7_3) [.int .u8 (rd x3_5 x7_3)] (fun k_=>some k_≠(.slice (some ad116) x3_5.length co12:Value).ownBlock) (fun _=>False) rfl rfl ?aP (fun _ hk=>hk.elim) ?aF ?aO ?aB ?aS ?aL ?_;(case aP=>exact rfl);(case aB=>exact za);(case aF=>exact (fun k_ hk=>Kd.fresh' (Kd.R_lt zba) k_ hk));(case aO=>exact zaj);(case aS=>exact (below_size za));(case aL=>have:=LMc16.out;omega);intro v118 w17 ho hb hg hat;rw [←Ny117.out] at ho;replace HO_3:=Aside0.mk (Kd.R_after (ok:=(fun _=>True)) (by (with_reducible repeat (first|apply Kd.R_alloc|apply Kd.R_drewN|apply Kd.R_drew));exact Kd.R_mono HO_3.out (fun _ hk=>⟨trivial,hk⟩)) hg hat);replace HB:=Aside0.mk (hb);have HO119:=Aside0.mk (ho);clear HO_6;clear ho hb hg hat))
             go_roundg k3
             case measure=>have:=HK1.out;have:=HJ5.out;have:=HK3.out;omega
             case rel=>exact ⟨(y117),(wrap64 (x7_3 - 1)),zf,H',⟨by have:=HK1.out;have:=HJ5.out;have:=HK3.out;omega⟩,⟨by (with_reducible repeat (first|apply Kd.R_alloc|apply Kd.R_drewN|apply Kd.R_drew));exact Kd.R_mono HO_3.out (fun _ hk=>hk.2)⟩,⟨by (with_reducible repeat (first|apply Kd.R_alloc|apply Kd.R_drewN|apply Kd.R_drew));exact HO119.out⟩,⟨za⟩⟩
            ·rw [if_neg c16] at H
             exact absurd H zbr
           ·rw [if_neg c15] at H
            exact absurd H zbr
          ·rw [if_neg c14] at H
           exact absurd H zbr
         ·rw [if_neg c13] at H
          have c13b0:decide (0≤x7_3)=false:=decide_eq_false c13
          clear c13
          obtain rfl:=Option.some.inj H
          have hcv18:=own_string (P:=Tryz.prog) Tryz.underlying25 Tryz.underlying5 Tryz.underlying9 (Kd.own_of_R HO_6.out)
          go_wp2
          go_ret
          exact ⟨zg,za⟩
    ·rw [if_neg c5] at H
     have c5b0:(x4_1 == 0)=false:=beq_eq_false_iff_ne.mpr c5
     have c5b1:(x4_1 != 0)=true:=bne_iff_ne.mpr c5
     by_cases c19:(Int.tmod x4_1 10)<0
     ·rw [if_pos c19] at H
      have c19b0:decide ((Int.tmod x4_1 10)<0)=true:=decide_eq_true c19
      clear c19
      by_cases c20:x3_1.length<140737488355328
      ·rw [if_pos c20] at H
       have LMc20:=Aside0.mk c20
       clear c20
       obtain ⟨y104,hy104⟩:∃y_:List Int,y_=(x3_1++[(wrap64 (48+(wrap64 (-(Int.tmod x4_1 10)))))%256]):=⟨_,rfl⟩
       replace H:(spec_l01Dec.l0 k1 a0 y104 (wrap64 (Int.tdiv x4_1 10)))=some r:=by first|(rw [hy104];with_reducible exact H)|(have H2_:=(Option.bind_some _ _).symm.trans H;rw [hy104];with_reducible exact H2_)|(have H2_:=(Option.bind_some _ _).symm.trans H;with_reducible exact H2_)|with_reducible exact H|(rw [hy104];exact H)|exact H
       have Ny104:=Aside0.mk hy104
       clear hy104
       have H':=Aside0.mk H
       clear H
       go_wp2_with (first|((with_reducible refine gate_builtin (b:=.append) (xs:=#[.tmp 22,.tmp 26]) rfl ?_);at_builtin;refine Kd.R_append (Kd.int .u8) (w0:=w) w.heap.size rfl (.tmp 22) (.tmp 26) 25 5 (.int .u8 0) 1 rfl Tryz.underlying25 info5 rfl zbm zbd u3 x3_1 ((wrap64 (48+(wrap64 (-(Int.tmod x4_1 10)))))%256) [.int .u8 ((wrap64 (48+(wrap64 (-(Int.tmod x4_1 10)))))%256)] (fun _=>True) (fun _=>False) rfl rfl ?aP (fun _ hk=>hk.elim) ?aF ?aO ?aB ?aS ?aL ?_;(case aP=>exact rfl);(case aB=>exact za);(case aF=>exact zci);(case aO=>exact zba);(case aS=>exact (below_size za));(case aL=>have:=LMc20.out;omega);intro v105 w21 ho hb hg hat;rw [←Ny104.out] at ho;replace HB:=Aside0.mk (hb);have HO106:=Aside0.mk (ho);clear HO_3;clear ho hb hg hat))
       go_roundg k1
       case measure=>have:=HK1.out;omega
       case rel=>exact ⟨(y104),(wrap64 (Int.tdiv x4_1 10)),zf,H',⟨zcq⟩,⟨zab⟩,⟨za⟩⟩
      ·rw [if_neg c20] at H
       exact absurd H zbr
     ·rw [if_neg c19] at H
      have c19b0:decide ((Int.tmod x4_1 10)<0)=false:=decide_eq_false c19
      clear c19
      by_cases c22:x3_1.length<140737488355328
      ·rw [if_pos c22] at H
       have LMc22:=Aside0.mk c22
       clear c22
       obtain ⟨y107,hy107⟩:∃y_:List Int,y_=(x3_1++[(wrap64 (48+(Int.tmod x4_1 10)))%256]):=⟨_,rfl⟩
       replace H:(spec_l01Dec.l0 k1 a0 y107 (wrap64 (Int.tdiv x4_1 10)))=some r:=by first|(rw [hy107];with_reducible exact H)|(have H2_:=(Option.bind_some _ _).symm.trans H;rw [hy107];with_reducible exact H2_)|(have H2_:=(Option.bind_some _ _).symm.trans H;with_reducible exact H2_)|with_reducible exact H|(rw [hy107];exact H)|exact H
       have Ny107:=Aside0.mk hy107
       clear hy107
       have H':=Aside0.mk H
       clear H
       go_wp2_with (first|((with_reducible refine gate_builtin (b:=.append) (xs:=#[.tmp 22,.tmp 26]) rfl ?_);at_builtin;refine Kd.R_append (Kd.int .u8) (w0:=w) w.heap.size rfl (.tmp 22) (.tmp 26) 25 5 (.int .u8 0) 1 rfl Tryz.underlying25 info5 rfl zbm zbd u3 x3_1 ((wrap64 (48+(Int.tmod x4_1 10)))%256) [.int .u8 ((wrap64 (48+(Int.tmod x4_1 10)))%256)] (fun _=>True) (fun _=>False) rfl rfl ?aP (fun _ hk=>hk.elim) ?aF ?aO ?aB ?aS ?aL ?_;(case aP=>exact rfl);(case aB=>exact za);(case aF=>exact zci);(case aO=>exact zba);(case aS=>exact (below_size za));(case aL=>have:=LMc22.out;omega);intro v108 w23 ho hb hg hat;rw [←Ny107.out] at ho;replace HB:=Aside0.mk (hb);have HO109:=Aside0.mk (ho);clear HO_3;clear ho hb hg hat))
       go_roundg k1
       case measure=>have:=HK1.out;omega
       case rel=>exact ⟨(y107),(wrap64 (Int.tdiv x4_1 10)),zf,H',⟨zcq⟩,⟨zbv⟩,⟨za⟩⟩
      ·rw [if_neg c22] at H
       exact absurd H zbr

def spec_l03Tone.f (a0:Int):Option (Int):=some (Int.tmod (wrap64 ((Int.tmod a0 12)+12)) 12)
set_option maxHeartbeats 8000000 in
set_option maxRecDepth 100000 in
theorem spec_l03Tone.calls (a0:Int) (r:Int) (w:World) (h:spec_l03Tone.f a0=some r) :
 Calls Tryz.prog 113 #[.int .i64 a0] w fun e w'=>e = .returned (.int .i64 r)∧Drawn0 w w':=by
 have H:(some (Int.tmod (wrap64 ((Int.tmod a0 12)+12)) 12))=some r:=h
 clear h
 obtain rfl:=Option.some.inj H
 go_enter Tryz.func113,Tryz.ntmps113
 go_wp2
 go_ret
 exact ⟨zf,zk⟩

def spec_l03Floor.f (a0:Int):Option (Int):=(spec_l03Tone.f a0).bind fun t101=>(some (wrap64 (Int.tdiv (wrap64 (a0 - t101)) 12)))
set_option maxHeartbeats 8000000 in
set_option maxRecDepth 100000 in
theorem spec_l03Floor.calls (a0:Int) (r:Int) (w:World) (h:spec_l03Floor.f a0=some r) :
 Calls Tryz.prog 114 #[.int .i64 a0] w fun e w'=>e = .returned (.int .i64 r)∧Drawn0 w w':=by
 have H:((spec_l03Tone.f a0).bind fun t101=>(some (wrap64 (Int.tdiv (wrap64 (a0 - t101)) 12))))=some r:=h
 clear h
 replace H:=Option.bind_eq_some_iff.mp H
 obtain ⟨t101,A20,H⟩:=H
 replace H:(some (wrap64 (Int.tdiv (wrap64 (a0 - t101)) 12)))=some r:=H
 have A2:=Aside0.mk A20
 clear A20
 obtain rfl:=Option.some.inj H
 go_enter Tryz.func114,Tryz.ntmps114
 go_wp2_with (first|((with_reducible refine gate_callee (f:=113) rfl ?_);refine goesL_ (some 5) rfl rfl Tryz.func113 zu rfl #[.int .i64 a0] rfl zc ?_;(with_reducible refine (spec_l03Tone.calls a0 t101 _ A2.out).mono ?_);rintro e w' ⟨rfl,⟨nd,rfl⟩⟩;refine ⟨_,rfl,?_⟩))
 go_ret
 exact ⟨zf,zk⟩

def spec_l09Name.f (a0:Int):Option (ByteArray):=(spec_l03Tone.f a0).bind fun t101=>((spec_l03Names.f).bind fun t102=>(if 0≤t101 then (if t101≤(wrap64 (t101+1)) then (if (wrap64 (t101+1))≤(t102.size:Int) then ((spec_l03Floor.f a0).bind fun t103=>(if t103=(-1) then (if (t102.extract (t101:Int).toNat ((wrap64 (t101+1)):Int).toNat).size+1≤9223372036854775807 then (some ((t102.extract (t101:Int).toNat ((wrap64 (t101+1)):Int).toNat)++(⟨#[44]⟩:ByteArray))) else (none)) else (if t103=1 then (if (t102.extract (t101:Int).toNat ((wrap64 (t101+1)):Int).toNat).size+1≤9223372036854775807 then (some ((t102.extract (t101:Int).toNat ((wrap64 (t101+1)):Int).toNat)++(⟨#[39]⟩:ByteArray))) else (none)) else (some (t102.extract (t101:Int).toNat ((wrap64 (t101+1)):Int).toNat))))) else (none)) else (none)) else (none)))
set_option maxHeartbeats 8000000 in
set_option maxRecDepth 100000 in
theorem spec_l09Name.calls (a0:Int) (r:ByteArray) (w:World) (h:spec_l09Name.f a0=some r) :
 Calls Tryz.prog 165 #[.int .i64 a0] w fun e w'=>e = .returned (.string r)∧Drawn0 w w':=by
 have H:((spec_l03Tone.f a0).bind fun t101=>((spec_l03Names.f).bind fun t102=>(if 0≤t101 then (if t101≤(wrap64 (t101+1)) then (if (wrap64 (t101+1))≤(t102.size:Int) then ((spec_l03Floor.f a0).bind fun t103=>(if t103=(-1) then (if (t102.extract (t101:Int).toNat ((wrap64 (t101+1)):Int).toNat).size+1≤9223372036854775807 then (some ((t102.extract (t101:Int).toNat ((wrap64 (t101+1)):Int).toNat)++(⟨#[44]⟩:ByteArray))) else (none)) else (if t103=1 then (if (t102.extract (t101:Int).toNat ((wrap64 (t101+1)):Int).toNat).size+1≤9223372036854775807 then (some ((t102.extract (t101:Int).toNat ((wrap64 (t101+1)):Int).toNat)++(⟨#[39]⟩:ByteArray))) else (none)) else (some (t102.extract (t101:Int).toNat ((wrap64 (t101+1)):Int).toNat))))) else (none)) else (none)) else (none))))=some r:=h
 clear h
 replace H:=Option.bind_eq_some_iff.mp H
 obtain ⟨t101,A20,H⟩:=H
 replace H:((spec_l03Names.f).bind fun t102=>(if 0≤t101 then (if t101≤(wrap64 (t101+1)) then (if (wrap64 (t101+1))≤(t102.size:Int) then ((spec_l03Floor.f a0).bind fun t103=>(if t103=(-1) then (if (t102.extract (t101:Int).toNat ((wrap64 (t101+1)):Int).toNat).size+1≤9223372036854775807 then (some ((t102.extract (t101:Int).toNat ((wrap64 (t101+1)):Int).toNat)++(⟨#[44]⟩:ByteArray))) else (none)) else (if t103=1 then (if (t102.extract (t101:Int).toNat ((wrap64 (t101+1)):Int).toNat).size+1≤9223372036854775807 then (some ((t102.extract (t101:Int).toNat ((wrap64 (t101+1)):Int).toNat)++(⟨#[39]⟩:ByteArray))) else (none)) else (some (t102.extract (t101:Int).toNat ((wrap64 (t101+1)):Int).toNat))))) else (none)) else (none)) else (none)))=some r:=H
 have A2:=Aside0.mk A20
 clear A20
 replace H:=Option.bind_eq_some_iff.mp H
 obtain ⟨t102,A30,H⟩:=H
 replace H:(if 0≤t101 then (if t101≤(wrap64 (t101+1)) then (if (wrap64 (t101+1))≤(t102.size:Int) then ((spec_l03Floor.f a0).bind fun t103=>(if t103=(-1) then (if (t102.extract (t101:Int).toNat ((wrap64 (t101+1)):Int).toNat).size+1≤9223372036854775807 then (some ((t102.extract (t101:Int).toNat ((wrap64 (t101+1)):Int).toNat)++(⟨#[44]⟩:ByteArray))) else (none)) else (if t103=1 then (if (t102.extract (t101:Int).toNat ((wrap64 (t101+1)):Int).toNat).size+1≤9223372036854775807 then (some ((t102.extract (t101:Int).toNat ((wrap64 (t101+1)):Int).toNat)++(⟨#[39]⟩:ByteArray))) else (none)) else (some (t102.extract (t101:Int).toNat ((wrap64 (t101+1)):Int).toNat))))) else (none)) else (none)) else (none))=some r:=H
 have A3:=Aside0.mk A30
 clear A30
 by_cases c4:0≤t101
 ·rw [if_pos c4] at H
  have c4b0:=eq_true c4
  have c4b1:decide (0≤t101)=true:=decide_eq_true c4
  clear c4
  by_cases c5:t101≤(wrap64 (t101+1))
  ·rw [if_pos c5] at H
   have c5b0:=eq_true c5
   have c5b1:decide (t101≤(wrap64 (t101+1)))=true:=decide_eq_true c5
   by_cases c6:(wrap64 (t101+1))≤(t102.size:Int)
   ·rw [if_pos c6] at H
    have c6b0:=eq_true c6
    have c6b1:decide ((wrap64 (t101+1))≤(t102.size:Int))=true:=decide_eq_true c6
    replace H:=Option.bind_eq_some_iff.mp H
    obtain ⟨t103,A70,H⟩:=H
    replace H:(if t103=(-1) then (if (t102.extract (t101:Int).toNat ((wrap64 (t101+1)):Int).toNat).size+1≤9223372036854775807 then (some ((t102.extract (t101:Int).toNat ((wrap64 (t101+1)):Int).toNat)++(⟨#[44]⟩:ByteArray))) else (none)) else (if t103=1 then (if (t102.extract (t101:Int).toNat ((wrap64 (t101+1)):Int).toNat).size+1≤9223372036854775807 then (some ((t102.extract (t101:Int).toNat ((wrap64 (t101+1)):Int).toNat)++(⟨#[39]⟩:ByteArray))) else (none)) else (some (t102.extract (t101:Int).toNat ((wrap64 (t101+1)):Int).toNat))))=some r:=H
    have A7:=Aside0.mk A70
    clear A70
    by_cases c8:t103=(-1)
    ·rw [if_pos c8] at H
     have c8b0:(t103 == (-1))=true:=beq_iff_eq.mpr c8
     have c8b1:(t103 != (-1))=false:=bne_eq_false_iff_eq.mpr c8
     clear c8
     by_cases c9:(t102.extract (t101:Int).toNat ((wrap64 (t101+1)):Int).toNat).size+1≤9223372036854775807
     ·rw [if_pos c9] at H
      have c9b0:=eq_true c9
      have c9b1:decide ((t102.extract (t101:Int).toNat ((wrap64 (t101+1)):Int).toNat).size+1≤9223372036854775807)=true:=decide_eq_true c9
      try have c9b2:(9223372036854775807<(t102.extract (t101:Int).toNat ((wrap64 (t101+1)):Int).toNat).size+1)=False:=eq_false (Nat.not_lt.2 c9)
      (try have c9b3:(9223372036854775807<(wrap64 (t101+1)).toNat - t101.toNat+1)=False:=eq_false (by have h_:=c9;have h6_:=of_decide_eq_true (by first|(with_reducible assumption)|assumption:decide ((wrap64 (t101+1))≤(t102.size:Int))=true);rw [ByteArray.size_extract] at h_;omega))
      obtain rfl:=Option.some.inj H
      go_enter Tryz.func165,Tryz.ntmps165
      go_wp2_with (first|((with_reducible refine gate_callee (f:=113) rfl ?_);refine goesL_ (some 6) rfl rfl Tryz.func113 zu rfl #[.int .i64 a0] rfl zc ?_;(with_reducible refine (spec_l03Tone.calls a0 t101 _ A2.out).mono ?_);rintro e w' ⟨rfl,⟨nd,rfl⟩⟩;refine ⟨_,rfl,?_⟩)|((with_reducible refine gate_callee (f:=115) rfl ?_);refine goesL_ (some 7) rfl rfl Tryz.func115 zu rfl #[] rfl zc ?_;(with_reducible refine (spec_l03Names.calls t102 _ A3.out).mono ?_);rintro e w' ⟨rfl,⟨nd,rfl⟩⟩;refine ⟨_,rfl,?_⟩)|((with_reducible refine gate_callee (f:=114) rfl ?_);refine goesL_ (some 13) rfl rfl Tryz.func114 zu rfl #[.int .i64 a0] rfl zc ?_;(with_reducible refine (spec_l03Floor.calls a0 t103 _ A7.out).mono ?_);rintro e w' ⟨rfl,⟨nd,rfl⟩⟩;refine ⟨_,rfl,?_⟩))
      go_ret
      exact ⟨zf,zk⟩
     ·rw [if_neg c9] at H
      exact absurd H zbr
    ·rw [if_neg c8] at H
     have c8b0:(t103 == (-1))=false:=beq_eq_false_iff_ne.mpr c8
     have c8b1:(t103 != (-1))=true:=bne_iff_ne.mpr c8
     by_cases c10:t103=1
     ·rw [if_pos c10] at H
      have c10b0:(t103 == 1)=true:=beq_iff_eq.mpr c10
      have c10b1:(t103 != 1)=false:=bne_eq_false_iff_eq.mpr c10
      clear c10
      by_cases c11:(t102.extract (t101:Int).toNat ((wrap64 (t101+1)):Int).toNat).size+1≤9223372036854775807
      ·rw [if_pos c11] at H
       have c11b0:=eq_true c11
       have c11b1:decide ((t102.extract (t101:Int).toNat ((wrap64 (t101+1)):Int).toNat).size+1≤9223372036854775807)=true:=decide_eq_true c11
       try have c11b2:(9223372036854775807<(t102.extract (t101:Int).toNat ((wrap64 (t101+1)):Int).toNat).size+1)=False:=eq_false (Nat.not_lt.2 c11)
       (try have c11b3:(9223372036854775807<(wrap64 (t101+1)).toNat - t101.toNat+1)=False:=eq_false (by have h_:=c11;have h6_:=of_decide_eq_true (by first|(with_reducible assumption)|assumption:decide ((wrap64 (t101+1))≤(t102.size:Int))=true);rw [ByteArray.size_extract] at h_;omega))
       obtain rfl:=Option.some.inj H
       go_enter Tryz.func165,Tryz.ntmps165
       go_wp2_with (first|((with_reducible refine gate_callee (f:=113) rfl ?_);refine goesL_ (some 6) rfl rfl Tryz.func113 zu rfl #[.int .i64 a0] rfl zc ?_;(with_reducible refine (spec_l03Tone.calls a0 t101 _ A2.out).mono ?_);rintro e w' ⟨rfl,⟨nd,rfl⟩⟩;refine ⟨_,rfl,?_⟩)|((with_reducible refine gate_callee (f:=115) rfl ?_);refine goesL_ (some 7) rfl rfl Tryz.func115 zu rfl #[] rfl zc ?_;(with_reducible refine (spec_l03Names.calls t102 _ A3.out).mono ?_);rintro e w' ⟨rfl,⟨nd,rfl⟩⟩;refine ⟨_,rfl,?_⟩)|((with_reducible refine gate_callee (f:=114) rfl ?_);refine goesL_ (some 13) rfl rfl Tryz.func114 zu rfl #[.int .i64 a0] rfl zc ?_;(with_reducible refine (spec_l03Floor.calls a0 t103 _ A7.out).mono ?_);rintro e w' ⟨rfl,⟨nd,rfl⟩⟩;refine ⟨_,rfl,?_⟩))
       go_ret
       exact ⟨zf,zk⟩
      ·rw [if_neg c11] at H
       exact absurd H zbr
     ·rw [if_neg c10] at H
      have c10b0:(t103 == 1)=false:=beq_eq_false_iff_ne.mpr c10
      have c10b1:(t103 != 1)=true:=bne_iff_ne.mpr c10
      obtain rfl:=Option.some.inj H
      go_enter Tryz.func165,Tryz.ntmps165
      go_wp2_with (first|((with_reducible refine gate_callee (f:=113) rfl ?_);refine goesL_ (some 6) rfl rfl Tryz.func113 zu rfl #[.int .i64 a0] rfl zc ?_;(with_reducible refine (spec_l03Tone.calls a0 t101 _ A2.out).mono ?_);rintro e w' ⟨rfl,⟨nd,rfl⟩⟩;refine ⟨_,rfl,?_⟩)|((with_reducible refine gate_callee (f:=115) rfl ?_);refine goesL_ (some 7) rfl rfl Tryz.func115 zu rfl #[] rfl zc ?_;(with_reducible refine (spec_l03Names.calls t102 _ A3.out).mono ?_);rintro e w' ⟨rfl,⟨nd,rfl⟩⟩;refine ⟨_,rfl,?_⟩)|((with_reducible refine gate_callee (f:=114) rfl ?_);refine goesL_ (some 13) rfl rfl Tryz.func114 zu rfl #[.int .i64 a0] rfl zc ?_;(with_reducible refine (spec_l03Floor.calls a0 t103 _ A7.out).mono ?_);rintro e w' ⟨rfl,⟨nd,rfl⟩⟩;refine ⟨_,rfl,?_⟩))
      go_ret
      exact ⟨zf,zk⟩
   ·rw [if_neg c6] at H
    exact absurd H zbr
  ·rw [if_neg c5] at H
   exact absurd H zbr
 ·rw [if_neg c4] at H
  exact absurd H zbr

mutual
def spec_l09Text.l0:Nat→List (S67)→ByteArray→Int→Option (ByteArray)
 | 0,_,_,_=>none
 | k+1,x0,x3,x4=>if x4<(x0.length:Int) then (if x4 > 0 then (if x3.size+1≤9223372036854775807 then (spec_l09Text.j1 k x0 (x3++(⟨#[32]⟩:ByteArray)) x4) else (none)) else (spec_l09Text.j1 k x0 x3 x4)) else (some x3)
def spec_l09Text.j1:Nat→List (S67)→ByteArray→Int→Option (ByteArray)
 | 0,_,_,_=>none
 | k+1,x0,x3,x4=>if 0≤x4 then (if x4<(x0.length:Int) then ((spec_l09Name.f ((rd_T67 x0 x4).f0)).bind fun t102=>(if x3.size+t102.size≤9223372036854775807 then (if ((rd_T67 x0 x4).f1)=1 then (spec_l09Text.l0 k x0 (x3++t102) (wrap64 (x4+1))) else ((spec_l01Dec.f k ((rd_T67 x0 x4).f1)).bind fun t105=>(if (x3++t102).size+t105.size≤9223372036854775807 then (spec_l09Text.l0 k x0 ((x3++t102)++t105) (wrap64 (x4+1))) else (none)))) else (none))) else (none)) else (none)
end
def spec_l09Text.f (k:Nat) (l0:List (S67)):Option (ByteArray):=if (l0.length:Int)=0 then (some (⟨#[45]⟩:ByteArray)) else (spec_l09Text.l0 k l0 (⟨#[]⟩:ByteArray) 0)
set_option maxHeartbeats 8000000 in
set_option maxRecDepth 100000 in
theorem spec_l09Text.calls (k:Nat) (A0:Option Addr) (c0:Nat) (l0:List (S67)) (r:ByteArray) (w:World) (hr0:Kd.C k67 w A0 l0.length l0) (hc0:l0.length≤c0) (h:spec_l09Text.f k l0=some r) :
 Calls Tryz.prog 139 #[.slice A0 l0.length c0] w fun e w'=>e = .returned (.string r)∧Below w.heap.size w w':=by
 have HR0:=Aside0.mk hr0
 have HC0:=Aside0.mk hc0
 clear hr0 hc0
 have HB:=Aside0.mk (Below.refl w.heap.size w)
 have H:(if (l0.length:Int)=0 then (some (⟨#[45]⟩:ByteArray)) else (spec_l09Text.l0 k l0 (⟨#[]⟩:ByteArray) 0))=some r:=h
 clear h
 by_cases c2:(l0.length:Int)=0
 ·rw [if_pos c2] at H
  have c2b0:((l0.length:Int) == 0)=true:=beq_iff_eq.mpr c2
  have c2b1:((l0.length:Int) != 0)=false:=bne_eq_false_iff_eq.mpr c2
  clear c2
  obtain rfl:=Option.some.inj H
  go_enter Tryz.func139,Tryz.ntmps139
  go_wp2
  go_ret
  exact ⟨zg,za⟩
 ·rw [if_neg c2] at H
  have c2b0:((l0.length:Int) == 0)=false:=beq_eq_false_iff_ne.mpr c2
  have c2b1:((l0.length:Int) != 0)=true:=bne_iff_ne.mpr c2
  have c2b2:¬ (l0=[]):=fun h_=>c2 (by rw [h_];rfl)
  have H':=Aside0.mk H
  clear H
  go_enter Tryz.func139,Tryz.ntmps139
  go_wp2
  go_loopg [3,4] k (fun kq v3 v4 w'=>∃(x3_1:ByteArray) (x4_1:Int),v3 = .string x3_1∧v4 = .int .i64 x4_1∧Aside0 (spec_l09Text.l0 kq l0 x3_1 x4_1=some r)∧Aside0 (kq≤k)∧Aside0 (Below w.heap.size w w'))
  case atStart=>exact ⟨((⟨#[]⟩:ByteArray)),(0),zf,zf,H',⟨Nat.le_refl _⟩,⟨za⟩⟩
  case round=>
   clear H'
   try clear c1
   try clear c2
   try clear c2b0
   try clear c2b1
   try clear c2b2
   try clear p2
   obtain ⟨x3_1,x4_1,rfl,rfl,HA,HK1,HB⟩:=hrel
   cases gk with
   | zero=>exact absurd HA.out (by simp [spec_l09Text.l0])
   | succ k1=>
    have H:=HA.out
    clear HA
    simp only [spec_l09Text.l0] at H
    by_cases c3:x4_1<(l0.length:Int)
    ·rw [if_pos c3] at H
     have c3b0:decide (x4_1<(l0.length:Int))=true:=decide_eq_true c3
     clear c3
     have HC4:=Aside0.mk H
     clear H
     go_upto_if 15 with (fail)
     go_cut [3] (fun v3 wc=>∃(kq:Nat) (x3_3:ByteArray),v3 = .string x3_3∧Aside0 (spec_l09Text.j1 kq l0 x3_3 x4_1=some r)∧Aside0 (kq≤k1)∧Aside0 (Below w.heap.size w wc))
     case first=>
      have H:=HC4.out
      clear HC4
      by_cases c5:x4_1 > 0
      ·rw [if_pos c5] at H
       have c5b0:decide (0<x4_1)=true:=decide_eq_true c5
       clear c5
       (first|rw [c5b0]|(simp only [i64_w,i32_w];rw [c5b0])|skip)
       by_cases c6:x3_1.size+1≤9223372036854775807
       ·rw [if_pos c6] at H
        have c6b0:=eq_true c6
        have c6b1:decide (x3_1.size+1≤9223372036854775807)=true:=decide_eq_true c6
        try have c6b2:(9223372036854775807<x3_1.size+1)=False:=eq_false (Nat.not_lt.2 c6)
        have H':=Aside0.mk H
        clear H
        go_wp2
        go_meet
        case rel=>exact ⟨_,(x3_1++(⟨#[32]⟩:ByteArray)),zf,H',⟨zcc⟩,⟨za⟩⟩
       ·rw [if_neg c6] at H
        exact absurd H zbr
      ·rw [if_neg c5] at H
       have c5b0:decide (0<x4_1)=false:=decide_eq_false c5
       clear c5
       (first|rw [c5b0]|(simp only [i64_w,i32_w];rw [c5b0])|skip)
       have H':=Aside0.mk H
       clear H
       go_wp2
       go_meet
       case rel=>exact ⟨_,(x3_1),zf,H',⟨zcc⟩,⟨za⟩⟩
     case rest=>
      clear HC4
      try clear c1
      try clear c2
      try clear c2b0
      try clear c2b1
      try clear c2b2
      try clear p2
      try clear c3
      try clear c3b0
      try clear c5
      try clear c5b0
      try clear c6
      try clear c6b0
      try clear c6b1
      try clear c6b2
      try clear p2
      obtain ⟨kq,x3_3,rfl,HA,HJ3,HB⟩:=hcut
      cases kq with
      | zero=>exact absurd HA.out (by simp [spec_l09Text.j1])
      | succ kj3=>
       have H:=HA.out
       clear HA
       simp only [spec_l09Text.j1] at H
       by_cases c7:0≤x4_1
       ·rw [if_pos c7] at H
        have c7b0:decide (0≤x4_1)=true:=decide_eq_true c7
        clear c7
        by_cases c8:x4_1<(l0.length:Int)
        ·rw [if_pos c8] at H
         have c8b0:decide (x4_1<(l0.length:Int))=true:=decide_eq_true c8
         clear c8
         replace H:=Option.bind_eq_some_iff.mp H
         obtain ⟨t102,A90,H⟩:=H
         replace H:(if x3_3.size+t102.size≤9223372036854775807 then (if ((rd_T67 l0 x4_1).f1)=1 then (spec_l09Text.l0 kj3 l0 (x3_3++t102) (wrap64 (x4_1+1))) else ((spec_l01Dec.f kj3 ((rd_T67 l0 x4_1).f1)).bind fun t105=>(if (x3_3++t102).size+t105.size≤9223372036854775807 then (spec_l09Text.l0 kj3 l0 ((x3_3++t102)++t105) (wrap64 (x4_1+1))) else (none)))) else (none))=some r:=H
         have A9:=Aside0.mk A90
         clear A90
         by_cases c10:x3_3.size+t102.size≤9223372036854775807
         ·rw [if_pos c10] at H
          have c10b0:=eq_true c10
          have c10b1:decide (x3_3.size+t102.size≤9223372036854775807)=true:=decide_eq_true c10
          try have c10b2:(9223372036854775807<x3_3.size+t102.size)=False:=eq_false (Nat.not_lt.2 c10)
          by_cases c11:((rd_T67 l0 x4_1).f1)=1
          ·rw [if_pos c11] at H
           have c11b0:(((rd_T67 l0 x4_1).f1) == 1)=true:=beq_iff_eq.mpr c11
           have c11b1:(((rd_T67 l0 x4_1).f1) != 1)=false:=bne_eq_false_iff_eq.mpr c11
           clear c11
           have H':=Aside0.mk H
           clear H
           have p101:0≤(x4_1:Int):=of_decide_eq_true ze
           have q101:x4_1<(l0.length:Int):=of_decide_eq_true ze
           obtain ⟨ad101,e101,hx101_0,hx101_1⟩:=at_T67 HR0.out x4_1 p101 q101
           cases e101
           replace hx101_0:=(HB.out.cell (World.block_lt_of_cell? w _ hx101_0)).trans hx101_0
           replace hx101_1:=(HB.out.cell (World.block_lt_of_cell? w _ hx101_1)).trans hx101_1
           replace p101:=eq_true p101
           replace q101:=eq_true q101
           go_wp2_with (first|((with_reducible refine gate_callee (f:=165) rfl ?_);refine goesL_ (some 24) rfl rfl Tryz.func165 zu rfl #[.int .i64 ((rd_T67 l0 x4_1).f0)] rfl zc ?_;(with_reducible refine (spec_l09Name.calls ((rd_T67 l0 x4_1).f0) t102 _ A9.out).mono ?_);rintro e w' ⟨rfl,⟨nd,rfl⟩⟩;refine ⟨_,rfl,?_⟩;have p103:0≤(x4_1:Int):=of_decide_eq_true ze;have q103:x4_1<(l0.length:Int):=of_decide_eq_true ze;obtain ⟨ad103,e103,hx103_0,hx103_1⟩:=at_T67 HR0.out x4_1 p103 q103;obtain rfl:ad101=ad103:=(by injection e103);replace hx103_0:=(HB.out.cell (World.block_lt_of_cell? w _ hx103_0)).trans hx103_0;replace hx103_1:=(HB.out.cell (World.block_lt_of_cell? w _ hx103_1)).trans hx103_1;replace p103:=eq_true p103;replace q103:=eq_true q103))
           go_roundg kj3
           case measure=>have:=HK1.out;have:=HJ3.out;omega
           case rel=>exact ⟨(x3_3++t102),(wrap64 (x4_1+1)),zf,zf,H',⟨by have:=HK1.out;have:=HJ3.out;omega⟩,⟨za⟩⟩
          ·rw [if_neg c11] at H
           have c11b0:(((rd_T67 l0 x4_1).f1) == 1)=false:=beq_eq_false_iff_ne.mpr c11
           have c11b1:(((rd_T67 l0 x4_1).f1) != 1)=true:=bne_iff_ne.mpr c11
           replace H:=Option.bind_eq_some_iff.mp H
           obtain ⟨t105,A120,H⟩:=H
           replace H:(if (x3_3++t102).size+t105.size≤9223372036854775807 then (spec_l09Text.l0 kj3 l0 ((x3_3++t102)++t105) (wrap64 (x4_1+1))) else (none))=some r:=H
           have A12:=Aside0.mk A120
           clear A120
           by_cases c13:(x3_3++t102).size+t105.size≤9223372036854775807
           ·rw [if_pos c13] at H
            have c13b0:=eq_true c13
            have c13b1:decide ((x3_3++t102).size+t105.size≤9223372036854775807)=true:=decide_eq_true c13
            try have c13b2:(9223372036854775807<(x3_3++t102).size+t105.size)=False:=eq_false (Nat.not_lt.2 c13)
            try have c13b3:(9223372036854775807<x3_3.size+t102.size+t105.size)=False:=eq_false (by have h_:=c13;simp only [ByteArray.size_append] at h_;exact Nat.not_lt.2 h_)
            have H':=Aside0.mk H
            clear H
            have p101:0≤(x4_1:Int):=of_decide_eq_true ze
            have q101:x4_1<(l0.length:Int):=of_decide_eq_true ze
            obtain ⟨ad101,e101,hx101_0,hx101_1⟩:=at_T67 HR0.out x4_1 p101 q101
            cases e101
            replace hx101_0:=(HB.out.cell (World.block_lt_of_cell? w _ hx101_0)).trans hx101_0
            replace hx101_1:=(HB.out.cell (World.block_lt_of_cell? w _ hx101_1)).trans hx101_1
            replace p101:=eq_true p101
            replace q101:=eq_true q101
            go_wp2_with (first|((with_reducible refine gate_callee (f:=165) rfl ?_);refine goesL_ (some 24) rfl rfl Tryz.func165 zu rfl #[.int .i64 ((rd_T67 l0 x4_1).f0)] rfl zc ?_;(with_reducible refine (spec_l09Name.calls ((rd_T67 l0 x4_1).f0) t102 _ A9.out).mono ?_);rintro e w' ⟨rfl,⟨nd,rfl⟩⟩;refine ⟨_,rfl,?_⟩;have p103:0≤(x4_1:Int):=of_decide_eq_true ze;have q103:x4_1<(l0.length:Int):=of_decide_eq_true ze;obtain ⟨ad103,e103,hx103_0,hx103_1⟩:=at_T67 HR0.out x4_1 p103 q103;obtain rfl:ad101=ad103:=(by injection e103);replace hx103_0:=(HB.out.cell (World.block_lt_of_cell? w _ hx103_0)).trans hx103_0;replace hx103_1:=(HB.out.cell (World.block_lt_of_cell? w _ hx103_1)).trans hx103_1;replace p103:=eq_true p103;replace q103:=eq_true q103;have p104:0≤(x4_1:Int):=of_decide_eq_true ze;have q104:x4_1<(l0.length:Int):=of_decide_eq_true ze;obtain ⟨ad104,e104,hx104_0,hx104_1⟩:=at_T67 HR0.out x4_1 p104 q104;obtain rfl:ad101=ad104:=(by injection e104);replace hx104_0:=(HB.out.cell (World.block_lt_of_cell? w _ hx104_0)).trans hx104_0;replace hx104_1:=(HB.out.cell (World.block_lt_of_cell? w _ hx104_1)).trans hx104_1;replace p104:=eq_true p104;replace q104:=eq_true q104)|((with_reducible refine gate_callee (f:=82) rfl ?_);refine goesL_ (some 38) rfl rfl Tryz.func82 zu rfl #[.int .i64 ((rd_T67 l0 x4_1).f1)] rfl zc ?_;(with_reducible refine (spec_l01Dec.calls kj3 ((rd_T67 l0 x4_1).f1) t105 _ A12.out).mono ?_);rintro e w14 ⟨rfl,hb⟩;refine ⟨_,rfl,?_⟩;replace HB:=Aside0.mk (below_step za hb);(try clear hb);(try clear hb2);(try clear hk);(try clear hi)))
            go_roundg kj3
            case measure=>have:=HK1.out;have:=HJ3.out;omega
            case rel=>exact ⟨((x3_3++t102)++t105),(wrap64 (x4_1+1)),zf,zf,H',⟨by have:=HK1.out;have:=HJ3.out;omega⟩,⟨za⟩⟩
           ·rw [if_neg c13] at H
            exact absurd H zbr
         ·rw [if_neg c10] at H
          exact absurd H zbr
        ·rw [if_neg c8] at H
         exact absurd H zbr
       ·rw [if_neg c7] at H
        exact absurd H zbr
    ·rw [if_neg c3] at H
     have c3b0:decide (x4_1<(l0.length:Int))=false:=decide_eq_false c3
     clear c3
     obtain rfl:=Option.some.inj H
     go_wp2
     go_ret
     exact ⟨zg,za⟩

def spec_l25Whole_e.f (k:Nat) (l0:List (S50)) (a0i:Int) (a1:Int) (a2:Int):Option (Int):=(spec_l19Units_e.f k l0 a0i a1).bind fun t101=>(if t101=0 then (none) else (if a1=0 then (none) else ((spec_l17At_e.f k l0 a0i (wrap64 (Int.tdiv (Int.tmod a2 t101) a1))).bind fun bt102=>(if 0≤bt102.1 then (if bt102.1<(((rd_T50 l0 a0i).f1).length:Int) then (some (wrap64 ((rd ((rd_T50 l0 a0i).f1) bt102.1)*a1))) else (none)) else (none)))))
set_option maxHeartbeats 8000000 in
set_option maxRecDepth 100000 in
theorem spec_l25Whole_e.calls (k:Nat) (ad0:Addr) (l0:List (S50)) (a0i:Int) (a1:Int) (a2:Int) (r:Int) (w:World) (hr0:Kd.C k50 w (some ad0) l0.length l0) (hp0:decide (0≤a0i)=true) (hq0:decide (a0i<(l0.length:Int))=true) (h:spec_l25Whole_e.f k l0 a0i a1 a2=some r) :
 Calls Tryz.prog 137 #[.pointer (some (ad0.add (a0i.toNat*3))),.int .i64 a1,.int .i64 a2] w fun e w'=>e = .returned (.int .i64 r)∧Drawn0 w w':=by
 have HR0:=Aside0.mk hr0
 clear hr0
 have H:((spec_l19Units_e.f k l0 a0i a1).bind fun t101=>(if t101=0 then (none) else (if a1=0 then (none) else ((spec_l17At_e.f k l0 a0i (wrap64 (Int.tdiv (Int.tmod a2 t101) a1))).bind fun bt102=>(if 0≤bt102.1 then (if bt102.1<(((rd_T50 l0 a0i).f1).length:Int) then (some (wrap64 ((rd ((rd_T50 l0 a0i).f1) bt102.1)*a1))) else (none)) else (none))))))=some r:=h
 clear h
 replace H:=Option.bind_eq_some_iff.mp H
 obtain ⟨t101,A40,H⟩:=H
 replace H:(if t101=0 then (none) else (if a1=0 then (none) else ((spec_l17At_e.f k l0 a0i (wrap64 (Int.tdiv (Int.tmod a2 t101) a1))).bind fun bt102=>(if 0≤bt102.1 then (if bt102.1<(((rd_T50 l0 a0i).f1).length:Int) then (some (wrap64 ((rd ((rd_T50 l0 a0i).f1) bt102.1)*a1))) else (none)) else (none)))))=some r:=H
 have A4:=Aside0.mk A40
 clear A40
 by_cases c5:t101=0
 ·rw [if_pos c5] at H
  exact absurd H zbr
 ·rw [if_neg c5] at H
  have c5b0:(t101 == 0)=false:=beq_eq_false_iff_ne.mpr c5
  have c5b1:(t101 != 0)=true:=bne_iff_ne.mpr c5
  by_cases c6:a1=0
  ·rw [if_pos c6] at H
   exact absurd H zbr
  ·rw [if_neg c6] at H
   have c6b0:(a1 == 0)=false:=beq_eq_false_iff_ne.mpr c6
   have c6b1:(a1 != 0)=true:=bne_iff_ne.mpr c6
   replace H:=Option.bind_eq_some_iff.mp H
   obtain ⟨⟨t102,t103⟩,A70,H⟩:=H
   replace H:(if 0≤t102 then (if t102<(((rd_T50 l0 a0i).f1).length:Int) then (some (wrap64 ((rd ((rd_T50 l0 a0i).f1) t102)*a1))) else (none)) else (none))=some r:=H
   have A7:=Aside0.mk A70
   clear A70
   by_cases c8:0≤t102
   ·rw [if_pos c8] at H
    have c8b0:decide (0≤t102)=true:=decide_eq_true c8
    clear c8
    by_cases c9:t102<(((rd_T50 l0 a0i).f1).length:Int)
    ·rw [if_pos c9] at H
     have c9b0:decide (t102<(((rd_T50 l0 a0i).f1).length:Int))=true:=decide_eq_true c9
     clear c9
     obtain rfl:=Option.some.inj H
     go_enter Tryz.func137,Tryz.ntmps137
     go_wp2_with (first|((with_reducible refine gate_callee (f:=138) rfl ?_);refine goesL_ (some 14) rfl rfl Tryz.func138 zu rfl #[.pointer (some (ad0.add ((a0i:Int).toNat*3))),.int .i64 a1] rfl zc ?_;(with_reducible refine (spec_l19Units_e.calls k _ l0 a0i a1 t101 _ ?side1 ?side2 ?side3 A4.out).mono ?_);(case side1=>exact zx);(case side2=>first|(with_reducible assumption)|assumption|decide|exact decide_eq_true zbr|exact decide_eq_true zbd);(case side3=>first|(with_reducible assumption)|assumption|decide|exact decide_eq_true zbr|exact decide_eq_true zbd);rintro e w' ⟨rfl,⟨nd,rfl⟩⟩;refine ⟨_,rfl,?_⟩)|((with_reducible refine gate_callee (f:=163) rfl ?_);refine goesL_ (some 18) rfl rfl Tryz.func163 zu rfl #[.pointer (some (ad0.add ((a0i:Int).toNat*3))),.int .i64 (wrap64 (Int.tdiv (Int.tmod a2 t101) a1))] rfl zc ?_;(with_reducible refine (spec_l17At_e.calls k _ l0 a0i (wrap64 (Int.tdiv (Int.tmod a2 t101) a1)) t102 t103 _ ?side1 ?side2 ?side3 A7.out).mono ?_);(case side1=>exact zx);(case side2=>first|(with_reducible assumption)|assumption|decide|exact decide_eq_true zbr|exact decide_eq_true zbd);(case side3=>first|(with_reducible assumption)|assumption|decide|exact decide_eq_true zbr|exact decide_eq_true zbd);rintro e w' ⟨rfl,⟨nd,rfl⟩⟩;refine ⟨_,rfl,?_⟩;have p104:0≤(a0i:Int):=of_decide_eq_true ze;have q104:a0i<(l0.length:Int):=of_decide_eq_true ze;obtain ⟨ad104,A104_1,c104_1,A104_2,c104_2,e104,hx104_0,hx104_1,hx104_2,hl104_1,hi104_1,hl104_2,hi104_2⟩:=at_T50 HR0.out a0i p104 q104;obtain rfl:ad0=ad104:=(by injection e104);have HR104_1:=Aside0.mk hi104_1;have HC104_1:=Aside0.mk hl104_1;clear hi104_1 hl104_1;have HR104_2:=Aside0.mk hi104_2;have HC104_2:=Aside0.mk hl104_2;clear hi104_2 hl104_2;replace p104:=eq_true p104;replace q104:=eq_true q104;have p105:0≤(t102:Int):=of_decide_eq_true ze;have q105:t102<(((rd_T50 l0 a0i).f1).length:Int):=of_decide_eq_true ze;obtain ⟨ad105,e105,hx105_0⟩:=Kd.at_int HR104_1.out t102 p105 q105;cases e105;replace p105:=eq_true p105;replace q105:=eq_true q105))
     go_ret
     exact ⟨zf,zk⟩
    ·rw [if_neg c9] at H
     exact absurd H zbr
   ·rw [if_neg c8] at H
    exact absurd H zbr

mutual
def spec_l25Text_e.l0:Nat→List (S67)→Int→List (List Int)→ByteArray→Int→Int→List (S50)→Int→Option (ByteArray)
 | 0,_,_,_,_,_,_,_,_=>none
 | k+1,x0,x2,x7,x8,x9,x10,x502,x503=>if x10<(x7.length:Int) then (if x10 > 0 then (if x8.size+1≤9223372036854775807 then ((spec_l25Left_e.f k x502 x503 x2 x9).bind fun t104=>((spec_l25Whole_e.f k x502 x503 x2 x9).bind fun t105=>(if t104=t105 then ((spec_l19Units_e.f k x502 x503 x2).bind fun t106=>(if t106=0 then (none) else (if (Int.tmod x9 t106)=0 then (if (x8++(⟨#[32]⟩:ByteArray)).size+3≤9223372036854775807 then (spec_l25Text_e.j1 k x0 x2 x7 ((x8++(⟨#[32]⟩:ByteArray))++(⟨#[124,124,32]⟩:ByteArray)) x9 x10 x502 x503) else (none)) else (if (x8++(⟨#[32]⟩:ByteArray)).size+2≤9223372036854775807 then (spec_l25Text_e.j1 k x0 x2 x7 ((x8++(⟨#[32]⟩:ByteArray))++(⟨#[124,32]⟩:ByteArray)) x9 x10 x502 x503) else (none))))) else (spec_l25Text_e.j1 k x0 x2 x7 (x8++(⟨#[32]⟩:ByteArray)) x9 x10 x502 x503)))) else (none)) else (spec_l25Text_e.j1 k x0 x2 x7 x8 x9 x10 x502 x503)) else (some x8)
def spec_l25Text_e.j1:Nat→List (S67)→Int→List (List Int)→ByteArray→Int→Int→List (S50)→Int→Option (ByteArray)
 | 0,_,_,_,_,_,_,_,_=>none
 | k+1,x0,x2,x7,x8,x9,x10,x502,x503=>if x10 > 0 then (if 0≤(wrap64 (x10 - 1)) then (if (wrap64 (x10 - 1))<(x7.length:Int) then (if 0<((rd_L9 x7 (wrap64 (x10 - 1))).length:Int) then (if 0≤x10 then (if x10<(x7.length:Int) then (if 0<((rd_L9 x7 x10).length:Int) then (if (rd (rd_L9 x7 (wrap64 (x10 - 1))) 0)=(rd (rd_L9 x7 x10) 0) then (if x8.size+1≤9223372036854775807 then (spec_l25Text_e.j2 k x0 x2 x7 (x8++(⟨#[126]⟩:ByteArray)) x9 x10 x502 x503) else (none)) else (spec_l25Text_e.j2 k x0 x2 x7 x8 x9 x10 x502 x503)) else (none)) else (none)) else (none)) else (none)) else (none)) else (none)) else (if 0≤x10 then (if x10<(x7.length:Int) then (if 0<((rd_L9 x7 x10).length:Int) then (if 0≤(rd (rd_L9 x7 x10) 0) then (if (rd (rd_L9 x7 x10) 0)<(x0.length:Int) then (if 1<((rd_L9 x7 x10).length:Int) then ((spec_l09Text.f k (([(⟨(rd_T67 x0 (rd (rd_L9 x7 x10) 0)).f0,rd (rd_L9 x7 x10) 1⟩:S67)]:List (S67)))).bind fun t130=>(if x8.size+t130.size≤9223372036854775807 then (spec_l25Text_e.l0 k x0 x2 x7 (x8++t130) (wrap64 (x9+(rd (rd_L9 x7 x10) 1))) (wrap64 (x10+1)) x502 x503) else (none))) else (none)) else (none)) else (none)) else (none)) else (none)) else (none))
def spec_l25Text_e.j2:Nat→List (S67)→Int→List (List Int)→ByteArray→Int→Int→List (S50)→Int→Option (ByteArray)
 | 0,_,_,_,_,_,_,_,_=>none
 | k+1,x0,x2,x7,x8,x9,x10,x502,x503=>if 0≤x10 then (if x10<(x7.length:Int) then (if 0<((rd_L9 x7 x10).length:Int) then (if 0≤(rd (rd_L9 x7 x10) 0) then (if (rd (rd_L9 x7 x10) 0)<(x0.length:Int) then (if 1<((rd_L9 x7 x10).length:Int) then ((spec_l09Text.f k (([(⟨(rd_T67 x0 (rd (rd_L9 x7 x10) 0)).f0,rd (rd_L9 x7 x10) 1⟩:S67)]:List (S67)))).bind fun t119=>(if x8.size+t119.size≤9223372036854775807 then (spec_l25Text_e.l0 k x0 x2 x7 (x8++t119) (wrap64 (x9+(rd (rd_L9 x7 x10) 1))) (wrap64 (x10+1)) x502 x503) else (none))) else (none)) else (none)) else (none)) else (none)) else (none)) else (none)
end
def spec_l25Text_e.f (k:Nat) (l0:List (S67)) (l1:List (S50)) (a1i:Int) (a2:Int):Option (ByteArray):=(spec_l25Split_e.f k l0 l1 a1i a2).bind fun t101=>(if (t101.length:Int)=0 then (some (⟨#[45]⟩:ByteArray)) else (spec_l25Text_e.l0 k l0 a2 t101 (⟨#[]⟩:ByteArray) 0 0 l1 a1i))
def spec_l25Text_e.T15:Bool × List (List Nat × List Nat):=(true,[([],[]),([0],[0]),([1],[1]),([2],[2]),([2],[2]),([4,2],[2,4]),([3,5,2],[2,3,5]),([6,2],[2,6]),([7,2],[2,7]),([8,2],[2,8]),([2],[2]),([2],[2]),([10,11,2],[2,10,11]),([12,2],[2,12]),([13,2],[2,13]),([14,2],[2,14]),([9,15,2],[2,9,15]),([2,16],[2,16])])
def spec_l25Text_e.B15:List Nat:=[0,1,3,7,7,23,63,127,255,511,7,7,3079,7175,15367,31751,65535,131071]
theorem spec_l25Text_e.tab15:rtab .any (opsOf Tryz.f106 15)=spec_l25Text_e.T15:=by kernel_rfl
theorem spec_l25Text_e.bits15:waitsOk spec_l25Text_e.T15.2 spec_l25Text_e.B15=true:=by kernel_rfl
def spec_l25Text_e.T17:Bool × List (List Nat × List Nat):=(true,[([],[]),([],[]),([],[]),([],[]),([2,3],[2,3]),([4],[4]),([5],[5]),([6],[6]),([1,7],[1,7]),([8],[8]),([9],[9]),([],[]),([],[]),([11,12],[11,12]),([13],[13]),([14],[14]),([15],[15]),([10,16],[10,16]),([17],[17]),([18],[18]),([0,19],[0,19]),([20,19,0,1,2,3,4,5,6,7,8,9,10,11,12,13,14,15,16,17,18,19,20],[0,20])])
def spec_l25Text_e.B17:List Nat:=[0,0,0,0,12,28,60,124,254,510,1022,0,0,6144,14336,30720,63488,131070,262142,524286,1048575,2097151]
theorem spec_l25Text_e.tab17:rtab .any (opsOf Tryz.f106 17)=spec_l25Text_e.T17:=by kernel_rfl
theorem spec_l25Text_e.bits17:waitsOk spec_l25Text_e.T17.2 spec_l25Text_e.B17=true:=by kernel_rfl
set_option maxHeartbeats 8000000 in
set_option maxRecDepth 100000 in
theorem spec_l25Text_e.calls (k:Nat) (A0:Option Addr) (c0:Nat) (l0:List (S67)) (ad1:Addr) (l1:List (S50)) (a1i:Int) (a2:Int) (r:ByteArray) (w:World) (hr0:Kd.C k67 w A0 l0.length l0) (hc0:l0.length≤c0) (hr1:Kd.C k50 w (some ad1) l1.length l1) (hp1:decide (0≤a1i)=true) (hq1:decide (a1i<(l1.length:Int))=true) (h:spec_l25Text_e.f k l0 l1 a1i a2=some r) :
 Calls Tryz.prog 106 #[.slice A0 l0.length c0,.pointer (some (ad1.add (a1i.toNat*3))),.int .i64 a2] w fun e w'=>e = .returned (.string r)∧Below w.heap.size w w':=by
 have hu67:=Tryz.underlying67
 have HR0:=Aside0.mk hr0
 have HC0:=Aside0.mk hc0
 clear hr0 hc0
 have HR1:=Aside0.mk hr1
 clear hr1
 have HB:=Aside0.mk (Below.refl w.heap.size w)
 have H:((spec_l25Split_e.f k l0 l1 a1i a2).bind fun t101=>(if (t101.length:Int)=0 then (some (⟨#[45]⟩:ByteArray)) else (spec_l25Text_e.l0 k l0 a2 t101 (⟨#[]⟩:ByteArray) 0 0 l1 a1i)))=some r:=h
 clear h
 replace H:=Option.bind_eq_some_iff.mp H
 obtain ⟨t101,A40,H⟩:=H
 replace H:(if (t101.length:Int)=0 then (some (⟨#[45]⟩:ByteArray)) else (spec_l25Text_e.l0 k l0 a2 t101 (⟨#[]⟩:ByteArray) 0 0 l1 a1i))=some r:=H
 have A4:=Aside0.mk A40
 clear A40
 by_cases c5:(t101.length:Int)=0
 ·rw [if_pos c5] at H
  have c5b0:((t101.length:Int) == 0)=true:=beq_iff_eq.mpr c5
  have c5b1:((t101.length:Int) != 0)=false:=bne_eq_false_iff_eq.mpr c5
  clear c5
  obtain rfl:=Option.some.inj H
  go_enter Tryz.func106,Tryz.ntmps106
  go_wp2_with (first|((with_reducible refine gate_callee (f:=105) rfl ?_);refine goesL_ (some 14) rfl rfl Tryz.func105 zu rfl #[.slice A0 l0.length c0,.pointer (some (ad1.add ((a1i:Int).toNat*3))),.int .i64 a2] rfl zc ?_;(with_reducible refine (spec_l25Split_e.calls k _ _ l0 _ l1 a1i a2 t101 _ ?side1 ?side2 ?side3 ?side4 ?side5 A4.out).mono ?_);(case side1=>exact zx);(case side2=>exact HC0.out);(case side3=>exact zcx);(case side4=>first|(with_reducible assumption)|assumption|decide|exact decide_eq_true zbr|exact decide_eq_true zbd);(case side5=>first|(with_reducible assumption)|assumption|decide|exact decide_eq_true zbr|exact decide_eq_true zbd);rintro e w6 ⟨v102,rfl,ho0,hb⟩;refine ⟨_,rfl,?_⟩;have HO103:=Aside0.mk (Kd.S_lower ho0 (below_size za));replace HB:=Aside0.mk (below_step za hb);(try clear hb);(try clear hb2);(try clear hk);(try clear hi);(try clear ho0);obtain ⟨Ao7,co7,eo7⟩:=Kd.S_slice HO103.out;subst eo7))
  go_ret
  exact ⟨zg,za⟩
 ·rw [if_neg c5] at H
  have c5b0:((t101.length:Int) == 0)=false:=beq_eq_false_iff_ne.mpr c5
  have c5b1:((t101.length:Int) != 0)=true:=bne_iff_ne.mpr c5
  have c5b2:¬ (t101=[]):=fun h_=>c5 (by rw [h_];rfl)
  have H':=Aside0.mk H
  clear H
  go_enter Tryz.func106,Tryz.ntmps106
  go_wp2_with (first|((with_reducible refine gate_callee (f:=105) rfl ?_);refine goesL_ (some 14) rfl rfl Tryz.func105 zu rfl #[.slice A0 l0.length c0,.pointer (some (ad1.add ((a1i:Int).toNat*3))),.int .i64 a2] rfl zc ?_;(with_reducible refine (spec_l25Split_e.calls k _ _ l0 _ l1 a1i a2 t101 _ ?side1 ?side2 ?side3 ?side4 ?side5 A4.out).mono ?_);(case side1=>exact zx);(case side2=>exact HC0.out);(case side3=>exact zcx);(case side4=>first|(with_reducible assumption)|assumption|decide|exact decide_eq_true zbr|exact decide_eq_true zbd);(case side5=>first|(with_reducible assumption)|assumption|decide|exact decide_eq_true zbr|exact decide_eq_true zbd);rintro e w8 ⟨v102,rfl,ho0,hb⟩;refine ⟨_,rfl,?_⟩;have HO103:=Aside0.mk (Kd.S_lower ho0 (below_size za));replace HB:=Aside0.mk (below_step za hb);(try clear hb);(try clear hb2);(try clear hk);(try clear hi);(try clear ho0);obtain ⟨Ao9,co9,eo9⟩:=Kd.S_slice HO103.out;subst eo9))
  go_loopg [8,9,10] k (fun kq v8 v9 v10 w'=>∃(x8_1:ByteArray) (x9_1:Int) (x10_1:Int),v8 = .string x8_1∧v9 = .int .i64 x9_1∧v10 = .int .i64 x10_1∧Aside0 (spec_l25Text_e.l0 kq l0 a2 t101 x8_1 x9_1 x10_1 l1 a1i=some r)∧Aside0 (kq≤k)∧Aside0 (Kd.S (Kd.slice 2 (Kd.int .i64)) 37 w' w.heap.size (fun _=>True) (.slice Ao9 t101.length co9) t101)∧Aside0 (Below w.heap.size w w'))
  case atStart=>exact ⟨((⟨#[]⟩:ByteArray)),(0),(0),zf,zf,zf,H',⟨Nat.le_refl _⟩,⟨by (with_reducible repeat (first|apply Kd.S_alloc|apply Kd.S_drewN|apply Kd.S_drew));exact HO103.out⟩,⟨za⟩⟩
  case round=>
   clear H'
   try clear c1
   try clear p2
   try clear c5
   try clear c5b0
   try clear c5b1
   try clear c5b2
   obtain ⟨x8_1,x9_1,x10_1,rfl,rfl,rfl,HA,HK1,HO_7,HB⟩:=hrel
   cases gk with
   | zero=>exact absurd HA.out (by simp [spec_l25Text_e.l0])
   | succ k1=>
    have H:=HA.out
    clear HA
    simp only [spec_l25Text_e.l0] at H
    by_cases c10:x10_1<(t101.length:Int)
    ·rw [if_pos c10] at H
     have c10b0:decide (x10_1<(t101.length:Int))=true:=decide_eq_true c10
     clear c10
     have HC11:=Aside0.mk H
     clear H
     go_upto_if 25 with (fail)
     go_cut [8] (fun v8 wc=>∃(kq:Nat) (x8_10:ByteArray),v8 = .string x8_10∧Aside0 (spec_l25Text_e.j1 kq l0 a2 t101 x8_10 x9_1 x10_1 l1 a1i=some r)∧Aside0 (kq≤k1)∧Aside0 (Kd.S (Kd.slice 2 (Kd.int .i64)) 37 wc w.heap.size (fun _=>True) (.slice Ao9 t101.length co9) t101)∧Aside0 (Below w.heap.size w wc))
     case first=>
      have H:=HC11.out
      clear HC11
      by_cases c12:x10_1 > 0
      ·rw [if_pos c12] at H
       have c12b0:decide (0<x10_1)=true:=decide_eq_true c12
       clear c12
       (first|rw [c12b0]|(simp only [i64_w,i32_w];rw [c12b0])|skip)
       by_cases c13:x8_1.size+1≤9223372036854775807
       ·rw [if_pos c13] at H
        have c13b0:=eq_true c13
        have c13b1:decide (x8_1.size+1≤9223372036854775807)=true:=decide_eq_true c13
        try have c13b2:(9223372036854775807<x8_1.size+1)=False:=eq_false (Nat.not_lt.2 c13)
        replace H:=Option.bind_eq_some_iff.mp H
        obtain ⟨t104,A140,H⟩:=H
        replace H:((spec_l25Whole_e.f k1 l1 a1i a2 x9_1).bind fun t105=>(if t104=t105 then ((spec_l19Units_e.f k1 l1 a1i a2).bind fun t106=>(if t106=0 then (none) else (if (Int.tmod x9_1 t106)=0 then (if (x8_1++(⟨#[32]⟩:ByteArray)).size+3≤9223372036854775807 then (spec_l25Text_e.j1 k1 l0 a2 t101 ((x8_1++(⟨#[32]⟩:ByteArray))++(⟨#[124,124,32]⟩:ByteArray)) x9_1 x10_1 l1 a1i) else (none)) else (if (x8_1++(⟨#[32]⟩:ByteArray)).size+2≤9223372036854775807 then (spec_l25Text_e.j1 k1 l0 a2 t101 ((x8_1++(⟨#[32]⟩:ByteArray))++(⟨#[124,32]⟩:ByteArray)) x9_1 x10_1 l1 a1i) else (none))))) else (spec_l25Text_e.j1 k1 l0 a2 t101 (x8_1++(⟨#[32]⟩:ByteArray)) x9_1 x10_1 l1 a1i)))=some r:=H
        have A14:=Aside0.mk A140
        clear A140
        replace H:=Option.bind_eq_some_iff.mp H
        obtain ⟨t105,A150,H⟩:=H
        replace H:(if t104=t105 then ((spec_l19Units_e.f k1 l1 a1i a2).bind fun t106=>(if t106=0 then (none) else (if (Int.tmod x9_1 t106)=0 then (if (x8_1++(⟨#[32]⟩:ByteArray)).size+3≤9223372036854775807 then (spec_l25Text_e.j1 k1 l0 a2 t101 ((x8_1++(⟨#[32]⟩:ByteArray))++(⟨#[124,124,32]⟩:ByteArray)) x9_1 x10_1 l1 a1i) else (none)) else (if (x8_1++(⟨#[32]⟩:ByteArray)).size+2≤9223372036854775807 then (spec_l25Text_e.j1 k1 l0 a2 t101 ((x8_1++(⟨#[32]⟩:ByteArray))++(⟨#[124,32]⟩:ByteArray)) x9_1 x10_1 l1 a1i) else (none))))) else (spec_l25Text_e.j1 k1 l0 a2 t101 (x8_1++(⟨#[32]⟩:ByteArray)) x9_1 x10_1 l1 a1i))=some r:=H
        have A15:=Aside0.mk A150
        clear A150
        by_cases c16:t104=t105
        ·rw [if_pos c16] at H
         have c16b0:(t104 == t105)=true:=beq_iff_eq.mpr c16
         have c16b1:(t104 != t105)=false:=bne_eq_false_iff_eq.mpr c16
         clear c16
         replace H:=Option.bind_eq_some_iff.mp H
         obtain ⟨t106,A170,H⟩:=H
         replace H:(if t106=0 then (none) else (if (Int.tmod x9_1 t106)=0 then (if (x8_1++(⟨#[32]⟩:ByteArray)).size+3≤9223372036854775807 then (spec_l25Text_e.j1 k1 l0 a2 t101 ((x8_1++(⟨#[32]⟩:ByteArray))++(⟨#[124,124,32]⟩:ByteArray)) x9_1 x10_1 l1 a1i) else (none)) else (if (x8_1++(⟨#[32]⟩:ByteArray)).size+2≤9223372036854775807 then (spec_l25Text_e.j1 k1 l0 a2 t101 ((x8_1++(⟨#[32]⟩:ByteArray))++(⟨#[124,32]⟩:ByteArray)) x9_1 x10_1 l1 a1i) else (none))))=some r:=H
         have A17:=Aside0.mk A170
         clear A170
         by_cases c18:t106=0
         ·rw [if_pos c18] at H
          exact absurd H zbr
         ·rw [if_neg c18] at H
          have c18b0:(t106 == 0)=false:=beq_eq_false_iff_ne.mpr c18
          have c18b1:(t106 != 0)=true:=bne_iff_ne.mpr c18
          by_cases c19:(Int.tmod x9_1 t106)=0
          ·rw [if_pos c19] at H
           have c19b0:((Int.tmod x9_1 t106) == 0)=true:=beq_iff_eq.mpr c19
           have c19b1:((Int.tmod x9_1 t106) != 0)=false:=bne_eq_false_iff_eq.mpr c19
           clear c19
           by_cases c20:(x8_1++(⟨#[32]⟩:ByteArray)).size+3≤9223372036854775807
           ·rw [if_pos c20] at H
            have c20b0:=eq_true c20
            have c20b1:decide ((x8_1++(⟨#[32]⟩:ByteArray)).size+3≤9223372036854775807)=true:=decide_eq_true c20
            try have c20b2:(9223372036854775807<(x8_1++(⟨#[32]⟩:ByteArray)).size+3)=False:=eq_false (Nat.not_lt.2 c20)
            try have c20b3:(9223372036854775807<x8_1.size+1+3)=False:=eq_false (by have h_:=c20;simp only [ByteArray.size_append] at h_;exact Nat.not_lt.2 h_)
            have H':=Aside0.mk H
            clear H
            go_wp2_with (first|((with_reducible refine gate_callee (f:=136) rfl ?_);refine goesL_ (some 31) rfl rfl Tryz.func136 zu rfl #[.pointer (some (ad1.add ((a1i:Int).toNat*3))),.int .i64 a2,.int .i64 x9_1] rfl zc ?_;(with_reducible refine (spec_l25Left_e.calls k1 _ l1 a1i a2 x9_1 t104 _ ?side1 ?side2 ?side3 A14.out).mono ?_);(case side1=>exact zbq);(case side2=>first|(with_reducible assumption)|assumption|decide|exact decide_eq_true zbr|exact decide_eq_true zbd);(case side3=>first|(with_reducible assumption)|assumption|decide|exact decide_eq_true zbr|exact decide_eq_true zbd);rintro e w' ⟨rfl,⟨nd,rfl⟩⟩;refine ⟨_,rfl,?_⟩)|((with_reducible refine gate_callee (f:=137) rfl ?_);refine goesL_ (some 35) rfl rfl Tryz.func137 zu rfl #[.pointer (some (ad1.add ((a1i:Int).toNat*3))),.int .i64 a2,.int .i64 x9_1] rfl zc ?_;(with_reducible refine (spec_l25Whole_e.calls k1 _ l1 a1i a2 x9_1 t105 _ ?side1 ?side2 ?side3 A15.out).mono ?_);(case side1=>repeat (first|exact (Kd.C_below HR1.out za)|(with_reducible refine Kd.C_alloc ?_ _)|(with_reducible refine Kd.C_drewN ?_ _)|(with_reducible refine Kd.C_drew ?_)));(case side2=>first|(with_reducible assumption)|assumption|decide|exact decide_eq_true zbr|exact decide_eq_true zbd);(case side3=>first|(with_reducible assumption)|assumption|decide|exact decide_eq_true zbr|exact decide_eq_true zbd);rintro e w' ⟨rfl,⟨nd,rfl⟩⟩;refine ⟨_,rfl,?_⟩)|((with_reducible refine gate_callee (f:=138) rfl ?_);refine goesL_ (some 40) rfl rfl Tryz.func138 zu rfl #[.pointer (some (ad1.add ((a1i:Int).toNat*3))),.int .i64 a2] rfl zc ?_;(with_reducible refine (spec_l19Units_e.calls k1 _ l1 a1i a2 t106 _ ?side1 ?side2 ?side3 A17.out).mono ?_);(case side1=>repeat (first|exact (Kd.C_below HR1.out za)|(with_reducible refine Kd.C_alloc ?_ _)|(with_reducible refine Kd.C_drewN ?_ _)|(with_reducible refine Kd.C_drew ?_)));(case side2=>first|(with_reducible assumption)|assumption|decide|exact decide_eq_true zbr|exact decide_eq_true zbd);(case side3=>first|(with_reducible assumption)|assumption|decide|exact decide_eq_true zbr|exact decide_eq_true zbd);rintro e w' ⟨rfl,⟨nd,rfl⟩⟩;refine ⟨_,rfl,?_⟩))
            go_meet
            case rel=>exact ⟨_,((x8_1++(⟨#[32]⟩:ByteArray))++(⟨#[124,124,32]⟩:ByteArray)),zf,H',⟨zcc⟩,⟨zar⟩,⟨za⟩⟩
           ·rw [if_neg c20] at H
            exact absurd H zbr
          ·rw [if_neg c19] at H
           have c19b0:((Int.tmod x9_1 t106) == 0)=false:=beq_eq_false_iff_ne.mpr c19
           have c19b1:((Int.tmod x9_1 t106) != 0)=true:=bne_iff_ne.mpr c19
           by_cases c21:(x8_1++(⟨#[32]⟩:ByteArray)).size+2≤9223372036854775807
           ·rw [if_pos c21] at H
            have c21b0:=eq_true c21
            have c21b1:decide ((x8_1++(⟨#[32]⟩:ByteArray)).size+2≤9223372036854775807)=true:=decide_eq_true c21
            try have c21b2:(9223372036854775807<(x8_1++(⟨#[32]⟩:ByteArray)).size+2)=False:=eq_false (Nat.not_lt.2 c21)
            try have c21b3:(9223372036854775807<x8_1.size+1+2)=False:=eq_false (by have h_:=c21;simp only [ByteArray.size_append] at h_;exact Nat.not_lt.2 h_)
            have H':=Aside0.mk H
            clear H
            go_wp2_with (first|((with_reducible refine gate_callee (f:=136) rfl ?_);refine goesL_ (some 31) rfl rfl Tryz.func136 zu rfl #[.pointer (some (ad1.add ((a1i:Int).toNat*3))),.int .i64 a2,.int .i64 x9_1] rfl zc ?_;(with_reducible refine (spec_l25Left_e.calls k1 _ l1 a1i a2 x9_1 t104 _ ?side1 ?side2 ?side3 A14.out).mono ?_);(case side1=>exact zbq);(case side2=>first|(with_reducible assumption)|assumption|decide|exact decide_eq_true zbr|exact decide_eq_true zbd);(case side3=>first|(with_reducible assumption)|assumption|decide|exact decide_eq_true zbr|exact decide_eq_true zbd);rintro e w' ⟨rfl,⟨nd,rfl⟩⟩;refine ⟨_,rfl,?_⟩)|((with_reducible refine gate_callee (f:=137) rfl ?_);refine goesL_ (some 35) rfl rfl Tryz.func137 zu rfl #[.pointer (some (ad1.add ((a1i:Int).toNat*3))),.int .i64 a2,.int .i64 x9_1] rfl zc ?_;(with_reducible refine (spec_l25Whole_e.calls k1 _ l1 a1i a2 x9_1 t105 _ ?side1 ?side2 ?side3 A15.out).mono ?_);(case side1=>repeat (first|exact (Kd.C_below HR1.out za)|(with_reducible refine Kd.C_alloc ?_ _)|(with_reducible refine Kd.C_drewN ?_ _)|(with_reducible refine Kd.C_drew ?_)));(case side2=>first|(with_reducible assumption)|assumption|decide|exact decide_eq_true zbr|exact decide_eq_true zbd);(case side3=>first|(with_reducible assumption)|assumption|decide|exact decide_eq_true zbr|exact decide_eq_true zbd);rintro e w' ⟨rfl,⟨nd,rfl⟩⟩;refine ⟨_,rfl,?_⟩)|((with_reducible refine gate_callee (f:=138) rfl ?_);refine goesL_ (some 40) rfl rfl Tryz.func138 zu rfl #[.pointer (some (ad1.add ((a1i:Int).toNat*3))),.int .i64 a2] rfl zc ?_;(with_reducible refine (spec_l19Units_e.calls k1 _ l1 a1i a2 t106 _ ?side1 ?side2 ?side3 A17.out).mono ?_);(case side1=>repeat (first|exact (Kd.C_below HR1.out za)|(with_reducible refine Kd.C_alloc ?_ _)|(with_reducible refine Kd.C_drewN ?_ _)|(with_reducible refine Kd.C_drew ?_)));(case side2=>first|(with_reducible assumption)|assumption|decide|exact decide_eq_true zbr|exact decide_eq_true zbd);(case side3=>first|(with_reducible assumption)|assumption|decide|exact decide_eq_true zbr|exact decide_eq_true zbd);rintro e w' ⟨rfl,⟨nd,rfl⟩⟩;refine ⟨_,rfl,?_⟩))
            go_meet
            case rel=>exact ⟨_,((x8_1++(⟨#[32]⟩:ByteArray))++(⟨#[124,32]⟩:ByteArray)),zf,H',⟨zcc⟩,⟨zar⟩,⟨za⟩⟩
           ·rw [if_neg c21] at H
            exact absurd H zbr
        ·rw [if_neg c16] at H
         have c16b0:(t104 == t105)=false:=beq_eq_false_iff_ne.mpr c16
         have c16b1:(t104 != t105)=true:=bne_iff_ne.mpr c16
         have H':=Aside0.mk H
         clear H
         go_wp2_with (first|((with_reducible refine gate_callee (f:=136) rfl ?_);refine goesL_ (some 31) rfl rfl Tryz.func136 zu rfl #[.pointer (some (ad1.add ((a1i:Int).toNat*3))),.int .i64 a2,.int .i64 x9_1] rfl zc ?_;(with_reducible refine (spec_l25Left_e.calls k1 _ l1 a1i a2 x9_1 t104 _ ?side1 ?side2 ?side3 A14.out).mono ?_);(case side1=>exact zbq);(case side2=>first|(with_reducible assumption)|assumption|decide|exact decide_eq_true zbr|exact decide_eq_true zbd);(case side3=>first|(with_reducible assumption)|assumption|decide|exact decide_eq_true zbr|exact decide_eq_true zbd);rintro e w' ⟨rfl,⟨nd,rfl⟩⟩;refine ⟨_,rfl,?_⟩)|((with_reducible refine gate_callee (f:=137) rfl ?_);refine goesL_ (some 35) rfl rfl Tryz.func137 zu rfl #[.pointer (some (ad1.add ((a1i:Int).toNat*3))),.int .i64 a2,.int .i64 x9_1] rfl zc ?_;(with_reducible refine (spec_l25Whole_e.calls k1 _ l1 a1i a2 x9_1 t105 _ ?side1 ?side2 ?side3 A15.out).mono ?_);(case side1=>repeat (first|exact (Kd.C_below HR1.out za)|(with_reducible refine Kd.C_alloc ?_ _)|(with_reducible refine Kd.C_drewN ?_ _)|(with_reducible refine Kd.C_drew ?_)));(case side2=>first|(with_reducible assumption)|assumption|decide|exact decide_eq_true zbr|exact decide_eq_true zbd);(case side3=>first|(with_reducible assumption)|assumption|decide|exact decide_eq_true zbr|exact decide_eq_true zbd);rintro e w' ⟨rfl,⟨nd,rfl⟩⟩;refine ⟨_,rfl,?_⟩))
         go_meet
         case rel=>exact ⟨_,(x8_1++(⟨#[32]⟩:ByteArray)),zf,H',⟨zcc⟩,⟨zar⟩,⟨za⟩⟩
       ·rw [if_neg c13] at H
        exact absurd H zbr
      ·rw [if_neg c12] at H
       have c12b0:decide (0<x10_1)=false:=decide_eq_false c12
       clear c12
       (first|rw [c12b0]|(simp only [i64_w,i32_w];rw [c12b0])|skip)
       have H':=Aside0.mk H
       clear H
       go_wp2
       go_meet
       case rel=>exact ⟨_,(x8_1),zf,H',⟨zcc⟩,⟨zar⟩,⟨za⟩⟩
     case rest=>
      clear HC11
      try clear c1
      try clear c2
      try clear p2
      try clear c5
      try clear c5b0
      try clear c5b1
      try clear c5b2
      try clear c10
      try clear c10b0
      try clear c12
      try clear c12b0
      try clear c13
      try clear c13b0
      try clear c13b1
      try clear c13b2
      try clear c16
      try clear c16b0
      try clear c16b1
      try clear c18
      try clear c18b0
      try clear c18b1
      try clear c19
      try clear c19b0
      try clear c19b1
      try clear c20
      try clear c20b0
      try clear c20b1
      try clear c20b2
      try clear c21
      try clear c21b0
      try clear c21b1
      try clear c21b2
      try clear p2
      obtain ⟨kq,x8_10,rfl,HA,HJ10,HO_7,HB⟩:=hcut
      cases kq with
      | zero=>exact absurd HA.out (by simp [spec_l25Text_e.j1])
      | succ kj10=>
       have H:=HA.out
       clear HA
       simp only [spec_l25Text_e.j1] at H
       by_cases c22:x10_1 > 0
       ·rw [if_pos c22] at H
        have c22b0:decide (0<x10_1)=true:=decide_eq_true c22
        clear c22
        obtain ⟨ji23,hji23⟩:∃j_:Int,(wrap64 (x10_1 - 1))=j_:=⟨_,rfl⟩
        replace H:(if 0≤(ji23) then (if (ji23)<(t101.length:Int) then (if 0<((rd_L9 t101 (ji23)).length:Int) then (if 0≤x10_1 then (if x10_1<(t101.length:Int) then (if 0<((rd_L9 t101 x10_1).length:Int) then (if (rd (rd_L9 t101 (ji23)) 0)=(rd (rd_L9 t101 x10_1) 0) then (if x8_10.size+1≤9223372036854775807 then (spec_l25Text_e.j2 kj10 l0 a2 t101 (x8_10++(⟨#[126]⟩:ByteArray)) x9_1 x10_1 l1 a1i) else (none)) else (spec_l25Text_e.j2 kj10 l0 a2 t101 x8_10 x9_1 x10_1 l1 a1i)) else (none)) else (none)) else (none)) else (none)) else (none)) else (none))=some r:=by first|(rw [hji23] at H;exact H)|(simp only [hji23] at H ⊢;exact H)
        have hji23w:(IntKind.i64.wrap (x10_1 - 1))=ji23:=(i64_w _).trans hji23
        by_cases c24:0≤(ji23)
        ·rw [if_pos c24] at H
         have c24b0:decide (0≤(ji23))=true:=decide_eq_true c24
         clear c24
         by_cases c25:(ji23)<(t101.length:Int)
         ·rw [if_pos c25] at H
          have c25b0:decide ((ji23)<(t101.length:Int))=true:=decide_eq_true c25
          clear c25
          by_cases c26:0<((rd_L9 t101 (ji23)).length:Int)
          ·rw [if_pos c26] at H
           have c26b0:decide (0<((rd_L9 t101 (ji23)).length:Int))=true:=decide_eq_true c26
           have c26b1:decide (0<(rd_L9 t101 (ji23)).length)=true:=decide_eq_true zbd
           clear c26
           by_cases c27:0≤x10_1
           ·rw [if_pos c27] at H
            have c27b0:decide (0≤x10_1)=true:=decide_eq_true c27
            clear c27
            by_cases c28:x10_1<(t101.length:Int)
            ·rw [if_pos c28] at H
             have c28b0:decide (x10_1<(t101.length:Int))=true:=decide_eq_true c28
             clear c28
             by_cases c29:0<((rd_L9 t101 x10_1).length:Int)
             ·rw [if_pos c29] at H
              have c29b0:decide (0<((rd_L9 t101 x10_1).length:Int))=true:=decide_eq_true c29
              have c29b1:decide (0<(rd_L9 t101 x10_1).length)=true:=decide_eq_true zbd
              clear c29
              have HC30:=Aside0.mk H
              clear H
              try go_wp2
              replace HO_7:=Aside0.mk (Kd.S_drew HO_7.out)
              replace HB:=Aside0.mk (below_drew1 HB.out)
              have p107:0≤((ji23):Int):=of_decide_eq_true ze
              have q107:(ji23)<(t101.length:Int):=of_decide_eq_true ze
              obtain ⟨ad107,A107_0,c107_0,e107,hx107_0,hl107_0,hi107_0⟩:=at_L9 (Kd.S_reads' HO_7.out).2.2 (ji23) p107 q107
              cases e107
              obtain ⟨ce107,hce107,hMe107,hcc107⟩:=Kd.S_get HO_7.out [] (ji23) p107 (by first|exact q107|exact of_decide_eq_true ze|(have e_:=(Kd.S_reads' HO_7.out).1;omega))
              obtain ⟨ve107_0,rfl,ge107_0⟩:=hMe107
              have hv107_0:=hcc107 0 _ rfl
              rw [Nat.add_zero,show ((Kd.slice 2 (Kd.int .i64))).sz=1 from rfl,Nat.mul_one] at hv107_0
              replace hv107_0:=Option.some.inj (hv107_0.symm.trans hx107_0)
              rw [hv107_0] at ge107_0
              have HL107_0:=Aside0.mk (show Kd.R (Kd.int .i64) 2 _ _ _ _ (rd_L9 t101 (ji23)) from ge107_0)
              clear hv107_0 ge107_0
              clear hcc107 hce107
              have HR107_0:=Aside0.mk hi107_0
              have HC107_0:=Aside0.mk hl107_0
              clear hi107_0 hl107_0
              replace p107:=eq_true p107
              replace q107:=eq_true q107
              have p108:0≤(0:Int):=zbd
              have q108:0<((rd_L9 t101 (ji23)).length:Int):=of_decide_eq_true ze
              obtain ⟨ad108,e108,hx108_0⟩:=Kd.at_int zbt 0 p108 q108
              cases e108
              have qi108:(0<(rd_L9 t101 (ji23)).length)=True:=eq_true zbd
              (try rw [show ((0:Int)).toNat=0 from rfl] at hx108_0)
              (try rw [Addr.add_zero'] at hx108_0)
              replace p108:=eq_true p108
              replace q108:=eq_true q108
              have p109:0≤(x10_1:Int):=of_decide_eq_true ze
              have q109:x10_1<(t101.length:Int):=of_decide_eq_true ze
              obtain ⟨ad109,A109_0,c109_0,e109,hx109_0,hl109_0,hi109_0⟩:=at_L9 (Kd.S_reads' HO_7.out).2.2 x10_1 p109 q109
              obtain rfl:ad107=ad109:=(by injection e109)
              obtain ⟨ce109,hce109,hMe109,hcc109⟩:=Kd.S_get HO_7.out [] x10_1 p109 (by first|exact q109|exact of_decide_eq_true ze|(have e_:=(Kd.S_reads' HO_7.out).1;omega))
              obtain ⟨ve109_0,rfl,ge109_0⟩:=hMe109
              have hv109_0:=hcc109 0 _ rfl
              rw [Nat.add_zero,show ((Kd.slice 2 (Kd.int .i64))).sz=1 from rfl,Nat.mul_one] at hv109_0
              replace hv109_0:=Option.some.inj (hv109_0.symm.trans hx109_0)
              rw [hv109_0] at ge109_0
              have HL109_0:=Aside0.mk (show Kd.R (Kd.int .i64) 2 _ _ _ _ (rd_L9 t101 x10_1) from ge109_0)
              clear hv109_0 ge109_0
              clear hcc109 hce109
              have HR109_0:=Aside0.mk hi109_0
              have HC109_0:=Aside0.mk hl109_0
              clear hi109_0 hl109_0
              replace p109:=eq_true p109
              replace q109:=eq_true q109
              have p110:0≤(0:Int):=zbd
              have q110:0<((rd_L9 t101 x10_1).length:Int):=of_decide_eq_true ze
              obtain ⟨ad110,e110,hx110_0⟩:=Kd.at_int zbu 0 p110 q110
              cases e110
              have qi110:(0<(rd_L9 t101 x10_1).length)=True:=eq_true zbd
              (try rw [show ((0:Int)).toNat=0 from rfl] at hx110_0)
              (try rw [Addr.add_zero'] at hx110_0)
              replace p110:=eq_true p110
              replace q110:=eq_true q110
              refine start_ (n:=18) (S:=fun w'=>w'.cell? (ad107.add ((ji23)).toNat)=some (.slice (some ad108) (rd_L9 t101 (ji23)).length c107_0)∧w'.cell? ad108=some (.int .i64 (rd (rd_L9 t101 (ji23)) 0))∧w'.cell? (ad107.add (x10_1).toNat)=some (.slice (some ad110) (rd_L9 t101 x10_1).length c109_0)∧w'.cell? ad110=some (.int .i64 (rd (rd_L9 t101 x10_1) 0))) (ds:=[]) #[false,false,false,false,false,false,false,false,false,false,false,false,false,false,false,false,false,false] zu rfl rfl ⟨hx107_0,hx108_0,hx109_0,hx110_0⟩ (fun hHeld=>?_);refine with_tabW spec_l25Text_e.tab15 spec_l25Text_e.bits15 (fun HT_ HW_=>?_)
              generalize wc.drew=w31 at HO_7 HB HL107_0 HL109_0 HR107_0 HR109_0 hx107_0 hx108_0 hx109_0 hx110_0 hHeld ⊢
              refine pA 0 47 ?_
              refine pA 1 48 ?_
              refine pA 2 49 ?_
              refine pA 3 50 ?_
              refine pA 4 51 ?_
              refine pA 5 52 ?_
              refine pA 6 53 ?_
              refine pA 10 57 ?_
              refine pA 11 58 ?_
              refine pA 12 59 ?_
              refine pT 7 54 rfl zch ?_
              refine pA 8 55 ?_
              refine pT 9 56 rfl zch ?_
              refine pT 13 60 rfl zch ?_
              refine pA 14 61 ?_
              refine pT 15 62 rfl zch ?_
              refine pA 16 63 ?_
              refine pA 17 64 ?_
              refine done_ (done_of HT_.out zu) ?_
              go_upto_if 64 with (fail)
              go_cut [8] (fun v8 wc=>∃(kq:Nat) (x8_29:ByteArray),v8 = .string x8_29∧Aside0 (spec_l25Text_e.j2 kq l0 a2 t101 x8_29 x9_1 x10_1 l1 a1i=some r)∧Aside0 (kq≤kj10)∧Aside0 (Kd.S (Kd.slice 2 (Kd.int .i64)) 37 wc w.heap.size (fun _=>True) (.slice (some ad107) t101.length co9) t101)∧Aside0 (Kd.C (Kd.int .i64) wc (some ad108) (rd_L9 t101 (ji23)).length (rd_L9 t101 (ji23)))∧Aside0 (Kd.C (Kd.int .i64) wc (some ad110) (rd_L9 t101 x10_1).length (rd_L9 t101 x10_1))∧Aside0 (Below w.heap.size w wc))
              case first=>
               have H:=HC30.out
               clear HC30
               by_cases c32:(rd (rd_L9 t101 (ji23)) 0)=(rd (rd_L9 t101 x10_1) 0)
               ·rw [if_pos c32] at H
                have c32b0:((rd (rd_L9 t101 (ji23)) 0) == (rd (rd_L9 t101 x10_1) 0))=true:=beq_iff_eq.mpr c32
                have c32b1:((rd (rd_L9 t101 (ji23)) 0) != (rd (rd_L9 t101 x10_1) 0))=false:=bne_eq_false_iff_eq.mpr c32
                clear c32
                (first|rw [c32b0]|(simp only [i64_w,i32_w];rw [c32b0])|skip)
                by_cases c33:x8_10.size+1≤9223372036854775807
                ·rw [if_pos c33] at H
                 have c33b0:=eq_true c33
                 have c33b1:decide (x8_10.size+1≤9223372036854775807)=true:=decide_eq_true c33
                 try have c33b2:(9223372036854775807<x8_10.size+1)=False:=eq_false (Nat.not_lt.2 c33)
                 have H':=Aside0.mk H
                 clear H
                 go_wp2
                 go_meet
                 case rel=>exact ⟨_,(x8_10++(⟨#[126]⟩:ByteArray)),zf,H',⟨by have:=HK1.out;have:=HJ10.out;first|omega|exact Nat.le_refl _⟩,⟨zar⟩,⟨zbt⟩,⟨zbu⟩,⟨za⟩⟩
                ·rw [if_neg c33] at H
                 exact absurd H zbr
               ·rw [if_neg c32] at H
                have c32b0:((rd (rd_L9 t101 (ji23)) 0) == (rd (rd_L9 t101 x10_1) 0))=false:=beq_eq_false_iff_ne.mpr c32
                have c32b1:((rd (rd_L9 t101 (ji23)) 0) != (rd (rd_L9 t101 x10_1) 0))=true:=bne_iff_ne.mpr c32
                (first|rw [c32b0]|(simp only [i64_w,i32_w];rw [c32b0])|skip)
                have H':=Aside0.mk H
                clear H
                go_wp2
                go_meet
                case rel=>exact ⟨_,(x8_10),zf,H',⟨by have:=HK1.out;have:=HJ10.out;first|omega|exact Nat.le_refl _⟩,⟨zar⟩,⟨zbt⟩,⟨zbu⟩,⟨za⟩⟩
              case rest=>
               clear HC30
               try clear c1
               try clear p1
               try clear q1
               try clear hx1
               try clear qi1
               try clear c2
               try clear p2
               try clear c3
               try clear c5
               try clear c5b0
               try clear c5b1
               try clear c5b2
               try clear p6
               try clear c10
               try clear c10b0
               try clear p10
               try clear q10
               try clear hx10
               try clear qi10
               try clear p11
               try clear q11
               try clear hx11
               try clear qi11
               try clear c12
               try clear c12b0
               try clear c13
               try clear c13b0
               try clear c13b1
               try clear c13b2
               try clear c16
               try clear c16b0
               try clear c16b1
               try clear c18
               try clear c18b0
               try clear c18b1
               try clear c19
               try clear c19b0
               try clear c19b1
               try clear c20
               try clear c20b0
               try clear c20b1
               try clear c20b2
               try clear c21
               try clear c21b0
               try clear c21b1
               try clear c21b2
               try clear c22
               try clear c22b0
               try clear c24
               try clear c24b0
               try clear c25
               try clear c25b0
               try clear c26
               try clear c26b0
               try clear c26b1
               try clear c27
               try clear c27b0
               try clear c28
               try clear c28b0
               try clear c29
               try clear c29b0
               try clear c29b1
               try clear c32
               try clear c32b0
               try clear c32b1
               try clear c33
               try clear c33b0
               try clear c33b1
               try clear c33b2
               try clear hx107_0
               try clear hx108_0
               try clear hx109_0
               try clear hx110_0
               try clear p107
               try clear p108
               try clear p109
               try clear p110
               try clear p2
               try clear q107
               try clear q108
               try clear q109
               try clear q110
               obtain ⟨kq,x8_29,rfl,HA,HJ29,HO_7,HR107_0,HR109_0,HB⟩:=hcut
               cases kq with
               | zero=>exact absurd HA.out (by simp [spec_l25Text_e.j2])
               | succ kj29=>
                have H:=HA.out
                clear HA
                simp only [spec_l25Text_e.j2] at H
                by_cases c34:0≤x10_1
                ·rw [if_pos c34] at H
                 have c34b0:decide (0≤x10_1)=true:=decide_eq_true c34
                 clear c34
                 by_cases c35:x10_1<(t101.length:Int)
                 ·rw [if_pos c35] at H
                  have c35b0:decide (x10_1<(t101.length:Int))=true:=decide_eq_true c35
                  clear c35
                  by_cases c36:0<((rd_L9 t101 x10_1).length:Int)
                  ·rw [if_pos c36] at H
                   have c36b0:decide (0<((rd_L9 t101 x10_1).length:Int))=true:=decide_eq_true c36
                   have c36b1:decide (0<(rd_L9 t101 x10_1).length)=true:=decide_eq_true zbd
                   clear c36
                   by_cases c37:0≤(rd (rd_L9 t101 x10_1) 0)
                   ·rw [if_pos c37] at H
                    have c37b0:decide (0≤(rd (rd_L9 t101 x10_1) 0))=true:=decide_eq_true c37
                    clear c37
                    by_cases c38:(rd (rd_L9 t101 x10_1) 0)<(l0.length:Int)
                    ·rw [if_pos c38] at H
                     have c38b0:decide ((rd (rd_L9 t101 x10_1) 0)<(l0.length:Int))=true:=decide_eq_true c38
                     clear c38
                     by_cases c39:1<((rd_L9 t101 x10_1).length:Int)
                     ·rw [if_pos c39] at H
                      have c39b0:decide (1<((rd_L9 t101 x10_1).length:Int))=true:=decide_eq_true c39
                      have c39b1:decide (1<(rd_L9 t101 x10_1).length)=true:=decide_eq_true zbd
                      clear c39
                      obtain ⟨y116,hy116⟩:∃y_:List (S67),y_=(([(⟨(rd_T67 l0 (rd (rd_L9 t101 x10_1) 0)).f0,rd (rd_L9 t101 x10_1) 1⟩:S67)]:List (S67))):=⟨_,rfl⟩
                      replace H:((spec_l09Text.f kj29 y116).bind fun t119=>(if x8_29.size+t119.size≤9223372036854775807 then (spec_l25Text_e.l0 kj29 l0 a2 t101 (x8_29++t119) (wrap64 (x9_1+(rd (rd_L9 t101 x10_1) 1))) (wrap64 (x10_1+1)) l1 a1i) else (none)))=some r:=by first|(rw [hy116];with_reducible exact H)|(have H2_:=(Option.bind_some _ _).symm.trans H;rw [hy116];with_reducible exact H2_)|(have H2_:=(Option.bind_some _ _).symm.trans H;with_reducible exact H2_)|with_reducible exact H|(rw [hy116];exact H)|exact H
                      have Ny116:=Aside0.mk hy116
                      clear hy116
                      replace H:=Option.bind_eq_some_iff.mp H
                      obtain ⟨t119,A400,H⟩:=H
                      replace H:(if x8_29.size+t119.size≤9223372036854775807 then (spec_l25Text_e.l0 kj29 l0 a2 t101 (x8_29++t119) (wrap64 (x9_1+(rd (rd_L9 t101 x10_1) 1))) (wrap64 (x10_1+1)) l1 a1i) else (none))=some r:=H
                      have A40:=Aside0.mk A400
                      clear A400
                      by_cases c41:x8_29.size+t119.size≤9223372036854775807
                      ·rw [if_pos c41] at H
                       have c41b0:=eq_true c41
                       have c41b1:decide (x8_29.size+t119.size≤9223372036854775807)=true:=decide_eq_true c41
                       try have c41b2:(9223372036854775807<x8_29.size+t119.size)=False:=eq_false (Nat.not_lt.2 c41)
                       have H':=Aside0.mk H
                       clear H
                       try go_wp2
                       replace HO_7:=Aside0.mk (Kd.S_drew HO_7.out)
                       replace HR107_0:=Aside0.mk (Kd.C_drew HR107_0.out)
                       replace HR109_0:=Aside0.mk (Kd.C_drew HR109_0.out)
                       replace HB:=Aside0.mk (below_drew1 HB.out)
                       have p111:0≤(x10_1:Int):=of_decide_eq_true ze
                       have q111:x10_1<(t101.length:Int):=of_decide_eq_true ze
                       obtain ⟨ad111,A111_0,c111_0,e111,hx111_0,hl111_0,hi111_0⟩:=at_L9 (Kd.S_reads' HO_7.out).2.2 x10_1 p111 q111
                       obtain rfl:ad107=ad111:=(by injection e111)
                       obtain ⟨ce111,hce111,hMe111,hcc111⟩:=Kd.S_get HO_7.out [] x10_1 p111 (by first|exact q111|exact of_decide_eq_true ze|(have e_:=(Kd.S_reads' HO_7.out).1;omega))
                       obtain ⟨ve111_0,rfl,ge111_0⟩:=hMe111
                       have hv111_0:=hcc111 0 _ rfl
                       rw [Nat.add_zero,show ((Kd.slice 2 (Kd.int .i64))).sz=1 from rfl,Nat.mul_one] at hv111_0
                       replace hv111_0:=Option.some.inj (hv111_0.symm.trans hx111_0)
                       rw [hv111_0] at ge111_0
                       have HL111_0:=Aside0.mk (show Kd.R (Kd.int .i64) 2 _ _ _ _ (rd_L9 t101 x10_1) from ge111_0)
                       clear hv111_0 ge111_0
                       clear hcc111 hce111
                       have HR111_0:=Aside0.mk hi111_0
                       have HC111_0:=Aside0.mk hl111_0
                       clear hi111_0 hl111_0
                       replace p111:=eq_true p111
                       replace q111:=eq_true q111
                       have p112:0≤(0:Int):=zbd
                       have q112:0<((rd_L9 t101 x10_1).length:Int):=of_decide_eq_true ze
                       obtain ⟨ad112,e112,hx112_0⟩:=Kd.at_int zcm 0 p112 q112
                       cases e112
                       have qi112:(0<(rd_L9 t101 x10_1).length)=True:=eq_true zbd
                       (try rw [show ((0:Int)).toNat=0 from rfl] at hx112_0)
                       (try rw [Addr.add_zero'] at hx112_0)
                       replace p112:=eq_true p112
                       replace q112:=eq_true q112
                       have p113:0≤((rd (rd_L9 t101 x10_1) 0):Int):=of_decide_eq_true ze
                       have q113:(rd (rd_L9 t101 x10_1) 0)<(l0.length:Int):=of_decide_eq_true ze
                       obtain ⟨ad113,e113,hx113_0,hx113_1⟩:=at_T67 HR0.out (rd (rd_L9 t101 x10_1) 0) p113 q113
                       have hw113_1:=hx113_1
                       have hw113_0:=hx113_0
                       cases e113
                       replace hx113_0:=(HB.out.cell (World.block_lt_of_cell? w _ hx113_0)).trans hx113_0
                       replace hx113_1:=(HB.out.cell (World.block_lt_of_cell? w _ hx113_1)).trans hx113_1
                       replace p113:=eq_true p113
                       replace q113:=eq_true q113
                       have p114:0≤(x10_1:Int):=of_decide_eq_true ze
                       have q114:x10_1<(t101.length:Int):=of_decide_eq_true ze
                       obtain ⟨ad114,A114_0,c114_0,e114,hx114_0,hl114_0,hi114_0⟩:=at_L9 (Kd.S_reads' HO_7.out).2.2 x10_1 p114 q114
                       obtain rfl:ad107=ad114:=(by injection e114)
                       obtain ⟨ce114,hce114,hMe114,hcc114⟩:=Kd.S_get HO_7.out [] x10_1 p114 (by first|exact q114|exact of_decide_eq_true ze|(have e_:=(Kd.S_reads' HO_7.out).1;omega))
                       obtain ⟨ve114_0,rfl,ge114_0⟩:=hMe114
                       have hv114_0:=hcc114 0 _ rfl
                       rw [Nat.add_zero,show ((Kd.slice 2 (Kd.int .i64))).sz=1 from rfl,Nat.mul_one] at hv114_0
                       replace hv114_0:=Option.some.inj (hv114_0.symm.trans hx114_0)
                       rw [hv114_0] at ge114_0
                       have HL114_0:=Aside0.mk (show Kd.R (Kd.int .i64) 2 _ _ _ _ (rd_L9 t101 x10_1) from ge114_0)
                       clear hv114_0 ge114_0
                       clear hcc114 hce114
                       have HR114_0:=Aside0.mk hi114_0
                       have HC114_0:=Aside0.mk hl114_0
                       clear hi114_0 hl114_0
                       replace p114:=eq_true p114
                       replace q114:=eq_true q114
                       have ea_:=Option.some.inj (hx111_0.symm.trans hx114_0)
                       injection ea_ with ea_ en_ ec_
                       subst ea_
                       subst ec_
                       clear en_
                       have p115:0≤(1:Int):=zbd
                       have q115:1<((rd_L9 t101 x10_1).length:Int):=of_decide_eq_true ze
                       obtain ⟨ad115,e115,hx115_0⟩:=Kd.at_int zcn 1 p115 q115
                       cases e115
                       (try simp only [show (1:Int).toNat=1 from rfl,Nat.reduceMul,Nat.reduceEqDiff,Go.Addr.add,↓reduceIte] at hx115_0)
                       have qi115:(1<(rd_L9 t101 x10_1).length)=True:=eq_true zbd
                       (try rw [show ((1:Int)).toNat=1 from rfl] at hx115_0)
                       replace p115:=eq_true p115
                       replace q115:=eq_true q115
                       refine start_ (n:=22) (S:=fun w'=>w'.cell? (ad107.add (x10_1).toNat)=some (.slice (some ad112) (rd_L9 t101 x10_1).length c111_0)∧w'.cell? ad112=some (.int .i64 (rd (rd_L9 t101 x10_1) 0))∧w'.cell? (ad113.add (((rd (rd_L9 t101 x10_1) 0)).toNat*2))=some (.int .i64 ((rd_T67 l0 (rd (rd_L9 t101 x10_1) 0)).f0))∧w'.cell? ⟨(ad113.add (((rd (rd_L9 t101 x10_1) 0)).toNat*2)).block,(ad113.add (((rd (rd_L9 t101 x10_1) 0)).toNat*2)).off+1,none⟩=some (.int .i64 ((rd_T67 l0 (rd (rd_L9 t101 x10_1) 0)).f1))∧w'.cell? (ad107.add (x10_1).toNat)=some (.slice (some ad112) (rd_L9 t101 x10_1).length c111_0)∧w'.cell? ⟨ad112.block,ad112.off+1,none⟩=some (.int .i64 (rd (rd_L9 t101 x10_1) 1))) (ds:=[]) #[false,false,false,false,false,false,false,false,false,false,false,false,false,false,false,false,false,false,false,false,false,false] zu rfl rfl ⟨hx111_0,hx112_0,((HB.out.cell (World.block_lt_of_cell? w _ hw113_0)).trans hw113_0),((HB.out.cell (World.block_lt_of_cell? w _ hw113_1)).trans hw113_1),hx114_0,hx115_0⟩ (fun hHeld=>?_);refine with_tabW spec_l25Text_e.tab17 spec_l25Text_e.bits17 (fun HT_ HW_=>?_)
                       generalize wc.drew=w42 at HO_7 HR107_0 HR109_0 HB HL111_0 HL114_0 HR111_0 HR114_0 hx111_0 hx112_0 hx113_0 hx113_1 hx114_0 hx115_0 hHeld ⊢
                       refine pA 0 67 ?_
                       refine pA 1 68 ?_
                       refine pA 2 69 ?_
                       refine pA 3 70 ?_
                       refine pA 4 71 ?_
                       refine pA 11 78 ?_
                       refine pA 12 79 ?_
                       refine pA 13 80 ?_
                       refine pT 5 72 rfl zac ?_
                       refine pA 6 73 ?_
                       refine pT 7 74 rfl zac ?_
                       refine pA 8 75 ?_
                       refine pA 9 76 ?_
                       refine pT 10 77 rfl zac ?_
                       refine pT 14 81 rfl zac ?_
                       refine pA 15 82 ?_
                       refine pT 16 83 rfl zac ?_
                       refine pA 17 84 ?_
                       refine one_ (i:=18) (N:=some 85) #[true,true,true,true,true,true,true,true,true,true,true,true,true,true,true,true,true,true,true,false,false,false] rfl rfl (one_of HT_.out zu) zbm (fun K hK=>?_)
                       refine Kd.R_lit_step k67 _ 67 ?hg (N:=85) ?hd (xs:=([(⟨(rd_T67 l0 (rd (rd_L9 t101 x10_1) 0)).f0,rd (rd_L9 t101 x10_1) 1⟩:S67)]:List (S67))) (inner:=[.int .i64 ((rd_T67 l0 (rd (rd_L9 t101 x10_1) 0)).f0),.int .i64 (rd (rd_L9 t101 x10_1) 1)]) (ok:=fun _=>True) (okp:=fun _=>True) ?hr ?hp (fun _ hk=>hk) trivial (Below.refl _ _) (Nat.le_refl _) zbr ?_;(case hd=>rfl);(case hg=>rfl);(case hr=>exact zo);(case hp=>exact (Reps.c2 (show Kd.M k67 _ _ _ (⟨(rd_T67 l0 (rd (rd_L9 t101 x10_1) 0)).f0,rd (rd_L9 t101 x10_1) 1⟩:S67) [.int .i64 ((rd_T67 l0 (rd (rd_L9 t101 x10_1) 0)).f0),.int .i64 (rd (rd_L9 t101 x10_1) 1)] from (k67_mkM _ _ _ (⟨(rd_T67 l0 (rd (rd_L9 t101 x10_1) 0)).f0,rd (rd_L9 t101 x10_1) 1⟩:S67))) (Reps.none _ _)))
                       intro v117 w43 ho44 hb hg_ hnew_
                       have HS0_:=(hb.cell (World.block_lt_of_cell? _ _ (hHeld.1))).trans (hHeld.1)
                       have HS1_:=(hb.cell (World.block_lt_of_cell? _ _ (hHeld.2.1))).trans (hHeld.2.1)
                       have HS4_:=(hb.cell (World.block_lt_of_cell? _ _ (hHeld.2.2.2.2.1))).trans (hHeld.2.2.2.2.1)
                       have HS5_:=(hb.cell (World.block_lt_of_cell? _ _ (hHeld.2.2.2.2.2))).trans (hHeld.2.2.2.2.2)
                       clear hg_ hnew_
                       (first|rw [←Ny116.out] at ho44|(simp only [Int.reduceToNat] at ho44;rw [←Ny116.out] at ho44))
                       replace HO_7:=Aside0.mk (Kd.S_below zar hb)
                       replace HL111_0:=Aside0.mk (Kd.R_below (by (with_reducible repeat (first|apply Kd.R_alloc|apply Kd.R_drewN|apply Kd.R_drew));exact HL111_0.out) hb)
                       replace HL114_0:=Aside0.mk (Kd.R_below (by (with_reducible repeat (first|apply Kd.R_alloc|apply Kd.R_drewN|apply Kd.R_drew));exact HL114_0.out) hb)
                       have HO118:=Aside0.mk (Kd.R_lower ho44 (below_size za))
                       replace HR107_0:=Aside0.mk (Kd.C_below zbt hb)
                       replace HR109_0:=Aside0.mk (Kd.C_below zbu hb)
                       replace HR111_0:=Aside0.mk (Kd.C_below zcm hb)
                       replace HR114_0:=Aside0.mk (Kd.C_below zcn hb)
                       replace HB:=Aside0.mk (below_step za hb)
                       clear hb ho44
                       obtain ⟨Ao45,co45,eo45⟩:=Kd.R_slice HO118.out
                       (first|subst eo45|(injection eo45 with f1_ f2_ f3_;have f4_:=f1_.symm;have f5_:=f3_.symm;clear f1_ f2_ f3_;subst f4_;subst f5_))
                       refine hK.out _ _ ⟨HS0_,HS1_,((HB.out.cell (World.block_lt_of_cell? w _ hw113_0)).trans hw113_0),((HB.out.cell (World.block_lt_of_cell? w _ hw113_1)).trans hw113_1),HS4_,HS5_⟩ (fun hHeld=>?_)
                       clear hK K
                       refine pN 85 ?_
                       refine one_ (i:=19) (N:=some 86) #[true,true,true,true,true,true,true,true,true,true,true,true,true,true,true,true,true,true,true,true,false,false] rfl rfl (one_of HT_.out zu) zbm (fun K hK=>?_)
                       refine goes_ Tryz.func139 zu rfl #[.slice Ao45 y116.length co45] (by rfl) rfl rfl zc ?_
                       with_reducible refine (spec_l09Text.calls kj29 _ _ y116 t119 _ ?side1 ?side2 A40.out).mono ?_
                       (case side1=>repeat (first|exact (Kd.R_reads' HO118.out).2.2|(with_reducible refine Kd.C_alloc ?_ _)|(with_reducible refine Kd.C_drewN ?_ _)|(with_reducible refine Kd.C_drew ?_)))
                       (case side2=>exact (Kd.R_reads' HO118.out).2.1)
                       rintro e w46 ⟨rfl,hb⟩
                       have HS0_:=(hb.cell (World.block_lt_of_cell? _ _ (hHeld.1))).trans (hHeld.1)
                       have HS1_:=(hb.cell (World.block_lt_of_cell? _ _ (hHeld.2.1))).trans (hHeld.2.1)
                       have HS4_:=(hb.cell (World.block_lt_of_cell? _ _ (hHeld.2.2.2.2.1))).trans (hHeld.2.2.2.2.1)
                       have HS5_:=(hb.cell (World.block_lt_of_cell? _ _ (hHeld.2.2.2.2.2))).trans (hHeld.2.2.2.2.2)
                       refine ⟨_,rfl,?_⟩
                       replace HO_7:=Aside0.mk (Kd.S_below zar hb)
                       replace HL111_0:=Aside0.mk (Kd.R_below (by (with_reducible repeat (first|apply Kd.R_alloc|apply Kd.R_drewN|apply Kd.R_drew));exact HL111_0.out) hb)
                       replace HL114_0:=Aside0.mk (Kd.R_below (by (with_reducible repeat (first|apply Kd.R_alloc|apply Kd.R_drewN|apply Kd.R_drew));exact HL114_0.out) hb)
                       replace HO118:=Aside0.mk (Kd.R_below zbx hb)
                       replace HR107_0:=Aside0.mk (Kd.C_below zbt hb)
                       replace HR109_0:=Aside0.mk (Kd.C_below zbu hb)
                       replace HR111_0:=Aside0.mk (Kd.C_below zcm hb)
                       replace HR114_0:=Aside0.mk (Kd.C_below zcn hb)
                       replace HB:=Aside0.mk (below_step za hb)
                       (try clear hb)
                       (try clear hb2)
                       (try clear hk)
                       (try clear hi)
                       refine hK.out _ _ ⟨HS0_,HS1_,((HB.out.cell (World.block_lt_of_cell? w _ hw113_0)).trans hw113_0),((HB.out.cell (World.block_lt_of_cell? w _ hw113_1)).trans hw113_1),HS4_,HS5_⟩ (fun hHeld=>?_)
                       clear hK K
                       refine pN 86 ?_
                       refine pA 20 87 ?_
                       refine pA 21 8 ?_
                       refine done_ (done_of HT_.out zu) ?_
                       have p120:0≤(x10_1:Int):=of_decide_eq_true ze
                       have q120:x10_1<(t101.length:Int):=of_decide_eq_true ze
                       obtain ⟨ad120,A120_0,c120_0,e120,hx120_0,hl120_0,hi120_0⟩:=at_L9 (Kd.S_reads' HO_7.out).2.2 x10_1 p120 q120
                       obtain rfl:ad107=ad120:=(by injection e120)
                       obtain ⟨ce120,hce120,hMe120,hcc120⟩:=Kd.S_get HO_7.out [] x10_1 p120 (by first|exact q120|exact of_decide_eq_true ze|(have e_:=(Kd.S_reads' HO_7.out).1;omega))
                       obtain ⟨ve120_0,rfl,ge120_0⟩:=hMe120
                       have hv120_0:=hcc120 0 _ rfl
                       rw [Nat.add_zero,show ((Kd.slice 2 (Kd.int .i64))).sz=1 from rfl,Nat.mul_one] at hv120_0
                       replace hv120_0:=Option.some.inj (hv120_0.symm.trans hx120_0)
                       rw [hv120_0] at ge120_0
                       have HL120_0:=Aside0.mk (show Kd.R (Kd.int .i64) 2 _ _ _ _ (rd_L9 t101 x10_1) from ge120_0)
                       clear hv120_0 ge120_0
                       clear hcc120 hce120
                       have HR120_0:=Aside0.mk hi120_0
                       have HC120_0:=Aside0.mk hl120_0
                       clear hi120_0 hl120_0
                       replace p120:=eq_true p120
                       replace q120:=eq_true q120
                       have p121:0≤(1:Int):=zbd
                       have q121:1<((rd_L9 t101 x10_1).length:Int):=of_decide_eq_true ze
                       obtain ⟨ad121,e121,hx121_0⟩:=Kd.at_int (by repeat (first|(with_reducible exact HR120_0.out)|(with_reducible refine Kd.C_alloc ?_ _)|(with_reducible refine Kd.C_drewN ?_ _)|(with_reducible refine Kd.C_drew ?_)|exact HR120_0.out)) 1 p121 q121
                       cases e121
                       (try simp only [show (1:Int).toNat=1 from rfl,Nat.reduceMul,Nat.reduceEqDiff,Go.Addr.add,↓reduceIte] at hx121_0)
                       have qi121:(1<(rd_L9 t101 x10_1).length)=True:=eq_true zbd
                       (try rw [show ((1:Int)).toNat=1 from rfl] at hx121_0)
                       replace p121:=eq_true p121
                       replace q121:=eq_true q121
                       try go_wp2
                       go_roundg kj29
                       case measure=>have:=HK1.out;have:=HJ10.out;have:=HJ29.out;omega
                       case rel=>exact ⟨(x8_29++t119),(wrap64 (x9_1+(rd (rd_L9 t101 x10_1) 1))),(wrap64 (x10_1+1)),zf,zf,zf,H',⟨by have:=HK1.out;have:=HJ10.out;have:=HJ29.out;omega⟩,⟨zar⟩,⟨za⟩⟩
                      ·rw [if_neg c41] at H
                       exact absurd H zbr
                     ·rw [if_neg c39] at H
                      exact absurd H zbr
                    ·rw [if_neg c38] at H
                     exact absurd H zbr
                   ·rw [if_neg c37] at H
                    exact absurd H zbr
                  ·rw [if_neg c36] at H
                   exact absurd H zbr
                 ·rw [if_neg c35] at H
                  exact absurd H zbr
                ·rw [if_neg c34] at H
                 exact absurd H zbr
             ·rw [if_neg c29] at H
              exact absurd H zbr
            ·rw [if_neg c28] at H
             exact absurd H zbr
           ·rw [if_neg c27] at H
            exact absurd H zbr
          ·rw [if_neg c26] at H
           exact absurd H zbr
         ·rw [if_neg c25] at H
          exact absurd H zbr
        ·rw [if_neg c24] at H
         exact absurd H zbr
       ·rw [if_neg c22] at H
        have c22b0:decide (0<x10_1)=false:=decide_eq_false c22
        clear c22
        by_cases c47:0≤x10_1
        ·rw [if_pos c47] at H
         have c47b0:decide (0≤x10_1)=true:=decide_eq_true c47
         clear c47
         by_cases c48:x10_1<(t101.length:Int)
         ·rw [if_pos c48] at H
          have c48b0:decide (x10_1<(t101.length:Int))=true:=decide_eq_true c48
          clear c48
          by_cases c49:0<((rd_L9 t101 x10_1).length:Int)
          ·rw [if_pos c49] at H
           have c49b0:decide (0<((rd_L9 t101 x10_1).length:Int))=true:=decide_eq_true c49
           have c49b1:decide (0<(rd_L9 t101 x10_1).length)=true:=decide_eq_true zbd
           clear c49
           by_cases c50:0≤(rd (rd_L9 t101 x10_1) 0)
           ·rw [if_pos c50] at H
            have c50b0:decide (0≤(rd (rd_L9 t101 x10_1) 0))=true:=decide_eq_true c50
            clear c50
            by_cases c51:(rd (rd_L9 t101 x10_1) 0)<(l0.length:Int)
            ·rw [if_pos c51] at H
             have c51b0:decide ((rd (rd_L9 t101 x10_1) 0)<(l0.length:Int))=true:=decide_eq_true c51
             clear c51
             by_cases c52:1<((rd_L9 t101 x10_1).length:Int)
             ·rw [if_pos c52] at H
              have c52b0:decide (1<((rd_L9 t101 x10_1).length:Int))=true:=decide_eq_true c52
              have c52b1:decide (1<(rd_L9 t101 x10_1).length)=true:=decide_eq_true zbd
              clear c52
              obtain ⟨y127,hy127⟩:∃y_:List (S67),y_=(([(⟨(rd_T67 l0 (rd (rd_L9 t101 x10_1) 0)).f0,rd (rd_L9 t101 x10_1) 1⟩:S67)]:List (S67))):=⟨_,rfl⟩
              replace H:((spec_l09Text.f kj10 y127).bind fun t130=>(if x8_10.size+t130.size≤9223372036854775807 then (spec_l25Text_e.l0 kj10 l0 a2 t101 (x8_10++t130) (wrap64 (x9_1+(rd (rd_L9 t101 x10_1) 1))) (wrap64 (x10_1+1)) l1 a1i) else (none)))=some r:=by first|(rw [hy127];with_reducible exact H)|(have H2_:=(Option.bind_some _ _).symm.trans H;rw [hy127];with_reducible exact H2_)|(have H2_:=(Option.bind_some _ _).symm.trans H;with_reducible exact H2_)|with_reducible exact H|(rw [hy127];exact H)|exact H
              have Ny127:=Aside0.mk hy127
              clear hy127
              replace H:=Option.bind_eq_some_iff.mp H
              obtain ⟨t130,A530,H⟩:=H
              replace H:(if x8_10.size+t130.size≤9223372036854775807 then (spec_l25Text_e.l0 kj10 l0 a2 t101 (x8_10++t130) (wrap64 (x9_1+(rd (rd_L9 t101 x10_1) 1))) (wrap64 (x10_1+1)) l1 a1i) else (none))=some r:=H
              have A53:=Aside0.mk A530
              clear A530
              by_cases c54:x8_10.size+t130.size≤9223372036854775807
              ·rw [if_pos c54] at H
               have c54b0:=eq_true c54
               have c54b1:decide (x8_10.size+t130.size≤9223372036854775807)=true:=decide_eq_true c54
               try have c54b2:(9223372036854775807<x8_10.size+t130.size)=False:=eq_false (Nat.not_lt.2 c54)
               have H':=Aside0.mk H
               clear H
               try go_wp2
               replace HO_7:=Aside0.mk (Kd.S_drew HO_7.out)
               replace HB:=Aside0.mk (below_drew1 HB.out)
               refine start_ (n:=18) (S:=fun w'=>True) (ds:=[]) #[false,false,false,false,false,false,false,false,false,false,false,false,false,false,false,false,false,false] zu rfl rfl trivial (fun hHeld=>?_);refine with_tabW spec_l25Text_e.tab15 spec_l25Text_e.bits15 (fun HT_ HW_=>?_)
               generalize wc.drew=w55 at HO_7 HB hHeld ⊢
               refine pA 0 47 ?_
               refine pA 1 48 ?_
               refine pA 2 49 ?_
               refine pU 3 50 ?_
               refine pU 4 51 ?_
               refine pU 5 52 ?_
               refine pU 6 53 ?_
               refine pU 7 54 ?_
               refine pU 8 55 ?_
               refine pU 9 56 ?_
               refine pU 10 57 ?_
               refine pU 11 58 ?_
               refine pU 12 59 ?_
               refine pU 13 60 ?_
               refine pU 14 61 ?_
               refine pU 15 62 ?_
               refine pU 16 63 ?_
               refine pA 17 64 ?_
               refine done_ (done_of HT_.out zu) ?_
               try go_wp2
               replace HO_7:=Aside0.mk (Kd.S_drew HO_7.out)
               replace HB:=Aside0.mk (below_drew1 HB.out)
               have p122:0≤(x10_1:Int):=of_decide_eq_true ze
               have q122:x10_1<(t101.length:Int):=of_decide_eq_true ze
               obtain ⟨ad122,A122_0,c122_0,e122,hx122_0,hl122_0,hi122_0⟩:=at_L9 (Kd.S_reads' HO_7.out).2.2 x10_1 p122 q122
               cases e122
               obtain ⟨ce122,hce122,hMe122,hcc122⟩:=Kd.S_get HO_7.out [] x10_1 p122 (by first|exact q122|exact of_decide_eq_true ze|(have e_:=(Kd.S_reads' HO_7.out).1;omega))
               obtain ⟨ve122_0,rfl,ge122_0⟩:=hMe122
               have hv122_0:=hcc122 0 _ rfl
               rw [Nat.add_zero,show ((Kd.slice 2 (Kd.int .i64))).sz=1 from rfl,Nat.mul_one] at hv122_0
               replace hv122_0:=Option.some.inj (hv122_0.symm.trans hx122_0)
               rw [hv122_0] at ge122_0
               have HL122_0:=Aside0.mk (show Kd.R (Kd.int .i64) 2 _ _ _ _ (rd_L9 t101 x10_1) from ge122_0)
               clear hv122_0 ge122_0
               clear hcc122 hce122
               have HR122_0:=Aside0.mk hi122_0
               have HC122_0:=Aside0.mk hl122_0
               clear hi122_0 hl122_0
               replace p122:=eq_true p122
               replace q122:=eq_true q122
               have p123:0≤(0:Int):=zbd
               have q123:0<((rd_L9 t101 x10_1).length:Int):=of_decide_eq_true ze
               obtain ⟨ad123,e123,hx123_0⟩:=Kd.at_int zco 0 p123 q123
               cases e123
               have qi123:(0<(rd_L9 t101 x10_1).length)=True:=eq_true zbd
               (try rw [show ((0:Int)).toNat=0 from rfl] at hx123_0)
               (try rw [Addr.add_zero'] at hx123_0)
               replace p123:=eq_true p123
               replace q123:=eq_true q123
               have p124:0≤((rd (rd_L9 t101 x10_1) 0):Int):=of_decide_eq_true ze
               have q124:(rd (rd_L9 t101 x10_1) 0)<(l0.length:Int):=of_decide_eq_true ze
               obtain ⟨ad124,e124,hx124_0,hx124_1⟩:=at_T67 HR0.out (rd (rd_L9 t101 x10_1) 0) p124 q124
               have hw124_1:=hx124_1
               have hw124_0:=hx124_0
               cases e124
               replace hx124_0:=(HB.out.cell (World.block_lt_of_cell? w _ hx124_0)).trans hx124_0
               replace hx124_1:=(HB.out.cell (World.block_lt_of_cell? w _ hx124_1)).trans hx124_1
               replace p124:=eq_true p124
               replace q124:=eq_true q124
               have p125:0≤(x10_1:Int):=of_decide_eq_true ze
               have q125:x10_1<(t101.length:Int):=of_decide_eq_true ze
               obtain ⟨ad125,A125_0,c125_0,e125,hx125_0,hl125_0,hi125_0⟩:=at_L9 (Kd.S_reads' HO_7.out).2.2 x10_1 p125 q125
               obtain rfl:ad122=ad125:=(by injection e125)
               obtain ⟨ce125,hce125,hMe125,hcc125⟩:=Kd.S_get HO_7.out [] x10_1 p125 (by first|exact q125|exact of_decide_eq_true ze|(have e_:=(Kd.S_reads' HO_7.out).1;omega))
               obtain ⟨ve125_0,rfl,ge125_0⟩:=hMe125
               have hv125_0:=hcc125 0 _ rfl
               rw [Nat.add_zero,show ((Kd.slice 2 (Kd.int .i64))).sz=1 from rfl,Nat.mul_one] at hv125_0
               replace hv125_0:=Option.some.inj (hv125_0.symm.trans hx125_0)
               rw [hv125_0] at ge125_0
               have HL125_0:=Aside0.mk (show Kd.R (Kd.int .i64) 2 _ _ _ _ (rd_L9 t101 x10_1) from ge125_0)
               clear hv125_0 ge125_0
               clear hcc125 hce125
               have HR125_0:=Aside0.mk hi125_0
               have HC125_0:=Aside0.mk hl125_0
               clear hi125_0 hl125_0
               replace p125:=eq_true p125
               replace q125:=eq_true q125
               have ea_:=Option.some.inj (hx122_0.symm.trans hx125_0)
               injection ea_ with ea_ en_ ec_
               subst ea_
               subst ec_
               clear en_
               have p126:0≤(1:Int):=zbd
               have q126:1<((rd_L9 t101 x10_1).length:Int):=of_decide_eq_true ze
               obtain ⟨ad126,e126,hx126_0⟩:=Kd.at_int zcp 1 p126 q126
               cases e126
               (try simp only [show (1:Int).toNat=1 from rfl,Nat.reduceMul,Nat.reduceEqDiff,Go.Addr.add,↓reduceIte] at hx126_0)
               have qi126:(1<(rd_L9 t101 x10_1).length)=True:=eq_true zbd
               (try rw [show ((1:Int)).toNat=1 from rfl] at hx126_0)
               replace p126:=eq_true p126
               replace q126:=eq_true q126
               refine start_ (n:=22) (S:=fun w'=>w'.cell? (ad122.add (x10_1).toNat)=some (.slice (some ad123) (rd_L9 t101 x10_1).length c122_0)∧w'.cell? ad123=some (.int .i64 (rd (rd_L9 t101 x10_1) 0))∧w'.cell? (ad124.add (((rd (rd_L9 t101 x10_1) 0)).toNat*2))=some (.int .i64 ((rd_T67 l0 (rd (rd_L9 t101 x10_1) 0)).f0))∧w'.cell? ⟨(ad124.add (((rd (rd_L9 t101 x10_1) 0)).toNat*2)).block,(ad124.add (((rd (rd_L9 t101 x10_1) 0)).toNat*2)).off+1,none⟩=some (.int .i64 ((rd_T67 l0 (rd (rd_L9 t101 x10_1) 0)).f1))∧w'.cell? (ad122.add (x10_1).toNat)=some (.slice (some ad123) (rd_L9 t101 x10_1).length c122_0)∧w'.cell? ⟨ad123.block,ad123.off+1,none⟩=some (.int .i64 (rd (rd_L9 t101 x10_1) 1))) (ds:=[]) #[false,false,false,false,false,false,false,false,false,false,false,false,false,false,false,false,false,false,false,false,false,false] zu rfl rfl ⟨hx122_0,hx123_0,((HB.out.cell (World.block_lt_of_cell? w _ hw124_0)).trans hw124_0),((HB.out.cell (World.block_lt_of_cell? w _ hw124_1)).trans hw124_1),hx125_0,hx126_0⟩ (fun hHeld=>?_);refine with_tabW spec_l25Text_e.tab17 spec_l25Text_e.bits17 (fun HT_ HW_=>?_)
               generalize w55.drew=w56 at HO_7 HB HL122_0 HL125_0 HR122_0 HR125_0 hx122_0 hx123_0 hx124_0 hx124_1 hx125_0 hx126_0 hHeld ⊢
               refine pA 0 67 ?_
               refine pA 1 68 ?_
               refine pA 2 69 ?_
               refine pA 3 70 ?_
               refine pA 4 71 ?_
               refine pA 11 78 ?_
               refine pA 12 79 ?_
               refine pA 13 80 ?_
               refine pT 5 72 rfl zac ?_
               refine pA 6 73 ?_
               refine pT 7 74 rfl zac ?_
               refine pA 8 75 ?_
               refine pA 9 76 ?_
               refine pT 10 77 rfl zac ?_
               refine pT 14 81 rfl zac ?_
               refine pA 15 82 ?_
               refine pT 16 83 rfl zac ?_
               refine pA 17 84 ?_
               refine one_ (i:=18) (N:=some 85) #[true,true,true,true,true,true,true,true,true,true,true,true,true,true,true,true,true,true,true,false,false,false] rfl rfl (one_of HT_.out zu) zbm (fun K hK=>?_)
               refine Kd.R_lit_step k67 _ 67 ?hg (N:=85) ?hd (xs:=([(⟨(rd_T67 l0 (rd (rd_L9 t101 x10_1) 0)).f0,rd (rd_L9 t101 x10_1) 1⟩:S67)]:List (S67))) (inner:=[.int .i64 ((rd_T67 l0 (rd (rd_L9 t101 x10_1) 0)).f0),.int .i64 (rd (rd_L9 t101 x10_1) 1)]) (ok:=fun _=>True) (okp:=fun _=>True) ?hr ?hp (fun _ hk=>hk) trivial (Below.refl _ _) (Nat.le_refl _) zbr ?_;(case hd=>rfl);(case hg=>rfl);(case hr=>exact zo);(case hp=>exact (Reps.c2 (show Kd.M k67 _ _ _ (⟨(rd_T67 l0 (rd (rd_L9 t101 x10_1) 0)).f0,rd (rd_L9 t101 x10_1) 1⟩:S67) [.int .i64 ((rd_T67 l0 (rd (rd_L9 t101 x10_1) 0)).f0),.int .i64 (rd (rd_L9 t101 x10_1) 1)] from (k67_mkM _ _ _ (⟨(rd_T67 l0 (rd (rd_L9 t101 x10_1) 0)).f0,rd (rd_L9 t101 x10_1) 1⟩:S67))) (Reps.none _ _)))
               intro v128 w57 ho58 hb hg_ hnew_
               have HS0_:=(hb.cell (World.block_lt_of_cell? _ _ (hHeld.1))).trans (hHeld.1)
               have HS1_:=(hb.cell (World.block_lt_of_cell? _ _ (hHeld.2.1))).trans (hHeld.2.1)
               have HS4_:=(hb.cell (World.block_lt_of_cell? _ _ (hHeld.2.2.2.2.1))).trans (hHeld.2.2.2.2.1)
               have HS5_:=(hb.cell (World.block_lt_of_cell? _ _ (hHeld.2.2.2.2.2))).trans (hHeld.2.2.2.2.2)
               clear hg_ hnew_
               (first|rw [←Ny127.out] at ho58|(simp only [Int.reduceToNat] at ho58;rw [←Ny127.out] at ho58))
               replace HO_7:=Aside0.mk (Kd.S_below zar hb)
               replace HL122_0:=Aside0.mk (Kd.R_below (by (with_reducible repeat (first|apply Kd.R_alloc|apply Kd.R_drewN|apply Kd.R_drew));exact HL122_0.out) hb)
               replace HL125_0:=Aside0.mk (Kd.R_below (by (with_reducible repeat (first|apply Kd.R_alloc|apply Kd.R_drewN|apply Kd.R_drew));exact HL125_0.out) hb)
               have HO129:=Aside0.mk (Kd.R_lower ho58 (below_size za))
               replace HR122_0:=Aside0.mk (Kd.C_below zco hb)
               replace HR125_0:=Aside0.mk (Kd.C_below zcp hb)
               replace HB:=Aside0.mk (below_step za hb)
               clear hb ho58
               obtain ⟨Ao59,co59,eo59⟩:=Kd.R_slice HO129.out
               (first|subst eo59|(injection eo59 with f1_ f2_ f3_;have f4_:=f1_.symm;have f5_:=f3_.symm;clear f1_ f2_ f3_;subst f4_;subst f5_))
               refine hK.out _ _ ⟨HS0_,HS1_,((HB.out.cell (World.block_lt_of_cell? w _ hw124_0)).trans hw124_0),((HB.out.cell (World.block_lt_of_cell? w _ hw124_1)).trans hw124_1),HS4_,HS5_⟩ (fun hHeld=>?_)
               clear hK K
               refine pN 85 ?_
               refine one_ (i:=19) (N:=some 86) #[true,true,true,true,true,true,true,true,true,true,true,true,true,true,true,true,true,true,true,true,false,false] rfl rfl (one_of HT_.out zu) zbm (fun K hK=>?_)
               refine goes_ Tryz.func139 zu rfl #[.slice Ao59 y127.length co59] (by rfl) rfl rfl zc ?_
               with_reducible refine (spec_l09Text.calls kj10 _ _ y127 t130 _ ?side1 ?side2 A53.out).mono ?_
               (case side1=>repeat (first|exact (Kd.R_reads' HO129.out).2.2|(with_reducible refine Kd.C_alloc ?_ _)|(with_reducible refine Kd.C_drewN ?_ _)|(with_reducible refine Kd.C_drew ?_)))
               (case side2=>exact (Kd.R_reads' HO129.out).2.1)
               rintro e w60 ⟨rfl,hb⟩
               have HS0_:=(hb.cell (World.block_lt_of_cell? _ _ (hHeld.1))).trans (hHeld.1)
               have HS1_:=(hb.cell (World.block_lt_of_cell? _ _ (hHeld.2.1))).trans (hHeld.2.1)
               have HS4_:=(hb.cell (World.block_lt_of_cell? _ _ (hHeld.2.2.2.2.1))).trans (hHeld.2.2.2.2.1)
               have HS5_:=(hb.cell (World.block_lt_of_cell? _ _ (hHeld.2.2.2.2.2))).trans (hHeld.2.2.2.2.2)
               refine ⟨_,rfl,?_⟩
               replace HO_7:=Aside0.mk (Kd.S_below zar hb)
               replace HL122_0:=Aside0.mk (Kd.R_below (by (with_reducible repeat (first|apply Kd.R_alloc|apply Kd.R_drewN|apply Kd.R_drew));exact HL122_0.out) hb)
               replace HL125_0:=Aside0.mk (Kd.R_below (by (with_reducible repeat (first|apply Kd.R_alloc|apply Kd.R_drewN|apply Kd.R_drew));exact HL125_0.out) hb)
               replace HO129:=Aside0.mk (Kd.R_below zby hb)
               replace HR122_0:=Aside0.mk (Kd.C_below zco hb)
               replace HR125_0:=Aside0.mk (Kd.C_below zcp hb)
               replace HB:=Aside0.mk (below_step za hb)
               (try clear hb)
               (try clear hb2)
               (try clear hk)
               (try clear hi)
               refine hK.out _ _ ⟨HS0_,HS1_,((HB.out.cell (World.block_lt_of_cell? w _ hw124_0)).trans hw124_0),((HB.out.cell (World.block_lt_of_cell? w _ hw124_1)).trans hw124_1),HS4_,HS5_⟩ (fun hHeld=>?_)
               clear hK K
               refine pN 86 ?_
               refine pA 20 87 ?_
               refine pA 21 8 ?_
               refine done_ (done_of HT_.out zu) ?_
               have p131:0≤(x10_1:Int):=of_decide_eq_true ze
               have q131:x10_1<(t101.length:Int):=of_decide_eq_true ze
               obtain ⟨ad131,A131_0,c131_0,e131,hx131_0,hl131_0,hi131_0⟩:=at_L9 (Kd.S_reads' HO_7.out).2.2 x10_1 p131 q131
               obtain rfl:ad122=ad131:=(by injection e131)
               obtain ⟨ce131,hce131,hMe131,hcc131⟩:=Kd.S_get HO_7.out [] x10_1 p131 (by first|exact q131|exact of_decide_eq_true ze|(have e_:=(Kd.S_reads' HO_7.out).1;omega))
               obtain ⟨ve131_0,rfl,ge131_0⟩:=hMe131
               have hv131_0:=hcc131 0 _ rfl
               rw [Nat.add_zero,show ((Kd.slice 2 (Kd.int .i64))).sz=1 from rfl,Nat.mul_one] at hv131_0
               replace hv131_0:=Option.some.inj (hv131_0.symm.trans hx131_0)
               rw [hv131_0] at ge131_0
               have HL131_0:=Aside0.mk (show Kd.R (Kd.int .i64) 2 _ _ _ _ (rd_L9 t101 x10_1) from ge131_0)
               clear hv131_0 ge131_0
               clear hcc131 hce131
               have HR131_0:=Aside0.mk hi131_0
               have HC131_0:=Aside0.mk hl131_0
               clear hi131_0 hl131_0
               replace p131:=eq_true p131
               replace q131:=eq_true q131
               have p132:0≤(1:Int):=zbd
               have q132:1<((rd_L9 t101 x10_1).length:Int):=of_decide_eq_true ze
               obtain ⟨ad132,e132,hx132_0⟩:=Kd.at_int (by repeat (first|(with_reducible exact HR131_0.out)|(with_reducible refine Kd.C_alloc ?_ _)|(with_reducible refine Kd.C_drewN ?_ _)|(with_reducible refine Kd.C_drew ?_)|exact HR131_0.out)) 1 p132 q132
               cases e132
               (try simp only [show (1:Int).toNat=1 from rfl,Nat.reduceMul,Nat.reduceEqDiff,Go.Addr.add,↓reduceIte] at hx132_0)
               have qi132:(1<(rd_L9 t101 x10_1).length)=True:=eq_true zbd
               (try rw [show ((1:Int)).toNat=1 from rfl] at hx132_0)
               replace p132:=eq_true p132
               replace q132:=eq_true q132
               try go_wp2
               go_roundg kj10
               case measure=>have:=HK1.out;have:=HJ10.out;omega
               case rel=>exact ⟨(x8_10++t130),(wrap64 (x9_1+(rd (rd_L9 t101 x10_1) 1))),(wrap64 (x10_1+1)),zf,zf,zf,H',⟨by have:=HK1.out;have:=HJ10.out;omega⟩,⟨zar⟩,⟨za⟩⟩
              ·rw [if_neg c54] at H
               exact absurd H zbr
             ·rw [if_neg c52] at H
              exact absurd H zbr
            ·rw [if_neg c51] at H
             exact absurd H zbr
           ·rw [if_neg c50] at H
            exact absurd H zbr
          ·rw [if_neg c49] at H
           exact absurd H zbr
         ·rw [if_neg c48] at H
          exact absurd H zbr
        ·rw [if_neg c47] at H
         exact absurd H zbr
    ·rw [if_neg c10] at H
     have c10b0:decide (x10_1<(t101.length:Int))=false:=decide_eq_false c10
     clear c10
     obtain rfl:=Option.some.inj H
     go_wp2
     go_ret
     exact ⟨zg,za⟩

def spec_l25Read_e.f (k:Nat) (a0:ByteArray) (l1:List (S50)) (a1i:Int) (a2:Int):Option ((List (S67)) × Int):=(spec_l25Long.f a0).bind fun t101=>(if t101=0 then ((spec_l25Tokens.f k a0).bind fun bt102=>(if bt102.2.2=true then ((spec_l09Ok.f k bt102.1).bind fun t109=>(if t109=true then ((spec_l25Split_e.f k bt102.1 l1 a1i a2).bind fun t110=>(if (t110.length:Int) > 128 then (some (([]:List (S67)),9)) else ((spec_l25Text_e.f k bt102.1 l1 a1i a2).bind fun t113=>(if t113.toList=a0.toList then (some (bt102.1,0)) else (some (([]:List (S67)),9)))))) else (some (([]:List (S67)),9)))) else (some (([]:List (S67)),8)))) else (some (([]:List (S67)),5)))
set_option maxHeartbeats 8000000 in
set_option maxRecDepth 100000 in
theorem spec_l25Read_e.calls (k:Nat) (a0:ByteArray) (ad1:Addr) (l1:List (S50)) (a1i:Int) (a2:Int) (r1:List (S67)) (r2:Int) (w:World) (hr1:Kd.C k50 w (some ad1) l1.length l1) (hp1:decide (0≤a1i)=true) (hq1:decide (a1i<(l1.length:Int))=true) (h:spec_l25Read_e.f k a0 l1 a1i a2=some (r1,r2)) :
 Calls Tryz.prog 69 #[.string a0,.pointer (some (ad1.add (a1i.toNat*3))),.int .i64 a2] w fun e w'=>∃v0_:Value,e = .returned (.tuple #[v0_,.int .i64 r2])∧Kd.R k67 67 w' w.heap.size (fun _=>True) v0_ r1∧Below w.heap.size w w':=by
 have HR1:=Aside0.mk hr1
 clear hr1
 have HB:=Aside0.mk (Below.refl w.heap.size w)
 have H:((spec_l25Long.f a0).bind fun t101=>(if t101=0 then ((spec_l25Tokens.f k a0).bind fun bt102=>(if bt102.2.2=true then ((spec_l09Ok.f k bt102.1).bind fun t109=>(if t109=true then ((spec_l25Split_e.f k bt102.1 l1 a1i a2).bind fun t110=>(if (t110.length:Int) > 128 then (some (([]:List (S67)),9)) else ((spec_l25Text_e.f k bt102.1 l1 a1i a2).bind fun t113=>(if t113.toList=a0.toList then (some (bt102.1,0)) else (some (([]:List (S67)),9)))))) else (some (([]:List (S67)),9)))) else (some (([]:List (S67)),8)))) else (some (([]:List (S67)),5))))=some (r1,r2):=h
 clear h
 replace H:=Option.bind_eq_some_iff.mp H
 obtain ⟨t101,A40,H⟩:=H
 replace H:(if t101=0 then ((spec_l25Tokens.f k a0).bind fun bt102=>(if bt102.2.2=true then ((spec_l09Ok.f k bt102.1).bind fun t109=>(if t109=true then ((spec_l25Split_e.f k bt102.1 l1 a1i a2).bind fun t110=>(if (t110.length:Int) > 128 then (some (([]:List (S67)),9)) else ((spec_l25Text_e.f k bt102.1 l1 a1i a2).bind fun t113=>(if t113.toList=a0.toList then (some (bt102.1,0)) else (some (([]:List (S67)),9)))))) else (some (([]:List (S67)),9)))) else (some (([]:List (S67)),8)))) else (some (([]:List (S67)),5)))=some (r1,r2):=H
 have A4:=Aside0.mk A40
 clear A40
 by_cases c5:t101=0
 ·rw [if_pos c5] at H
  have c5b0:(t101 == 0)=true:=beq_iff_eq.mpr c5
  have c5b1:(t101 != 0)=false:=bne_eq_false_iff_eq.mpr c5
  clear c5
  replace H:=Option.bind_eq_some_iff.mp H
  obtain ⟨⟨t102,t103,t104⟩,A60,H⟩:=H
  replace H:(if t104=true then ((spec_l09Ok.f k t102).bind fun t109=>(if t109=true then ((spec_l25Split_e.f k t102 l1 a1i a2).bind fun t110=>(if (t110.length:Int) > 128 then (some (([]:List (S67)),9)) else ((spec_l25Text_e.f k t102 l1 a1i a2).bind fun t113=>(if t113.toList=a0.toList then (some (t102,0)) else (some (([]:List (S67)),9)))))) else (some (([]:List (S67)),9)))) else (some (([]:List (S67)),8)))=some (r1,r2):=H
  have A6:=Aside0.mk A60
  clear A60
  by_cases c7:t104=true
  ·subst c7
   have H1:((spec_l09Ok.f k t102).bind fun t109=>(if t109=true then ((spec_l25Split_e.f k t102 l1 a1i a2).bind fun t110=>(if (t110.length:Int) > 128 then (some (([]:List (S67)),9)) else ((spec_l25Text_e.f k t102 l1 a1i a2).bind fun t113=>(if t113.toList=a0.toList then (some (t102,0)) else (some (([]:List (S67)),9)))))) else (some (([]:List (S67)),9))))=some (r1,r2):=by rw [if_pos rfl] at H;exact H
   clear H
   have H:=H1
   clear H1
   replace H:=Option.bind_eq_some_iff.mp H
   obtain ⟨t109,A80,H⟩:=H
   replace H:(if t109=true then ((spec_l25Split_e.f k t102 l1 a1i a2).bind fun t110=>(if (t110.length:Int) > 128 then (some (([]:List (S67)),9)) else ((spec_l25Text_e.f k t102 l1 a1i a2).bind fun t113=>(if t113.toList=a0.toList then (some (t102,0)) else (some (([]:List (S67)),9)))))) else (some (([]:List (S67)),9)))=some (r1,r2):=H
   have A8:=Aside0.mk A80
   clear A80
   by_cases c9:t109=true
   ·subst c9
    have H1:((spec_l25Split_e.f k t102 l1 a1i a2).bind fun t110=>(if (t110.length:Int) > 128 then (some (([]:List (S67)),9)) else ((spec_l25Text_e.f k t102 l1 a1i a2).bind fun t113=>(if t113.toList=a0.toList then (some (t102,0)) else (some (([]:List (S67)),9))))))=some (r1,r2):=by rw [if_pos rfl] at H;exact H
    clear H
    have H:=H1
    clear H1
    replace H:=Option.bind_eq_some_iff.mp H
    obtain ⟨t110,A100,H⟩:=H
    replace H:(if (t110.length:Int) > 128 then (some (([]:List (S67)),9)) else ((spec_l25Text_e.f k t102 l1 a1i a2).bind fun t113=>(if t113.toList=a0.toList then (some (t102,0)) else (some (([]:List (S67)),9)))))=some (r1,r2):=H
    have A10:=Aside0.mk A100
    clear A100
    by_cases c11:(t110.length:Int) > 128
    ·rw [if_pos c11] at H
     have c11b0:decide (128<(t110.length:Int))=true:=decide_eq_true c11
     have c11b1:decide (128<t110.length)=true:=decide_eq_true zbd
     clear c11
     simp only [Option.some.injEq,Prod.mk.injEq] at H
     obtain ⟨rfl,rfl⟩:=H
     go_enter Tryz.func69,Tryz.ntmps69
     go_wp2_with (first|((with_reducible refine gate_callee (f:=61) rfl ?_);refine goesL_ (some 12) rfl rfl Tryz.func61 zu rfl #[.string a0] rfl zc ?_;(with_reducible refine (spec_l25Long.calls a0 t101 _ A4.out).mono ?_);rintro e w' ⟨rfl,⟨nd,rfl⟩⟩;refine ⟨_,rfl,?_⟩)|((with_reducible refine gate_callee (f:=62) rfl ?_);refine goesL_ (some 16) rfl rfl Tryz.func62 zu rfl #[.string a0] rfl zc ?_;(with_reducible refine (spec_l25Tokens.calls k a0 t102 t103 true _ A6.out).mono ?_);rintro e w12 ⟨v105,v107,rfl,ho0,ho1,hb⟩;refine ⟨_,rfl,?_⟩;have HO106:=Aside0.mk (Kd.R_lower ho0 (below_size za));have HO108:=Aside0.mk (Kd.R_lower ho1 (below_size za));replace HB:=Aside0.mk (below_step za hb);(try clear hb);(try clear hb2);(try clear hk);(try clear hi);(try clear ho0);(try clear ho1);obtain ⟨Ao13,co13,eo13⟩:=Kd.R_slice HO106.out;subst eo13)|((with_reducible refine gate_callee (f:=75) rfl ?_);refine goesL_ (some 23) rfl rfl Tryz.func75 zu rfl #[.slice Ao13 t102.length co13] rfl zc ?_;(with_reducible refine (spec_l09Ok.calls k _ _ t102 true _ ?side1 ?side2 A8.out).mono ?_);(case side1=>exact zam);(case side2=>exact zdd);rintro e w' ⟨rfl,⟨nd,rfl⟩⟩;refine ⟨_,rfl,?_⟩)|(go_at_call 105;(with_reducible refine (spec_l25Split_e.calls k _ _ t102 _ l1 a1i a2 t110 _ ?side1 ?side2 ?side3 ?side4 ?side5 A10.out).mono ?_);(case side1=>exact zam);(case side2=>exact zdd);(case side3=>repeat (first|exact (Kd.C_below HR1.out za)|(with_reducible refine Kd.C_alloc ?_ _)|(with_reducible refine Kd.C_drewN ?_ _)|(with_reducible refine Kd.C_drew ?_)));(case side4=>first|(with_reducible assumption)|assumption|decide|exact decide_eq_true zbr|exact decide_eq_true zbd);(case side5=>first|(with_reducible assumption)|assumption|decide|exact decide_eq_true zbr|exact decide_eq_true zbd);rintro e w14 ⟨v111,rfl,ho0,hb⟩;have n0_:=Aside0.mk (Kd.R_below zab hb);have n1_:=Aside0.mk (Kd.R_below zbo hb);have n2_:=Aside0.mk (Kd.S_lower (Kd.S_new' ho0 (Kd.R_lt zbo)) (below_size za));have n3_:=Aside0.mk (below_step za hb);clear HO106;clear HO108;clear HB;have HO106:=n0_;have HO108:=n1_;have HO112:=n2_;have HB:=n3_;clear n0_ n1_ n2_ n3_;(try clear hb);(try clear hb2);(try clear hk);(try clear hi);(try clear ho0);obtain ⟨Ao15,co15,eo15⟩:=Kd.S_slice HO112.out;subst eo15))
     go_ret2
     exact ⟨_,zg,zl,za⟩
    ·rw [if_neg c11] at H
     have c11b0:decide (128<(t110.length:Int))=false:=decide_eq_false c11
     have c11b1:decide (128<t110.length)=false:=decide_eq_false zbd
     clear c11
     replace H:=Option.bind_eq_some_iff.mp H
     obtain ⟨t113,A160,H⟩:=H
     replace H:(if t113.toList=a0.toList then (some (t102,0)) else (some (([]:List (S67)),9)))=some (r1,r2):=H
     have A16:=Aside0.mk A160
     clear A160
     by_cases c17:t113.toList=a0.toList
     ·rw [if_pos c17] at H
      have c17b0:(t113.toList == a0.toList)=true:=beq_iff_eq.mpr c17
      have c17b1:(t113.toList != a0.toList)=false:=bne_eq_false_iff_eq.mpr c17
      clear c17
      simp only [Option.some.injEq,Prod.mk.injEq] at H
      obtain ⟨rfl,rfl⟩:=H
      go_enter Tryz.func69,Tryz.ntmps69
      go_wp2_with (first|((with_reducible refine gate_callee (f:=61) rfl ?_);refine goesL_ (some 12) rfl rfl Tryz.func61 zu rfl #[.string a0] rfl zc ?_;(with_reducible refine (spec_l25Long.calls a0 t101 _ A4.out).mono ?_);rintro e w' ⟨rfl,⟨nd,rfl⟩⟩;refine ⟨_,rfl,?_⟩)|((with_reducible refine gate_callee (f:=62) rfl ?_);refine goesL_ (some 16) rfl rfl Tryz.func62 zu rfl #[.string a0] rfl zc ?_;(with_reducible refine (spec_l25Tokens.calls k a0 t102 t103 true _ A6.out).mono ?_);rintro e w18 ⟨v105,v107,rfl,ho0,ho1,hb⟩;refine ⟨_,rfl,?_⟩;have HO106:=Aside0.mk (Kd.R_lower ho0 (below_size za));have HO108:=Aside0.mk (Kd.R_lower ho1 (below_size za));replace HB:=Aside0.mk (below_step za hb);(try clear hb);(try clear hb2);(try clear hk);(try clear hi);(try clear ho0);(try clear ho1);obtain ⟨Ao19,co19,eo19⟩:=Kd.R_slice HO106.out;subst eo19)|((with_reducible refine gate_callee (f:=75) rfl ?_);refine goesL_ (some 23) rfl rfl Tryz.func75 zu rfl #[.slice Ao19 t102.length co19] rfl zc ?_;(with_reducible refine (spec_l09Ok.calls k _ _ t102 true _ ?side1 ?side2 A8.out).mono ?_);(case side1=>exact zam);(case side2=>exact zdd);rintro e w' ⟨rfl,⟨nd,rfl⟩⟩;refine ⟨_,rfl,?_⟩)|(go_at_call 105;(with_reducible refine (spec_l25Split_e.calls k _ _ t102 _ l1 a1i a2 t110 _ ?side1 ?side2 ?side3 ?side4 ?side5 A10.out).mono ?_);(case side1=>exact zam);(case side2=>exact zdd);(case side3=>repeat (first|exact (Kd.C_below HR1.out za)|(with_reducible refine Kd.C_alloc ?_ _)|(with_reducible refine Kd.C_drewN ?_ _)|(with_reducible refine Kd.C_drew ?_)));(case side4=>first|(with_reducible assumption)|assumption|decide|exact decide_eq_true zbr|exact decide_eq_true zbd);(case side5=>first|(with_reducible assumption)|assumption|decide|exact decide_eq_true zbr|exact decide_eq_true zbd);rintro e w20 ⟨v111,rfl,ho0,hb⟩;have n0_:=Aside0.mk (Kd.R_below zab hb);have n1_:=Aside0.mk (Kd.R_below zbo hb);have n2_:=Aside0.mk (Kd.S_lower (Kd.S_new' ho0 (Kd.R_lt zbo)) (below_size za));have n3_:=Aside0.mk (below_step za hb);clear HO106;clear HO108;clear HB;have HO106:=n0_;have HO108:=n1_;have HO112:=n2_;have HB:=n3_;clear n0_ n1_ n2_ n3_;(try clear hb);(try clear hb2);(try clear hk);(try clear hi);(try clear ho0);obtain ⟨Ao21,co21,eo21⟩:=Kd.S_slice HO112.out;subst eo21)|(go_at_call 106;(with_reducible refine (spec_l25Text_e.calls k _ _ t102 _ l1 a1i a2 t113 _ ?side1 ?side2 ?side3 ?side4 ?side5 A16.out).mono ?_);(case side1=>exact zam);(case side2=>exact zdd);(case side3=>exact zbq);(case side4=>first|(with_reducible assumption)|assumption|decide|exact decide_eq_true zbr|exact decide_eq_true zbd);(case side5=>first|(with_reducible assumption)|assumption|decide|exact decide_eq_true zbr|exact decide_eq_true zbd);rintro e w22 ⟨rfl,hb⟩;replace HO106:=Aside0.mk (Kd.R_below zab hb);replace HO108:=Aside0.mk (Kd.R_below zbo hb);replace HO112:=Aside0.mk (Kd.S_below (by (with_reducible repeat (first|apply Kd.S_alloc|apply Kd.S_drewN|apply Kd.S_drew));exact HO112.out) hb);replace HB:=Aside0.mk (below_step za hb);(try clear hb);(try clear hb2);(try clear hk);(try clear hi)))
      go_ret2
      exact ⟨_,zg,zab,za⟩
     ·rw [if_neg c17] at H
      have c17b0:(t113.toList == a0.toList)=false:=beq_eq_false_iff_ne.mpr c17
      have c17b1:(t113.toList != a0.toList)=true:=bne_iff_ne.mpr c17
      simp only [Option.some.injEq,Prod.mk.injEq] at H
      obtain ⟨rfl,rfl⟩:=H
      go_enter Tryz.func69,Tryz.ntmps69
      go_wp2_with (first|((with_reducible refine gate_callee (f:=61) rfl ?_);refine goesL_ (some 12) rfl rfl Tryz.func61 zu rfl #[.string a0] rfl zc ?_;(with_reducible refine (spec_l25Long.calls a0 t101 _ A4.out).mono ?_);rintro e w' ⟨rfl,⟨nd,rfl⟩⟩;refine ⟨_,rfl,?_⟩)|((with_reducible refine gate_callee (f:=62) rfl ?_);refine goesL_ (some 16) rfl rfl Tryz.func62 zu rfl #[.string a0] rfl zc ?_;(with_reducible refine (spec_l25Tokens.calls k a0 t102 t103 true _ A6.out).mono ?_);rintro e w23 ⟨v105,v107,rfl,ho0,ho1,hb⟩;refine ⟨_,rfl,?_⟩;have HO106:=Aside0.mk (Kd.R_lower ho0 (below_size za));have HO108:=Aside0.mk (Kd.R_lower ho1 (below_size za));replace HB:=Aside0.mk (below_step za hb);(try clear hb);(try clear hb2);(try clear hk);(try clear hi);(try clear ho0);(try clear ho1);obtain ⟨Ao24,co24,eo24⟩:=Kd.R_slice HO106.out;subst eo24)|((with_reducible refine gate_callee (f:=75) rfl ?_);refine goesL_ (some 23) rfl rfl Tryz.func75 zu rfl #[.slice Ao24 t102.length co24] rfl zc ?_;(with_reducible refine (spec_l09Ok.calls k _ _ t102 true _ ?side1 ?side2 A8.out).mono ?_);(case side1=>exact zam);(case side2=>exact zdd);rintro e w' ⟨rfl,⟨nd,rfl⟩⟩;refine ⟨_,rfl,?_⟩)|(go_at_call 105;(with_reducible refine (spec_l25Split_e.calls k _ _ t102 _ l1 a1i a2 t110 _ ?side1 ?side2 ?side3 ?side4 ?side5 A10.out).mono ?_);(case side1=>exact zam);(case side2=>exact zdd);(case side3=>repeat (first|exact (Kd.C_below HR1.out za)|(with_reducible refine Kd.C_alloc ?_ _)|(with_reducible refine Kd.C_drewN ?_ _)|(with_reducible refine Kd.C_drew ?_)));(case side4=>first|(with_reducible assumption)|assumption|decide|exact decide_eq_true zbr|exact decide_eq_true zbd);(case side5=>first|(with_reducible assumption)|assumption|decide|exact decide_eq_true zbr|exact decide_eq_true zbd);rintro e w25 ⟨v111,rfl,ho0,hb⟩;have n0_:=Aside0.mk (Kd.R_below zab hb);have n1_:=Aside0.mk (Kd.R_below zbo hb);have n2_:=Aside0.mk (Kd.S_lower (Kd.S_new' ho0 (Kd.R_lt zbo)) (below_size za));have n3_:=Aside0.mk (below_step za hb);clear HO106;clear HO108;clear HB;have HO106:=n0_;have HO108:=n1_;have HO112:=n2_;have HB:=n3_;clear n0_ n1_ n2_ n3_;(try clear hb);(try clear hb2);(try clear hk);(try clear hi);(try clear ho0);obtain ⟨Ao26,co26,eo26⟩:=Kd.S_slice HO112.out;subst eo26)|(go_at_call 106;(with_reducible refine (spec_l25Text_e.calls k _ _ t102 _ l1 a1i a2 t113 _ ?side1 ?side2 ?side3 ?side4 ?side5 A16.out).mono ?_);(case side1=>exact zam);(case side2=>exact zdd);(case side3=>exact zbq);(case side4=>first|(with_reducible assumption)|assumption|decide|exact decide_eq_true zbr|exact decide_eq_true zbd);(case side5=>first|(with_reducible assumption)|assumption|decide|exact decide_eq_true zbr|exact decide_eq_true zbd);rintro e w27 ⟨rfl,hb⟩;replace HO106:=Aside0.mk (Kd.R_below zab hb);replace HO108:=Aside0.mk (Kd.R_below zbo hb);replace HO112:=Aside0.mk (Kd.S_below (by (with_reducible repeat (first|apply Kd.S_alloc|apply Kd.S_drewN|apply Kd.S_drew));exact HO112.out) hb);replace HB:=Aside0.mk (below_step za hb);(try clear hb);(try clear hb2);(try clear hk);(try clear hi)))
      go_ret2
      exact ⟨_,zg,zl,za⟩
   ·replace c9:=Bool.eq_false_iff.mpr c9
    subst c9
    have H1:(some (([]:List (S67)),9))=some (r1,r2):=by rw [if_neg (show ¬ (false=true) by decide)] at H;exact H
    clear H
    have H:=H1
    clear H1
    simp only [Option.some.injEq,Prod.mk.injEq] at H
    obtain ⟨rfl,rfl⟩:=H
    go_enter Tryz.func69,Tryz.ntmps69
    go_wp2_with (first|((with_reducible refine gate_callee (f:=61) rfl ?_);refine goesL_ (some 12) rfl rfl Tryz.func61 zu rfl #[.string a0] rfl zc ?_;(with_reducible refine (spec_l25Long.calls a0 t101 _ A4.out).mono ?_);rintro e w' ⟨rfl,⟨nd,rfl⟩⟩;refine ⟨_,rfl,?_⟩)|((with_reducible refine gate_callee (f:=62) rfl ?_);refine goesL_ (some 16) rfl rfl Tryz.func62 zu rfl #[.string a0] rfl zc ?_;(with_reducible refine (spec_l25Tokens.calls k a0 t102 t103 true _ A6.out).mono ?_);rintro e w28 ⟨v105,v107,rfl,ho0,ho1,hb⟩;refine ⟨_,rfl,?_⟩;have HO106:=Aside0.mk (Kd.R_lower ho0 (below_size za));have HO108:=Aside0.mk (Kd.R_lower ho1 (below_size za));replace HB:=Aside0.mk (below_step za hb);(try clear hb);(try clear hb2);(try clear hk);(try clear hi);(try clear ho0);(try clear ho1);obtain ⟨Ao29,co29,eo29⟩:=Kd.R_slice HO106.out;subst eo29)|((with_reducible refine gate_callee (f:=75) rfl ?_);refine goesL_ (some 23) rfl rfl Tryz.func75 zu rfl #[.slice Ao29 t102.length co29] rfl zc ?_;(with_reducible refine (spec_l09Ok.calls k _ _ t102 false _ ?side1 ?side2 A8.out).mono ?_);(case side1=>exact zam);(case side2=>exact zdd);rintro e w' ⟨rfl,⟨nd,rfl⟩⟩;refine ⟨_,rfl,?_⟩))
    go_ret2
    exact ⟨_,zg,zl,za⟩
  ·replace c7:=Bool.eq_false_iff.mpr c7
   subst c7
   have H1:(some (([]:List (S67)),8))=some (r1,r2):=by rw [if_neg (show ¬ (false=true) by decide)] at H;exact H
   clear H
   have H:=H1
   clear H1
   simp only [Option.some.injEq,Prod.mk.injEq] at H
   obtain ⟨rfl,rfl⟩:=H
   go_enter Tryz.func69,Tryz.ntmps69
   go_wp2_with (first|((with_reducible refine gate_callee (f:=61) rfl ?_);refine goesL_ (some 12) rfl rfl Tryz.func61 zu rfl #[.string a0] rfl zc ?_;(with_reducible refine (spec_l25Long.calls a0 t101 _ A4.out).mono ?_);rintro e w' ⟨rfl,⟨nd,rfl⟩⟩;refine ⟨_,rfl,?_⟩)|((with_reducible refine gate_callee (f:=62) rfl ?_);refine goesL_ (some 16) rfl rfl Tryz.func62 zu rfl #[.string a0] rfl zc ?_;(with_reducible refine (spec_l25Tokens.calls k a0 t102 t103 false _ A6.out).mono ?_);rintro e w30 ⟨v105,v107,rfl,ho0,ho1,hb⟩;refine ⟨_,rfl,?_⟩;have HO106:=Aside0.mk (Kd.R_lower ho0 (below_size za));have HO108:=Aside0.mk (Kd.R_lower ho1 (below_size za));replace HB:=Aside0.mk (below_step za hb);(try clear hb);(try clear hb2);(try clear hk);(try clear hi);(try clear ho0);(try clear ho1)))
   go_ret2
   exact ⟨_,zg,zl,za⟩
 ·rw [if_neg c5] at H
  have c5b0:(t101 == 0)=false:=beq_eq_false_iff_ne.mpr c5
  have c5b1:(t101 != 0)=true:=bne_iff_ne.mpr c5
  simp only [Option.some.injEq,Prod.mk.injEq] at H
  obtain ⟨rfl,rfl⟩:=H
  go_enter Tryz.func69,Tryz.ntmps69
  go_wp2_with (first|((with_reducible refine gate_callee (f:=61) rfl ?_);refine goesL_ (some 12) rfl rfl Tryz.func61 zu rfl #[.string a0] rfl zc ?_;(with_reducible refine (spec_l25Long.calls a0 t101 _ A4.out).mono ?_);rintro e w' ⟨rfl,⟨nd,rfl⟩⟩;refine ⟨_,rfl,?_⟩))
  go_ret2
  exact ⟨_,zg,zl,za⟩

def spec_ReadBars.f (k:Nat) (a0:ByteArray) (a1_0:ByteArray) (l1_1:List Int) (l1_2:List Int) (a2:Int):Option ((List (S67)) × Int):=(spec_l25Tala_e.f k [(⟨a1_0,l1_1,l1_2⟩:S50)] 0 a2).bind fun t102=>(if t102=0 then ((spec_l25Read_e.f k a0 [(⟨a1_0,l1_1,l1_2⟩:S50)] 0 a2).bind fun bt103=>(some (bt103.1,bt103.2))) else (some (([]:List (S67)),t102)))
set_option maxHeartbeats 8000000 in
set_option maxRecDepth 100000 in
theorem spec_ReadBars.calls (k:Nat) (a0:ByteArray) (a1_0:ByteArray) (A1_1:Option Addr) (c1_1:Nat) (l1_1:List Int) (A1_2:Option Addr) (c1_2:Nat) (l1_2:List Int) (a2:Int) (r1:List (S67)) (r2:Int) (w:World) (hr1_1:Kd.C (Kd.int .i64) w A1_1 l1_1.length l1_1) (hc1_1:l1_1.length≤c1_1) (hr1_2:Kd.C (Kd.int .i64) w A1_2 l1_2.length l1_2) (hc1_2:l1_2.length≤c1_2) (h:spec_ReadBars.f k a0 a1_0 l1_1 l1_2 a2=some (r1,r2)) :
 Calls Tryz.prog 30 #[.string a0,.agg #[.string a1_0,.slice A1_1 l1_1.length c1_1,.slice A1_2 l1_2.length c1_2],.int .i64 a2] w fun e w'=>∃v0_:Value,e = .returned (.tuple #[v0_,.int .i64 r2])∧Kd.R k67 67 w' w.heap.size (fun _=>True) v0_ r1∧Below w.heap.size w w':=by
 have hu50:=Tryz.underlying50
 have HR1_1:=Aside0.mk hr1_1
 have HC1_1:=Aside0.mk hc1_1
 clear hr1_1 hc1_1
 have HR1_2:=Aside0.mk hr1_2
 have HC1_2:=Aside0.mk hc1_2
 clear hr1_2 hc1_2
 have HB:=Aside0.mk (Below.refl w.heap.size w)
 have H:((spec_l25Tala_e.f k [(⟨a1_0,l1_1,l1_2⟩:S50)] 0 a2).bind fun t102=>(if t102=0 then ((spec_l25Read_e.f k a0 [(⟨a1_0,l1_1,l1_2⟩:S50)] 0 a2).bind fun bt103=>(some (bt103.1,bt103.2))) else (some (([]:List (S67)),t102))))=some (r1,r2):=h
 clear h
 replace H:=Option.bind_eq_some_iff.mp H
 obtain ⟨t102,A40,H⟩:=H
 replace H:(if t102=0 then ((spec_l25Read_e.f k a0 [(⟨a1_0,l1_1,l1_2⟩:S50)] 0 a2).bind fun bt103=>(some (bt103.1,bt103.2))) else (some (([]:List (S67)),t102)))=some (r1,r2):=H
 have A4:=Aside0.mk A40
 clear A40
 by_cases c5:t102=0
 ·rw [if_pos c5] at H
  have c5b0:(t102 == 0)=true:=beq_iff_eq.mpr c5
  have c5b1:(t102 != 0)=false:=bne_eq_false_iff_eq.mpr c5
  clear c5
  replace H:=Option.bind_eq_some_iff.mp H
  obtain ⟨⟨t103,t104⟩,A60,H⟩:=H
  replace H:(some (t103,t104))=some (r1,r2):=H
  have A6:=Aside0.mk A60
  clear A60
  simp only [Option.some.injEq,Prod.mk.injEq] at H
  obtain ⟨rfl,rfl⟩:=H
  go_enter Tryz.func30,Tryz.ntmps30
  go_wp2_with (first|((with_reducible refine gate_dst (N:=4) rfl ?_);refine box_event ?hg (N:=4) ?hd (cs:=#[.string a1_0,.slice A1_1 l1_1.length c1_1,.slice A1_2 l1_2.length c1_2]) (t:=50) ?hr ?_;(case hd=>rfl);(case hg=>rfl);(case hr=>exact zo);intro gb101 hg w7 hbox hb;have n0_:=Aside0.mk (below_step za hb);have n1_:=Aside0.mk (hbox);have n2_:=Aside0.mk ((by rw [hg];exact (below_size za):w.heap.size≤gb101));have n3_:=Aside0.mk ((by rw [hg];exact (below_size za):w.heap.size≤gb101));clear HB;have HB:=n0_;have BK101:=n1_;have GW101:=n2_;have GE101:=n3_;clear n0_ n1_ n2_ n3_;clear hb hbox hg)|((with_reducible refine gate_callee (f:=66) rfl ?_);refine goesL_ (some 10) rfl rfl Tryz.func66 zu rfl #[.pointer (some ((⟨gb101,0,none⟩:Addr).add ((0:Int).toNat*3))),.int .i64 a2] rfl zc ?_;(with_reducible refine (spec_l25Tala_e.calls k _ [(⟨a1_0,l1_1,l1_2⟩:S50)] 0 a2 t102 _ ?side1 ?side2 ?side3 A4.out).mono ?_);(case side1=>exact box_C (ca:=#[.string a1_0,.slice A1_1 l1_1.length c1_1,.slice A1_2 l1_2.length c1_2]) (t:=50) zd rfl _ (k50_mk _ _ (by exact HC1_1.out) zm (by exact HC1_2.out) zn));(case side2=>first|(with_reducible assumption)|assumption|decide|exact decide_eq_true zbr|exact decide_eq_true zbd);(case side3=>first|(with_reducible assumption)|assumption|decide|exact decide_eq_true zbr|exact decide_eq_true zbd);rintro e w8 ⟨rfl,hb⟩;refine ⟨_,rfl,?_⟩;replace BK101:=Aside0.mk (blk_below (g:=gb101) (o:=.cells #[.string a1_0,.slice A1_1 l1_1.length c1_1,.slice A1_2 l1_2.length c1_2] 50 (0,0)) zd hb);replace HB:=Aside0.mk (below_step zb hb);(try clear hb);(try clear hb2);(try clear hk);(try clear hi))|((with_reducible refine gate_callee (f:=69) rfl ?_);refine goesL_ (some 16) rfl rfl Tryz.func69 zu rfl #[.string a0,.pointer (some ((⟨gb101,0,none⟩:Addr).add ((0:Int).toNat*3))),.int .i64 a2] rfl zc ?_;(with_reducible refine (spec_l25Read_e.calls k a0 _ [(⟨a1_0,l1_1,l1_2⟩:S50)] 0 a2 t103 t104 _ ?side1 ?side2 ?side3 A6.out).mono ?_);(case side1=>exact box_C (ca:=#[.string a1_0,.slice A1_1 l1_1.length c1_1,.slice A1_2 l1_2.length c1_2]) (t:=50) zd rfl _ (k50_mk _ _ (by exact HC1_1.out) zm (by exact HC1_2.out) zn));(case side2=>first|(with_reducible assumption)|assumption|decide|exact decide_eq_true zbr|exact decide_eq_true zbd);(case side3=>first|(with_reducible assumption)|assumption|decide|exact decide_eq_true zbr|exact decide_eq_true zbd);rintro e w9 ⟨v105,rfl,ho0,hb⟩;refine ⟨_,rfl,?_⟩;have HO106:=Aside0.mk (Kd.R_lower ho0 (below_size zb));replace BK101:=Aside0.mk (blk_below (g:=gb101) (o:=.cells #[.string a1_0,.slice A1_1 l1_1.length c1_1,.slice A1_2 l1_2.length c1_2] 50 (0,0)) zd hb);replace HB:=Aside0.mk (below_step zb hb);(try clear hb);(try clear hb2);(try clear hk);(try clear hi);(try clear ho0)))
  go_ret2
  exact ⟨_,zg,zab,zb⟩
 ·rw [if_neg c5] at H
  have c5b0:(t102 == 0)=false:=beq_eq_false_iff_ne.mpr c5
  have c5b1:(t102 != 0)=true:=bne_iff_ne.mpr c5
  simp only [Option.some.injEq,Prod.mk.injEq] at H
  obtain ⟨rfl,rfl⟩:=H
  go_enter Tryz.func30,Tryz.ntmps30
  go_wp2_with (first|((with_reducible refine gate_dst (N:=4) rfl ?_);refine box_event ?hg (N:=4) ?hd (cs:=#[.string a1_0,.slice A1_1 l1_1.length c1_1,.slice A1_2 l1_2.length c1_2]) (t:=50) ?hr ?_;(case hd=>rfl);(case hg=>rfl);(case hr=>exact zo);intro gb101 hg w10 hbox hb;have n0_:=Aside0.mk (below_step za hb);have n1_:=Aside0.mk (hbox);have n2_:=Aside0.mk ((by rw [hg];exact (below_size za):w.heap.size≤gb101));have n3_:=Aside0.mk ((by rw [hg];exact (below_size za):w.heap.size≤gb101));clear HB;have HB:=n0_;have BK101:=n1_;have GW101:=n2_;have GE101:=n3_;clear n0_ n1_ n2_ n3_;clear hb hbox hg)|((with_reducible refine gate_callee (f:=66) rfl ?_);refine goesL_ (some 10) rfl rfl Tryz.func66 zu rfl #[.pointer (some ((⟨gb101,0,none⟩:Addr).add ((0:Int).toNat*3))),.int .i64 a2] rfl zc ?_;(with_reducible refine (spec_l25Tala_e.calls k _ [(⟨a1_0,l1_1,l1_2⟩:S50)] 0 a2 t102 _ ?side1 ?side2 ?side3 A4.out).mono ?_);(case side1=>exact box_C (ca:=#[.string a1_0,.slice A1_1 l1_1.length c1_1,.slice A1_2 l1_2.length c1_2]) (t:=50) zd rfl _ (k50_mk _ _ (by exact HC1_1.out) zm (by exact HC1_2.out) zn));(case side2=>first|(with_reducible assumption)|assumption|decide|exact decide_eq_true zbr|exact decide_eq_true zbd);(case side3=>first|(with_reducible assumption)|assumption|decide|exact decide_eq_true zbr|exact decide_eq_true zbd);rintro e w11 ⟨rfl,hb⟩;refine ⟨_,rfl,?_⟩;replace BK101:=Aside0.mk (blk_below (g:=gb101) (o:=.cells #[.string a1_0,.slice A1_1 l1_1.length c1_1,.slice A1_2 l1_2.length c1_2] 50 (0,0)) zd hb);replace HB:=Aside0.mk (below_step zb hb);(try clear hb);(try clear hb2);(try clear hk);(try clear hi)))
  go_ret2
  exact ⟨_,zg,zl,zb⟩
end Go.Proofs.YtmoamoopoifnlaaGreatDoor.P

namespace Go.Proofs.YtmoamoopoifnlaaGreatDoor.P
open Go.RowKit
theorem var_keep {P : Program} {w w' : World} {n : String} {cs : Array Value} (hb : Below w.heap.size w w') (h : w.var? P n = some cs) : w'.var? P n = some cs := by
  unfold World.var? at h ⊢
  cases hg : P.globalNamed n with
  | none => simp [hg] at h
  | some g =>
    simp only [hg, Option.bind_some] at h ⊢
    have hlt : g < w.heap.size := by
      rcases Nat.lt_or_ge g w.heap.size with h' | h'
      · exact h'
      · simp [Array.getElem?_eq_none h'] at h
    rw [hb.block g hlt]
    exact h
/-- The table of powers of ten reads as the program's text lays it. -/
structure Door1 (w : World) : Prop where
  tab : Lib.TabIs Tryz.prog w "internal/strconv.uint64pow10" .u64 Lib.pow10Tab
theorem Door1.at {w w' : World} (h : Door1 w) (hb : Below w.heap.size w w') : Door1 w' := ⟨var_keep hb h.tab⟩
/-- And the two errors of strconv, and the bound of the search. -/
structure Door2 (w : World) : Prop where
  one : Door1 w
  syn : ∃ tp p, w.var? Tryz.prog "strconv.ErrSyntax" = some #[.iface tp p]
  ran : ∃ tp p, w.var? Tryz.prog "strconv.ErrRange" = some #[.iface tp p]
  ml : ∀ g, Tryz.prog.globalNamed "internal/bytealg.MaxLen" = some g → ∃ m, w.cell? ⟨g, 0, none⟩ = some (.int .i64 m)
theorem Door2.at {w w' : World} (h : Door2 w) (hb : Below w.heap.size w w') : Door2 w' :=
  ⟨Door1.at h.one hb, let ⟨t, p, e⟩ := h.syn; ⟨t, p, var_keep hb e⟩, let ⟨t, p, e⟩ := h.ran; ⟨t, p, var_keep hb e⟩, fun g hg => let ⟨m, e⟩ := h.ml g hg; ⟨m, by
    rw [hb.cell (World.block_lt_of_cell? _ _ e)]; exact e⟩⟩
end Go.Proofs.YtmoamoopoifnlaaGreatDoor.P
