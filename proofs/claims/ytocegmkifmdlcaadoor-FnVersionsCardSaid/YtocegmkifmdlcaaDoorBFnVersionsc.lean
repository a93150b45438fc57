/- Part c of what FnVersions stands on: functions of the program as Lean functions with their walks, and plain lemmas. -/
import Derived.Test.YtocegmkifmdlcaaDoorBFnVersionsa
import Derived.Lib.Hide
import Derived.Test.YtocegmkifmdlcaaDoorK
import Derived.Test.YtocegmkifmdlcaaDoorBFnVersionsb
import Derived.Lib.LaidTab
import Derived.Lib.ItoaNum
import Derived.Shelf.LaysM
import Derived.Test.YtocegmkifmdlcaaDoorProg
import Derived.Shelf.Strconv.Itoa4
import Derived.Lib.AppendIntMem
namespace Go.Proofs.YtocegmkifmdlcaaDoor.P
open Go.RowKit Go.Proofs.YtocegmkifmdlcaaDoorW.PrintWords Go.Proofs.YtocegmkifmdlcaaDoorW.PrintLast Go.Proofs.YtocegmkifmdlcaaDoorW.PrintMore
attribute [local go_sem] max2_int min2_int max_two min_two max_three min_three max_four min_four str_leq str_gtr str_geq
set_option linter.unusedVariables false
set_option linter.unusedSimpArgs false
def impl_allWithin.p (a1 a2 n:Int):Bool:=!decide (a1≤n) || !decide (n≤a2)
def impl_allWithin.f (l0:List Int) (a1:Int) (a2:Int):Option (Bool):=some (!(l0.any (impl_allWithin.p a1 a2)))
theorem impl_allWithin.within (x lo hi:Int):impl_within.f x lo hi=some (decide (lo≤x)&&decide (x≤hi)):=by
 unfold impl_within.f
 by_cases h:x≥lo
 ·rw [if_pos h];simp [ge_iff_le.1 h]
 ·rw [if_neg h]
  have h':¬ lo≤x:=h
  simp [h']
theorem impl_allWithin.clo (x lo hi:Int) (b1 b2:Nat) (w:World) (h1:w.cell? ⟨b1,0,none⟩=some (.int .i64 lo)) (h2:w.cell? ⟨b2,0,none⟩=some (.int .i64 hi)) :
 Calls Tryd.prog 71 #[.int .i64 x,.pointer (some ⟨b1,0,none⟩),.pointer (some ⟨b2,0,none⟩)] w fun e w'=>e = .returned (.bool (impl_allWithin.p lo hi x))∧Below w.heap.size w w':=by
 go_enter Tryd.func71,Tryd.ntmps71
 go_wp2_with (go_at_call 37;refine (impl_within.calls x lo hi _ _ (impl_allWithin.within x lo hi)).mono ?_;rintro e w' ⟨rfl,⟨nd,rfl⟩⟩)
 go_ret
 exact ⟨rfl,pw_below_drewN (Below.refl _ _) nd⟩
theorem impl_allWithin.below_cell {w W:World} (hb:Below w.heap.size w W) {b:Nat} {v:Value} (h:w.cell? ⟨b,0,none⟩=some v):W.cell? ⟨b,0,none⟩=some v:=(hb.cell (World.block_lt_of_cell? w _ h)).trans h
set_option maxHeartbeats 1600000 in
set_option maxRecDepth 100000 in
theorem impl_allWithin.idx (A0:Option Addr) (c0:Nat) (l0:List Int) (lo hi:Int) (b1 b2:Nat) (w:World) (hr0:Kd.C (Kd.int .i64) w A0 l0.length l0) (h1:w.cell? ⟨b1,0,none⟩=some (.int .i64 lo)) (h2:w.cell? ⟨b2,0,none⟩=some (.int .i64 hi)) :
 Calls Tryd.prog 76 #[.slice A0 l0.length c0,.func (.func 71) #[] #[.pointer (some ⟨b1,0,none⟩),.pointer (some ⟨b2,0,none⟩)]] w fun e w'=>∃n:Int,e = .returned (.int .i64 n)∧(l0.any (impl_allWithin.p lo hi)=decide (0≤n))∧Below w.heap.size w w':=by
 have hlen:l0.length≤9223372036854775807:=hr0.2.1
 have HR:=Aside0.mk hr0
 clear hr0
 have H1:=Aside0.mk h1
 have H2:=Aside0.mk h2
 clear h1 h2
 go_enter Tryd.func76,Tryd.ntmps76
 go_wp2_with fail
 go_loopw [8] (fun i wr=>∃k:Nat,k≤l0.length∧i = .int .i64 k∧Aside0 (∀j,j<k→impl_allWithin.p lo hi (l0.getD j 0)=false)∧Aside0 (Below w.heap.size w wr)) (fun i _=>l0.length - (intOf i).toNat)
 case atStart=>exact ⟨0,Nat.zero_le _,rfl,⟨fun j hj=>by omega⟩,⟨Below.refl _ _⟩⟩
 case round=>
  obtain ⟨k,hk,rfl,HN,HB⟩:=hrel
  by_cases hlt:k<l0.length
  ·obtain ⟨ad,rfl,hx⟩:=Kd.at_int HR.out (k:Int) zbn zbn
   have hx2:wr.cell? (ad.add k)=some (.int .i64 (rd l0 k)):=by
    have:=(HB.out.cell (World.block_lt_of_cell? w _ hx)).trans hx
    simpa using this
   have hg:=(impl_allWithin.clo (rd l0 k) lo hi b1 b2 wr (impl_allWithin.below_cell HB.out H1.out) (impl_allWithin.below_cell HB.out H2.out))
   have HG:=Aside0.mk hg
   have HX:=hx2
   clear hg hx hx2
   cases hp:impl_allWithin.p lo hi (rd l0 k) with
   | true=>
    rw [hp] at HG
    have HP:=Aside0.mk hp
    clear hp
    go_wp2_with (go_at_call 71;refine HG.out.mono ?_;rintro e w1 ⟨rfl,hb⟩;have HB1:=Aside0.mk (below_step HB.out hb);clear hb)
    go_ret
    refine ⟨k,rfl,?_,HB1.out⟩
    rw [decide_eq_true zbn,List.any_eq_true]
    refine ⟨rd l0 k,?_,HP.out⟩
    have e:rd l0 (k:Int)=l0[k]:=by simp [rd,List.getD_eq_getElem?_getD,List.getElem?_eq_getElem hlt]
    rw [e];exact List.getElem_mem hlt
   | false=>
    rw [hp] at HG
    have HP:=Aside0.mk hp
    clear hp
    go_wp2_with (go_at_call 71;refine HG.out.mono ?_;rintro e w1 ⟨rfl,hb⟩;have HB1:=Aside0.mk (below_step HB.out hb);clear hb)
    go_roundw
    case rel=>
     refine ⟨k+1,zbn,by go_num,⟨fun j hj=>?_⟩,HB1⟩
     by_cases hjk:j<k
     ·exact HN.out j hjk
     ·obtain rfl:j=k:=by omega
      have:=HP.out
      simpa [rd] using this
    case measure=>simp [intOf];omega
  ·have hkl:k=l0.length:=by omega
   clear hlt
   have HN':=HN
   go_wp2_with fail
   go_ret
   refine ⟨-1,rfl,?_,HB.out⟩
   rw [decide_eq_false zbn,List.any_eq_false]
   intro x hx
   obtain ⟨j,hj,rfl⟩:=List.getElem_of_mem hx
   have:=HN'.out j zbn
   rw [List.getD_eq_getElem?_getD,List.getElem?_eq_getElem hj] at this
   simpa using this
theorem impl_allWithin.has (A0:Option Addr) (c0:Nat) (l0:List Int) (lo hi:Int) (b1 b2:Nat) (w:World) (hr0:Kd.C (Kd.int .i64) w A0 l0.length l0) (h1:w.cell? ⟨b1,0,none⟩=some (.int .i64 lo)) (h2:w.cell? ⟨b2,0,none⟩=some (.int .i64 hi)) :
 Calls Tryd.prog 70 #[.slice A0 l0.length c0,.func (.func 71) #[] #[.pointer (some ⟨b1,0,none⟩),.pointer (some ⟨b2,0,none⟩)]] w fun e w'=>e = .returned (.bool (l0.any (impl_allWithin.p lo hi)))∧Below w.heap.size w w':=by
 have HC:=Aside0.mk (impl_allWithin.idx A0 c0 l0 lo hi b1 b2 w hr0 h1 h2)
 clear hr0 h1 h2
 go_enter Tryd.func70,Tryd.ntmps70
 go_wp2_with (go_at_call 76;refine HC.out.mono ?_;rintro e w1 ⟨n,rfl,hn,hb⟩;have HB:=Aside0.mk hb;have HN:=Aside0.mk hn;clear hb hn)
 go_ret
 exact ⟨by rw [HN.out];rfl,HB.out⟩
theorem impl_allWithin.calls (A0:Option Addr) (c0:Nat) (l0:List Int) (a1:Int) (a2:Int) (r:Bool) (w:World) (hr0:Kd.C (Kd.int .i64) w A0 l0.length l0) (hc0:l0.length≤c0) (h:impl_allWithin.f l0 a1 a2=some r) :
 Calls Tryd.prog 59 #[.slice A0 l0.length c0,.int .i64 a1,.int .i64 a2] w fun e w'=>e = .returned (.bool r)∧Below w.heap.size w w':=by
 obtain rfl:=Option.some.inj h
 have hmf:∀(fn:Fn) (first cap:Array Value) (w:World),(Instr.makeFunc fn first cap).run Tryd.prog w = .ok (.func fn first cap) w:=fun _ _ _ _=>rfl
 have hb2:Below w.heap.size w ((w.alloc (.cells #[.int .i64 a1] 2)).alloc (.cells #[.int .i64 a2] 2)):=((Below.refl _ _).alloc (Nat.le_refl _) _).alloc zca _
 have HC:=Aside0.mk (impl_allWithin.has A0 c0 l0 a1 a2 w.heap.size (w.heap.size+1) ((w.alloc (.cells #[.int .i64 a1] 2)).alloc (.cells #[.int .i64 a2] 2)) (Kd.C_below hr0 hb2)
  (by rw [World.cell?_alloc_past _ _ _ zca,World.cell?_alloc_at _ _ _ _ rfl];rfl) (by rw [World.cell?_alloc_at _ _ _ _ zca];rfl))
 clear hr0 hc0 h
 go_enter Tryd.func59,Tryd.ntmps59
 go_wp2_with (go_at_call 70;refine HC.out.mono ?_;rintro e w1 ⟨rfl,hb⟩;have HB:=Aside0.mk (below_then hb2 (by simp;omega) hb);clear hb)
 go_ret
 exact ⟨rfl,HB.out⟩

def impl_versionsCode.f (k:Nat) (l0:List (S48)) (l1:List Int):Option (Int):=(impl_ValidHistory.f k l0).bind fun t101=>(if t101=true then ((impl_allWithin.f l1 1 (l0.length:Int)).bind fun t102=>(if t102=true then (some 0) else (some 3))) else (some 1))
set_option maxHeartbeats 8000000 in
set_option maxRecDepth 100000 in
theorem impl_versionsCode.calls (k:Nat) (A0:Option Addr) (c0:Nat) (l0:List (S48)) (A1:Option Addr) (c1:Nat) (l1:List Int) (r:Int) (w:World) (hr0:Kd.C k48 w A0 l0.length l0) (hc0:l0.length≤c0) (hr1:Kd.C (Kd.int .i64) w A1 l1.length l1) (hc1:l1.length≤c1) (h:impl_versionsCode.f k l0 l1=some r) :
 Calls Tryd.prog 39 #[.slice A0 l0.length c0,.slice A1 l1.length c1] w fun e w'=>e = .returned (.int .i64 r)∧Below w.heap.size w w':=by
 have HR0:=Aside0.mk hr0
 have HC0:=Aside0.mk hc0
 clear hr0 hc0
 have HR1:=Aside0.mk hr1
 have HC1:=Aside0.mk hc1
 clear hr1 hc1
 have HB:=Aside0.mk (Below.refl w.heap.size w)
 have H:((impl_ValidHistory.f k l0).bind fun t101=>(if t101=true then ((impl_allWithin.f l1 1 (l0.length:Int)).bind fun t102=>(if t102=true then (some 0) else (some 3))) else (some 1)))=some r:=h
 clear h
 replace H:=Option.bind_eq_some_iff.mp H
 obtain ⟨t101,A30,H⟩:=H
 replace H:(if t101=true then ((impl_allWithin.f l1 1 (l0.length:Int)).bind fun t102=>(if t102=true then (some 0) else (some 3))) else (some 1))=some r:=H
 have A3:=Aside0.mk A30
 clear A30
 by_cases c4:t101=true
 ·subst c4
  have H1:((impl_allWithin.f l1 1 (l0.length:Int)).bind fun t102=>(if t102=true then (some 0) else (some 3)))=some r:=by rw [if_pos rfl] at H;exact H
  clear H
  have H:=H1
  clear H1
  replace H:=Option.bind_eq_some_iff.mp H
  obtain ⟨t102,A50,H⟩:=H
  replace H:(if t102=true then (some 0) else (some 3))=some r:=H
  have A5:=Aside0.mk A50
  clear A50
  by_cases c6:t102=true
  ·subst c6
   have H1:(some 0)=some r:=by rw [if_pos rfl] at H;exact H
   clear H
   have H:=H1
   clear H1
   obtain rfl:=Option.some.inj H
   go_enter Tryd.func39,Tryd.ntmps39
   go_wp2_with (first|((with_reducible refine gate_callee (f:=35) rfl ?_);refine goesL_ (some 7) rfl rfl Tryd.func35 zaq rfl #[.slice A0 l0.length c0] rfl zd ?_;(with_reducible refine (impl_ValidHistory.calls k _ _ l0 true _ ?side1 ?side2 A3.out).mono ?_);(case side1=>exact zo);(case side2=>exact HC0.out);rintro e w7 ⟨rfl,hb⟩;refine ⟨_,rfl,?_⟩;replace HB:=Aside0.mk (below_step za hb);(try clear hb);(try clear hb2);(try clear hk);(try clear hi))|((with_reducible refine gate_callee (f:=59) rfl ?_);refine goesL_ (some 13) rfl rfl Tryd.func59 zaq rfl #[.slice A1 l1.length c1,.int .i64 1,.int .i64 (l0.length:Int)] rfl zd ?_;(with_reducible refine (impl_allWithin.calls _ _ l1 1 (l0.length:Int) true _ ?side1 ?side2 A5.out).mono ?_);(case side1=>exact zab);(case side2=>exact HC1.out);rintro e w8 ⟨rfl,hb⟩;refine ⟨_,rfl,?_⟩;replace HB:=Aside0.mk (below_step za hb);(try clear hb);(try clear hb2);(try clear hk);(try clear hi)))
   go_ret
   exact ⟨zj,za⟩
  ·replace c6:=Bool.eq_false_iff.mpr c6
   subst c6
   have H1:(some 3)=some r:=by rw [if_neg (show ¬ (false=true) by decide)] at H;exact H
   clear H
   have H:=H1
   clear H1
   obtain rfl:=Option.some.inj H
   go_enter Tryd.func39,Tryd.ntmps39
   go_wp2_with (first|((with_reducible refine gate_callee (f:=35) rfl ?_);refine goesL_ (some 7) rfl rfl Tryd.func35 zaq rfl #[.slice A0 l0.length c0] rfl zd ?_;(with_reducible refine (impl_ValidHistory.calls k _ _ l0 true _ ?side1 ?side2 A3.out).mono ?_);(case side1=>exact zo);(case side2=>exact HC0.out);rintro e w9 ⟨rfl,hb⟩;refine ⟨_,rfl,?_⟩;replace HB:=Aside0.mk (below_step za hb);(try clear hb);(try clear hb2);(try clear hk);(try clear hi))|((with_reducible refine gate_callee (f:=59) rfl ?_);refine goesL_ (some 13) rfl rfl Tryd.func59 zaq rfl #[.slice A1 l1.length c1,.int .i64 1,.int .i64 (l0.length:Int)] rfl zd ?_;(with_reducible refine (impl_allWithin.calls _ _ l1 1 (l0.length:Int) false _ ?side1 ?side2 A5.out).mono ?_);(case side1=>exact zab);(case side2=>exact HC1.out);rintro e w10 ⟨rfl,hb⟩;refine ⟨_,rfl,?_⟩;replace HB:=Aside0.mk (below_step za hb);(try clear hb);(try clear hb2);(try clear hk);(try clear hi)))
   go_ret
   exact ⟨zj,za⟩
 ·replace c4:=Bool.eq_false_iff.mpr c4
  subst c4
  have H1:(some 1)=some r:=by rw [if_neg (show ¬ (false=true) by decide)] at H;exact H
  clear H
  have H:=H1
  clear H1
  obtain rfl:=Option.some.inj H
  go_enter Tryd.func39,Tryd.ntmps39
  go_wp2_with (first|((with_reducible refine gate_callee (f:=35) rfl ?_);refine goesL_ (some 7) rfl rfl Tryd.func35 zaq rfl #[.slice A0 l0.length c0] rfl zd ?_;(with_reducible refine (impl_ValidHistory.calls k _ _ l0 false _ ?side1 ?side2 A3.out).mono ?_);(case side1=>exact zo);(case side2=>exact HC0.out);rintro e w11 ⟨rfl,hb⟩;refine ⟨_,rfl,?_⟩;replace HB:=Aside0.mk (below_step za hb);(try clear hb);(try clear hb2);(try clear hk);(try clear hi)))
  go_ret
  exact ⟨zj,za⟩
end Go.Proofs.YtocegmkifmdlcaaDoor.P

namespace Go.Proofs.YtocegmkifmdlcaaDoor.P
open Go.RowKit
set_option linter.unusedVariables false
set_option linter.unusedSimpArgs false
theorem var_keep {P : Program} {w w' : World} {n : String} {cs : Array Value} (hb : Below w.heap.size w w') (h : w.var? P n = some cs) : w'.var? P n = some cs := by
  unfold World.var? at h ⊢
  cases hg : P.globalNamed n with
  | none => simp [hg] at h
  | some g =>
    simp only [hg, Option.bind_some] at h ⊢
    have hlt : g < w.heap.size := by
      rcases Nat.lt_or_ge g w.heap.size with h' | h'
      · exact h'
      · simp [Array.getElem?_eq_none h'] at h
    rw [hb.block g hlt]
    exact h
/-- The table of powers of ten reads as the program's text lays it. -/
structure Door1 (w : World) : Prop where
  tab : Lib.TabIs Tryd.prog w "internal/strconv.uint64pow10" .u64 Lib.pow10Tab
theorem Door1.at {w w' : World} (h : Door1 w) (hb : Below w.heap.size w w') : Door1 w' := ⟨var_keep hb h.tab⟩
end Go.Proofs.YtocegmkifmdlcaaDoor.P

/- What the library's contracts ask of this program: its bodies, types and numbers, each held against the library's by the kernel. -/
namespace Go.Proofs.YtocegmkifmdlcaaDoor.P
open Go.Shelf
set_option linter.unusedVariables false
set_option linter.unusedSimpArgs false
def sh_FormatInt_ren : Go.Shelf.Ren := ⟨fun | 173 => 60 | 246 => 72 | 283 => 77 | 284 => 78 | 285 => 79 | 286 => 80 | 129 => 83 | 317 => 82 | 318 => 84 | 319 => 85 | 320 => 86 | 337 => 89 | 338 => 90 | n => n, fun | 2 => 2 | 3 => 3 | 9 => 9 | 4 => 4 | 171 => 106 | 0 => 0 | 53 => 80 | 37 => 22 | 5 => 5 | 173 => 109 | 212 => 113 | 51 => 114 | 20 => 20 | 213 => 115 | 46 => 90 | 232 => 120 | 233 => 121 | n => n, fun | 17 => 0 | 18 => 1 | 19 => 2 | n => n⟩
theorem sh_FormatInt : LaysM.n173 Tryd.prog sh_FormatInt_ren := {
  mixed := by kernel_rfl
  f129 := Tryd.func83.trans (congrArg some (by kernel_rfl))
  f173 := Tryd.func60.trans (congrArg some (by kernel_rfl))
  f246 := Tryd.func72.trans (congrArg some (by kernel_rfl))
  f283 := Tryd.func77.trans (congrArg some (by kernel_rfl))
  f284 := Tryd.func78.trans (congrArg some (by kernel_rfl))
  f285 := Tryd.func79.trans (congrArg some (by kernel_rfl))
  f286 := Tryd.func80.trans (congrArg some (by kernel_rfl))
  f317 := Tryd.func82.trans (congrArg some (by kernel_rfl))
  f318 := Tryd.func84.trans (congrArg some (by kernel_rfl))
  f319 := Tryd.func85.trans (congrArg some (by kernel_rfl))
  f320 := Tryd.func86.trans (congrArg some (by kernel_rfl))
  f337 := Tryd.func89.trans (congrArg some (by kernel_rfl))
  f338 := Tryd.func90.trans (congrArg some (by kernel_rfl))
  t0 := Tryd.underlying0
  a0 := Tryd.isAgg0
  z0 := Tryd.sizeOf0
  v0 := Tryd.zeroValue0
  t2 := Tryd.underlying2
  a2 := Tryd.isAgg2
  z2 := Tryd.sizeOf2
  v2 := Tryd.zeroValue2
  t3 := Tryd.underlying3
  a3 := Tryd.isAgg3
  z3 := Tryd.sizeOf3
  v3 := Tryd.zeroValue3
  t4 := Tryd.underlying4
  a4 := Tryd.isAgg4
  z4 := Tryd.sizeOf4
  v4 := Tryd.zeroValue4
  t5 := Tryd.underlying5
  a5 := Tryd.isAgg5
  z5 := Tryd.sizeOf5
  v5 := Tryd.zeroValue5
  t9 := Tryd.underlying9
  a9 := Tryd.isAgg9
  z9 := Tryd.sizeOf9
  v9 := Tryd.zeroValue9
  t20 := Tryd.underlying20
  a20 := Tryd.isAgg20
  z20 := Tryd.sizeOf20
  v20 := Tryd.zeroValue20
  t37 := Tryd.underlying22
  a37 := Tryd.isAgg22
  z37 := Tryd.sizeOf22
  v37 := Tryd.zeroValue22
  t46 := Tryd.underlying90
  a46 := Tryd.isAgg90
  z46 := Tryd.sizeOf90
  v46 := Tryd.zeroValue90
  t51 := Tryd.underlying114
  a51 := Tryd.isAgg114
  z51 := Tryd.sizeOf114
  v51 := Tryd.zeroValue114
  t53 := Tryd.underlying80
  a53 := Tryd.isAgg80
  z53 := Tryd.sizeOf80
  v53 := Tryd.zeroValue80
  t171 := Tryd.underlying106
  a171 := Tryd.isAgg106
  z171 := Tryd.sizeOf106
  v171 := Tryd.zeroValue106
  t173 := Tryd.underlying109
  a173 := Tryd.isAgg109
  z173 := Tryd.sizeOf109
  v173 := Tryd.zeroValue109
  t212 := Tryd.underlying113
  a212 := Tryd.isAgg113
  z212 := Tryd.sizeOf113
  v212 := Tryd.zeroValue113
  t213 := Tryd.underlying115
  a213 := Tryd.isAgg115
  z213 := Tryd.sizeOf115
  t232 := Tryd.underlying120
  a232 := Tryd.isAgg120
  z232 := Tryd.sizeOf120
  v232 := Tryd.zeroValue120
  t233 := Tryd.underlying121
  a233 := Tryd.isAgg121
  z233 := Tryd.sizeOf121
  v233 := Tryd.zeroValue121
  g17 := by kernel_rfl
  g18 := by kernel_rfl
  g19 := by kernel_rfl
  i0 := by kernel_rfl
  i2 := by kernel_rfl
  i3 := by kernel_rfl
  i4 := by kernel_rfl
  i5 := by kernel_rfl
  i9 := by kernel_rfl
  i20 := by kernel_rfl
  i37 := by kernel_rfl
  i46 := by kernel_rfl
  i51 := by kernel_rfl
  i53 := by kernel_rfl
  i171 := by kernel_rfl
  i173 := by kernel_rfl
  i212 := by kernel_rfl
  i232 := by kernel_rfl
  i233 := by kernel_rfl
  m17 := by kernel_rfl
  m18 := by kernel_rfl
  m19 := by kernel_rfl }
end Go.Proofs.YtocegmkifmdlcaaDoor.P

namespace Go.Proofs.YtocegmkifmdlcaaDoor.P
open Go.RowKit Go.Proofs.YtocegmkifmdlcaaDoorW.PrintWords Go.Proofs.YtocegmkifmdlcaaDoorW.PrintLast Go.Proofs.YtocegmkifmdlcaaDoorW.PrintMore
attribute [local go_sem] max2_int min2_int max_two min_two max_three min_three max_four min_four str_leq str_gtr str_geq
set_option linter.unusedVariables false
set_option linter.unusedSimpArgs false
def impl_Decimal.t (n:Int):ByteArray:=⟨(Lib.itoa n).toArray⟩
def impl_Decimal.f (a0:Int):Option ByteArray:=if -9223372036854775808≤a0∧a0≤9223372036854775807 then some (impl_Decimal.t a0) else none
theorem impl_Decimal.calls (a0:Int) (r:ByteArray) (w:World) (hD:Door1 w) (h:impl_Decimal.f a0=some r) :
 Calls Tryd.prog 40 #[.int .i64 a0] w fun e w'=>e = .returned (.string r)∧Below w.heap.size w w':=by
 unfold impl_Decimal.f at h
 by_cases hb : -9223372036854775808≤a0∧a0≤9223372036854775807
 rotate_left
 ·rw [if_neg hb] at h;exact absurd h zca
 rw [if_pos hb] at h
 obtain rfl:=Option.some.inj h
 clear h
 unfold impl_Decimal.t
 have HC:Calls Tryd.prog 60 #[.int .i64 a0,.int .i64 10] w fun e w'=>e = .returned (.string ⟨(Lib.itoa a0).toArray⟩)∧∃k os,w'=Sort.grow (w.drewN k) os:=Any.strconv_FormatInt_10 sh_FormatInt a0 hb.1 hb.2 w hD.tab
 clear hD hb
 generalize (⟨(Lib.itoa a0).toArray⟩:ByteArray)=s at HC
 go_enter Tryd.func40,Tryd.ntmps40
 go_wp2_with (go_at_call 60;refine HC.mono ?_;rintro e w1 ⟨rfl,k,os,rfl⟩)
 go_ret
 exact ⟨rfl,Lib.below_grow _ _ (Nat.le_refl _) _ _⟩

def impl_versionState.f (l0:List (S48)) (a1:Int):Option ((List (S57))):=if a1=0 then (some ([]:List (S57))) else (if 0≤(wrap64 (a1 - 1)) then (if (wrap64 (a1 - 1))<(l0.length:Int) then (some ((rd_T48 l0 (wrap64 (a1 - 1))).f3)) else (none)) else (none))
set_option maxHeartbeats 8000000 in
set_option maxRecDepth 100000 in
theorem impl_versionState.calls (P0_:Nat→Prop) (A0:Option Addr) (c0:Nat) (l0:List (S48)) (a1:Int) (r:List (S57)) (w:World) (hs0:Kd.V k48 48 w w.heap.size (fun k_=>P0_ k_) (.slice A0 l0.length c0) l0) (h:impl_versionState.f l0 a1=some r) :
 Calls Tryd.prog 41 #[.slice A0 l0.length c0,.int .i64 a1] w fun e w'=>∃v0_:Value,e = .returned (v0_)∧Kd.V k57 57 w' w.heap.size (fun k_=>(P0_ k_∨w.heap.size≤k_)) v0_ r∧Below w.heap.size w w':=by
 have HO0:=Aside0.mk (show Kd.V k48 48 w w.heap.size (fun k_=>(P0_ k_∨w.heap.size≤k_)) (.slice A0 l0.length c0) l0 from Kd.V_mono hs0 (fun k_ hk=>.inl hk))
 have HB:=Aside0.mk (Below.refl w.heap.size w)
 have H:(if a1=0 then (some ([]:List (S57))) else (if 0≤(wrap64 (a1 - 1)) then (if (wrap64 (a1 - 1))<(l0.length:Int) then (some ((rd_T48 l0 (wrap64 (a1 - 1))).f3)) else (none)) else (none)))=some r:=h
 clear h
 by_cases c3:a1=0
 ·rw [if_pos c3] at H
  have c3b0:(a1 == 0)=true:=beq_iff_eq.mpr c3
  have c3b1:(a1 != 0)=false:=bne_eq_false_iff_eq.mpr c3
  clear c3
  obtain rfl:=Option.some.inj H
  go_enter Tryd.func41,Tryd.ntmps41
  go_wp2
  go_ret
  exact ⟨_,zj,by first|exact Kd.V_nil _ _ _ _ _|(show Kd.V _ _ _ _ _ (.slice none 0 0) [];exact Kd.V_nil _ _ _ _ _),za⟩
 ·rw [if_neg c3] at H
  have c3b0:(a1 == 0)=false:=beq_eq_false_iff_ne.mpr c3
  have c3b1:(a1 != 0)=true:=bne_iff_ne.mpr c3
  obtain ⟨ji4,hji4⟩:∃j_:Int,(wrap64 (a1 - 1))=j_:=⟨_,rfl⟩
  replace H:(if 0≤(ji4) then (if (ji4)<(l0.length:Int) then (some ((rd_T48 l0 (ji4)).f3)) else (none)) else (none))=some r:=by first|(rw [hji4] at H;exact H)|(simp only [hji4] at H ⊢;exact H)
  have hji4w:(IntKind.i64.wrap (a1 - 1))=ji4:=(i64_w _).trans hji4
  by_cases c5:0≤(ji4)
  ·rw [if_pos c5] at H
   have c5b0:decide (0≤(ji4))=true:=decide_eq_true c5
   clear c5
   by_cases c6:(ji4)<(l0.length:Int)
   ·rw [if_pos c6] at H
    have c6b0:decide ((ji4)<(l0.length:Int))=true:=decide_eq_true c6
    clear c6
    obtain rfl:=Option.some.inj H
    have p101:0≤((ji4):Int):=of_decide_eq_true zb
    have q101:(ji4)<(l0.length:Int):=of_decide_eq_true zb
    obtain ⟨ad101,A101_3,c101_3,e101,hx101_0,hx101_1,hx101_2,hx101_3,hl101_3,hi101_3⟩:=at_T48 (Kd.V_reads' HO0.out).2.2 (ji4) p101 q101
    cases e101
    obtain ⟨ce101,hce101,hMe101,hcc101⟩:=Kd.V_get HO0.out z48 (ji4) p101 (by first|exact q101|exact of_decide_eq_true zb|(have e_:=(Kd.V_reads' HO0.out).1;omega))
    obtain ⟨ua101_3,uc101_3,rfl,ul101_3,ge101_3⟩:=k48_openF hMe101
    have hv101_3:=hcc101 3 _ rfl
    rw [add_field _ _ 3 zbn] at hv101_3
    replace hv101_3:=Option.some.inj (hv101_3.symm.trans hx101_3)
    injection hv101_3 with hva_ hvn_ hvc_
    rw [hva_] at ge101_3
    rw [hvc_] at ul101_3
    have HL101_3:=Aside0.mk (show Kd.V k57 57 _ w.heap.size _ _ ((rd_T48 l0 (ji4)).f3) from Kd.V_mk ul101_3 ge101_3)
    clear hva_ hvn_ hvc_ ge101_3 ul101_3
    clear hcc101 hce101
    have HR101_3:=Aside0.mk hi101_3
    have HC101_3:=Aside0.mk hl101_3
    clear hi101_3 hl101_3
    replace p101:=eq_true p101
    replace q101:=eq_true q101
    go_enter Tryd.func41,Tryd.ntmps41
    go_wp2
    go_ret
    exact ⟨_,by first|rfl|(simp [errW_none,errW_some]<;>rfl)|(simp only [←hji4];first|rfl|(simp [errW_none,errW_some]<;>rfl))|(simp [*,errW_none,errW_some]<;>rfl),by (with_reducible repeat (first|apply Kd.V_alloc|apply Kd.V_drewN|apply Kd.V_drew));exact HL101_3.out,za⟩
   ·rw [if_neg c6] at H
    exact absurd H zca
  ·rw [if_neg c5] at H
   exact absurd H zca

def impl_UndoVersion.f (k:Nat) (l0:List (S48)) (a1:Int):Option ((List (S48)) × Int):=(impl_versionsCode.f k l0 (([a1]:List Int))).bind fun t104=>(if t104=0 then ((impl_Decimal.f a1).bind fun t105=>(if 5+t105.size≤9223372036854775807 then (if 0≤(wrap64 (a1 - 1)) then (if (wrap64 (a1 - 1))<(l0.length:Int) then ((impl_versionState.f l0 ((rd_T48 l0 (wrap64 (a1 - 1))).f1)).bind fun t107=>((impl_withVersion.f l0 a1 ((⟨#[117,110,100,111,32]⟩:ByteArray)++t105) t107).bind fun bt110=>(some (bt110.1,bt110.2)))) else (none)) else (none)) else (none))) else (some (([]:List (S48)),t104)))
def impl_UndoVersion.T4:Bool × List (List Nat × List Nat):=(true,[([],[]),([],[]),([],[]),([2],[2]),([3],[3]),([],[]),([],[]),([],[]),([7],[7]),([6,8],[6,8]),([9],[9]),([10],[10]),([5,11,3],[5,11]),([0,1,4,12,12],[0,1,4,12]),([13],[13]),([13],[13]),([14,13,0,1,2,3,4,5,6,7,8,9,10,11,12,13,14,15],[14]),([15,16,0,1,2,3,4,5,6,7,8,9,10,11,12,13,14,15,16],[15])])
def impl_UndoVersion.B4:List Nat:=[0,0,0,4,12,0,0,0,128,448,960,1984,4076,8191,16383,16383,65535,131071]
theorem impl_UndoVersion.tab4:rtab .any (opsOf Tryd.f13 4)=impl_UndoVersion.T4:=by kernel_rfl
theorem impl_UndoVersion.bits4:waitsOk impl_UndoVersion.T4.2 impl_UndoVersion.B4=true:=by kernel_rfl
set_option maxHeartbeats 8000000 in
set_option maxRecDepth 100000 in
theorem impl_UndoVersion.calls (k:Nat) (A0:Option Addr) (c0:Nat) (l0:List (S48)) (a1:Int) (r1:List (S48)) (r2:Int) (w:World) (hD:Door1 w) (hr0:Kd.C k48 w A0 l0.length l0) (hc0:l0.length≤c0) (h:impl_UndoVersion.f k l0 a1=some (r1,r2)) :
 Calls Tryd.prog 13 #[.slice A0 l0.length c0,.int .i64 a1] w fun e w'=>∃v0_:Value,e = .returned (.tuple #[v0_,.int .i64 r2])∧Kd.S k48 48 w' w.heap.size (fun _=>True) v0_ r1∧Below w.heap.size w w':=by
 have HD:=Aside0.mk hD
 clear hD
 have HR0:=Aside0.mk hr0
 have HC0:=Aside0.mk hc0
 clear hr0 hc0
 have HB:=Aside0.mk (Below.refl w.heap.size w)
 have H:((impl_versionsCode.f k l0 (([a1]:List Int))).bind fun t104=>(if t104=0 then ((impl_Decimal.f a1).bind fun t105=>(if 5+t105.size≤9223372036854775807 then (if 0≤(wrap64 (a1 - 1)) then (if (wrap64 (a1 - 1))<(l0.length:Int) then ((impl_versionState.f l0 ((rd_T48 l0 (wrap64 (a1 - 1))).f1)).bind fun t107=>((impl_withVersion.f l0 a1 ((⟨#[117,110,100,111,32]⟩:ByteArray)++t105) t107).bind fun bt110=>(some (bt110.1,bt110.2)))) else (none)) else (none)) else (none))) else (some (([]:List (S48)),t104))))=some (r1,r2):=h
 clear h
 obtain ⟨y101,hy101⟩:∃y_:List Int,y_=(([a1]:List Int)):=⟨_,rfl⟩
 replace H:((impl_versionsCode.f k l0 y101).bind fun t104=>(if t104=0 then ((impl_Decimal.f a1).bind fun t105=>(if 5+t105.size≤9223372036854775807 then (if 0≤(wrap64 (a1 - 1)) then (if (wrap64 (a1 - 1))<(l0.length:Int) then ((impl_versionState.f l0 ((rd_T48 l0 (wrap64 (a1 - 1))).f1)).bind fun t107=>((impl_withVersion.f l0 a1 ((⟨#[117,110,100,111,32]⟩:ByteArray)++t105) t107).bind fun bt110=>(some (bt110.1,bt110.2)))) else (none)) else (none)) else (none))) else (some (([]:List (S48)),t104))))=some (r1,r2):=by first|(rw [hy101];with_reducible exact H)|(have H2_:=(Option.bind_some _ _).symm.trans H;rw [hy101];with_reducible exact H2_)|(have H2_:=(Option.bind_some _ _).symm.trans H;with_reducible exact H2_)|with_reducible exact H|(rw [hy101];exact H)|exact H
 have Ny101:=Aside0.mk hy101
 clear hy101
 replace H:=Option.bind_eq_some_iff.mp H
 obtain ⟨t104,A30,H⟩:=H
 replace H:(if t104=0 then ((impl_Decimal.f a1).bind fun t105=>(if 5+t105.size≤9223372036854775807 then (if 0≤(wrap64 (a1 - 1)) then (if (wrap64 (a1 - 1))<(l0.length:Int) then ((impl_versionState.f l0 ((rd_T48 l0 (wrap64 (a1 - 1))).f1)).bind fun t107=>((impl_withVersion.f l0 a1 ((⟨#[117,110,100,111,32]⟩:ByteArray)++t105) t107).bind fun bt110=>(some (bt110.1,bt110.2)))) else (none)) else (none)) else (none))) else (some (([]:List (S48)),t104)))=some (r1,r2):=H
 have A3:=Aside0.mk A30
 clear A30
 by_cases c4:t104=0
 ·rw [if_pos c4] at H
  have c4b0:(t104 == 0)=true:=beq_iff_eq.mpr c4
  have c4b1:(t104 != 0)=false:=bne_eq_false_iff_eq.mpr c4
  clear c4
  replace H:=Option.bind_eq_some_iff.mp H
  obtain ⟨t105,A50,H⟩:=H
  replace H:(if 5+t105.size≤9223372036854775807 then (if 0≤(wrap64 (a1 - 1)) then (if (wrap64 (a1 - 1))<(l0.length:Int) then ((impl_versionState.f l0 ((rd_T48 l0 (wrap64 (a1 - 1))).f1)).bind fun t107=>((impl_withVersion.f l0 a1 ((⟨#[117,110,100,111,32]⟩:ByteArray)++t105) t107).bind fun bt110=>(some (bt110.1,bt110.2)))) else (none)) else (none)) else (none))=some (r1,r2):=H
  have A5:=Aside0.mk A50
  clear A50
  by_cases c6:5+t105.size≤9223372036854775807
  ·rw [if_pos c6] at H
   have c6b0:=eq_true c6
   have c6b1:decide (5+t105.size≤9223372036854775807)=true:=decide_eq_true c6
   try have c6b2:(9223372036854775807<5+t105.size)=False:=eq_false (Nat.not_lt.2 c6)
   obtain ⟨ji7,hji7⟩:∃j_:Int,(wrap64 (a1 - 1))=j_:=⟨_,rfl⟩
   replace H:(if 0≤(ji7) then (if (ji7)<(l0.length:Int) then ((impl_versionState.f l0 ((rd_T48 l0 (ji7)).f1)).bind fun t107=>((impl_withVersion.f l0 a1 ((⟨#[117,110,100,111,32]⟩:ByteArray)++t105) t107).bind fun bt110=>(some (bt110.1,bt110.2)))) else (none)) else (none))=some (r1,r2):=by first|(rw [hji7] at H;exact H)|(simp only [hji7] at H ⊢;exact H)
   (try rw [hji7] at A3)
   (try rw [hji7] at A5)
   have hji7w:(IntKind.i64.wrap (a1 - 1))=ji7:=(i64_w _).trans hji7
   by_cases c8:0≤(ji7)
   ·rw [if_pos c8] at H
    have c8b0:decide (0≤(ji7))=true:=decide_eq_true c8
    clear c8
    by_cases c9:(ji7)<(l0.length:Int)
    ·rw [if_pos c9] at H
     have c9b0:decide ((ji7)<(l0.length:Int))=true:=decide_eq_true c9
     clear c9
     replace H:=Option.bind_eq_some_iff.mp H
     obtain ⟨t107,A100,H⟩:=H
     replace H:((impl_withVersion.f l0 a1 ((⟨#[117,110,100,111,32]⟩:ByteArray)++t105) t107).bind fun bt110=>(some (bt110.1,bt110.2)))=some (r1,r2):=H
     have A10:=Aside0.mk A100
     clear A100
     replace H:=Option.bind_eq_some_iff.mp H
     obtain ⟨⟨t110,t111⟩,A110,H⟩:=H
     replace H:(some (t110,t111))=some (r1,r2):=H
     have A11:=Aside0.mk A110
     clear A110
     simp only [Option.some.injEq,Prod.mk.injEq] at H
     obtain ⟨rfl,rfl⟩:=H
     go_enter Tryd.func13,Tryd.ntmps13
     try go_wp2_with (first|((with_reducible refine gate_dst (N:=9) rfl ?_);refine Kd.R_lit (Kd.int .i64) _ 2 ?hg (N:=9) ?hd (xs:=([a1]:List Int)) (inner:=[.int .i64 a1]) (ok:=fun _=>True) (okp:=fun _=>True) ?hr ?hp (fun _ hk=>hk) trivial (Below.refl _ _) (Nat.le_refl _) zca ?_;(case hd=>rfl);(case hg=>rfl);(case hr=>exact zv);(case hp=>exact (Reps.one (show Kd.M (Kd.int .i64) _ _ _ a1 [.int .i64 a1] from rfl) (Reps.none _ _)));intro v102 w12 ho13 hb hg_ hnew_;clear hg_ hnew_;(first|rw [←Ny101.out] at ho13|(simp only [Int.reduceToNat] at ho13;rw [←Ny101.out] at ho13));have HO103:=Aside0.mk (Kd.R_lower ho13 (below_size za));replace HB:=Aside0.mk (below_step za hb);clear hb ho13;obtain ⟨Ao14,co14,eo14⟩:=Kd.R_slice HO103.out;subst eo14)|((with_reducible refine gate_callee (f:=39) rfl ?_);refine goesL_ (some 10) rfl rfl Tryd.func39 zaq rfl #[.slice A0 l0.length c0,.slice Ao14 y101.length co14] rfl zd ?_;(with_reducible refine (impl_versionsCode.calls k _ _ l0 _ _ y101 t104 _ ?side1 ?side2 ?side3 ?side4 A3.out).mono ?_);(case side1=>exact zm);(case side2=>exact HC0.out);(case side3=>exact zbc);(case side4=>exact (Kd.R_reads' HO103.out).2.1);rintro e w15 ⟨rfl,hb⟩;refine ⟨_,rfl,?_⟩;replace HO103:=Aside0.mk (Kd.R_below zae hb);replace HB:=Aside0.mk (below_step za hb);(try clear hb);(try clear hb2);(try clear hk);(try clear hi)))
     replace HO103:=Aside0.mk (Kd.R_drew HO103.out)
     replace HB:=Aside0.mk (below_drew1 HB.out)
     have p106:0≤((ji7):Int):=of_decide_eq_true zb
     have q106:(ji7)<(l0.length:Int):=of_decide_eq_true zb
     obtain ⟨ad106,A106_3,c106_3,e106,hx106_0,hx106_1,hx106_2,hx106_3,hl106_3,hi106_3⟩:=at_T48 HR0.out (ji7) p106 q106
     have hw106_3:=hx106_3
     have hw106_2:=hx106_2
     have hw106_1:=hx106_1
     have hw106_0:=hx106_0
     cases e106
     replace hx106_0:=(HB.out.cell (World.block_lt_of_cell? w _ hx106_0)).trans hx106_0
     replace hx106_1:=(HB.out.cell (World.block_lt_of_cell? w _ hx106_1)).trans hx106_1
     replace hx106_2:=(HB.out.cell (World.block_lt_of_cell? w _ hx106_2)).trans hx106_2
     replace hx106_3:=(HB.out.cell (World.block_lt_of_cell? w _ hx106_3)).trans hx106_3
     have HR106_3:=Aside0.mk hi106_3
     have HC106_3:=Aside0.mk hl106_3
     clear hi106_3 hl106_3
     replace p106:=eq_true p106
     replace q106:=eq_true q106
     refine start_ (n:=18) (S:=fun w'=>w'.cell? (ad106.add (((ji7)).toNat*4))=some (.int .i64 ((rd_T48 l0 (ji7)).f0))∧w'.cell? ⟨(ad106.add (((ji7)).toNat*4)).block,(ad106.add (((ji7)).toNat*4)).off+1,none⟩=some (.int .i64 ((rd_T48 l0 (ji7)).f1))∧w'.cell? ⟨(ad106.add (((ji7)).toNat*4)).block,(ad106.add (((ji7)).toNat*4)).off+2,none⟩=some (.string ((rd_T48 l0 (ji7)).f2))∧w'.cell? ⟨(ad106.add (((ji7)).toNat*4)).block,(ad106.add (((ji7)).toNat*4)).off+3,none⟩=some (.slice A106_3 ((rd_T48 l0 (ji7)).f3).length c106_3)) (ds:=[]) #[false,false,false,false,false,false,false,false,false,false,false,false,false,false,false,false,false,false] zaq rfl rfl ⟨((HB.out.cell (World.block_lt_of_cell? w _ hw106_0)).trans hw106_0),((HB.out.cell (World.block_lt_of_cell? w _ hw106_1)).trans hw106_1),((HB.out.cell (World.block_lt_of_cell? w _ hw106_2)).trans hw106_2),((HB.out.cell (World.block_lt_of_cell? w _ hw106_3)).trans hw106_3)⟩ (fun hHeld=>?_);refine with_tabW impl_UndoVersion.tab4 impl_UndoVersion.bits4 (fun HT_ HW_=>?_)
     generalize w15.drew=w16 at HO103 HB HR106_3 hx106_0 hx106_1 hx106_2 hx106_3 hHeld ⊢
     refine pA 0 14 ?_
     refine pA 1 15 ?_
     refine pA 2 16 ?_
     refine pA 5 19 ?_
     refine pA 6 20 ?_
     refine pA 7 21 ?_
     refine pA 8 22 ?_
     refine pA 9 23 ?_
     refine pA 10 24 ?_
     refine pT 11 25 rfl zbr ?_
     refine one_ (i:=3) (N:=some 17) #[true,true,true,true,false,true,true,true,true,true,true,true,false,false,false,false,false,false] rfl rfl (one_of HT_.out zaq) zbp (fun K hK=>?_)
     refine goes_ Tryd.func40 zaq rfl #[.int .i64 a1] (by rfl) rfl rfl zd ?_
     with_reducible refine (impl_Decimal.calls a1 t105 _ ?side1 A5.out).mono ?_
     (case side1=>exact Door1.at HD.out za)
     rintro e w17 ⟨rfl,hb⟩
     refine ⟨_,rfl,?_⟩
     replace HO103:=Aside0.mk (Kd.R_below zae hb)
     replace HB:=Aside0.mk (below_step za hb)
     (try clear hb)
     (try clear hb2)
     (try clear hk)
     (try clear hi)
     refine hK.out _ _ ⟨((HB.out.cell (World.block_lt_of_cell? w _ hw106_0)).trans hw106_0),((HB.out.cell (World.block_lt_of_cell? w _ hw106_1)).trans hw106_1),((HB.out.cell (World.block_lt_of_cell? w _ hw106_2)).trans hw106_2),((HB.out.cell (World.block_lt_of_cell? w _ hw106_3)).trans hw106_3)⟩ (fun hHeld=>?_)
     clear hK K
     refine pN 17 ?_
     refine pA 4 18 ?_
     refine one_ (i:=12) (N:=some 26) #[true,true,true,true,true,true,true,true,true,true,true,true,true,false,false,false,false,false] rfl rfl (one_of HT_.out zaq) zbp (fun K hK=>?_)
     refine goes_ Tryd.func41 zaq rfl #[.slice (some ad106) l0.length c0,.int .i64 ((rd_T48 l0 (ji7)).f1)] (by rfl) rfl rfl (by (try simp only [List.map_toArray,List.map_cons,List.map_nil]);first|done|(simp only [hji7];rfl)|rfl|(simp only [List.length_drop,List.length_take];rfl)) ?_
     with_reducible refine (impl_versionState.calls (fun k_=>k_<w.heap.size) _ _ l0 ((rd_T48 l0 (ji7)).f1) t107 _ ?side1 A10.out).mono ?_
     (case side1=>exact Kd.V_mk HC0.out (Kd.F_below (Kd.C_F k48_heap HR0.out) za))
     rintro e w18 ⟨v108,rfl,ho0,hb⟩
     refine ⟨_,rfl,?_⟩
     have n0_:=Aside0.mk (Kd.R_below zae hb)
     have n1_:=Aside0.mk (Kd.V_lower (Kd.V_mono (ok':=fun k_=>some k_≠(.slice Ao14 y101.length co14:Value).ownBlock) ho0 (fun k_ hk_=>Or.elim hk_ (fun hs_=>fun e_=>Nat.not_le.2 hs_ (Kd.R_base HO103.out k_ e_.symm)) (fun hn_=>(Kd.fresh' (Kd.R_lt zae) k_ hn_)))) (below_size za))
     have n2_:=Aside0.mk (below_step za hb)
     clear HO103
     clear HB
     have HO103:=n0_
     have HO109:=n1_
     have HB:=n2_
     clear n0_ n1_ n2_
     (try clear hb)
     (try clear hb2)
     (try clear hk)
     (try clear hi)
     (try clear ho0)
     obtain ⟨Ao19,co19,eo19⟩:=Kd.V_slice HO109.out
     (first|subst eo19|(injection eo19 with f1_ f2_ f3_;have f4_:=f1_.symm;have f5_:=f3_.symm;clear f1_ f2_ f3_;subst f4_;subst f5_))
     refine hK.out _ _ ⟨((HB.out.cell (World.block_lt_of_cell? w _ hw106_0)).trans hw106_0),((HB.out.cell (World.block_lt_of_cell? w _ hw106_1)).trans hw106_1),((HB.out.cell (World.block_lt_of_cell? w _ hw106_2)).trans hw106_2),((HB.out.cell (World.block_lt_of_cell? w _ hw106_3)).trans hw106_3)⟩ (fun hHeld=>?_)
     clear hK K
     refine pN 26 ?_
     refine one_ (i:=13) (N:=some 27) #[true,true,true,true,true,true,true,true,true,true,true,true,true,true,false,false,false,false] rfl rfl (one_of HT_.out zaq) zbp (fun K hK=>?_)
     refine goes_ Tryd.func38 zaq rfl #[.slice (some ad106) l0.length c0,.int .i64 a1,.string ((⟨#[117,110,100,111,32]⟩:ByteArray)++t105),.slice Ao19 t107.length co19] (by rfl) rfl rfl zd ?_
     with_reducible refine (impl_withVersion.calls _ _ l0 a1 ((⟨#[117,110,100,111,32]⟩:ByteArray)++t105) _ _ t107 t110 t111 _ ?side1 ?side2 ?side3 ?side4 A11.out).mono ?_
     (case side1=>exact zm)
     (case side2=>exact HC0.out)
     (case side3=>repeat (first|exact (Kd.V_reads' HO109.out).2.2|(with_reducible refine Kd.C_alloc ?_ _)|(with_reducible refine Kd.C_drewN ?_ _)|(with_reducible refine Kd.C_drew ?_)))
     (case side4=>exact (Kd.V_reads' HO109.out).2.1)
     rintro e w20 ⟨v112,rfl,ho0,hb⟩
     refine ⟨_,rfl,?_⟩
     replace HO103:=Aside0.mk (Kd.R_below zae hb)
     replace HO109:=Aside0.mk (Kd.V_elder' (by (with_reducible repeat (first|apply Kd.V_alloc|apply Kd.V_drewN|apply Kd.V_drew));exact HO109.out) (Kd.S_base ho0) hb)
     have HO113:=Aside0.mk (Kd.S_lower ho0 (below_size za))
     replace HB:=Aside0.mk (below_step za hb)
     (try clear hb)
     (try clear hb2)
     (try clear hk)
     (try clear hi)
     (try clear ho0)
     refine hK.out _ _ ⟨((HB.out.cell (World.block_lt_of_cell? w _ hw106_0)).trans hw106_0),((HB.out.cell (World.block_lt_of_cell? w _ hw106_1)).trans hw106_1),((HB.out.cell (World.block_lt_of_cell? w _ hw106_2)).trans hw106_2),((HB.out.cell (World.block_lt_of_cell? w _ hw106_3)).trans hw106_3)⟩ (fun hHeld=>?_)
     clear hK K
     refine pN 27 ?_
     refine pA 14 28 ?_
     refine pA 15 29 ?_
     refine pA 16 4 ?_
     refine pA 17 5 ?_
     refine done_ (done_of HT_.out zaq) ?_
     try go_wp2
     go_ret2
     exact ⟨_,by first|rfl|(simp [errW_none,errW_some]<;>rfl)|(simp only [←hji7];first|rfl|(simp [errW_none,errW_some]<;>rfl))|(simp [*,errW_none,errW_some]<;>rfl),by (with_reducible repeat (first|apply Kd.S_alloc|apply Kd.S_drewN|apply Kd.S_drew));exact HO113.out,za⟩
    ·rw [if_neg c9] at H
     exact absurd H zca
   ·rw [if_neg c8] at H
    exact absurd H zca
  ·rw [if_neg c6] at H
   exact absurd H zca
 ·rw [if_neg c4] at H
  have c4b0:(t104 == 0)=false:=beq_eq_false_iff_ne.mpr c4
  have c4b1:(t104 != 0)=true:=bne_iff_ne.mpr c4
  simp only [Option.some.injEq,Prod.mk.injEq] at H
  obtain ⟨rfl,rfl⟩:=H
  go_enter Tryd.func13,Tryd.ntmps13
  go_wp2_with (first|((with_reducible refine gate_dst (N:=9) rfl ?_);refine Kd.R_lit (Kd.int .i64) _ 2 ?hg (N:=9) ?hd (xs:=([a1]:List Int)) (inner:=[.int .i64 a1]) (ok:=fun _=>True) (okp:=fun _=>True) ?hr ?hp (fun _ hk=>hk) trivial (Below.refl _ _) (Nat.le_refl _) zca ?_;(case hd=>rfl);(case hg=>rfl);(case hr=>exact zv);(case hp=>exact (Reps.one (show Kd.M (Kd.int .i64) _ _ _ a1 [.int .i64 a1] from rfl) (Reps.none _ _)));intro v102 w21 ho22 hb hg_ hnew_;clear hg_ hnew_;(first|rw [←Ny101.out] at ho22|(simp only [Int.reduceToNat] at ho22;rw [←Ny101.out] at ho22));have HO103:=Aside0.mk (Kd.R_lower ho22 (below_size za));replace HB:=Aside0.mk (below_step za hb);clear hb ho22;obtain ⟨Ao23,co23,eo23⟩:=Kd.R_slice HO103.out;subst eo23)|((with_reducible refine gate_callee (f:=39) rfl ?_);refine goesL_ (some 10) rfl rfl Tryd.func39 zaq rfl #[.slice A0 l0.length c0,.slice Ao23 y101.length co23] rfl zd ?_;(with_reducible refine (impl_versionsCode.calls k _ _ l0 _ _ y101 t104 _ ?side1 ?side2 ?side3 ?side4 A3.out).mono ?_);(case side1=>exact zm);(case side2=>exact HC0.out);(case side3=>exact zbc);(case side4=>exact (Kd.R_reads' HO103.out).2.1);rintro e w24 ⟨rfl,hb⟩;refine ⟨_,rfl,?_⟩;replace HO103:=Aside0.mk (Kd.R_below zae hb);replace HB:=Aside0.mk (below_step za hb);(try clear hb);(try clear hb2);(try clear hk);(try clear hi)))
  go_ret2
  exact ⟨_,zj,by first|exact Kd.S_nil _ _ _ _ _|exact Kd.N_nil _ _ _ _ _|exact Kd.V_nil _ _ _ _ _|exact Kd.Q_nil _ _ _ _ _|exact Kd.R_nil _ _ _ _ _,za⟩

def impl_lineOf.l0:Nat→List (S48)→Int→List Int→Option (List Int)
 | 0,_,_,_=>none
 | k+1,x0,x1,x5=>if x1 > 0 then (if x5.length<17592186044416 then (if 0≤(wrap64 (x1 - 1)) then (if (wrap64 (x1 - 1))<(x0.length:Int) then (impl_lineOf.l0 k x0 ((rd_T48 x0 (wrap64 (x1 - 1))).f1) (x5++[x1])) else (none)) else (none)) else (none)) else (some x5)
def impl_lineOf.f (k:Nat) (l0:List (S48)) (a1:Int):Option (List Int):=impl_lineOf.l0 k l0 a1 ([]:List Int)
set_option maxHeartbeats 8000000 in
set_option maxRecDepth 100000 in
theorem impl_lineOf.calls (k:Nat) (A0:Option Addr) (c0:Nat) (l0:List (S48)) (a1:Int) (r:List Int) (w:World) (hr0:Kd.C k48 w A0 l0.length l0) (hc0:l0.length≤c0) (h:impl_lineOf.f k l0 a1=some r) :
 Calls Tryd.prog 42 #[.slice A0 l0.length c0,.int .i64 a1] w fun e w'=>∃v0_:Value,e = .returned (v0_)∧Kd.R (Kd.int .i64) 2 w' w.heap.size (fun _=>True) v0_ r∧Below w.heap.size w w':=by
 have HR0:=Aside0.mk hr0
 have HC0:=Aside0.mk hc0
 clear hr0 hc0
 have HB:=Aside0.mk (Below.refl w.heap.size w)
 have H:(impl_lineOf.l0 k l0 a1 ([]:List Int))=some r:=h
 clear h
 have H':=Aside0.mk H
 clear H
 go_enter Tryd.func42,Tryd.ntmps42
 go_wp2
 go_loopg [1,5] k (fun kq v1 v5 w'=>∃(x1_1:Int) (x5_1:List Int),v1 = .int .i64 x1_1∧Aside0 (impl_lineOf.l0 kq l0 x1_1 x5_1=some r)∧Aside0 (kq≤k)∧Aside0 (Kd.R (Kd.int .i64) 2 w' w.heap.size (fun _=>True) v5 x5_1)∧Aside0 (Below w.heap.size w w'))
 case atStart=>exact ⟨(a1),(([]:List Int)),zi,H',⟨Nat.le_refl _⟩,⟨zba⟩,⟨za⟩⟩
 case round=>
  clear H'
  try clear p2
  obtain ⟨x1_1,x5_1,rfl,HA,HK1,HO_5,HB⟩:=hrel
  cases gk with
  | zero=>exact absurd HA.out (by simp [impl_lineOf.l0])
  | succ k1=>
   have H:=HA.out
   clear HA
   simp only [impl_lineOf.l0] at H
   by_cases c3:x1_1 > 0
   ·rw [if_pos c3] at H
    have c3b0:decide (0<x1_1)=true:=decide_eq_true c3
    clear c3
    by_cases c4:x5_1.length<17592186044416
    ·rw [if_pos c4] at H
     have LMc4:=Aside0.mk c4
     clear c4
     obtain ⟨y101,hy101⟩:∃y_:List Int,y_=(x5_1++[x1_1]):=⟨_,rfl⟩
     replace H:(if 0≤(wrap64 (x1_1 - 1)) then (if (wrap64 (x1_1 - 1))<(l0.length:Int) then (impl_lineOf.l0 k1 l0 ((rd_T48 l0 (wrap64 (x1_1 - 1))).f1) y101) else (none)) else (none))=some r:=by first|(rw [hy101];with_reducible exact H)|(have H2_:=(Option.bind_some _ _).symm.trans H;rw [hy101];with_reducible exact H2_)|(have H2_:=(Option.bind_some _ _).symm.trans H;with_reducible exact H2_)|with_reducible exact H|(rw [hy101];exact H)|exact H
     have Ny101:=Aside0.mk hy101
     clear hy101
     obtain ⟨ji5,hji5⟩:∃j_:Int,(wrap64 (x1_1 - 1))=j_:=⟨_,rfl⟩
     replace H:(if 0≤(ji5) then (if (ji5)<(l0.length:Int) then (impl_lineOf.l0 k1 l0 ((rd_T48 l0 (ji5)).f1) y101) else (none)) else (none))=some r:=by first|(rw [hji5] at H;exact H)|(simp only [hji5] at H ⊢;exact H)
     have hji5w:(IntKind.i64.wrap (x1_1 - 1))=ji5:=(i64_w _).trans hji5
     by_cases c6:0≤(ji5)
     ·rw [if_pos c6] at H
      have c6b0:decide (0≤(ji5))=true:=decide_eq_true c6
      clear c6
      by_cases c7:(ji5)<(l0.length:Int)
      ·rw [if_pos c7] at H
       have c7b0:decide ((ji5)<(l0.length:Int))=true:=decide_eq_true c7
       clear c7
       have H':=Aside0.mk H
       clear H
       go_wp2_with (first|((with_reducible refine gate_builtin (b:=.append) (xs:=#[.tmp 14,.tmp 16]) rfl ?_);at_builtin;refine Kd.R_append (Kd.int .i64) (w0:=w) w.heap.size rfl (.tmp 14) (.tmp 16) 39 2 (.int .i64 0) 8 rfl Tryd.underlying39 info2 rfl zbp zbn u5 x5_1 x1_1 [.int .i64 x1_1] (fun _=>True) (fun _=>False) rfl rfl ?aP (fun _ hk=>hk.elim) ?aF ?aO ?aB ?aS ?aL ?_;(case aP=>exact rfl);(case aB=>exact za);(case aF=>exact (fun _ _=>trivial));(case aO=>exact zq);(case aS=>exact (below_size za));(case aL=>have:=LMc4.out;omega);intro v102 w8 ho hb hg hat;rw [←Ny101.out] at ho;replace HB:=Aside0.mk (hb);have HO103:=Aside0.mk (ho);clear HO_5;clear ho hb hg hat;have p104:0≤((ji5):Int):=of_decide_eq_true zb;have q104:(ji5)<(l0.length:Int):=of_decide_eq_true zb;obtain ⟨ad104,A104_3,c104_3,e104,hx104_0,hx104_1,hx104_2,hx104_3,hl104_3,hi104_3⟩:=at_T48 HR0.out (ji5) p104 q104;cases e104;replace hx104_0:=(HB.out.cell (World.block_lt_of_cell? w _ hx104_0)).trans hx104_0;replace hx104_1:=(HB.out.cell (World.block_lt_of_cell? w _ hx104_1)).trans hx104_1;replace hx104_2:=(HB.out.cell (World.block_lt_of_cell? w _ hx104_2)).trans hx104_2;replace hx104_3:=(HB.out.cell (World.block_lt_of_cell? w _ hx104_3)).trans hx104_3;have HR104_3:=Aside0.mk hi104_3;have HC104_3:=Aside0.mk hl104_3;clear hi104_3 hl104_3;replace p104:=eq_true p104;replace q104:=eq_true q104))
       go_roundg k1
       case measure=>have:=HK1.out;omega
       case rel=>exact ⟨((rd_T48 l0 (ji5)).f1),(y101),(by first|rfl|(simp;done)|(simp only [←hji5]<;>(first|rfl|simp))|(simp [*];done)),H',⟨zci⟩,⟨zae⟩,⟨za⟩⟩
      ·rw [if_neg c7] at H
       exact absurd H zca
     ·rw [if_neg c6] at H
      exact absurd H zca
    ·rw [if_neg c4] at H
     exact absurd H zca
   ·rw [if_neg c3] at H
    have c3b0:decide (0<x1_1)=false:=decide_eq_false c3
    clear c3
    obtain rfl:=Option.some.inj H
    go_wp2
    go_ret
    exact ⟨_,zj,zq,za⟩

def impl_AncestorsOf.f (k:Nat) (l0:List (S48)) (a1:Int):Option (List Int × Int):=(impl_versionsCode.f k l0 (([a1]:List Int))).bind fun t104=>(if t104=0 then ((impl_lineOf.f k l0 a1).bind fun t105=>(if 1≤(t105.length:Int) then (some ((t105.drop (1:Int).toNat),0)) else (none))) else (some (([]:List Int),t104)))
set_option maxHeartbeats 8000000 in
set_option maxRecDepth 100000 in
theorem impl_AncestorsOf.calls (k:Nat) (A0:Option Addr) (c0:Nat) (l0:List (S48)) (a1:Int) (r1:List Int) (r2:Int) (w:World) (hr0:Kd.C k48 w A0 l0.length l0) (hc0:l0.length≤c0) (h:impl_AncestorsOf.f k l0 a1=some (r1,r2)) :
 Calls Tryd.prog 14 #[.slice A0 l0.length c0,.int .i64 a1] w fun e w'=>∃v0_:Value,e = .returned (.tuple #[v0_,.int .i64 r2])∧Kd.Q (Kd.int .i64) 2 w' w.heap.size (fun _=>True) v0_ r1∧Below w.heap.size w w':=by
 have HR0:=Aside0.mk hr0
 have HC0:=Aside0.mk hc0
 clear hr0 hc0
 have HB:=Aside0.mk (Below.refl w.heap.size w)
 have H:((impl_versionsCode.f k l0 (([a1]:List Int))).bind fun t104=>(if t104=0 then ((impl_lineOf.f k l0 a1).bind fun t105=>(if 1≤(t105.length:Int) then (some ((t105.drop (1:Int).toNat),0)) else (none))) else (some (([]:List Int),t104))))=some (r1,r2):=h
 clear h
 obtain ⟨y101,hy101⟩:∃y_:List Int,y_=(([a1]:List Int)):=⟨_,rfl⟩
 replace H:((impl_versionsCode.f k l0 y101).bind fun t104=>(if t104=0 then ((impl_lineOf.f k l0 a1).bind fun t105=>(if 1≤(t105.length:Int) then (some ((t105.drop (1:Int).toNat),0)) else (none))) else (some (([]:List Int),t104))))=some (r1,r2):=by first|(rw [hy101];with_reducible exact H)|(have H2_:=(Option.bind_some _ _).symm.trans H;rw [hy101];with_reducible exact H2_)|(have H2_:=(Option.bind_some _ _).symm.trans H;with_reducible exact H2_)|with_reducible exact H|(rw [hy101];exact H)|exact H
 have Ny101:=Aside0.mk hy101
 clear hy101
 replace H:=Option.bind_eq_some_iff.mp H
 obtain ⟨t104,A30,H⟩:=H
 replace H:(if t104=0 then ((impl_lineOf.f k l0 a1).bind fun t105=>(if 1≤(t105.length:Int) then (some ((t105.drop (1:Int).toNat),0)) else (none))) else (some (([]:List Int),t104)))=some (r1,r2):=H
 have A3:=Aside0.mk A30
 clear A30
 by_cases c4:t104=0
 ·rw [if_pos c4] at H
  have c4b0:(t104 == 0)=true:=beq_iff_eq.mpr c4
  have c4b1:(t104 != 0)=false:=bne_eq_false_iff_eq.mpr c4
  clear c4
  replace H:=Option.bind_eq_some_iff.mp H
  obtain ⟨t105,A50,H⟩:=H
  replace H:(if 1≤(t105.length:Int) then (some ((t105.drop (1:Int).toNat),0)) else (none))=some (r1,r2):=H
  have A5:=Aside0.mk A50
  clear A50
  by_cases c6:1≤(t105.length:Int)
  ·rw [if_pos c6] at H
   have c6b0:=eq_true c6
   have c6b1:decide (1≤(t105.length:Int))=true:=decide_eq_true c6
   clear c6
   obtain ⟨y108,hy108⟩:∃y_:List Int,y_=(t105.drop (1:Int).toNat):=⟨_,rfl⟩
   replace H:(some (y108,0))=some (r1,r2):=by first|(rw [hy108];with_reducible exact H)|(have H2_:=(Option.bind_some _ _).symm.trans H;rw [hy108];with_reducible exact H2_)|(have H2_:=(Option.bind_some _ _).symm.trans H;with_reducible exact H2_)|with_reducible exact H|(rw [hy108];exact H)|exact H
   have Ny108:=Aside0.mk hy108
   clear hy108
   simp only [Option.some.injEq,Prod.mk.injEq] at H
   obtain ⟨rfl,rfl⟩:=H
   go_enter Tryd.func14,Tryd.ntmps14
   go_wp2_with (first|((with_reducible refine gate_dst (N:=9) rfl ?_);refine Kd.R_lit (Kd.int .i64) _ 2 ?hg (N:=9) ?hd (xs:=([a1]:List Int)) (inner:=[.int .i64 a1]) (ok:=fun _=>True) (okp:=fun _=>True) ?hr ?hp (fun _ hk=>hk) trivial (Below.refl _ _) (Nat.le_refl _) zca ?_;(case hd=>rfl);(case hg=>rfl);(case hr=>exact zv);(case hp=>exact (Reps.one (show Kd.M (Kd.int .i64) _ _ _ a1 [.int .i64 a1] from rfl) (Reps.none _ _)));intro v102 w7 ho8 hb hg_ hnew_;clear hg_ hnew_;(first|rw [←Ny101.out] at ho8|(simp only [Int.reduceToNat] at ho8;rw [←Ny101.out] at ho8));have HO103:=Aside0.mk (Kd.R_lower ho8 (below_size za));replace HB:=Aside0.mk (below_step za hb);clear hb ho8;obtain ⟨Ao9,co9,eo9⟩:=Kd.R_slice HO103.out;subst eo9)|((with_reducible refine gate_callee (f:=39) rfl ?_);refine goesL_ (some 10) rfl rfl Tryd.func39 zaq rfl #[.slice A0 l0.length c0,.slice Ao9 y101.length co9] rfl zd ?_;(with_reducible refine (impl_versionsCode.calls k _ _ l0 _ _ y101 t104 _ ?side1 ?side2 ?side3 ?side4 A3.out).mono ?_);(case side1=>exact zm);(case side2=>exact HC0.out);(case side3=>exact zbc);(case side4=>exact (Kd.R_reads' HO103.out).2.1);rintro e w10 ⟨rfl,hb⟩;refine ⟨_,rfl,?_⟩;replace HO103:=Aside0.mk (Kd.R_below zae hb);replace HB:=Aside0.mk (below_step za hb);(try clear hb);(try clear hb2);(try clear hk);(try clear hi))|((with_reducible refine gate_callee (f:=42) rfl ?_);refine goesL_ (some 16) rfl rfl Tryd.func42 zaq rfl #[.slice A0 l0.length c0,.int .i64 a1] rfl zd ?_;(with_reducible refine (impl_lineOf.calls k _ _ l0 a1 t105 _ ?side1 ?side2 A5.out).mono ?_);(case side1=>exact zm);(case side2=>exact HC0.out);rintro e w11 ⟨v106,rfl,ho0,hb⟩;refine ⟨_,rfl,?_⟩;have n0_:=Aside0.mk (Kd.R_elder' zae (Kd.R_base ho0) hb);have n1_:=Aside0.mk (Kd.R_lower (Kd.R_new' ho0 (Kd.R_lt zae)) (below_size za));have n2_:=Aside0.mk (below_step za hb);clear HO103;clear HB;have HO103:=n0_;have HO107:=n1_;have HB:=n2_;clear n0_ n1_ n2_;(try clear hb);(try clear hb2);(try clear hk);(try clear hi);(try clear ho0);obtain ⟨Ao12,co12,eo12⟩:=Kd.R_slice HO107.out;subst eo12;have n_:=Aside0.mk (Kd.R_mono (ok':=(fun k_=>some k_≠(.slice Ao9 y101.length co9:Value).ownBlock)) HO107.out (fun k_ hk=>hk.2));clear HO107;have HO107:=n_;clear n_;have q13:(1:Int)≤((t105.length:Int):Int):=of_decide_eq_true zb;obtain ⟨i013,hi013,_,hsz13,_⟩:=info_parts info2;have hcut13:=cut_from (P:=Tryd.prog) 39 2 .i64 Tryd.underlying39 hi013 1 hsz13 Ao12 t105.length co12 1 zbn q13;have hr13:=Kd.Q_drop (k:=(1:Int).toNat) (Kd.Q_of_R HO107.out) zbn;obtain ⟨A13,hA13⟩:∃A1,A1=(if co12=(1:Int).toNat then Ao12 else (Ao12:Option Addr).map (·.add ((1:Int).toNat*1))):=⟨_,rfl⟩;obtain ⟨c13,hc13⟩:∃c1,c1=co12 - (1:Int).toNat:=⟨_,rfl⟩;have hy13:y108.length=t105.length - (1:Int).toNat:=(by rw [Ny108.out,List.length_drop]);rw [←Ny108.out] at hr13;rw [←hy13,←hA13,←hc13] at hcut13;replace hr13:Kd.Q (Kd.int .i64) 2 w11 w.heap.size (fun k_=>some k_≠(.slice Ao9 y101.length co9:Value).ownBlock) (.slice A13 y108.length c13) y108:=(by rw [hA13,hc13,hy13];exact hr13);have HE13:Aside0 ((Value.slice A13 y108.length c13).ownBlock=(.slice Ao12 t105.length co12:Value).ownBlock):=⟨by rw [hA13];split<;>(cases (Ao12:Option Addr)<;>rfl)⟩;clear hy13 hi013 hsz13 HO107 hA13 hc13;have HO110:=Aside0.mk hr13;clear hr13;replace q13:=eq_true q13;have n_:=Aside0.mk (Kd.R_mono (ok':=fun k_=>(True∧some k_≠(.slice A13 y108.length c13:Value).ownBlock)) HO103.out (fun k_ hk=>⟨trivial,(by rw [HE13.out];exact hk.2)⟩));clear HO103;have HO103:=n_;clear n_))
   go_ret2
   exact ⟨_,zj,by (with_reducible repeat (first|apply Kd.Q_alloc|apply Kd.Q_drewN|apply Kd.Q_drew));exact Kd.Q_mono HO110.out (fun _ hk=>trivial),za⟩
  ·rw [if_neg c6] at H
   exact absurd H zca
 ·rw [if_neg c4] at H
  have c4b0:(t104 == 0)=false:=beq_eq_false_iff_ne.mpr c4
  have c4b1:(t104 != 0)=true:=bne_iff_ne.mpr c4
  simp only [Option.some.injEq,Prod.mk.injEq] at H
  obtain ⟨rfl,rfl⟩:=H
  go_enter Tryd.func14,Tryd.ntmps14
  go_wp2_with (first|((with_reducible refine gate_dst (N:=9) rfl ?_);refine Kd.R_lit (Kd.int .i64) _ 2 ?hg (N:=9) ?hd (xs:=([a1]:List Int)) (inner:=[.int .i64 a1]) (ok:=fun _=>True) (okp:=fun _=>True) ?hr ?hp (fun _ hk=>hk) trivial (Below.refl _ _) (Nat.le_refl _) zca ?_;(case hd=>rfl);(case hg=>rfl);(case hr=>exact zv);(case hp=>exact (Reps.one (show Kd.M (Kd.int .i64) _ _ _ a1 [.int .i64 a1] from rfl) (Reps.none _ _)));intro v102 w14 ho15 hb hg_ hnew_;clear hg_ hnew_;(first|rw [←Ny101.out] at ho15|(simp only [Int.reduceToNat] at ho15;rw [←Ny101.out] at ho15));have HO103:=Aside0.mk (Kd.R_lower ho15 (below_size za));replace HB:=Aside0.mk (below_step za hb);clear hb ho15;obtain ⟨Ao16,co16,eo16⟩:=Kd.R_slice HO103.out;subst eo16)|((with_reducible refine gate_callee (f:=39) rfl ?_);refine goesL_ (some 10) rfl rfl Tryd.func39 zaq rfl #[.slice A0 l0.length c0,.slice Ao16 y101.length co16] rfl zd ?_;(with_reducible refine (impl_versionsCode.calls k _ _ l0 _ _ y101 t104 _ ?side1 ?side2 ?side3 ?side4 A3.out).mono ?_);(case side1=>exact zm);(case side2=>exact HC0.out);(case side3=>exact zbc);(case side4=>exact (Kd.R_reads' HO103.out).2.1);rintro e w17 ⟨rfl,hb⟩;refine ⟨_,rfl,?_⟩;replace HO103:=Aside0.mk (Kd.R_below zae hb);replace HB:=Aside0.mk (below_step za hb);(try clear hb);(try clear hb2);(try clear hk);(try clear hi)))
  go_ret2
  exact ⟨_,zj,Kd.Q_of_R zba,za⟩
end Go.Proofs.YtocegmkifmdlcaaDoor.P

namespace Go.Proofs.YtocegmkifmdlcaaDoor.P
open Go.RowKit Go.Proofs.YtocegmkifmdlcaaDoorW.PrintWords Go.Proofs.YtocegmkifmdlcaaDoorW.PrintLast Go.Proofs.YtocegmkifmdlcaaDoorW.PrintMore
attribute [local go_sem] max2_int min2_int max_two min_two max_three min_three max_four min_four str_leq str_gtr str_geq
set_option linter.unusedVariables false
set_option linter.unusedSimpArgs false
set_option maxHeartbeats 1600000
set_option maxRecDepth 100000
def impl_HeadsOf.head (l0:List S48) (v:S48):Bool:=!(l0.any fun x=>x.f1 == v.f0)
def impl_HeadsOf.heads (l0:List S48) (l:List S48):List Int:=(l.filter (impl_HeadsOf.head l0)).map (·.f0)
def impl_HeadsOf.f (k:Nat) (l0:List S48):Option (List Int × Int):=(impl_ValidHistory.f k l0).bind fun t=>if t=true then (if l0.length<17592186044416 then some (impl_HeadsOf.heads l0 l0,0) else none) else some ([],1)
theorem impl_HeadsOf.past {w:World} {a:Addr} {v:Value} (h:w.cell? a=some v) (o:Obj):(w.alloc o).cell? a=some v:=pw_cell_below (below_alloc (Below.refl _ _) o) h
theorem impl_HeadsOf.clo (x:S48) (A_3:Option Addr) (c_3:Nat) (n:Int) (b:Nat) (w:World) (h1:w.cell? ⟨b,0,none⟩=some (.int .i64 n)) :
 Calls Tryd.prog 44 #[.agg #[.int .i64 (x.f0),.int .i64 (x.f1),.string (x.f2),.slice A_3 (x.f3).length c_3],.pointer (some ⟨b,0,none⟩)] w fun e w'=>e = .returned (.bool (x.f1 == n))∧Below w.heap.size w w':=by
 have h3:=fun o=>impl_HeadsOf.past h1 o
 go_enter Tryd.func44,Tryd.ntmps44
 go_wp2_with fail
 go_ret
 exact ⟨rfl,below_alloc (Below.refl _ _) _⟩
theorem impl_HeadsOf.take_succ (l0:List S48) {k:Nat} (hk:k<l0.length):impl_HeadsOf.heads l0 (l0.take (k+1))=if impl_HeadsOf.head l0 l0[k]=true then impl_HeadsOf.heads l0 (l0.take k)++[l0[k].f0] else impl_HeadsOf.heads l0 (l0.take k):=by
 unfold impl_HeadsOf.heads
 rw [List.take_succ_eq_append_getElem hk,List.filter_append,List.map_append]
 by_cases h:impl_HeadsOf.head l0 l0[k]=true
 ·rw [if_pos h];simp [h]
 ·rw [if_neg h];simp [h]
theorem impl_HeadsOf.len (l0 l:List S48):(impl_HeadsOf.heads l0 l).length≤l.length:=by
 unfold impl_HeadsOf.heads;rw [List.length_map];exact List.length_filter_le _ _
theorem impl_HeadsOf.idx (p:S48→Option Bool) (cap0:Value) (A0:Option Addr) (c0:Nat) (l0:List S48) (r:Bool) (w:World) (hr0:Kd.C k48 w A0 l0.length l0)
 (hclo:∀(x:S48) (b:Bool),p x=some b→∀(A_3:Option Addr) (c_3:Nat) (W:World),Below w.heap.size w W→x.f3.length≤c_3→Kd.C k57 W A_3 x.f3.length x.f3→Calls Tryd.prog 44 #[.agg #[.int .i64 (x.f0),.int .i64 (x.f1),.string (x.f2),.slice A_3 (x.f3).length c_3],cap0] W fun e W'=>e = .returned (.bool b)∧Below W.heap.size W W') (h:anyO p l0=some r) :
 Calls Tryd.prog 61 #[.slice A0 l0.length c0,.func (.func 44) #[] #[cap0]] w fun e w'=>∃n:Int,e = .returned (.int .i64 n)∧(r=decide (0≤n))∧Below w.heap.size w w':=by
 have hlen:l0.length≤9223372036854775807:=hr0.2.1
 have hu:=Tryd.underlying48
 have HR:=Aside0.mk hr0
 have HCL:=Aside0.mk hclo
 have HH:=Aside0.mk h
 clear hr0 hclo h
 go_enter Tryd.func61,Tryd.ntmps61
 go_wp2_with fail
 go_loopw [8] (fun i wr=>∃k:Nat,k≤l0.length∧i = .int .i64 k∧Aside0 (anyO p (l0.drop k)=some r)∧Aside0 (Below w.heap.size w wr)) (fun i _=>l0.length - (intOf i).toNat)
 case atStart=>exact ⟨0,Nat.zero_le _,rfl,⟨by rw [List.drop_zero];exact HH.out⟩,⟨Below.refl _ _⟩⟩
 case round=>
  obtain ⟨k,hk,rfl,HN,HB⟩:=hrel
  clear HH
  by_cases hlt:k<l0.length
  ·obtain ⟨ad,A_3,c_3,e0,hx0,hx1,hx2,hx3,hl3,hi3⟩:=at_T48 HR.out (k:Int) zbn zbn
   subst e0
   replace hx0:=(HB.out.cell (World.block_lt_of_cell? w _ hx0)).trans hx0
   (try simp only [Int.toNat_natCast] at hx0)
   replace hx1:=(HB.out.cell (World.block_lt_of_cell? w _ hx1)).trans hx1
   (try simp only [Int.toNat_natCast] at hx1)
   replace hx2:=(HB.out.cell (World.block_lt_of_cell? w _ hx2)).trans hx2
   (try simp only [Int.toNat_natCast] at hx2)
   replace hx3:=(HB.out.cell (World.block_lt_of_cell? w _ hx3)).trans hx3
   (try simp only [Int.toNat_natCast] at hx3)
   have er:(rd_T48 l0 (k:Int))=l0[k]:=by simp [rd_T48,List.getD_eq_getElem?_getD,List.getElem?_eq_getElem hlt]
   obtain ⟨b,hb,hbr⟩:=anyO_drop hlt HN.out
   rw [←er] at hb
   have HG:=Aside0.mk (HCL.out (rd_T48 l0 (k:Int)) b hb A_3 c_3 wr HB.out hl3 (Kd.C_below hi3 HB.out))
   have HBR:=Aside0.mk hbr
   clear hb hbr er HN hl3 hi3
   cases b with
   | true=>
    go_wp2_with (go_at_call 44;refine HG.out.mono ?_;rintro e w1 ⟨rfl,hb1⟩;have HB1:=Aside0.mk (below_step HB.out hb1);clear hb1)
    go_ret
    refine ⟨k,rfl,?_,HB1.out⟩
    rw [decide_eq_true zbn]
    rcases HBR.out with h|h
    ·exact h.2
    ·exact absurd h.1 zbp
   | false=>
    go_wp2_with (go_at_call 44;refine HG.out.mono ?_;rintro e w1 ⟨rfl,hb1⟩;have HB1:=Aside0.mk (below_step HB.out hb1);clear hb1)
    go_roundw
    case rel=>
     refine ⟨k+1,zbn,by go_num,⟨?_⟩,HB1⟩
     rcases HBR.out with h|h
     ·exact absurd h.1 zbp
     ·exact h.2
    case measure=>simp [intOf];omega
  ·have hkl:k=l0.length:=by omega
   have hd1:decide ((k:Int)<(l0.length:Int))=false:=decide_eq_false zbn
   have hd2:decide (k<l0.length)=false:=decide_eq_false zbn
   have HN':=HN
   have HK:=Aside0.mk hkl
   clear hkl HN
   go_wp2_with fail
   go_ret
   refine ⟨-1,rfl,?_,HB.out⟩
   rw [decide_eq_false zbn]
   have h:=HN'.out
   rw [HK.out,List.drop_length] at h
   exact (Option.some.inj h).symm
theorem impl_HeadsOf.has (p:S48→Option Bool) (cap0:Value) (A0:Option Addr) (c0:Nat) (l0:List S48) (r:Bool) (w:World) (hr0:Kd.C k48 w A0 l0.length l0)
 (hclo:∀(x:S48) (b:Bool),p x=some b→∀(A_3:Option Addr) (c_3:Nat) (W:World),Below w.heap.size w W→x.f3.length≤c_3→Kd.C k57 W A_3 x.f3.length x.f3→Calls Tryd.prog 44 #[.agg #[.int .i64 (x.f0),.int .i64 (x.f1),.string (x.f2),.slice A_3 (x.f3).length c_3],cap0] W fun e W'=>e = .returned (.bool b)∧Below W.heap.size W W') (h:anyO p l0=some r) :
 Calls Tryd.prog 43 #[.slice A0 l0.length c0,.func (.func 44) #[] #[cap0]] w fun e w'=>e = .returned (.bool r)∧Below w.heap.size w w':=by
 have HC:=Aside0.mk (impl_HeadsOf.idx p cap0 A0 c0 l0 r w hr0 hclo h)
 clear hr0 hclo h
 go_enter Tryd.func43,Tryd.ntmps43
 go_wp2_with (go_at_call 61;refine HC.out.mono ?_;rintro e w1 ⟨n,rfl,hn,hb⟩;have HB:=Aside0.mk hb;have HN:=Aside0.mk hn;clear hb hn)
 go_ret
 exact ⟨by rw [HN.out];rfl,HB.out⟩
theorem impl_HeadsOf.calls (k:Nat) (A0:Option Addr) (c0:Nat) (l0:List S48) (r1:List Int) (r2:Int) (w:World) (hr0:Kd.C k48 w A0 l0.length l0) (hc0:l0.length≤c0) (h:impl_HeadsOf.f k l0=some (r1,r2)) :
 Calls Tryd.prog 15 #[.slice A0 l0.length c0] w fun e w'=>∃v0_:Value,e = .returned (.tuple #[v0_,.int .i64 r2])∧Kd.R (Kd.int .i64) 2 w' w.heap.size (fun _=>True) v0_ r1∧Below w.heap.size w w':=by
 have hmax:l0.length≤9223372036854775807:=hr0.2.1
 have HR0:=Aside0.mk hr0
 have HC0:=Aside0.mk hc0
 have HB:=Aside0.mk (Below.refl w.heap.size w)
 have hmf:∀(fn:Fn) (first cap:Array Value) (w:World),(Instr.makeFunc fn first cap).run Tryd.prog w = .ok (.func fn first cap) w:=fun _ _ _ _=>rfl
 clear hr0 hc0
 unfold impl_HeadsOf.f at h
 obtain ⟨t,ht,h⟩:=Option.bind_eq_some_iff.1 h
 have HT:=Aside0.mk ht
 clear ht
 cases t with
 | false=>
  simp only [Bool.false_eq_true,if_false,Option.some.injEq,Prod.mk.injEq] at h
  obtain ⟨rfl,rfl⟩:=h
  go_enter Tryd.func15,Tryd.ntmps15
  go_wp2_with (go_at_call 35;refine (impl_ValidHistory.calls k _ _ l0 false _ (by exact HR0.out) (by exact HC0.out) HT.out).mono ?_;rintro e w1 ⟨rfl,hb⟩;have HB1:=Aside0.mk (below_step za hb);clear hb)
  go_ret2
  exact ⟨_,rfl,Kd.R_nil _ _ _ _ _,HB1.out⟩
 | true=>
  simp only [if_true] at h
  by_cases hlen:l0.length<17592186044416
  rotate_left
  ·rw [if_neg hlen] at h;exact absurd h zca
  rw [if_pos hlen] at h
  simp only [Option.some.injEq,Prod.mk.injEq] at h
  obtain ⟨hr1,rfl⟩:=h
  have HR1:=Aside0.mk hr1
  have HLEN:=Aside0.mk hlen
  clear hr1 hlen
  go_enter Tryd.func15,Tryd.ntmps15
  go_wp2_with (go_at_call 35;refine (impl_ValidHistory.calls k _ _ l0 true _ (by exact HR0.out) (by exact HC0.out) HT.out).mono ?_;rintro e w1 ⟨rfl,hb⟩;have HB1:=Aside0.mk (below_step za hb);clear hb HB;have HB:=HB1;clear HB1)
  go_loopw [4,12] (fun v4 i wr=>∃k:Nat,k≤l0.length∧i = .int .i64 k∧Aside0 (Kd.R (Kd.int .i64) 2 wr w.heap.size (fun _=>True) v4 (impl_HeadsOf.heads l0 (l0.take k)))∧Aside0 (Below w.heap.size w wr)) (fun _ i _=>l0.length - (intOf i).toNat)
  case atStart=>exact ⟨0,Nat.zero_le _,rfl,⟨by exact Kd.R_nil _ _ _ _ _⟩,⟨za⟩⟩
  case round=>
   obtain ⟨k,hk,rfl,HO,HB⟩:=hrel
   by_cases hlt:k<l0.length
   ·obtain ⟨ad,A_3,c_3,e0,hx0,hx1,hx2,hx3,hl3,hi3⟩:=at_T48 HR0.out (k:Int) zbn zbn
    subst e0
    replace hx0:=(HB.out.cell (World.block_lt_of_cell? w _ hx0)).trans hx0
    (try simp only [Int.toNat_natCast] at hx0)
    replace hx1:=(HB.out.cell (World.block_lt_of_cell? w _ hx1)).trans hx1
    (try simp only [Int.toNat_natCast] at hx1)
    replace hx2:=(HB.out.cell (World.block_lt_of_cell? w _ hx2)).trans hx2
    (try simp only [Int.toNat_natCast] at hx2)
    replace hx3:=(HB.out.cell (World.block_lt_of_cell? w _ hx3)).trans hx3
    (try simp only [Int.toNat_natCast] at hx3)
    have er:(rd_T48 l0 (k:Int))=l0[k]:=by simp [rd_T48,List.getD_eq_getElem?_getD,List.getElem?_eq_getElem hlt]
    have HTS:=Aside0.mk (impl_HeadsOf.take_succ l0 hlt)
    have HER:=Aside0.mk er
    have HLE:=Aside0.mk (impl_HeadsOf.len l0 (l0.take k))
    clear er hl3 hi3
    have HCALL:=Aside0.mk (fun (o:Obj) (ho:(wr.alloc o).cell? ⟨wr.heap.size,0,none⟩=some (.int .i64 (rd_T48 l0 (k:Int)).f0))=>impl_HeadsOf.has (fun x=>some (x.f1 == (rd_T48 l0 (k:Int)).f0)) (.pointer (some ⟨wr.heap.size,0,none⟩)) (some ad) c0 l0 (l0.any fun x=>x.f1 == (rd_T48 l0 (k:Int)).f0) (wr.alloc o) (Kd.C_below HR0.out (below_alloc HB.out o))
     (fun x b hp A_0 c_0 W hW _ _=>by
       obtain rfl:=Option.some.inj hp
       exact impl_HeadsOf.clo x A_0 c_0 _ wr.heap.size W (pw_cell_below hW ho))
     (anyO_some (fun _ _=>rfl)))
    cases hany:(l0.any fun x=>x.f1 == (rd_T48 l0 (k:Int)).f0) with
    | true=>
     have HA:=Aside0.mk hany
     clear hany
     go_wp2_with (first
      | (go_at_call 43
         refine (HCALL.out _ (by rw [World.cell?_alloc_at _ _ _ _ rfl];rfl)).mono ?_
         rintro e w2 ⟨rfl,hb⟩
         rw [HA.out]
         have n0_:=Aside0.mk (Kd.R_below (by (with_reducible repeat (first|apply Kd.R_alloc|apply Kd.R_drewN|apply Kd.R_drew));exact HO.out) hb)
         have n1_:=Aside0.mk (below_step za hb)
         clear HO HB hb HCALL
         have HO:=n0_
         have HB:=n1_
         clear n0_ n1_))
     go_roundw
     case rel=>
      refine ⟨k+1,zbn,by go_num,⟨?_⟩,HB⟩
      rw [HTS.out,if_neg]
      ·exact HO.out
      ·unfold impl_HeadsOf.head
       rw [←HER.out,HA.out];decide
     case measure=>simp [intOf];omega
    | false=>
     have HA:=Aside0.mk hany
     clear hany
     go_wp2_with (first
      | (go_at_call 43
         refine (HCALL.out _ (by rw [World.cell?_alloc_at _ _ _ _ rfl];rfl)).mono ?_
         rintro e w2 ⟨rfl,hb⟩
         rw [HA.out]
         have hcap:w2.cell? ⟨wr.heap.size,0,none⟩=some (.int .i64 (rd_T48 l0 (k:Int)).f0):=pw_cell_below hb (by rw [World.cell?_alloc_at _ _ _ _ rfl];rfl)
         have n0_:=Aside0.mk (Kd.R_below (by (with_reducible repeat (first|apply Kd.R_alloc|apply Kd.R_drewN|apply Kd.R_drew));exact HO.out) hb)
         have n1_:=Aside0.mk (below_step za hb)
         clear HO HB hb HCALL
         have HO:=n0_
         have HB:=n1_
         clear n0_ n1_)
      | ((with_reducible refine gate_builtin (b:=.append) (xs:=#[.tmp 20,.tmp 23]) rfl ?_)
         at_builtin
         refine Kd.R_append (Kd.int .i64) (w0:=w) w.heap.size rfl (.tmp 20) (.tmp 23) 39 2 (.int .i64 0) 8 rfl Tryd.underlying39 info2 rfl zbp zbn u4 (impl_HeadsOf.heads l0 (l0.take k)) (rd_T48 l0 (k:Int)).f0 [.int .i64 (rd_T48 l0 (k:Int)).f0] (fun _=>True) (fun _=>False) rfl rfl ?aP (fun _ hk=>hk.elim) ?aF ?aO ?aB ?aS ?aL ?_
         (case aP=>exact rfl)
         (case aB=>exact za)
         (case aF=>exact (fun _ _=>trivial))
         (case aO=>exact (by (with_reducible repeat (first|apply Kd.R_alloc|apply Kd.R_drewN|apply Kd.R_drew));exact HO.out))
         (case aS=>exact (below_size za))
         (case aL=>have h1_:=HLE.out;have h2_:=HLEN.out;rw [List.length_take] at h1_;omega)
         intro v102 w8 ho hb hg hat
         have n0_:=Aside0.mk hb
         have n1_:=Aside0.mk ho
         clear HB HO
         have HB:=n0_
         have HO:=n1_
         clear n0_ n1_ ho hb hg hat))
     go_roundw
     case rel=>
      refine ⟨k+1,zbn,by go_num,⟨?_⟩,⟨za⟩⟩
      rw [HTS.out,if_pos]
      ·rw [←HER.out];(with_reducible repeat (first|apply Kd.R_alloc|apply Kd.R_drewN|apply Kd.R_drew));exact HO.out
      ·unfold impl_HeadsOf.head
       rw [←HER.out,HA.out];decide
     case measure=>simp [intOf];omega
   ·have hkl:k=l0.length:=by omega
    have hd1:decide ((k:Int)<(l0.length:Int))=false:=decide_eq_false zbn
    have hd2:decide (k<l0.length)=false:=decide_eq_false zbn
    have HKL:=Aside0.mk hkl
    clear hkl
    go_wp2_with fail
    go_ret2
    refine ⟨_,rfl,?_,za⟩
    have h9:=HO.out
    rw [HKL.out,List.take_length,HR1.out] at h9
    (with_reducible repeat (first|apply Kd.R_alloc|apply Kd.R_drewN|apply Kd.R_drew));exact h9
end Go.Proofs.YtocegmkifmdlcaaDoor.P

namespace Go.Proofs.YtocegmkifmdlcaaDoor.P
open Go.RowKit Go.Proofs.YtocegmkifmdlcaaDoorW.PrintWords Go.Proofs.YtocegmkifmdlcaaDoorW.PrintLast Go.Proofs.YtocegmkifmdlcaaDoorW.PrintMore
attribute [local go_sem] max2_int min2_int max_two min_two max_three min_three max_four min_four str_leq str_gtr str_geq
set_option linter.unusedVariables false
set_option linter.unusedSimpArgs false
def slices_Index_S_int64.l0:Nat→List Int→Int→Int→Int→Option (Int)
 | 0,_,_,_,_=>none
 | k+1,x0,x1,x7,x8=>if x8<x7 then (if 0≤x8 then (if x8<(x0.length:Int) then (if x1=(rd x0 x8) then (some x8) else (slices_Index_S_int64.l0 k x0 x1 x7 (wrap64 (x8+1)))) else (none)) else (none)) else (some (-1))
def slices_Index_S_int64.f (k:Nat) (l0:List Int) (a1:Int):Option (Int):=slices_Index_S_int64.l0 k l0 a1 (l0.length:Int) 0
set_option maxHeartbeats 8000000 in
set_option maxRecDepth 100000 in
theorem slices_Index_S_int64.calls (k:Nat) (A0:Option Addr) (c0:Nat) (l0:List Int) (a1:Int) (r:Int) (w:World) (hr0:Kd.C (Kd.int .i64) w A0 l0.length l0) (hc0:l0.length≤c0) (h:slices_Index_S_int64.f k l0 a1=some r) :
 Calls Tryd.prog 73 #[.slice A0 l0.length c0,.int .i64 a1] w fun e w'=>e = .returned (.int .i64 r)∧Drawn0 w w':=by
 have HR0:=Aside0.mk hr0
 have HC0:=Aside0.mk hc0
 clear hr0 hc0
 have H:(slices_Index_S_int64.l0 k l0 a1 (l0.length:Int) 0)=some r:=h
 clear h
 have H':=Aside0.mk H
 clear H
 go_enter Tryd.func73,Tryd.ntmps73
 go_wp2
 go_loopg [8] k (fun kq v8 w'=>∃(x8_1:Int),v8 = .int .i64 x8_1∧Aside0 (slices_Index_S_int64.l0 kq l0 a1 (l0.length:Int) x8_1=some r)∧Aside0 (kq≤k)∧Drawn0 w w')
 case atStart=>exact ⟨(0),zi,H',⟨Nat.le_refl _⟩,zn⟩
 case round=>
  clear H'
  try clear p2
  obtain ⟨x8_1,rfl,HA,HK1,⟨m1,rfl⟩⟩:=hrel
  cases gk with
  | zero=>exact absurd HA.out (by simp [slices_Index_S_int64.l0])
  | succ k1=>
   have H:=HA.out
   clear HA
   simp only [slices_Index_S_int64.l0] at H
   by_cases c3:x8_1<(l0.length:Int)
   ·rw [if_pos c3] at H
    have c3b0:decide (x8_1<(l0.length:Int))=true:=decide_eq_true c3
    clear c3
    by_cases c4:0≤x8_1
    ·rw [if_pos c4] at H
     have c4b0:decide (0≤x8_1)=true:=decide_eq_true c4
     clear c4
     by_cases c5:x8_1<(l0.length:Int)
     ·rw [if_pos c5] at H
      have c5b0:decide (x8_1<(l0.length:Int))=true:=decide_eq_true c5
      clear c5
      by_cases c6:a1=(rd l0 x8_1)
      ·rw [if_pos c6] at H
       have c6b0:(a1 == (rd l0 x8_1))=true:=beq_iff_eq.mpr c6
       have c6b1:(a1 != (rd l0 x8_1))=false:=bne_eq_false_iff_eq.mpr c6
       clear c6
       obtain rfl:=Option.some.inj H
       have p101:0≤(x8_1:Int):=of_decide_eq_true zb
       have q101:x8_1<(l0.length:Int):=of_decide_eq_true zb
       obtain ⟨ad101,e101,hx101_0⟩:=Kd.at_int HR0.out x8_1 p101 q101
       cases e101
       replace p101:=eq_true p101
       replace q101:=eq_true q101
       go_wp2
       go_ret
       exact ⟨zi,zn⟩
      ·rw [if_neg c6] at H
       have c6b0:(a1 == (rd l0 x8_1))=false:=beq_eq_false_iff_ne.mpr c6
       have c6b1:(a1 != (rd l0 x8_1))=true:=bne_iff_ne.mpr c6
       have H':=Aside0.mk H
       clear H
       have p101:0≤(x8_1:Int):=of_decide_eq_true zb
       have q101:x8_1<(l0.length:Int):=of_decide_eq_true zb
       obtain ⟨ad101,e101,hx101_0⟩:=Kd.at_int HR0.out x8_1 p101 q101
       cases e101
       replace p101:=eq_true p101
       replace q101:=eq_true q101
       go_wp2
       go_roundg k1
       case measure=>have:=HK1.out;omega
       case rel=>exact ⟨(wrap64 (x8_1+1)),zi,H',⟨zci⟩,zn⟩
     ·rw [if_neg c5] at H
      exact absurd H zca
    ·rw [if_neg c4] at H
     exact absurd H zca
   ·rw [if_neg c3] at H
    have c3b0:decide (x8_1<(l0.length:Int))=false:=decide_eq_false c3
    clear c3
    obtain rfl:=Option.some.inj H
    go_wp2
    go_ret
    exact ⟨zi,zn⟩

def slices_Contains_S_int64.f (k:Nat) (l0:List Int) (a1:Int):Option (Bool):=(slices_Index_S_int64.f k l0 a1).bind fun t101=>(some (decide (t101≥0)))
set_option maxHeartbeats 8000000 in
set_option maxRecDepth 100000 in
theorem slices_Contains_S_int64.calls (k:Nat) (A0:Option Addr) (c0:Nat) (l0:List Int) (a1:Int) (r:Bool) (w:World) (hr0:Kd.C (Kd.int .i64) w A0 l0.length l0) (hc0:l0.length≤c0) (h:slices_Contains_S_int64.f k l0 a1=some r) :
 Calls Tryd.prog 62 #[.slice A0 l0.length c0,.int .i64 a1] w fun e w'=>e = .returned (.bool r)∧Drawn0 w w':=by
 have HR0:=Aside0.mk hr0
 have HC0:=Aside0.mk hc0
 clear hr0 hc0
 have H:((slices_Index_S_int64.f k l0 a1).bind fun t101=>(some (decide (t101≥0))))=some r:=h
 clear h
 replace H:=Option.bind_eq_some_iff.mp H
 obtain ⟨t101,A30,H⟩:=H
 replace H:(some (decide (t101≥0)))=some r:=H
 have A3:=Aside0.mk A30
 clear A30
 obtain rfl:=Option.some.inj H
 go_enter Tryd.func62,Tryd.ntmps62
 go_wp2_with (first|((with_reducible refine gate_callee (f:=73) rfl ?_);refine goesL_ (some 7) rfl rfl Tryd.func73 zaq rfl #[.slice A0 l0.length c0,.int .i64 a1] rfl zd ?_;(with_reducible refine (slices_Index_S_int64.calls k _ _ l0 a1 t101 _ ?side1 ?side2 A3.out).mono ?_);(case side1=>exact zo);(case side2=>exact HC0.out);rintro e w' ⟨rfl,⟨nd,rfl⟩⟩;refine ⟨_,rfl,?_⟩))
 go_ret
 exact ⟨zi,zn⟩

def impl_commonAncestor.l0:Nat→List Int→List Int→Int→Int→Option (Int)
 | 0,_,_,_,_=>none
 | k+1,x7,x15,x16,x17=>if x17<x16 then (if 0≤x17 then (if x17<(x15.length:Int) then ((slices_Contains_S_int64.f k x7 (rd x15 x17)).bind fun t108=>(if t108=true then (some (rd x15 x17)) else (impl_commonAncestor.l0 k x7 x15 x16 (wrap64 (x17+1))))) else (none)) else (none)) else (some 0)
def impl_commonAncestor.f (k:Nat) (l0:List (S48)) (a1:Int) (a2:Int):Option (Int):=(impl_lineOf.f k l0 a2).bind fun t101=>((impl_lineOf.f k l0 a1).bind fun t104=>(impl_commonAncestor.l0 k t101 t104 (t104.length:Int) 0))
set_option maxHeartbeats 8000000 in
set_option maxRecDepth 100000 in
theorem impl_commonAncestor.calls (k:Nat) (A0:Option Addr) (c0:Nat) (l0:List (S48)) (a1:Int) (a2:Int) (r:Int) (w:World) (hr0:Kd.C k48 w A0 l0.length l0) (hc0:l0.length≤c0) (h:impl_commonAncestor.f k l0 a1 a2=some r) :
 Calls Tryd.prog 45 #[.slice A0 l0.length c0,.int .i64 a1,.int .i64 a2] w fun e w'=>e = .returned (.int .i64 r)∧Below w.heap.size w w':=by
 have HR0:=Aside0.mk hr0
 have HC0:=Aside0.mk hc0
 clear hr0 hc0
 have HB:=Aside0.mk (Below.refl w.heap.size w)
 have H:((impl_lineOf.f k l0 a2).bind fun t101=>((impl_lineOf.f k l0 a1).bind fun t104=>(impl_commonAncestor.l0 k t101 t104 (t104.length:Int) 0)))=some r:=h
 clear h
 replace H:=Option.bind_eq_some_iff.mp H
 obtain ⟨t101,A40,H⟩:=H
 replace H:((impl_lineOf.f k l0 a1).bind fun t104=>(impl_commonAncestor.l0 k t101 t104 (t104.length:Int) 0))=some r:=H
 have A4:=Aside0.mk A40
 clear A40
 replace H:=Option.bind_eq_some_iff.mp H
 obtain ⟨t104,A50,H⟩:=H
 replace H:(impl_commonAncestor.l0 k t101 t104 (t104.length:Int) 0)=some r:=H
 have A5:=Aside0.mk A50
 clear A50
 have H':=Aside0.mk H
 clear H
 go_enter Tryd.func45,Tryd.ntmps45
 go_wp2_with (first|((with_reducible refine gate_callee (f:=42) rfl ?_);refine goesL_ (some 12) rfl rfl Tryd.func42 zaq rfl #[.slice A0 l0.length c0,.int .i64 a2] rfl zd ?_;(with_reducible refine (impl_lineOf.calls k _ _ l0 a2 t101 _ ?side1 ?side2 A4.out).mono ?_);(case side1=>exact zo);(case side2=>exact HC0.out);rintro e w6 ⟨v102,rfl,ho0,hb⟩;refine ⟨_,rfl,?_⟩;have HO103:=Aside0.mk (Kd.R_lower ho0 (below_size za));replace HB:=Aside0.mk (below_step za hb);(try clear hb);(try clear hb2);(try clear hk);(try clear hi);(try clear ho0))|((with_reducible refine gate_callee (f:=42) rfl ?_);refine goesL_ (some 15) rfl rfl Tryd.func42 zaq rfl #[.slice A0 l0.length c0,.int .i64 a1] rfl zd ?_;(with_reducible refine (impl_lineOf.calls k _ _ l0 a1 t104 _ ?side1 ?side2 A5.out).mono ?_);(case side1=>exact zm);(case side2=>exact HC0.out);rintro e w7 ⟨v105,rfl,ho0,hb⟩;refine ⟨_,rfl,?_⟩;have n0_:=Aside0.mk (Kd.R_elder' zae (Kd.R_base ho0) hb);have n1_:=Aside0.mk (Kd.R_lower (Kd.R_new' ho0 (Kd.R_lt zae)) (below_size za));have n2_:=Aside0.mk (below_step za hb);clear HO103;clear HB;have HO103:=n0_;have HO106:=n1_;have HB:=n2_;clear n0_ n1_ n2_;(try clear hb);(try clear hb2);(try clear hk);(try clear hi);(try clear ho0);obtain ⟨Ao8,co8,eo8⟩:=Kd.R_slice HO106.out;subst eo8))
 go_loopg [17] k (fun kq v17 w'=>∃(x17_1:Int),v17 = .int .i64 x17_1∧Aside0 (impl_commonAncestor.l0 kq t101 t104 (t104.length:Int) x17_1=some r)∧Aside0 (kq≤k)∧Aside0 (Kd.R (Kd.int .i64) 2 w' w.heap.size (fun k_=>some k_≠((.slice Ao8 t104.length co8):Value).ownBlock) v102 t101)∧Aside0 (Kd.R (Kd.int .i64) 2 w' w.heap.size (fun k_=>some k_≠(v102:Value).ownBlock) (.slice Ao8 t104.length co8) t104)∧Aside0 (Below w.heap.size w w'))
 case atStart=>exact ⟨(0),zi,H',⟨Nat.le_refl _⟩,⟨by (with_reducible repeat (first|apply Kd.R_alloc|apply Kd.R_drewN|apply Kd.R_drew));exact Kd.R_mono HO103.out (fun _ hk=>hk.2)⟩,⟨by (with_reducible repeat (first|apply Kd.R_alloc|apply Kd.R_drewN|apply Kd.R_drew));exact Kd.R_mono HO106.out (fun _ hk=>hk.2)⟩,⟨za⟩⟩
 case round=>
  clear H'
  try clear p2
  try clear c4
  obtain ⟨x17_1,rfl,HA,HK1,HO_7,HO_15,HB⟩:=hrel
  cases gk with
  | zero=>exact absurd HA.out (by simp [impl_commonAncestor.l0])
  | succ k1=>
   have H:=HA.out
   clear HA
   simp only [impl_commonAncestor.l0] at H
   by_cases c9:x17_1<(t104.length:Int)
   ·rw [if_pos c9] at H
    have c9b0:decide (x17_1<(t104.length:Int))=true:=decide_eq_true c9
    clear c9
    by_cases c10:0≤x17_1
    ·rw [if_pos c10] at H
     have c10b0:decide (0≤x17_1)=true:=decide_eq_true c10
     clear c10
     by_cases c11:x17_1<(t104.length:Int)
     ·rw [if_pos c11] at H
      have c11b0:decide (x17_1<(t104.length:Int))=true:=decide_eq_true c11
      clear c11
      replace H:=Option.bind_eq_some_iff.mp H
      obtain ⟨t108,A120,H⟩:=H
      replace H:(if t108=true then (some (rd t104 x17_1)) else (impl_commonAncestor.l0 k1 t101 t104 (t104.length:Int) (wrap64 (x17_1+1))))=some r:=H
      have A12:=Aside0.mk A120
      clear A120
      by_cases c13:t108=true
      ·subst c13
       have H1:(some (rd t104 x17_1))=some r:=by rw [if_pos rfl] at H;exact H
       clear H
       have H:=H1
       clear H1
       obtain rfl:=Option.some.inj H
       have p107:0≤(x17_1:Int):=of_decide_eq_true zb
       have q107:x17_1<(t104.length:Int):=of_decide_eq_true zb
       obtain ⟨ad107,e107,hx107_0⟩:=Kd.at_int (Kd.R_reads' HO_15.out).2.2 x17_1 p107 q107
       cases e107
       replace p107:=eq_true p107
       replace q107:=eq_true q107
       obtain ⟨Ao14,co14,eo14⟩:=Kd.R_slice HO_7.out
       subst eo14
       go_wp2_with (first|((with_reducible refine gate_callee (f:=62) rfl ?_);refine goesL_ (some 23) rfl rfl Tryd.func62 zaq rfl #[.slice Ao14 t101.length co14,.int .i64 (rd t104 x17_1)] rfl zd ?_;(with_reducible refine (slices_Contains_S_int64.calls k1 _ _ t101 (rd t104 x17_1) true _ ?side1 ?side2 A12.out).mono ?_);(case side1=>repeat (first|exact (Kd.R_reads' HO_7.out).2.2|(with_reducible refine Kd.C_alloc ?_ _)|(with_reducible refine Kd.C_drewN ?_ _)|(with_reducible refine Kd.C_drew ?_)));(case side2=>exact (Kd.R_reads' HO_7.out).2.1);rintro e w' ⟨rfl,⟨nd,rfl⟩⟩;refine ⟨_,rfl,?_⟩))
       go_ret
       exact ⟨zj,za⟩
      ·replace c13:=Bool.eq_false_iff.mpr c13
       subst c13
       have H1:(impl_commonAncestor.l0 k1 t101 t104 (t104.length:Int) (wrap64 (x17_1+1)))=some r:=by rw [if_neg (show ¬ (false=true) by decide)] at H;exact H
       clear H
       have H:=H1
       clear H1
       have H':=Aside0.mk H
       clear H
       have p107:0≤(x17_1:Int):=of_decide_eq_true zb
       have q107:x17_1<(t104.length:Int):=of_decide_eq_true zb
       obtain ⟨ad107,e107,hx107_0⟩:=Kd.at_int (Kd.R_reads' HO_15.out).2.2 x17_1 p107 q107
       cases e107
       replace p107:=eq_true p107
       replace q107:=eq_true q107
       obtain ⟨Ao15,co15,eo15⟩:=Kd.R_slice HO_7.out
       subst eo15
       go_wp2_with (first|((with_reducible refine gate_callee (f:=62) rfl ?_);refine goesL_ (some 23) rfl rfl Tryd.func62 zaq rfl #[.slice Ao15 t101.length co15,.int .i64 (rd t104 x17_1)] rfl zd ?_;(with_reducible refine (slices_Contains_S_int64.calls k1 _ _ t101 (rd t104 x17_1) false _ ?side1 ?side2 A12.out).mono ?_);(case side1=>repeat (first|exact (Kd.R_reads' HO_7.out).2.2|(with_reducible refine Kd.C_alloc ?_ _)|(with_reducible refine Kd.C_drewN ?_ _)|(with_reducible refine Kd.C_drew ?_)));(case side2=>exact (Kd.R_reads' HO_7.out).2.1);rintro e w' ⟨rfl,⟨nd,rfl⟩⟩;refine ⟨_,rfl,?_⟩))
       go_roundg k1
       case measure=>have:=HK1.out;omega
       case rel=>exact ⟨(wrap64 (x17_1+1)),zi,H',⟨zci⟩,⟨zad⟩,⟨by (with_reducible repeat (first|apply Kd.R_alloc|apply Kd.R_drewN|apply Kd.R_drew));exact HO_15.out⟩,⟨za⟩⟩
     ·rw [if_neg c11] at H
      exact absurd H zca
    ·rw [if_neg c10] at H
     exact absurd H zca
   ·rw [if_neg c9] at H
    have c9b0:decide (x17_1<(t104.length:Int))=false:=decide_eq_false c9
    clear c9
    obtain rfl:=Option.some.inj H
    go_wp2
    go_ret
    exact ⟨zj,za⟩

def impl_CommonAncestor.f (k:Nat) (l0:List (S48)) (a1:Int) (a2:Int):Option (Int × Int):=(impl_versionsCode.f k l0 (([a1,a2]:List Int))).bind fun t104=>(if t104=0 then ((impl_commonAncestor.f k l0 a1 a2).bind fun t105=>(some (t105,0))) else (some (0,t104)))
set_option maxHeartbeats 8000000 in
set_option maxRecDepth 100000 in
theorem impl_CommonAncestor.calls (k:Nat) (A0:Option Addr) (c0:Nat) (l0:List (S48)) (a1:Int) (a2:Int) (r1:Int) (r2:Int) (w:World) (hr0:Kd.C k48 w A0 l0.length l0) (hc0:l0.length≤c0) (h:impl_CommonAncestor.f k l0 a1 a2=some (r1,r2)) :
 Calls Tryd.prog 16 #[.slice A0 l0.length c0,.int .i64 a1,.int .i64 a2] w fun e w'=>e = .returned (.tuple #[.int .i64 r1,.int .i64 r2])∧Below w.heap.size w w':=by
 have HR0:=Aside0.mk hr0
 have HC0:=Aside0.mk hc0
 clear hr0 hc0
 have HB:=Aside0.mk (Below.refl w.heap.size w)
 have H:((impl_versionsCode.f k l0 (([a1,a2]:List Int))).bind fun t104=>(if t104=0 then ((impl_commonAncestor.f k l0 a1 a2).bind fun t105=>(some (t105,0))) else (some (0,t104))))=some (r1,r2):=h
 clear h
 obtain ⟨y101,hy101⟩:∃y_:List Int,y_=(([a1,a2]:List Int)):=⟨_,rfl⟩
 replace H:((impl_versionsCode.f k l0 y101).bind fun t104=>(if t104=0 then ((impl_commonAncestor.f k l0 a1 a2).bind fun t105=>(some (t105,0))) else (some (0,t104))))=some (r1,r2):=by first|(rw [hy101];with_reducible exact H)|(have H2_:=(Option.bind_some _ _).symm.trans H;rw [hy101];with_reducible exact H2_)|(have H2_:=(Option.bind_some _ _).symm.trans H;with_reducible exact H2_)|with_reducible exact H|(rw [hy101];exact H)|exact H
 have Ny101:=Aside0.mk hy101
 clear hy101
 replace H:=Option.bind_eq_some_iff.mp H
 obtain ⟨t104,A40,H⟩:=H
 replace H:(if t104=0 then ((impl_commonAncestor.f k l0 a1 a2).bind fun t105=>(some (t105,0))) else (some (0,t104)))=some (r1,r2):=H
 have A4:=Aside0.mk A40
 clear A40
 by_cases c5:t104=0
 ·rw [if_pos c5] at H
  have c5b0:(t104 == 0)=true:=beq_iff_eq.mpr c5
  have c5b1:(t104 != 0)=false:=bne_eq_false_iff_eq.mpr c5
  clear c5
  replace H:=Option.bind_eq_some_iff.mp H
  obtain ⟨t105,A60,H⟩:=H
  replace H:(some (t105,0))=some (r1,r2):=H
  have A6:=Aside0.mk A60
  clear A60
  simp only [Option.some.injEq,Prod.mk.injEq] at H
  obtain ⟨rfl,rfl⟩:=H
  go_enter Tryd.func16,Tryd.ntmps16
  go_wp2_with (first|((with_reducible refine gate_dst (N:=12) rfl ?_);refine Kd.R_lit (Kd.int .i64) _ 2 ?hg (N:=12) ?hd (xs:=([a1,a2]:List Int)) (inner:=[.int .i64 a1,.int .i64 a2]) (ok:=fun _=>True) (okp:=fun _=>True) ?hr ?hp (fun _ hk=>hk) trivial (Below.refl _ _) (Nat.le_refl _) zca ?_;(case hd=>rfl);(case hg=>rfl);(case hr=>exact zv);(case hp=>exact (Reps.one (show Kd.M (Kd.int .i64) _ _ _ a1 [.int .i64 a1] from rfl) (Reps.one (show Kd.M (Kd.int .i64) _ _ _ a2 [.int .i64 a2] from rfl) (Reps.none _ _))));intro v102 w7 ho8 hb hg_ hnew_;clear hg_ hnew_;(first|rw [←Ny101.out] at ho8|(simp only [Int.reduceToNat] at ho8;rw [←Ny101.out] at ho8));have HO103:=Aside0.mk (Kd.R_lower ho8 (below_size za));replace HB:=Aside0.mk (below_step za hb);clear hb ho8;obtain ⟨Ao9,co9,eo9⟩:=Kd.R_slice HO103.out;subst eo9)|((with_reducible refine gate_callee (f:=39) rfl ?_);refine goesL_ (some 13) rfl rfl Tryd.func39 zaq rfl #[.slice A0 l0.length c0,.slice Ao9 y101.length co9] rfl zd ?_;(with_reducible refine (impl_versionsCode.calls k _ _ l0 _ _ y101 t104 _ ?side1 ?side2 ?side3 ?side4 A4.out).mono ?_);(case side1=>exact zm);(case side2=>exact HC0.out);(case side3=>exact zbc);(case side4=>exact (Kd.R_reads' HO103.out).2.1);rintro e w10 ⟨rfl,hb⟩;refine ⟨_,rfl,?_⟩;replace HO103:=Aside0.mk (Kd.R_below zae hb);replace HB:=Aside0.mk (below_step za hb);(try clear hb);(try clear hb2);(try clear hk);(try clear hi))|((with_reducible refine gate_callee (f:=45) rfl ?_);refine goesL_ (some 20) rfl rfl Tryd.func45 zaq rfl #[.slice A0 l0.length c0,.int .i64 a1,.int .i64 a2] rfl zd ?_;(with_reducible refine (impl_commonAncestor.calls k _ _ l0 a1 a2 t105 _ ?side1 ?side2 A6.out).mono ?_);(case side1=>exact zm);(case side2=>exact HC0.out);rintro e w11 ⟨rfl,hb⟩;refine ⟨_,rfl,?_⟩;replace HO103:=Aside0.mk (Kd.R_below zae hb);replace HB:=Aside0.mk (below_step za hb);(try clear hb);(try clear hb2);(try clear hk);(try clear hi)))
  go_ret2
  exact ⟨zj,za⟩
 ·rw [if_neg c5] at H
  have c5b0:(t104 == 0)=false:=beq_eq_false_iff_ne.mpr c5
  have c5b1:(t104 != 0)=true:=bne_iff_ne.mpr c5
  simp only [Option.some.injEq,Prod.mk.injEq] at H
  obtain ⟨rfl,rfl⟩:=H
  go_enter Tryd.func16,Tryd.ntmps16
  go_wp2_with (first|((with_reducible refine gate_dst (N:=12) rfl ?_);refine Kd.R_lit (Kd.int .i64) _ 2 ?hg (N:=12) ?hd (xs:=([a1,a2]:List Int)) (inner:=[.int .i64 a1,.int .i64 a2]) (ok:=fun _=>True) (okp:=fun _=>True) ?hr ?hp (fun _ hk=>hk) trivial (Below.refl _ _) (Nat.le_refl _) zca ?_;(case hd=>rfl);(case hg=>rfl);(case hr=>exact zv);(case hp=>exact (Reps.one (show Kd.M (Kd.int .i64) _ _ _ a1 [.int .i64 a1] from rfl) (Reps.one (show Kd.M (Kd.int .i64) _ _ _ a2 [.int .i64 a2] from rfl) (Reps.none _ _))));intro v102 w12 ho13 hb hg_ hnew_;clear hg_ hnew_;(first|rw [←Ny101.out] at ho13|(simp only [Int.reduceToNat] at ho13;rw [←Ny101.out] at ho13));have HO103:=Aside0.mk (Kd.R_lower ho13 (below_size za));replace HB:=Aside0.mk (below_step za hb);clear hb ho13;obtain ⟨Ao14,co14,eo14⟩:=Kd.R_slice HO103.out;subst eo14)|((with_reducible refine gate_callee (f:=39) rfl ?_);refine goesL_ (some 13) rfl rfl Tryd.func39 zaq rfl #[.slice A0 l0.length c0,.slice Ao14 y101.length co14] rfl zd ?_;(with_reducible refine (impl_versionsCode.calls k _ _ l0 _ _ y101 t104 _ ?side1 ?side2 ?side3 ?side4 A4.out).mono ?_);(case side1=>exact zm);(case side2=>exact HC0.out);(case side3=>exact zbc);(case side4=>exact (Kd.R_reads' HO103.out).2.1);rintro e w15 ⟨rfl,hb⟩;refine ⟨_,rfl,?_⟩;replace HO103:=Aside0.mk (Kd.R_below zae hb);replace HB:=Aside0.mk (below_step za hb);(try clear hb);(try clear hb2);(try clear hk);(try clear hi)))
  go_ret2
  exact ⟨zj,za⟩

def laws_r8Has.l0:Nat→List Int→Int→Int→Option (Bool)
 | 0,_,_,_=>none
 | k+1,x0,x1,x5=>if x5<(x0.length:Int) then (if 0≤x5 then (if (rd x0 x5)=x1 then (some true) else (laws_r8Has.l0 k x0 x1 (wrap64 (x5+1)))) else (none)) else (some false)
def laws_r8Has.f (k:Nat) (l0:List Int) (a1:Int):Option (Bool):=laws_r8Has.l0 k l0 a1 0
set_option maxHeartbeats 8000000 in
set_option maxRecDepth 100000 in
theorem laws_r8Has.calls (k:Nat) (A0:Option Addr) (c0:Nat) (l0:List Int) (a1:Int) (r:Bool) (w:World) (hr0:Kd.C (Kd.int .i64) w A0 l0.length l0) (hc0:l0.length≤c0) (h:laws_r8Has.f k l0 a1=some r) :
 Calls Tryd.prog 17 #[.slice A0 l0.length c0,.int .i64 a1] w fun e w'=>e = .returned (.bool r)∧Drawn0 w w':=by
 have HR0:=Aside0.mk hr0
 have HC0:=Aside0.mk hc0
 clear hr0 hc0
 have H:(laws_r8Has.l0 k l0 a1 0)=some r:=h
 clear h
 have H':=Aside0.mk H
 clear H
 go_enter Tryd.func17,Tryd.ntmps17
 go_wp2
 go_loopg [5] k (fun kq v5 w'=>∃(x5_1:Int),v5 = .int .i64 x5_1∧Aside0 (laws_r8Has.l0 kq l0 a1 x5_1=some r)∧Aside0 (kq≤k)∧Drawn0 w w')
 case atStart=>exact ⟨(0),zi,H',⟨Nat.le_refl _⟩,zn⟩
 case round=>
  clear H'
  try clear c1
  try clear p2
  obtain ⟨x5_1,rfl,HA,HK1,⟨m1,rfl⟩⟩:=hrel
  cases gk with
  | zero=>exact absurd HA.out (by simp [laws_r8Has.l0])
  | succ k1=>
   have H:=HA.out
   clear HA
   simp only [laws_r8Has.l0] at H
   by_cases c3:x5_1<(l0.length:Int)
   ·rw [if_pos c3] at H
    have c3b0:decide (x5_1<(l0.length:Int))=true:=decide_eq_true c3
    clear c3
    by_cases c4:0≤x5_1
    ·rw [if_pos c4] at H
     have c4b0:decide (0≤x5_1)=true:=decide_eq_true c4
     clear c4
     by_cases c5:(rd l0 x5_1)=a1
     ·rw [if_pos c5] at H
      have c5b0:((rd l0 x5_1) == a1)=true:=beq_iff_eq.mpr c5
      have c5b1:((rd l0 x5_1) != a1)=false:=bne_eq_false_iff_eq.mpr c5
      clear c5
      obtain rfl:=Option.some.inj H
      have p101:0≤(x5_1:Int):=of_decide_eq_true zb
      have q101:x5_1<(l0.length:Int):=of_decide_eq_true zb
      obtain ⟨ad101,e101,hx101_0⟩:=Kd.at_int HR0.out x5_1 p101 q101
      cases e101
      replace p101:=eq_true p101
      replace q101:=eq_true q101
      go_wp2
      go_ret
      exact ⟨zi,zn⟩
     ·rw [if_neg c5] at H
      have c5b0:((rd l0 x5_1) == a1)=false:=beq_eq_false_iff_ne.mpr c5
      have c5b1:((rd l0 x5_1) != a1)=true:=bne_iff_ne.mpr c5
      have H':=Aside0.mk H
      clear H
      have p101:0≤(x5_1:Int):=of_decide_eq_true zb
      have q101:x5_1<(l0.length:Int):=of_decide_eq_true zb
      obtain ⟨ad101,e101,hx101_0⟩:=Kd.at_int HR0.out x5_1 p101 q101
      cases e101
      replace p101:=eq_true p101
      replace q101:=eq_true q101
      go_wp2
      go_roundg k1
      case measure=>have:=HK1.out;omega
      case rel=>exact ⟨(wrap64 (x5_1+1)),zi,H',⟨zci⟩,zn⟩
    ·rw [if_neg c4] at H
     exact absurd H zca
   ·rw [if_neg c3] at H
    have c3b0:decide (x5_1<(l0.length:Int))=false:=decide_eq_false c3
    clear c3
    obtain rfl:=Option.some.inj H
    go_wp2
    go_ret
    exact ⟨zi,zn⟩

def spec_l00In.f (a0:Int) (a1:Int) (a2:Int):Option (Bool):=if a0≥a1 then (some (decide (a0≤a2))) else (some false)
set_option maxHeartbeats 8000000 in
set_option maxRecDepth 100000 in
theorem spec_l00In.calls (a0:Int) (a1:Int) (a2:Int) (r:Bool) (w:World) (h:spec_l00In.f a0 a1 a2=some r) :
 Calls Tryd.prog 63 #[.int .i64 a0,.int .i64 a1,.int .i64 a2] w fun e w'=>e = .returned (.bool r)∧Drawn0 w w':=by
 have H:(if a0≥a1 then (some (decide (a0≤a2))) else (some false))=some r:=h
 clear h
 by_cases c4:a0≥a1
 ·rw [if_pos c4] at H
  have c4b0:decide (a1≤a0)=true:=decide_eq_true c4
  clear c4
  obtain rfl:=Option.some.inj H
  go_enter Tryd.func63,Tryd.ntmps63
  go_wp2
  go_ret
  exact ⟨zi,zn⟩
 ·rw [if_neg c4] at H
  have c4b0:decide (a1≤a0)=false:=decide_eq_false c4
  clear c4
  obtain rfl:=Option.some.inj H
  go_enter Tryd.func63,Tryd.ntmps63
  go_wp2
  go_ret
  exact ⟨zi,zn⟩

def spec_l27Memo.l0:Nat→ByteArray→Int→Option (Bool)
 | 0,_,_=>none
 | k+1,x0,x3=>if x3<(x0.size:Int) then (if 0≤x3 then (if (bt x0 x3)<32 then (some false) else (if (bt x0 x3) > 126 then (some false) else (spec_l27Memo.l0 k x0 (wrap64 (x3+1))))) else (none)) else (some (decide ((x0.size:Int)≤20)))
def spec_l27Memo.f (k:Nat) (a0:ByteArray):Option (Bool):=spec_l27Memo.l0 k a0 0
set_option maxHeartbeats 8000000 in
set_option maxRecDepth 100000 in
theorem spec_l27Memo.calls (k:Nat) (a0:ByteArray) (r:Bool) (w:World) (h:spec_l27Memo.f k a0=some r) :
 Calls Tryd.prog 64 #[.string a0] w fun e w'=>e = .returned (.bool r)∧Drawn0 w w':=by
 have H:(spec_l27Memo.l0 k a0 0)=some r:=h
 clear h
 have H':=Aside0.mk H
 clear H
 go_enter Tryd.func64,Tryd.ntmps64
 go_wp2
 go_loopg [3] k (fun kq v3 w'=>∃(x3_1:Int),v3 = .int .i64 x3_1∧Aside0 (spec_l27Memo.l0 kq a0 x3_1=some r)∧Aside0 (kq≤k)∧Drawn0 w w')
 case atStart=>exact ⟨(0),zi,H',⟨Nat.le_refl _⟩,zn⟩
 case round=>
  clear H'
  obtain ⟨x3_1,rfl,HA,HK1,⟨m1,rfl⟩⟩:=hrel
  cases gk with
  | zero=>exact absurd HA.out (by simp [spec_l27Memo.l0])
  | succ k1=>
   have H:=HA.out
   clear HA
   simp only [spec_l27Memo.l0] at H
   by_cases c2:x3_1<(a0.size:Int)
   ·rw [if_pos c2] at H
    have c2b0:decide (x3_1<(a0.size:Int))=true:=decide_eq_true c2
    clear c2
    by_cases c3:0≤x3_1
    ·rw [if_pos c3] at H
     have c3b0:decide (0≤x3_1)=true:=decide_eq_true c3
     clear c3
     by_cases c5:(bt a0 x3_1)<32
     ·rw [if_pos c5] at H
      have c5b0:decide ((bt a0 x3_1)<32)=true:=decide_eq_true c5
      clear c5
      obtain rfl:=Option.some.inj H
      have p4:0≤(x3_1:Int):=of_decide_eq_true zb
      have q4:x3_1<(a0.size:Int):=of_decide_eq_true zb
      have hx4:=bt_at a0 x3_1
      replace p4:=eq_true p4
      replace q4:=eq_true q4
      go_wp2
      go_ret
      exact ⟨zi,zn⟩
     ·rw [if_neg c5] at H
      have c5b0:decide ((bt a0 x3_1)<32)=false:=decide_eq_false c5
      clear c5
      by_cases c7:(bt a0 x3_1) > 126
      ·rw [if_pos c7] at H
       have c7b0:decide (126<(bt a0 x3_1))=true:=decide_eq_true c7
       clear c7
       obtain rfl:=Option.some.inj H
       have p4:0≤(x3_1:Int):=of_decide_eq_true zb
       have q4:x3_1<(a0.size:Int):=of_decide_eq_true zb
       have hx4:=bt_at a0 x3_1
       replace p4:=eq_true p4
       replace q4:=eq_true q4
       have p6:0≤(x3_1:Int):=of_decide_eq_true zb
       have q6:x3_1<(a0.size:Int):=of_decide_eq_true zb
       have hx6:=bt_at a0 x3_1
       replace p6:=eq_true p6
       replace q6:=eq_true q6
       go_wp2
       go_ret
       exact ⟨zi,zn⟩
      ·rw [if_neg c7] at H
       have c7b0:decide (126<(bt a0 x3_1))=false:=decide_eq_false c7
       clear c7
       have H':=Aside0.mk H
       clear H
       have p4:0≤(x3_1:Int):=of_decide_eq_true zb
       have q4:x3_1<(a0.size:Int):=of_decide_eq_true zb
       have hx4:=bt_at a0 x3_1
       replace p4:=eq_true p4
       replace q4:=eq_true q4
       have p6:0≤(x3_1:Int):=of_decide_eq_true zb
       have q6:x3_1<(a0.size:Int):=of_decide_eq_true zb
       have hx6:=bt_at a0 x3_1
       replace p6:=eq_true p6
       replace q6:=eq_true q6
       go_wp2
       go_roundg k1
       case measure=>have:=HK1.out;omega
       case rel=>exact ⟨(wrap64 (x3_1+1)),zi,H',⟨zci⟩,zn⟩
    ·rw [if_neg c3] at H
     exact absurd H zca
   ·rw [if_neg c2] at H
    have c2b0:decide (x3_1<(a0.size:Int))=false:=decide_eq_false c2
    clear c2
    obtain rfl:=Option.some.inj H
    go_wp2
    go_ret
    exact ⟨zi,zn⟩

def spec_l01Small.f (a0:Int):Option (Bool):=if a0≥97 then (some (decide (a0≤122))) else (some false)
set_option maxHeartbeats 8000000 in
set_option maxRecDepth 100000 in
theorem spec_l01Small.calls (a0:Int) (r:Bool) (w:World) (h:spec_l01Small.f a0=some r) :
 Calls Tryd.prog 87 #[.int .u8 a0] w fun e w'=>e = .returned (.bool r)∧Drawn0 w w':=by
 have H:(if a0≥97 then (some (decide (a0≤122))) else (some false))=some r:=h
 clear h
 by_cases c2:a0≥97
 ·rw [if_pos c2] at H
  have c2b0:decide (97≤a0)=true:=decide_eq_true c2
  clear c2
  obtain rfl:=Option.some.inj H
  go_enter Tryd.func87,Tryd.ntmps87
  go_wp2
  go_ret
  exact ⟨zi,zn⟩
 ·rw [if_neg c2] at H
  have c2b0:decide (97≤a0)=false:=decide_eq_false c2
  clear c2
  obtain rfl:=Option.some.inj H
  go_enter Tryd.func87,Tryd.ntmps87
  go_wp2
  go_ret
  exact ⟨zi,zn⟩

def spec_l01Digit.f (a0:Int):Option (Bool):=if a0≥48 then (some (decide (a0≤57))) else (some false)
set_option maxHeartbeats 8000000 in
set_option maxRecDepth 100000 in
theorem spec_l01Digit.calls (a0:Int) (r:Bool) (w:World) (h:spec_l01Digit.f a0=some r) :
 Calls Tryd.prog 88 #[.int .u8 a0] w fun e w'=>e = .returned (.bool r)∧Drawn0 w w':=by
 have H:(if a0≥48 then (some (decide (a0≤57))) else (some false))=some r:=h
 clear h
 by_cases c2:a0≥48
 ·rw [if_pos c2] at H
  have c2b0:decide (48≤a0)=true:=decide_eq_true c2
  clear c2
  obtain rfl:=Option.some.inj H
  go_enter Tryd.func88,Tryd.ntmps88
  go_wp2
  go_ret
  exact ⟨zi,zn⟩
 ·rw [if_neg c2] at H
  have c2b0:decide (48≤a0)=false:=decide_eq_false c2
  clear c2
  obtain rfl:=Option.some.inj H
  go_enter Tryd.func88,Tryd.ntmps88
  go_wp2
  go_ret
  exact ⟨zi,zn⟩

mutual
def spec_l01Name.j0:Nat→ByteArray→Bool→Option (Bool)
 | 0,_,_=>none
 | k+1,x0,x16=>if x16=true then (some false) else (spec_l01Name.l0 k x0 0)
def spec_l01Name.l0:Nat→ByteArray→Int→Option (Bool)
 | 0,_,_=>none
 | k+1,x0,x3=>if x3<(x0.size:Int) then (if 0≤x3 then ((spec_l01Small.f (bt x0 x3)).bind fun t102=>(if t102=true then (spec_l01Name.l0 k x0 (wrap64 (x3+1))) else ((spec_l01Digit.f (bt x0 x3)).bind fun t103=>(if t103=true then (spec_l01Name.l0 k x0 (wrap64 (x3+1))) else (some false))))) else (none)) else (some true)
end
def spec_l01Name.f (k:Nat) (a0:ByteArray):Option (Bool):=if a0.toList=([]:List UInt8) then (spec_l01Name.j0 k a0 true) else (if (a0.size:Int) > 10 then (spec_l01Name.j0 k a0 true) else (if 0<(a0.size:Int) then ((spec_l01Small.f (bt a0 0)).bind fun t101=>(spec_l01Name.j0 k a0 (!t101))) else (none)))
set_option maxHeartbeats 8000000 in
set_option maxRecDepth 100000 in
theorem spec_l01Name.calls (k:Nat) (a0:ByteArray) (r:Bool) (w:World) (h:spec_l01Name.f k a0=some r) :
 Calls Tryd.prog 81 #[.string a0] w fun e w'=>e = .returned (.bool r)∧Drawn0 w w':=by
 have H:(if a0.toList=([]:List UInt8) then (spec_l01Name.j0 k a0 true) else (if (a0.size:Int) > 10 then (spec_l01Name.j0 k a0 true) else (if 0<(a0.size:Int) then ((spec_l01Small.f (bt a0 0)).bind fun t101=>(spec_l01Name.j0 k a0 (!t101))) else (none))))=some r:=h
 clear h
 have HC2:=Aside0.mk H
 clear H
 go_enter Tryd.func81,Tryd.ntmps81
 go_upto_region 1 with (fail)
 go_cut [16] (fun v16 wc=>∃(kq:Nat) (x16_1:Bool),v16 = .bool x16_1∧Aside0 (spec_l01Name.j0 kq a0 x16_1=some r)∧Aside0 (kq≤k)∧Drawn0 w wc)
 case first=>
  have H:=HC2.out
  clear HC2
  by_cases c3:a0.toList=([]:List UInt8)
  ·rw [if_pos c3] at H
   have c3b0:(a0.toList == ([]:List UInt8))=true:=beq_iff_eq.mpr c3
   have c3b1:(a0.toList != ([]:List UInt8))=false:=bne_eq_false_iff_eq.mpr c3
   clear c3
   (first|rw [c3b0]|(simp only [i64_w,i32_w];rw [c3b0])|skip)
   have H':=Aside0.mk H
   clear H
   go_wp2
   go_meet
   case rel=>exact ⟨_,(true),zi,H',⟨zcj⟩,zn⟩
  ·rw [if_neg c3] at H
   have c3b0:(a0.toList == ([]:List UInt8))=false:=beq_eq_false_iff_ne.mpr c3
   have c3b1:(a0.toList != ([]:List UInt8))=true:=bne_iff_ne.mpr c3
   (first|rw [c3b0]|(simp only [i64_w,i32_w];rw [c3b0])|skip)
   by_cases c4:(a0.size:Int) > 10
   ·rw [if_pos c4] at H
    have c4b0:decide (10<(a0.size:Int))=true:=decide_eq_true c4
    have c4b1:decide (10<a0.size)=true:=decide_eq_true zbn
    clear c4
    have H':=Aside0.mk H
    clear H
    go_wp2
    go_meet
    case rel=>exact ⟨_,(true),zi,H',⟨zcj⟩,zn⟩
   ·rw [if_neg c4] at H
    have c4b0:decide (10<(a0.size:Int))=false:=decide_eq_false c4
    have c4b1:decide (10<a0.size)=false:=decide_eq_false zbn
    clear c4
    by_cases c5:0<(a0.size:Int)
    ·rw [if_pos c5] at H
     have c5b0:decide (0<(a0.size:Int))=true:=decide_eq_true c5
     have c5b1:decide (0<a0.size)=true:=decide_eq_true zbn
     clear c5
     replace H:=Option.bind_eq_some_iff.mp H
     obtain ⟨t101,A70,H⟩:=H
     replace H:(spec_l01Name.j0 k a0 (!t101))=some r:=H
     have A7:=Aside0.mk A70
     clear A70
     have H':=Aside0.mk H
     clear H
     have p6:0≤(0:Int):=zbn
     have q6:0<a0.size:=(by have:(0:Int)<(a0.size:Int):=of_decide_eq_true zb;omega)
     have hx6:∀h:0<a0.size,((a0[0]'h).toNat:Int)=bt a0 0:=bt_at a0 0
     clear p6
     have qi6:(0<(a0.size:Int))=True:=eq_true (of_decide_eq_true zb)
     replace q6:=eq_true q6
     go_wp2_with (first|(go_at_call 87;(with_reducible refine (spec_l01Small.calls (bt a0 0) t101 _ A7.out).mono ?_);rintro e w' ⟨rfl,⟨nd,rfl⟩⟩))
     go_meet
     case rel=>exact ⟨_,(!t101),zi,H',⟨zcj⟩,zn⟩
    ·rw [if_neg c5] at H
     exact absurd H zca
 case rest=>
  clear HC2
  try clear p2
  try clear c3
  try clear c3b0
  try clear c3b1
  try clear c4
  try clear c4b0
  try clear c4b1
  try clear c5
  try clear c5b0
  try clear c5b1
  try clear p6
  try clear q6
  try clear hx6
  try clear qi6
  try clear p6
  try clear q6
  obtain ⟨kq,x16_1,rfl,HA,HJ1,⟨mc1,rfl⟩⟩:=hcut
  cases kq with
  | zero=>exact absurd HA.out (by simp [spec_l01Name.j0])
  | succ kj1=>
   have H:=HA.out
   clear HA
   simp only [spec_l01Name.j0] at H
   by_cases c8:x16_1=true
   ·subst c8
    have H1:(some false)=some r:=by rw [if_pos rfl] at H;exact H
    clear H
    have H:=H1
    clear H1
    obtain rfl:=Option.some.inj H
    go_wp2
    go_ret
    exact ⟨zi,zn⟩
   ·replace c8:=Bool.eq_false_iff.mpr c8
    subst c8
    have H1:(spec_l01Name.l0 kj1 a0 0)=some r:=by rw [if_neg (show ¬ (false=true) by decide)] at H;exact H
    clear H
    have H:=H1
    clear H1
    have H':=Aside0.mk H
    clear H
    go_wp2
    go_loopg [3] kj1 (fun kq v3 w'=>∃(x3_2:Int),v3 = .int .i64 x3_2∧Aside0 (spec_l01Name.l0 kq a0 x3_2=some r)∧Aside0 (kq≤kj1)∧Drawn0 w w')
    case atStart=>exact ⟨(0),zi,H',⟨Nat.le_refl _⟩,zn⟩
    case round=>
     clear H'
     try clear c1
     try clear p2
     try clear c3
     try clear c3b0
     try clear c3b1
     try clear c4
     try clear c4b0
     try clear c4b1
     try clear c5
     try clear c5b0
     try clear c5b1
     try clear p6
     try clear q6
     try clear hx6
     try clear qi6
     try clear c8
     try clear p2
     try clear p6
     try clear q6
     obtain ⟨x3_2,rfl,HA,HK2,⟨m2,rfl⟩⟩:=hrel
     cases gk with
     | zero=>exact absurd HA.out (by simp [spec_l01Name.l0])
     | succ k2=>
      have H:=HA.out
      clear HA
      simp only [spec_l01Name.l0] at H
      by_cases c9:x3_2<(a0.size:Int)
      ·rw [if_pos c9] at H
       have c9b0:decide (x3_2<(a0.size:Int))=true:=decide_eq_true c9
       clear c9
       by_cases c10:0≤x3_2
       ·rw [if_pos c10] at H
        have c10b0:decide (0≤x3_2)=true:=decide_eq_true c10
        clear c10
        replace H:=Option.bind_eq_some_iff.mp H
        obtain ⟨t102,A120,H⟩:=H
        replace H:(if t102=true then (spec_l01Name.l0 k2 a0 (wrap64 (x3_2+1))) else ((spec_l01Digit.f (bt a0 x3_2)).bind fun t103=>(if t103=true then (spec_l01Name.l0 k2 a0 (wrap64 (x3_2+1))) else (some false))))=some r:=H
        have A12:=Aside0.mk A120
        clear A120
        by_cases c13:t102=true
        ·subst c13
         have H1:(spec_l01Name.l0 k2 a0 (wrap64 (x3_2+1)))=some r:=by rw [if_pos rfl] at H;exact H
         clear H
         have H:=H1
         clear H1
         have H':=Aside0.mk H
         clear H
         have p11:0≤(x3_2:Int):=of_decide_eq_true zb
         have q11:x3_2<(a0.size:Int):=of_decide_eq_true zb
         have hx11:=bt_at a0 x3_2
         replace p11:=eq_true p11
         replace q11:=eq_true q11
         go_wp2_with (first|((with_reducible refine gate_callee (f:=87) rfl ?_);refine goesL_ (some 26) rfl rfl Tryd.func87 zaq rfl #[.int .u8 (bt a0 x3_2)] rfl zd ?_;(with_reducible refine (spec_l01Small.calls (bt a0 x3_2) true _ A12.out).mono ?_);rintro e w' ⟨rfl,⟨nd,rfl⟩⟩;refine ⟨_,rfl,?_⟩))
         go_roundg k2
         case measure=>have:=HJ1.out;have:=HK2.out;omega
         case rel=>exact ⟨(wrap64 (x3_2+1)),zi,H',⟨by have:=HJ1.out;have:=HK2.out;omega⟩,zn⟩
        ·replace c13:=Bool.eq_false_iff.mpr c13
         subst c13
         have H1:((spec_l01Digit.f (bt a0 x3_2)).bind fun t103=>(if t103=true then (spec_l01Name.l0 k2 a0 (wrap64 (x3_2+1))) else (some false)))=some r:=by rw [if_neg (show ¬ (false=true) by decide)] at H;exact H
         clear H
         have H:=H1
         clear H1
         replace H:=Option.bind_eq_some_iff.mp H
         obtain ⟨t103,A150,H⟩:=H
         replace H:(if t103=true then (spec_l01Name.l0 k2 a0 (wrap64 (x3_2+1))) else (some false))=some r:=H
         have A15:=Aside0.mk A150
         clear A150
         by_cases c16:t103=true
         ·subst c16
          have H1:(spec_l01Name.l0 k2 a0 (wrap64 (x3_2+1)))=some r:=by rw [if_pos rfl] at H;exact H
          clear H
          have H:=H1
          clear H1
          have H':=Aside0.mk H
          clear H
          have p11:0≤(x3_2:Int):=of_decide_eq_true zb
          have q11:x3_2<(a0.size:Int):=of_decide_eq_true zb
          have hx11:=bt_at a0 x3_2
          replace p11:=eq_true p11
          replace q11:=eq_true q11
          go_wp2_with (first|((with_reducible refine gate_callee (f:=87) rfl ?_);refine goesL_ (some 26) rfl rfl Tryd.func87 zaq rfl #[.int .u8 (bt a0 x3_2)] rfl zd ?_;(with_reducible refine (spec_l01Small.calls (bt a0 x3_2) false _ A12.out).mono ?_);rintro e w' ⟨rfl,⟨nd,rfl⟩⟩;refine ⟨_,rfl,?_⟩;have p14:0≤(x3_2:Int):=of_decide_eq_true zb;have q14:x3_2<(a0.size:Int):=of_decide_eq_true zb;have hx14:=bt_at a0 x3_2;replace p14:=eq_true p14;replace q14:=eq_true q14)|(go_at_call 88;(with_reducible refine (spec_l01Digit.calls (bt a0 x3_2) true _ A15.out).mono ?_);rintro e w' ⟨rfl,⟨nd,rfl⟩⟩))
          go_roundg k2
          case measure=>have:=HJ1.out;have:=HK2.out;omega
          case rel=>exact ⟨(wrap64 (x3_2+1)),zi,H',⟨by have:=HJ1.out;have:=HK2.out;omega⟩,zn⟩
         ·replace c16:=Bool.eq_false_iff.mpr c16
          subst c16
          have H1:(some false)=some r:=by rw [if_neg (show ¬ (false=true) by decide)] at H;exact H
          clear H
          have H:=H1
          clear H1
          obtain rfl:=Option.some.inj H
          have p11:0≤(x3_2:Int):=of_decide_eq_true zb
          have q11:x3_2<(a0.size:Int):=of_decide_eq_true zb
          have hx11:=bt_at a0 x3_2
          replace p11:=eq_true p11
          replace q11:=eq_true q11
          go_wp2_with (first|((with_reducible refine gate_callee (f:=87) rfl ?_);refine goesL_ (some 26) rfl rfl Tryd.func87 zaq rfl #[.int .u8 (bt a0 x3_2)] rfl zd ?_;(with_reducible refine (spec_l01Small.calls (bt a0 x3_2) false _ A12.out).mono ?_);rintro e w' ⟨rfl,⟨nd,rfl⟩⟩;refine ⟨_,rfl,?_⟩;have p14:0≤(x3_2:Int):=of_decide_eq_true zb;have q14:x3_2<(a0.size:Int):=of_decide_eq_true zb;have hx14:=bt_at a0 x3_2;replace p14:=eq_true p14;replace q14:=eq_true q14)|(go_at_call 88;(with_reducible refine (spec_l01Digit.calls (bt a0 x3_2) false _ A15.out).mono ?_);rintro e w' ⟨rfl,⟨nd,rfl⟩⟩))
          go_ret
          exact ⟨zi,zn⟩
       ·rw [if_neg c10] at H
        exact absurd H zca
      ·rw [if_neg c9] at H
       have c9b0:decide (x3_2<(a0.size:Int))=false:=decide_eq_false c9
       clear c9
       obtain rfl:=Option.some.inj H
       go_wp2
       go_ret
       exact ⟨zi,zn⟩

def spec_l27Setting_e.f (k:Nat) (l0:List (S57)) (a0i:Int):Option (Bool):=(spec_l01Name.f k ((rd_T57 l0 a0i).f0)).bind fun t102=>(if t102=true then ((spec_l00In.f ((rd_T57 l0 a0i).f1) 0 1000).bind fun t104=>(some t104)) else (some false))
set_option maxHeartbeats 8000000 in
set_option maxRecDepth 100000 in
theorem spec_l27Setting_e.calls (k:Nat) (ad0:Addr) (l0:List (S57)) (a0i:Int) (r:Bool) (w:World) (hr0:Kd.C k57 w (some ad0) l0.length l0) (hp0:decide (0≤a0i)=true) (hq0:decide (a0i<(l0.length:Int))=true) (h:spec_l27Setting_e.f k l0 a0i=some r) :
 Calls Tryd.prog 74 #[.pointer (some (ad0.add (a0i.toNat*2)))] w fun e w'=>e = .returned (.bool r)∧Drawn0 w w':=by
 have HR0:=Aside0.mk hr0
 clear hr0
 have H:((spec_l01Name.f k ((rd_T57 l0 a0i).f0)).bind fun t102=>(if t102=true then ((spec_l00In.f ((rd_T57 l0 a0i).f1) 0 1000).bind fun t104=>(some t104)) else (some false)))=some r:=h
 clear h
 replace H:=Option.bind_eq_some_iff.mp H
 obtain ⟨t102,A20,H⟩:=H
 replace H:(if t102=true then ((spec_l00In.f ((rd_T57 l0 a0i).f1) 0 1000).bind fun t104=>(some t104)) else (some false))=some r:=H
 have A2:=Aside0.mk A20
 clear A20
 by_cases c3:t102=true
 ·subst c3
  have H1:((spec_l00In.f ((rd_T57 l0 a0i).f1) 0 1000).bind fun t104=>(some t104))=some r:=by rw [if_pos rfl] at H;exact H
  clear H
  have H:=H1
  clear H1
  replace H:=Option.bind_eq_some_iff.mp H
  obtain ⟨t104,A40,H⟩:=H
  replace H:(some t104)=some r:=H
  have A4:=Aside0.mk A40
  clear A40
  obtain rfl:=Option.some.inj H
  have p101:0≤(a0i:Int):=of_decide_eq_true zb
  have q101:a0i<(l0.length:Int):=of_decide_eq_true zb
  obtain ⟨ad101,e101,hx101_0,hx101_1⟩:=at_T57 HR0.out a0i p101 q101
  obtain rfl:ad0=ad101:=(by injection e101)
  replace p101:=eq_true p101
  replace q101:=eq_true q101
  go_enter Tryd.func74,Tryd.ntmps74
  go_wp2_with (first|((with_reducible refine gate_callee (f:=81) rfl ?_);refine goesL_ (some 7) rfl rfl Tryd.func81 zaq rfl #[.string ((rd_T57 l0 a0i).f0)] rfl zd ?_;(with_reducible refine (spec_l01Name.calls k ((rd_T57 l0 a0i).f0) true _ A2.out).mono ?_);rintro e w' ⟨rfl,⟨nd,rfl⟩⟩;refine ⟨_,rfl,?_⟩;have p103:0≤(a0i:Int):=of_decide_eq_true zb;have q103:a0i<(l0.length:Int):=of_decide_eq_true zb;obtain ⟨ad103,e103,hx103_0,hx103_1⟩:=at_T57 HR0.out a0i p103 q103;obtain rfl:ad0=ad103:=(by injection e103);replace p103:=eq_true p103;replace q103:=eq_true q103)|(go_at_call 63;(with_reducible refine (spec_l00In.calls ((rd_T57 l0 a0i).f1) 0 1000 t104 _ A4.out).mono ?_);rintro e w' ⟨rfl,⟨nd,rfl⟩⟩))
  go_ret
  exact ⟨zi,zn⟩
 ·replace c3:=Bool.eq_false_iff.mpr c3
  subst c3
  have H1:(some false)=some r:=by rw [if_neg (show ¬ (false=true) by decide)] at H;exact H
  clear H
  have H:=H1
  clear H1
  obtain rfl:=Option.some.inj H
  have p101:0≤(a0i:Int):=of_decide_eq_true zb
  have q101:a0i<(l0.length:Int):=of_decide_eq_true zb
  obtain ⟨ad101,e101,hx101_0,hx101_1⟩:=at_T57 HR0.out a0i p101 q101
  obtain rfl:ad0=ad101:=(by injection e101)
  replace p101:=eq_true p101
  replace q101:=eq_true q101
  go_enter Tryd.func74,Tryd.ntmps74
  go_wp2_with (first|((with_reducible refine gate_callee (f:=81) rfl ?_);refine goesL_ (some 7) rfl rfl Tryd.func81 zaq rfl #[.string ((rd_T57 l0 a0i).f0)] rfl zd ?_;(with_reducible refine (spec_l01Name.calls k ((rd_T57 l0 a0i).f0) false _ A2.out).mono ?_);rintro e w' ⟨rfl,⟨nd,rfl⟩⟩;refine ⟨_,rfl,?_⟩))
  go_ret
  exact ⟨zi,zn⟩

def spec_l27State.l0:Nat→List (S57)→Int→Option (Bool)
 | 0,_,_=>none
 | k+1,x0,x3=>if x3<(x0.length:Int) then (if 0≤x3 then ((spec_l27Setting_e.f k x0 x3).bind fun t102=>(if t102=true then (if x3 > 0 then (if 0≤(wrap64 (x3 - 1)) then (if (wrap64 (x3 - 1))<(x0.length:Int) then (if ((Op.bytesLess (((rd_T57 x0 (wrap64 (x3 - 1))).f0).toList) (((rd_T57 x0 x3).f0).toList))=true) then (spec_l27State.l0 k x0 (wrap64 (x3+1))) else (some false)) else (none)) else (none)) else (spec_l27State.l0 k x0 (wrap64 (x3+1)))) else (some false))) else (none)) else (some (decide ((x0.length:Int)≤24)))
def spec_l27State.f (k:Nat) (l0:List (S57)):Option (Bool):=spec_l27State.l0 k l0 0
set_option maxHeartbeats 8000000 in
set_option maxRecDepth 100000 in
theorem spec_l27State.calls (k:Nat) (A0:Option Addr) (c0:Nat) (l0:List (S57)) (r:Bool) (w:World) (hr0:Kd.C k57 w A0 l0.length l0) (hc0:l0.length≤c0) (h:spec_l27State.f k l0=some r) :
 Calls Tryd.prog 65 #[.slice A0 l0.length c0] w fun e w'=>e = .returned (.bool r)∧Drawn0 w w':=by
 have HR0:=Aside0.mk hr0
 have HC0:=Aside0.mk hc0
 clear hr0 hc0
 have H:(spec_l27State.l0 k l0 0)=some r:=h
 clear h
 have H':=Aside0.mk H
 clear H
 go_enter Tryd.func65,Tryd.ntmps65
 go_wp2
 repeat (go_quiet (fail);try go_wp2)
 go_loopg [3] k (fun kq v3 w'=>∃(x3_1:Int),v3 = .int .i64 x3_1∧Aside0 (spec_l27State.l0 kq l0 x3_1=some r)∧Aside0 (kq≤k)∧Drawn0 w w')
 case atStart=>exact ⟨(0),zi,H',⟨Nat.le_refl _⟩,zn⟩
 case round=>
  clear H'
  obtain ⟨x3_1,rfl,HA,HK1,⟨m1,rfl⟩⟩:=hrel
  cases gk with
  | zero=>exact absurd HA.out (by simp [spec_l27State.l0])
  | succ k1=>
   have H:=HA.out
   clear HA
   simp only [spec_l27State.l0] at H
   by_cases c2:x3_1<(l0.length:Int)
   ·rw [if_pos c2] at H
    have c2b0:decide (x3_1<(l0.length:Int))=true:=decide_eq_true c2
    clear c2
    by_cases c3:0≤x3_1
    ·rw [if_pos c3] at H
     have c3b0:decide (0≤x3_1)=true:=decide_eq_true c3
     clear c3
     replace H:=Option.bind_eq_some_iff.mp H
     obtain ⟨t102,A40,H⟩:=H
     replace H:(if t102=true then (if x3_1 > 0 then (if 0≤(wrap64 (x3_1 - 1)) then (if (wrap64 (x3_1 - 1))<(l0.length:Int) then (if ((Op.bytesLess (((rd_T57 l0 (wrap64 (x3_1 - 1))).f0).toList) (((rd_T57 l0 x3_1).f0).toList))=true) then (spec_l27State.l0 k1 l0 (wrap64 (x3_1+1))) else (some false)) else (none)) else (none)) else (spec_l27State.l0 k1 l0 (wrap64 (x3_1+1)))) else (some false))=some r:=H
     have A4:=Aside0.mk A40
     clear A40
     by_cases c5:t102=true
     ·subst c5
      have H1:(if x3_1 > 0 then (if 0≤(wrap64 (x3_1 - 1)) then (if (wrap64 (x3_1 - 1))<(l0.length:Int) then (if ((Op.bytesLess (((rd_T57 l0 (wrap64 (x3_1 - 1))).f0).toList) (((rd_T57 l0 x3_1).f0).toList))=true) then (spec_l27State.l0 k1 l0 (wrap64 (x3_1+1))) else (some false)) else (none)) else (none)) else (spec_l27State.l0 k1 l0 (wrap64 (x3_1+1))))=some r:=by rw [if_pos rfl] at H;exact H
      clear H
      have H:=H1
      clear H1
      by_cases c6:x3_1 > 0
      ·rw [if_pos c6] at H
       have c6b0:decide (0<x3_1)=true:=decide_eq_true c6
       clear c6
       obtain ⟨ji7,hji7⟩:∃j_:Int,(wrap64 (x3_1 - 1))=j_:=⟨_,rfl⟩
       replace H:(if 0≤(ji7) then (if (ji7)<(l0.length:Int) then (if ((Op.bytesLess (((rd_T57 l0 (ji7)).f0).toList) (((rd_T57 l0 x3_1).f0).toList))=true) then (spec_l27State.l0 k1 l0 (wrap64 (x3_1+1))) else (some false)) else (none)) else (none))=some r:=by first|(rw [hji7] at H;exact H)|(simp only [hji7] at H ⊢;exact H)
       (try rw [hji7] at A4)
       have hji7w:(IntKind.i64.wrap (x3_1 - 1))=ji7:=(i64_w _).trans hji7
       by_cases c8:0≤(ji7)
       ·rw [if_pos c8] at H
        have c8b0:decide (0≤(ji7))=true:=decide_eq_true c8
        clear c8
        by_cases c9:(ji7)<(l0.length:Int)
        ·rw [if_pos c9] at H
         have c9b0:decide ((ji7)<(l0.length:Int))=true:=decide_eq_true c9
         clear c9
         by_cases c10:((Op.bytesLess (((rd_T57 l0 (ji7)).f0).toList) (((rd_T57 l0 x3_1).f0).toList))=true)
         ·rw [if_pos c10] at H
          have c10b0:(Op.bytesLess (((rd_T57 l0 (ji7)).f0).toList) (((rd_T57 l0 x3_1).f0).toList))=true:=c10
          clear c10
          have H':=Aside0.mk H
          clear H
          have p101:0≤(x3_1:Int):=of_decide_eq_true zb
          have q101:x3_1<(l0.length:Int):=of_decide_eq_true zb
          obtain ⟨ad101,e101,hx101_0,hx101_1⟩:=at_T57 HR0.out x3_1 p101 q101
          cases e101
          replace p101:=eq_true p101
          replace q101:=eq_true q101
          go_wp2_with (first|(go_at_call 74;(with_reducible refine (spec_l27Setting_e.calls k1 _ l0 x3_1 true _ ?side1 ?side2 ?side3 A4.out).mono ?_);(case side1=>exact zo);(case side2=>first|(with_reducible assumption)|assumption|decide|exact decide_eq_true zca|exact decide_eq_true zbn);(case side3=>first|(with_reducible assumption)|assumption|decide|exact decide_eq_true zca|exact decide_eq_true zbn);rintro e w' ⟨rfl,⟨nd,rfl⟩⟩;(try first|exact ⟨rfl,_,World.drewN_drewN _ _ _⟩|exact ⟨rfl,_,Eq.trans (World.drewN_drewN _ _ _) (congrArg (World.drewN _) (Nat.add_assoc _ _ _))⟩);have p103:0≤((ji7):Int):=of_decide_eq_true zb;have q103:(ji7)<(l0.length:Int):=of_decide_eq_true zb;obtain ⟨ad103,e103,hx103_0,hx103_1⟩:=at_T57 HR0.out (ji7) p103 q103;obtain rfl:ad101=ad103:=(by injection e103);replace p103:=eq_true p103;replace q103:=eq_true q103;have p104:0≤(x3_1:Int):=of_decide_eq_true zb;have q104:x3_1<(l0.length:Int):=of_decide_eq_true zb;obtain ⟨ad104,e104,hx104_0,hx104_1⟩:=at_T57 HR0.out x3_1 p104 q104;obtain rfl:ad101=ad104:=(by injection e104);replace p104:=eq_true p104;replace q104:=eq_true q104))
          repeat (go_quiet (first|(go_at_call 74;(with_reducible refine (spec_l27Setting_e.calls k1 _ l0 x3_1 true _ ?side1 ?side2 ?side3 A4.out).mono ?_);(case side1=>exact zo);(case side2=>first|(with_reducible assumption)|assumption|decide|exact decide_eq_true zca|exact decide_eq_true zbn);(case side3=>first|(with_reducible assumption)|assumption|decide|exact decide_eq_true zca|exact decide_eq_true zbn);rintro e w' ⟨rfl,⟨nd,rfl⟩⟩;(try first|exact ⟨rfl,_,World.drewN_drewN _ _ _⟩|exact ⟨rfl,_,Eq.trans (World.drewN_drewN _ _ _) (congrArg (World.drewN _) (Nat.add_assoc _ _ _))⟩);have p103:0≤((ji7):Int):=of_decide_eq_true zb;have q103:(ji7)<(l0.length:Int):=of_decide_eq_true zb;obtain ⟨ad103,e103,hx103_0,hx103_1⟩:=at_T57 HR0.out (ji7) p103 q103;obtain rfl:ad101=ad103:=(by injection e103);replace p103:=eq_true p103;replace q103:=eq_true q103;have p104:0≤(x3_1:Int):=of_decide_eq_true zb;have q104:x3_1<(l0.length:Int):=of_decide_eq_true zb;obtain ⟨ad104,e104,hx104_0,hx104_1⟩:=at_T57 HR0.out x3_1 p104 q104;obtain rfl:ad101=ad104:=(by injection e104);replace p104:=eq_true p104;replace q104:=eq_true q104));try go_wp2_with (first|(go_at_call 74;(with_reducible refine (spec_l27Setting_e.calls k1 _ l0 x3_1 true _ ?side1 ?side2 ?side3 A4.out).mono ?_);(case side1=>exact zo);(case side2=>first|(with_reducible assumption)|assumption|decide|exact decide_eq_true zca|exact decide_eq_true zbn);(case side3=>first|(with_reducible assumption)|assumption|decide|exact decide_eq_true zca|exact decide_eq_true zbn);rintro e w' ⟨rfl,⟨nd,rfl⟩⟩;(try first|exact ⟨rfl,_,World.drewN_drewN _ _ _⟩|exact ⟨rfl,_,Eq.trans (World.drewN_drewN _ _ _) (congrArg (World.drewN _) (Nat.add_assoc _ _ _))⟩);have p103:0≤((ji7):Int):=of_decide_eq_true zb;have q103:(ji7)<(l0.length:Int):=of_decide_eq_true zb;obtain ⟨ad103,e103,hx103_0,hx103_1⟩:=at_T57 HR0.out (ji7) p103 q103;obtain rfl:ad101=ad103:=(by injection e103);replace p103:=eq_true p103;replace q103:=eq_true q103;have p104:0≤(x3_1:Int):=of_decide_eq_true zb;have q104:x3_1<(l0.length:Int):=of_decide_eq_true zb;obtain ⟨ad104,e104,hx104_0,hx104_1⟩:=at_T57 HR0.out x3_1 p104 q104;obtain rfl:ad101=ad104:=(by injection e104);replace p104:=eq_true p104;replace q104:=eq_true q104)))
          go_roundg k1
          case measure=>have:=HK1.out;omega
          case rel=>exact ⟨(wrap64 (x3_1+1)),zi,H',⟨zci⟩,zn⟩
         ·rw [if_neg c10] at H
          have c10b0:(Op.bytesLess (((rd_T57 l0 (ji7)).f0).toList) (((rd_T57 l0 x3_1).f0).toList))=false:=by simpa using c10
          clear c10
          obtain rfl:=Option.some.inj H
          have p101:0≤(x3_1:Int):=of_decide_eq_true zb
          have q101:x3_1<(l0.length:Int):=of_decide_eq_true zb
          obtain ⟨ad101,e101,hx101_0,hx101_1⟩:=at_T57 HR0.out x3_1 p101 q101
          cases e101
          replace p101:=eq_true p101
          replace q101:=eq_true q101
          go_wp2_with (first|(go_at_call 74;(with_reducible refine (spec_l27Setting_e.calls k1 _ l0 x3_1 true _ ?side1 ?side2 ?side3 A4.out).mono ?_);(case side1=>exact zo);(case side2=>first|(with_reducible assumption)|assumption|decide|exact decide_eq_true zca|exact decide_eq_true zbn);(case side3=>first|(with_reducible assumption)|assumption|decide|exact decide_eq_true zca|exact decide_eq_true zbn);rintro e w' ⟨rfl,⟨nd,rfl⟩⟩;(try first|exact ⟨rfl,_,World.drewN_drewN _ _ _⟩|exact ⟨rfl,_,Eq.trans (World.drewN_drewN _ _ _) (congrArg (World.drewN _) (Nat.add_assoc _ _ _))⟩);have p103:0≤((ji7):Int):=of_decide_eq_true zb;have q103:(ji7)<(l0.length:Int):=of_decide_eq_true zb;obtain ⟨ad103,e103,hx103_0,hx103_1⟩:=at_T57 HR0.out (ji7) p103 q103;obtain rfl:ad101=ad103:=(by injection e103);replace p103:=eq_true p103;replace q103:=eq_true q103;have p104:0≤(x3_1:Int):=of_decide_eq_true zb;have q104:x3_1<(l0.length:Int):=of_decide_eq_true zb;obtain ⟨ad104,e104,hx104_0,hx104_1⟩:=at_T57 HR0.out x3_1 p104 q104;obtain rfl:ad101=ad104:=(by injection e104);replace p104:=eq_true p104;replace q104:=eq_true q104))
          repeat (go_quiet (first|(go_at_call 74;(with_reducible refine (spec_l27Setting_e.calls k1 _ l0 x3_1 true _ ?side1 ?side2 ?side3 A4.out).mono ?_);(case side1=>exact zo);(case side2=>first|(with_reducible assumption)|assumption|decide|exact decide_eq_true zca|exact decide_eq_true zbn);(case side3=>first|(with_reducible assumption)|assumption|decide|exact decide_eq_true zca|exact decide_eq_true zbn);rintro e w' ⟨rfl,⟨nd,rfl⟩⟩;(try first|exact ⟨rfl,_,World.drewN_drewN _ _ _⟩|exact ⟨rfl,_,Eq.trans (World.drewN_drewN _ _ _) (congrArg (World.drewN _) (Nat.add_assoc _ _ _))⟩);have p103:0≤((ji7):Int):=of_decide_eq_true zb;have q103:(ji7)<(l0.length:Int):=of_decide_eq_true zb;obtain ⟨ad103,e103,hx103_0,hx103_1⟩:=at_T57 HR0.out (ji7) p103 q103;obtain rfl:ad101=ad103:=(by injection e103);replace p103:=eq_true p103;replace q103:=eq_true q103;have p104:0≤(x3_1:Int):=of_decide_eq_true zb;have q104:x3_1<(l0.length:Int):=of_decide_eq_true zb;obtain ⟨ad104,e104,hx104_0,hx104_1⟩:=at_T57 HR0.out x3_1 p104 q104;obtain rfl:ad101=ad104:=(by injection e104);replace p104:=eq_true p104;replace q104:=eq_true q104));try go_wp2_with (first|(go_at_call 74;(with_reducible refine (spec_l27Setting_e.calls k1 _ l0 x3_1 true _ ?side1 ?side2 ?side3 A4.out).mono ?_);(case side1=>exact zo);(case side2=>first|(with_reducible assumption)|assumption|decide|exact decide_eq_true zca|exact decide_eq_true zbn);(case side3=>first|(with_reducible assumption)|assumption|decide|exact decide_eq_true zca|exact decide_eq_true zbn);rintro e w' ⟨rfl,⟨nd,rfl⟩⟩;(try first|exact ⟨rfl,_,World.drewN_drewN _ _ _⟩|exact ⟨rfl,_,Eq.trans (World.drewN_drewN _ _ _) (congrArg (World.drewN _) (Nat.add_assoc _ _ _))⟩);have p103:0≤((ji7):Int):=of_decide_eq_true zb;have q103:(ji7)<(l0.length:Int):=of_decide_eq_true zb;obtain ⟨ad103,e103,hx103_0,hx103_1⟩:=at_T57 HR0.out (ji7) p103 q103;obtain rfl:ad101=ad103:=(by injection e103);replace p103:=eq_true p103;replace q103:=eq_true q103;have p104:0≤(x3_1:Int):=of_decide_eq_true zb;have q104:x3_1<(l0.length:Int):=of_decide_eq_true zb;obtain ⟨ad104,e104,hx104_0,hx104_1⟩:=at_T57 HR0.out x3_1 p104 q104;obtain rfl:ad101=ad104:=(by injection e104);replace p104:=eq_true p104;replace q104:=eq_true q104)))
          go_ret
          exact ⟨by first|rfl|(simp;done)|(simp only [←hji7]<;>(first|rfl|simp))|(simp [*];done),zn⟩
        ·rw [if_neg c9] at H
         exact absurd H zca
       ·rw [if_neg c8] at H
        exact absurd H zca
      ·rw [if_neg c6] at H
       have c6b0:decide (0<x3_1)=false:=decide_eq_false c6
       clear c6
       have H':=Aside0.mk H
       clear H
       have p101:0≤(x3_1:Int):=of_decide_eq_true zb
       have q101:x3_1<(l0.length:Int):=of_decide_eq_true zb
       obtain ⟨ad101,e101,hx101_0,hx101_1⟩:=at_T57 HR0.out x3_1 p101 q101
       cases e101
       replace p101:=eq_true p101
       replace q101:=eq_true q101
       go_wp2_with (first|(go_at_call 74;(with_reducible refine (spec_l27Setting_e.calls k1 _ l0 x3_1 true _ ?side1 ?side2 ?side3 A4.out).mono ?_);(case side1=>exact zo);(case side2=>first|(with_reducible assumption)|assumption|decide|exact decide_eq_true zca|exact decide_eq_true zbn);(case side3=>first|(with_reducible assumption)|assumption|decide|exact decide_eq_true zca|exact decide_eq_true zbn);rintro e w' ⟨rfl,⟨nd,rfl⟩⟩;(try first|exact ⟨rfl,_,World.drewN_drewN _ _ _⟩|exact ⟨rfl,_,Eq.trans (World.drewN_drewN _ _ _) (congrArg (World.drewN _) (Nat.add_assoc _ _ _))⟩)))
       repeat (go_quiet (first|(go_at_call 74;(with_reducible refine (spec_l27Setting_e.calls k1 _ l0 x3_1 true _ ?side1 ?side2 ?side3 A4.out).mono ?_);(case side1=>exact zo);(case side2=>first|(with_reducible assumption)|assumption|decide|exact decide_eq_true zca|exact decide_eq_true zbn);(case side3=>first|(with_reducible assumption)|assumption|decide|exact decide_eq_true zca|exact decide_eq_true zbn);rintro e w' ⟨rfl,⟨nd,rfl⟩⟩;(try first|exact ⟨rfl,_,World.drewN_drewN _ _ _⟩|exact ⟨rfl,_,Eq.trans (World.drewN_drewN _ _ _) (congrArg (World.drewN _) (Nat.add_assoc _ _ _))⟩)));try go_wp2_with (first|(go_at_call 74;(with_reducible refine (spec_l27Setting_e.calls k1 _ l0 x3_1 true _ ?side1 ?side2 ?side3 A4.out).mono ?_);(case side1=>exact zo);(case side2=>first|(with_reducible assumption)|assumption|decide|exact decide_eq_true zca|exact decide_eq_true zbn);(case side3=>first|(with_reducible assumption)|assumption|decide|exact decide_eq_true zca|exact decide_eq_true zbn);rintro e w' ⟨rfl,⟨nd,rfl⟩⟩;(try first|exact ⟨rfl,_,World.drewN_drewN _ _ _⟩|exact ⟨rfl,_,Eq.trans (World.drewN_drewN _ _ _) (congrArg (World.drewN _) (Nat.add_assoc _ _ _))⟩))))
       go_roundg k1
       case measure=>have:=HK1.out;omega
       case rel=>exact ⟨(wrap64 (x3_1+1)),zi,H',⟨zci⟩,zn⟩
     ·replace c5:=Bool.eq_false_iff.mpr c5
      subst c5
      have H1:(some false)=some r:=by rw [if_neg (show ¬ (false=true) by decide)] at H;exact H
      clear H
      have H:=H1
      clear H1
      obtain rfl:=Option.some.inj H
      have p101:0≤(x3_1:Int):=of_decide_eq_true zb
      have q101:x3_1<(l0.length:Int):=of_decide_eq_true zb
      obtain ⟨ad101,e101,hx101_0,hx101_1⟩:=at_T57 HR0.out x3_1 p101 q101
      cases e101
      replace p101:=eq_true p101
      replace q101:=eq_true q101
      go_wp2_with (first|(go_at_call 74;(with_reducible refine (spec_l27Setting_e.calls k1 _ l0 x3_1 false _ ?side1 ?side2 ?side3 A4.out).mono ?_);(case side1=>exact zo);(case side2=>first|(with_reducible assumption)|assumption|decide|exact decide_eq_true zca|exact decide_eq_true zbn);(case side3=>first|(with_reducible assumption)|assumption|decide|exact decide_eq_true zca|exact decide_eq_true zbn);rintro e w' ⟨rfl,⟨nd,rfl⟩⟩;(try first|exact ⟨rfl,_,World.drewN_drewN _ _ _⟩|exact ⟨rfl,_,Eq.trans (World.drewN_drewN _ _ _) (congrArg (World.drewN _) (Nat.add_assoc _ _ _))⟩)))
      repeat (go_quiet (first|(go_at_call 74;(with_reducible refine (spec_l27Setting_e.calls k1 _ l0 x3_1 false _ ?side1 ?side2 ?side3 A4.out).mono ?_);(case side1=>exact zo);(case side2=>first|(with_reducible assumption)|assumption|decide|exact decide_eq_true zca|exact decide_eq_true zbn);(case side3=>first|(with_reducible assumption)|assumption|decide|exact decide_eq_true zca|exact decide_eq_true zbn);rintro e w' ⟨rfl,⟨nd,rfl⟩⟩;(try first|exact ⟨rfl,_,World.drewN_drewN _ _ _⟩|exact ⟨rfl,_,Eq.trans (World.drewN_drewN _ _ _) (congrArg (World.drewN _) (Nat.add_assoc _ _ _))⟩)));try go_wp2_with (first|(go_at_call 74;(with_reducible refine (spec_l27Setting_e.calls k1 _ l0 x3_1 false _ ?side1 ?side2 ?side3 A4.out).mono ?_);(case side1=>exact zo);(case side2=>first|(with_reducible assumption)|assumption|decide|exact decide_eq_true zca|exact decide_eq_true zbn);(case side3=>first|(with_reducible assumption)|assumption|decide|exact decide_eq_true zca|exact decide_eq_true zbn);rintro e w' ⟨rfl,⟨nd,rfl⟩⟩;(try first|exact ⟨rfl,_,World.drewN_drewN _ _ _⟩|exact ⟨rfl,_,Eq.trans (World.drewN_drewN _ _ _) (congrArg (World.drewN _) (Nat.add_assoc _ _ _))⟩))))
      go_ret
      exact ⟨zi,zn⟩
    ·rw [if_neg c3] at H
     exact absurd H zca
   ·rw [if_neg c2] at H
    have c2b0:decide (x3_1<(l0.length:Int))=false:=decide_eq_false c2
    clear c2
    obtain rfl:=Option.some.inj H
    go_wp2
    repeat (go_quiet (fail);try go_wp2)
    go_ret
    exact ⟨zi,zn⟩

def spec_l27Ok.l0:Nat→List (S48)→Int→Option (Bool)
 | 0,_,_=>none
 | k+1,x0,x3=>if x3<(x0.length:Int) then (if 0≤x3 then (if ((rd_T48 x0 x3).f0)=(wrap64 (x3+1)) then ((spec_l00In.f ((rd_T48 x0 x3).f1) 0 x3).bind fun t103=>(if t103=true then ((spec_l27Memo.f k ((rd_T48 x0 x3).f2)).bind fun t104=>(if t104=true then ((spec_l27State.f k ((rd_T48 x0 x3).f3)).bind fun t105=>(if t105=true then (spec_l27Ok.l0 k x0 (wrap64 (x3+1))) else (some false))) else (some false))) else (some false))) else (some false)) else (none)) else (some (decide ((x0.length:Int)≤32)))
def spec_l27Ok.f (k:Nat) (l0:List (S48)):Option (Bool):=spec_l27Ok.l0 k l0 0
set_option maxHeartbeats 8000000 in
set_option maxRecDepth 100000 in
theorem spec_l27Ok.calls (k:Nat) (A0:Option Addr) (c0:Nat) (l0:List (S48)) (r:Bool) (w:World) (hr0:Kd.C k48 w A0 l0.length l0) (hc0:l0.length≤c0) (h:spec_l27Ok.f k l0=some r) :
 Calls Tryd.prog 46 #[.slice A0 l0.length c0] w fun e w'=>e = .returned (.bool r)∧Below w.heap.size w w':=by
 have hu48:=Tryd.underlying48
 have HR0:=Aside0.mk hr0
 have HC0:=Aside0.mk hc0
 clear hr0 hc0
 have HB:=Aside0.mk (Below.refl w.heap.size w)
 have H:(spec_l27Ok.l0 k l0 0)=some r:=h
 clear h
 have H':=Aside0.mk H
 clear H
 go_enter Tryd.func46,Tryd.ntmps46
 go_wp2
 go_loopg [3] k (fun kq v3 w'=>∃(x3_1:Int),v3 = .int .i64 x3_1∧Aside0 (spec_l27Ok.l0 kq l0 x3_1=some r)∧Aside0 (kq≤k)∧Aside0 (Below w.heap.size w w'))
 case atStart=>exact ⟨(0),zi,H',⟨Nat.le_refl _⟩,⟨za⟩⟩
 case round=>
  clear H'
  obtain ⟨x3_1,rfl,HA,HK1,HB⟩:=hrel
  cases gk with
  | zero=>exact absurd HA.out (by simp [spec_l27Ok.l0])
  | succ k1=>
   have H:=HA.out
   clear HA
   simp only [spec_l27Ok.l0] at H
   by_cases c2:x3_1<(l0.length:Int)
   ·rw [if_pos c2] at H
    have c2b0:decide (x3_1<(l0.length:Int))=true:=decide_eq_true c2
    clear c2
    by_cases c3:0≤x3_1
    ·rw [if_pos c3] at H
     have c3b0:decide (0≤x3_1)=true:=decide_eq_true c3
     clear c3
     by_cases c4:((rd_T48 l0 x3_1).f0)=(wrap64 (x3_1+1))
     ·rw [if_pos c4] at H
      have c4b0:(((rd_T48 l0 x3_1).f0) == (wrap64 (x3_1+1)))=true:=beq_iff_eq.mpr c4
      have c4b1:(((rd_T48 l0 x3_1).f0) != (wrap64 (x3_1+1)))=false:=bne_eq_false_iff_eq.mpr c4
      clear c4
      replace H:=Option.bind_eq_some_iff.mp H
      obtain ⟨t103,A50,H⟩:=H
      replace H:(if t103=true then ((spec_l27Memo.f k1 ((rd_T48 l0 x3_1).f2)).bind fun t104=>(if t104=true then ((spec_l27State.f k1 ((rd_T48 l0 x3_1).f3)).bind fun t105=>(if t105=true then (spec_l27Ok.l0 k1 l0 (wrap64 (x3_1+1))) else (some false))) else (some false))) else (some false))=some r:=H
      have A5:=Aside0.mk A50
      clear A50
      by_cases c6:t103=true
      ·subst c6
       have H1:((spec_l27Memo.f k1 ((rd_T48 l0 x3_1).f2)).bind fun t104=>(if t104=true then ((spec_l27State.f k1 ((rd_T48 l0 x3_1).f3)).bind fun t105=>(if t105=true then (spec_l27Ok.l0 k1 l0 (wrap64 (x3_1+1))) else (some false))) else (some false)))=some r:=by rw [if_pos rfl] at H;exact H
       clear H
       have H:=H1
       clear H1
       replace H:=Option.bind_eq_some_iff.mp H
       obtain ⟨t104,A70,H⟩:=H
       replace H:(if t104=true then ((spec_l27State.f k1 ((rd_T48 l0 x3_1).f3)).bind fun t105=>(if t105=true then (spec_l27Ok.l0 k1 l0 (wrap64 (x3_1+1))) else (some false))) else (some false))=some r:=H
       have A7:=Aside0.mk A70
       clear A70
       by_cases c8:t104=true
       ·subst c8
        have H1:((spec_l27State.f k1 ((rd_T48 l0 x3_1).f3)).bind fun t105=>(if t105=true then (spec_l27Ok.l0 k1 l0 (wrap64 (x3_1+1))) else (some false)))=some r:=by rw [if_pos rfl] at H;exact H
        clear H
        have H:=H1
        clear H1
        replace H:=Option.bind_eq_some_iff.mp H
        obtain ⟨t105,A90,H⟩:=H
        replace H:(if t105=true then (spec_l27Ok.l0 k1 l0 (wrap64 (x3_1+1))) else (some false))=some r:=H
        have A9:=Aside0.mk A90
        clear A90
        by_cases c10:t105=true
        ·subst c10
         have H1:(spec_l27Ok.l0 k1 l0 (wrap64 (x3_1+1)))=some r:=by rw [if_pos rfl] at H;exact H
         clear H
         have H:=H1
         clear H1
         have H':=Aside0.mk H
         clear H
         have p101:0≤(x3_1:Int):=of_decide_eq_true zb
         have q101:x3_1<(l0.length:Int):=of_decide_eq_true zb
         obtain ⟨ad101,A101_3,c101_3,e101,hx101_0,hx101_1,hx101_2,hx101_3,hl101_3,hi101_3⟩:=at_T48 HR0.out x3_1 p101 q101
         cases e101
         replace hx101_0:=(HB.out.cell (World.block_lt_of_cell? w _ hx101_0)).trans hx101_0
         replace hx101_1:=(HB.out.cell (World.block_lt_of_cell? w _ hx101_1)).trans hx101_1
         replace hx101_2:=(HB.out.cell (World.block_lt_of_cell? w _ hx101_2)).trans hx101_2
         replace hx101_3:=(HB.out.cell (World.block_lt_of_cell? w _ hx101_3)).trans hx101_3
         have HR101_3:=Aside0.mk hi101_3
         have HC101_3:=Aside0.mk hl101_3
         clear hi101_3 hl101_3
         replace p101:=eq_true p101
         replace q101:=eq_true q101
         go_wp2_with (first|((with_reducible refine gate_dst (N:=4) rfl ?_);refine box_event ?hg (N:=4) ?hd (cs:=#[.int .i64 0,.int .i64 0,.string (⟨#[]⟩:ByteArray),.slice none 0 0]) (t:=48) ?hr ?_;(case hd=>rfl);(case hg=>rfl);(case hr=>exact zv);intro gb102 hg w11 hbox hb;have n0_:=Aside0.mk (below_step za hb);have n1_:=Aside0.mk (hbox);have n2_:=Aside0.mk ((by rw [hg];exact (below_size za):w.heap.size≤gb102));have n3_:=Aside0.mk ((by rw [hg];exact (below_size za):w.heap.size≤gb102));clear HB;have HB:=n0_;have BK102:=n1_;have GW102:=n2_;have GE102:=n3_;clear n0_ n1_ n2_ n3_;clear hb hbox hg;have hcz12_0:w11.cell? ⟨gb102,0,none⟩=some (.int .i64 0):=(blk_cell BK102.out 0).trans rfl;have hcz12_1:w11.cell? ⟨gb102,1,none⟩=some (.int .i64 0):=(blk_cell BK102.out 1).trans rfl;have hcz12_2:w11.cell? ⟨gb102,2,none⟩=some (.string (⟨#[]⟩:ByteArray)):=(blk_cell BK102.out 2).trans rfl;have hcz12_3:w11.cell? ⟨gb102,3,none⟩=some (.slice none 0 0):=(blk_cell BK102.out 3).trans rfl;have hfz12_0:=blk_frozen BK102.out 0;have hfz12_1:=blk_frozen BK102.out 1;have hfz12_2:=blk_frozen BK102.out 2;have hfz12_3:=blk_frozen BK102.out 3)|(go_at_call 63;(with_reducible refine (spec_l00In.calls ((rd_T48 l0 x3_1).f1) 0 x3_1 true _ A5.out).mono ?_);rintro e w' ⟨rfl,⟨nd,rfl⟩⟩)|(go_at_call 64;(with_reducible refine (spec_l27Memo.calls k1 ((rd_T48 l0 x3_1).f2) true _ A7.out).mono ?_);rintro e w' ⟨rfl,⟨nd,rfl⟩⟩)|(go_at_call 65;(with_reducible refine (spec_l27State.calls k1 _ _ ((rd_T48 l0 x3_1).f3) true _ ?side1 ?side2 A9.out).mono ?_);(case side1=>exact Kd.C_below HR101_3.out zk);(case side2=>exact HC101_3.out);rintro e w' ⟨rfl,⟨nd,rfl⟩⟩))
         go_roundg k1
         case measure=>have:=HK1.out;omega
         case rel=>exact ⟨(wrap64 (x3_1+1)),zi,H',⟨zci⟩,⟨zk⟩⟩
        ·replace c10:=Bool.eq_false_iff.mpr c10
         subst c10
         have H1:(some false)=some r:=by rw [if_neg (show ¬ (false=true) by decide)] at H;exact H
         clear H
         have H:=H1
         clear H1
         obtain rfl:=Option.some.inj H
         have p101:0≤(x3_1:Int):=of_decide_eq_true zb
         have q101:x3_1<(l0.length:Int):=of_decide_eq_true zb
         obtain ⟨ad101,A101_3,c101_3,e101,hx101_0,hx101_1,hx101_2,hx101_3,hl101_3,hi101_3⟩:=at_T48 HR0.out x3_1 p101 q101
         cases e101
         replace hx101_0:=(HB.out.cell (World.block_lt_of_cell? w _ hx101_0)).trans hx101_0
         replace hx101_1:=(HB.out.cell (World.block_lt_of_cell? w _ hx101_1)).trans hx101_1
         replace hx101_2:=(HB.out.cell (World.block_lt_of_cell? w _ hx101_2)).trans hx101_2
         replace hx101_3:=(HB.out.cell (World.block_lt_of_cell? w _ hx101_3)).trans hx101_3
         have HR101_3:=Aside0.mk hi101_3
         have HC101_3:=Aside0.mk hl101_3
         clear hi101_3 hl101_3
         replace p101:=eq_true p101
         replace q101:=eq_true q101
         go_wp2_with (first|((with_reducible refine gate_dst (N:=4) rfl ?_);refine box_event ?hg (N:=4) ?hd (cs:=#[.int .i64 0,.int .i64 0,.string (⟨#[]⟩:ByteArray),.slice none 0 0]) (t:=48) ?hr ?_;(case hd=>rfl);(case hg=>rfl);(case hr=>exact zv);intro gb102 hg w13 hbox hb;have n0_:=Aside0.mk (below_step za hb);have n1_:=Aside0.mk (hbox);have n2_:=Aside0.mk ((by rw [hg];exact (below_size za):w.heap.size≤gb102));have n3_:=Aside0.mk ((by rw [hg];exact (below_size za):w.heap.size≤gb102));clear HB;have HB:=n0_;have BK102:=n1_;have GW102:=n2_;have GE102:=n3_;clear n0_ n1_ n2_ n3_;clear hb hbox hg;have hcz14_0:w13.cell? ⟨gb102,0,none⟩=some (.int .i64 0):=(blk_cell BK102.out 0).trans rfl;have hcz14_1:w13.cell? ⟨gb102,1,none⟩=some (.int .i64 0):=(blk_cell BK102.out 1).trans rfl;have hcz14_2:w13.cell? ⟨gb102,2,none⟩=some (.string (⟨#[]⟩:ByteArray)):=(blk_cell BK102.out 2).trans rfl;have hcz14_3:w13.cell? ⟨gb102,3,none⟩=some (.slice none 0 0):=(blk_cell BK102.out 3).trans rfl;have hfz14_0:=blk_frozen BK102.out 0;have hfz14_1:=blk_frozen BK102.out 1;have hfz14_2:=blk_frozen BK102.out 2;have hfz14_3:=blk_frozen BK102.out 3)|(go_at_call 63;(with_reducible refine (spec_l00In.calls ((rd_T48 l0 x3_1).f1) 0 x3_1 true _ A5.out).mono ?_);rintro e w' ⟨rfl,⟨nd,rfl⟩⟩)|(go_at_call 64;(with_reducible refine (spec_l27Memo.calls k1 ((rd_T48 l0 x3_1).f2) true _ A7.out).mono ?_);rintro e w' ⟨rfl,⟨nd,rfl⟩⟩)|(go_at_call 65;(with_reducible refine (spec_l27State.calls k1 _ _ ((rd_T48 l0 x3_1).f3) false _ ?side1 ?side2 A9.out).mono ?_);(case side1=>exact Kd.C_below HR101_3.out zk);(case side2=>exact HC101_3.out);rintro e w' ⟨rfl,⟨nd,rfl⟩⟩))
         go_ret
         exact ⟨zj,zk⟩
       ·replace c8:=Bool.eq_false_iff.mpr c8
        subst c8
        have H1:(some false)=some r:=by rw [if_neg (show ¬ (false=true) by decide)] at H;exact H
        clear H
        have H:=H1
        clear H1
        obtain rfl:=Option.some.inj H
        have p101:0≤(x3_1:Int):=of_decide_eq_true zb
        have q101:x3_1<(l0.length:Int):=of_decide_eq_true zb
        obtain ⟨ad101,A101_3,c101_3,e101,hx101_0,hx101_1,hx101_2,hx101_3,hl101_3,hi101_3⟩:=at_T48 HR0.out x3_1 p101 q101
        cases e101
        replace hx101_0:=(HB.out.cell (World.block_lt_of_cell? w _ hx101_0)).trans hx101_0
        replace hx101_1:=(HB.out.cell (World.block_lt_of_cell? w _ hx101_1)).trans hx101_1
        replace hx101_2:=(HB.out.cell (World.block_lt_of_cell? w _ hx101_2)).trans hx101_2
        replace hx101_3:=(HB.out.cell (World.block_lt_of_cell? w _ hx101_3)).trans hx101_3
        have HR101_3:=Aside0.mk hi101_3
        have HC101_3:=Aside0.mk hl101_3
        clear hi101_3 hl101_3
        replace p101:=eq_true p101
        replace q101:=eq_true q101
        go_wp2_with (first|((with_reducible refine gate_dst (N:=4) rfl ?_);refine box_event ?hg (N:=4) ?hd (cs:=#[.int .i64 0,.int .i64 0,.string (⟨#[]⟩:ByteArray),.slice none 0 0]) (t:=48) ?hr ?_;(case hd=>rfl);(case hg=>rfl);(case hr=>exact zv);intro gb102 hg w15 hbox hb;have n0_:=Aside0.mk (below_step za hb);have n1_:=Aside0.mk (hbox);have n2_:=Aside0.mk ((by rw [hg];exact (below_size za):w.heap.size≤gb102));have n3_:=Aside0.mk ((by rw [hg];exact (below_size za):w.heap.size≤gb102));clear HB;have HB:=n0_;have BK102:=n1_;have GW102:=n2_;have GE102:=n3_;clear n0_ n1_ n2_ n3_;clear hb hbox hg;have hcz16_0:w15.cell? ⟨gb102,0,none⟩=some (.int .i64 0):=(blk_cell BK102.out 0).trans rfl;have hcz16_1:w15.cell? ⟨gb102,1,none⟩=some (.int .i64 0):=(blk_cell BK102.out 1).trans rfl;have hcz16_2:w15.cell? ⟨gb102,2,none⟩=some (.string (⟨#[]⟩:ByteArray)):=(blk_cell BK102.out 2).trans rfl;have hcz16_3:w15.cell? ⟨gb102,3,none⟩=some (.slice none 0 0):=(blk_cell BK102.out 3).trans rfl;have hfz16_0:=blk_frozen BK102.out 0;have hfz16_1:=blk_frozen BK102.out 1;have hfz16_2:=blk_frozen BK102.out 2;have hfz16_3:=blk_frozen BK102.out 3)|(go_at_call 63;(with_reducible refine (spec_l00In.calls ((rd_T48 l0 x3_1).f1) 0 x3_1 true _ A5.out).mono ?_);rintro e w' ⟨rfl,⟨nd,rfl⟩⟩)|(go_at_call 64;(with_reducible refine (spec_l27Memo.calls k1 ((rd_T48 l0 x3_1).f2) false _ A7.out).mono ?_);rintro e w' ⟨rfl,⟨nd,rfl⟩⟩))
        go_ret
        exact ⟨zj,zk⟩
      ·replace c6:=Bool.eq_false_iff.mpr c6
       subst c6
       have H1:(some false)=some r:=by rw [if_neg (show ¬ (false=true) by decide)] at H;exact H
       clear H
       have H:=H1
       clear H1
       obtain rfl:=Option.some.inj H
       have p101:0≤(x3_1:Int):=of_decide_eq_true zb
       have q101:x3_1<(l0.length:Int):=of_decide_eq_true zb
       obtain ⟨ad101,A101_3,c101_3,e101,hx101_0,hx101_1,hx101_2,hx101_3,hl101_3,hi101_3⟩:=at_T48 HR0.out x3_1 p101 q101
       cases e101
       replace hx101_0:=(HB.out.cell (World.block_lt_of_cell? w _ hx101_0)).trans hx101_0
       replace hx101_1:=(HB.out.cell (World.block_lt_of_cell? w _ hx101_1)).trans hx101_1
       replace hx101_2:=(HB.out.cell (World.block_lt_of_cell? w _ hx101_2)).trans hx101_2
       replace hx101_3:=(HB.out.cell (World.block_lt_of_cell? w _ hx101_3)).trans hx101_3
       have HR101_3:=Aside0.mk hi101_3
       have HC101_3:=Aside0.mk hl101_3
       clear hi101_3 hl101_3
       replace p101:=eq_true p101
       replace q101:=eq_true q101
       go_wp2_with (first|((with_reducible refine gate_dst (N:=4) rfl ?_);refine box_event ?hg (N:=4) ?hd (cs:=#[.int .i64 0,.int .i64 0,.string (⟨#[]⟩:ByteArray),.slice none 0 0]) (t:=48) ?hr ?_;(case hd=>rfl);(case hg=>rfl);(case hr=>exact zv);intro gb102 hg w17 hbox hb;have n0_:=Aside0.mk (below_step za hb);have n1_:=Aside0.mk (hbox);have n2_:=Aside0.mk ((by rw [hg];exact (below_size za):w.heap.size≤gb102));have n3_:=Aside0.mk ((by rw [hg];exact (below_size za):w.heap.size≤gb102));clear HB;have HB:=n0_;have BK102:=n1_;have GW102:=n2_;have GE102:=n3_;clear n0_ n1_ n2_ n3_;clear hb hbox hg;have hcz18_0:w17.cell? ⟨gb102,0,none⟩=some (.int .i64 0):=(blk_cell BK102.out 0).trans rfl;have hcz18_1:w17.cell? ⟨gb102,1,none⟩=some (.int .i64 0):=(blk_cell BK102.out 1).trans rfl;have hcz18_2:w17.cell? ⟨gb102,2,none⟩=some (.string (⟨#[]⟩:ByteArray)):=(blk_cell BK102.out 2).trans rfl;have hcz18_3:w17.cell? ⟨gb102,3,none⟩=some (.slice none 0 0):=(blk_cell BK102.out 3).trans rfl;have hfz18_0:=blk_frozen BK102.out 0;have hfz18_1:=blk_frozen BK102.out 1;have hfz18_2:=blk_frozen BK102.out 2;have hfz18_3:=blk_frozen BK102.out 3)|(go_at_call 63;(with_reducible refine (spec_l00In.calls ((rd_T48 l0 x3_1).f1) 0 x3_1 false _ A5.out).mono ?_);rintro e w' ⟨rfl,⟨nd,rfl⟩⟩))
       go_ret
       exact ⟨zj,zk⟩
     ·rw [if_neg c4] at H
      have c4b0:(((rd_T48 l0 x3_1).f0) == (wrap64 (x3_1+1)))=false:=beq_eq_false_iff_ne.mpr c4
      have c4b1:(((rd_T48 l0 x3_1).f0) != (wrap64 (x3_1+1)))=true:=bne_iff_ne.mpr c4
      obtain rfl:=Option.some.inj H
      have p101:0≤(x3_1:Int):=of_decide_eq_true zb
      have q101:x3_1<(l0.length:Int):=of_decide_eq_true zb
      obtain ⟨ad101,A101_3,c101_3,e101,hx101_0,hx101_1,hx101_2,hx101_3,hl101_3,hi101_3⟩:=at_T48 HR0.out x3_1 p101 q101
      cases e101
      replace hx101_0:=(HB.out.cell (World.block_lt_of_cell? w _ hx101_0)).trans hx101_0
      replace hx101_1:=(HB.out.cell (World.block_lt_of_cell? w _ hx101_1)).trans hx101_1
      replace hx101_2:=(HB.out.cell (World.block_lt_of_cell? w _ hx101_2)).trans hx101_2
      replace hx101_3:=(HB.out.cell (World.block_lt_of_cell? w _ hx101_3)).trans hx101_3
      have HR101_3:=Aside0.mk hi101_3
      have HC101_3:=Aside0.mk hl101_3
      clear hi101_3 hl101_3
      replace p101:=eq_true p101
      replace q101:=eq_true q101
      go_wp2_with (first|((with_reducible refine gate_dst (N:=4) rfl ?_);refine box_event ?hg (N:=4) ?hd (cs:=#[.int .i64 0,.int .i64 0,.string (⟨#[]⟩:ByteArray),.slice none 0 0]) (t:=48) ?hr ?_;(case hd=>rfl);(case hg=>rfl);(case hr=>exact zv);intro gb102 hg w19 hbox hb;have n0_:=Aside0.mk (below_step za hb);have n1_:=Aside0.mk (hbox);have n2_:=Aside0.mk ((by rw [hg];exact (below_size za):w.heap.size≤gb102));have n3_:=Aside0.mk ((by rw [hg];exact (below_size za):w.heap.size≤gb102));clear HB;have HB:=n0_;have BK102:=n1_;have GW102:=n2_;have GE102:=n3_;clear n0_ n1_ n2_ n3_;clear hb hbox hg;have hcz20_0:w19.cell? ⟨gb102,0,none⟩=some (.int .i64 0):=(blk_cell BK102.out 0).trans rfl;have hcz20_1:w19.cell? ⟨gb102,1,none⟩=some (.int .i64 0):=(blk_cell BK102.out 1).trans rfl;have hcz20_2:w19.cell? ⟨gb102,2,none⟩=some (.string (⟨#[]⟩:ByteArray)):=(blk_cell BK102.out 2).trans rfl;have hcz20_3:w19.cell? ⟨gb102,3,none⟩=some (.slice none 0 0):=(blk_cell BK102.out 3).trans rfl;have hfz20_0:=blk_frozen BK102.out 0;have hfz20_1:=blk_frozen BK102.out 1;have hfz20_2:=blk_frozen BK102.out 2;have hfz20_3:=blk_frozen BK102.out 3))
      go_ret
      exact ⟨zj,zk⟩
    ·rw [if_neg c3] at H
     exact absurd H zca
   ·rw [if_neg c2] at H
    have c2b0:decide (x3_1<(l0.length:Int))=false:=decide_eq_false c2
    clear c2
    obtain rfl:=Option.some.inj H
    go_wp2
    go_ret
    exact ⟨zj,za⟩

def spec_ValidHistory.f (k:Nat) (l0:List (S48)):Option (Bool):=(spec_l27Ok.f k l0).bind fun t101=>(some t101)
set_option maxHeartbeats 8000000 in
set_option maxRecDepth 100000 in
theorem spec_ValidHistory.calls (k:Nat) (A0:Option Addr) (c0:Nat) (l0:List (S48)) (r:Bool) (w:World) (hr0:Kd.C k48 w A0 l0.length l0) (hc0:l0.length≤c0) (h:spec_ValidHistory.f k l0=some r) :
 Calls Tryd.prog 18 #[.slice A0 l0.length c0] w fun e w'=>e = .returned (.bool r)∧Below w.heap.size w w':=by
 have HR0:=Aside0.mk hr0
 have HC0:=Aside0.mk hc0
 clear hr0 hc0
 have HB:=Aside0.mk (Below.refl w.heap.size w)
 have H:((spec_l27Ok.f k l0).bind fun t101=>(some t101))=some r:=h
 clear h
 replace H:=Option.bind_eq_some_iff.mp H
 obtain ⟨t101,A20,H⟩:=H
 replace H:(some t101)=some r:=H
 have A2:=Aside0.mk A20
 clear A20
 obtain rfl:=Option.some.inj H
 go_enter Tryd.func18,Tryd.ntmps18
 go_wp2_with (first|((with_reducible refine gate_callee (f:=46) rfl ?_);refine goesL_ (some 4) rfl rfl Tryd.func46 zaq rfl #[.slice A0 l0.length c0] rfl zd ?_;(with_reducible refine (spec_l27Ok.calls k _ _ l0 t101 _ ?side1 ?side2 A2.out).mono ?_);(case side1=>exact zo);(case side2=>exact HC0.out);rintro e w3 ⟨rfl,hb⟩;refine ⟨_,rfl,?_⟩;replace HB:=Aside0.mk (below_step za hb);(try clear hb);(try clear hb2);(try clear hk);(try clear hi)))
 go_ret
 exact ⟨zj,za⟩

mutual
def impl_VersionText.j0:Nat→Bool→Int→Int→ByteArray→List (S57)→Option (ByteArray)
 | 0,_,_,_,_,_=>none
 | k+1,x30,x102000,x102001,x102002,x102003=>if x30=true then (some (⟨#[]⟩:ByteArray)) else ((impl_Decimal.f x102000).bind fun t106=>(if t106.size+1≤9223372036854775807 then ((impl_Decimal.f x102001).bind fun t107=>(if (t106++(⟨#[60]⟩:ByteArray)).size+t107.size≤9223372036854775807 then (impl_VersionText.l0 k ((t106++(⟨#[60]⟩:ByteArray))++t107) x102003 (x102003.length:Int) 0 x102000 x102001 x102002 x102003) else (none))) else (none)))
def impl_VersionText.l0:Nat→ByteArray→List (S57)→Int→Int→Int→Int→ByteArray→List (S57)→Option (ByteArray)
 | 0,_,_,_,_,_,_,_,_=>none
 | k+1,x3,x40,x41,x42,x102000,x102001,x102002,x102003=>if x42<x41 then (if 0≤x42 then (if x42<(x40.length:Int) then (if 1+((rd_T57 x40 x42).f0).size≤9223372036854775807 then (if ((⟨#[32]⟩:ByteArray)++((rd_T57 x40 x42).f0)).size+1≤9223372036854775807 then ((impl_Decimal.f ((rd_T57 x40 x42).f1)).bind fun t110=>(if (((⟨#[32]⟩:ByteArray)++((rd_T57 x40 x42).f0))++(⟨#[61]⟩:ByteArray)).size+t110.size≤9223372036854775807 then (if x3.size+((((⟨#[32]⟩:ByteArray)++((rd_T57 x40 x42).f0))++(⟨#[61]⟩:ByteArray))++t110).size≤9223372036854775807 then (impl_VersionText.l0 k (x3++((((⟨#[32]⟩:ByteArray)++((rd_T57 x40 x42).f0))++(⟨#[61]⟩:ByteArray))++t110)) x40 x41 (wrap64 (x42+1)) x102000 x102001 x102002 x102003) else (none)) else (none))) else (none)) else (none)) else (none)) else (none)) else (if x102002.toList=([]:List UInt8) then (some x3) else (if 3+x102002.size≤9223372036854775807 then (if x3.size+((⟨#[32,35,32]⟩:ByteArray)++x102002).size≤9223372036854775807 then (some (x3++((⟨#[32,35,32]⟩:ByteArray)++x102002))) else (none)) else (none)))
end
def impl_VersionText.f (k:Nat) (a0_0:Int) (a0_1:Int) (a0_2:ByteArray) (l0_3:List (S57)):Option (ByteArray):=(impl_within.f a0_0 1 32).bind fun t102=>(if t102=true then ((impl_within.f a0_1 0 (wrap64 (a0_0 - 1))).bind fun t103=>(if t103=true then ((impl_memoValid.f k a0_2).bind fun t104=>(if t104=true then ((impl_ValidState.f k l0_3).bind fun t105=>(impl_VersionText.j0 k (!t105) a0_0 a0_1 a0_2 l0_3)) else (impl_VersionText.j0 k true a0_0 a0_1 a0_2 l0_3))) else (impl_VersionText.j0 k true a0_0 a0_1 a0_2 l0_3))) else (impl_VersionText.j0 k true a0_0 a0_1 a0_2 l0_3))
def impl_VersionText.T3:Bool × List (List Nat × List Nat):=(true,[([],[]),([0],[0]),([1],[1]),([2],[2]),([],[]),([4],[4]),([5,2],[5]),([3,6],[3,6]),([7,6,0,1,2,3,4,5,6,7],[7])])
def impl_VersionText.B3:List Nat:=[0,1,3,7,0,16,55,127,255]
theorem impl_VersionText.tab3:rtab .any (opsOf Tryd.f19 3)=impl_VersionText.T3:=by kernel_rfl
theorem impl_VersionText.bits3:waitsOk impl_VersionText.T3.2 impl_VersionText.B3=true:=by kernel_rfl
def impl_VersionText.T7:Bool × List (List Nat × List Nat):=(true,[([],[]),([],[]),([1],[1]),([2],[2]),([3],[3]),([],[]),([5],[5]),([6],[6]),([4,7],[4,7]),([0,8],[0,8]),([9,7,0,1,2,3,4,5,6,7,8,9],[0,9])])
def impl_VersionText.B7:List Nat:=[0,0,2,6,14,0,32,96,254,511,1023]
theorem impl_VersionText.tab7:rtab .any (opsOf Tryd.f19 7)=impl_VersionText.T7:=by kernel_rfl
theorem impl_VersionText.bits7:waitsOk impl_VersionText.T7.2 impl_VersionText.B7=true:=by kernel_rfl
set_option maxHeartbeats 8000000 in
set_option maxRecDepth 100000 in
theorem impl_VersionText.calls (k:Nat) (a0_0:Int) (a0_1:Int) (a0_2:ByteArray) (A0_3:Option Addr) (c0_3:Nat) (l0_3:List (S57)) (r:ByteArray) (w:World) (hD:Door1 w) (hr0_3:Kd.C k57 w A0_3 l0_3.length l0_3) (hc0_3:l0_3.length≤c0_3) (h:impl_VersionText.f k a0_0 a0_1 a0_2 l0_3=some r) :
 Calls Tryd.prog 19 #[.agg #[.int .i64 a0_0,.int .i64 a0_1,.string a0_2,.slice A0_3 l0_3.length c0_3]] w fun e w'=>e = .returned (.string r)∧Below w.heap.size w w':=by
 have hu48:=Tryd.underlying48
 have hu57:=Tryd.underlying57
 have HD:=Aside0.mk hD
 clear hD
 have HR0_3:=Aside0.mk hr0_3
 have HC0_3:=Aside0.mk hc0_3
 clear hr0_3 hc0_3
 have HB:=Aside0.mk (Below.refl w.heap.size w)
 have H:((impl_within.f a0_0 1 32).bind fun t102=>(if t102=true then ((impl_within.f a0_1 0 (wrap64 (a0_0 - 1))).bind fun t103=>(if t103=true then ((impl_memoValid.f k a0_2).bind fun t104=>(if t104=true then ((impl_ValidState.f k l0_3).bind fun t105=>(impl_VersionText.j0 k (!t105) a0_0 a0_1 a0_2 l0_3)) else (impl_VersionText.j0 k true a0_0 a0_1 a0_2 l0_3))) else (impl_VersionText.j0 k true a0_0 a0_1 a0_2 l0_3))) else (impl_VersionText.j0 k true a0_0 a0_1 a0_2 l0_3)))=some r:=h
 clear h
 have HC2:=Aside0.mk H
 clear H
 go_enter Tryd.func19,Tryd.ntmps19
 go_upto_region 1 with (first|((with_reducible refine gate_dst (N:=1) rfl ?_);refine box_event ?hg (N:=1) ?hd (cs:=#[.int .i64 a0_0,.int .i64 a0_1,.string a0_2,.slice A0_3 l0_3.length c0_3]) (t:=48) ?hr ?_;(case hd=>rfl);(case hg=>rfl);(case hr=>exact zv);intro gb101 hg w3 hbox hb;have n0_:=Aside0.mk (below_step za hb);have n1_:=Aside0.mk (hbox);have n2_:=Aside0.mk ((by rw [hg];exact (below_size za):w.heap.size≤gb101));have n3_:=Aside0.mk ((by rw [hg];exact (below_size za):w.heap.size≤gb101));clear HB;have HB:=n0_;have BK101:=n1_;have GW101:=n2_;have GE101:=n3_;clear n0_ n1_ n2_ n3_;clear hb hbox hg))
 (try simp only [Act.put,List.setIfInBounds_toArray,List.set_cons_zero,List.set_cons_succ])
 go_cut [30] (fun v30 wc=>∃(kq:Nat) (x30_1:Bool),v30 = .bool x30_1∧Aside0 (impl_VersionText.j0 kq x30_1 a0_0 a0_1 a0_2 l0_3=some r)∧Aside0 (kq≤k)∧Aside0 (wc.heap[gb101]?=some (.cells #[.int .i64 a0_0,.int .i64 a0_1,.string a0_2,(.slice A0_3 l0_3.length c0_3)] 48 (0,0)))∧Aside0 (Below w.heap.size w wc))
 case first=>
  have H:=HC2.out
  clear HC2
  replace H:=Option.bind_eq_some_iff.mp H
  obtain ⟨t102,A40,H⟩:=H
  replace H:(if t102=true then ((impl_within.f a0_1 0 (wrap64 (a0_0 - 1))).bind fun t103=>(if t103=true then ((impl_memoValid.f k a0_2).bind fun t104=>(if t104=true then ((impl_ValidState.f k l0_3).bind fun t105=>(impl_VersionText.j0 k (!t105) a0_0 a0_1 a0_2 l0_3)) else (impl_VersionText.j0 k true a0_0 a0_1 a0_2 l0_3))) else (impl_VersionText.j0 k true a0_0 a0_1 a0_2 l0_3))) else (impl_VersionText.j0 k true a0_0 a0_1 a0_2 l0_3))=some r:=H
  have A4:=Aside0.mk A40
  clear A40
  by_cases c5:t102=true
  ·subst c5
   have H1:((impl_within.f a0_1 0 (wrap64 (a0_0 - 1))).bind fun t103=>(if t103=true then ((impl_memoValid.f k a0_2).bind fun t104=>(if t104=true then ((impl_ValidState.f k l0_3).bind fun t105=>(impl_VersionText.j0 k (!t105) a0_0 a0_1 a0_2 l0_3)) else (impl_VersionText.j0 k true a0_0 a0_1 a0_2 l0_3))) else (impl_VersionText.j0 k true a0_0 a0_1 a0_2 l0_3)))=some r:=by rw [if_pos rfl] at H;exact H
   clear H
   have H:=H1
   clear H1
   replace H:=Option.bind_eq_some_iff.mp H
   obtain ⟨t103,A60,H⟩:=H
   replace H:(if t103=true then ((impl_memoValid.f k a0_2).bind fun t104=>(if t104=true then ((impl_ValidState.f k l0_3).bind fun t105=>(impl_VersionText.j0 k (!t105) a0_0 a0_1 a0_2 l0_3)) else (impl_VersionText.j0 k true a0_0 a0_1 a0_2 l0_3))) else (impl_VersionText.j0 k true a0_0 a0_1 a0_2 l0_3))=some r:=H
   have A6:=Aside0.mk A60
   clear A60
   by_cases c7:t103=true
   ·subst c7
    have H1:((impl_memoValid.f k a0_2).bind fun t104=>(if t104=true then ((impl_ValidState.f k l0_3).bind fun t105=>(impl_VersionText.j0 k (!t105) a0_0 a0_1 a0_2 l0_3)) else (impl_VersionText.j0 k true a0_0 a0_1 a0_2 l0_3)))=some r:=by rw [if_pos rfl] at H;exact H
    clear H
    have H:=H1
    clear H1
    replace H:=Option.bind_eq_some_iff.mp H
    obtain ⟨t104,A80,H⟩:=H
    replace H:(if t104=true then ((impl_ValidState.f k l0_3).bind fun t105=>(impl_VersionText.j0 k (!t105) a0_0 a0_1 a0_2 l0_3)) else (impl_VersionText.j0 k true a0_0 a0_1 a0_2 l0_3))=some r:=H
    have A8:=Aside0.mk A80
    clear A80
    by_cases c9:t104=true
    ·subst c9
     have H1:((impl_ValidState.f k l0_3).bind fun t105=>(impl_VersionText.j0 k (!t105) a0_0 a0_1 a0_2 l0_3))=some r:=by rw [if_pos rfl] at H;exact H
     clear H
     have H:=H1
     clear H1
     replace H:=Option.bind_eq_some_iff.mp H
     obtain ⟨t105,A100,H⟩:=H
     replace H:(impl_VersionText.j0 k (!t105) a0_0 a0_1 a0_2 l0_3)=some r:=H
     have A10:=Aside0.mk A100
     clear A100
     have H':=Aside0.mk H
     clear H
     have hcz11_0:w3.cell? ⟨gb101,0,none⟩=some (.int .i64 a0_0):=(blk_cell BK101.out 0).trans rfl
     have hcz11_1:w3.cell? ⟨gb101,1,none⟩=some (.int .i64 a0_1):=(blk_cell BK101.out 1).trans rfl
     have hcz11_2:w3.cell? ⟨gb101,2,none⟩=some (.string a0_2):=(blk_cell BK101.out 2).trans rfl
     have hcz11_3:w3.cell? ⟨gb101,3,none⟩=some (.slice A0_3 l0_3.length c0_3):=(blk_cell BK101.out 3).trans rfl
     have hfz11_0:=blk_frozen BK101.out 0
     have hfz11_1:=blk_frozen BK101.out 1
     have hfz11_2:=blk_frozen BK101.out 2
     have hfz11_3:=blk_frozen BK101.out 3
     go_wp2_with (first|((with_reducible refine gate_callee (f:=37) rfl ?_);refine goesL_ (some 8) rfl rfl Tryd.func37 zaq rfl #[.int .i64 a0_0,.int .i64 1,.int .i64 32] rfl zd ?_;(with_reducible refine (impl_within.calls a0_0 1 32 true _ A4.out).mono ?_);rintro e w' ⟨rfl,⟨nd,rfl⟩⟩;refine ⟨_,rfl,?_⟩)|(go_at_call 37;(with_reducible refine (impl_within.calls a0_1 0 (wrap64 (a0_0 - 1)) true _ A6.out).mono ?_);rintro e w' ⟨rfl,⟨nd,rfl⟩⟩)|(go_at_call 36;(with_reducible refine (impl_memoValid.calls k a0_2 true _ A8.out).mono ?_);rintro e w' ⟨rfl,⟨nd,rfl⟩⟩)|(go_at_call 24;(with_reducible refine (impl_ValidState.calls k _ _ l0_3 t105 _ ?side1 ?side2 A10.out).mono ?_);(case side1=>repeat (first|exact (Kd.C_below HR0_3.out zc)|(with_reducible refine Kd.C_alloc ?_ _)|(with_reducible refine Kd.C_drewN ?_ _)|(with_reducible refine Kd.C_drew ?_)));(case side2=>exact HC0_3.out);rintro e w12 ⟨rfl,hb⟩;replace BK101:=Aside0.mk (blk_below (g:=gb101) (o:=.cells #[.int .i64 a0_0,.int .i64 a0_1,.string a0_2,.slice A0_3 l0_3.length c0_3] 48 (0,0)) zh hb);replace HB:=Aside0.mk (below_step zc hb);(try clear hb);(try clear hb2);(try clear hk);(try clear hi)))
     go_meet
     case rel=>exact ⟨_,(!t105),zi,H',⟨zcj⟩,⟨zh⟩,⟨zc⟩⟩
    ·replace c9:=Bool.eq_false_iff.mpr c9
     subst c9
     have H1:(impl_VersionText.j0 k true a0_0 a0_1 a0_2 l0_3)=some r:=by rw [if_neg (show ¬ (false=true) by decide)] at H;exact H
     clear H
     have H:=H1
     clear H1
     have H':=Aside0.mk H
     clear H
     have hcz13_0:w3.cell? ⟨gb101,0,none⟩=some (.int .i64 a0_0):=(blk_cell BK101.out 0).trans rfl
     have hcz13_1:w3.cell? ⟨gb101,1,none⟩=some (.int .i64 a0_1):=(blk_cell BK101.out 1).trans rfl
     have hcz13_2:w3.cell? ⟨gb101,2,none⟩=some (.string a0_2):=(blk_cell BK101.out 2).trans rfl
     have hcz13_3:w3.cell? ⟨gb101,3,none⟩=some (.slice A0_3 l0_3.length c0_3):=(blk_cell BK101.out 3).trans rfl
     have hfz13_0:=blk_frozen BK101.out 0
     have hfz13_1:=blk_frozen BK101.out 1
     have hfz13_2:=blk_frozen BK101.out 2
     have hfz13_3:=blk_frozen BK101.out 3
     go_wp2_with (first|((with_reducible refine gate_callee (f:=37) rfl ?_);refine goesL_ (some 8) rfl rfl Tryd.func37 zaq rfl #[.int .i64 a0_0,.int .i64 1,.int .i64 32] rfl zd ?_;(with_reducible refine (impl_within.calls a0_0 1 32 true _ A4.out).mono ?_);rintro e w' ⟨rfl,⟨nd,rfl⟩⟩;refine ⟨_,rfl,?_⟩)|(go_at_call 37;(with_reducible refine (impl_within.calls a0_1 0 (wrap64 (a0_0 - 1)) true _ A6.out).mono ?_);rintro e w' ⟨rfl,⟨nd,rfl⟩⟩)|(go_at_call 36;(with_reducible refine (impl_memoValid.calls k a0_2 false _ A8.out).mono ?_);rintro e w' ⟨rfl,⟨nd,rfl⟩⟩))
     go_meet
     case rel=>exact ⟨_,(true),zi,H',⟨zcj⟩,⟨zh⟩,⟨zc⟩⟩
   ·replace c7:=Bool.eq_false_iff.mpr c7
    subst c7
    have H1:(impl_VersionText.j0 k true a0_0 a0_1 a0_2 l0_3)=some r:=by rw [if_neg (show ¬ (false=true) by decide)] at H;exact H
    clear H
    have H:=H1
    clear H1
    have H':=Aside0.mk H
    clear H
    have hcz14_0:w3.cell? ⟨gb101,0,none⟩=some (.int .i64 a0_0):=(blk_cell BK101.out 0).trans rfl
    have hcz14_1:w3.cell? ⟨gb101,1,none⟩=some (.int .i64 a0_1):=(blk_cell BK101.out 1).trans rfl
    have hcz14_2:w3.cell? ⟨gb101,2,none⟩=some (.string a0_2):=(blk_cell BK101.out 2).trans rfl
    have hcz14_3:w3.cell? ⟨gb101,3,none⟩=some (.slice A0_3 l0_3.length c0_3):=(blk_cell BK101.out 3).trans rfl
    have hfz14_0:=blk_frozen BK101.out 0
    have hfz14_1:=blk_frozen BK101.out 1
    have hfz14_2:=blk_frozen BK101.out 2
    have hfz14_3:=blk_frozen BK101.out 3
    go_wp2_with (first|((with_reducible refine gate_callee (f:=37) rfl ?_);refine goesL_ (some 8) rfl rfl Tryd.func37 zaq rfl #[.int .i64 a0_0,.int .i64 1,.int .i64 32] rfl zd ?_;(with_reducible refine (impl_within.calls a0_0 1 32 true _ A4.out).mono ?_);rintro e w' ⟨rfl,⟨nd,rfl⟩⟩;refine ⟨_,rfl,?_⟩)|(go_at_call 37;(with_reducible refine (impl_within.calls a0_1 0 (wrap64 (a0_0 - 1)) false _ A6.out).mono ?_);rintro e w' ⟨rfl,⟨nd,rfl⟩⟩))
    go_meet
    case rel=>exact ⟨_,(true),zi,H',⟨zcj⟩,⟨zh⟩,⟨zc⟩⟩
  ·replace c5:=Bool.eq_false_iff.mpr c5
   subst c5
   have H1:(impl_VersionText.j0 k true a0_0 a0_1 a0_2 l0_3)=some r:=by rw [if_neg (show ¬ (false=true) by decide)] at H;exact H
   clear H
   have H:=H1
   clear H1
   have H':=Aside0.mk H
   clear H
   have hcz15_0:w3.cell? ⟨gb101,0,none⟩=some (.int .i64 a0_0):=(blk_cell BK101.out 0).trans rfl
   have hcz15_1:w3.cell? ⟨gb101,1,none⟩=some (.int .i64 a0_1):=(blk_cell BK101.out 1).trans rfl
   have hcz15_2:w3.cell? ⟨gb101,2,none⟩=some (.string a0_2):=(blk_cell BK101.out 2).trans rfl
   have hcz15_3:w3.cell? ⟨gb101,3,none⟩=some (.slice A0_3 l0_3.length c0_3):=(blk_cell BK101.out 3).trans rfl
   have hfz15_0:=blk_frozen BK101.out 0
   have hfz15_1:=blk_frozen BK101.out 1
   have hfz15_2:=blk_frozen BK101.out 2
   have hfz15_3:=blk_frozen BK101.out 3
   go_wp2_with (first|((with_reducible refine gate_callee (f:=37) rfl ?_);refine goesL_ (some 8) rfl rfl Tryd.func37 zaq rfl #[.int .i64 a0_0,.int .i64 1,.int .i64 32] rfl zd ?_;(with_reducible refine (impl_within.calls a0_0 1 32 false _ A4.out).mono ?_);rintro e w' ⟨rfl,⟨nd,rfl⟩⟩;refine ⟨_,rfl,?_⟩))
   go_meet
   case rel=>exact ⟨_,(true),zi,H',⟨zcj⟩,⟨zh⟩,⟨zc⟩⟩
 case rest=>
  clear HC2
  try clear c1
  try clear p2
  try clear c3
  try clear c5
  try clear p6
  try clear c7
  try clear c9
  try clear hcz11_0
  try clear hcz11_1
  try clear hcz11_2
  try clear hcz11_3
  try clear hcz13_0
  try clear hcz13_1
  try clear hcz13_2
  try clear hcz13_3
  try clear hcz14_0
  try clear hcz14_1
  try clear hcz14_2
  try clear hcz14_3
  try clear hcz15_0
  try clear hcz15_1
  try clear hcz15_2
  try clear hcz15_3
  try clear hfz11_0
  try clear hfz11_1
  try clear hfz11_2
  try clear hfz11_3
  try clear hfz13_0
  try clear hfz13_1
  try clear hfz13_2
  try clear hfz13_3
  try clear hfz14_0
  try clear hfz14_1
  try clear hfz14_2
  try clear hfz14_3
  try clear hfz15_0
  try clear hfz15_1
  try clear hfz15_2
  try clear hfz15_3
  obtain ⟨kq,x30_1,rfl,HA,HJ1,BK101,HB⟩:=hcut
  cases kq with
  | zero=>exact absurd HA.out (by simp [impl_VersionText.j0])
  | succ kj1=>
   have H:=HA.out
   clear HA
   simp only [impl_VersionText.j0] at H
   by_cases c16:x30_1=true
   ·subst c16
    have H1:(some (⟨#[]⟩:ByteArray))=some r:=by rw [if_pos rfl] at H;exact H
    clear H
    have H:=H1
    clear H1
    obtain rfl:=Option.some.inj H
    go_wp2
    go_ret
    exact ⟨zj,zc⟩
   ·replace c16:=Bool.eq_false_iff.mpr c16
    subst c16
    have H1:((impl_Decimal.f a0_0).bind fun t106=>(if t106.size+1≤9223372036854775807 then ((impl_Decimal.f a0_1).bind fun t107=>(if (t106++(⟨#[60]⟩:ByteArray)).size+t107.size≤9223372036854775807 then (impl_VersionText.l0 kj1 ((t106++(⟨#[60]⟩:ByteArray))++t107) l0_3 (l0_3.length:Int) 0 a0_0 a0_1 a0_2 l0_3) else (none))) else (none)))=some r:=by rw [if_neg (show ¬ (false=true) by decide)] at H;exact H
    clear H
    have H:=H1
    clear H1
    replace H:=Option.bind_eq_some_iff.mp H
    obtain ⟨t106,A170,H⟩:=H
    replace H:(if t106.size+1≤9223372036854775807 then ((impl_Decimal.f a0_1).bind fun t107=>(if (t106++(⟨#[60]⟩:ByteArray)).size+t107.size≤9223372036854775807 then (impl_VersionText.l0 kj1 ((t106++(⟨#[60]⟩:ByteArray))++t107) l0_3 (l0_3.length:Int) 0 a0_0 a0_1 a0_2 l0_3) else (none))) else (none))=some r:=H
    have A17:=Aside0.mk A170
    clear A170
    by_cases c18:t106.size+1≤9223372036854775807
    ·rw [if_pos c18] at H
     have c18b0:=eq_true c18
     have c18b1:decide (t106.size+1≤9223372036854775807)=true:=decide_eq_true c18
     try have c18b2:(9223372036854775807<t106.size+1)=False:=eq_false (Nat.not_lt.2 c18)
     replace H:=Option.bind_eq_some_iff.mp H
     obtain ⟨t107,A190,H⟩:=H
     replace H:(if (t106++(⟨#[60]⟩:ByteArray)).size+t107.size≤9223372036854775807 then (impl_VersionText.l0 kj1 ((t106++(⟨#[60]⟩:ByteArray))++t107) l0_3 (l0_3.length:Int) 0 a0_0 a0_1 a0_2 l0_3) else (none))=some r:=H
     have A19:=Aside0.mk A190
     clear A190
     by_cases c20:(t106++(⟨#[60]⟩:ByteArray)).size+t107.size≤9223372036854775807
     ·rw [if_pos c20] at H
      have c20b0:=eq_true c20
      have c20b1:decide ((t106++(⟨#[60]⟩:ByteArray)).size+t107.size≤9223372036854775807)=true:=decide_eq_true c20
      try have c20b2:(9223372036854775807<(t106++(⟨#[60]⟩:ByteArray)).size+t107.size)=False:=eq_false (Nat.not_lt.2 c20)
      try have c20b3:(9223372036854775807<t106.size+1+t107.size)=False:=eq_false (by have h_:=c20;simp only [ByteArray.size_append] at h_;exact Nat.not_lt.2 h_)
      have H':=Aside0.mk H
      clear H
      try go_wp2
      replace BK101:=Aside0.mk (blk_drew BK101.out)
      replace HB:=Aside0.mk (below_drew1 HB.out)
      refine start_ (n:=9) (S:=fun w'=>w'.cell? ⟨gb101,0,none⟩=some (.int .i64 a0_0)∧w'.cell? ⟨gb101,1,none⟩=some (.int .i64 a0_1)∧w'.cell? ⟨gb101,2,none⟩=some (.string a0_2)∧w'.cell? ⟨gb101,3,none⟩=some (.slice A0_3 l0_3.length c0_3)) (ds:=[]) #[false,false,false,false,false,false,false,false,false] zaq rfl rfl ⟨(blk_cell BK101.out 0).trans rfl,(blk_cell BK101.out 1).trans rfl,(blk_cell BK101.out 2).trans rfl,(blk_cell BK101.out 3).trans rfl⟩ (fun hHeld=>?_);refine with_tabW impl_VersionText.tab3 impl_VersionText.bits3 (fun HT_ HW_=>?_)
      generalize wc.drew=w21 at BK101 HB hHeld ⊢
      refine pA 0 31 ?_
      refine pA 4 35 ?_
      refine pT 1 32 rfl zbr ?_
      refine pT 5 36 rfl zbr ?_
      refine one_ (i:=2) (N:=some 33) #[true,true,true,false,true,true,false,false,false] rfl rfl (one_of HT_.out zaq) zbp (fun K hK=>?_)
      refine goes_ Tryd.func40 zaq rfl #[.int .i64 a0_0] (by rfl) rfl rfl zd ?_
      with_reducible refine (impl_Decimal.calls a0_0 t106 _ ?side1 A17.out).mono ?_
      (case side1=>exact Door1.at HD.out zc)
      rintro e w22 ⟨rfl,hb⟩
      refine ⟨_,rfl,?_⟩
      replace BK101:=Aside0.mk (blk_below (g:=gb101) (o:=.cells #[.int .i64 a0_0,.int .i64 a0_1,.string a0_2,.slice A0_3 l0_3.length c0_3] 48 (0,0)) zh hb)
      replace HB:=Aside0.mk (below_step zc hb)
      (try clear hb)
      (try clear hb2)
      (try clear hk)
      (try clear hi)
      refine hK.out _ _ ⟨(blk_cell BK101.out 0).trans rfl,(blk_cell BK101.out 1).trans rfl,(blk_cell BK101.out 2).trans rfl,(blk_cell BK101.out 3).trans rfl⟩ (fun hHeld=>?_)
      clear hK K
      refine pN 33 ?_
      refine pA 3 34 ?_
      refine one_ (i:=6) (N:=some 37) #[true,true,true,true,true,true,true,false,false] rfl rfl (one_of HT_.out zaq) zbp (fun K hK=>?_)
      refine goes_ Tryd.func40 zaq rfl #[.int .i64 a0_1] (by rfl) rfl rfl zd ?_
      with_reducible refine (impl_Decimal.calls a0_1 t107 _ ?side1 A19.out).mono ?_
      (case side1=>exact Door1.at HD.out zc)
      rintro e w23 ⟨rfl,hb⟩
      refine ⟨_,rfl,?_⟩
      replace BK101:=Aside0.mk (blk_below (g:=gb101) (o:=.cells #[.int .i64 a0_0,.int .i64 a0_1,.string a0_2,.slice A0_3 l0_3.length c0_3] 48 (0,0)) zh hb)
      replace HB:=Aside0.mk (below_step zc hb)
      (try clear hb)
      (try clear hb2)
      (try clear hk)
      (try clear hi)
      refine hK.out _ _ ⟨(blk_cell BK101.out 0).trans rfl,(blk_cell BK101.out 1).trans rfl,(blk_cell BK101.out 2).trans rfl,(blk_cell BK101.out 3).trans rfl⟩ (fun hHeld=>?_)
      clear hK K
      refine pN 37 ?_
      refine pA 7 38 ?_
      refine pA 8 3 ?_
      refine done_ (done_of HT_.out zaq) ?_
      have hcz24_0:w23.cell? ⟨gb101,0,none⟩=some (.int .i64 a0_0):=(blk_cell BK101.out 0).trans rfl
      have hcz24_1:w23.cell? ⟨gb101,1,none⟩=some (.int .i64 a0_1):=(blk_cell BK101.out 1).trans rfl
      have hcz24_2:w23.cell? ⟨gb101,2,none⟩=some (.string a0_2):=(blk_cell BK101.out 2).trans rfl
      have hcz24_3:w23.cell? ⟨gb101,3,none⟩=some (.slice A0_3 l0_3.length c0_3):=(blk_cell BK101.out 3).trans rfl
      have hfz24_0:=blk_frozen BK101.out 0
      have hfz24_1:=blk_frozen BK101.out 1
      have hfz24_2:=blk_frozen BK101.out 2
      have hfz24_3:=blk_frozen BK101.out 3
      try go_wp2
      go_loopg [3,42] kj1 (fun kq v3 v42 w'=>∃(x3_2:ByteArray) (x42_2:Int),v3 = .string x3_2∧v42 = .int .i64 x42_2∧Aside0 (impl_VersionText.l0 kq x3_2 l0_3 (l0_3.length:Int) x42_2 a0_0 a0_1 a0_2 l0_3=some r)∧Aside0 (kq≤kj1)∧Aside0 (w'.heap[gb101]?=some (.cells #[.int .i64 a0_0,.int .i64 a0_1,.string a0_2,(.slice A0_3 l0_3.length c0_3)] 48 (0,0)))∧Aside0 (Below w.heap.size w w'))
      case atStart=>exact ⟨((t106++(⟨#[60]⟩:ByteArray))++t107),(0),zi,zi,H',⟨Nat.le_refl _⟩,⟨zh⟩,⟨zc⟩⟩
      case round=>
       clear H'
       try clear c1
       try clear c2
       try clear p2
       try clear c3
       try clear c4
       try clear c5
       try clear p6
       try clear c7
       try clear c9
       try clear c16
       try clear c18
       try clear c18b0
       try clear c18b1
       try clear c18b2
       try clear c19
       try clear c20
       try clear c20b0
       try clear c20b1
       try clear c20b2
       try clear hcz11_0
       try clear hcz11_1
       try clear hcz11_2
       try clear hcz11_3
       try clear hcz13_0
       try clear hcz13_1
       try clear hcz13_2
       try clear hcz13_3
       try clear hcz14_0
       try clear hcz14_1
       try clear hcz14_2
       try clear hcz14_3
       try clear hcz15_0
       try clear hcz15_1
       try clear hcz15_2
       try clear hcz15_3
       try clear hcz24_0
       try clear hcz24_1
       try clear hcz24_2
       try clear hcz24_3
       try clear hfz11_0
       try clear hfz11_1
       try clear hfz11_2
       try clear hfz11_3
       try clear hfz13_0
       try clear hfz13_1
       try clear hfz13_2
       try clear hfz13_3
       try clear hfz14_0
       try clear hfz14_1
       try clear hfz14_2
       try clear hfz14_3
       try clear hfz15_0
       try clear hfz15_1
       try clear hfz15_2
       try clear hfz15_3
       try clear hfz24_0
       try clear hfz24_1
       try clear hfz24_2
       try clear hfz24_3
       try clear p2
       try clear p6
       obtain ⟨x3_2,x42_2,rfl,rfl,HA,HK2,BK101,HB⟩:=hrel
       cases gk with
       | zero=>exact absurd HA.out (by simp [impl_VersionText.l0])
       | succ k2=>
        have H:=HA.out
        clear HA
        simp only [impl_VersionText.l0] at H
        by_cases c25:x42_2<(l0_3.length:Int)
        ·rw [if_pos c25] at H
         have c25b0:decide (x42_2<(l0_3.length:Int))=true:=decide_eq_true c25
         clear c25
         by_cases c26:0≤x42_2
         ·rw [if_pos c26] at H
          have c26b0:decide (0≤x42_2)=true:=decide_eq_true c26
          clear c26
          by_cases c27:x42_2<(l0_3.length:Int)
          ·rw [if_pos c27] at H
           have c27b0:decide (x42_2<(l0_3.length:Int))=true:=decide_eq_true c27
           clear c27
           by_cases c28:1+((rd_T57 l0_3 x42_2).f0).size≤9223372036854775807
           ·rw [if_pos c28] at H
            have c28b0:=eq_true c28
            have c28b1:decide (1+((rd_T57 l0_3 x42_2).f0).size≤9223372036854775807)=true:=decide_eq_true c28
            try have c28b2:(9223372036854775807<1+((rd_T57 l0_3 x42_2).f0).size)=False:=eq_false (Nat.not_lt.2 c28)
            by_cases c29:((⟨#[32]⟩:ByteArray)++((rd_T57 l0_3 x42_2).f0)).size+1≤9223372036854775807
            ·rw [if_pos c29] at H
             have c29b0:=eq_true c29
             have c29b1:decide (((⟨#[32]⟩:ByteArray)++((rd_T57 l0_3 x42_2).f0)).size+1≤9223372036854775807)=true:=decide_eq_true c29
             try have c29b2:(9223372036854775807<((⟨#[32]⟩:ByteArray)++((rd_T57 l0_3 x42_2).f0)).size+1)=False:=eq_false (Nat.not_lt.2 c29)
             try have c29b3:(9223372036854775807<1+((rd_T57 l0_3 x42_2).f0).size+1)=False:=eq_false (by have h_:=c29;simp only [ByteArray.size_append] at h_;exact Nat.not_lt.2 h_)
             replace H:=Option.bind_eq_some_iff.mp H
             obtain ⟨t110,A300,H⟩:=H
             replace H:(if (((⟨#[32]⟩:ByteArray)++((rd_T57 l0_3 x42_2).f0))++(⟨#[61]⟩:ByteArray)).size+t110.size≤9223372036854775807 then (if x3_2.size+((((⟨#[32]⟩:ByteArray)++((rd_T57 l0_3 x42_2).f0))++(⟨#[61]⟩:ByteArray))++t110).size≤9223372036854775807 then (impl_VersionText.l0 k2 (x3_2++((((⟨#[32]⟩:ByteArray)++((rd_T57 l0_3 x42_2).f0))++(⟨#[61]⟩:ByteArray))++t110)) l0_3 (l0_3.length:Int) (wrap64 (x42_2+1)) a0_0 a0_1 a0_2 l0_3) else (none)) else (none))=some r:=H
             have A30:=Aside0.mk A300
             clear A300
             by_cases c31:(((⟨#[32]⟩:ByteArray)++((rd_T57 l0_3 x42_2).f0))++(⟨#[61]⟩:ByteArray)).size+t110.size≤9223372036854775807
             ·rw [if_pos c31] at H
              have c31b0:=eq_true c31
              have c31b1:decide ((((⟨#[32]⟩:ByteArray)++((rd_T57 l0_3 x42_2).f0))++(⟨#[61]⟩:ByteArray)).size+t110.size≤9223372036854775807)=true:=decide_eq_true c31
              try have c31b2:(9223372036854775807<(((⟨#[32]⟩:ByteArray)++((rd_T57 l0_3 x42_2).f0))++(⟨#[61]⟩:ByteArray)).size+t110.size)=False:=eq_false (Nat.not_lt.2 c31)
              try have c31b3:(9223372036854775807<1+((rd_T57 l0_3 x42_2).f0).size+1+t110.size)=False:=eq_false (by have h_:=c31;simp only [ByteArray.size_append] at h_;exact Nat.not_lt.2 h_)
              by_cases c32:x3_2.size+((((⟨#[32]⟩:ByteArray)++((rd_T57 l0_3 x42_2).f0))++(⟨#[61]⟩:ByteArray))++t110).size≤9223372036854775807
              ·rw [if_pos c32] at H
               have c32b0:=eq_true c32
               have c32b1:decide (x3_2.size+((((⟨#[32]⟩:ByteArray)++((rd_T57 l0_3 x42_2).f0))++(⟨#[61]⟩:ByteArray))++t110).size≤9223372036854775807)=true:=decide_eq_true c32
               try have c32b2:(9223372036854775807<x3_2.size+((((⟨#[32]⟩:ByteArray)++((rd_T57 l0_3 x42_2).f0))++(⟨#[61]⟩:ByteArray))++t110).size)=False:=eq_false (Nat.not_lt.2 c32)
               try have c32b3:(9223372036854775807<x3_2.size+(1+((rd_T57 l0_3 x42_2).f0).size+1+t110.size))=False:=eq_false (by have h_:=c32;simp only [ByteArray.size_append] at h_;exact Nat.not_lt.2 h_)
               have H':=Aside0.mk H
               clear H
               have p108:0≤(x42_2:Int):=of_decide_eq_true zb
               have q108:x42_2<(l0_3.length:Int):=of_decide_eq_true zb
               obtain ⟨ad108,e108,hx108_0,hx108_1⟩:=at_T57 HR0_3.out x42_2 p108 q108
               cases e108
               replace hx108_0:=(HB.out.cell (World.block_lt_of_cell? w _ hx108_0)).trans hx108_0
               replace hx108_1:=(HB.out.cell (World.block_lt_of_cell? w _ hx108_1)).trans hx108_1
               replace p108:=eq_true p108
               replace q108:=eq_true q108
               try go_wp2_with (first|((with_reducible refine gate_dst (N:=5) rfl ?_);refine box_event ?hg (N:=5) ?hd (cs:=#[.string (⟨#[]⟩:ByteArray),.int .i64 0]) (t:=57) ?hr ?_;(case hd=>rfl);(case hg=>rfl);(case hr=>exact zv);intro gb109 hg w33 hbox hb;have n0_:=Aside0.mk (blk_below (g:=gb101) (o:=.cells #[.int .i64 a0_0,.int .i64 a0_1,.string a0_2,.slice (some ad108) l0_3.length c0_3] 48 (0,0)) zh hb);have n1_:=Aside0.mk (below_step zc hb);have n2_:=Aside0.mk (hbox);have n3_:=Aside0.mk ((by rw [hg];exact (below_size zc):w.heap.size≤gb109));have n4_:=Aside0.mk ((by rw [hg];exact (below_size zc):w.heap.size≤gb109));have n5_:=Aside0.mk ((by rw [hg];exact Nat.ne_of_lt (blk_lt (g:=gb101) (o:=.cells #[.int .i64 a0_0,.int .i64 a0_1,.string a0_2,.slice (some ad108) l0_3.length c0_3] 48 (0,0)) zh):gb101≠gb109));have n6_:=Aside0.mk ((by rw [hg];exact Nat.ne_of_gt (blk_lt (g:=gb101) (o:=.cells #[.int .i64 a0_0,.int .i64 a0_1,.string a0_2,.slice (some ad108) l0_3.length c0_3] 48 (0,0)) zh):gb109≠gb101));clear BK101;clear HB;have BK101:=n0_;have HB:=n1_;have BK109:=n2_;have GW109:=n3_;have GE109:=n4_;have NB101_109:=n5_;have NB109_101:=n6_;clear n0_ n1_ n2_ n3_ n4_ n5_ n6_;clear hb hbox hg;have hnb34:=NB109_101.out;have hnc34:=NB101_109.out;have hcz35_0:w33.cell? ⟨gb109,0,none⟩=some (.string (⟨#[]⟩:ByteArray)):=(blk_cell BK109.out 0).trans rfl;have hcz35_1:w33.cell? ⟨gb109,1,none⟩=some (.int .i64 0):=(blk_cell BK109.out 1).trans rfl;have hfz35_0:=blk_frozen BK109.out 0;have hfz35_1:=blk_frozen BK109.out 1))
               have n0_:Aside0 (((w33.setCell ⟨gb109,0,none⟩ (.string ((rd_T57 l0_3 x42_2).f0))).setCell ⟨gb109,1,none⟩ (.int .i64 ((rd_T57 l0_3 x42_2).f1))).heap[gb101]?=some (.cells #[.int .i64 a0_0,.int .i64 a0_1,.string a0_2,.slice (some ad108) l0_3.length c0_3] 48 (0,0))):=⟨by (with_reducible repeat (first|refine blk_drewN ?_ _|refine blk_drew ?_|refine blk_alloc ?_ _));refine blk_far ?_ NB101_109.out _;(with_reducible repeat (first|refine blk_drewN ?_ _|refine blk_drew ?_|refine blk_alloc ?_ _));refine blk_far ?_ NB101_109.out _;(with_reducible repeat (first|refine blk_drewN ?_ _|refine blk_drew ?_|refine blk_alloc ?_ _));exact BK101.out⟩
               have n1_:Aside0 (((w33.setCell ⟨gb109,0,none⟩ (.string ((rd_T57 l0_3 x42_2).f0))).setCell ⟨gb109,1,none⟩ (.int .i64 ((rd_T57 l0_3 x42_2).f1))).heap[gb109]?=some (.cells #[.string ((rd_T57 l0_3 x42_2).f0),.int .i64 ((rd_T57 l0_3 x42_2).f1)] 57 (0,0))):=⟨by (with_reducible repeat (first|refine blk_drewN ?_ _|refine blk_drew ?_|refine blk_alloc ?_ _));refine blk_put (cs:=#[.string ((rd_T57 l0_3 x42_2).f0),.int .i64 0]) ?_ 1 _ rfl;(with_reducible repeat (first|refine blk_drewN ?_ _|refine blk_drew ?_|refine blk_alloc ?_ _));refine blk_put (cs:=#[.string (⟨#[]⟩:ByteArray),.int .i64 0]) ?_ 0 _ rfl;(with_reducible repeat (first|refine blk_drewN ?_ _|refine blk_drew ?_|refine blk_alloc ?_ _));exact BK109.out⟩
               have n2_:Aside0 (Below w.heap.size w ((w33.setCell ⟨gb109,0,none⟩ (.string ((rd_T57 l0_3 x42_2).f0))).setCell ⟨gb109,1,none⟩ (.int .i64 ((rd_T57 l0_3 x42_2).f1)))):=⟨zby⟩
               (try clear BK101)
               (try clear BK109)
               (try clear HB)
               generalize ((w33.setCell ⟨gb109,0,none⟩ (.string ((rd_T57 l0_3 x42_2).f0))).setCell ⟨gb109,1,none⟩ (.int .i64 ((rd_T57 l0_3 x42_2).f1)))=w36 at n0_ n1_ n2_ ⊢
               have BK101:=n0_
               have BK109:=n1_
               have HB:=n2_
               clear n0_ n1_ n2_
               replace BK101:=Aside0.mk (blk_drew BK101.out)
               replace BK109:=Aside0.mk (blk_drew BK109.out)
               replace HB:=Aside0.mk (below_drew1 HB.out)
               refine start_ (n:=11) (S:=fun w'=>w'.cell? ⟨gb109,0,none⟩=some (.string ((rd_T57 l0_3 x42_2).f0))∧w'.cell? ⟨gb109,1,none⟩=some (.int .i64 ((rd_T57 l0_3 x42_2).f1))) (ds:=[]) #[false,false,false,false,false,false,false,false,false,false,false] zaq rfl rfl ⟨(blk_cell BK109.out 0).trans rfl,(blk_cell BK109.out 1).trans rfl⟩ (fun hHeld=>?_);refine with_tabW impl_VersionText.tab7 impl_VersionText.bits7 (fun HT_ HW_=>?_)
               generalize w36.drew=w37 at BK101 BK109 HB hHeld ⊢
               refine pA 0 46 ?_
               refine pA 1 47 ?_
               refine pA 5 51 ?_
               refine pT 2 48 rfl (by rintro w' ⟨s0,s1⟩;go_simp;with_reducible rfl) ?_
               refine pA 3 49 ?_
               refine pA 4 50 ?_
               refine pT 6 52 rfl (by rintro w' ⟨s0,s1⟩;go_simp;with_reducible rfl) ?_
               refine one_ (i:=7) (N:=some 53) #[true,true,true,true,true,true,true,true,false,false,false] rfl rfl (one_of HT_.out zaq) zbp (fun K hK=>?_)
               refine goes_ Tryd.func40 zaq rfl #[.int .i64 ((rd_T57 l0_3 x42_2).f1)] (by rfl) rfl rfl zd ?_
               with_reducible refine (impl_Decimal.calls ((rd_T57 l0_3 x42_2).f1) t110 _ ?side1 A30.out).mono ?_
               (case side1=>exact Door1.at HD.out zby)
               rintro e w38 ⟨rfl,hb⟩
               refine ⟨_,rfl,?_⟩
               replace BK101:=Aside0.mk (blk_below (g:=gb101) (o:=.cells #[.int .i64 a0_0,.int .i64 a0_1,.string a0_2,.slice (some ad108) l0_3.length c0_3] 48 (0,0)) zh hb)
               replace BK109:=Aside0.mk (blk_below (g:=gb109) (o:=.cells #[.string ((rd_T57 l0_3 x42_2).f0),.int .i64 ((rd_T57 l0_3 x42_2).f1)] 57 (0,0)) (by (with_reducible repeat (first|refine blk_drewN ?_ _|refine blk_drew ?_|refine blk_alloc ?_ _));exact BK109.out) hb)
               replace HB:=Aside0.mk (below_step zby hb)
               (try clear hb)
               (try clear hb2)
               (try clear hk)
               (try clear hi)
               refine hK.out _ _ ⟨(blk_cell BK109.out 0).trans rfl,(blk_cell BK109.out 1).trans rfl⟩ (fun hHeld=>?_)
               clear hK K
               refine pN 53 ?_
               refine pA 8 54 ?_
               refine pA 9 55 ?_
               refine pA 10 3 ?_
               refine done_ (done_of HT_.out zaq) ?_
               try go_wp2
               go_roundg k2
               case measure=>have:=HJ1.out;have:=HK2.out;omega
               case rel=>exact ⟨(x3_2++((((⟨#[32]⟩:ByteArray)++((rd_T57 l0_3 x42_2).f0))++(⟨#[61]⟩:ByteArray))++t110)),(wrap64 (x42_2+1)),zi,zi,H',⟨by have:=HJ1.out;have:=HK2.out;omega⟩,⟨zh⟩,⟨zby⟩⟩
              ·rw [if_neg c32] at H
               exact absurd H zca
             ·rw [if_neg c31] at H
              exact absurd H zca
            ·rw [if_neg c29] at H
             exact absurd H zca
           ·rw [if_neg c28] at H
            exact absurd H zca
          ·rw [if_neg c27] at H
           exact absurd H zca
         ·rw [if_neg c26] at H
          exact absurd H zca
        ·rw [if_neg c25] at H
         have c25b0:decide (x42_2<(l0_3.length:Int))=false:=decide_eq_false c25
         clear c25
         by_cases c39:a0_2.toList=([]:List UInt8)
         ·rw [if_pos c39] at H
          have c39b0:(a0_2.toList == ([]:List UInt8))=true:=beq_iff_eq.mpr c39
          have c39b1:(a0_2.toList != ([]:List UInt8))=false:=bne_eq_false_iff_eq.mpr c39
          clear c39
          obtain rfl:=Option.some.inj H
          have hcz40_0:wr.cell? ⟨gb101,0,none⟩=some (.int .i64 a0_0):=(blk_cell BK101.out 0).trans rfl
          have hcz40_1:wr.cell? ⟨gb101,1,none⟩=some (.int .i64 a0_1):=(blk_cell BK101.out 1).trans rfl
          have hcz40_2:wr.cell? ⟨gb101,2,none⟩=some (.string a0_2):=(blk_cell BK101.out 2).trans rfl
          have hcz40_3:wr.cell? ⟨gb101,3,none⟩=some (.slice A0_3 l0_3.length c0_3):=(blk_cell BK101.out 3).trans rfl
          have hfz40_0:=blk_frozen BK101.out 0
          have hfz40_1:=blk_frozen BK101.out 1
          have hfz40_2:=blk_frozen BK101.out 2
          have hfz40_3:=blk_frozen BK101.out 3
          go_wp2
          go_ret
          exact ⟨zj,zc⟩
         ·rw [if_neg c39] at H
          have c39b0:(a0_2.toList == ([]:List UInt8))=false:=beq_eq_false_iff_ne.mpr c39
          have c39b1:(a0_2.toList != ([]:List UInt8))=true:=bne_iff_ne.mpr c39
          by_cases c41:3+a0_2.size≤9223372036854775807
          ·rw [if_pos c41] at H
           have c41b0:=eq_true c41
           have c41b1:decide (3+a0_2.size≤9223372036854775807)=true:=decide_eq_true c41
           try have c41b2:(9223372036854775807<3+a0_2.size)=False:=eq_false (Nat.not_lt.2 c41)
           by_cases c42:x3_2.size+((⟨#[32,35,32]⟩:ByteArray)++a0_2).size≤9223372036854775807
           ·rw [if_pos c42] at H
            have c42b0:=eq_true c42
            have c42b1:decide (x3_2.size+((⟨#[32,35,32]⟩:ByteArray)++a0_2).size≤9223372036854775807)=true:=decide_eq_true c42
            try have c42b2:(9223372036854775807<x3_2.size+((⟨#[32,35,32]⟩:ByteArray)++a0_2).size)=False:=eq_false (Nat.not_lt.2 c42)
            try have c42b3:(9223372036854775807<x3_2.size+(3+a0_2.size))=False:=eq_false (by have h_:=c42;simp only [ByteArray.size_append] at h_;exact Nat.not_lt.2 h_)
            obtain rfl:=Option.some.inj H
            have hcz43_0:wr.cell? ⟨gb101,0,none⟩=some (.int .i64 a0_0):=(blk_cell BK101.out 0).trans rfl
            have hcz43_1:wr.cell? ⟨gb101,1,none⟩=some (.int .i64 a0_1):=(blk_cell BK101.out 1).trans rfl
            have hcz43_2:wr.cell? ⟨gb101,2,none⟩=some (.string a0_2):=(blk_cell BK101.out 2).trans rfl
            have hcz43_3:wr.cell? ⟨gb101,3,none⟩=some (.slice A0_3 l0_3.length c0_3):=(blk_cell BK101.out 3).trans rfl
            have hfz43_0:=blk_frozen BK101.out 0
            have hfz43_1:=blk_frozen BK101.out 1
            have hfz43_2:=blk_frozen BK101.out 2
            have hfz43_3:=blk_frozen BK101.out 3
            go_wp2
            go_ret
            exact ⟨zj,zc⟩
           ·rw [if_neg c42] at H
            exact absurd H zca
          ·rw [if_neg c41] at H
           exact absurd H zca
     ·rw [if_neg c20] at H
      exact absurd H zca
    ·rw [if_neg c18] at H
     exact absurd H zca
end Go.Proofs.YtocegmkifmdlcaaDoor.P
