/- Part a of what FnExactAddAnswers stands on: functions of the program as Lean functions with their walks, and plain lemmas. -/
import Derived.Test.YtocegmkifmdlcaaK
/- Default proofs: tactic blocks that stand often in the walks, once each. -/
namespace Go.Proofs.Ytocegmkifmdlcaa.P
open Go.RowKit Go.Proofs.YtocegmkifmdlcaaW.PrintWords Go.Proofs.YtocegmkifmdlcaaW.PrintLast Go.Proofs.YtocegmkifmdlcaaW.PrintMore
set_option linter.unusedVariables false
section
variable {P:Program} {ops:Array Oper} {Q:Exit→Act→World→Prop} {md:Region.Mode} {S:World→Prop} {ds:List Nat}
theorem pA (i N:Nat) {oi:Oper} {v:Value} {fuel:Nat} {l l':Array Bool} {a a':Act} {w:World} (h:wpAnyLast P md ops Q S ds fuel l' a' w) (hl:l.setIfInBounds i true=l':=by simp only [List.setIfInBounds_toArray,List.set_cons_zero,List.set_cons_succ];rfl) (hi:ops[i]?=some oi:=by exact rfl) (hN:oi.dst=some N:=by exact rfl) (hc:anyB md ops l l' i=true:=by first|exact any_of HT_.out (by kernel_rfl)|kernel_rfl) (hQ:∀c a w,Q (.panic c) (a.put oi.dst v) w→Q (.panic c) a w:=by exact fun _ _ _ h=>h) (hw:Region.wanted oi (yielded ops a.tmps)=true:=by rfl) (hy:∀w',(execOp a.eval oi).run P w' = .ok (.value v) w':=by intro w';go_simp;with_reducible rfl) (ha:a.put (some N) v=a':=by simp only [Act.put,List.setIfInBounds_toArray,List.set_cons_zero,List.set_cons_succ,i64_w,i32_w];rfl):wpAnyLast P md ops Q S ds (fuel+1) l a w:=pure_ l' hi hN hc hQ (Or.inl ⟨hw,hy⟩) ha h
theorem pU (i N:Nat) {oi:Oper} {fuel:Nat} {l l':Array Bool} {a a':Act} {w:World} (h:wpAnyLast P md ops Q S ds fuel l' a' w) (hl:l.setIfInBounds i true=l':=by simp only [List.setIfInBounds_toArray,List.set_cons_zero,List.set_cons_succ];rfl) (hi:ops[i]?=some oi:=by exact rfl) (hN:oi.dst=some N:=by exact rfl) (hc:anyB md ops l l' i=true:=by first|exact any_of HT_.out (by kernel_rfl)|kernel_rfl) (hQ:∀c a w,Q (.panic c) (a.put oi.dst undef) w→Q (.panic c) a w:=by exact fun _ _ _ h=>h) (hw:Region.wanted oi (yielded ops a.tmps)=false:=by rfl) (ha:a.put (some N) undef=a':=by simp only [Act.put,List.setIfInBounds_toArray,List.set_cons_zero,List.set_cons_succ,i64_w,i32_w];rfl):wpAnyLast P md ops Q S ds (fuel+1) l a w:=pure_ (v:=undef) l' hi hN hc hQ (Or.inr ⟨hw,rfl⟩) ha h
theorem pT (i N:Nat) {oi:Oper} {v:Value} {fuel:Nat} {l l':Array Bool} {a a':Act} {w:World} (hi:ops[i]?=some oi) (hy:∀w',S w'→(execOp a.eval oi).run P w' = .ok (.value v) w') (h:wpAnyLast P md ops Q S ds fuel l' a' w) (hS:S w:=by exact hHeld) (hl:l.setIfInBounds i true=l':=by simp only [List.setIfInBounds_toArray,List.set_cons_zero,List.set_cons_succ];rfl) (hN:oi.dst=some N:=by exact rfl) (hc:takeB md ops ds l l' i=true:=by first|exact take_ofW HT_.out HW_.out (by kernel_rfl)|kernel_rfl) (hQ:∀c a w,Q (.panic c) (a.put oi.dst v) w→Q (.panic c) a w:=by exact fun _ _ _ h=>h) (hw:Region.wanted oi (yielded ops a.tmps)=true:=by rfl) (ha:a.put (some N) v=a':=by simp only [Act.put,List.setIfInBounds_toArray,List.set_cons_zero,List.set_cons_succ,i64_w,i32_w];rfl):wpAnyLast P md ops Q S ds (fuel+1) l a w:=take_ l' hi hN hc hQ (Or.inl ⟨hw,hy⟩) hS ha h
theorem pN (N:Nat) {fuel:Nat} {l:Array Bool} {a a':Act} {v:Value} {w:World} (h:wpAnyLast P md ops Q S ds fuel l a' w) (ha:a.put (some N) v=a':=by simp only [Act.put,List.setIfInBounds_toArray,List.set_cons_zero,List.set_cons_succ,i64_w,i32_w];rfl):wpAnyLast P md ops Q S ds fuel l (a.put (some N) v) w:=norm_ ha h
end
theorem za {P:Prop} (h:P:=by repeat (first|(with_reducible first|exact HB.out|apply below_alloc|apply pw_below_drewN|apply below_drew1)|exact HB.out)):P:=h
theorem zb {P:Prop} (h:P:=by first|(with_reducible assumption)|assumption):P:=h
theorem zc {P:Prop} (h:P:=by (try simp only [List.map_toArray,List.map_cons,List.map_nil]);first|done|rfl|(simp only [List.length_drop,List.length_take];rfl)):P:=h
theorem zd {P:Prop} (h:P:=by repeat (first|(with_reducible first|exact HB.out|apply below_alloc|apply pw_below_drewN|apply below_drew1|refine below_set ?_ GE101.out)|exact HB.out)):P:=h
theorem ze {P:Prop} (h:P:=by (with_reducible repeat (first|refine blk_drewN ?_ _|refine blk_drew ?_|refine blk_alloc ?_ _));exact BK101.out):P:=h
theorem zf {P:Prop} (h:P:=by first|(with_reducible assumption)|assumption|decide|exact decide_eq_true (by simp)|exact decide_eq_true (by omega)):P:=h
theorem zg {P:Prop} (h:P:=by (with_reducible repeat (first|refine blk_drewN ?_ _|refine blk_drew ?_|refine blk_alloc ?_ _));exact BK116.out):P:=h
theorem zh {P:Prop} (h:P:=by (with_reducible repeat (first|refine blk_drewN ?_ _|refine blk_drew ?_|refine blk_alloc ?_ _));refine blk_put (cs:=#[.string ((rd_T127 l0 (rd (rd_L6 t104 x10_2) 1)).f0),.int .i64 ((rd_T127 l0 (rd (rd_L6 t104 x10_2) 1)).f1),.int .i64 0]) ?_ 2 _ rfl;(with_reducible repeat (first|refine blk_drewN ?_ _|refine blk_drew ?_|refine blk_alloc ?_ _));refine blk_put (cs:=#[.string ((rd_T127 l0 (rd (rd_L6 t104 x10_2) 1)).f0),.int .i64 0,.int .i64 0]) ?_ 1 _ rfl;(with_reducible repeat (first|refine blk_drewN ?_ _|refine blk_drew ?_|refine blk_alloc ?_ _));refine blk_put (cs:=#[.string (⟨#[]⟩:ByteArray),.int .i64 0,.int .i64 0]) ?_ 0 _ rfl;(with_reducible repeat (first|refine blk_drewN ?_ _|refine blk_drew ?_|refine blk_alloc ?_ _));exact BK120.out):P:=h
theorem zi {P:Prop} (h:P:=by first|with_reducible exact Kd.own_blk (Kd.R_ne HL110_0.out BK115.out (by decide))|(rw [add_block];exact Kd.own_blk (Kd.R_ne HL110_0.out BK115.out (by decide)))|(show (Addr.add _ _).block≠_;rw [add_block];exact Kd.own_blk (Kd.R_ne HL110_0.out BK115.out (by decide)))|(dsimp only;exact Kd.own_blk (Kd.R_ne HL110_0.out BK115.out (by decide)))):P:=h
theorem zj {P:Prop} (h:P:=by first|with_reducible exact Kd.own_blk (Kd.R_ne HL110_0.out BK116.out (by decide))|(rw [add_block];exact Kd.own_blk (Kd.R_ne HL110_0.out BK116.out (by decide)))|(show (Addr.add _ _).block≠_;rw [add_block];exact Kd.own_blk (Kd.R_ne HL110_0.out BK116.out (by decide)))|(dsimp only;exact Kd.own_blk (Kd.R_ne HL110_0.out BK116.out (by decide)))):P:=h
theorem zk {P:Prop} (h:P:=by first|rfl|(simp [errW_none,errW_some]<;>rfl)|(simp [*,errW_none,errW_some]<;>rfl)):P:=h
theorem zl {P:Prop} (h:P:=by (with_reducible repeat (first|refine blk_drewN ?_ _|refine blk_drew ?_|refine blk_alloc ?_ _));exact BK115.out):P:=h
theorem zm {P:Prop} (h:P:=by first|rfl|(simp;done)|(simp [*];done)):P:=h
theorem zn {P:Prop} (h:P:=by repeat (first|(with_reducible first|exact HB.out|apply below_alloc|apply pw_below_drewN|apply below_drew1|refine below_set ?_ GE115.out|refine below_set ?_ GE116.out)|exact HB.out)):P:=h
theorem zo {P:Prop} (h:P:=by repeat (first|(with_reducible first|exact HB.out|apply below_alloc|apply pw_below_drewN|apply below_drew1|refine below_set ?_ GE115.out|refine below_set ?_ GE116.out|refine below_set ?_ GE118.out)|exact HB.out)):P:=h
theorem zp {P:Prop} (h:P:=by repeat (first|(with_reducible first|exact HB.out|apply below_alloc|apply pw_below_drewN|apply below_drew1|refine below_set ?_ GE102.out)|exact HB.out)):P:=h
theorem zq {P:Prop} (h:P:=by (with_reducible repeat (first|refine blk_drewN ?_ _|refine blk_drew ?_|refine blk_alloc ?_ _));refine blk_far ?_ NB116_120.out _;(with_reducible repeat (first|refine blk_drewN ?_ _|refine blk_drew ?_|refine blk_alloc ?_ _));refine blk_far ?_ NB116_120.out _;(with_reducible repeat (first|refine blk_drewN ?_ _|refine blk_drew ?_|refine blk_alloc ?_ _));refine blk_far ?_ NB116_120.out _;(with_reducible repeat (first|refine blk_drewN ?_ _|refine blk_drew ?_|refine blk_alloc ?_ _));exact BK116.out):P:=h
theorem zr {P:Prop} (h:P:=by (with_reducible repeat (first|refine blk_drewN ?_ _|refine blk_drew ?_|refine blk_alloc ?_ _));refine blk_put (cs:=#[.string ((rd_T125 l1 (rd (rd_L6 t104 x10_2) 0)).f1),.int .i64 (wrap64 ((wrap64 (((rd_T127 l0 (rd (rd_L6 t104 x10_2) 1)).f1)+((rd_T127 l0 (rd (rd_L6 t104 x10_2) 1)).f2)))+((rd_T125 l1 (rd (rd_L6 t104 x10_2) 0)).f2))),.int .i64 0]) ?_ 2 _ rfl;(with_reducible repeat (first|refine blk_drewN ?_ _|refine blk_drew ?_|refine blk_alloc ?_ _));refine blk_put (cs:=#[.string ((rd_T125 l1 (rd (rd_L6 t104 x10_2) 0)).f1),.int .i64 0,.int .i64 0]) ?_ 1 _ rfl;(with_reducible repeat (first|refine blk_drewN ?_ _|refine blk_drew ?_|refine blk_alloc ?_ _));refine blk_put (cs:=#[.string (⟨#[]⟩:ByteArray),.int .i64 0,.int .i64 0]) ?_ 0 _ rfl;(with_reducible repeat (first|refine blk_drewN ?_ _|refine blk_drew ?_|refine blk_alloc ?_ _));exact BK121.out):P:=h
theorem zt {P:Prop} (h:P:=by first|(go_simp;done)|(go_simp;rfl)):P:=h
theorem zu {P:Prop} (h:P:=by (with_reducible repeat (first|apply Kd.S_alloc|apply Kd.S_drewN|apply Kd.S_drew));exact HO_33.out):P:=h
theorem zv {P:Prop} (h:P:=by (with_reducible repeat (first|apply Kd.R_alloc|apply Kd.R_drewN|apply Kd.R_drew));exact HO_8.out):P:=h
theorem zw {P:Prop} (h:P:=by repeat (first|exact Drawn0.refl _|apply Drawn0.step)):P:=h
theorem zx {P:Prop} (h:P:=by (with_reducible repeat (first|refine blk_drewN ?_ _|refine blk_drew ?_|refine blk_alloc ?_ _));refine blk_far ?_ NB115_116.out _;(with_reducible repeat (first|refine blk_drewN ?_ _|refine blk_drew ?_|refine blk_alloc ?_ _));refine blk_far ?_ NB115_116.out _;(with_reducible repeat (first|refine blk_drewN ?_ _|refine blk_drew ?_|refine blk_alloc ?_ _));refine blk_far ?_ NB115_116.out _;(with_reducible repeat (first|refine blk_drewN ?_ _|refine blk_drew ?_|refine blk_alloc ?_ _));refine blk_put (cs:=#[.string ((rd_T125 l1 (rd (rd_L6 t107 x35_2) 0)).f0),.string ((rd_T125 l1 (rd (rd_L6 t107 x35_2) 0)).f1),.int .i64 0]) ?_ 2 _ rfl;(with_reducible repeat (first|refine blk_drewN ?_ _|refine blk_drew ?_|refine blk_alloc ?_ _));refine blk_put (cs:=#[.string ((rd_T125 l1 (rd (rd_L6 t107 x35_2) 0)).f0),.string (⟨#[]⟩:ByteArray),.int .i64 0]) ?_ 1 _ rfl;(with_reducible repeat (first|refine blk_drewN ?_ _|refine blk_drew ?_|refine blk_alloc ?_ _));refine blk_put (cs:=#[.string (⟨#[]⟩:ByteArray),.string (⟨#[]⟩:ByteArray),.int .i64 0]) ?_ 0 _ rfl;(with_reducible repeat (first|refine blk_drewN ?_ _|refine blk_drew ?_|refine blk_alloc ?_ _));exact BK115.out):P:=h
theorem zy {P:Prop} (h:P:=by repeat (first|exact HR0.out|(with_reducible refine Kd.C_alloc ?_ _)|(with_reducible refine Kd.C_drewN ?_ _)|(with_reducible refine Kd.C_drew ?_))):P:=h
theorem zz {P:Prop} (h:P:=by (with_reducible repeat (first|refine blk_drewN ?_ _|refine blk_drew ?_|refine blk_alloc ?_ _));exact BK102.out):P:=h
theorem zaa {P:Prop} (h:P:=by (with_reducible repeat (first|apply Kd.R_alloc|apply Kd.R_drewN|apply Kd.R_drew));exact HL110_0.out):P:=h
theorem zab {P:Prop} (h:P:=by (with_reducible repeat (first|refine blk_drewN ?_ _|refine blk_drew ?_|refine blk_alloc ?_ _));refine blk_put (cs:=#[.string ((rd_T127 l0 (rd (rd_L6 t107 x35_2) 1)).f0),.int .i64 ((rd_T127 l0 (rd (rd_L6 t107 x35_2) 1)).f1),.int .i64 0]) ?_ 2 _ rfl;(with_reducible repeat (first|refine blk_drewN ?_ _|refine blk_drew ?_|refine blk_alloc ?_ _));refine blk_put (cs:=#[.string ((rd_T127 l0 (rd (rd_L6 t107 x35_2) 1)).f0),.int .i64 0,.int .i64 0]) ?_ 1 _ rfl;(with_reducible repeat (first|refine blk_drewN ?_ _|refine blk_drew ?_|refine blk_alloc ?_ _));refine blk_put (cs:=#[.string (⟨#[]⟩:ByteArray),.int .i64 0,.int .i64 0]) ?_ 0 _ rfl;(with_reducible repeat (first|refine blk_drewN ?_ _|refine blk_drew ?_|refine blk_alloc ?_ _));refine blk_far ?_ NB116_115.out _;(with_reducible repeat (first|refine blk_drewN ?_ _|refine blk_drew ?_|refine blk_alloc ?_ _));refine blk_far ?_ NB116_115.out _;(with_reducible repeat (first|refine blk_drewN ?_ _|refine blk_drew ?_|refine blk_alloc ?_ _));refine blk_far ?_ NB116_115.out _;(with_reducible repeat (first|refine blk_drewN ?_ _|refine blk_drew ?_|refine blk_alloc ?_ _));exact BK116.out):P:=h
theorem zac {P:Prop} (h:P:=by exact box_C (ca:=#[.string ((rd_T125 l1 (rd (rd_L6 t104 x10_2) 0)).f1),.int .i64 (wrap64 ((wrap64 (((rd_T127 l0 (rd (rd_L6 t104 x10_2) 1)).f1)+((rd_T127 l0 (rd (rd_L6 t104 x10_2) 1)).f2)))+((rd_T125 l1 (rd (rd_L6 t104 x10_2) 0)).f2))),.int .i64 a2]) (t:=127) (by (with_reducible repeat (first|refine blk_drewN ?_ _|refine blk_drew ?_|refine blk_alloc ?_ _));refine blk_put (cs:=#[.string ((rd_T125 l1 (rd (rd_L6 t104 x10_2) 0)).f1),.int .i64 (wrap64 ((wrap64 (((rd_T127 l0 (rd (rd_L6 t104 x10_2) 1)).f1)+((rd_T127 l0 (rd (rd_L6 t104 x10_2) 1)).f2)))+((rd_T125 l1 (rd (rd_L6 t104 x10_2) 0)).f2))),.int .i64 0]) ?_ 2 _ rfl;(with_reducible repeat (first|refine blk_drewN ?_ _|refine blk_drew ?_|refine blk_alloc ?_ _));refine blk_put (cs:=#[.string ((rd_T125 l1 (rd (rd_L6 t104 x10_2) 0)).f1),.int .i64 0,.int .i64 0]) ?_ 1 _ rfl;(with_reducible repeat (first|refine blk_drewN ?_ _|refine blk_drew ?_|refine blk_alloc ?_ _));refine blk_put (cs:=#[.string (⟨#[]⟩:ByteArray),.int .i64 0,.int .i64 0]) ?_ 0 _ rfl;(with_reducible repeat (first|refine blk_drewN ?_ _|refine blk_drew ?_|refine blk_alloc ?_ _));exact BK121.out) rfl _ (k127_mk _ _)):P:=h
theorem zad {P:Prop} (h:P:=by repeat (first|(with_reducible first|exact HS.out|apply sz_alloc|apply sz_drewN|apply sz_drew)|exact HS.out)):P:=h
theorem zae {P:Prop} (h:P:=by repeat (first|(with_reducible exact HR110_0.out)|(with_reducible refine Kd.C_alloc ?_ _)|(with_reducible refine Kd.C_drewN ?_ _)|(with_reducible refine Kd.C_drew ?_)|exact HR110_0.out)):P:=h
theorem zaf {P:Prop} (h:P:=by repeat (first|(with_reducible first|exact HB.out|apply below_alloc|apply pw_below_drewN|apply below_drew1|refine below_set ?_ GE105.out)|exact HB.out)):P:=h
theorem zag {P:Prop} (h:P:=by repeat (first|(with_reducible first|exact HB.out|apply below_alloc|apply pw_below_drewN|apply below_drew1|refine below_set ?_ GE116.out)|exact HB.out)):P:=h
theorem zah {P:Prop} (h:P:=by repeat (first|(with_reducible first|exact HB.out|apply below_alloc|apply pw_below_drewN|apply below_drew1|refine below_set ?_ GE101.out|refine below_set ?_ GE102.out)|exact HB.out)):P:=h
theorem zai {P:Prop} (h:P:=by first|(rw [add_block];exact hn106_0)|(show (Addr.add _ _).block≠_;rw [add_block];exact hn106_0)|exact hn106_0):P:=h
theorem zaj {P:Prop} (h:P:=by first|(rw [add_block];exact hn106_1)|(show (Addr.add _ _).block≠_;rw [add_block];exact hn106_1)|exact hn106_1):P:=h
theorem zak {P:Prop} (h:P:=by first|(rw [add_block];exact hn106_2)|(show (Addr.add _ _).block≠_;rw [add_block];exact hn106_2)|exact hn106_2):P:=h
theorem zal {P:Prop} (h:P:=by (with_reducible repeat (first|apply Kd.R_alloc|apply Kd.R_drewN|apply Kd.R_drew));exact (Kd.R_mono (Kd.R_far (p:=⟨gb120,2,none⟩) (Kd.R_far (p:=⟨gb120,1,none⟩) (Kd.R_far (p:=⟨gb120,0,none⟩) (Kd.R_types HL113_0.out BK120.out (by decide)) (fun _ hk=>hk.2) (.string ((rd_T127 l0 (rd (rd_L6 t104 x10_2) 1)).f0))) (fun _ hk=>hk.2) (.int .i64 ((rd_T127 l0 (rd (rd_L6 t104 x10_2) 1)).f1))) (fun _ hk=>hk.2) (.int .i64 ((rd_T127 l0 (rd (rd_L6 t104 x10_2) 1)).f2))) (fun _ h_=>h_.1))):P:=h
theorem zam {P:Prop} (h:P:=by (with_reducible repeat (first|apply Kd.R_alloc|apply Kd.R_drewN|apply Kd.R_drew));exact (Kd.R_mono (Kd.R_far (p:=⟨gb120,2,none⟩) (Kd.R_far (p:=⟨gb120,1,none⟩) (Kd.R_far (p:=⟨gb120,0,none⟩) (Kd.R_types HL117_0.out BK120.out (by decide)) (fun _ hk=>hk.2) (.string ((rd_T127 l0 (rd (rd_L6 t104 x10_2) 1)).f0))) (fun _ hk=>hk.2) (.int .i64 ((rd_T127 l0 (rd (rd_L6 t104 x10_2) 1)).f1))) (fun _ hk=>hk.2) (.int .i64 ((rd_T127 l0 (rd (rd_L6 t104 x10_2) 1)).f2))) (fun _ h_=>h_.1))):P:=h
theorem zan {P:Prop} (h:P:=by (with_reducible repeat (first|apply Kd.R_alloc|apply Kd.R_drewN|apply Kd.R_drew));exact (Kd.R_mono (Kd.R_far (p:=⟨gb118,2,none⟩) (Kd.R_far (p:=⟨gb118,1,none⟩) (Kd.R_far (p:=⟨gb118,0,none⟩) (Kd.R_mono HO_8.out (fun k_ hk=>(⟨hk,hk.2⟩:_∧k_≠gb118))) (fun _ hk=>hk.2) (.string ((rd_T125 l1 (rd (rd_L6 t107 x35_2) 0)).f1))) (fun _ hk=>hk.2) (.int .i64 (wrap64 (t117+((rd_T125 l1 (rd (rd_L6 t107 x35_2) 0)).f2))))) (fun _ hk=>hk.2) (.int .i64 a2)) (fun _ h_=>h_.1))):P:=h
theorem zao {P:Prop} (h:P:=by rintro w' ⟨s0,s1,s2,s3,s4,s5⟩;go_simp;with_reducible rfl):P:=h
theorem zap {P:Prop} (h:P:=by (with_reducible repeat (first|apply Kd.R_alloc|apply Kd.R_drewN|apply Kd.R_drew));exact (Kd.R_mono (Kd.R_far (p:=⟨gb121,2,none⟩) (Kd.R_far (p:=⟨gb121,1,none⟩) (Kd.R_far (p:=⟨gb121,0,none⟩) (Kd.R_mono HO_9.out (fun k_ hk=>(⟨hk,hk.2⟩:_∧k_≠gb121))) (fun _ hk=>hk.2) (.string ((rd_T125 l1 (rd (rd_L6 t104 x10_2) 0)).f1))) (fun _ hk=>hk.2) (.int .i64 (wrap64 ((wrap64 (((rd_T127 l0 (rd (rd_L6 t104 x10_2) 1)).f1)+((rd_T127 l0 (rd (rd_L6 t104 x10_2) 1)).f2)))+((rd_T125 l1 (rd (rd_L6 t104 x10_2) 0)).f2))))) (fun _ hk=>hk.2) (.int .i64 a2)) (fun _ h_=>h_.1))):P:=h
theorem zaq {P:Prop} (h:P:=by (with_reducible repeat (first|refine blk_drewN ?_ _|refine blk_drew ?_|refine blk_alloc ?_ _));refine blk_put (cs:=#[.string ((rd_T127 l0 x10_1).f0),.int .i64 ((rd_T127 l0 x10_1).f1),.int .i64 0]) ?_ 2 _ rfl;(with_reducible repeat (first|refine blk_drewN ?_ _|refine blk_drew ?_|refine blk_alloc ?_ _));refine blk_put (cs:=#[.string ((rd_T127 l0 x10_1).f0),.int .i64 0,.int .i64 0]) ?_ 1 _ rfl;(with_reducible repeat (first|refine blk_drewN ?_ _|refine blk_drew ?_|refine blk_alloc ?_ _));refine blk_put (cs:=#[.string (⟨#[]⟩:ByteArray),.int .i64 0,.int .i64 0]) ?_ 0 _ rfl;(with_reducible repeat (first|refine blk_drewN ?_ _|refine blk_drew ?_|refine blk_alloc ?_ _));exact BK102.out):P:=h
theorem zar {P:Prop} (h:P:=by repeat (first|(with_reducible first|exact HB.out|apply below_alloc|apply pw_below_drewN|apply below_drew1|refine below_set ?_ GE102.out|refine below_set ?_ GE104.out)|exact HB.out)):P:=h
theorem zas {P:Prop} (h:P:=by (with_reducible repeat (first|apply Kd.R_alloc|apply Kd.R_drewN|apply Kd.R_drew));exact Kd.R_mono (Kd.R_far (p:=⟨gb116,2,none⟩) (Kd.R_far (p:=⟨gb116,1,none⟩) (Kd.R_far (p:=⟨gb116,0,none⟩) (Kd.R_far (p:=⟨gb115,2,none⟩) (Kd.R_far (p:=⟨gb115,1,none⟩) (Kd.R_far (p:=⟨gb115,0,none⟩) (Kd.R_mono (Kd.R_types HO_8.out BK115.out (by decide)) (fun k_ hk=>(⟨hk,hk.1⟩:_∧k_≠gb116))) (fun _ hk=>hk.1.2) (.string ((rd_T125 l1 (rd (rd_L6 t107 x35_2) 0)).f0))) (fun _ hk=>hk.1.2) (.string ((rd_T125 l1 (rd (rd_L6 t107 x35_2) 0)).f1))) (fun _ hk=>hk.1.2) (.int .i64 ((rd_T125 l1 (rd (rd_L6 t107 x35_2) 0)).f2))) (fun _ hk=>hk.2) (.string ((rd_T127 l0 (rd (rd_L6 t107 x35_2) 1)).f0))) (fun _ hk=>hk.2) (.int .i64 ((rd_T127 l0 (rd (rd_L6 t107 x35_2) 1)).f1))) (fun _ hk=>hk.2) (.int .i64 ((rd_T127 l0 (rd (rd_L6 t107 x35_2) 1)).f2))) (fun _ hk=>hk.1.1)):P:=h
theorem zat {P:Prop} (h:P:=by (with_reducible repeat (first|apply Kd.R_alloc|apply Kd.R_drewN|apply Kd.R_drew));exact Kd.R_mono (Kd.R_far (p:=⟨gb116,2,none⟩) (Kd.R_far (p:=⟨gb116,1,none⟩) (Kd.R_far (p:=⟨gb116,0,none⟩) (Kd.R_far (p:=⟨gb115,2,none⟩) (Kd.R_far (p:=⟨gb115,1,none⟩) (Kd.R_far (p:=⟨gb115,0,none⟩) (Kd.R_types (Kd.R_types HL110_0.out BK115.out (by decide)) BK116.out (by decide)) (fun _ hk=>hk.1.2) (.string ((rd_T125 l1 (rd (rd_L6 t107 x35_2) 0)).f0))) (fun _ hk=>hk.1.2) (.string ((rd_T125 l1 (rd (rd_L6 t107 x35_2) 0)).f1))) (fun _ hk=>hk.1.2) (.int .i64 ((rd_T125 l1 (rd (rd_L6 t107 x35_2) 0)).f2))) (fun _ hk=>hk.2) (.string ((rd_T127 l0 (rd (rd_L6 t107 x35_2) 1)).f0))) (fun _ hk=>hk.2) (.int .i64 ((rd_T127 l0 (rd (rd_L6 t107 x35_2) 1)).f1))) (fun _ hk=>hk.2) (.int .i64 ((rd_T127 l0 (rd (rd_L6 t107 x35_2) 1)).f2))) (fun _ hk=>hk.1.1)):P:=h
theorem zau {P:Prop} (h:P:=by (with_reducible repeat (first|apply Kd.S_alloc|apply Kd.S_drewN|apply Kd.S_drew));exact Kd.S_mono (Kd.S_far (p:=⟨gb116,2,none⟩) (Kd.S_far (p:=⟨gb116,1,none⟩) (Kd.S_far (p:=⟨gb116,0,none⟩) (Kd.S_far (p:=⟨gb115,2,none⟩) (Kd.S_far (p:=⟨gb115,1,none⟩) (Kd.S_far (p:=⟨gb115,0,none⟩) (Kd.S_types (Kd.S_types HO_33.out BK115.out (by decide)) BK116.out (by decide)) (fun _ hk=>hk.1.2) (.string ((rd_T125 l1 (rd (rd_L6 t107 x35_2) 0)).f0))) (fun _ hk=>hk.1.2) (.string ((rd_T125 l1 (rd (rd_L6 t107 x35_2) 0)).f1))) (fun _ hk=>hk.1.2) (.int .i64 ((rd_T125 l1 (rd (rd_L6 t107 x35_2) 0)).f2))) (fun _ hk=>hk.2) (.string ((rd_T127 l0 (rd (rd_L6 t107 x35_2) 1)).f0))) (fun _ hk=>hk.2) (.int .i64 ((rd_T127 l0 (rd (rd_L6 t107 x35_2) 1)).f1))) (fun _ hk=>hk.2) (.int .i64 ((rd_T127 l0 (rd (rd_L6 t107 x35_2) 1)).f2))) (fun _ hk=>trivial)):P:=h
theorem zav {P:Prop} (h:P:=by (with_reducible repeat (first|apply Kd.S_alloc|apply Kd.S_drewN|apply Kd.S_drew));exact HO_5.out):P:=h
theorem zaw {P:Prop} (h:P:=by rw [hw];exact (by (with_reducible repeat (first|refine blk_drewN ?_ _|refine blk_drew ?_|refine blk_alloc ?_ _));refine blk_put (cs:=#[.string ((rd_T125 l1 (rd (rd_L6 t104 x10_2) 0)).f0),.string ((rd_T125 l1 (rd (rd_L6 t104 x10_2) 0)).f1),.int .i64 0]) ?_ 2 _ rfl;(with_reducible repeat (first|refine blk_drewN ?_ _|refine blk_drew ?_|refine blk_alloc ?_ _));refine blk_put (cs:=#[.string ((rd_T125 l1 (rd (rd_L6 t104 x10_2) 0)).f0),.string (⟨#[]⟩:ByteArray),.int .i64 0]) ?_ 1 _ rfl;(with_reducible repeat (first|refine blk_drewN ?_ _|refine blk_drew ?_|refine blk_alloc ?_ _));refine blk_put (cs:=#[.string (⟨#[]⟩:ByteArray),.string (⟨#[]⟩:ByteArray),.int .i64 0]) ?_ 0 _ rfl;(with_reducible repeat (first|refine blk_drewN ?_ _|refine blk_drew ?_|refine blk_alloc ?_ _));exact BK116.out)):P:=h
theorem zax {P:Prop} (h:P:=by (with_reducible repeat (first|refine blk_drewN ?_ _|refine blk_drew ?_|refine blk_alloc ?_ _));refine blk_put (cs:=#[.string ((rd_T125 l1 (rd (rd_L6 t104 x10_2) 0)).f0),.string ((rd_T125 l1 (rd (rd_L6 t104 x10_2) 0)).f1),.int .i64 0]) ?_ 2 _ rfl;(with_reducible repeat (first|refine blk_drewN ?_ _|refine blk_drew ?_|refine blk_alloc ?_ _));refine blk_put (cs:=#[.string ((rd_T125 l1 (rd (rd_L6 t104 x10_2) 0)).f0),.string (⟨#[]⟩:ByteArray),.int .i64 0]) ?_ 1 _ rfl;(with_reducible repeat (first|refine blk_drewN ?_ _|refine blk_drew ?_|refine blk_alloc ?_ _));refine blk_put (cs:=#[.string (⟨#[]⟩:ByteArray),.string (⟨#[]⟩:ByteArray),.int .i64 0]) ?_ 0 _ rfl;(with_reducible repeat (first|refine blk_drewN ?_ _|refine blk_drew ?_|refine blk_alloc ?_ _));exact BK116.out):P:=h
theorem zay {P:Prop} (h:P:=by (with_reducible repeat (first|refine blk_drewN ?_ _|refine blk_drew ?_|refine blk_alloc ?_ _));refine blk_put (cs:=#[.string ((rd_T125 l1 (rd (rd_L6 t107 x35_2) 0)).f1),.int .i64 (wrap64 (t117+((rd_T125 l1 (rd (rd_L6 t107 x35_2) 0)).f2))),.int .i64 0]) ?_ 2 _ rfl;(with_reducible repeat (first|refine blk_drewN ?_ _|refine blk_drew ?_|refine blk_alloc ?_ _));refine blk_put (cs:=#[.string ((rd_T125 l1 (rd (rd_L6 t107 x35_2) 0)).f1),.int .i64 0,.int .i64 0]) ?_ 1 _ rfl;(with_reducible repeat (first|refine blk_drewN ?_ _|refine blk_drew ?_|refine blk_alloc ?_ _));refine blk_put (cs:=#[.string (⟨#[]⟩:ByteArray),.int .i64 0,.int .i64 0]) ?_ 0 _ rfl;(with_reducible repeat (first|refine blk_drewN ?_ _|refine blk_drew ?_|refine blk_alloc ?_ _));exact BK118.out):P:=h
theorem zaz {P:Prop} (h:P:=by (with_reducible repeat (first|apply Kd.R_alloc|apply Kd.R_drewN|apply Kd.R_drew));exact HO_row14.out):P:=h
theorem zba {P:Prop} (h:P:=by (with_reducible repeat (first|apply Kd.R_alloc|apply Kd.R_drewN|apply Kd.R_drew));exact HO_row7.out):P:=h
theorem zbb {P:Prop} (h:P:=by (with_reducible repeat (first|refine blk_drewN ?_ _|refine blk_drew ?_|refine blk_alloc ?_ _));refine blk_put (cs:=#[.string ((rd_T127 l0 x19_2).f0),.int .i64 ((rd_T127 l0 x19_2).f1),.int .i64 0]) ?_ 2 _ rfl;(with_reducible repeat (first|refine blk_drewN ?_ _|refine blk_drew ?_|refine blk_alloc ?_ _));refine blk_put (cs:=#[.string ((rd_T127 l0 x19_2).f0),.int .i64 0,.int .i64 0]) ?_ 1 _ rfl;(with_reducible repeat (first|refine blk_drewN ?_ _|refine blk_drew ?_|refine blk_alloc ?_ _));refine blk_put (cs:=#[.string (⟨#[]⟩:ByteArray),.int .i64 0,.int .i64 0]) ?_ 0 _ rfl;(with_reducible repeat (first|refine blk_drewN ?_ _|refine blk_drew ?_|refine blk_alloc ?_ _));exact BK104.out):P:=h
theorem zbc {P:Prop} (h:P:=by (with_reducible repeat (first|refine blk_drewN ?_ _|refine blk_drew ?_|refine blk_alloc ?_ _));refine blk_put (cs:=#[.string ((rd_T127 l0 x7_2).f0),.int .i64 ((rd_T127 l0 x7_2).f1),.int .i64 0]) ?_ 2 _ rfl;(with_reducible repeat (first|refine blk_drewN ?_ _|refine blk_drew ?_|refine blk_alloc ?_ _));refine blk_put (cs:=#[.string ((rd_T127 l0 x7_2).f0),.int .i64 0,.int .i64 0]) ?_ 1 _ rfl;(with_reducible repeat (first|refine blk_drewN ?_ _|refine blk_drew ?_|refine blk_alloc ?_ _));refine blk_put (cs:=#[.string (⟨#[]⟩:ByteArray),.int .i64 0,.int .i64 0]) ?_ 0 _ rfl;(with_reducible repeat (first|refine blk_drewN ?_ _|refine blk_drew ?_|refine blk_alloc ?_ _));exact BK105.out):P:=h
theorem zbd {P:Prop} (h:P:=by first|(rw [add_block];exact hn107_0)|(show (Addr.add _ _).block≠_;rw [add_block];exact hn107_0)|exact hn107_0):P:=h
theorem zbe {P:Prop} (h:P:=by first|(rw [add_block];exact hn107_1)|(show (Addr.add _ _).block≠_;rw [add_block];exact hn107_1)|exact hn107_1):P:=h
theorem zbf {P:Prop} (h:P:=by first|(rw [add_block];exact hn107_2)|(show (Addr.add _ _).block≠_;rw [add_block];exact hn107_2)|exact hn107_2):P:=h
theorem zbg {P:Prop} (h:P:=by first|(rw [add_block];exact hn108_0)|(show (Addr.add _ _).block≠_;rw [add_block];exact hn108_0)|exact hn108_0):P:=h
theorem zbh {P:Prop} (h:P:=by first|(rw [add_block];exact hn108_1)|(show (Addr.add _ _).block≠_;rw [add_block];exact hn108_1)|exact hn108_1):P:=h
theorem zbi {P:Prop} (h:P:=by first|(rw [add_block];exact hn108_2)|(show (Addr.add _ _).block≠_;rw [add_block];exact hn108_2)|exact hn108_2):P:=h
theorem zbj {P:Prop} (h:P:=by (with_reducible repeat (first|apply Kd.R_alloc|apply Kd.R_drewN|apply Kd.R_drew));exact HO_row10.out):P:=h
theorem zbk {P:Prop} (h:P:=by kernel_rfl):P:=h
theorem zbl {P:Prop} (h:P:=by (with_reducible repeat (first|apply Kd.R_alloc|apply Kd.R_drewN|apply Kd.R_drew));exact HO_row17.out):P:=h
theorem zbm {P:Prop} (h:P:=by (with_reducible repeat (first|apply Kd.R_alloc|apply Kd.R_drewN|apply Kd.R_drew));exact HO_row24.out):P:=h
theorem zbn {P:Prop} (h:P:=by (with_reducible repeat (first|apply Kd.R_alloc|apply Kd.R_drewN|apply Kd.R_drew));exact HO_row20.out):P:=h
theorem zbo {P:Prop} (h:P:=by repeat (first|(with_reducible first|exact HK.out|apply Kept.alloc|apply Kept.drewN|apply Kept.drew)|exact HK.out)):P:=h
theorem zbp {P:Prop} (h:P:=by (with_reducible repeat (first|refine blk_drewN ?_ _|refine blk_drew ?_|refine blk_alloc ?_ _));exact BK118.out):P:=h
theorem zbq {P:Prop} (h:P:=by decide):P:=h
theorem zbr {P:Prop} (h:P:=by repeat (first|(with_reducible first|exact HB.out|apply below_alloc|apply pw_below_drewN|apply below_drew1|refine below_set ?_ GE116.out|refine below_set ?_ GE120.out)|exact HB.out)):P:=h
theorem zbs {P:Prop} (h:P:=by repeat (first|exact (Kd.C_below HR0.out HB.out)|(with_reducible refine Kd.C_alloc ?_ _)|(with_reducible refine Kd.C_drewN ?_ _)|(with_reducible refine Kd.C_drew ?_))):P:=h
theorem zbt {P:Prop} (h:P:=by omega):P:=h
theorem zbu {P:Prop} (h:P:=by (with_reducible repeat (first|refine blk_drewN ?_ _|refine blk_drew ?_|refine blk_alloc ?_ _));refine blk_far ?_ NB102_104.out _;(with_reducible repeat (first|refine blk_drewN ?_ _|refine blk_drew ?_|refine blk_alloc ?_ _));refine blk_far ?_ NB102_104.out _;(with_reducible repeat (first|refine blk_drewN ?_ _|refine blk_drew ?_|refine blk_alloc ?_ _));refine blk_far ?_ NB102_104.out _;(with_reducible repeat (first|refine blk_drewN ?_ _|refine blk_drew ?_|refine blk_alloc ?_ _));exact BK102.out):P:=h
theorem zbv {P:Prop} (h:P:=by (with_reducible repeat (first|refine blk_drewN ?_ _|refine blk_drew ?_|refine blk_alloc ?_ _));refine blk_far ?_ NB115_118.out _;(with_reducible repeat (first|refine blk_drewN ?_ _|refine blk_drew ?_|refine blk_alloc ?_ _));refine blk_far ?_ NB115_118.out _;(with_reducible repeat (first|refine blk_drewN ?_ _|refine blk_drew ?_|refine blk_alloc ?_ _));refine blk_far ?_ NB115_118.out _;(with_reducible repeat (first|refine blk_drewN ?_ _|refine blk_drew ?_|refine blk_alloc ?_ _));exact BK115.out):P:=h
theorem zbw {P:Prop} (h:P:=by (with_reducible repeat (first|refine blk_drewN ?_ _|refine blk_drew ?_|refine blk_alloc ?_ _));refine blk_far ?_ NB116_118.out _;(with_reducible repeat (first|refine blk_drewN ?_ _|refine blk_drew ?_|refine blk_alloc ?_ _));refine blk_far ?_ NB116_118.out _;(with_reducible repeat (first|refine blk_drewN ?_ _|refine blk_drew ?_|refine blk_alloc ?_ _));refine blk_far ?_ NB116_118.out _;(with_reducible repeat (first|refine blk_drewN ?_ _|refine blk_drew ?_|refine blk_alloc ?_ _));exact BK116.out):P:=h
theorem zbx {P:Prop} (h:P:=by exact (fun k_ hk=>Kd.freshB (g:=gb101) (o:=.cells #[.string x102000_1,.int .i64 x102001_1,.int .i64 x102002_1] 127 (0,0)) (by (with_reducible repeat (first|refine blk_drewN ?_ _|refine blk_drew ?_|refine blk_alloc ?_ _));exact BK101.out) k_ hk)):P:=h
theorem zby {P:Prop} (h:P:=by (with_reducible repeat (first|apply Kd.R_alloc|apply Kd.R_drewN|apply Kd.R_drew));exact (Kd.R_mono (Kd.R_far (p:=⟨gb120,2,none⟩) (Kd.R_far (p:=⟨gb120,1,none⟩) (Kd.R_far (p:=⟨gb120,0,none⟩) (Kd.R_mono HO_9.out (fun k_ hk=>(⟨hk,hk.2⟩:_∧k_≠gb120))) (fun _ hk=>hk.2) (.string ((rd_T127 l0 (rd (rd_L6 t104 x10_2) 1)).f0))) (fun _ hk=>hk.2) (.int .i64 ((rd_T127 l0 (rd (rd_L6 t104 x10_2) 1)).f1))) (fun _ hk=>hk.2) (.int .i64 ((rd_T127 l0 (rd (rd_L6 t104 x10_2) 1)).f2))) (fun _ h_=>h_.1))):P:=h
theorem zbz {P:Prop} (h:P:=by rw [hw];exact (by (with_reducible repeat (first|apply Kd.R_alloc|apply Kd.R_drewN|apply Kd.R_drew));exact Kd.R_mono (Kd.R_far (p:=⟨gb116,2,none⟩) (Kd.R_far (p:=⟨gb116,1,none⟩) (Kd.R_far (p:=⟨gb116,0,none⟩) (Kd.R_types HL113_0.out BK116.out (by decide)) (fun _ hk=>hk.2) (.string ((rd_T125 l1 (rd (rd_L6 t104 x10_2) 0)).f0))) (fun _ hk=>hk.2) (.string ((rd_T125 l1 (rd (rd_L6 t104 x10_2) 0)).f1))) (fun _ hk=>hk.2) (.int .i64 ((rd_T125 l1 (rd (rd_L6 t104 x10_2) 0)).f2))) (fun _ hk=>hk.1.2))):P:=h
theorem zca {P:Prop} (h:P:=by rw [hw];exact (by (with_reducible repeat (first|apply Kd.S_alloc|apply Kd.S_drewN|apply Kd.S_drew));exact Kd.S_mono (Kd.S_far (p:=⟨gb116,2,none⟩) (Kd.S_far (p:=⟨gb116,1,none⟩) (Kd.S_far (p:=⟨gb116,0,none⟩) (Kd.S_types HO_8.out BK116.out (by decide)) (fun _ hk=>hk.2) (.string ((rd_T125 l1 (rd (rd_L6 t104 x10_2) 0)).f0))) (fun _ hk=>hk.2) (.string ((rd_T125 l1 (rd (rd_L6 t104 x10_2) 0)).f1))) (fun _ hk=>hk.2) (.int .i64 ((rd_T125 l1 (rd (rd_L6 t104 x10_2) 0)).f2))) (fun _ hk=>trivial))):P:=h
theorem zcb {P:Prop} (h:P:=by rw [hw];exact (by (with_reducible repeat (first|apply Kd.R_alloc|apply Kd.R_drewN|apply Kd.R_drew));exact Kd.R_mono (Kd.R_far (p:=⟨gb116,2,none⟩) (Kd.R_far (p:=⟨gb116,1,none⟩) (Kd.R_far (p:=⟨gb116,0,none⟩) (Kd.R_types HO_9.out BK116.out (by decide)) (fun _ hk=>hk.2) (.string ((rd_T125 l1 (rd (rd_L6 t104 x10_2) 0)).f0))) (fun _ hk=>hk.2) (.string ((rd_T125 l1 (rd (rd_L6 t104 x10_2) 0)).f1))) (fun _ hk=>hk.2) (.int .i64 ((rd_T125 l1 (rd (rd_L6 t104 x10_2) 0)).f2))) (fun _ hk=>trivial))):P:=h
theorem zcc {P:Prop} (h:P:=by (with_reducible repeat (first|apply Kd.R_alloc|apply Kd.R_drewN|apply Kd.R_drew));exact HO_row29.out):P:=h
theorem zcd {P:Prop} (h:P:=by (with_reducible repeat (first|apply Kd.R_alloc|apply Kd.R_drewN|apply Kd.R_drew));exact Kd.R_mono (Kd.R_far (p:=⟨gb116,2,none⟩) (Kd.R_far (p:=⟨gb116,1,none⟩) (Kd.R_far (p:=⟨gb116,0,none⟩) (Kd.R_types HL113_0.out BK116.out (by decide)) (fun _ hk=>hk.2) (.string ((rd_T125 l1 (rd (rd_L6 t104 x10_2) 0)).f0))) (fun _ hk=>hk.2) (.string ((rd_T125 l1 (rd (rd_L6 t104 x10_2) 0)).f1))) (fun _ hk=>hk.2) (.int .i64 ((rd_T125 l1 (rd (rd_L6 t104 x10_2) 0)).f2))) (fun _ hk=>hk.1.2)):P:=h
theorem zce {P:Prop} (h:P:=by (with_reducible repeat (first|apply Kd.S_alloc|apply Kd.S_drewN|apply Kd.S_drew));exact (Kd.S_mono (Kd.S_far (p:=⟨gb120,2,none⟩) (Kd.S_far (p:=⟨gb120,1,none⟩) (Kd.S_far (p:=⟨gb120,0,none⟩) (Kd.S_types HO_8.out BK120.out (by decide)) (fun _ hk=>hk.2) (.string ((rd_T127 l0 (rd (rd_L6 t104 x10_2) 1)).f0))) (fun _ hk=>hk.2) (.int .i64 ((rd_T127 l0 (rd (rd_L6 t104 x10_2) 1)).f1))) (fun _ hk=>hk.2) (.int .i64 ((rd_T127 l0 (rd (rd_L6 t104 x10_2) 1)).f2))) (fun _ h_=>h_.1))):P:=h
theorem zcf {P:Prop} (h:P:=by (with_reducible repeat (first|apply Kd.S_alloc|apply Kd.S_drewN|apply Kd.S_drew));exact Kd.S_mono (Kd.S_far (p:=⟨gb116,2,none⟩) (Kd.S_far (p:=⟨gb116,1,none⟩) (Kd.S_far (p:=⟨gb116,0,none⟩) (Kd.S_types HO_8.out BK116.out (by decide)) (fun _ hk=>hk.2) (.string ((rd_T125 l1 (rd (rd_L6 t104 x10_2) 0)).f0))) (fun _ hk=>hk.2) (.string ((rd_T125 l1 (rd (rd_L6 t104 x10_2) 0)).f1))) (fun _ hk=>hk.2) (.int .i64 ((rd_T125 l1 (rd (rd_L6 t104 x10_2) 0)).f2))) (fun _ hk=>trivial)):P:=h
theorem zcg {P:Prop} (h:P:=by (with_reducible repeat (first|apply Kd.R_alloc|apply Kd.R_drewN|apply Kd.R_drew));exact Kd.R_mono (Kd.R_far (p:=⟨gb116,2,none⟩) (Kd.R_far (p:=⟨gb116,1,none⟩) (Kd.R_far (p:=⟨gb116,0,none⟩) (Kd.R_types HO_9.out BK116.out (by decide)) (fun _ hk=>hk.2) (.string ((rd_T125 l1 (rd (rd_L6 t104 x10_2) 0)).f0))) (fun _ hk=>hk.2) (.string ((rd_T125 l1 (rd (rd_L6 t104 x10_2) 0)).f1))) (fun _ hk=>hk.2) (.int .i64 ((rd_T125 l1 (rd (rd_L6 t104 x10_2) 0)).f2))) (fun _ hk=>trivial)):P:=h
theorem zch {P:Prop} (h:P:=by repeat (first|(with_reducible first|exact HB.out|apply below_alloc|apply pw_below_drewN|apply below_drew1|refine below_set ?_ GE115.out)|exact HB.out)):P:=h
theorem zci {P:Prop} (h:P:=by (with_reducible repeat (first|apply Kd.R_alloc|apply Kd.R_drewN|apply Kd.R_drew));exact (Kd.R_mono (Kd.R_far (p:=⟨gb118,2,none⟩) (Kd.R_far (p:=⟨gb118,1,none⟩) (Kd.R_far (p:=⟨gb118,0,none⟩) (Kd.R_types HL110_0.out BK118.out (by decide)) (fun _ hk=>hk.2) (.string ((rd_T125 l1 (rd (rd_L6 t107 x35_2) 0)).f1))) (fun _ hk=>hk.2) (.int .i64 (wrap64 (t117+((rd_T125 l1 (rd (rd_L6 t107 x35_2) 0)).f2))))) (fun _ hk=>hk.2) (.int .i64 a2)) (fun _ h_=>h_.1))):P:=h
theorem zcj {P:Prop} (h:P:=by (with_reducible repeat (first|apply Kd.S_alloc|apply Kd.S_drewN|apply Kd.S_drew));exact (Kd.S_mono (Kd.S_far (p:=⟨gb118,2,none⟩) (Kd.S_far (p:=⟨gb118,1,none⟩) (Kd.S_far (p:=⟨gb118,0,none⟩) (Kd.S_types HO_33.out BK118.out (by decide)) (fun _ hk=>hk.2) (.string ((rd_T125 l1 (rd (rd_L6 t107 x35_2) 0)).f1))) (fun _ hk=>hk.2) (.int .i64 (wrap64 (t117+((rd_T125 l1 (rd (rd_L6 t107 x35_2) 0)).f2))))) (fun _ hk=>hk.2) (.int .i64 a2)) (fun _ h_=>h_.1))):P:=h
theorem zck {P:Prop} (h:P:=by (with_reducible repeat (first|apply Kd.R_alloc|apply Kd.R_drewN|apply Kd.R_drew));exact HO_0.out):P:=h
theorem zcl {P:Prop} (h:P:=by (with_reducible repeat (first|apply Kd.S_alloc|apply Kd.S_drewN|apply Kd.S_drew));exact Kd.S_mono (Kd.S_far (p:=⟨gb104,2,none⟩) (Kd.S_far (p:=⟨gb104,1,none⟩) (Kd.S_far (p:=⟨gb104,0,none⟩) (Kd.S_types HO_5.out BK104.out (by decide)) (fun _ hk=>hk.2) (.string ((rd_T127 l0 x19_2).f0))) (fun _ hk=>hk.2) (.int .i64 ((rd_T127 l0 x19_2).f1))) (fun _ hk=>hk.2) (.int .i64 ((rd_T127 l0 x19_2).f2))) (fun _ hk=>trivial)):P:=h
theorem zcm {P:Prop} (h:P:=by (with_reducible repeat (first|apply Kd.S_alloc|apply Kd.S_drewN|apply Kd.S_drew));exact (Kd.S_mono (Kd.S_far (p:=⟨gb105,2,none⟩) (Kd.S_far (p:=⟨gb105,1,none⟩) (Kd.S_far (p:=⟨gb105,0,none⟩) (Kd.S_types HO_5.out BK105.out (by decide)) (fun _ hk=>hk.2) (.string ((rd_T127 l0 x7_2).f0))) (fun _ hk=>hk.2) (.int .i64 ((rd_T127 l0 x7_2).f1))) (fun _ hk=>hk.2) (.int .i64 ((rd_T127 l0 x7_2).f2))) (fun _ h_=>h_.1))):P:=h
theorem zcn {P:Prop} (h:P:=by (with_reducible repeat (first|apply Kd.R_alloc|apply Kd.R_drewN|apply Kd.R_drew));exact HO_row34.out):P:=h
theorem zco {P:Prop} (h:P:=by exact Kd.C_below HR0.out (by repeat (first|(with_reducible first|exact HB.out|apply below_alloc|apply pw_below_drewN|apply below_drew1|refine below_set ?_ GE105.out)|exact HB.out))):P:=h
theorem zcp {P:Prop} (h:P:=by repeat (first|(with_reducible first|exact HB.out|apply below_alloc|apply pw_below_drewN|apply below_drew1|refine below_set ?_ GE116.out|refine below_set ?_ GE120.out|refine below_set ?_ GE121.out)|exact HB.out)):P:=h
theorem zcq {P:Prop} (h:P:=by simp only [putAll,Act.put,List.setIfInBounds_toArray,List.set_cons_zero,List.set_cons_succ]):P:=h
theorem zcr {P:Prop} (h:P:=by exact Kd.C_below HR0.out (by repeat (first|(with_reducible first|exact HB.out|apply below_alloc|apply pw_below_drewN|apply below_drew1)|exact HB.out))):P:=h
theorem zcs {P:Prop} (h:P:=by exact (below_size (by repeat (first|(with_reducible first|exact HB.out|apply below_alloc|apply pw_below_drewN|apply below_drew1|refine below_set ?_ GE101.out)|exact HB.out)))):P:=h
theorem zct {P:Prop} (h:P:=by first|exact Kd.R_nil _ _ _ _ _|exact Kd.N_nil _ _ _ _ _|exact Kd.V_nil _ _ _ _ _|exact Kd.Q_nil _ _ _ _ _|exact Kd.S_nil _ _ _ _ _):P:=h
theorem zcu {P:Prop} (h:P:=by exact Kd.C_below HR1.out (by repeat (first|(with_reducible first|exact HB.out|apply below_alloc|apply pw_below_drewN|apply below_drew1)|exact HB.out))):P:=h
theorem zcv {P:Prop} (h:P:=by rintro w' ⟨s0,s1,s2,s3,s4,s5,s6,s7⟩;go_simp;with_reducible rfl):P:=h
theorem zcw {P:Prop} (h:P:=by (with_reducible repeat (first|apply Kd.R_alloc|apply Kd.R_drewN|apply Kd.R_drew));exact HO_3.out):P:=h
theorem zcx {P:Prop} (h:P:=by (with_reducible repeat (first|apply Kd.R_alloc|apply Kd.R_drewN|apply Kd.R_drew));exact Kd.R_mono HL110_0.out (fun _ hk=>hk.2)):P:=h
theorem zcy {P:Prop} (h:P:=by (with_reducible repeat (first|apply Kd.R_alloc|apply Kd.R_drewN|apply Kd.R_drew));exact Kd.R_mono HO_8.out (fun _ hk=>hk.2)):P:=h
theorem zcz {P:Prop} (h:P:=by (with_reducible repeat (first|apply Kd.S_alloc|apply Kd.S_drewN|apply Kd.S_drew));exact HO_8.out):P:=h
theorem zda {P:Prop} (h:P:=by (with_reducible repeat (first|apply Kd.R_alloc|apply Kd.R_drewN|apply Kd.R_drew));exact HO_9.out):P:=h
theorem zdb {P:Prop} (h:P:=by exact Kd.M_row (Kd.R_mono (Kd.R_tight rfl (Kd.R_mono (ok':=fun k_=>((fun _=>True)) k_∧some k_≠(u5:Value).ownBlock) (Kd.R_apart' (HO112.out) (Kd.S_typed HO_5.out) (by decide)) (fun k_ hk=>⟨trivial,hk.2⟩))) (fun _ h_=>h_))):P:=h
theorem zdc {P:Prop} (h:P:=by (with_reducible repeat (first|refine blk_drewN ?_ _|refine blk_drew ?_|refine blk_alloc ?_ _));exact BK104.out):P:=h
theorem zdd {P:Prop} (h:P:=by simp):P:=h
theorem zde {P:Prop} (h:P:=by (with_reducible repeat (first|apply Kd.R_alloc|apply Kd.R_drewN|apply Kd.R_drew));exact HL113_0.out):P:=h
theorem zdf {P:Prop} (h:P:=by (with_reducible repeat (first|apply Kd.S_alloc|apply Kd.S_drewN|apply Kd.S_drew));exact Kd.S_mono HO_5.out (fun k_ hk=>⟨trivial,fun e_=>hk.2 e_⟩)):P:=h
theorem zdg {P:Prop} (h:P:=by repeat (first|(with_reducible first|exact HB.out|apply below_alloc|apply pw_below_drewN|apply below_drew1|refine below_set ?_ GE116.out|refine below_set ?_ GE115.out)|exact HB.out)):P:=h
theorem zdh {P:Prop} (h:P:=by repeat (first|(with_reducible exact HR113_0.out)|(with_reducible refine Kd.C_alloc ?_ _)|(with_reducible refine Kd.C_drewN ?_ _)|(with_reducible refine Kd.C_drew ?_)|exact HR113_0.out)):P:=h
theorem zdi {P:Prop} (h:P:=by repeat (first|(with_reducible exact HR117_0.out)|(with_reducible refine Kd.C_alloc ?_ _)|(with_reducible refine Kd.C_drewN ?_ _)|(with_reducible refine Kd.C_drew ?_)|exact HR117_0.out)):P:=h
theorem zdj {P:Prop} (h:P:=by exact (below_size (by repeat (first|(with_reducible first|exact HB.out|apply below_alloc|apply pw_below_drewN|apply below_drew1|refine below_set ?_ GE105.out)|exact HB.out)))):P:=h
theorem zdk {P:Prop} (h:P:=by rw [hw];exact (by repeat (first|(with_reducible first|exact HB.out|apply below_alloc|apply pw_below_drewN|apply below_drew1|refine below_set ?_ GE116.out)|exact HB.out))):P:=h
theorem zdl {P:Prop} (h:P:=by exact (Kd.R_reads' (by (with_reducible repeat (first|apply Kd.R_alloc|apply Kd.R_drewN|apply Kd.R_drew));exact HO_row24.out)).2.2):P:=h
theorem zdm {P:Prop} (h:P:=by (with_reducible repeat (first|apply Kd.R_alloc|apply Kd.R_drewN|apply Kd.R_drew));exact HO_row52.out):P:=h
theorem zdn {P:Prop} (h:P:=by have:=HK1.out;omega):P:=h
theorem zdo {P:Prop} (h:P:=by exact (Reps.one (show Kd.M (Kd.int .i64) _ _ _ x6_1 [.int .i64 x6_1] from rfl) (Reps.one (show Kd.M (Kd.int .i64) _ _ _ x7_2 [.int .i64 x7_2] from rfl) (Reps.none _ _)))):P:=h
theorem zdp {P:Prop} (h:P:=by (with_reducible repeat (first|apply Kd.R_alloc|apply Kd.R_drewN|apply Kd.R_drew));exact HO_row55.out):P:=h
end Go.Proofs.Ytocegmkifmdlcaa.P

namespace Go.Proofs.Ytocegmkifmdlcaa.P
open Go.RowKit Go.Proofs.YtocegmkifmdlcaaW.PrintWords Go.Proofs.YtocegmkifmdlcaaW.PrintLast Go.Proofs.YtocegmkifmdlcaaW.PrintMore
attribute [local go_sem] max2_int min2_int max_two min_two max_three min_three max_four min_four str_leq str_gtr str_geq
set_option linter.unusedVariables false
set_option linter.unusedSimpArgs false
def laws_szTurn.f (a0_0:ByteArray) (a0_1:Int) (a0_2:Int) (a1:Int):Option (Int):=if (wrap64 (a1 - (a0_0.size:Int)))<0 then (some (-1)) else (some (wrap64 (a1 - (a0_0.size:Int))))
set_option maxHeartbeats 8000000 in
set_option maxRecDepth 100000 in
theorem laws_szTurn.calls (a0_0:ByteArray) (a0_1:Int) (a0_2:Int) (a1:Int) (r:Int) (w:World) (h:laws_szTurn.f a0_0 a0_1 a0_2 a1=some r) :
 Calls Try.prog 83 #[.agg #[.string a0_0,.int .i64 a0_1,.int .i64 a0_2],.int .i64 a1] w fun e w'=>e = .returned (.int .i64 r)∧Below w.heap.size w w':=by
 have hu116:=Try.underlying116
 have HB:=Aside0.mk (Below.refl w.heap.size w)
 have H:(if (wrap64 (a1 - (a0_0.size:Int)))<0 then (some (-1)) else (some (wrap64 (a1 - (a0_0.size:Int)))))=some r:=h
 clear h
 by_cases c3:(wrap64 (a1 - (a0_0.size:Int)))<0
 ·rw [if_pos c3] at H
  have c3b0:decide ((wrap64 (a1 - (a0_0.size:Int)))<0)=true:=decide_eq_true c3
  clear c3
  obtain rfl:=Option.some.inj H
  go_enter Try.func83,Try.ntmps83
  go_wp2_with (first|((with_reducible refine gate_dst (N:=2) rfl ?_);refine box_event ?hg (N:=2) ?hd (cs:=#[.string a0_0,.int .i64 a0_1,.int .i64 a0_2]) (t:=116) ?hr ?_;(case hd=>rfl);(case hg=>rfl);(case hr=>exact zt);intro gb101 hg w4 hbox hb;have n0_:=Aside0.mk (below_step za hb);have n1_:=Aside0.mk (hbox);have n2_:=Aside0.mk ((by rw [hg];exact (below_size za):w.heap.size≤gb101));have n3_:=Aside0.mk ((by rw [hg];exact (below_size za):w.heap.size≤gb101));clear HB;have HB:=n0_;have BK101:=n1_;have GW101:=n2_;have GE101:=n3_;clear n0_ n1_ n2_ n3_;clear hb hbox hg;have hcz5_0:w4.cell? ⟨gb101,0,none⟩=some (.string a0_0):=(blk_cell BK101.out 0).trans rfl;have hcz5_1:w4.cell? ⟨gb101,1,none⟩=some (.int .i64 a0_1):=(blk_cell BK101.out 1).trans rfl;have hcz5_2:w4.cell? ⟨gb101,2,none⟩=some (.int .i64 a0_2):=(blk_cell BK101.out 2).trans rfl;have hfz5_0:=blk_frozen BK101.out 0;have hfz5_1:=blk_frozen BK101.out 1;have hfz5_2:=blk_frozen BK101.out 2))
  go_ret
  exact ⟨zk,zd⟩
 ·rw [if_neg c3] at H
  have c3b0:decide ((wrap64 (a1 - (a0_0.size:Int)))<0)=false:=decide_eq_false c3
  clear c3
  obtain rfl:=Option.some.inj H
  go_enter Try.func83,Try.ntmps83
  go_wp2_with (first|((with_reducible refine gate_dst (N:=2) rfl ?_);refine box_event ?hg (N:=2) ?hd (cs:=#[.string a0_0,.int .i64 a0_1,.int .i64 a0_2]) (t:=116) ?hr ?_;(case hd=>rfl);(case hg=>rfl);(case hr=>exact zt);intro gb101 hg w6 hbox hb;have n0_:=Aside0.mk (below_step za hb);have n1_:=Aside0.mk (hbox);have n2_:=Aside0.mk ((by rw [hg];exact (below_size za):w.heap.size≤gb101));have n3_:=Aside0.mk ((by rw [hg];exact (below_size za):w.heap.size≤gb101));clear HB;have HB:=n0_;have BK101:=n1_;have GW101:=n2_;have GE101:=n3_;clear n0_ n1_ n2_ n3_;clear hb hbox hg;have hcz7_0:w6.cell? ⟨gb101,0,none⟩=some (.string a0_0):=(blk_cell BK101.out 0).trans rfl;have hcz7_1:w6.cell? ⟨gb101,1,none⟩=some (.int .i64 a0_1):=(blk_cell BK101.out 1).trans rfl;have hcz7_2:w6.cell? ⟨gb101,2,none⟩=some (.int .i64 a0_2):=(blk_cell BK101.out 2).trans rfl;have hfz7_0:=blk_frozen BK101.out 0;have hfz7_1:=blk_frozen BK101.out 1;have hfz7_2:=blk_frozen BK101.out 2))
  go_ret
  exact ⟨zk,zd⟩

def laws_szTurnS.l0:Nat→List (S116)→Int→Int→Option (Int)
 | 0,_,_,_=>none
 | k+1,x0,x1,x5=>if x5<(x0.length:Int) then (if 0≤x5 then ((laws_szTurn.f ((rd_T116 x0 x5).f0) ((rd_T116 x0 x5).f1) ((rd_T116 x0 x5).f2) x1).bind fun t102=>(if t102<0 then (some (-1)) else (laws_szTurnS.l0 k x0 t102 (wrap64 (x5+1))))) else (none)) else (some x1)
def laws_szTurnS.f (k:Nat) (l0:List (S116)) (a1:Int):Option (Int):=if (wrap64 (a1 - (l0.length:Int)))<0 then (some (-1)) else (laws_szTurnS.l0 k l0 (wrap64 (a1 - (l0.length:Int))) 0)
theorem laws_szTurnS.mono_l:∀k,(∀y0 y1 y2,LeO (laws_szTurnS.l0 k y0 y1 y2) (laws_szTurnS.l0 (k+1) y0 y1 y2))
 | 0=>fun _ _ _ r h=>by simp [laws_szTurnS.l0] at h
 | k+1=>by
  have ih0:=laws_szTurnS.mono_l k
  ·intro y0 y1 y2
   unfold laws_szTurnS.l0
   repeat' first
   | (with_reducible exact ih0 _ _ _)
   | (with_reducible exact LeO.refl _)
   | (with_reducible exact LeO.none _)
   | (with_reducible refine LeO.ite ?_ ?_)
   | (with_reducible refine LeO.bind ?_ (fun _=>?_))
   | exact ih0 _ _ _
   | exact LeO.none _
   | refine LeO.ite ?_ ?_
   | refine LeO.bind ?_ (fun _=>?_)
theorem laws_szTurnS.mono:∀a0 a1 k,LeO (laws_szTurnS.f k a0 a1) (laws_szTurnS.f (k+1) a0 a1):=by
 intro a0 a1 k
 have ih0:=laws_szTurnS.mono_l k
 unfold laws_szTurnS.f
 repeat' first
  | (with_reducible exact ih0 _ _ _)
  | (with_reducible exact LeO.refl _)
  | (with_reducible exact LeO.none _)
  | (with_reducible refine LeO.ite ?_ ?_)
  | (with_reducible refine LeO.bind ?_ (fun _=>?_))
  | exact ih0 _ _ _
  | exact LeO.none _
  | refine LeO.ite ?_ ?_
  | refine LeO.bind ?_ (fun _=>?_)
set_option maxHeartbeats 8000000 in
set_option maxRecDepth 100000 in
theorem laws_szTurnS.calls (k:Nat) (A0:Option Addr) (c0:Nat) (l0:List (S116)) (a1:Int) (r:Int) (w:World) (hr0:Kd.C k116 w A0 l0.length l0) (hc0:l0.length≤c0) (h:laws_szTurnS.f k l0 a1=some r) :
 Calls Try.prog 36 #[.slice A0 l0.length c0,.int .i64 a1] w fun e w'=>e = .returned (.int .i64 r)∧Below w.heap.size w w':=by
 have hu116:=Try.underlying116
 have HR0:=Aside0.mk hr0
 have HC0:=Aside0.mk hc0
 clear hr0 hc0
 have HB:=Aside0.mk (Below.refl w.heap.size w)
 have H:(if (wrap64 (a1 - (l0.length:Int)))<0 then (some (-1)) else (laws_szTurnS.l0 k l0 (wrap64 (a1 - (l0.length:Int))) 0))=some r:=h
 clear h
 by_cases c3:(wrap64 (a1 - (l0.length:Int)))<0
 ·rw [if_pos c3] at H
  have c3b0:decide ((wrap64 (a1 - (l0.length:Int)))<0)=true:=decide_eq_true c3
  clear c3
  obtain rfl:=Option.some.inj H
  go_enter Try.func36,Try.ntmps36
  go_wp2
  go_ret
  exact ⟨zk,za⟩
 ·rw [if_neg c3] at H
  have c3b0:decide ((wrap64 (a1 - (l0.length:Int)))<0)=false:=decide_eq_false c3
  clear c3
  have H':=Aside0.mk H
  clear H
  go_enter Try.func36,Try.ntmps36
  go_wp2
  go_loopg [1,5] k (fun kq v1 v5 w'=>∃(x1_1:Int) (x5_1:Int),v1 = .int .i64 x1_1∧v5 = .int .i64 x5_1∧Aside0 (laws_szTurnS.l0 kq l0 x1_1 x5_1=some r)∧Aside0 (kq≤k)∧Aside0 (Below w.heap.size w w'))
  case atStart=>exact ⟨(wrap64 (a1 - (l0.length:Int))),(0),zm,zm,H',⟨Nat.le_refl _⟩,⟨za⟩⟩
  case round=>
   clear H'
   try clear p2
   try clear c3
   try clear c3b0
   obtain ⟨x1_1,x5_1,rfl,rfl,HA,HK1,HB⟩:=hrel
   cases gk with
   | zero=>exact absurd HA.out (by simp [laws_szTurnS.l0])
   | succ k1=>
    have H:=HA.out
    clear HA
    simp only [laws_szTurnS.l0] at H
    by_cases c4:x5_1<(l0.length:Int)
    ·rw [if_pos c4] at H
     have c4b0:decide (x5_1<(l0.length:Int))=true:=decide_eq_true c4
     clear c4
     by_cases c5:0≤x5_1
     ·rw [if_pos c5] at H
      have c5b0:decide (0≤x5_1)=true:=decide_eq_true c5
      clear c5
      replace H:=Option.bind_eq_some_iff.mp H
      obtain ⟨t102,A60,H⟩:=H
      replace H:(if t102<0 then (some (-1)) else (laws_szTurnS.l0 k1 l0 t102 (wrap64 (x5_1+1))))=some r:=H
      have A6:=Aside0.mk A60
      clear A60
      by_cases c7:t102<0
      ·rw [if_pos c7] at H
       have c7b0:decide (t102<0)=true:=decide_eq_true c7
       clear c7
       obtain rfl:=Option.some.inj H
       have p101:0≤(x5_1:Int):=of_decide_eq_true zb
       have q101:x5_1<(l0.length:Int):=of_decide_eq_true zb
       obtain ⟨ad101,e101,hx101_0,hx101_1,hx101_2⟩:=at_T116 HR0.out x5_1 p101 q101
       cases e101
       replace hx101_0:=(HB.out.cell (World.block_lt_of_cell? w _ hx101_0)).trans hx101_0
       replace hx101_1:=(HB.out.cell (World.block_lt_of_cell? w _ hx101_1)).trans hx101_1
       replace hx101_2:=(HB.out.cell (World.block_lt_of_cell? w _ hx101_2)).trans hx101_2
       replace p101:=eq_true p101
       replace q101:=eq_true q101
       go_wp2_with (first|((with_reducible refine gate_callee (f:=83) rfl ?_);refine goesL_ (some 23) rfl rfl Try.func83 zbk rfl #[.agg #[.string ((rd_T116 l0 x5_1).f0),.int .i64 ((rd_T116 l0 x5_1).f1),.int .i64 ((rd_T116 l0 x5_1).f2)],.int .i64 x1_1] rfl zc ?_;(with_reducible refine (laws_szTurn.calls ((rd_T116 l0 x5_1).f0) ((rd_T116 l0 x5_1).f1) ((rd_T116 l0 x5_1).f2) x1_1 t102 _ A6.out).mono ?_);rintro e w8 ⟨rfl,hb⟩;refine ⟨_,rfl,?_⟩;replace HB:=Aside0.mk (below_step za hb);(try clear hb);(try clear hb2);(try clear hk);(try clear hi)))
       go_ret
       exact ⟨zk,za⟩
      ·rw [if_neg c7] at H
       have c7b0:decide (t102<0)=false:=decide_eq_false c7
       clear c7
       have H':=Aside0.mk H
       clear H
       have p101:0≤(x5_1:Int):=of_decide_eq_true zb
       have q101:x5_1<(l0.length:Int):=of_decide_eq_true zb
       obtain ⟨ad101,e101,hx101_0,hx101_1,hx101_2⟩:=at_T116 HR0.out x5_1 p101 q101
       cases e101
       replace hx101_0:=(HB.out.cell (World.block_lt_of_cell? w _ hx101_0)).trans hx101_0
       replace hx101_1:=(HB.out.cell (World.block_lt_of_cell? w _ hx101_1)).trans hx101_1
       replace hx101_2:=(HB.out.cell (World.block_lt_of_cell? w _ hx101_2)).trans hx101_2
       replace p101:=eq_true p101
       replace q101:=eq_true q101
       go_wp2_with (first|((with_reducible refine gate_callee (f:=83) rfl ?_);refine goesL_ (some 23) rfl rfl Try.func83 zbk rfl #[.agg #[.string ((rd_T116 l0 x5_1).f0),.int .i64 ((rd_T116 l0 x5_1).f1),.int .i64 ((rd_T116 l0 x5_1).f2)],.int .i64 x1_1] rfl zc ?_;(with_reducible refine (laws_szTurn.calls ((rd_T116 l0 x5_1).f0) ((rd_T116 l0 x5_1).f1) ((rd_T116 l0 x5_1).f2) x1_1 t102 _ A6.out).mono ?_);rintro e w9 ⟨rfl,hb⟩;refine ⟨_,rfl,?_⟩;replace HB:=Aside0.mk (below_step za hb);(try clear hb);(try clear hb2);(try clear hk);(try clear hi)))
       go_roundg k1
       case measure=>have:=HK1.out;omega
       case rel=>exact ⟨(t102),(wrap64 (x5_1+1)),zm,zm,H',⟨zdn⟩,⟨za⟩⟩
     ·rw [if_neg c5] at H
      exact absurd H zdd
    ·rw [if_neg c4] at H
     have c4b0:decide (x5_1<(l0.length:Int))=false:=decide_eq_false c4
     clear c4
     obtain rfl:=Option.some.inj H
     go_wp2
     go_ret
     exact ⟨zk,za⟩

def laws_szAnswer.f (a0_0:ByteArray) (a0_1:ByteArray) (a0_2:Int) (a1:Int):Option (Int):=if (wrap64 (a1 - (a0_0.size:Int)))<0 then (some (-1)) else (if (wrap64 ((wrap64 (a1 - (a0_0.size:Int))) - (a0_1.size:Int)))<0 then (some (-1)) else (some (wrap64 ((wrap64 (a1 - (a0_0.size:Int))) - (a0_1.size:Int)))))
set_option maxHeartbeats 8000000 in
set_option maxRecDepth 100000 in
theorem laws_szAnswer.calls (a0_0:ByteArray) (a0_1:ByteArray) (a0_2:Int) (a1:Int) (r:Int) (w:World) (h:laws_szAnswer.f a0_0 a0_1 a0_2 a1=some r) :
 Calls Try.prog 84 #[.agg #[.string a0_0,.string a0_1,.int .i64 a0_2],.int .i64 a1] w fun e w'=>e = .returned (.int .i64 r)∧Below w.heap.size w w':=by
 have hu119:=Try.underlying119
 have HB:=Aside0.mk (Below.refl w.heap.size w)
 have H:(if (wrap64 (a1 - (a0_0.size:Int)))<0 then (some (-1)) else (if (wrap64 ((wrap64 (a1 - (a0_0.size:Int))) - (a0_1.size:Int)))<0 then (some (-1)) else (some (wrap64 ((wrap64 (a1 - (a0_0.size:Int))) - (a0_1.size:Int))))))=some r:=h
 clear h
 by_cases c3:(wrap64 (a1 - (a0_0.size:Int)))<0
 ·rw [if_pos c3] at H
  have c3b0:decide ((wrap64 (a1 - (a0_0.size:Int)))<0)=true:=decide_eq_true c3
  clear c3
  obtain rfl:=Option.some.inj H
  go_enter Try.func84,Try.ntmps84
  go_wp2_with (first|((with_reducible refine gate_dst (N:=2) rfl ?_);refine box_event ?hg (N:=2) ?hd (cs:=#[.string a0_0,.string a0_1,.int .i64 a0_2]) (t:=119) ?hr ?_;(case hd=>rfl);(case hg=>rfl);(case hr=>exact zt);intro gb101 hg w4 hbox hb;have n0_:=Aside0.mk (below_step za hb);have n1_:=Aside0.mk (hbox);have n2_:=Aside0.mk ((by rw [hg];exact (below_size za):w.heap.size≤gb101));have n3_:=Aside0.mk ((by rw [hg];exact (below_size za):w.heap.size≤gb101));clear HB;have HB:=n0_;have BK101:=n1_;have GW101:=n2_;have GE101:=n3_;clear n0_ n1_ n2_ n3_;clear hb hbox hg;have hcz5_0:w4.cell? ⟨gb101,0,none⟩=some (.string a0_0):=(blk_cell BK101.out 0).trans rfl;have hcz5_1:w4.cell? ⟨gb101,1,none⟩=some (.string a0_1):=(blk_cell BK101.out 1).trans rfl;have hcz5_2:w4.cell? ⟨gb101,2,none⟩=some (.int .i64 a0_2):=(blk_cell BK101.out 2).trans rfl;have hfz5_0:=blk_frozen BK101.out 0;have hfz5_1:=blk_frozen BK101.out 1;have hfz5_2:=blk_frozen BK101.out 2))
  go_ret
  exact ⟨zk,zd⟩
 ·rw [if_neg c3] at H
  have c3b0:decide ((wrap64 (a1 - (a0_0.size:Int)))<0)=false:=decide_eq_false c3
  clear c3
  by_cases c6:(wrap64 ((wrap64 (a1 - (a0_0.size:Int))) - (a0_1.size:Int)))<0
  ·rw [if_pos c6] at H
   have c6b0:decide ((wrap64 ((wrap64 (a1 - (a0_0.size:Int))) - (a0_1.size:Int)))<0)=true:=decide_eq_true c6
   clear c6
   obtain rfl:=Option.some.inj H
   go_enter Try.func84,Try.ntmps84
   go_wp2_with (first|((with_reducible refine gate_dst (N:=2) rfl ?_);refine box_event ?hg (N:=2) ?hd (cs:=#[.string a0_0,.string a0_1,.int .i64 a0_2]) (t:=119) ?hr ?_;(case hd=>rfl);(case hg=>rfl);(case hr=>exact zt);intro gb101 hg w7 hbox hb;have n0_:=Aside0.mk (below_step za hb);have n1_:=Aside0.mk (hbox);have n2_:=Aside0.mk ((by rw [hg];exact (below_size za):w.heap.size≤gb101));have n3_:=Aside0.mk ((by rw [hg];exact (below_size za):w.heap.size≤gb101));clear HB;have HB:=n0_;have BK101:=n1_;have GW101:=n2_;have GE101:=n3_;clear n0_ n1_ n2_ n3_;clear hb hbox hg;have hcz8_0:w7.cell? ⟨gb101,0,none⟩=some (.string a0_0):=(blk_cell BK101.out 0).trans rfl;have hcz8_1:w7.cell? ⟨gb101,1,none⟩=some (.string a0_1):=(blk_cell BK101.out 1).trans rfl;have hcz8_2:w7.cell? ⟨gb101,2,none⟩=some (.int .i64 a0_2):=(blk_cell BK101.out 2).trans rfl;have hfz8_0:=blk_frozen BK101.out 0;have hfz8_1:=blk_frozen BK101.out 1;have hfz8_2:=blk_frozen BK101.out 2))
   go_ret
   exact ⟨zk,zd⟩
  ·rw [if_neg c6] at H
   have c6b0:decide ((wrap64 ((wrap64 (a1 - (a0_0.size:Int))) - (a0_1.size:Int)))<0)=false:=decide_eq_false c6
   clear c6
   obtain rfl:=Option.some.inj H
   go_enter Try.func84,Try.ntmps84
   go_wp2_with (first|((with_reducible refine gate_dst (N:=2) rfl ?_);refine box_event ?hg (N:=2) ?hd (cs:=#[.string a0_0,.string a0_1,.int .i64 a0_2]) (t:=119) ?hr ?_;(case hd=>rfl);(case hg=>rfl);(case hr=>exact zt);intro gb101 hg w9 hbox hb;have n0_:=Aside0.mk (below_step za hb);have n1_:=Aside0.mk (hbox);have n2_:=Aside0.mk ((by rw [hg];exact (below_size za):w.heap.size≤gb101));have n3_:=Aside0.mk ((by rw [hg];exact (below_size za):w.heap.size≤gb101));clear HB;have HB:=n0_;have BK101:=n1_;have GW101:=n2_;have GE101:=n3_;clear n0_ n1_ n2_ n3_;clear hb hbox hg;have hcz10_0:w9.cell? ⟨gb101,0,none⟩=some (.string a0_0):=(blk_cell BK101.out 0).trans rfl;have hcz10_1:w9.cell? ⟨gb101,1,none⟩=some (.string a0_1):=(blk_cell BK101.out 1).trans rfl;have hcz10_2:w9.cell? ⟨gb101,2,none⟩=some (.int .i64 a0_2):=(blk_cell BK101.out 2).trans rfl;have hfz10_0:=blk_frozen BK101.out 0;have hfz10_1:=blk_frozen BK101.out 1;have hfz10_2:=blk_frozen BK101.out 2))
   go_ret
   exact ⟨zk,zd⟩

def laws_szAnswerS.l0:Nat→List (S119)→Int→Int→Option (Int)
 | 0,_,_,_=>none
 | k+1,x0,x1,x5=>if x5<(x0.length:Int) then (if 0≤x5 then ((laws_szAnswer.f ((rd_T119 x0 x5).f0) ((rd_T119 x0 x5).f1) ((rd_T119 x0 x5).f2) x1).bind fun t102=>(if t102<0 then (some (-1)) else (laws_szAnswerS.l0 k x0 t102 (wrap64 (x5+1))))) else (none)) else (some x1)
def laws_szAnswerS.f (k:Nat) (l0:List (S119)) (a1:Int):Option (Int):=if (wrap64 (a1 - (l0.length:Int)))<0 then (some (-1)) else (laws_szAnswerS.l0 k l0 (wrap64 (a1 - (l0.length:Int))) 0)
theorem laws_szAnswerS.mono_l:∀k,(∀y0 y1 y2,LeO (laws_szAnswerS.l0 k y0 y1 y2) (laws_szAnswerS.l0 (k+1) y0 y1 y2))
 | 0=>fun _ _ _ r h=>by simp [laws_szAnswerS.l0] at h
 | k+1=>by
  have ih0:=laws_szAnswerS.mono_l k
  ·intro y0 y1 y2
   unfold laws_szAnswerS.l0
   repeat' first
   | (with_reducible exact ih0 _ _ _)
   | (with_reducible exact LeO.refl _)
   | (with_reducible exact LeO.none _)
   | (with_reducible refine LeO.ite ?_ ?_)
   | (with_reducible refine LeO.bind ?_ (fun _=>?_))
   | exact ih0 _ _ _
   | exact LeO.none _
   | refine LeO.ite ?_ ?_
   | refine LeO.bind ?_ (fun _=>?_)
theorem laws_szAnswerS.mono:∀a0 a1 k,LeO (laws_szAnswerS.f k a0 a1) (laws_szAnswerS.f (k+1) a0 a1):=by
 intro a0 a1 k
 have ih0:=laws_szAnswerS.mono_l k
 unfold laws_szAnswerS.f
 repeat' first
  | (with_reducible exact ih0 _ _ _)
  | (with_reducible exact LeO.refl _)
  | (with_reducible exact LeO.none _)
  | (with_reducible refine LeO.ite ?_ ?_)
  | (with_reducible refine LeO.bind ?_ (fun _=>?_))
  | exact ih0 _ _ _
  | exact LeO.none _
  | refine LeO.ite ?_ ?_
  | refine LeO.bind ?_ (fun _=>?_)
set_option maxHeartbeats 8000000 in
set_option maxRecDepth 100000 in
theorem laws_szAnswerS.calls (k:Nat) (A0:Option Addr) (c0:Nat) (l0:List (S119)) (a1:Int) (r:Int) (w:World) (hr0:Kd.C k119 w A0 l0.length l0) (hc0:l0.length≤c0) (h:laws_szAnswerS.f k l0 a1=some r) :
 Calls Try.prog 37 #[.slice A0 l0.length c0,.int .i64 a1] w fun e w'=>e = .returned (.int .i64 r)∧Below w.heap.size w w':=by
 have hu119:=Try.underlying119
 have HR0:=Aside0.mk hr0
 have HC0:=Aside0.mk hc0
 clear hr0 hc0
 have HB:=Aside0.mk (Below.refl w.heap.size w)
 have H:(if (wrap64 (a1 - (l0.length:Int)))<0 then (some (-1)) else (laws_szAnswerS.l0 k l0 (wrap64 (a1 - (l0.length:Int))) 0))=some r:=h
 clear h
 by_cases c3:(wrap64 (a1 - (l0.length:Int)))<0
 ·rw [if_pos c3] at H
  have c3b0:decide ((wrap64 (a1 - (l0.length:Int)))<0)=true:=decide_eq_true c3
  clear c3
  obtain rfl:=Option.some.inj H
  go_enter Try.func37,Try.ntmps37
  go_wp2
  go_ret
  exact ⟨zk,za⟩
 ·rw [if_neg c3] at H
  have c3b0:decide ((wrap64 (a1 - (l0.length:Int)))<0)=false:=decide_eq_false c3
  clear c3
  have H':=Aside0.mk H
  clear H
  go_enter Try.func37,Try.ntmps37
  go_wp2
  go_loopg [1,5] k (fun kq v1 v5 w'=>∃(x1_1:Int) (x5_1:Int),v1 = .int .i64 x1_1∧v5 = .int .i64 x5_1∧Aside0 (laws_szAnswerS.l0 kq l0 x1_1 x5_1=some r)∧Aside0 (kq≤k)∧Aside0 (Below w.heap.size w w'))
  case atStart=>exact ⟨(wrap64 (a1 - (l0.length:Int))),(0),zm,zm,H',⟨Nat.le_refl _⟩,⟨za⟩⟩
  case round=>
   clear H'
   try clear p2
   try clear c3
   try clear c3b0
   obtain ⟨x1_1,x5_1,rfl,rfl,HA,HK1,HB⟩:=hrel
   cases gk with
   | zero=>exact absurd HA.out (by simp [laws_szAnswerS.l0])
   | succ k1=>
    have H:=HA.out
    clear HA
    simp only [laws_szAnswerS.l0] at H
    by_cases c4:x5_1<(l0.length:Int)
    ·rw [if_pos c4] at H
     have c4b0:decide (x5_1<(l0.length:Int))=true:=decide_eq_true c4
     clear c4
     by_cases c5:0≤x5_1
     ·rw [if_pos c5] at H
      have c5b0:decide (0≤x5_1)=true:=decide_eq_true c5
      clear c5
      replace H:=Option.bind_eq_some_iff.mp H
      obtain ⟨t102,A60,H⟩:=H
      replace H:(if t102<0 then (some (-1)) else (laws_szAnswerS.l0 k1 l0 t102 (wrap64 (x5_1+1))))=some r:=H
      have A6:=Aside0.mk A60
      clear A60
      by_cases c7:t102<0
      ·rw [if_pos c7] at H
       have c7b0:decide (t102<0)=true:=decide_eq_true c7
       clear c7
       obtain rfl:=Option.some.inj H
       have p101:0≤(x5_1:Int):=of_decide_eq_true zb
       have q101:x5_1<(l0.length:Int):=of_decide_eq_true zb
       obtain ⟨ad101,e101,hx101_0,hx101_1,hx101_2⟩:=at_T119 HR0.out x5_1 p101 q101
       cases e101
       replace hx101_0:=(HB.out.cell (World.block_lt_of_cell? w _ hx101_0)).trans hx101_0
       replace hx101_1:=(HB.out.cell (World.block_lt_of_cell? w _ hx101_1)).trans hx101_1
       replace hx101_2:=(HB.out.cell (World.block_lt_of_cell? w _ hx101_2)).trans hx101_2
       replace p101:=eq_true p101
       replace q101:=eq_true q101
       go_wp2_with (first|((with_reducible refine gate_callee (f:=84) rfl ?_);refine goesL_ (some 23) rfl rfl Try.func84 zbk rfl #[.agg #[.string ((rd_T119 l0 x5_1).f0),.string ((rd_T119 l0 x5_1).f1),.int .i64 ((rd_T119 l0 x5_1).f2)],.int .i64 x1_1] rfl zc ?_;(with_reducible refine (laws_szAnswer.calls ((rd_T119 l0 x5_1).f0) ((rd_T119 l0 x5_1).f1) ((rd_T119 l0 x5_1).f2) x1_1 t102 _ A6.out).mono ?_);rintro e w8 ⟨rfl,hb⟩;refine ⟨_,rfl,?_⟩;replace HB:=Aside0.mk (below_step za hb);(try clear hb);(try clear hb2);(try clear hk);(try clear hi)))
       go_ret
       exact ⟨zk,za⟩
      ·rw [if_neg c7] at H
       have c7b0:decide (t102<0)=false:=decide_eq_false c7
       clear c7
       have H':=Aside0.mk H
       clear H
       have p101:0≤(x5_1:Int):=of_decide_eq_true zb
       have q101:x5_1<(l0.length:Int):=of_decide_eq_true zb
       obtain ⟨ad101,e101,hx101_0,hx101_1,hx101_2⟩:=at_T119 HR0.out x5_1 p101 q101
       cases e101
       replace hx101_0:=(HB.out.cell (World.block_lt_of_cell? w _ hx101_0)).trans hx101_0
       replace hx101_1:=(HB.out.cell (World.block_lt_of_cell? w _ hx101_1)).trans hx101_1
       replace hx101_2:=(HB.out.cell (World.block_lt_of_cell? w _ hx101_2)).trans hx101_2
       replace p101:=eq_true p101
       replace q101:=eq_true q101
       go_wp2_with (first|((with_reducible refine gate_callee (f:=84) rfl ?_);refine goesL_ (some 23) rfl rfl Try.func84 zbk rfl #[.agg #[.string ((rd_T119 l0 x5_1).f0),.string ((rd_T119 l0 x5_1).f1),.int .i64 ((rd_T119 l0 x5_1).f2)],.int .i64 x1_1] rfl zc ?_;(with_reducible refine (laws_szAnswer.calls ((rd_T119 l0 x5_1).f0) ((rd_T119 l0 x5_1).f1) ((rd_T119 l0 x5_1).f2) x1_1 t102 _ A6.out).mono ?_);rintro e w9 ⟨rfl,hb⟩;refine ⟨_,rfl,?_⟩;replace HB:=Aside0.mk (below_step za hb);(try clear hb);(try clear hb2);(try clear hk);(try clear hi)))
       go_roundg k1
       case measure=>have:=HK1.out;omega
       case rel=>exact ⟨(t102),(wrap64 (x5_1+1)),zm,zm,H',⟨zdn⟩,⟨za⟩⟩
     ·rw [if_neg c5] at H
      exact absurd H zdd
    ·rw [if_neg c4] at H
     have c4b0:decide (x5_1<(l0.length:Int))=false:=decide_eq_false c4
     clear c4
     obtain rfl:=Option.some.inj H
     go_wp2
     go_ret
     exact ⟨zk,za⟩

def spec_l00In.f (a0:Int) (a1:Int) (a2:Int):Option (Bool):=if a0≥a1 then (some (decide (a0≤a2))) else (some false)
set_option maxHeartbeats 8000000 in
set_option maxRecDepth 100000 in
theorem spec_l00In.calls (a0:Int) (a1:Int) (a2:Int) (r:Bool) (w:World) (h:spec_l00In.f a0 a1 a2=some r) :
 Calls Try.prog 87 #[.int .i64 a0,.int .i64 a1,.int .i64 a2] w fun e w'=>e = .returned (.bool r)∧Drawn0 w w':=by
 have H:(if a0≥a1 then (some (decide (a0≤a2))) else (some false))=some r:=h
 clear h
 by_cases c4:a0≥a1
 ·rw [if_pos c4] at H
  have c4b0:decide (a1≤a0)=true:=decide_eq_true c4
  clear c4
  obtain rfl:=Option.some.inj H
  go_enter Try.func87,Try.ntmps87
  go_wp2
  go_ret
  exact ⟨zm,zw⟩
 ·rw [if_neg c4] at H
  have c4b0:decide (a1≤a0)=false:=decide_eq_false c4
  clear c4
  obtain rfl:=Option.some.inj H
  go_enter Try.func87,Try.ntmps87
  go_wp2
  go_ret
  exact ⟨zm,zw⟩

def spec_l01Small.f (a0:Int):Option (Bool):=if a0≥97 then (some (decide (a0≤122))) else (some false)
set_option maxHeartbeats 8000000 in
set_option maxRecDepth 100000 in
theorem spec_l01Small.calls (a0:Int) (r:Bool) (w:World) (h:spec_l01Small.f a0=some r) :
 Calls Try.prog 150 #[.int .u8 a0] w fun e w'=>e = .returned (.bool r)∧Drawn0 w w':=by
 have H:(if a0≥97 then (some (decide (a0≤122))) else (some false))=some r:=h
 clear h
 by_cases c2:a0≥97
 ·rw [if_pos c2] at H
  have c2b0:decide (97≤a0)=true:=decide_eq_true c2
  clear c2
  obtain rfl:=Option.some.inj H
  go_enter Try.func150,Try.ntmps150
  go_wp2
  go_ret
  exact ⟨zm,zw⟩
 ·rw [if_neg c2] at H
  have c2b0:decide (97≤a0)=false:=decide_eq_false c2
  clear c2
  obtain rfl:=Option.some.inj H
  go_enter Try.func150,Try.ntmps150
  go_wp2
  go_ret
  exact ⟨zm,zw⟩

def spec_l01Digit.f (a0:Int):Option (Bool):=if a0≥48 then (some (decide (a0≤57))) else (some false)
set_option maxHeartbeats 8000000 in
set_option maxRecDepth 100000 in
theorem spec_l01Digit.calls (a0:Int) (r:Bool) (w:World) (h:spec_l01Digit.f a0=some r) :
 Calls Try.prog 151 #[.int .u8 a0] w fun e w'=>e = .returned (.bool r)∧Drawn0 w w':=by
 have H:(if a0≥48 then (some (decide (a0≤57))) else (some false))=some r:=h
 clear h
 by_cases c2:a0≥48
 ·rw [if_pos c2] at H
  have c2b0:decide (48≤a0)=true:=decide_eq_true c2
  clear c2
  obtain rfl:=Option.some.inj H
  go_enter Try.func151,Try.ntmps151
  go_wp2
  go_ret
  exact ⟨zm,zw⟩
 ·rw [if_neg c2] at H
  have c2b0:decide (48≤a0)=false:=decide_eq_false c2
  clear c2
  obtain rfl:=Option.some.inj H
  go_enter Try.func151,Try.ntmps151
  go_wp2
  go_ret
  exact ⟨zm,zw⟩

mutual
def spec_l01Name.j0:Nat→ByteArray→Bool→Option (Bool)
 | 0,_,_=>none
 | k+1,x0,x16=>if x16=true then (some false) else (spec_l01Name.l0 k x0 0)
def spec_l01Name.l0:Nat→ByteArray→Int→Option (Bool)
 | 0,_,_=>none
 | k+1,x0,x3=>if x3<(x0.size:Int) then (if 0≤x3 then ((spec_l01Small.f (bt x0 x3)).bind fun t102=>(if t102=true then (spec_l01Name.l0 k x0 (wrap64 (x3+1))) else ((spec_l01Digit.f (bt x0 x3)).bind fun t103=>(if t103=true then (spec_l01Name.l0 k x0 (wrap64 (x3+1))) else (some false))))) else (none)) else (some true)
end
def spec_l01Name.f (k:Nat) (a0:ByteArray):Option (Bool):=if a0.toList=([]:List UInt8) then (spec_l01Name.j0 k a0 true) else (if (a0.size:Int) > 10 then (spec_l01Name.j0 k a0 true) else (if 0<(a0.size:Int) then ((spec_l01Small.f (bt a0 0)).bind fun t101=>(spec_l01Name.j0 k a0 (!t101))) else (none)))
set_option maxHeartbeats 8000000 in
set_option maxRecDepth 100000 in
theorem spec_l01Name.calls (k:Nat) (a0:ByteArray) (r:Bool) (w:World) (h:spec_l01Name.f k a0=some r) :
 Calls Try.prog 131 #[.string a0] w fun e w'=>e = .returned (.bool r)∧Drawn0 w w':=by
 have H:(if a0.toList=([]:List UInt8) then (spec_l01Name.j0 k a0 true) else (if (a0.size:Int) > 10 then (spec_l01Name.j0 k a0 true) else (if 0<(a0.size:Int) then ((spec_l01Small.f (bt a0 0)).bind fun t101=>(spec_l01Name.j0 k a0 (!t101))) else (none))))=some r:=h
 clear h
 have HC2:=Aside0.mk H
 clear H
 go_enter Try.func131,Try.ntmps131
 go_upto_region 1 with (fail)
 go_cut [16] (fun v16 wc=>∃(kq:Nat) (x16_1:Bool),v16 = .bool x16_1∧Aside0 (spec_l01Name.j0 kq a0 x16_1=some r)∧Aside0 (kq≤k)∧Drawn0 w wc)
 case first=>
  have H:=HC2.out
  clear HC2
  by_cases c3:a0.toList=([]:List UInt8)
  ·rw [if_pos c3] at H
   have c3b0:(a0.toList == ([]:List UInt8))=true:=beq_iff_eq.mpr c3
   have c3b1:(a0.toList != ([]:List UInt8))=false:=bne_eq_false_iff_eq.mpr c3
   clear c3
   (first|rw [c3b0]|(simp only [i64_w,i32_w];rw [c3b0])|skip)
   have H':=Aside0.mk H
   clear H
   go_wp2
   go_meet
   case rel=>exact ⟨_,(true),zm,H',⟨by first|omega|exact Nat.le_refl _⟩,zw⟩
  ·rw [if_neg c3] at H
   have c3b0:(a0.toList == ([]:List UInt8))=false:=beq_eq_false_iff_ne.mpr c3
   have c3b1:(a0.toList != ([]:List UInt8))=true:=bne_iff_ne.mpr c3
   (first|rw [c3b0]|(simp only [i64_w,i32_w];rw [c3b0])|skip)
   by_cases c4:(a0.size:Int) > 10
   ·rw [if_pos c4] at H
    have c4b0:decide (10<(a0.size:Int))=true:=decide_eq_true c4
    have c4b1:decide (10<a0.size)=true:=decide_eq_true zbt
    clear c4
    have H':=Aside0.mk H
    clear H
    go_wp2
    go_meet
    case rel=>exact ⟨_,(true),zm,H',⟨by first|omega|exact Nat.le_refl _⟩,zw⟩
   ·rw [if_neg c4] at H
    have c4b0:decide (10<(a0.size:Int))=false:=decide_eq_false c4
    have c4b1:decide (10<a0.size)=false:=decide_eq_false zbt
    clear c4
    by_cases c5:0<(a0.size:Int)
    ·rw [if_pos c5] at H
     have c5b0:decide (0<(a0.size:Int))=true:=decide_eq_true c5
     have c5b1:decide (0<a0.size)=true:=decide_eq_true zbt
     clear c5
     replace H:=Option.bind_eq_some_iff.mp H
     obtain ⟨t101,A70,H⟩:=H
     replace H:(spec_l01Name.j0 k a0 (!t101))=some r:=H
     have A7:=Aside0.mk A70
     clear A70
     have H':=Aside0.mk H
     clear H
     have p6:0≤(0:Int):=zbt
     have q6:0<a0.size:=(by have:(0:Int)<(a0.size:Int):=of_decide_eq_true zb;omega)
     have hx6:∀h:0<a0.size,((a0[0]'h).toNat:Int)=bt a0 0:=bt_at a0 0
     clear p6
     have qi6:(0<(a0.size:Int))=True:=eq_true (of_decide_eq_true zb)
     replace q6:=eq_true q6
     go_wp2_with (first|(go_at_call 150;(with_reducible refine (spec_l01Small.calls (bt a0 0) t101 _ A7.out).mono ?_);rintro e w' ⟨rfl,⟨nd,rfl⟩⟩))
     go_meet
     case rel=>exact ⟨_,(!t101),zm,H',⟨by first|omega|exact Nat.le_refl _⟩,zw⟩
    ·rw [if_neg c5] at H
     exact absurd H zdd
 case rest=>
  clear HC2
  try clear c1
  try clear p2
  try clear c3
  try clear c3b0
  try clear c3b1
  try clear c4
  try clear c4b0
  try clear c4b1
  try clear c5
  try clear c5b0
  try clear c5b1
  try clear p6
  try clear q6
  try clear hx6
  try clear qi6
  try clear p6
  try clear q6
  obtain ⟨kq,x16_1,rfl,HA,HJ1,⟨mc1,rfl⟩⟩:=hcut
  cases kq with
  | zero=>exact absurd HA.out (by simp [spec_l01Name.j0])
  | succ kj1=>
   have H:=HA.out
   clear HA
   simp only [spec_l01Name.j0] at H
   by_cases c8:x16_1=true
   ·subst c8
    have H1:(some false)=some r:=by rw [if_pos rfl] at H;exact H
    clear H
    have H:=H1
    clear H1
    obtain rfl:=Option.some.inj H
    go_wp2
    go_ret
    exact ⟨zm,zw⟩
   ·replace c8:=Bool.eq_false_iff.mpr c8
    subst c8
    have H1:(spec_l01Name.l0 kj1 a0 0)=some r:=by rw [if_neg (show ¬ (false=true) by decide)] at H;exact H
    clear H
    have H:=H1
    clear H1
    have H':=Aside0.mk H
    clear H
    go_wp2
    go_loopg [3] kj1 (fun kq v3 w'=>∃(x3_2:Int),v3 = .int .i64 x3_2∧Aside0 (spec_l01Name.l0 kq a0 x3_2=some r)∧Aside0 (kq≤kj1)∧Drawn0 w w')
    case atStart=>exact ⟨(0),zm,H',⟨Nat.le_refl _⟩,zw⟩
    case round=>
     clear H'
     try clear c1
     try clear p2
     try clear c3
     try clear c3b0
     try clear c3b1
     try clear c4
     try clear c4b0
     try clear c4b1
     try clear c5
     try clear c5b0
     try clear c5b1
     try clear p6
     try clear q6
     try clear hx6
     try clear qi6
     try clear c8
     try clear p2
     try clear p6
     try clear q6
     obtain ⟨x3_2,rfl,HA,HK2,⟨m2,rfl⟩⟩:=hrel
     cases gk with
     | zero=>exact absurd HA.out (by simp [spec_l01Name.l0])
     | succ k2=>
      have H:=HA.out
      clear HA
      simp only [spec_l01Name.l0] at H
      by_cases c9:x3_2<(a0.size:Int)
      ·rw [if_pos c9] at H
       have c9b0:decide (x3_2<(a0.size:Int))=true:=decide_eq_true c9
       clear c9
       by_cases c10:0≤x3_2
       ·rw [if_pos c10] at H
        have c10b0:decide (0≤x3_2)=true:=decide_eq_true c10
        clear c10
        replace H:=Option.bind_eq_some_iff.mp H
        obtain ⟨t102,A120,H⟩:=H
        replace H:(if t102=true then (spec_l01Name.l0 k2 a0 (wrap64 (x3_2+1))) else ((spec_l01Digit.f (bt a0 x3_2)).bind fun t103=>(if t103=true then (spec_l01Name.l0 k2 a0 (wrap64 (x3_2+1))) else (some false))))=some r:=H
        have A12:=Aside0.mk A120
        clear A120
        by_cases c13:t102=true
        ·subst c13
         have H1:(spec_l01Name.l0 k2 a0 (wrap64 (x3_2+1)))=some r:=by rw [if_pos rfl] at H;exact H
         clear H
         have H:=H1
         clear H1
         have H':=Aside0.mk H
         clear H
         have p11:0≤(x3_2:Int):=of_decide_eq_true zb
         have q11:x3_2<(a0.size:Int):=of_decide_eq_true zb
         have hx11:=bt_at a0 x3_2
         replace p11:=eq_true p11
         replace q11:=eq_true q11
         go_wp2_with (first|((with_reducible refine gate_callee (f:=150) rfl ?_);refine goesL_ (some 26) rfl rfl Try.func150 zbk rfl #[.int .u8 (bt a0 x3_2)] rfl zc ?_;(with_reducible refine (spec_l01Small.calls (bt a0 x3_2) true _ A12.out).mono ?_);rintro e w' ⟨rfl,⟨nd,rfl⟩⟩;refine ⟨_,rfl,?_⟩))
         go_roundg k2
         case measure=>have:=HJ1.out;have:=HK2.out;omega
         case rel=>exact ⟨(wrap64 (x3_2+1)),zm,H',⟨by have:=HJ1.out;have:=HK2.out;omega⟩,zw⟩
        ·replace c13:=Bool.eq_false_iff.mpr c13
         subst c13
         have H1:((spec_l01Digit.f (bt a0 x3_2)).bind fun t103=>(if t103=true then (spec_l01Name.l0 k2 a0 (wrap64 (x3_2+1))) else (some false)))=some r:=by rw [if_neg (show ¬ (false=true) by decide)] at H;exact H
         clear H
         have H:=H1
         clear H1
         replace H:=Option.bind_eq_some_iff.mp H
         obtain ⟨t103,A150,H⟩:=H
         replace H:(if t103=true then (spec_l01Name.l0 k2 a0 (wrap64 (x3_2+1))) else (some false))=some r:=H
         have A15:=Aside0.mk A150
         clear A150
         by_cases c16:t103=true
         ·subst c16
          have H1:(spec_l01Name.l0 k2 a0 (wrap64 (x3_2+1)))=some r:=by rw [if_pos rfl] at H;exact H
          clear H
          have H:=H1
          clear H1
          have H':=Aside0.mk H
          clear H
          have p11:0≤(x3_2:Int):=of_decide_eq_true zb
          have q11:x3_2<(a0.size:Int):=of_decide_eq_true zb
          have hx11:=bt_at a0 x3_2
          replace p11:=eq_true p11
          replace q11:=eq_true q11
          go_wp2_with (first|((with_reducible refine gate_callee (f:=150) rfl ?_);refine goesL_ (some 26) rfl rfl Try.func150 zbk rfl #[.int .u8 (bt a0 x3_2)] rfl zc ?_;(with_reducible refine (spec_l01Small.calls (bt a0 x3_2) false _ A12.out).mono ?_);rintro e w' ⟨rfl,⟨nd,rfl⟩⟩;refine ⟨_,rfl,?_⟩;have p14:0≤(x3_2:Int):=of_decide_eq_true zb;have q14:x3_2<(a0.size:Int):=of_decide_eq_true zb;have hx14:=bt_at a0 x3_2;replace p14:=eq_true p14;replace q14:=eq_true q14)|(go_at_call 151;(with_reducible refine (spec_l01Digit.calls (bt a0 x3_2) true _ A15.out).mono ?_);rintro e w' ⟨rfl,⟨nd,rfl⟩⟩))
          go_roundg k2
          case measure=>have:=HJ1.out;have:=HK2.out;omega
          case rel=>exact ⟨(wrap64 (x3_2+1)),zm,H',⟨by have:=HJ1.out;have:=HK2.out;omega⟩,zw⟩
         ·replace c16:=Bool.eq_false_iff.mpr c16
          subst c16
          have H1:(some false)=some r:=by rw [if_neg (show ¬ (false=true) by decide)] at H;exact H
          clear H
          have H:=H1
          clear H1
          obtain rfl:=Option.some.inj H
          have p11:0≤(x3_2:Int):=of_decide_eq_true zb
          have q11:x3_2<(a0.size:Int):=of_decide_eq_true zb
          have hx11:=bt_at a0 x3_2
          replace p11:=eq_true p11
          replace q11:=eq_true q11
          go_wp2_with (first|((with_reducible refine gate_callee (f:=150) rfl ?_);refine goesL_ (some 26) rfl rfl Try.func150 zbk rfl #[.int .u8 (bt a0 x3_2)] rfl zc ?_;(with_reducible refine (spec_l01Small.calls (bt a0 x3_2) false _ A12.out).mono ?_);rintro e w' ⟨rfl,⟨nd,rfl⟩⟩;refine ⟨_,rfl,?_⟩;have p14:0≤(x3_2:Int):=of_decide_eq_true zb;have q14:x3_2<(a0.size:Int):=of_decide_eq_true zb;have hx14:=bt_at a0 x3_2;replace p14:=eq_true p14;replace q14:=eq_true q14)|(go_at_call 151;(with_reducible refine (spec_l01Digit.calls (bt a0 x3_2) false _ A15.out).mono ?_);rintro e w' ⟨rfl,⟨nd,rfl⟩⟩))
          go_ret
          exact ⟨zm,zw⟩
       ·rw [if_neg c10] at H
        exact absurd H zdd
      ·rw [if_neg c9] at H
       have c9b0:decide (x3_2<(a0.size:Int))=false:=decide_eq_false c9
       clear c9
       obtain rfl:=Option.some.inj H
       go_wp2
       go_ret
       exact ⟨zm,zw⟩

def spec_l23One_e.f (k:Nat) (l0:List (S127)) (a0i:Int):Option (Bool):=(spec_l01Name.f k ((rd_T127 l0 a0i).f0)).bind fun t102=>(if t102=true then ((spec_l00In.f ((rd_T127 l0 a0i).f1) 0 10000).bind fun t104=>(if t104=true then ((spec_l00In.f ((rd_T127 l0 a0i).f2) 1 10000).bind fun t106=>(some t106)) else (some false))) else (some false))
set_option maxHeartbeats 8000000 in
set_option maxRecDepth 100000 in
theorem spec_l23One_e.calls (k:Nat) (ad0:Addr) (l0:List (S127)) (a0i:Int) (r:Bool) (w:World) (hr0:Kd.C k127 w (some ad0) l0.length l0) (hp0:decide (0≤a0i)=true) (hq0:decide (a0i<(l0.length:Int))=true) (h:spec_l23One_e.f k l0 a0i=some r) :
 Calls Try.prog 89 #[.pointer (some (ad0.add (a0i.toNat*3)))] w fun e w'=>e = .returned (.bool r)∧Drawn0 w w':=by
 have HR0:=Aside0.mk hr0
 clear hr0
 have H:((spec_l01Name.f k ((rd_T127 l0 a0i).f0)).bind fun t102=>(if t102=true then ((spec_l00In.f ((rd_T127 l0 a0i).f1) 0 10000).bind fun t104=>(if t104=true then ((spec_l00In.f ((rd_T127 l0 a0i).f2) 1 10000).bind fun t106=>(some t106)) else (some false))) else (some false)))=some r:=h
 clear h
 replace H:=Option.bind_eq_some_iff.mp H
 obtain ⟨t102,A20,H⟩:=H
 replace H:(if t102=true then ((spec_l00In.f ((rd_T127 l0 a0i).f1) 0 10000).bind fun t104=>(if t104=true then ((spec_l00In.f ((rd_T127 l0 a0i).f2) 1 10000).bind fun t106=>(some t106)) else (some false))) else (some false))=some r:=H
 have A2:=Aside0.mk A20
 clear A20
 by_cases c3:t102=true
 ·subst c3
  have H1:((spec_l00In.f ((rd_T127 l0 a0i).f1) 0 10000).bind fun t104=>(if t104=true then ((spec_l00In.f ((rd_T127 l0 a0i).f2) 1 10000).bind fun t106=>(some t106)) else (some false)))=some r:=by rw [if_pos rfl] at H;exact H
  clear H
  have H:=H1
  clear H1
  replace H:=Option.bind_eq_some_iff.mp H
  obtain ⟨t104,A40,H⟩:=H
  replace H:(if t104=true then ((spec_l00In.f ((rd_T127 l0 a0i).f2) 1 10000).bind fun t106=>(some t106)) else (some false))=some r:=H
  have A4:=Aside0.mk A40
  clear A40
  by_cases c5:t104=true
  ·subst c5
   have H1:((spec_l00In.f ((rd_T127 l0 a0i).f2) 1 10000).bind fun t106=>(some t106))=some r:=by rw [if_pos rfl] at H;exact H
   clear H
   have H:=H1
   clear H1
   replace H:=Option.bind_eq_some_iff.mp H
   obtain ⟨t106,A60,H⟩:=H
   replace H:(some t106)=some r:=H
   have A6:=Aside0.mk A60
   clear A60
   obtain rfl:=Option.some.inj H
   have p101:0≤(a0i:Int):=of_decide_eq_true zb
   have q101:a0i<(l0.length:Int):=of_decide_eq_true zb
   obtain ⟨ad101,e101,hx101_0,hx101_1,hx101_2⟩:=at_T127 HR0.out a0i p101 q101
   obtain rfl:ad0=ad101:=(by injection e101)
   replace p101:=eq_true p101
   replace q101:=eq_true q101
   go_enter Try.func89,Try.ntmps89
   go_wp2_with (first|((with_reducible refine gate_callee (f:=131) rfl ?_);refine goesL_ (some 7) rfl rfl Try.func131 zbk rfl #[.string ((rd_T127 l0 a0i).f0)] rfl zc ?_;(with_reducible refine (spec_l01Name.calls k ((rd_T127 l0 a0i).f0) true _ A2.out).mono ?_);rintro e w' ⟨rfl,⟨nd,rfl⟩⟩;refine ⟨_,rfl,?_⟩;have p103:0≤(a0i:Int):=of_decide_eq_true zb;have q103:a0i<(l0.length:Int):=of_decide_eq_true zb;obtain ⟨ad103,e103,hx103_0,hx103_1,hx103_2⟩:=at_T127 HR0.out a0i p103 q103;obtain rfl:ad0=ad103:=(by injection e103);replace p103:=eq_true p103;replace q103:=eq_true q103)|(go_at_call 87;(with_reducible refine (spec_l00In.calls ((rd_T127 l0 a0i).f1) 0 10000 true _ A4.out).mono ?_);rintro e w' ⟨rfl,⟨nd,rfl⟩⟩;have p105:0≤(a0i:Int):=of_decide_eq_true zb;have q105:a0i<(l0.length:Int):=of_decide_eq_true zb;obtain ⟨ad105,e105,hx105_0,hx105_1,hx105_2⟩:=at_T127 HR0.out a0i p105 q105;obtain rfl:ad0=ad105:=(by injection e105);replace p105:=eq_true p105;replace q105:=eq_true q105)|(go_at_call 87;(with_reducible refine (spec_l00In.calls ((rd_T127 l0 a0i).f2) 1 10000 t106 _ A6.out).mono ?_);rintro e w' ⟨rfl,⟨nd,rfl⟩⟩))
   go_ret
   exact ⟨zm,zw⟩
  ·replace c5:=Bool.eq_false_iff.mpr c5
   subst c5
   have H1:(some false)=some r:=by rw [if_neg (show ¬ (false=true) by decide)] at H;exact H
   clear H
   have H:=H1
   clear H1
   obtain rfl:=Option.some.inj H
   have p101:0≤(a0i:Int):=of_decide_eq_true zb
   have q101:a0i<(l0.length:Int):=of_decide_eq_true zb
   obtain ⟨ad101,e101,hx101_0,hx101_1,hx101_2⟩:=at_T127 HR0.out a0i p101 q101
   obtain rfl:ad0=ad101:=(by injection e101)
   replace p101:=eq_true p101
   replace q101:=eq_true q101
   go_enter Try.func89,Try.ntmps89
   go_wp2_with (first|((with_reducible refine gate_callee (f:=131) rfl ?_);refine goesL_ (some 7) rfl rfl Try.func131 zbk rfl #[.string ((rd_T127 l0 a0i).f0)] rfl zc ?_;(with_reducible refine (spec_l01Name.calls k ((rd_T127 l0 a0i).f0) true _ A2.out).mono ?_);rintro e w' ⟨rfl,⟨nd,rfl⟩⟩;refine ⟨_,rfl,?_⟩;have p103:0≤(a0i:Int):=of_decide_eq_true zb;have q103:a0i<(l0.length:Int):=of_decide_eq_true zb;obtain ⟨ad103,e103,hx103_0,hx103_1,hx103_2⟩:=at_T127 HR0.out a0i p103 q103;obtain rfl:ad0=ad103:=(by injection e103);replace p103:=eq_true p103;replace q103:=eq_true q103)|(go_at_call 87;(with_reducible refine (spec_l00In.calls ((rd_T127 l0 a0i).f1) 0 10000 false _ A4.out).mono ?_);rintro e w' ⟨rfl,⟨nd,rfl⟩⟩))
   go_ret
   exact ⟨zm,zw⟩
 ·replace c3:=Bool.eq_false_iff.mpr c3
  subst c3
  have H1:(some false)=some r:=by rw [if_neg (show ¬ (false=true) by decide)] at H;exact H
  clear H
  have H:=H1
  clear H1
  obtain rfl:=Option.some.inj H
  have p101:0≤(a0i:Int):=of_decide_eq_true zb
  have q101:a0i<(l0.length:Int):=of_decide_eq_true zb
  obtain ⟨ad101,e101,hx101_0,hx101_1,hx101_2⟩:=at_T127 HR0.out a0i p101 q101
  obtain rfl:ad0=ad101:=(by injection e101)
  replace p101:=eq_true p101
  replace q101:=eq_true q101
  go_enter Try.func89,Try.ntmps89
  go_wp2_with (first|((with_reducible refine gate_callee (f:=131) rfl ?_);refine goesL_ (some 7) rfl rfl Try.func131 zbk rfl #[.string ((rd_T127 l0 a0i).f0)] rfl zc ?_;(with_reducible refine (spec_l01Name.calls k ((rd_T127 l0 a0i).f0) false _ A2.out).mono ?_);rintro e w' ⟨rfl,⟨nd,rfl⟩⟩;refine ⟨_,rfl,?_⟩))
  go_ret
  exact ⟨zm,zw⟩

def spec_l23Before_e.f (l0:List (S127)) (a0i:Int) (l1:List (S127)) (a1i:Int):Option (Bool):=if ((rd_T127 l0 a0i).f1)=((rd_T127 l1 a1i).f1) then (if ((rd_T127 l0 a0i).f0).toList=((rd_T127 l1 a1i).f0).toList then (some (decide (((rd_T127 l0 a0i).f2)<((rd_T127 l1 a1i).f2)))) else (some (Op.bytesLess (((rd_T127 l0 a0i).f0).toList) (((rd_T127 l1 a1i).f0).toList)))) else (some (decide (((rd_T127 l0 a0i).f1)<((rd_T127 l1 a1i).f1))))
set_option maxHeartbeats 8000000 in
set_option maxRecDepth 100000 in
theorem spec_l23Before_e.calls (ad0:Addr) (l0:List (S127)) (a0i:Int) (ad1:Addr) (l1:List (S127)) (a1i:Int) (r:Bool) (w:World) (hr0:Kd.C k127 w (some ad0) l0.length l0) (hp0:decide (0≤a0i)=true) (hq0:decide (a0i<(l0.length:Int))=true) (hr1:Kd.C k127 w (some ad1) l1.length l1) (hp1:decide (0≤a1i)=true) (hq1:decide (a1i<(l1.length:Int))=true) (h:spec_l23Before_e.f l0 a0i l1 a1i=some r) :
 Calls Try.prog 130 #[.pointer (some (ad0.add (a0i.toNat*3))),.pointer (some (ad1.add (a1i.toNat*3)))] w fun e w'=>e = .returned (.bool r)∧Drawn0 w w':=by
 have HR0:=Aside0.mk hr0
 clear hr0
 have HR1:=Aside0.mk hr1
 clear hr1
 have H:(if ((rd_T127 l0 a0i).f1)=((rd_T127 l1 a1i).f1) then (if ((rd_T127 l0 a0i).f0).toList=((rd_T127 l1 a1i).f0).toList then (some (decide (((rd_T127 l0 a0i).f2)<((rd_T127 l1 a1i).f2)))) else (some (Op.bytesLess (((rd_T127 l0 a0i).f0).toList) (((rd_T127 l1 a1i).f0).toList)))) else (some (decide (((rd_T127 l0 a0i).f1)<((rd_T127 l1 a1i).f1)))))=some r:=h
 clear h
 by_cases c3:((rd_T127 l0 a0i).f1)=((rd_T127 l1 a1i).f1)
 ·rw [if_pos c3] at H
  have c3b0:(((rd_T127 l0 a0i).f1) == ((rd_T127 l1 a1i).f1))=true:=beq_iff_eq.mpr c3
  have c3b1:(((rd_T127 l0 a0i).f1) != ((rd_T127 l1 a1i).f1))=false:=bne_eq_false_iff_eq.mpr c3
  clear c3
  by_cases c4:((rd_T127 l0 a0i).f0).toList=((rd_T127 l1 a1i).f0).toList
  ·rw [if_pos c4] at H
   have c4b0:(((rd_T127 l0 a0i).f0).toList == ((rd_T127 l1 a1i).f0).toList)=true:=beq_iff_eq.mpr c4
   have c4b1:(((rd_T127 l0 a0i).f0).toList != ((rd_T127 l1 a1i).f0).toList)=false:=bne_eq_false_iff_eq.mpr c4
   clear c4
   obtain rfl:=Option.some.inj H
   have p101:0≤(a0i:Int):=of_decide_eq_true zb
   have q101:a0i<(l0.length:Int):=of_decide_eq_true zb
   obtain ⟨ad101,e101,hx101_0,hx101_1,hx101_2⟩:=at_T127 HR0.out a0i p101 q101
   obtain rfl:ad0=ad101:=(by injection e101)
   replace p101:=eq_true p101
   replace q101:=eq_true q101
   have p102:0≤(a1i:Int):=of_decide_eq_true zb
   have q102:a1i<(l1.length:Int):=of_decide_eq_true zb
   obtain ⟨ad102,e102,hx102_0,hx102_1,hx102_2⟩:=at_T127 HR1.out a1i p102 q102
   obtain rfl:ad1=ad102:=(by injection e102)
   replace p102:=eq_true p102
   replace q102:=eq_true q102
   have p103:0≤(a0i:Int):=of_decide_eq_true zb
   have q103:a0i<(l0.length:Int):=of_decide_eq_true zb
   obtain ⟨ad103,e103,hx103_0,hx103_1,hx103_2⟩:=at_T127 HR0.out a0i p103 q103
   obtain rfl:ad0=ad103:=(by injection e103)
   replace p103:=eq_true p103
   replace q103:=eq_true q103
   have p104:0≤(a1i:Int):=of_decide_eq_true zb
   have q104:a1i<(l1.length:Int):=of_decide_eq_true zb
   obtain ⟨ad104,e104,hx104_0,hx104_1,hx104_2⟩:=at_T127 HR1.out a1i p104 q104
   obtain rfl:ad1=ad104:=(by injection e104)
   replace p104:=eq_true p104
   replace q104:=eq_true q104
   have p105:0≤(a0i:Int):=of_decide_eq_true zb
   have q105:a0i<(l0.length:Int):=of_decide_eq_true zb
   obtain ⟨ad105,e105,hx105_0,hx105_1,hx105_2⟩:=at_T127 HR0.out a0i p105 q105
   obtain rfl:ad0=ad105:=(by injection e105)
   replace p105:=eq_true p105
   replace q105:=eq_true q105
   have p106:0≤(a1i:Int):=of_decide_eq_true zb
   have q106:a1i<(l1.length:Int):=of_decide_eq_true zb
   obtain ⟨ad106,e106,hx106_0,hx106_1,hx106_2⟩:=at_T127 HR1.out a1i p106 q106
   obtain rfl:ad1=ad106:=(by injection e106)
   replace p106:=eq_true p106
   replace q106:=eq_true q106
   go_enter Try.func130,Try.ntmps130
   go_wp2
   repeat (go_quiet (fail);try go_wp2)
   go_ret
   exact ⟨zm,zw⟩
  ·rw [if_neg c4] at H
   have c4b0:(((rd_T127 l0 a0i).f0).toList == ((rd_T127 l1 a1i).f0).toList)=false:=beq_eq_false_iff_ne.mpr c4
   have c4b1:(((rd_T127 l0 a0i).f0).toList != ((rd_T127 l1 a1i).f0).toList)=true:=bne_iff_ne.mpr c4
   obtain rfl:=Option.some.inj H
   have p101:0≤(a0i:Int):=of_decide_eq_true zb
   have q101:a0i<(l0.length:Int):=of_decide_eq_true zb
   obtain ⟨ad101,e101,hx101_0,hx101_1,hx101_2⟩:=at_T127 HR0.out a0i p101 q101
   obtain rfl:ad0=ad101:=(by injection e101)
   replace p101:=eq_true p101
   replace q101:=eq_true q101
   have p102:0≤(a1i:Int):=of_decide_eq_true zb
   have q102:a1i<(l1.length:Int):=of_decide_eq_true zb
   obtain ⟨ad102,e102,hx102_0,hx102_1,hx102_2⟩:=at_T127 HR1.out a1i p102 q102
   obtain rfl:ad1=ad102:=(by injection e102)
   replace p102:=eq_true p102
   replace q102:=eq_true q102
   have p103:0≤(a0i:Int):=of_decide_eq_true zb
   have q103:a0i<(l0.length:Int):=of_decide_eq_true zb
   obtain ⟨ad103,e103,hx103_0,hx103_1,hx103_2⟩:=at_T127 HR0.out a0i p103 q103
   obtain rfl:ad0=ad103:=(by injection e103)
   replace p103:=eq_true p103
   replace q103:=eq_true q103
   have p104:0≤(a1i:Int):=of_decide_eq_true zb
   have q104:a1i<(l1.length:Int):=of_decide_eq_true zb
   obtain ⟨ad104,e104,hx104_0,hx104_1,hx104_2⟩:=at_T127 HR1.out a1i p104 q104
   obtain rfl:ad1=ad104:=(by injection e104)
   replace p104:=eq_true p104
   replace q104:=eq_true q104
   have p107:0≤(a0i:Int):=of_decide_eq_true zb
   have q107:a0i<(l0.length:Int):=of_decide_eq_true zb
   obtain ⟨ad107,e107,hx107_0,hx107_1,hx107_2⟩:=at_T127 HR0.out a0i p107 q107
   obtain rfl:ad0=ad107:=(by injection e107)
   replace p107:=eq_true p107
   replace q107:=eq_true q107
   have p108:0≤(a1i:Int):=of_decide_eq_true zb
   have q108:a1i<(l1.length:Int):=of_decide_eq_true zb
   obtain ⟨ad108,e108,hx108_0,hx108_1,hx108_2⟩:=at_T127 HR1.out a1i p108 q108
   obtain rfl:ad1=ad108:=(by injection e108)
   replace p108:=eq_true p108
   replace q108:=eq_true q108
   go_enter Try.func130,Try.ntmps130
   go_wp2
   repeat (go_quiet (fail);try go_wp2)
   go_ret
   exact ⟨zm,zw⟩
 ·rw [if_neg c3] at H
  have c3b0:(((rd_T127 l0 a0i).f1) == ((rd_T127 l1 a1i).f1))=false:=beq_eq_false_iff_ne.mpr c3
  have c3b1:(((rd_T127 l0 a0i).f1) != ((rd_T127 l1 a1i).f1))=true:=bne_iff_ne.mpr c3
  obtain rfl:=Option.some.inj H
  have p101:0≤(a0i:Int):=of_decide_eq_true zb
  have q101:a0i<(l0.length:Int):=of_decide_eq_true zb
  obtain ⟨ad101,e101,hx101_0,hx101_1,hx101_2⟩:=at_T127 HR0.out a0i p101 q101
  obtain rfl:ad0=ad101:=(by injection e101)
  replace p101:=eq_true p101
  replace q101:=eq_true q101
  have p102:0≤(a1i:Int):=of_decide_eq_true zb
  have q102:a1i<(l1.length:Int):=of_decide_eq_true zb
  obtain ⟨ad102,e102,hx102_0,hx102_1,hx102_2⟩:=at_T127 HR1.out a1i p102 q102
  obtain rfl:ad1=ad102:=(by injection e102)
  replace p102:=eq_true p102
  replace q102:=eq_true q102
  have p109:0≤(a0i:Int):=of_decide_eq_true zb
  have q109:a0i<(l0.length:Int):=of_decide_eq_true zb
  obtain ⟨ad109,e109,hx109_0,hx109_1,hx109_2⟩:=at_T127 HR0.out a0i p109 q109
  obtain rfl:ad0=ad109:=(by injection e109)
  replace p109:=eq_true p109
  replace q109:=eq_true q109
  have p110:0≤(a1i:Int):=of_decide_eq_true zb
  have q110:a1i<(l1.length:Int):=of_decide_eq_true zb
  obtain ⟨ad110,e110,hx110_0,hx110_1,hx110_2⟩:=at_T127 HR1.out a1i p110 q110
  obtain rfl:ad1=ad110:=(by injection e110)
  replace p110:=eq_true p110
  replace q110:=eq_true q110
  go_enter Try.func130,Try.ntmps130
  go_wp2
  repeat (go_quiet (fail);try go_wp2)
  go_ret
  exact ⟨zm,zw⟩

def spec_l23Ok.l0:Nat→List (S127)→Int→Option (Bool)
 | 0,_,_=>none
 | k+1,x0,x3=>if x3<(x0.length:Int) then (if 0≤x3 then ((spec_l23One_e.f k x0 x3).bind fun t102=>(if t102=true then (if x3 > 0 then (if 0≤(wrap64 (x3 - 1)) then (if (wrap64 (x3 - 1))<(x0.length:Int) then ((spec_l23Before_e.f x0 (wrap64 (x3 - 1)) x0 x3).bind fun t105=>(if t105=true then (spec_l23Ok.l0 k x0 (wrap64 (x3+1))) else (some false))) else (none)) else (none)) else (spec_l23Ok.l0 k x0 (wrap64 (x3+1)))) else (some false))) else (none)) else (some (decide ((x0.length:Int)≤24)))
def spec_l23Ok.f (k:Nat) (l0:List (S127)):Option (Bool):=spec_l23Ok.l0 k l0 0
set_option maxHeartbeats 8000000 in
set_option maxRecDepth 100000 in
theorem spec_l23Ok.calls (k:Nat) (A0:Option Addr) (c0:Nat) (l0:List (S127)) (r:Bool) (w:World) (hr0:Kd.C k127 w A0 l0.length l0) (hc0:l0.length≤c0) (h:spec_l23Ok.f k l0=some r) :
 Calls Try.prog 85 #[.slice A0 l0.length c0] w fun e w'=>e = .returned (.bool r)∧Drawn0 w w':=by
 have HR0:=Aside0.mk hr0
 have HC0:=Aside0.mk hc0
 clear hr0 hc0
 have H:(spec_l23Ok.l0 k l0 0)=some r:=h
 clear h
 have H':=Aside0.mk H
 clear H
 go_enter Try.func85,Try.ntmps85
 go_wp2
 repeat (go_quiet (fail);try go_wp2)
 go_loopg [3] k (fun kq v3 w'=>∃(x3_1:Int),v3 = .int .i64 x3_1∧Aside0 (spec_l23Ok.l0 kq l0 x3_1=some r)∧Aside0 (kq≤k)∧Drawn0 w w')
 case atStart=>exact ⟨(0),zm,H',⟨Nat.le_refl _⟩,zw⟩
 case round=>
  clear H'
  obtain ⟨x3_1,rfl,HA,HK1,⟨m1,rfl⟩⟩:=hrel
  cases gk with
  | zero=>exact absurd HA.out (by simp [spec_l23Ok.l0])
  | succ k1=>
   have H:=HA.out
   clear HA
   simp only [spec_l23Ok.l0] at H
   by_cases c2:x3_1<(l0.length:Int)
   ·rw [if_pos c2] at H
    have c2b0:decide (x3_1<(l0.length:Int))=true:=decide_eq_true c2
    clear c2
    by_cases c3:0≤x3_1
    ·rw [if_pos c3] at H
     have c3b0:decide (0≤x3_1)=true:=decide_eq_true c3
     clear c3
     replace H:=Option.bind_eq_some_iff.mp H
     obtain ⟨t102,A40,H⟩:=H
     replace H:(if t102=true then (if x3_1 > 0 then (if 0≤(wrap64 (x3_1 - 1)) then (if (wrap64 (x3_1 - 1))<(l0.length:Int) then ((spec_l23Before_e.f l0 (wrap64 (x3_1 - 1)) l0 x3_1).bind fun t105=>(if t105=true then (spec_l23Ok.l0 k1 l0 (wrap64 (x3_1+1))) else (some false))) else (none)) else (none)) else (spec_l23Ok.l0 k1 l0 (wrap64 (x3_1+1)))) else (some false))=some r:=H
     have A4:=Aside0.mk A40
     clear A40
     by_cases c5:t102=true
     ·subst c5
      have H1:(if x3_1 > 0 then (if 0≤(wrap64 (x3_1 - 1)) then (if (wrap64 (x3_1 - 1))<(l0.length:Int) then ((spec_l23Before_e.f l0 (wrap64 (x3_1 - 1)) l0 x3_1).bind fun t105=>(if t105=true then (spec_l23Ok.l0 k1 l0 (wrap64 (x3_1+1))) else (some false))) else (none)) else (none)) else (spec_l23Ok.l0 k1 l0 (wrap64 (x3_1+1))))=some r:=by rw [if_pos rfl] at H;exact H
      clear H
      have H:=H1
      clear H1
      by_cases c6:x3_1 > 0
      ·rw [if_pos c6] at H
       have c6b0:decide (0<x3_1)=true:=decide_eq_true c6
       clear c6
       obtain ⟨ji7,hji7⟩:∃j_:Int,(wrap64 (x3_1 - 1))=j_:=⟨_,rfl⟩
       replace H:(if 0≤(ji7) then (if (ji7)<(l0.length:Int) then ((spec_l23Before_e.f l0 (ji7) l0 x3_1).bind fun t105=>(if t105=true then (spec_l23Ok.l0 k1 l0 (wrap64 (x3_1+1))) else (some false))) else (none)) else (none))=some r:=by first|(rw [hji7] at H;exact H)|(simp only [hji7] at H ⊢;exact H)
       (try rw [hji7] at A4)
       have hji7w:(IntKind.i64.wrap (x3_1 - 1))=ji7:=(i64_w _).trans hji7
       by_cases c8:0≤(ji7)
       ·rw [if_pos c8] at H
        have c8b0:decide (0≤(ji7))=true:=decide_eq_true c8
        clear c8
        by_cases c9:(ji7)<(l0.length:Int)
        ·rw [if_pos c9] at H
         have c9b0:decide ((ji7)<(l0.length:Int))=true:=decide_eq_true c9
         clear c9
         replace H:=Option.bind_eq_some_iff.mp H
         obtain ⟨t105,A100,H⟩:=H
         replace H:(if t105=true then (spec_l23Ok.l0 k1 l0 (wrap64 (x3_1+1))) else (some false))=some r:=H
         have A10:=Aside0.mk A100
         clear A100
         by_cases c11:t105=true
         ·subst c11
          have H1:(spec_l23Ok.l0 k1 l0 (wrap64 (x3_1+1)))=some r:=by rw [if_pos rfl] at H;exact H
          clear H
          have H:=H1
          clear H1
          have H':=Aside0.mk H
          clear H
          have p101:0≤(x3_1:Int):=of_decide_eq_true zb
          have q101:x3_1<(l0.length:Int):=of_decide_eq_true zb
          obtain ⟨ad101,e101,hx101_0,hx101_1,hx101_2⟩:=at_T127 HR0.out x3_1 p101 q101
          cases e101
          replace p101:=eq_true p101
          replace q101:=eq_true q101
          go_wp2_with (first|(go_at_call 89;(with_reducible refine (spec_l23One_e.calls k1 _ l0 x3_1 true _ ?side1 ?side2 ?side3 A4.out).mono ?_);(case side1=>exact zy);(case side2=>first|(with_reducible assumption)|assumption|decide|exact decide_eq_true zdd|exact decide_eq_true zbt);(case side3=>first|(with_reducible assumption)|assumption|decide|exact decide_eq_true zdd|exact decide_eq_true zbt);rintro e w' ⟨rfl,⟨nd,rfl⟩⟩;(try first|exact ⟨rfl,_,World.drewN_drewN _ _ _⟩|exact ⟨rfl,_,Eq.trans (World.drewN_drewN _ _ _) (congrArg (World.drewN _) (Nat.add_assoc _ _ _))⟩);have p103:0≤((ji7):Int):=of_decide_eq_true zb;have q103:(ji7)<(l0.length:Int):=of_decide_eq_true zb;obtain ⟨ad103,e103,hx103_0,hx103_1,hx103_2⟩:=at_T127 HR0.out (ji7) p103 q103;obtain rfl:ad101=ad103:=(by injection e103);replace p103:=eq_true p103;replace q103:=eq_true q103;have p104:0≤(x3_1:Int):=of_decide_eq_true zb;have q104:x3_1<(l0.length:Int):=of_decide_eq_true zb;obtain ⟨ad104,e104,hx104_0,hx104_1,hx104_2⟩:=at_T127 HR0.out x3_1 p104 q104;obtain rfl:ad101=ad104:=(by injection e104);replace p104:=eq_true p104;replace q104:=eq_true q104)|(go_at_call 130;(with_reducible refine (spec_l23Before_e.calls _ l0 (ji7) _ l0 x3_1 true _ ?side1 ?side2 ?side3 ?side4 ?side5 ?side6 A10.out).mono ?_);(case side1=>exact zy);(case side2=>first|(with_reducible assumption)|assumption|decide|exact decide_eq_true zdd|exact decide_eq_true zbt);(case side3=>first|(with_reducible assumption)|assumption|decide|exact decide_eq_true zdd|exact decide_eq_true zbt);(case side4=>exact zy);(case side5=>first|(with_reducible assumption)|assumption|decide|exact decide_eq_true zdd|exact decide_eq_true zbt);(case side6=>first|(with_reducible assumption)|assumption|decide|exact decide_eq_true zdd|exact decide_eq_true zbt);rintro e w' ⟨rfl,⟨nd,rfl⟩⟩;(try first|exact ⟨rfl,_,World.drewN_drewN _ _ _⟩|exact ⟨rfl,_,Eq.trans (World.drewN_drewN _ _ _) (congrArg (World.drewN _) (Nat.add_assoc _ _ _))⟩)))
          repeat (go_quiet (first|(go_at_call 89;(with_reducible refine (spec_l23One_e.calls k1 _ l0 x3_1 true _ ?side1 ?side2 ?side3 A4.out).mono ?_);(case side1=>exact zy);(case side2=>first|(with_reducible assumption)|assumption|decide|exact decide_eq_true zdd|exact decide_eq_true zbt);(case side3=>first|(with_reducible assumption)|assumption|decide|exact decide_eq_true zdd|exact decide_eq_true zbt);rintro e w' ⟨rfl,⟨nd,rfl⟩⟩;(try first|exact ⟨rfl,_,World.drewN_drewN _ _ _⟩|exact ⟨rfl,_,Eq.trans (World.drewN_drewN _ _ _) (congrArg (World.drewN _) (Nat.add_assoc _ _ _))⟩);have p103:0≤((ji7):Int):=of_decide_eq_true zb;have q103:(ji7)<(l0.length:Int):=of_decide_eq_true zb;obtain ⟨ad103,e103,hx103_0,hx103_1,hx103_2⟩:=at_T127 HR0.out (ji7) p103 q103;obtain rfl:ad101=ad103:=(by injection e103);replace p103:=eq_true p103;replace q103:=eq_true q103;have p104:0≤(x3_1:Int):=of_decide_eq_true zb;have q104:x3_1<(l0.length:Int):=of_decide_eq_true zb;obtain ⟨ad104,e104,hx104_0,hx104_1,hx104_2⟩:=at_T127 HR0.out x3_1 p104 q104;obtain rfl:ad101=ad104:=(by injection e104);replace p104:=eq_true p104;replace q104:=eq_true q104)|(go_at_call 130;(with_reducible refine (spec_l23Before_e.calls _ l0 (ji7) _ l0 x3_1 true _ ?side1 ?side2 ?side3 ?side4 ?side5 ?side6 A10.out).mono ?_);(case side1=>exact zy);(case side2=>first|(with_reducible assumption)|assumption|decide|exact decide_eq_true zdd|exact decide_eq_true zbt);(case side3=>first|(with_reducible assumption)|assumption|decide|exact decide_eq_true zdd|exact decide_eq_true zbt);(case side4=>exact zy);(case side5=>first|(with_reducible assumption)|assumption|decide|exact decide_eq_true zdd|exact decide_eq_true zbt);(case side6=>first|(with_reducible assumption)|assumption|decide|exact decide_eq_true zdd|exact decide_eq_true zbt);rintro e w' ⟨rfl,⟨nd,rfl⟩⟩;(try first|exact ⟨rfl,_,World.drewN_drewN _ _ _⟩|exact ⟨rfl,_,Eq.trans (World.drewN_drewN _ _ _) (congrArg (World.drewN _) (Nat.add_assoc _ _ _))⟩)));try go_wp2_with (first|(go_at_call 89;(with_reducible refine (spec_l23One_e.calls k1 _ l0 x3_1 true _ ?side1 ?side2 ?side3 A4.out).mono ?_);(case side1=>exact zy);(case side2=>first|(with_reducible assumption)|assumption|decide|exact decide_eq_true zdd|exact decide_eq_true zbt);(case side3=>first|(with_reducible assumption)|assumption|decide|exact decide_eq_true zdd|exact decide_eq_true zbt);rintro e w' ⟨rfl,⟨nd,rfl⟩⟩;(try first|exact ⟨rfl,_,World.drewN_drewN _ _ _⟩|exact ⟨rfl,_,Eq.trans (World.drewN_drewN _ _ _) (congrArg (World.drewN _) (Nat.add_assoc _ _ _))⟩);have p103:0≤((ji7):Int):=of_decide_eq_true zb;have q103:(ji7)<(l0.length:Int):=of_decide_eq_true zb;obtain ⟨ad103,e103,hx103_0,hx103_1,hx103_2⟩:=at_T127 HR0.out (ji7) p103 q103;obtain rfl:ad101=ad103:=(by injection e103);replace p103:=eq_true p103;replace q103:=eq_true q103;have p104:0≤(x3_1:Int):=of_decide_eq_true zb;have q104:x3_1<(l0.length:Int):=of_decide_eq_true zb;obtain ⟨ad104,e104,hx104_0,hx104_1,hx104_2⟩:=at_T127 HR0.out x3_1 p104 q104;obtain rfl:ad101=ad104:=(by injection e104);replace p104:=eq_true p104;replace q104:=eq_true q104)|(go_at_call 130;(with_reducible refine (spec_l23Before_e.calls _ l0 (ji7) _ l0 x3_1 true _ ?side1 ?side2 ?side3 ?side4 ?side5 ?side6 A10.out).mono ?_);(case side1=>exact zy);(case side2=>first|(with_reducible assumption)|assumption|decide|exact decide_eq_true zdd|exact decide_eq_true zbt);(case side3=>first|(with_reducible assumption)|assumption|decide|exact decide_eq_true zdd|exact decide_eq_true zbt);(case side4=>exact zy);(case side5=>first|(with_reducible assumption)|assumption|decide|exact decide_eq_true zdd|exact decide_eq_true zbt);(case side6=>first|(with_reducible assumption)|assumption|decide|exact decide_eq_true zdd|exact decide_eq_true zbt);rintro e w' ⟨rfl,⟨nd,rfl⟩⟩;(try first|exact ⟨rfl,_,World.drewN_drewN _ _ _⟩|exact ⟨rfl,_,Eq.trans (World.drewN_drewN _ _ _) (congrArg (World.drewN _) (Nat.add_assoc _ _ _))⟩))))
          go_roundg k1
          case measure=>have:=HK1.out;omega
          case rel=>exact ⟨(wrap64 (x3_1+1)),zm,H',⟨zdn⟩,zw⟩
         ·replace c11:=Bool.eq_false_iff.mpr c11
          subst c11
          have H1:(some false)=some r:=by rw [if_neg (show ¬ (false=true) by decide)] at H;exact H
          clear H
          have H:=H1
          clear H1
          obtain rfl:=Option.some.inj H
          have p101:0≤(x3_1:Int):=of_decide_eq_true zb
          have q101:x3_1<(l0.length:Int):=of_decide_eq_true zb
          obtain ⟨ad101,e101,hx101_0,hx101_1,hx101_2⟩:=at_T127 HR0.out x3_1 p101 q101
          cases e101
          replace p101:=eq_true p101
          replace q101:=eq_true q101
          go_wp2_with (first|(go_at_call 89;(with_reducible refine (spec_l23One_e.calls k1 _ l0 x3_1 true _ ?side1 ?side2 ?side3 A4.out).mono ?_);(case side1=>exact zy);(case side2=>first|(with_reducible assumption)|assumption|decide|exact decide_eq_true zdd|exact decide_eq_true zbt);(case side3=>first|(with_reducible assumption)|assumption|decide|exact decide_eq_true zdd|exact decide_eq_true zbt);rintro e w' ⟨rfl,⟨nd,rfl⟩⟩;(try first|exact ⟨rfl,_,World.drewN_drewN _ _ _⟩|exact ⟨rfl,_,Eq.trans (World.drewN_drewN _ _ _) (congrArg (World.drewN _) (Nat.add_assoc _ _ _))⟩);have p103:0≤((ji7):Int):=of_decide_eq_true zb;have q103:(ji7)<(l0.length:Int):=of_decide_eq_true zb;obtain ⟨ad103,e103,hx103_0,hx103_1,hx103_2⟩:=at_T127 HR0.out (ji7) p103 q103;obtain rfl:ad101=ad103:=(by injection e103);replace p103:=eq_true p103;replace q103:=eq_true q103;have p104:0≤(x3_1:Int):=of_decide_eq_true zb;have q104:x3_1<(l0.length:Int):=of_decide_eq_true zb;obtain ⟨ad104,e104,hx104_0,hx104_1,hx104_2⟩:=at_T127 HR0.out x3_1 p104 q104;obtain rfl:ad101=ad104:=(by injection e104);replace p104:=eq_true p104;replace q104:=eq_true q104)|(go_at_call 130;(with_reducible refine (spec_l23Before_e.calls _ l0 (ji7) _ l0 x3_1 false _ ?side1 ?side2 ?side3 ?side4 ?side5 ?side6 A10.out).mono ?_);(case side1=>exact zy);(case side2=>first|(with_reducible assumption)|assumption|decide|exact decide_eq_true zdd|exact decide_eq_true zbt);(case side3=>first|(with_reducible assumption)|assumption|decide|exact decide_eq_true zdd|exact decide_eq_true zbt);(case side4=>exact zy);(case side5=>first|(with_reducible assumption)|assumption|decide|exact decide_eq_true zdd|exact decide_eq_true zbt);(case side6=>first|(with_reducible assumption)|assumption|decide|exact decide_eq_true zdd|exact decide_eq_true zbt);rintro e w' ⟨rfl,⟨nd,rfl⟩⟩;(try first|exact ⟨rfl,_,World.drewN_drewN _ _ _⟩|exact ⟨rfl,_,Eq.trans (World.drewN_drewN _ _ _) (congrArg (World.drewN _) (Nat.add_assoc _ _ _))⟩)))
          repeat (go_quiet (first|(go_at_call 89;(with_reducible refine (spec_l23One_e.calls k1 _ l0 x3_1 true _ ?side1 ?side2 ?side3 A4.out).mono ?_);(case side1=>exact zy);(case side2=>first|(with_reducible assumption)|assumption|decide|exact decide_eq_true zdd|exact decide_eq_true zbt);(case side3=>first|(with_reducible assumption)|assumption|decide|exact decide_eq_true zdd|exact decide_eq_true zbt);rintro e w' ⟨rfl,⟨nd,rfl⟩⟩;(try first|exact ⟨rfl,_,World.drewN_drewN _ _ _⟩|exact ⟨rfl,_,Eq.trans (World.drewN_drewN _ _ _) (congrArg (World.drewN _) (Nat.add_assoc _ _ _))⟩);have p103:0≤((ji7):Int):=of_decide_eq_true zb;have q103:(ji7)<(l0.length:Int):=of_decide_eq_true zb;obtain ⟨ad103,e103,hx103_0,hx103_1,hx103_2⟩:=at_T127 HR0.out (ji7) p103 q103;obtain rfl:ad101=ad103:=(by injection e103);replace p103:=eq_true p103;replace q103:=eq_true q103;have p104:0≤(x3_1:Int):=of_decide_eq_true zb;have q104:x3_1<(l0.length:Int):=of_decide_eq_true zb;obtain ⟨ad104,e104,hx104_0,hx104_1,hx104_2⟩:=at_T127 HR0.out x3_1 p104 q104;obtain rfl:ad101=ad104:=(by injection e104);replace p104:=eq_true p104;replace q104:=eq_true q104)|(go_at_call 130;(with_reducible refine (spec_l23Before_e.calls _ l0 (ji7) _ l0 x3_1 false _ ?side1 ?side2 ?side3 ?side4 ?side5 ?side6 A10.out).mono ?_);(case side1=>exact zy);(case side2=>first|(with_reducible assumption)|assumption|decide|exact decide_eq_true zdd|exact decide_eq_true zbt);(case side3=>first|(with_reducible assumption)|assumption|decide|exact decide_eq_true zdd|exact decide_eq_true zbt);(case side4=>exact zy);(case side5=>first|(with_reducible assumption)|assumption|decide|exact decide_eq_true zdd|exact decide_eq_true zbt);(case side6=>first|(with_reducible assumption)|assumption|decide|exact decide_eq_true zdd|exact decide_eq_true zbt);rintro e w' ⟨rfl,⟨nd,rfl⟩⟩;(try first|exact ⟨rfl,_,World.drewN_drewN _ _ _⟩|exact ⟨rfl,_,Eq.trans (World.drewN_drewN _ _ _) (congrArg (World.drewN _) (Nat.add_assoc _ _ _))⟩)));try go_wp2_with (first|(go_at_call 89;(with_reducible refine (spec_l23One_e.calls k1 _ l0 x3_1 true _ ?side1 ?side2 ?side3 A4.out).mono ?_);(case side1=>exact zy);(case side2=>first|(with_reducible assumption)|assumption|decide|exact decide_eq_true zdd|exact decide_eq_true zbt);(case side3=>first|(with_reducible assumption)|assumption|decide|exact decide_eq_true zdd|exact decide_eq_true zbt);rintro e w' ⟨rfl,⟨nd,rfl⟩⟩;(try first|exact ⟨rfl,_,World.drewN_drewN _ _ _⟩|exact ⟨rfl,_,Eq.trans (World.drewN_drewN _ _ _) (congrArg (World.drewN _) (Nat.add_assoc _ _ _))⟩);have p103:0≤((ji7):Int):=of_decide_eq_true zb;have q103:(ji7)<(l0.length:Int):=of_decide_eq_true zb;obtain ⟨ad103,e103,hx103_0,hx103_1,hx103_2⟩:=at_T127 HR0.out (ji7) p103 q103;obtain rfl:ad101=ad103:=(by injection e103);replace p103:=eq_true p103;replace q103:=eq_true q103;have p104:0≤(x3_1:Int):=of_decide_eq_true zb;have q104:x3_1<(l0.length:Int):=of_decide_eq_true zb;obtain ⟨ad104,e104,hx104_0,hx104_1,hx104_2⟩:=at_T127 HR0.out x3_1 p104 q104;obtain rfl:ad101=ad104:=(by injection e104);replace p104:=eq_true p104;replace q104:=eq_true q104)|(go_at_call 130;(with_reducible refine (spec_l23Before_e.calls _ l0 (ji7) _ l0 x3_1 false _ ?side1 ?side2 ?side3 ?side4 ?side5 ?side6 A10.out).mono ?_);(case side1=>exact zy);(case side2=>first|(with_reducible assumption)|assumption|decide|exact decide_eq_true zdd|exact decide_eq_true zbt);(case side3=>first|(with_reducible assumption)|assumption|decide|exact decide_eq_true zdd|exact decide_eq_true zbt);(case side4=>exact zy);(case side5=>first|(with_reducible assumption)|assumption|decide|exact decide_eq_true zdd|exact decide_eq_true zbt);(case side6=>first|(with_reducible assumption)|assumption|decide|exact decide_eq_true zdd|exact decide_eq_true zbt);rintro e w' ⟨rfl,⟨nd,rfl⟩⟩;(try first|exact ⟨rfl,_,World.drewN_drewN _ _ _⟩|exact ⟨rfl,_,Eq.trans (World.drewN_drewN _ _ _) (congrArg (World.drewN _) (Nat.add_assoc _ _ _))⟩))))
          go_ret
          exact ⟨by first|rfl|(simp;done)|(simp only [←hji7]<;>(first|rfl|simp))|(simp [*];done),zw⟩
        ·rw [if_neg c9] at H
         exact absurd H zdd
       ·rw [if_neg c8] at H
        exact absurd H zdd
      ·rw [if_neg c6] at H
       have c6b0:decide (0<x3_1)=false:=decide_eq_false c6
       clear c6
       have H':=Aside0.mk H
       clear H
       have p101:0≤(x3_1:Int):=of_decide_eq_true zb
       have q101:x3_1<(l0.length:Int):=of_decide_eq_true zb
       obtain ⟨ad101,e101,hx101_0,hx101_1,hx101_2⟩:=at_T127 HR0.out x3_1 p101 q101
       cases e101
       replace p101:=eq_true p101
       replace q101:=eq_true q101
       go_wp2_with (first|(go_at_call 89;(with_reducible refine (spec_l23One_e.calls k1 _ l0 x3_1 true _ ?side1 ?side2 ?side3 A4.out).mono ?_);(case side1=>exact zy);(case side2=>first|(with_reducible assumption)|assumption|decide|exact decide_eq_true zdd|exact decide_eq_true zbt);(case side3=>first|(with_reducible assumption)|assumption|decide|exact decide_eq_true zdd|exact decide_eq_true zbt);rintro e w' ⟨rfl,⟨nd,rfl⟩⟩;(try first|exact ⟨rfl,_,World.drewN_drewN _ _ _⟩|exact ⟨rfl,_,Eq.trans (World.drewN_drewN _ _ _) (congrArg (World.drewN _) (Nat.add_assoc _ _ _))⟩)))
       repeat (go_quiet (first|(go_at_call 89;(with_reducible refine (spec_l23One_e.calls k1 _ l0 x3_1 true _ ?side1 ?side2 ?side3 A4.out).mono ?_);(case side1=>exact zy);(case side2=>first|(with_reducible assumption)|assumption|decide|exact decide_eq_true zdd|exact decide_eq_true zbt);(case side3=>first|(with_reducible assumption)|assumption|decide|exact decide_eq_true zdd|exact decide_eq_true zbt);rintro e w' ⟨rfl,⟨nd,rfl⟩⟩;(try first|exact ⟨rfl,_,World.drewN_drewN _ _ _⟩|exact ⟨rfl,_,Eq.trans (World.drewN_drewN _ _ _) (congrArg (World.drewN _) (Nat.add_assoc _ _ _))⟩)));try go_wp2_with (first|(go_at_call 89;(with_reducible refine (spec_l23One_e.calls k1 _ l0 x3_1 true _ ?side1 ?side2 ?side3 A4.out).mono ?_);(case side1=>exact zy);(case side2=>first|(with_reducible assumption)|assumption|decide|exact decide_eq_true zdd|exact decide_eq_true zbt);(case side3=>first|(with_reducible assumption)|assumption|decide|exact decide_eq_true zdd|exact decide_eq_true zbt);rintro e w' ⟨rfl,⟨nd,rfl⟩⟩;(try first|exact ⟨rfl,_,World.drewN_drewN _ _ _⟩|exact ⟨rfl,_,Eq.trans (World.drewN_drewN _ _ _) (congrArg (World.drewN _) (Nat.add_assoc _ _ _))⟩))))
       go_roundg k1
       case measure=>have:=HK1.out;omega
       case rel=>exact ⟨(wrap64 (x3_1+1)),zm,H',⟨zdn⟩,zw⟩
     ·replace c5:=Bool.eq_false_iff.mpr c5
      subst c5
      have H1:(some false)=some r:=by rw [if_neg (show ¬ (false=true) by decide)] at H;exact H
      clear H
      have H:=H1
      clear H1
      obtain rfl:=Option.some.inj H
      have p101:0≤(x3_1:Int):=of_decide_eq_true zb
      have q101:x3_1<(l0.length:Int):=of_decide_eq_true zb
      obtain ⟨ad101,e101,hx101_0,hx101_1,hx101_2⟩:=at_T127 HR0.out x3_1 p101 q101
      cases e101
      replace p101:=eq_true p101
      replace q101:=eq_true q101
      go_wp2_with (first|(go_at_call 89;(with_reducible refine (spec_l23One_e.calls k1 _ l0 x3_1 false _ ?side1 ?side2 ?side3 A4.out).mono ?_);(case side1=>exact zy);(case side2=>first|(with_reducible assumption)|assumption|decide|exact decide_eq_true zdd|exact decide_eq_true zbt);(case side3=>first|(with_reducible assumption)|assumption|decide|exact decide_eq_true zdd|exact decide_eq_true zbt);rintro e w' ⟨rfl,⟨nd,rfl⟩⟩;(try first|exact ⟨rfl,_,World.drewN_drewN _ _ _⟩|exact ⟨rfl,_,Eq.trans (World.drewN_drewN _ _ _) (congrArg (World.drewN _) (Nat.add_assoc _ _ _))⟩)))
      repeat (go_quiet (first|(go_at_call 89;(with_reducible refine (spec_l23One_e.calls k1 _ l0 x3_1 false _ ?side1 ?side2 ?side3 A4.out).mono ?_);(case side1=>exact zy);(case side2=>first|(with_reducible assumption)|assumption|decide|exact decide_eq_true zdd|exact decide_eq_true zbt);(case side3=>first|(with_reducible assumption)|assumption|decide|exact decide_eq_true zdd|exact decide_eq_true zbt);rintro e w' ⟨rfl,⟨nd,rfl⟩⟩;(try first|exact ⟨rfl,_,World.drewN_drewN _ _ _⟩|exact ⟨rfl,_,Eq.trans (World.drewN_drewN _ _ _) (congrArg (World.drewN _) (Nat.add_assoc _ _ _))⟩)));try go_wp2_with (first|(go_at_call 89;(with_reducible refine (spec_l23One_e.calls k1 _ l0 x3_1 false _ ?side1 ?side2 ?side3 A4.out).mono ?_);(case side1=>exact zy);(case side2=>first|(with_reducible assumption)|assumption|decide|exact decide_eq_true zdd|exact decide_eq_true zbt);(case side3=>first|(with_reducible assumption)|assumption|decide|exact decide_eq_true zdd|exact decide_eq_true zbt);rintro e w' ⟨rfl,⟨nd,rfl⟩⟩;(try first|exact ⟨rfl,_,World.drewN_drewN _ _ _⟩|exact ⟨rfl,_,Eq.trans (World.drewN_drewN _ _ _) (congrArg (World.drewN _) (Nat.add_assoc _ _ _))⟩))))
      go_ret
      exact ⟨zm,zw⟩
    ·rw [if_neg c3] at H
     exact absurd H zdd
   ·rw [if_neg c2] at H
    have c2b0:decide (x3_1<(l0.length:Int))=false:=decide_eq_false c2
    clear c2
    obtain rfl:=Option.some.inj H
    go_wp2
    repeat (go_quiet (fail);try go_wp2)
    go_ret
    exact ⟨zm,zw⟩

def spec_l23Answers.l0:Nat→List (S125)→Int→Option (Bool)
 | 0,_,_=>none
 | k+1,x0,x3=>if x3<(x0.length:Int) then (if 0≤x3 then ((spec_l01Name.f k ((rd_T125 x0 x3).f0)).bind fun t103=>(if t103=true then ((spec_l01Name.f k ((rd_T125 x0 x3).f1)).bind fun t104=>(if t104=true then ((spec_l00In.f ((rd_T125 x0 x3).f2) 0 10000).bind fun t105=>(if t105=true then (spec_l23Answers.l0 k x0 (wrap64 (x3+1))) else (some false))) else (some false))) else (some false))) else (none)) else (some (decide ((x0.length:Int)≤8)))
def spec_l23Answers.f (k:Nat) (l0:List (S125)):Option (Bool):=spec_l23Answers.l0 k l0 0
set_option maxHeartbeats 8000000 in
set_option maxRecDepth 100000 in
theorem spec_l23Answers.calls (k:Nat) (A0:Option Addr) (c0:Nat) (l0:List (S125)) (r:Bool) (w:World) (hr0:Kd.C k125 w A0 l0.length l0) (hc0:l0.length≤c0) (h:spec_l23Answers.f k l0=some r) :
 Calls Try.prog 86 #[.slice A0 l0.length c0] w fun e w'=>e = .returned (.bool r)∧Below w.heap.size w w':=by
 have hu125:=Try.underlying125
 have HR0:=Aside0.mk hr0
 have HC0:=Aside0.mk hc0
 clear hr0 hc0
 have HB:=Aside0.mk (Below.refl w.heap.size w)
 have H:(spec_l23Answers.l0 k l0 0)=some r:=h
 clear h
 have H':=Aside0.mk H
 clear H
 go_enter Try.func86,Try.ntmps86
 go_wp2
 go_loopg [3] k (fun kq v3 w'=>∃(x3_1:Int),v3 = .int .i64 x3_1∧Aside0 (spec_l23Answers.l0 kq l0 x3_1=some r)∧Aside0 (kq≤k)∧Aside0 (Below w.heap.size w w'))
 case atStart=>exact ⟨(0),zm,H',⟨Nat.le_refl _⟩,⟨za⟩⟩
 case round=>
  clear H'
  obtain ⟨x3_1,rfl,HA,HK1,HB⟩:=hrel
  cases gk with
  | zero=>exact absurd HA.out (by simp [spec_l23Answers.l0])
  | succ k1=>
   have H:=HA.out
   clear HA
   simp only [spec_l23Answers.l0] at H
   by_cases c2:x3_1<(l0.length:Int)
   ·rw [if_pos c2] at H
    have c2b0:decide (x3_1<(l0.length:Int))=true:=decide_eq_true c2
    clear c2
    by_cases c3:0≤x3_1
    ·rw [if_pos c3] at H
     have c3b0:decide (0≤x3_1)=true:=decide_eq_true c3
     clear c3
     replace H:=Option.bind_eq_some_iff.mp H
     obtain ⟨t103,A40,H⟩:=H
     replace H:(if t103=true then ((spec_l01Name.f k1 ((rd_T125 l0 x3_1).f1)).bind fun t104=>(if t104=true then ((spec_l00In.f ((rd_T125 l0 x3_1).f2) 0 10000).bind fun t105=>(if t105=true then (spec_l23Answers.l0 k1 l0 (wrap64 (x3_1+1))) else (some false))) else (some false))) else (some false))=some r:=H
     have A4:=Aside0.mk A40
     clear A40
     by_cases c5:t103=true
     ·subst c5
      have H1:((spec_l01Name.f k1 ((rd_T125 l0 x3_1).f1)).bind fun t104=>(if t104=true then ((spec_l00In.f ((rd_T125 l0 x3_1).f2) 0 10000).bind fun t105=>(if t105=true then (spec_l23Answers.l0 k1 l0 (wrap64 (x3_1+1))) else (some false))) else (some false)))=some r:=by rw [if_pos rfl] at H;exact H
      clear H
      have H:=H1
      clear H1
      replace H:=Option.bind_eq_some_iff.mp H
      obtain ⟨t104,A60,H⟩:=H
      replace H:(if t104=true then ((spec_l00In.f ((rd_T125 l0 x3_1).f2) 0 10000).bind fun t105=>(if t105=true then (spec_l23Answers.l0 k1 l0 (wrap64 (x3_1+1))) else (some false))) else (some false))=some r:=H
      have A6:=Aside0.mk A60
      clear A60
      by_cases c7:t104=true
      ·subst c7
       have H1:((spec_l00In.f ((rd_T125 l0 x3_1).f2) 0 10000).bind fun t105=>(if t105=true then (spec_l23Answers.l0 k1 l0 (wrap64 (x3_1+1))) else (some false)))=some r:=by rw [if_pos rfl] at H;exact H
       clear H
       have H:=H1
       clear H1
       replace H:=Option.bind_eq_some_iff.mp H
       obtain ⟨t105,A80,H⟩:=H
       replace H:(if t105=true then (spec_l23Answers.l0 k1 l0 (wrap64 (x3_1+1))) else (some false))=some r:=H
       have A8:=Aside0.mk A80
       clear A80
       by_cases c9:t105=true
       ·subst c9
        have H1:(spec_l23Answers.l0 k1 l0 (wrap64 (x3_1+1)))=some r:=by rw [if_pos rfl] at H;exact H
        clear H
        have H:=H1
        clear H1
        have H':=Aside0.mk H
        clear H
        have p101:0≤(x3_1:Int):=of_decide_eq_true zb
        have q101:x3_1<(l0.length:Int):=of_decide_eq_true zb
        obtain ⟨ad101,e101,hx101_0,hx101_1,hx101_2⟩:=at_T125 HR0.out x3_1 p101 q101
        cases e101
        replace hx101_0:=(HB.out.cell (World.block_lt_of_cell? w _ hx101_0)).trans hx101_0
        replace hx101_1:=(HB.out.cell (World.block_lt_of_cell? w _ hx101_1)).trans hx101_1
        replace hx101_2:=(HB.out.cell (World.block_lt_of_cell? w _ hx101_2)).trans hx101_2
        replace p101:=eq_true p101
        replace q101:=eq_true q101
        go_wp2_with (first|((with_reducible refine gate_dst (N:=4) rfl ?_);refine box_event ?hg (N:=4) ?hd (cs:=#[.string (⟨#[]⟩:ByteArray),.string (⟨#[]⟩:ByteArray),.int .i64 0]) (t:=125) ?hr ?_;(case hd=>rfl);(case hg=>rfl);(case hr=>exact zt);intro gb102 hg w10 hbox hb;have n0_:=Aside0.mk (below_step za hb);have n1_:=Aside0.mk (hbox);have n2_:=Aside0.mk ((by rw [hg];exact (below_size za):w.heap.size≤gb102));have n3_:=Aside0.mk ((by rw [hg];exact (below_size za):w.heap.size≤gb102));clear HB;have HB:=n0_;have BK102:=n1_;have GW102:=n2_;have GE102:=n3_;clear n0_ n1_ n2_ n3_;clear hb hbox hg;have hcz11_0:w10.cell? ⟨gb102,0,none⟩=some (.string (⟨#[]⟩:ByteArray)):=(blk_cell BK102.out 0).trans rfl;have hcz11_1:w10.cell? ⟨gb102,1,none⟩=some (.string (⟨#[]⟩:ByteArray)):=(blk_cell BK102.out 1).trans rfl;have hcz11_2:w10.cell? ⟨gb102,2,none⟩=some (.int .i64 0):=(blk_cell BK102.out 2).trans rfl;have hfz11_0:=blk_frozen BK102.out 0;have hfz11_1:=blk_frozen BK102.out 1;have hfz11_2:=blk_frozen BK102.out 2)|((with_reducible refine gate_callee (f:=131) rfl ?_);refine goesL_ (some 17) rfl rfl Try.func131 zbk rfl #[.string ((rd_T125 l0 x3_1).f0)] rfl zc ?_;(with_reducible refine (spec_l01Name.calls k1 ((rd_T125 l0 x3_1).f0) true _ A4.out).mono ?_);rintro e w' ⟨rfl,⟨nd,rfl⟩⟩;refine ⟨_,rfl,?_⟩)|(go_at_call 131;(with_reducible refine (spec_l01Name.calls k1 ((rd_T125 l0 x3_1).f1) true _ A6.out).mono ?_);rintro e w' ⟨rfl,⟨nd,rfl⟩⟩)|(go_at_call 87;(with_reducible refine (spec_l00In.calls ((rd_T125 l0 x3_1).f2) 0 10000 true _ A8.out).mono ?_);rintro e w' ⟨rfl,⟨nd,rfl⟩⟩))
        go_roundg k1
        case measure=>have:=HK1.out;omega
        case rel=>exact ⟨(wrap64 (x3_1+1)),zm,H',⟨zdn⟩,⟨zp⟩⟩
       ·replace c9:=Bool.eq_false_iff.mpr c9
        subst c9
        have H1:(some false)=some r:=by rw [if_neg (show ¬ (false=true) by decide)] at H;exact H
        clear H
        have H:=H1
        clear H1
        obtain rfl:=Option.some.inj H
        have p101:0≤(x3_1:Int):=of_decide_eq_true zb
        have q101:x3_1<(l0.length:Int):=of_decide_eq_true zb
        obtain ⟨ad101,e101,hx101_0,hx101_1,hx101_2⟩:=at_T125 HR0.out x3_1 p101 q101
        cases e101
        replace hx101_0:=(HB.out.cell (World.block_lt_of_cell? w _ hx101_0)).trans hx101_0
        replace hx101_1:=(HB.out.cell (World.block_lt_of_cell? w _ hx101_1)).trans hx101_1
        replace hx101_2:=(HB.out.cell (World.block_lt_of_cell? w _ hx101_2)).trans hx101_2
        replace p101:=eq_true p101
        replace q101:=eq_true q101
        go_wp2_with (first|((with_reducible refine gate_dst (N:=4) rfl ?_);refine box_event ?hg (N:=4) ?hd (cs:=#[.string (⟨#[]⟩:ByteArray),.string (⟨#[]⟩:ByteArray),.int .i64 0]) (t:=125) ?hr ?_;(case hd=>rfl);(case hg=>rfl);(case hr=>exact zt);intro gb102 hg w12 hbox hb;have n0_:=Aside0.mk (below_step za hb);have n1_:=Aside0.mk (hbox);have n2_:=Aside0.mk ((by rw [hg];exact (below_size za):w.heap.size≤gb102));have n3_:=Aside0.mk ((by rw [hg];exact (below_size za):w.heap.size≤gb102));clear HB;have HB:=n0_;have BK102:=n1_;have GW102:=n2_;have GE102:=n3_;clear n0_ n1_ n2_ n3_;clear hb hbox hg;have hcz13_0:w12.cell? ⟨gb102,0,none⟩=some (.string (⟨#[]⟩:ByteArray)):=(blk_cell BK102.out 0).trans rfl;have hcz13_1:w12.cell? ⟨gb102,1,none⟩=some (.string (⟨#[]⟩:ByteArray)):=(blk_cell BK102.out 1).trans rfl;have hcz13_2:w12.cell? ⟨gb102,2,none⟩=some (.int .i64 0):=(blk_cell BK102.out 2).trans rfl;have hfz13_0:=blk_frozen BK102.out 0;have hfz13_1:=blk_frozen BK102.out 1;have hfz13_2:=blk_frozen BK102.out 2)|((with_reducible refine gate_callee (f:=131) rfl ?_);refine goesL_ (some 17) rfl rfl Try.func131 zbk rfl #[.string ((rd_T125 l0 x3_1).f0)] rfl zc ?_;(with_reducible refine (spec_l01Name.calls k1 ((rd_T125 l0 x3_1).f0) true _ A4.out).mono ?_);rintro e w' ⟨rfl,⟨nd,rfl⟩⟩;refine ⟨_,rfl,?_⟩)|(go_at_call 131;(with_reducible refine (spec_l01Name.calls k1 ((rd_T125 l0 x3_1).f1) true _ A6.out).mono ?_);rintro e w' ⟨rfl,⟨nd,rfl⟩⟩)|(go_at_call 87;(with_reducible refine (spec_l00In.calls ((rd_T125 l0 x3_1).f2) 0 10000 false _ A8.out).mono ?_);rintro e w' ⟨rfl,⟨nd,rfl⟩⟩))
        go_ret
        exact ⟨zk,zp⟩
      ·replace c7:=Bool.eq_false_iff.mpr c7
       subst c7
       have H1:(some false)=some r:=by rw [if_neg (show ¬ (false=true) by decide)] at H;exact H
       clear H
       have H:=H1
       clear H1
       obtain rfl:=Option.some.inj H
       have p101:0≤(x3_1:Int):=of_decide_eq_true zb
       have q101:x3_1<(l0.length:Int):=of_decide_eq_true zb
       obtain ⟨ad101,e101,hx101_0,hx101_1,hx101_2⟩:=at_T125 HR0.out x3_1 p101 q101
       cases e101
       replace hx101_0:=(HB.out.cell (World.block_lt_of_cell? w _ hx101_0)).trans hx101_0
       replace hx101_1:=(HB.out.cell (World.block_lt_of_cell? w _ hx101_1)).trans hx101_1
       replace hx101_2:=(HB.out.cell (World.block_lt_of_cell? w _ hx101_2)).trans hx101_2
       replace p101:=eq_true p101
       replace q101:=eq_true q101
       go_wp2_with (first|((with_reducible refine gate_dst (N:=4) rfl ?_);refine box_event ?hg (N:=4) ?hd (cs:=#[.string (⟨#[]⟩:ByteArray),.string (⟨#[]⟩:ByteArray),.int .i64 0]) (t:=125) ?hr ?_;(case hd=>rfl);(case hg=>rfl);(case hr=>exact zt);intro gb102 hg w14 hbox hb;have n0_:=Aside0.mk (below_step za hb);have n1_:=Aside0.mk (hbox);have n2_:=Aside0.mk ((by rw [hg];exact (below_size za):w.heap.size≤gb102));have n3_:=Aside0.mk ((by rw [hg];exact (below_size za):w.heap.size≤gb102));clear HB;have HB:=n0_;have BK102:=n1_;have GW102:=n2_;have GE102:=n3_;clear n0_ n1_ n2_ n3_;clear hb hbox hg;have hcz15_0:w14.cell? ⟨gb102,0,none⟩=some (.string (⟨#[]⟩:ByteArray)):=(blk_cell BK102.out 0).trans rfl;have hcz15_1:w14.cell? ⟨gb102,1,none⟩=some (.string (⟨#[]⟩:ByteArray)):=(blk_cell BK102.out 1).trans rfl;have hcz15_2:w14.cell? ⟨gb102,2,none⟩=some (.int .i64 0):=(blk_cell BK102.out 2).trans rfl;have hfz15_0:=blk_frozen BK102.out 0;have hfz15_1:=blk_frozen BK102.out 1;have hfz15_2:=blk_frozen BK102.out 2)|((with_reducible refine gate_callee (f:=131) rfl ?_);refine goesL_ (some 17) rfl rfl Try.func131 zbk rfl #[.string ((rd_T125 l0 x3_1).f0)] rfl zc ?_;(with_reducible refine (spec_l01Name.calls k1 ((rd_T125 l0 x3_1).f0) true _ A4.out).mono ?_);rintro e w' ⟨rfl,⟨nd,rfl⟩⟩;refine ⟨_,rfl,?_⟩)|(go_at_call 131;(with_reducible refine (spec_l01Name.calls k1 ((rd_T125 l0 x3_1).f1) false _ A6.out).mono ?_);rintro e w' ⟨rfl,⟨nd,rfl⟩⟩))
       go_ret
       exact ⟨zk,zp⟩
     ·replace c5:=Bool.eq_false_iff.mpr c5
      subst c5
      have H1:(some false)=some r:=by rw [if_neg (show ¬ (false=true) by decide)] at H;exact H
      clear H
      have H:=H1
      clear H1
      obtain rfl:=Option.some.inj H
      have p101:0≤(x3_1:Int):=of_decide_eq_true zb
      have q101:x3_1<(l0.length:Int):=of_decide_eq_true zb
      obtain ⟨ad101,e101,hx101_0,hx101_1,hx101_2⟩:=at_T125 HR0.out x3_1 p101 q101
      cases e101
      replace hx101_0:=(HB.out.cell (World.block_lt_of_cell? w _ hx101_0)).trans hx101_0
      replace hx101_1:=(HB.out.cell (World.block_lt_of_cell? w _ hx101_1)).trans hx101_1
      replace hx101_2:=(HB.out.cell (World.block_lt_of_cell? w _ hx101_2)).trans hx101_2
      replace p101:=eq_true p101
      replace q101:=eq_true q101
      go_wp2_with (first|((with_reducible refine gate_dst (N:=4) rfl ?_);refine box_event ?hg (N:=4) ?hd (cs:=#[.string (⟨#[]⟩:ByteArray),.string (⟨#[]⟩:ByteArray),.int .i64 0]) (t:=125) ?hr ?_;(case hd=>rfl);(case hg=>rfl);(case hr=>exact zt);intro gb102 hg w16 hbox hb;have n0_:=Aside0.mk (below_step za hb);have n1_:=Aside0.mk (hbox);have n2_:=Aside0.mk ((by rw [hg];exact (below_size za):w.heap.size≤gb102));have n3_:=Aside0.mk ((by rw [hg];exact (below_size za):w.heap.size≤gb102));clear HB;have HB:=n0_;have BK102:=n1_;have GW102:=n2_;have GE102:=n3_;clear n0_ n1_ n2_ n3_;clear hb hbox hg;have hcz17_0:w16.cell? ⟨gb102,0,none⟩=some (.string (⟨#[]⟩:ByteArray)):=(blk_cell BK102.out 0).trans rfl;have hcz17_1:w16.cell? ⟨gb102,1,none⟩=some (.string (⟨#[]⟩:ByteArray)):=(blk_cell BK102.out 1).trans rfl;have hcz17_2:w16.cell? ⟨gb102,2,none⟩=some (.int .i64 0):=(blk_cell BK102.out 2).trans rfl;have hfz17_0:=blk_frozen BK102.out 0;have hfz17_1:=blk_frozen BK102.out 1;have hfz17_2:=blk_frozen BK102.out 2)|((with_reducible refine gate_callee (f:=131) rfl ?_);refine goesL_ (some 17) rfl rfl Try.func131 zbk rfl #[.string ((rd_T125 l0 x3_1).f0)] rfl zc ?_;(with_reducible refine (spec_l01Name.calls k1 ((rd_T125 l0 x3_1).f0) false _ A4.out).mono ?_);rintro e w' ⟨rfl,⟨nd,rfl⟩⟩;refine ⟨_,rfl,?_⟩))
      go_ret
      exact ⟨zk,zp⟩
    ·rw [if_neg c3] at H
     exact absurd H zdd
   ·rw [if_neg c2] at H
    have c2b0:decide (x3_1<(l0.length:Int))=false:=decide_eq_false c2
    clear c2
    obtain rfl:=Option.some.inj H
    go_wp2
    go_ret
    exact ⟨zk,za⟩

def spec_l23Begins.l0:Nat→List (S127)→ByteArray→Int→Int→Option (Bool)
 | 0,_,_,_,_=>none
 | k+1,x0,x1,x2,x7=>if x7<(x0.length:Int) then (if 0≤x7 then (if ((rd_T127 x0 x7).f0).toList=x1.toList then (if ((rd_T127 x0 x7).f1)=x2 then (some true) else (spec_l23Begins.l0 k x0 x1 x2 (wrap64 (x7+1)))) else (spec_l23Begins.l0 k x0 x1 x2 (wrap64 (x7+1)))) else (none)) else (some false)
def spec_l23Begins.f (k:Nat) (l0:List (S127)) (a1:ByteArray) (a2:Int):Option (Bool):=spec_l23Begins.l0 k l0 a1 a2 0
set_option maxHeartbeats 8000000 in
set_option maxRecDepth 100000 in
theorem spec_l23Begins.calls (k:Nat) (A0:Option Addr) (c0:Nat) (l0:List (S127)) (a1:ByteArray) (a2:Int) (r:Bool) (w:World) (hr0:Kd.C k127 w A0 l0.length l0) (hc0:l0.length≤c0) (h:spec_l23Begins.f k l0 a1 a2=some r) :
 Calls Try.prog 90 #[.slice A0 l0.length c0,.string a1,.int .i64 a2] w fun e w'=>e = .returned (.bool r)∧Drawn0 w w':=by
 have HR0:=Aside0.mk hr0
 have HC0:=Aside0.mk hc0
 clear hr0 hc0
 have H:(spec_l23Begins.l0 k l0 a1 a2 0)=some r:=h
 clear h
 have H':=Aside0.mk H
 clear H
 go_enter Try.func90,Try.ntmps90
 go_wp2
 go_loopg [7] k (fun kq v7 w'=>∃(x7_1:Int),v7 = .int .i64 x7_1∧Aside0 (spec_l23Begins.l0 kq l0 a1 a2 x7_1=some r)∧Aside0 (kq≤k)∧Drawn0 w w')
 case atStart=>exact ⟨(0),zm,H',⟨Nat.le_refl _⟩,zw⟩
 case round=>
  clear H'
  try clear p2
  obtain ⟨x7_1,rfl,HA,HK1,⟨m1,rfl⟩⟩:=hrel
  cases gk with
  | zero=>exact absurd HA.out (by simp [spec_l23Begins.l0])
  | succ k1=>
   have H:=HA.out
   clear HA
   simp only [spec_l23Begins.l0] at H
   by_cases c4:x7_1<(l0.length:Int)
   ·rw [if_pos c4] at H
    have c4b0:decide (x7_1<(l0.length:Int))=true:=decide_eq_true c4
    clear c4
    by_cases c5:0≤x7_1
    ·rw [if_pos c5] at H
     have c5b0:decide (0≤x7_1)=true:=decide_eq_true c5
     clear c5
     by_cases c6:((rd_T127 l0 x7_1).f0).toList=a1.toList
     ·rw [if_pos c6] at H
      have c6b0:(((rd_T127 l0 x7_1).f0).toList == a1.toList)=true:=beq_iff_eq.mpr c6
      have c6b1:(((rd_T127 l0 x7_1).f0).toList != a1.toList)=false:=bne_eq_false_iff_eq.mpr c6
      clear c6
      by_cases c7:((rd_T127 l0 x7_1).f1)=a2
      ·rw [if_pos c7] at H
       have c7b0:(((rd_T127 l0 x7_1).f1) == a2)=true:=beq_iff_eq.mpr c7
       have c7b1:(((rd_T127 l0 x7_1).f1) != a2)=false:=bne_eq_false_iff_eq.mpr c7
       clear c7
       obtain rfl:=Option.some.inj H
       have p101:0≤(x7_1:Int):=of_decide_eq_true zb
       have q101:x7_1<(l0.length:Int):=of_decide_eq_true zb
       obtain ⟨ad101,e101,hx101_0,hx101_1,hx101_2⟩:=at_T127 HR0.out x7_1 p101 q101
       cases e101
       replace p101:=eq_true p101
       replace q101:=eq_true q101
       have p102:0≤(x7_1:Int):=of_decide_eq_true zb
       have q102:x7_1<(l0.length:Int):=of_decide_eq_true zb
       obtain ⟨ad102,e102,hx102_0,hx102_1,hx102_2⟩:=at_T127 HR0.out x7_1 p102 q102
       obtain rfl:ad101=ad102:=(by injection e102)
       replace p102:=eq_true p102
       replace q102:=eq_true q102
       go_wp2
       go_ret
       exact ⟨zm,zw⟩
      ·rw [if_neg c7] at H
       have c7b0:(((rd_T127 l0 x7_1).f1) == a2)=false:=beq_eq_false_iff_ne.mpr c7
       have c7b1:(((rd_T127 l0 x7_1).f1) != a2)=true:=bne_iff_ne.mpr c7
       have H':=Aside0.mk H
       clear H
       have p101:0≤(x7_1:Int):=of_decide_eq_true zb
       have q101:x7_1<(l0.length:Int):=of_decide_eq_true zb
       obtain ⟨ad101,e101,hx101_0,hx101_1,hx101_2⟩:=at_T127 HR0.out x7_1 p101 q101
       cases e101
       replace p101:=eq_true p101
       replace q101:=eq_true q101
       have p102:0≤(x7_1:Int):=of_decide_eq_true zb
       have q102:x7_1<(l0.length:Int):=of_decide_eq_true zb
       obtain ⟨ad102,e102,hx102_0,hx102_1,hx102_2⟩:=at_T127 HR0.out x7_1 p102 q102
       obtain rfl:ad101=ad102:=(by injection e102)
       replace p102:=eq_true p102
       replace q102:=eq_true q102
       go_wp2
       go_roundg k1
       case measure=>have:=HK1.out;omega
       case rel=>exact ⟨(wrap64 (x7_1+1)),zm,H',⟨zdn⟩,zw⟩
     ·rw [if_neg c6] at H
      have c6b0:(((rd_T127 l0 x7_1).f0).toList == a1.toList)=false:=beq_eq_false_iff_ne.mpr c6
      have c6b1:(((rd_T127 l0 x7_1).f0).toList != a1.toList)=true:=bne_iff_ne.mpr c6
      have H':=Aside0.mk H
      clear H
      have p101:0≤(x7_1:Int):=of_decide_eq_true zb
      have q101:x7_1<(l0.length:Int):=of_decide_eq_true zb
      obtain ⟨ad101,e101,hx101_0,hx101_1,hx101_2⟩:=at_T127 HR0.out x7_1 p101 q101
      cases e101
      replace p101:=eq_true p101
      replace q101:=eq_true q101
      go_wp2
      go_roundg k1
      case measure=>have:=HK1.out;omega
      case rel=>exact ⟨(wrap64 (x7_1+1)),zm,H',⟨zdn⟩,zw⟩
    ·rw [if_neg c5] at H
     exact absurd H zdd
   ·rw [if_neg c4] at H
    have c4b0:decide (x7_1<(l0.length:Int))=false:=decide_eq_false c4
    clear c4
    obtain rfl:=Option.some.inj H
    go_wp2
    go_ret
    exact ⟨zm,zw⟩

mutual
def spec_l23Missed.l0:Nat→List (S127)→List (S125)→List (List Int)→Int→Option ((List (List Int)))
 | 0,_,_,_,_=>none
 | k+1,x0,x1,x5,x6=>if x6<(x1.length:Int) then (spec_l23Missed.l1 k x0 x1 x5 x6 0) else (some x5)
def spec_l23Missed.l1:Nat→List (S127)→List (S125)→List (List Int)→Int→Int→Option ((List (List Int)))
 | 0,_,_,_,_,_=>none
 | k+1,x0,x1,x5,x6,x7=>if x7<(x0.length:Int) then (if 0≤x7 then (if 0≤x6 then (if x6<(x1.length:Int) then (if ((rd_T127 x0 x7).f0).toList=((rd_T125 x1 x6).f0).toList then ((spec_l23Begins.f k x0 ((rd_T125 x1 x6).f1) (wrap64 ((wrap64 (((rd_T127 x0 x7).f1)+((rd_T127 x0 x7).f2)))+((rd_T125 x1 x6).f2)))).bind fun t109=>(if t109=true then (spec_l23Missed.l1 k x0 x1 x5 x6 (wrap64 (x7+1))) else (if x5.length<5864062014805 then (spec_l23Missed.l1 k x0 x1 (x5++[(([x6,x7]:List Int))]) x6 (wrap64 (x7+1))) else (none)))) else (spec_l23Missed.l1 k x0 x1 x5 x6 (wrap64 (x7+1)))) else (none)) else (none)) else (none)) else (spec_l23Missed.l0 k x0 x1 x5 (wrap64 (x6+1)))
end
def spec_l23Missed.f (k:Nat) (l0:List (S127)) (l1:List (S125)):Option ((List (List Int))):=spec_l23Missed.l0 k l0 l1 (([]:List (List Int))) 0
set_option maxHeartbeats 8000000 in
set_option maxRecDepth 100000 in
theorem spec_l23Missed.calls (k:Nat) (A0:Option Addr) (c0:Nat) (l0:List (S127)) (A1:Option Addr) (c1:Nat) (l1:List (S125)) (r:List (List Int)) (w:World) (hr0:Kd.C k127 w A0 l0.length l0) (hc0:l0.length≤c0) (hr1:Kd.C k125 w A1 l1.length l1) (hc1:l1.length≤c1) (h:spec_l23Missed.f k l0 l1=some r) :
 Calls Try.prog 88 #[.slice A0 l0.length c0,.slice A1 l1.length c1] w fun e w'=>∃v0_:Value,e = .returned (v0_)∧Kd.S (Kd.slice 2 (Kd.int .i64)) 126 w' w.heap.size (fun _=>True) v0_ r∧Below w.heap.size w w':=by
 have hu127:=Try.underlying127
 have HR0:=Aside0.mk hr0
 have HC0:=Aside0.mk hc0
 clear hr0 hc0
 have HR1:=Aside0.mk hr1
 have HC1:=Aside0.mk hc1
 clear hr1 hc1
 have HB:=Aside0.mk (Below.refl w.heap.size w)
 have H:(spec_l23Missed.l0 k l0 l1 (([]:List (List Int))) 0)=some r:=h
 clear h
 obtain ⟨y101,hy101⟩:∃y_:List (List Int),y_=(([]:List (List Int))):=⟨_,rfl⟩
 replace H:(spec_l23Missed.l0 k l0 l1 y101 0)=some r:=by first|(rw [hy101];with_reducible exact H)|(have H2_:=(Option.bind_some _ _).symm.trans H;rw [hy101];with_reducible exact H2_)|(have H2_:=(Option.bind_some _ _).symm.trans H;with_reducible exact H2_)|with_reducible exact H|(rw [hy101];exact H)|exact H
 have Ny101:=Aside0.mk hy101
 clear hy101
 have H':=Aside0.mk H
 clear H
 go_enter Try.func88,Try.ntmps88
 go_wp2_with (first|((with_reducible refine gate_dst (N:=9) rfl ?_);refine Kd.S_lit (Kd.slice 2 (Kd.int .i64)) _ 126 ?hg (N:=9) ?hd (xs:=([]:List (List Int))) (inner:=[]) (ok:=fun _=>True) (okp:=fun _=>True) ?hr ?hp (fun _ hk=>hk) trivial (Below.refl _ _) (Nat.le_refl _) zdd ?_;(case hd=>rfl);(case hg=>rfl);(case hr=>exact zt);(case hp=>exact (Reps.none _ _));intro v102 w3 ho4 hb hg_ hnew_;clear hg_ hnew_;(first|rw [←Ny101.out] at ho4|(simp only [Int.reduceToNat] at ho4;rw [←Ny101.out] at ho4));have HO103:=Aside0.mk (Kd.S_lower ho4 (below_size za));replace HB:=Aside0.mk (below_step za hb);clear hb ho4))
 repeat (go_quiet (first|((with_reducible refine gate_dst (N:=9) rfl ?_);refine Kd.S_lit (Kd.slice 2 (Kd.int .i64)) _ 126 ?hg (N:=9) ?hd (xs:=([]:List (List Int))) (inner:=[]) (ok:=fun _=>True) (okp:=fun _=>True) ?hr ?hp (fun _ hk=>hk) trivial (Below.refl _ _) (Nat.le_refl _) zdd ?_;(case hd=>rfl);(case hg=>rfl);(case hr=>exact zt);(case hp=>exact (Reps.none _ _));intro v102 w3 ho4 hb hg_ hnew_;clear hg_ hnew_;(first|rw [←Ny101.out] at ho4|(simp only [Int.reduceToNat] at ho4;rw [←Ny101.out] at ho4));have HO103:=Aside0.mk (Kd.S_lower ho4 (below_size za));replace HB:=Aside0.mk (below_step za hb);clear hb ho4));try go_wp2_with (first|((with_reducible refine gate_dst (N:=9) rfl ?_);refine Kd.S_lit (Kd.slice 2 (Kd.int .i64)) _ 126 ?hg (N:=9) ?hd (xs:=([]:List (List Int))) (inner:=[]) (ok:=fun _=>True) (okp:=fun _=>True) ?hr ?hp (fun _ hk=>hk) trivial (Below.refl _ _) (Nat.le_refl _) zdd ?_;(case hd=>rfl);(case hg=>rfl);(case hr=>exact zt);(case hp=>exact (Reps.none _ _));intro v102 w3 ho4 hb hg_ hnew_;clear hg_ hnew_;(first|rw [←Ny101.out] at ho4|(simp only [Int.reduceToNat] at ho4;rw [←Ny101.out] at ho4));have HO103:=Aside0.mk (Kd.S_lower ho4 (below_size za));replace HB:=Aside0.mk (below_step za hb);clear hb ho4)))
 go_loopg [5,6] k (fun kq v5 v6 w'=>∃(x5_1:List (List Int)) (x6_1:Int),v6 = .int .i64 x6_1∧Aside0 (spec_l23Missed.l0 kq l0 l1 x5_1 x6_1=some r)∧Aside0 (kq≤k)∧Aside0 (Kd.S (Kd.slice 2 (Kd.int .i64)) 126 w' w.heap.size (fun _=>True) v5 x5_1)∧Aside0 (Below w.heap.size w w'))
 case atStart=>exact ⟨(y101),(0),zm,H',⟨Nat.le_refl _⟩,⟨by (with_reducible repeat (first|apply Kd.S_alloc|apply Kd.S_drewN|apply Kd.S_drew));exact HO103.out⟩,⟨za⟩⟩
 case round=>
  clear H'
  try clear c1
  try clear p2
  obtain ⟨x5_1,x6_1,rfl,HA,HK1,HO_5,HB⟩:=hrel
  cases gk with
  | zero=>exact absurd HA.out (by simp [spec_l23Missed.l0])
  | succ k1=>
   have H:=HA.out
   clear HA
   simp only [spec_l23Missed.l0] at H
   by_cases c5:x6_1<(l1.length:Int)
   ·rw [if_pos c5] at H
    have c5b0:decide (x6_1<(l1.length:Int))=true:=decide_eq_true c5
    clear c5
    have H':=Aside0.mk H
    clear H
    go_wp2
    repeat (go_quiet (fail);try go_wp2)
    go_loopg [5,7] k1 (fun kq v5 v7 w'=>∃(x5_2:List (List Int)) (x7_2:Int),v7 = .int .i64 x7_2∧Aside0 (spec_l23Missed.l1 kq l0 l1 x5_2 x6_1 x7_2=some r)∧Aside0 (kq≤k1)∧Aside0 (Kd.S (Kd.slice 2 (Kd.int .i64)) 126 w' w.heap.size (fun _=>True) v5 x5_2)∧Aside0 (Below w.heap.size w w'))
    case atStart=>exact ⟨(x5_1),(0),zm,H',⟨Nat.le_refl _⟩,⟨zav⟩,⟨za⟩⟩
    case round=>
     clear H'
     try clear c1
     try clear p2
     try clear c5
     try clear c5b0
     try clear p2
     obtain ⟨x5_2,x7_2,rfl,HA,HK2,HO_5,HB⟩:=hrel
     cases gk with
     | zero=>exact absurd HA.out (by simp [spec_l23Missed.l1])
     | succ k2=>
      have H:=HA.out
      clear HA
      simp only [spec_l23Missed.l1] at H
      by_cases c6:x7_2<(l0.length:Int)
      ·rw [if_pos c6] at H
       have c6b0:decide (x7_2<(l0.length:Int))=true:=decide_eq_true c6
       clear c6
       by_cases c7:0≤x7_2
       ·rw [if_pos c7] at H
        have c7b0:decide (0≤x7_2)=true:=decide_eq_true c7
        clear c7
        by_cases c8:0≤x6_1
        ·rw [if_pos c8] at H
         have c8b0:decide (0≤x6_1)=true:=decide_eq_true c8
         clear c8
         by_cases c9:x6_1<(l1.length:Int)
         ·rw [if_pos c9] at H
          have c9b0:decide (x6_1<(l1.length:Int))=true:=decide_eq_true c9
          clear c9
          by_cases c10:((rd_T127 l0 x7_2).f0).toList=((rd_T125 l1 x6_1).f0).toList
          ·rw [if_pos c10] at H
           have c10b0:(((rd_T127 l0 x7_2).f0).toList == ((rd_T125 l1 x6_1).f0).toList)=true:=beq_iff_eq.mpr c10
           have c10b1:(((rd_T127 l0 x7_2).f0).toList != ((rd_T125 l1 x6_1).f0).toList)=false:=bne_eq_false_iff_eq.mpr c10
           clear c10
           replace H:=Option.bind_eq_some_iff.mp H
           obtain ⟨t109,A110,H⟩:=H
           replace H:(if t109=true then (spec_l23Missed.l1 k2 l0 l1 x5_2 x6_1 (wrap64 (x7_2+1))) else (if x5_2.length<5864062014805 then (spec_l23Missed.l1 k2 l0 l1 (x5_2++[(([x6_1,x7_2]:List Int))]) x6_1 (wrap64 (x7_2+1))) else (none)))=some r:=H
           have A11:=Aside0.mk A110
           clear A110
           by_cases c12:t109=true
           ·subst c12
            have H1:(spec_l23Missed.l1 k2 l0 l1 x5_2 x6_1 (wrap64 (x7_2+1)))=some r:=by rw [if_pos rfl] at H;exact H
            clear H
            have H:=H1
            clear H1
            have H':=Aside0.mk H
            clear H
            have p104:0≤(x7_2:Int):=of_decide_eq_true zb
            have q104:x7_2<(l0.length:Int):=of_decide_eq_true zb
            obtain ⟨ad104,e104,hx104_0,hx104_1,hx104_2⟩:=at_T127 HR0.out x7_2 p104 q104
            cases e104
            replace hx104_0:=(HB.out.cell (World.block_lt_of_cell? w _ hx104_0)).trans hx104_0
            replace hx104_1:=(HB.out.cell (World.block_lt_of_cell? w _ hx104_1)).trans hx104_1
            replace hx104_2:=(HB.out.cell (World.block_lt_of_cell? w _ hx104_2)).trans hx104_2
            replace p104:=eq_true p104
            replace q104:=eq_true q104
            go_wp2_with (first|((with_reducible refine gate_dst (N:=8) rfl ?_);refine box_event ?hg (N:=8) ?hd (cs:=#[.string (⟨#[]⟩:ByteArray),.int .i64 0,.int .i64 0]) (t:=127) ?hr ?_;(case hd=>rfl);(case hg=>rfl);(case hr=>exact zt);intro gb105 hg w13 hbox hb;have n0_:=Aside0.mk (Kd.S_below zav hb);have n1_:=Aside0.mk (below_step za hb);have n2_:=Aside0.mk (hbox);have n3_:=Aside0.mk ((by rw [hg];exact (below_size za):w.heap.size≤gb105));have n4_:=Aside0.mk ((by rw [hg];exact (below_size za):w.heap.size≤gb105));clear HO_5;clear HB;have HO_5:=n0_;have HB:=n1_;have BK105:=n2_;have GW105:=n3_;have GE105:=n4_;clear n0_ n1_ n2_ n3_ n4_;clear hb hbox hg;have hcz14_0:w13.cell? ⟨gb105,0,none⟩=some (.string (⟨#[]⟩:ByteArray)):=(blk_cell BK105.out 0).trans rfl;have hcz14_1:w13.cell? ⟨gb105,1,none⟩=some (.int .i64 0):=(blk_cell BK105.out 1).trans rfl;have hcz14_2:w13.cell? ⟨gb105,2,none⟩=some (.int .i64 0):=(blk_cell BK105.out 2).trans rfl;have hfz14_0:=blk_frozen BK105.out 0;have hfz14_1:=blk_frozen BK105.out 1;have hfz14_2:=blk_frozen BK105.out 2;have p106:0≤(x6_1:Int):=of_decide_eq_true zb;have q106:x6_1<(l1.length:Int):=of_decide_eq_true zb;obtain ⟨ad106,e106,hx106_0,hx106_1,hx106_2⟩:=at_T125 HR1.out x6_1 p106 q106;cases e106;have hn106_0:ad106.block≠gb105:=Nat.ne_of_lt (Nat.lt_of_lt_of_le (by have:=World.block_lt_of_cell? _ _ hx106_0;first|rwa [add_block] at this|exact this) GW105.out);have hn106_1:ad106.block≠gb105:=Nat.ne_of_lt (Nat.lt_of_lt_of_le (by have:=World.block_lt_of_cell? _ _ hx106_0;first|rwa [add_block] at this|exact this) GW105.out);have hn106_2:ad106.block≠gb105:=Nat.ne_of_lt (Nat.lt_of_lt_of_le (by have:=World.block_lt_of_cell? _ _ hx106_0;first|rwa [add_block] at this|exact this) GW105.out);replace hx106_0:=(HB.out.cell (World.block_lt_of_cell? w _ hx106_0)).trans hx106_0;replace hx106_1:=(HB.out.cell (World.block_lt_of_cell? w _ hx106_1)).trans hx106_1;replace hx106_2:=(HB.out.cell (World.block_lt_of_cell? w _ hx106_2)).trans hx106_2;replace hx106_0:=(cell_far (p:=⟨gb105,0,none⟩) zai (.string ((rd_T127 l0 x7_2).f0))).trans hx106_0;replace hx106_1:=(cell_far (p:=⟨gb105,0,none⟩) zai (.string ((rd_T127 l0 x7_2).f0))).trans hx106_1;replace hx106_2:=(cell_far (p:=⟨gb105,0,none⟩) zai (.string ((rd_T127 l0 x7_2).f0))).trans hx106_2;replace hx106_0:=(cell_far (p:=⟨gb105,1,none⟩) zaj (.int .i64 ((rd_T127 l0 x7_2).f1))).trans hx106_0;replace hx106_1:=(cell_far (p:=⟨gb105,1,none⟩) zaj (.int .i64 ((rd_T127 l0 x7_2).f1))).trans hx106_1;replace hx106_2:=(cell_far (p:=⟨gb105,1,none⟩) zaj (.int .i64 ((rd_T127 l0 x7_2).f1))).trans hx106_2;replace hx106_0:=(cell_far (p:=⟨gb105,2,none⟩) zak (.int .i64 ((rd_T127 l0 x7_2).f2))).trans hx106_0;replace hx106_1:=(cell_far (p:=⟨gb105,2,none⟩) zak (.int .i64 ((rd_T127 l0 x7_2).f2))).trans hx106_1;replace hx106_2:=(cell_far (p:=⟨gb105,2,none⟩) zak (.int .i64 ((rd_T127 l0 x7_2).f2))).trans hx106_2;(try have hy106_0:=fun (n_:Nat)=>(show (((((w13.drewN n_).setCell ⟨gb105,0,none⟩ (.string ((rd_T127 l0 x7_2).f0))).setCell ⟨gb105,1,none⟩ (.int .i64 ((rd_T127 l0 x7_2).f1))).setCell ⟨gb105,2,none⟩ (.int .i64 ((rd_T127 l0 x7_2).f2)))).cell? _=some _ from hx106_0));(try have hy106_1:=fun (n_:Nat)=>(show (((((w13.drewN n_).setCell ⟨gb105,0,none⟩ (.string ((rd_T127 l0 x7_2).f0))).setCell ⟨gb105,1,none⟩ (.int .i64 ((rd_T127 l0 x7_2).f1))).setCell ⟨gb105,2,none⟩ (.int .i64 ((rd_T127 l0 x7_2).f2)))).cell? _=some _ from hx106_1));(try have hy106_2:=fun (n_:Nat)=>(show (((((w13.drewN n_).setCell ⟨gb105,0,none⟩ (.string ((rd_T127 l0 x7_2).f0))).setCell ⟨gb105,1,none⟩ (.int .i64 ((rd_T127 l0 x7_2).f1))).setCell ⟨gb105,2,none⟩ (.int .i64 ((rd_T127 l0 x7_2).f2)))).cell? _=some _ from hx106_2));clear hn106_0;clear hn106_1;clear hn106_2;replace p106:=eq_true p106;replace q106:=eq_true q106;have p107:0≤(x6_1:Int):=of_decide_eq_true zb;have q107:x6_1<(l1.length:Int):=of_decide_eq_true zb;obtain ⟨ad107,e107,hx107_0,hx107_1,hx107_2⟩:=at_T125 HR1.out x6_1 p107 q107;obtain rfl:ad106=ad107:=(by injection e107);have hn107_0:ad106.block≠gb105:=Nat.ne_of_lt (Nat.lt_of_lt_of_le (by have:=World.block_lt_of_cell? _ _ hx107_0;first|rwa [add_block] at this|exact this) GW105.out);have hn107_1:ad106.block≠gb105:=Nat.ne_of_lt (Nat.lt_of_lt_of_le (by have:=World.block_lt_of_cell? _ _ hx107_0;first|rwa [add_block] at this|exact this) GW105.out);have hn107_2:ad106.block≠gb105:=Nat.ne_of_lt (Nat.lt_of_lt_of_le (by have:=World.block_lt_of_cell? _ _ hx107_0;first|rwa [add_block] at this|exact this) GW105.out);replace hx107_0:=(HB.out.cell (World.block_lt_of_cell? w _ hx107_0)).trans hx107_0;replace hx107_1:=(HB.out.cell (World.block_lt_of_cell? w _ hx107_1)).trans hx107_1;replace hx107_2:=(HB.out.cell (World.block_lt_of_cell? w _ hx107_2)).trans hx107_2;replace hx107_0:=(cell_far (p:=⟨gb105,0,none⟩) zbd (.string ((rd_T127 l0 x7_2).f0))).trans hx107_0;replace hx107_1:=(cell_far (p:=⟨gb105,0,none⟩) zbd (.string ((rd_T127 l0 x7_2).f0))).trans hx107_1;replace hx107_2:=(cell_far (p:=⟨gb105,0,none⟩) zbd (.string ((rd_T127 l0 x7_2).f0))).trans hx107_2;replace hx107_0:=(cell_far (p:=⟨gb105,1,none⟩) zbe (.int .i64 ((rd_T127 l0 x7_2).f1))).trans hx107_0;replace hx107_1:=(cell_far (p:=⟨gb105,1,none⟩) zbe (.int .i64 ((rd_T127 l0 x7_2).f1))).trans hx107_1;replace hx107_2:=(cell_far (p:=⟨gb105,1,none⟩) zbe (.int .i64 ((rd_T127 l0 x7_2).f1))).trans hx107_2;replace hx107_0:=(cell_far (p:=⟨gb105,2,none⟩) zbf (.int .i64 ((rd_T127 l0 x7_2).f2))).trans hx107_0;replace hx107_1:=(cell_far (p:=⟨gb105,2,none⟩) zbf (.int .i64 ((rd_T127 l0 x7_2).f2))).trans hx107_1;replace hx107_2:=(cell_far (p:=⟨gb105,2,none⟩) zbf (.int .i64 ((rd_T127 l0 x7_2).f2))).trans hx107_2;(try have hy107_0:=fun (n_:Nat)=>(show (((((w13.drewN n_).setCell ⟨gb105,0,none⟩ (.string ((rd_T127 l0 x7_2).f0))).setCell ⟨gb105,1,none⟩ (.int .i64 ((rd_T127 l0 x7_2).f1))).setCell ⟨gb105,2,none⟩ (.int .i64 ((rd_T127 l0 x7_2).f2)))).cell? _=some _ from hx107_0));(try have hy107_1:=fun (n_:Nat)=>(show (((((w13.drewN n_).setCell ⟨gb105,0,none⟩ (.string ((rd_T127 l0 x7_2).f0))).setCell ⟨gb105,1,none⟩ (.int .i64 ((rd_T127 l0 x7_2).f1))).setCell ⟨gb105,2,none⟩ (.int .i64 ((rd_T127 l0 x7_2).f2)))).cell? _=some _ from hx107_1));(try have hy107_2:=fun (n_:Nat)=>(show (((((w13.drewN n_).setCell ⟨gb105,0,none⟩ (.string ((rd_T127 l0 x7_2).f0))).setCell ⟨gb105,1,none⟩ (.int .i64 ((rd_T127 l0 x7_2).f1))).setCell ⟨gb105,2,none⟩ (.int .i64 ((rd_T127 l0 x7_2).f2)))).cell? _=some _ from hx107_2));clear hn107_0;clear hn107_1;clear hn107_2;replace p107:=eq_true p107;replace q107:=eq_true q107;have p108:0≤(x6_1:Int):=of_decide_eq_true zb;have q108:x6_1<(l1.length:Int):=of_decide_eq_true zb;obtain ⟨ad108,e108,hx108_0,hx108_1,hx108_2⟩:=at_T125 HR1.out x6_1 p108 q108;obtain rfl:ad106=ad108:=(by injection e108);have hn108_0:ad106.block≠gb105:=Nat.ne_of_lt (Nat.lt_of_lt_of_le (by have:=World.block_lt_of_cell? _ _ hx108_0;first|rwa [add_block] at this|exact this) GW105.out);have hn108_1:ad106.block≠gb105:=Nat.ne_of_lt (Nat.lt_of_lt_of_le (by have:=World.block_lt_of_cell? _ _ hx108_0;first|rwa [add_block] at this|exact this) GW105.out);have hn108_2:ad106.block≠gb105:=Nat.ne_of_lt (Nat.lt_of_lt_of_le (by have:=World.block_lt_of_cell? _ _ hx108_0;first|rwa [add_block] at this|exact this) GW105.out);replace hx108_0:=(HB.out.cell (World.block_lt_of_cell? w _ hx108_0)).trans hx108_0;replace hx108_1:=(HB.out.cell (World.block_lt_of_cell? w _ hx108_1)).trans hx108_1;replace hx108_2:=(HB.out.cell (World.block_lt_of_cell? w _ hx108_2)).trans hx108_2;replace hx108_0:=(cell_far (p:=⟨gb105,0,none⟩) zbg (.string ((rd_T127 l0 x7_2).f0))).trans hx108_0;replace hx108_1:=(cell_far (p:=⟨gb105,0,none⟩) zbg (.string ((rd_T127 l0 x7_2).f0))).trans hx108_1;replace hx108_2:=(cell_far (p:=⟨gb105,0,none⟩) zbg (.string ((rd_T127 l0 x7_2).f0))).trans hx108_2;replace hx108_0:=(cell_far (p:=⟨gb105,1,none⟩) zbh (.int .i64 ((rd_T127 l0 x7_2).f1))).trans hx108_0;replace hx108_1:=(cell_far (p:=⟨gb105,1,none⟩) zbh (.int .i64 ((rd_T127 l0 x7_2).f1))).trans hx108_1;replace hx108_2:=(cell_far (p:=⟨gb105,1,none⟩) zbh (.int .i64 ((rd_T127 l0 x7_2).f1))).trans hx108_2;replace hx108_0:=(cell_far (p:=⟨gb105,2,none⟩) zbi (.int .i64 ((rd_T127 l0 x7_2).f2))).trans hx108_0;replace hx108_1:=(cell_far (p:=⟨gb105,2,none⟩) zbi (.int .i64 ((rd_T127 l0 x7_2).f2))).trans hx108_1;replace hx108_2:=(cell_far (p:=⟨gb105,2,none⟩) zbi (.int .i64 ((rd_T127 l0 x7_2).f2))).trans hx108_2;(try have hy108_0:=fun (n_:Nat)=>(show (((((w13.drewN n_).setCell ⟨gb105,0,none⟩ (.string ((rd_T127 l0 x7_2).f0))).setCell ⟨gb105,1,none⟩ (.int .i64 ((rd_T127 l0 x7_2).f1))).setCell ⟨gb105,2,none⟩ (.int .i64 ((rd_T127 l0 x7_2).f2)))).cell? _=some _ from hx108_0));(try have hy108_1:=fun (n_:Nat)=>(show (((((w13.drewN n_).setCell ⟨gb105,0,none⟩ (.string ((rd_T127 l0 x7_2).f0))).setCell ⟨gb105,1,none⟩ (.int .i64 ((rd_T127 l0 x7_2).f1))).setCell ⟨gb105,2,none⟩ (.int .i64 ((rd_T127 l0 x7_2).f2)))).cell? _=some _ from hx108_1));(try have hy108_2:=fun (n_:Nat)=>(show (((((w13.drewN n_).setCell ⟨gb105,0,none⟩ (.string ((rd_T127 l0 x7_2).f0))).setCell ⟨gb105,1,none⟩ (.int .i64 ((rd_T127 l0 x7_2).f1))).setCell ⟨gb105,2,none⟩ (.int .i64 ((rd_T127 l0 x7_2).f2)))).cell? _=some _ from hx108_2));clear hn108_0;clear hn108_1;clear hn108_2;replace p108:=eq_true p108;replace q108:=eq_true q108)|(go_at_call 90;(with_reducible refine (spec_l23Begins.calls k2 _ _ l0 ((rd_T125 l1 x6_1).f1) (wrap64 ((wrap64 (((rd_T127 l0 x7_2).f1)+((rd_T127 l0 x7_2).f2)))+((rd_T125 l1 x6_1).f2))) true _ ?side1 ?side2 A11.out).mono ?_);(case side1=>exact Kd.C_below HR0.out zaf);(case side2=>exact HC0.out);rintro e w' ⟨rfl,⟨nd,rfl⟩⟩;(try first|exact ⟨rfl,_,World.drewN_drewN _ _ _⟩|exact ⟨rfl,_,Eq.trans (World.drewN_drewN _ _ _) (congrArg (World.drewN _) (Nat.add_assoc _ _ _))⟩)))
            repeat (go_quiet (first|((with_reducible refine gate_dst (N:=8) rfl ?_);refine box_event ?hg (N:=8) ?hd (cs:=#[.string (⟨#[]⟩:ByteArray),.int .i64 0,.int .i64 0]) (t:=127) ?hr ?_;(case hd=>rfl);(case hg=>rfl);(case hr=>exact zt);intro gb105 hg w13 hbox hb;have n0_:=Aside0.mk (Kd.S_below zav hb);have n1_:=Aside0.mk (below_step za hb);have n2_:=Aside0.mk (hbox);have n3_:=Aside0.mk ((by rw [hg];exact (below_size za):w.heap.size≤gb105));have n4_:=Aside0.mk ((by rw [hg];exact (below_size za):w.heap.size≤gb105));clear HO_5;clear HB;have HO_5:=n0_;have HB:=n1_;have BK105:=n2_;have GW105:=n3_;have GE105:=n4_;clear n0_ n1_ n2_ n3_ n4_;clear hb hbox hg;have hcz14_0:w13.cell? ⟨gb105,0,none⟩=some (.string (⟨#[]⟩:ByteArray)):=(blk_cell BK105.out 0).trans rfl;have hcz14_1:w13.cell? ⟨gb105,1,none⟩=some (.int .i64 0):=(blk_cell BK105.out 1).trans rfl;have hcz14_2:w13.cell? ⟨gb105,2,none⟩=some (.int .i64 0):=(blk_cell BK105.out 2).trans rfl;have hfz14_0:=blk_frozen BK105.out 0;have hfz14_1:=blk_frozen BK105.out 1;have hfz14_2:=blk_frozen BK105.out 2;have p106:0≤(x6_1:Int):=of_decide_eq_true zb;have q106:x6_1<(l1.length:Int):=of_decide_eq_true zb;obtain ⟨ad106,e106,hx106_0,hx106_1,hx106_2⟩:=at_T125 HR1.out x6_1 p106 q106;cases e106;have hn106_0:ad106.block≠gb105:=Nat.ne_of_lt (Nat.lt_of_lt_of_le (by have:=World.block_lt_of_cell? _ _ hx106_0;first|rwa [add_block] at this|exact this) GW105.out);have hn106_1:ad106.block≠gb105:=Nat.ne_of_lt (Nat.lt_of_lt_of_le (by have:=World.block_lt_of_cell? _ _ hx106_0;first|rwa [add_block] at this|exact this) GW105.out);have hn106_2:ad106.block≠gb105:=Nat.ne_of_lt (Nat.lt_of_lt_of_le (by have:=World.block_lt_of_cell? _ _ hx106_0;first|rwa [add_block] at this|exact this) GW105.out);replace hx106_0:=(HB.out.cell (World.block_lt_of_cell? w _ hx106_0)).trans hx106_0;replace hx106_1:=(HB.out.cell (World.block_lt_of_cell? w _ hx106_1)).trans hx106_1;replace hx106_2:=(HB.out.cell (World.block_lt_of_cell? w _ hx106_2)).trans hx106_2;replace hx106_0:=(cell_far (p:=⟨gb105,0,none⟩) zai (.string ((rd_T127 l0 x7_2).f0))).trans hx106_0;replace hx106_1:=(cell_far (p:=⟨gb105,0,none⟩) zai (.string ((rd_T127 l0 x7_2).f0))).trans hx106_1;replace hx106_2:=(cell_far (p:=⟨gb105,0,none⟩) zai (.string ((rd_T127 l0 x7_2).f0))).trans hx106_2;replace hx106_0:=(cell_far (p:=⟨gb105,1,none⟩) zaj (.int .i64 ((rd_T127 l0 x7_2).f1))).trans hx106_0;replace hx106_1:=(cell_far (p:=⟨gb105,1,none⟩) zaj (.int .i64 ((rd_T127 l0 x7_2).f1))).trans hx106_1;replace hx106_2:=(cell_far (p:=⟨gb105,1,none⟩) zaj (.int .i64 ((rd_T127 l0 x7_2).f1))).trans hx106_2;replace hx106_0:=(cell_far (p:=⟨gb105,2,none⟩) zak (.int .i64 ((rd_T127 l0 x7_2).f2))).trans hx106_0;replace hx106_1:=(cell_far (p:=⟨gb105,2,none⟩) zak (.int .i64 ((rd_T127 l0 x7_2).f2))).trans hx106_1;replace hx106_2:=(cell_far (p:=⟨gb105,2,none⟩) zak (.int .i64 ((rd_T127 l0 x7_2).f2))).trans hx106_2;(try have hy106_0:=fun (n_:Nat)=>(show (((((w13.drewN n_).setCell ⟨gb105,0,none⟩ (.string ((rd_T127 l0 x7_2).f0))).setCell ⟨gb105,1,none⟩ (.int .i64 ((rd_T127 l0 x7_2).f1))).setCell ⟨gb105,2,none⟩ (.int .i64 ((rd_T127 l0 x7_2).f2)))).cell? _=some _ from hx106_0));(try have hy106_1:=fun (n_:Nat)=>(show (((((w13.drewN n_).setCell ⟨gb105,0,none⟩ (.string ((rd_T127 l0 x7_2).f0))).setCell ⟨gb105,1,none⟩ (.int .i64 ((rd_T127 l0 x7_2).f1))).setCell ⟨gb105,2,none⟩ (.int .i64 ((rd_T127 l0 x7_2).f2)))).cell? _=some _ from hx106_1));(try have hy106_2:=fun (n_:Nat)=>(show (((((w13.drewN n_).setCell ⟨gb105,0,none⟩ (.string ((rd_T127 l0 x7_2).f0))).setCell ⟨gb105,1,none⟩ (.int .i64 ((rd_T127 l0 x7_2).f1))).setCell ⟨gb105,2,none⟩ (.int .i64 ((rd_T127 l0 x7_2).f2)))).cell? _=some _ from hx106_2));clear hn106_0;clear hn106_1;clear hn106_2;replace p106:=eq_true p106;replace q106:=eq_true q106;have p107:0≤(x6_1:Int):=of_decide_eq_true zb;have q107:x6_1<(l1.length:Int):=of_decide_eq_true zb;obtain ⟨ad107,e107,hx107_0,hx107_1,hx107_2⟩:=at_T125 HR1.out x6_1 p107 q107;obtain rfl:ad106=ad107:=(by injection e107);have hn107_0:ad106.block≠gb105:=Nat.ne_of_lt (Nat.lt_of_lt_of_le (by have:=World.block_lt_of_cell? _ _ hx107_0;first|rwa [add_block] at this|exact this) GW105.out);have hn107_1:ad106.block≠gb105:=Nat.ne_of_lt (Nat.lt_of_lt_of_le (by have:=World.block_lt_of_cell? _ _ hx107_0;first|rwa [add_block] at this|exact this) GW105.out);have hn107_2:ad106.block≠gb105:=Nat.ne_of_lt (Nat.lt_of_lt_of_le (by have:=World.block_lt_of_cell? _ _ hx107_0;first|rwa [add_block] at this|exact this) GW105.out);replace hx107_0:=(HB.out.cell (World.block_lt_of_cell? w _ hx107_0)).trans hx107_0;replace hx107_1:=(HB.out.cell (World.block_lt_of_cell? w _ hx107_1)).trans hx107_1;replace hx107_2:=(HB.out.cell (World.block_lt_of_cell? w _ hx107_2)).trans hx107_2;replace hx107_0:=(cell_far (p:=⟨gb105,0,none⟩) zbd (.string ((rd_T127 l0 x7_2).f0))).trans hx107_0;replace hx107_1:=(cell_far (p:=⟨gb105,0,none⟩) zbd (.string ((rd_T127 l0 x7_2).f0))).trans hx107_1;replace hx107_2:=(cell_far (p:=⟨gb105,0,none⟩) zbd (.string ((rd_T127 l0 x7_2).f0))).trans hx107_2;replace hx107_0:=(cell_far (p:=⟨gb105,1,none⟩) zbe (.int .i64 ((rd_T127 l0 x7_2).f1))).trans hx107_0;replace hx107_1:=(cell_far (p:=⟨gb105,1,none⟩) zbe (.int .i64 ((rd_T127 l0 x7_2).f1))).trans hx107_1;replace hx107_2:=(cell_far (p:=⟨gb105,1,none⟩) zbe (.int .i64 ((rd_T127 l0 x7_2).f1))).trans hx107_2;replace hx107_0:=(cell_far (p:=⟨gb105,2,none⟩) zbf (.int .i64 ((rd_T127 l0 x7_2).f2))).trans hx107_0;replace hx107_1:=(cell_far (p:=⟨gb105,2,none⟩) zbf (.int .i64 ((rd_T127 l0 x7_2).f2))).trans hx107_1;replace hx107_2:=(cell_far (p:=⟨gb105,2,none⟩) zbf (.int .i64 ((rd_T127 l0 x7_2).f2))).trans hx107_2;(try have hy107_0:=fun (n_:Nat)=>(show (((((w13.drewN n_).setCell ⟨gb105,0,none⟩ (.string ((rd_T127 l0 x7_2).f0))).setCell ⟨gb105,1,none⟩ (.int .i64 ((rd_T127 l0 x7_2).f1))).setCell ⟨gb105,2,none⟩ (.int .i64 ((rd_T127 l0 x7_2).f2)))).cell? _=some _ from hx107_0));(try have hy107_1:=fun (n_:Nat)=>(show (((((w13.drewN n_).setCell ⟨gb105,0,none⟩ (.string ((rd_T127 l0 x7_2).f0))).setCell ⟨gb105,1,none⟩ (.int .i64 ((rd_T127 l0 x7_2).f1))).setCell ⟨gb105,2,none⟩ (.int .i64 ((rd_T127 l0 x7_2).f2)))).cell? _=some _ from hx107_1));(try have hy107_2:=fun (n_:Nat)=>(show (((((w13.drewN n_).setCell ⟨gb105,0,none⟩ (.string ((rd_T127 l0 x7_2).f0))).setCell ⟨gb105,1,none⟩ (.int .i64 ((rd_T127 l0 x7_2).f1))).setCell ⟨gb105,2,none⟩ (.int .i64 ((rd_T127 l0 x7_2).f2)))).cell? _=some _ from hx107_2));clear hn107_0;clear hn107_1;clear hn107_2;replace p107:=eq_true p107;replace q107:=eq_true q107;have p108:0≤(x6_1:Int):=of_decide_eq_true zb;have q108:x6_1<(l1.length:Int):=of_decide_eq_true zb;obtain ⟨ad108,e108,hx108_0,hx108_1,hx108_2⟩:=at_T125 HR1.out x6_1 p108 q108;obtain rfl:ad106=ad108:=(by injection e108);have hn108_0:ad106.block≠gb105:=Nat.ne_of_lt (Nat.lt_of_lt_of_le (by have:=World.block_lt_of_cell? _ _ hx108_0;first|rwa [add_block] at this|exact this) GW105.out);have hn108_1:ad106.block≠gb105:=Nat.ne_of_lt (Nat.lt_of_lt_of_le (by have:=World.block_lt_of_cell? _ _ hx108_0;first|rwa [add_block] at this|exact this) GW105.out);have hn108_2:ad106.block≠gb105:=Nat.ne_of_lt (Nat.lt_of_lt_of_le (by have:=World.block_lt_of_cell? _ _ hx108_0;first|rwa [add_block] at this|exact this) GW105.out);replace hx108_0:=(HB.out.cell (World.block_lt_of_cell? w _ hx108_0)).trans hx108_0;replace hx108_1:=(HB.out.cell (World.block_lt_of_cell? w _ hx108_1)).trans hx108_1;replace hx108_2:=(HB.out.cell (World.block_lt_of_cell? w _ hx108_2)).trans hx108_2;replace hx108_0:=(cell_far (p:=⟨gb105,0,none⟩) zbg (.string ((rd_T127 l0 x7_2).f0))).trans hx108_0;replace hx108_1:=(cell_far (p:=⟨gb105,0,none⟩) zbg (.string ((rd_T127 l0 x7_2).f0))).trans hx108_1;replace hx108_2:=(cell_far (p:=⟨gb105,0,none⟩) zbg (.string ((rd_T127 l0 x7_2).f0))).trans hx108_2;replace hx108_0:=(cell_far (p:=⟨gb105,1,none⟩) zbh (.int .i64 ((rd_T127 l0 x7_2).f1))).trans hx108_0;replace hx108_1:=(cell_far (p:=⟨gb105,1,none⟩) zbh (.int .i64 ((rd_T127 l0 x7_2).f1))).trans hx108_1;replace hx108_2:=(cell_far (p:=⟨gb105,1,none⟩) zbh (.int .i64 ((rd_T127 l0 x7_2).f1))).trans hx108_2;replace hx108_0:=(cell_far (p:=⟨gb105,2,none⟩) zbi (.int .i64 ((rd_T127 l0 x7_2).f2))).trans hx108_0;replace hx108_1:=(cell_far (p:=⟨gb105,2,none⟩) zbi (.int .i64 ((rd_T127 l0 x7_2).f2))).trans hx108_1;replace hx108_2:=(cell_far (p:=⟨gb105,2,none⟩) zbi (.int .i64 ((rd_T127 l0 x7_2).f2))).trans hx108_2;(try have hy108_0:=fun (n_:Nat)=>(show (((((w13.drewN n_).setCell ⟨gb105,0,none⟩ (.string ((rd_T127 l0 x7_2).f0))).setCell ⟨gb105,1,none⟩ (.int .i64 ((rd_T127 l0 x7_2).f1))).setCell ⟨gb105,2,none⟩ (.int .i64 ((rd_T127 l0 x7_2).f2)))).cell? _=some _ from hx108_0));(try have hy108_1:=fun (n_:Nat)=>(show (((((w13.drewN n_).setCell ⟨gb105,0,none⟩ (.string ((rd_T127 l0 x7_2).f0))).setCell ⟨gb105,1,none⟩ (.int .i64 ((rd_T127 l0 x7_2).f1))).setCell ⟨gb105,2,none⟩ (.int .i64 ((rd_T127 l0 x7_2).f2)))).cell? _=some _ from hx108_1));(try have hy108_2:=fun (n_:Nat)=>(show (((((w13.drewN n_).setCell ⟨gb105,0,none⟩ (.string ((rd_T127 l0 x7_2).f0))).setCell ⟨gb105,1,none⟩ (.int .i64 ((rd_T127 l0 x7_2).f1))).setCell ⟨gb105,2,none⟩ (.int .i64 ((rd_T127 l0 x7_2).f2)))).cell? _=some _ from hx108_2));clear hn108_0;clear hn108_1;clear hn108_2;replace p108:=eq_true p108;replace q108:=eq_true q108)|(go_at_call 90;(with_reducible refine (spec_l23Begins.calls k2 _ _ l0 ((rd_T125 l1 x6_1).f1) (wrap64 ((wrap64 (((rd_T127 l0 x7_2).f1)+((rd_T127 l0 x7_2).f2)))+((rd_T125 l1 x6_1).f2))) true _ ?side1 ?side2 A11.out).mono ?_);(case side1=>exact Kd.C_below HR0.out zaf);(case side2=>exact HC0.out);rintro e w' ⟨rfl,⟨nd,rfl⟩⟩;(try first|exact ⟨rfl,_,World.drewN_drewN _ _ _⟩|exact ⟨rfl,_,Eq.trans (World.drewN_drewN _ _ _) (congrArg (World.drewN _) (Nat.add_assoc _ _ _))⟩)));try go_wp2_with (first|((with_reducible refine gate_dst (N:=8) rfl ?_);refine box_event ?hg (N:=8) ?hd (cs:=#[.string (⟨#[]⟩:ByteArray),.int .i64 0,.int .i64 0]) (t:=127) ?hr ?_;(case hd=>rfl);(case hg=>rfl);(case hr=>exact zt);intro gb105 hg w13 hbox hb;have n0_:=Aside0.mk (Kd.S_below zav hb);have n1_:=Aside0.mk (below_step za hb);have n2_:=Aside0.mk (hbox);have n3_:=Aside0.mk ((by rw [hg];exact (below_size za):w.heap.size≤gb105));have n4_:=Aside0.mk ((by rw [hg];exact (below_size za):w.heap.size≤gb105));clear HO_5;clear HB;have HO_5:=n0_;have HB:=n1_;have BK105:=n2_;have GW105:=n3_;have GE105:=n4_;clear n0_ n1_ n2_ n3_ n4_;clear hb hbox hg;have hcz14_0:w13.cell? ⟨gb105,0,none⟩=some (.string (⟨#[]⟩:ByteArray)):=(blk_cell BK105.out 0).trans rfl;have hcz14_1:w13.cell? ⟨gb105,1,none⟩=some (.int .i64 0):=(blk_cell BK105.out 1).trans rfl;have hcz14_2:w13.cell? ⟨gb105,2,none⟩=some (.int .i64 0):=(blk_cell BK105.out 2).trans rfl;have hfz14_0:=blk_frozen BK105.out 0;have hfz14_1:=blk_frozen BK105.out 1;have hfz14_2:=blk_frozen BK105.out 2;have p106:0≤(x6_1:Int):=of_decide_eq_true zb;have q106:x6_1<(l1.length:Int):=of_decide_eq_true zb;obtain ⟨ad106,e106,hx106_0,hx106_1,hx106_2⟩:=at_T125 HR1.out x6_1 p106 q106;cases e106;have hn106_0:ad106.block≠gb105:=Nat.ne_of_lt (Nat.lt_of_lt_of_le (by have:=World.block_lt_of_cell? _ _ hx106_0;first|rwa [add_block] at this|exact this) GW105.out);have hn106_1:ad106.block≠gb105:=Nat.ne_of_lt (Nat.lt_of_lt_of_le (by have:=World.block_lt_of_cell? _ _ hx106_0;first|rwa [add_block] at this|exact this) GW105.out);have hn106_2:ad106.block≠gb105:=Nat.ne_of_lt (Nat.lt_of_lt_of_le (by have:=World.block_lt_of_cell? _ _ hx106_0;first|rwa [add_block] at this|exact this) GW105.out);replace hx106_0:=(HB.out.cell (World.block_lt_of_cell? w _ hx106_0)).trans hx106_0;replace hx106_1:=(HB.out.cell (World.block_lt_of_cell? w _ hx106_1)).trans hx106_1;replace hx106_2:=(HB.out.cell (World.block_lt_of_cell? w _ hx106_2)).trans hx106_2;replace hx106_0:=(cell_far (p:=⟨gb105,0,none⟩) zai (.string ((rd_T127 l0 x7_2).f0))).trans hx106_0;replace hx106_1:=(cell_far (p:=⟨gb105,0,none⟩) zai (.string ((rd_T127 l0 x7_2).f0))).trans hx106_1;replace hx106_2:=(cell_far (p:=⟨gb105,0,none⟩) zai (.string ((rd_T127 l0 x7_2).f0))).trans hx106_2;replace hx106_0:=(cell_far (p:=⟨gb105,1,none⟩) zaj (.int .i64 ((rd_T127 l0 x7_2).f1))).trans hx106_0;replace hx106_1:=(cell_far (p:=⟨gb105,1,none⟩) zaj (.int .i64 ((rd_T127 l0 x7_2).f1))).trans hx106_1;replace hx106_2:=(cell_far (p:=⟨gb105,1,none⟩) zaj (.int .i64 ((rd_T127 l0 x7_2).f1))).trans hx106_2;replace hx106_0:=(cell_far (p:=⟨gb105,2,none⟩) zak (.int .i64 ((rd_T127 l0 x7_2).f2))).trans hx106_0;replace hx106_1:=(cell_far (p:=⟨gb105,2,none⟩) zak (.int .i64 ((rd_T127 l0 x7_2).f2))).trans hx106_1;replace hx106_2:=(cell_far (p:=⟨gb105,2,none⟩) zak (.int .i64 ((rd_T127 l0 x7_2).f2))).trans hx106_2;(try have hy106_0:=fun (n_:Nat)=>(show (((((w13.drewN n_).setCell ⟨gb105,0,none⟩ (.string ((rd_T127 l0 x7_2).f0))).setCell ⟨gb105,1,none⟩ (.int .i64 ((rd_T127 l0 x7_2).f1))).setCell ⟨gb105,2,none⟩ (.int .i64 ((rd_T127 l0 x7_2).f2)))).cell? _=some _ from hx106_0));(try have hy106_1:=fun (n_:Nat)=>(show (((((w13.drewN n_).setCell ⟨gb105,0,none⟩ (.string ((rd_T127 l0 x7_2).f0))).setCell ⟨gb105,1,none⟩ (.int .i64 ((rd_T127 l0 x7_2).f1))).setCell ⟨gb105,2,none⟩ (.int .i64 ((rd_T127 l0 x7_2).f2)))).cell? _=some _ from hx106_1));(try have hy106_2:=fun (n_:Nat)=>(show (((((w13.drewN n_).setCell ⟨gb105,0,none⟩ (.string ((rd_T127 l0 x7_2).f0))).setCell ⟨gb105,1,none⟩ (.int .i64 ((rd_T127 l0 x7_2).f1))).setCell ⟨gb105,2,none⟩ (.int .i64 ((rd_T127 l0 x7_2).f2)))).cell? _=some _ from hx106_2));clear hn106_0;clear hn106_1;clear hn106_2;replace p106:=eq_true p106;replace q106:=eq_true q106;have p107:0≤(x6_1:Int):=of_decide_eq_true zb;have q107:x6_1<(l1.length:Int):=of_decide_eq_true zb;obtain ⟨ad107,e107,hx107_0,hx107_1,hx107_2⟩:=at_T125 HR1.out x6_1 p107 q107;obtain rfl:ad106=ad107:=(by injection e107);have hn107_0:ad106.block≠gb105:=Nat.ne_of_lt (Nat.lt_of_lt_of_le (by have:=World.block_lt_of_cell? _ _ hx107_0;first|rwa [add_block] at this|exact this) GW105.out);have hn107_1:ad106.block≠gb105:=Nat.ne_of_lt (Nat.lt_of_lt_of_le (by have:=World.block_lt_of_cell? _ _ hx107_0;first|rwa [add_block] at this|exact this) GW105.out);have hn107_2:ad106.block≠gb105:=Nat.ne_of_lt (Nat.lt_of_lt_of_le (by have:=World.block_lt_of_cell? _ _ hx107_0;first|rwa [add_block] at this|exact this) GW105.out);replace hx107_0:=(HB.out.cell (World.block_lt_of_cell? w _ hx107_0)).trans hx107_0;replace hx107_1:=(HB.out.cell (World.block_lt_of_cell? w _ hx107_1)).trans hx107_1;replace hx107_2:=(HB.out.cell (World.block_lt_of_cell? w _ hx107_2)).trans hx107_2;replace hx107_0:=(cell_far (p:=⟨gb105,0,none⟩) zbd (.string ((rd_T127 l0 x7_2).f0))).trans hx107_0;replace hx107_1:=(cell_far (p:=⟨gb105,0,none⟩) zbd (.string ((rd_T127 l0 x7_2).f0))).trans hx107_1;replace hx107_2:=(cell_far (p:=⟨gb105,0,none⟩) zbd (.string ((rd_T127 l0 x7_2).f0))).trans hx107_2;replace hx107_0:=(cell_far (p:=⟨gb105,1,none⟩) zbe (.int .i64 ((rd_T127 l0 x7_2).f1))).trans hx107_0;replace hx107_1:=(cell_far (p:=⟨gb105,1,none⟩) zbe (.int .i64 ((rd_T127 l0 x7_2).f1))).trans hx107_1;replace hx107_2:=(cell_far (p:=⟨gb105,1,none⟩) zbe (.int .i64 ((rd_T127 l0 x7_2).f1))).trans hx107_2;replace hx107_0:=(cell_far (p:=⟨gb105,2,none⟩) zbf (.int .i64 ((rd_T127 l0 x7_2).f2))).trans hx107_0;replace hx107_1:=(cell_far (p:=⟨gb105,2,none⟩) zbf (.int .i64 ((rd_T127 l0 x7_2).f2))).trans hx107_1;replace hx107_2:=(cell_far (p:=⟨gb105,2,none⟩) zbf (.int .i64 ((rd_T127 l0 x7_2).f2))).trans hx107_2;(try have hy107_0:=fun (n_:Nat)=>(show (((((w13.drewN n_).setCell ⟨gb105,0,none⟩ (.string ((rd_T127 l0 x7_2).f0))).setCell ⟨gb105,1,none⟩ (.int .i64 ((rd_T127 l0 x7_2).f1))).setCell ⟨gb105,2,none⟩ (.int .i64 ((rd_T127 l0 x7_2).f2)))).cell? _=some _ from hx107_0));(try have hy107_1:=fun (n_:Nat)=>(show (((((w13.drewN n_).setCell ⟨gb105,0,none⟩ (.string ((rd_T127 l0 x7_2).f0))).setCell ⟨gb105,1,none⟩ (.int .i64 ((rd_T127 l0 x7_2).f1))).setCell ⟨gb105,2,none⟩ (.int .i64 ((rd_T127 l0 x7_2).f2)))).cell? _=some _ from hx107_1));(try have hy107_2:=fun (n_:Nat)=>(show (((((w13.drewN n_).setCell ⟨gb105,0,none⟩ (.string ((rd_T127 l0 x7_2).f0))).setCell ⟨gb105,1,none⟩ (.int .i64 ((rd_T127 l0 x7_2).f1))).setCell ⟨gb105,2,none⟩ (.int .i64 ((rd_T127 l0 x7_2).f2)))).cell? _=some _ from hx107_2));clear hn107_0;clear hn107_1;clear hn107_2;replace p107:=eq_true p107;replace q107:=eq_true q107;have p108:0≤(x6_1:Int):=of_decide_eq_true zb;have q108:x6_1<(l1.length:Int):=of_decide_eq_true zb;obtain ⟨ad108,e108,hx108_0,hx108_1,hx108_2⟩:=at_T125 HR1.out x6_1 p108 q108;obtain rfl:ad106=ad108:=(by injection e108);have hn108_0:ad106.block≠gb105:=Nat.ne_of_lt (Nat.lt_of_lt_of_le (by have:=World.block_lt_of_cell? _ _ hx108_0;first|rwa [add_block] at this|exact this) GW105.out);have hn108_1:ad106.block≠gb105:=Nat.ne_of_lt (Nat.lt_of_lt_of_le (by have:=World.block_lt_of_cell? _ _ hx108_0;first|rwa [add_block] at this|exact this) GW105.out);have hn108_2:ad106.block≠gb105:=Nat.ne_of_lt (Nat.lt_of_lt_of_le (by have:=World.block_lt_of_cell? _ _ hx108_0;first|rwa [add_block] at this|exact this) GW105.out);replace hx108_0:=(HB.out.cell (World.block_lt_of_cell? w _ hx108_0)).trans hx108_0;replace hx108_1:=(HB.out.cell (World.block_lt_of_cell? w _ hx108_1)).trans hx108_1;replace hx108_2:=(HB.out.cell (World.block_lt_of_cell? w _ hx108_2)).trans hx108_2;replace hx108_0:=(cell_far (p:=⟨gb105,0,none⟩) zbg (.string ((rd_T127 l0 x7_2).f0))).trans hx108_0;replace hx108_1:=(cell_far (p:=⟨gb105,0,none⟩) zbg (.string ((rd_T127 l0 x7_2).f0))).trans hx108_1;replace hx108_2:=(cell_far (p:=⟨gb105,0,none⟩) zbg (.string ((rd_T127 l0 x7_2).f0))).trans hx108_2;replace hx108_0:=(cell_far (p:=⟨gb105,1,none⟩) zbh (.int .i64 ((rd_T127 l0 x7_2).f1))).trans hx108_0;replace hx108_1:=(cell_far (p:=⟨gb105,1,none⟩) zbh (.int .i64 ((rd_T127 l0 x7_2).f1))).trans hx108_1;replace hx108_2:=(cell_far (p:=⟨gb105,1,none⟩) zbh (.int .i64 ((rd_T127 l0 x7_2).f1))).trans hx108_2;replace hx108_0:=(cell_far (p:=⟨gb105,2,none⟩) zbi (.int .i64 ((rd_T127 l0 x7_2).f2))).trans hx108_0;replace hx108_1:=(cell_far (p:=⟨gb105,2,none⟩) zbi (.int .i64 ((rd_T127 l0 x7_2).f2))).trans hx108_1;replace hx108_2:=(cell_far (p:=⟨gb105,2,none⟩) zbi (.int .i64 ((rd_T127 l0 x7_2).f2))).trans hx108_2;(try have hy108_0:=fun (n_:Nat)=>(show (((((w13.drewN n_).setCell ⟨gb105,0,none⟩ (.string ((rd_T127 l0 x7_2).f0))).setCell ⟨gb105,1,none⟩ (.int .i64 ((rd_T127 l0 x7_2).f1))).setCell ⟨gb105,2,none⟩ (.int .i64 ((rd_T127 l0 x7_2).f2)))).cell? _=some _ from hx108_0));(try have hy108_1:=fun (n_:Nat)=>(show (((((w13.drewN n_).setCell ⟨gb105,0,none⟩ (.string ((rd_T127 l0 x7_2).f0))).setCell ⟨gb105,1,none⟩ (.int .i64 ((rd_T127 l0 x7_2).f1))).setCell ⟨gb105,2,none⟩ (.int .i64 ((rd_T127 l0 x7_2).f2)))).cell? _=some _ from hx108_1));(try have hy108_2:=fun (n_:Nat)=>(show (((((w13.drewN n_).setCell ⟨gb105,0,none⟩ (.string ((rd_T127 l0 x7_2).f0))).setCell ⟨gb105,1,none⟩ (.int .i64 ((rd_T127 l0 x7_2).f1))).setCell ⟨gb105,2,none⟩ (.int .i64 ((rd_T127 l0 x7_2).f2)))).cell? _=some _ from hx108_2));clear hn108_0;clear hn108_1;clear hn108_2;replace p108:=eq_true p108;replace q108:=eq_true q108)|(go_at_call 90;(with_reducible refine (spec_l23Begins.calls k2 _ _ l0 ((rd_T125 l1 x6_1).f1) (wrap64 ((wrap64 (((rd_T127 l0 x7_2).f1)+((rd_T127 l0 x7_2).f2)))+((rd_T125 l1 x6_1).f2))) true _ ?side1 ?side2 A11.out).mono ?_);(case side1=>exact Kd.C_below HR0.out zaf);(case side2=>exact HC0.out);rintro e w' ⟨rfl,⟨nd,rfl⟩⟩;(try first|exact ⟨rfl,_,World.drewN_drewN _ _ _⟩|exact ⟨rfl,_,Eq.trans (World.drewN_drewN _ _ _) (congrArg (World.drewN _) (Nat.add_assoc _ _ _))⟩))))
            go_roundg k2
            case measure=>have:=HK1.out;have:=HK2.out;omega
            case rel=>exact ⟨(x5_2),(wrap64 (x7_2+1)),zm,H',⟨by have:=HK1.out;have:=HK2.out;omega⟩,⟨by (with_reducible repeat (first|apply Kd.S_alloc|apply Kd.S_drewN|apply Kd.S_drew));exact Kd.S_mono (Kd.S_far (p:=⟨gb105,2,none⟩) (Kd.S_far (p:=⟨gb105,1,none⟩) (Kd.S_far (p:=⟨gb105,0,none⟩) (Kd.S_types HO_5.out BK105.out zbq) (fun _ hk=>hk.2) (.string ((rd_T127 l0 x7_2).f0))) (fun _ hk=>hk.2) (.int .i64 ((rd_T127 l0 x7_2).f1))) (fun _ hk=>hk.2) (.int .i64 ((rd_T127 l0 x7_2).f2))) (fun _ hk=>trivial)⟩,⟨zaf⟩⟩
           ·replace c12:=Bool.eq_false_iff.mpr c12
            subst c12
            have H1:(if x5_2.length<5864062014805 then (spec_l23Missed.l1 k2 l0 l1 (x5_2++[(([x6_1,x7_2]:List Int))]) x6_1 (wrap64 (x7_2+1))) else (none))=some r:=by rw [if_neg (show ¬ (false=true) by decide)] at H;exact H
            clear H
            have H:=H1
            clear H1
            obtain ⟨y110,hy110⟩:∃y_:List Int,y_=(([x6_1,x7_2]:List Int)):=⟨_,rfl⟩
            replace H:(if x5_2.length<5864062014805 then (spec_l23Missed.l1 k2 l0 l1 (x5_2++[y110]) x6_1 (wrap64 (x7_2+1))) else (none))=some r:=by first|(rw [hy110];with_reducible exact H)|(have H2_:=(Option.bind_some _ _).symm.trans H;rw [hy110];with_reducible exact H2_)|(have H2_:=(Option.bind_some _ _).symm.trans H;with_reducible exact H2_)|with_reducible exact H|(rw [hy110];exact H)|exact H
            have Ny110:=Aside0.mk hy110
            clear hy110
            by_cases c15:x5_2.length<5864062014805
            ·rw [if_pos c15] at H
             have LMc15:=Aside0.mk c15
             clear c15
             obtain ⟨y113,hy113⟩:∃y_:List (List Int),y_=(x5_2++[y110]):=⟨_,rfl⟩
             replace H:(spec_l23Missed.l1 k2 l0 l1 y113 x6_1 (wrap64 (x7_2+1)))=some r:=by first|(rw [hy113];with_reducible exact H)|(have H2_:=(Option.bind_some _ _).symm.trans H;rw [hy113];with_reducible exact H2_)|(have H2_:=(Option.bind_some _ _).symm.trans H;with_reducible exact H2_)|with_reducible exact H|(rw [hy113];exact H)|exact H
             have Ny113:=Aside0.mk hy113
             clear hy113
             have H':=Aside0.mk H
             clear H
             have p104:0≤(x7_2:Int):=of_decide_eq_true zb
             have q104:x7_2<(l0.length:Int):=of_decide_eq_true zb
             obtain ⟨ad104,e104,hx104_0,hx104_1,hx104_2⟩:=at_T127 HR0.out x7_2 p104 q104
             cases e104
             replace hx104_0:=(HB.out.cell (World.block_lt_of_cell? w _ hx104_0)).trans hx104_0
             replace hx104_1:=(HB.out.cell (World.block_lt_of_cell? w _ hx104_1)).trans hx104_1
             replace hx104_2:=(HB.out.cell (World.block_lt_of_cell? w _ hx104_2)).trans hx104_2
             replace p104:=eq_true p104
             replace q104:=eq_true q104
             go_wp2_with (first|((with_reducible refine gate_dst (N:=8) rfl ?_);refine box_event ?hg (N:=8) ?hd (cs:=#[.string (⟨#[]⟩:ByteArray),.int .i64 0,.int .i64 0]) (t:=127) ?hr ?_;(case hd=>rfl);(case hg=>rfl);(case hr=>exact zt);intro gb105 hg w16 hbox hb;have n0_:=Aside0.mk (Kd.S_below zav hb);have n1_:=Aside0.mk (below_step za hb);have n2_:=Aside0.mk (hbox);have n3_:=Aside0.mk ((by rw [hg];exact (below_size za):w.heap.size≤gb105));have n4_:=Aside0.mk ((by rw [hg];exact (below_size za):w.heap.size≤gb105));clear HO_5;clear HB;have HO_5:=n0_;have HB:=n1_;have BK105:=n2_;have GW105:=n3_;have GE105:=n4_;clear n0_ n1_ n2_ n3_ n4_;clear hb hbox hg;have hcz17_0:w16.cell? ⟨gb105,0,none⟩=some (.string (⟨#[]⟩:ByteArray)):=(blk_cell BK105.out 0).trans rfl;have hcz17_1:w16.cell? ⟨gb105,1,none⟩=some (.int .i64 0):=(blk_cell BK105.out 1).trans rfl;have hcz17_2:w16.cell? ⟨gb105,2,none⟩=some (.int .i64 0):=(blk_cell BK105.out 2).trans rfl;have hfz17_0:=blk_frozen BK105.out 0;have hfz17_1:=blk_frozen BK105.out 1;have hfz17_2:=blk_frozen BK105.out 2;have p106:0≤(x6_1:Int):=of_decide_eq_true zb;have q106:x6_1<(l1.length:Int):=of_decide_eq_true zb;obtain ⟨ad106,e106,hx106_0,hx106_1,hx106_2⟩:=at_T125 HR1.out x6_1 p106 q106;cases e106;have hn106_0:ad106.block≠gb105:=Nat.ne_of_lt (Nat.lt_of_lt_of_le (by have:=World.block_lt_of_cell? _ _ hx106_0;first|rwa [add_block] at this|exact this) GW105.out);have hn106_1:ad106.block≠gb105:=Nat.ne_of_lt (Nat.lt_of_lt_of_le (by have:=World.block_lt_of_cell? _ _ hx106_0;first|rwa [add_block] at this|exact this) GW105.out);have hn106_2:ad106.block≠gb105:=Nat.ne_of_lt (Nat.lt_of_lt_of_le (by have:=World.block_lt_of_cell? _ _ hx106_0;first|rwa [add_block] at this|exact this) GW105.out);replace hx106_0:=(HB.out.cell (World.block_lt_of_cell? w _ hx106_0)).trans hx106_0;replace hx106_1:=(HB.out.cell (World.block_lt_of_cell? w _ hx106_1)).trans hx106_1;replace hx106_2:=(HB.out.cell (World.block_lt_of_cell? w _ hx106_2)).trans hx106_2;replace hx106_0:=(cell_far (p:=⟨gb105,0,none⟩) zai (.string ((rd_T127 l0 x7_2).f0))).trans hx106_0;replace hx106_1:=(cell_far (p:=⟨gb105,0,none⟩) zai (.string ((rd_T127 l0 x7_2).f0))).trans hx106_1;replace hx106_2:=(cell_far (p:=⟨gb105,0,none⟩) zai (.string ((rd_T127 l0 x7_2).f0))).trans hx106_2;replace hx106_0:=(cell_far (p:=⟨gb105,1,none⟩) zaj (.int .i64 ((rd_T127 l0 x7_2).f1))).trans hx106_0;replace hx106_1:=(cell_far (p:=⟨gb105,1,none⟩) zaj (.int .i64 ((rd_T127 l0 x7_2).f1))).trans hx106_1;replace hx106_2:=(cell_far (p:=⟨gb105,1,none⟩) zaj (.int .i64 ((rd_T127 l0 x7_2).f1))).trans hx106_2;replace hx106_0:=(cell_far (p:=⟨gb105,2,none⟩) zak (.int .i64 ((rd_T127 l0 x7_2).f2))).trans hx106_0;replace hx106_1:=(cell_far (p:=⟨gb105,2,none⟩) zak (.int .i64 ((rd_T127 l0 x7_2).f2))).trans hx106_1;replace hx106_2:=(cell_far (p:=⟨gb105,2,none⟩) zak (.int .i64 ((rd_T127 l0 x7_2).f2))).trans hx106_2;(try have hy106_0:=fun (n_:Nat)=>(show (((((w16.drewN n_).setCell ⟨gb105,0,none⟩ (.string ((rd_T127 l0 x7_2).f0))).setCell ⟨gb105,1,none⟩ (.int .i64 ((rd_T127 l0 x7_2).f1))).setCell ⟨gb105,2,none⟩ (.int .i64 ((rd_T127 l0 x7_2).f2)))).cell? _=some _ from hx106_0));(try have hy106_1:=fun (n_:Nat)=>(show (((((w16.drewN n_).setCell ⟨gb105,0,none⟩ (.string ((rd_T127 l0 x7_2).f0))).setCell ⟨gb105,1,none⟩ (.int .i64 ((rd_T127 l0 x7_2).f1))).setCell ⟨gb105,2,none⟩ (.int .i64 ((rd_T127 l0 x7_2).f2)))).cell? _=some _ from hx106_1));(try have hy106_2:=fun (n_:Nat)=>(show (((((w16.drewN n_).setCell ⟨gb105,0,none⟩ (.string ((rd_T127 l0 x7_2).f0))).setCell ⟨gb105,1,none⟩ (.int .i64 ((rd_T127 l0 x7_2).f1))).setCell ⟨gb105,2,none⟩ (.int .i64 ((rd_T127 l0 x7_2).f2)))).cell? _=some _ from hx106_2));clear hn106_0;clear hn106_1;clear hn106_2;replace p106:=eq_true p106;replace q106:=eq_true q106;have p107:0≤(x6_1:Int):=of_decide_eq_true zb;have q107:x6_1<(l1.length:Int):=of_decide_eq_true zb;obtain ⟨ad107,e107,hx107_0,hx107_1,hx107_2⟩:=at_T125 HR1.out x6_1 p107 q107;obtain rfl:ad106=ad107:=(by injection e107);have hn107_0:ad106.block≠gb105:=Nat.ne_of_lt (Nat.lt_of_lt_of_le (by have:=World.block_lt_of_cell? _ _ hx107_0;first|rwa [add_block] at this|exact this) GW105.out);have hn107_1:ad106.block≠gb105:=Nat.ne_of_lt (Nat.lt_of_lt_of_le (by have:=World.block_lt_of_cell? _ _ hx107_0;first|rwa [add_block] at this|exact this) GW105.out);have hn107_2:ad106.block≠gb105:=Nat.ne_of_lt (Nat.lt_of_lt_of_le (by have:=World.block_lt_of_cell? _ _ hx107_0;first|rwa [add_block] at this|exact this) GW105.out);replace hx107_0:=(HB.out.cell (World.block_lt_of_cell? w _ hx107_0)).trans hx107_0;replace hx107_1:=(HB.out.cell (World.block_lt_of_cell? w _ hx107_1)).trans hx107_1;replace hx107_2:=(HB.out.cell (World.block_lt_of_cell? w _ hx107_2)).trans hx107_2;replace hx107_0:=(cell_far (p:=⟨gb105,0,none⟩) zbd (.string ((rd_T127 l0 x7_2).f0))).trans hx107_0;replace hx107_1:=(cell_far (p:=⟨gb105,0,none⟩) zbd (.string ((rd_T127 l0 x7_2).f0))).trans hx107_1;replace hx107_2:=(cell_far (p:=⟨gb105,0,none⟩) zbd (.string ((rd_T127 l0 x7_2).f0))).trans hx107_2;replace hx107_0:=(cell_far (p:=⟨gb105,1,none⟩) zbe (.int .i64 ((rd_T127 l0 x7_2).f1))).trans hx107_0;replace hx107_1:=(cell_far (p:=⟨gb105,1,none⟩) zbe (.int .i64 ((rd_T127 l0 x7_2).f1))).trans hx107_1;replace hx107_2:=(cell_far (p:=⟨gb105,1,none⟩) zbe (.int .i64 ((rd_T127 l0 x7_2).f1))).trans hx107_2;replace hx107_0:=(cell_far (p:=⟨gb105,2,none⟩) zbf (.int .i64 ((rd_T127 l0 x7_2).f2))).trans hx107_0;replace hx107_1:=(cell_far (p:=⟨gb105,2,none⟩) zbf (.int .i64 ((rd_T127 l0 x7_2).f2))).trans hx107_1;replace hx107_2:=(cell_far (p:=⟨gb105,2,none⟩) zbf (.int .i64 ((rd_T127 l0 x7_2).f2))).trans hx107_2;(try have hy107_0:=fun (n_:Nat)=>(show (((((w16.drewN n_).setCell ⟨gb105,0,none⟩ (.string ((rd_T127 l0 x7_2).f0))).setCell ⟨gb105,1,none⟩ (.int .i64 ((rd_T127 l0 x7_2).f1))).setCell ⟨gb105,2,none⟩ (.int .i64 ((rd_T127 l0 x7_2).f2)))).cell? _=some _ from hx107_0));(try have hy107_1:=fun (n_:Nat)=>(show (((((w16.drewN n_).setCell ⟨gb105,0,none⟩ (.string ((rd_T127 l0 x7_2).f0))).setCell ⟨gb105,1,none⟩ (.int .i64 ((rd_T127 l0 x7_2).f1))).setCell ⟨gb105,2,none⟩ (.int .i64 ((rd_T127 l0 x7_2).f2)))).cell? _=some _ from hx107_1));(try have hy107_2:=fun (n_:Nat)=>(show (((((w16.drewN n_).setCell ⟨gb105,0,none⟩ (.string ((rd_T127 l0 x7_2).f0))).setCell ⟨gb105,1,none⟩ (.int .i64 ((rd_T127 l0 x7_2).f1))).setCell ⟨gb105,2,none⟩ (.int .i64 ((rd_T127 l0 x7_2).f2)))).cell? _=some _ from hx107_2));clear hn107_0;clear hn107_1;clear hn107_2;replace p107:=eq_true p107;replace q107:=eq_true q107;have p108:0≤(x6_1:Int):=of_decide_eq_true zb;have q108:x6_1<(l1.length:Int):=of_decide_eq_true zb;obtain ⟨ad108,e108,hx108_0,hx108_1,hx108_2⟩:=at_T125 HR1.out x6_1 p108 q108;obtain rfl:ad106=ad108:=(by injection e108);have hn108_0:ad106.block≠gb105:=Nat.ne_of_lt (Nat.lt_of_lt_of_le (by have:=World.block_lt_of_cell? _ _ hx108_0;first|rwa [add_block] at this|exact this) GW105.out);have hn108_1:ad106.block≠gb105:=Nat.ne_of_lt (Nat.lt_of_lt_of_le (by have:=World.block_lt_of_cell? _ _ hx108_0;first|rwa [add_block] at this|exact this) GW105.out);have hn108_2:ad106.block≠gb105:=Nat.ne_of_lt (Nat.lt_of_lt_of_le (by have:=World.block_lt_of_cell? _ _ hx108_0;first|rwa [add_block] at this|exact this) GW105.out);replace hx108_0:=(HB.out.cell (World.block_lt_of_cell? w _ hx108_0)).trans hx108_0;replace hx108_1:=(HB.out.cell (World.block_lt_of_cell? w _ hx108_1)).trans hx108_1;replace hx108_2:=(HB.out.cell (World.block_lt_of_cell? w _ hx108_2)).trans hx108_2;replace hx108_0:=(cell_far (p:=⟨gb105,0,none⟩) zbg (.string ((rd_T127 l0 x7_2).f0))).trans hx108_0;replace hx108_1:=(cell_far (p:=⟨gb105,0,none⟩) zbg (.string ((rd_T127 l0 x7_2).f0))).trans hx108_1;replace hx108_2:=(cell_far (p:=⟨gb105,0,none⟩) zbg (.string ((rd_T127 l0 x7_2).f0))).trans hx108_2;replace hx108_0:=(cell_far (p:=⟨gb105,1,none⟩) zbh (.int .i64 ((rd_T127 l0 x7_2).f1))).trans hx108_0;replace hx108_1:=(cell_far (p:=⟨gb105,1,none⟩) zbh (.int .i64 ((rd_T127 l0 x7_2).f1))).trans hx108_1;replace hx108_2:=(cell_far (p:=⟨gb105,1,none⟩) zbh (.int .i64 ((rd_T127 l0 x7_2).f1))).trans hx108_2;replace hx108_0:=(cell_far (p:=⟨gb105,2,none⟩) zbi (.int .i64 ((rd_T127 l0 x7_2).f2))).trans hx108_0;replace hx108_1:=(cell_far (p:=⟨gb105,2,none⟩) zbi (.int .i64 ((rd_T127 l0 x7_2).f2))).trans hx108_1;replace hx108_2:=(cell_far (p:=⟨gb105,2,none⟩) zbi (.int .i64 ((rd_T127 l0 x7_2).f2))).trans hx108_2;(try have hy108_0:=fun (n_:Nat)=>(show (((((w16.drewN n_).setCell ⟨gb105,0,none⟩ (.string ((rd_T127 l0 x7_2).f0))).setCell ⟨gb105,1,none⟩ (.int .i64 ((rd_T127 l0 x7_2).f1))).setCell ⟨gb105,2,none⟩ (.int .i64 ((rd_T127 l0 x7_2).f2)))).cell? _=some _ from hx108_0));(try have hy108_1:=fun (n_:Nat)=>(show (((((w16.drewN n_).setCell ⟨gb105,0,none⟩ (.string ((rd_T127 l0 x7_2).f0))).setCell ⟨gb105,1,none⟩ (.int .i64 ((rd_T127 l0 x7_2).f1))).setCell ⟨gb105,2,none⟩ (.int .i64 ((rd_T127 l0 x7_2).f2)))).cell? _=some _ from hx108_1));(try have hy108_2:=fun (n_:Nat)=>(show (((((w16.drewN n_).setCell ⟨gb105,0,none⟩ (.string ((rd_T127 l0 x7_2).f0))).setCell ⟨gb105,1,none⟩ (.int .i64 ((rd_T127 l0 x7_2).f1))).setCell ⟨gb105,2,none⟩ (.int .i64 ((rd_T127 l0 x7_2).f2)))).cell? _=some _ from hx108_2));clear hn108_0;clear hn108_1;clear hn108_2;replace p108:=eq_true p108;replace q108:=eq_true q108)|(go_at_call 90;(with_reducible refine (spec_l23Begins.calls k2 _ _ l0 ((rd_T125 l1 x6_1).f1) (wrap64 ((wrap64 (((rd_T127 l0 x7_2).f1)+((rd_T127 l0 x7_2).f2)))+((rd_T125 l1 x6_1).f2))) false _ ?side1 ?side2 A11.out).mono ?_);(case side1=>exact Kd.C_below HR0.out zaf);(case side2=>exact HC0.out);rintro e w' ⟨rfl,⟨nd,rfl⟩⟩;(try first|exact ⟨rfl,_,World.drewN_drewN _ _ _⟩|exact ⟨rfl,_,Eq.trans (World.drewN_drewN _ _ _) (congrArg (World.drewN _) (Nat.add_assoc _ _ _))⟩))|((with_reducible refine gate_dst (N:=58) rfl ?_);refine Kd.R_lit (Kd.int .i64) _ 2 ?hg (N:=58) ?hd (xs:=([x6_1,x7_2]:List Int)) (inner:=[.int .i64 x6_1,.int .i64 x7_2]) (ok:=fun _=>True) (okp:=fun _=>True) ?hr ?hp (fun _ hk=>hk) trivial (Below.refl _ _) (Nat.le_refl _) zdd ?_;(case hd=>rfl);(case hg=>rfl);(case hr=>exact zt);(case hp=>exact zdo);intro v111 w18 ho19 hb hg_ hnew_;clear hg_ hnew_;(first|rw [←Ny110.out] at ho19|(simp only [Int.reduceToNat] at ho19;rw [←Ny110.out] at ho19));replace HO_5:=Aside0.mk (Kd.S_elder' zcm (Kd.R_base ho19) hb);have HO112:=Aside0.mk (Kd.R_lower ho19 (below_size zaf));replace BK105:=Aside0.mk (blk_below (g:=gb105) (o:=.cells #[.string ((rd_T127 l0 x7_2).f0),.int .i64 ((rd_T127 l0 x7_2).f1),.int .i64 ((rd_T127 l0 x7_2).f2)] 127 (0,0)) zbc hb);replace HB:=Aside0.mk (below_step zaf hb);clear hb ho19;obtain ⟨Ao21,co21,eo21⟩:=Kd.R_slice HO112.out;subst eo21)|((with_reducible refine gate_builtin (b:=.append) (xs:=#[.tmp 55,.tmp 59]) rfl ?_);at_builtin;refine Kd.S_append (Kd.slice 2 (Kd.int .i64)) (w0:=w) w.heap.size rfl (.tmp 55) (.tmp 59) 123 126 (.slice none 0 0) 24 rfl Try.underlying123 info126 rfl zbq zbt u5 x5_2 y110 [.slice Ao21 y110.length co21] (fun _=>True) (fun k_=>some k_=(.slice Ao21 y110.length co21:Value).ownBlock) rfl rfl ?aP (fun k_ hk_=>((Kd.R_mono (ok':=fun k_=>((fun _=>True)) k_∧some k_≠(u5:Value).ownBlock) (Kd.R_apart' (HO112.out) (Kd.S_typed HO_5.out) zbq) (fun k_ hk=>⟨trivial,hk.2⟩))).1 k_ hk_.symm) ?aF ?aO ?aB ?aS ?aL ?_;(case aP=>exact Kd.M_row (Kd.R_mono (Kd.R_tight rfl (Kd.R_mono (ok':=fun k_=>((fun _=>True)) k_∧some k_≠(u5:Value).ownBlock) (Kd.R_apart' (HO112.out) (Kd.S_typed HO_5.out) zbq) (fun k_ hk=>⟨trivial,hk.2⟩))) (fun _ h_=>h_)));(case aB=>exact zaf);(case aF=>exact (fun _ _=>trivial));(case aO=>exact zdf);(case aS=>exact (below_size zaf));(case aL=>have:=LMc15.out;omega);intro v114 w20 ho hb hg hat;rw [←Ny113.out] at ho;replace BK105:=Aside0.mk (blk_grown (g:=gb105) (o:=.cells #[.string ((rd_T127 l0 x7_2).f0),.int .i64 ((rd_T127 l0 x7_2).f1),.int .i64 ((rd_T127 l0 x7_2).f2)] 127 (0,0)) (by (with_reducible repeat (first|refine blk_drewN ?_ _|refine blk_drew ?_|refine blk_alloc ?_ _));exact BK105.out) hg (Kd.S_ne HO_5.out BK105.out zbq));replace HB:=Aside0.mk (hb);have HO115:=Aside0.mk (ho);clear HO_5 HO112;clear ho hb hg hat))
             repeat (go_quiet (first|((with_reducible refine gate_dst (N:=8) rfl ?_);refine box_event ?hg (N:=8) ?hd (cs:=#[.string (⟨#[]⟩:ByteArray),.int .i64 0,.int .i64 0]) (t:=127) ?hr ?_;(case hd=>rfl);(case hg=>rfl);(case hr=>exact zt);intro gb105 hg w16 hbox hb;have n0_:=Aside0.mk (Kd.S_below zav hb);have n1_:=Aside0.mk (below_step za hb);have n2_:=Aside0.mk (hbox);have n3_:=Aside0.mk ((by rw [hg];exact (below_size za):w.heap.size≤gb105));have n4_:=Aside0.mk ((by rw [hg];exact (below_size za):w.heap.size≤gb105));clear HO_5;clear HB;have HO_5:=n0_;have HB:=n1_;have BK105:=n2_;have GW105:=n3_;have GE105:=n4_;clear n0_ n1_ n2_ n3_ n4_;clear hb hbox hg;have hcz17_0:w16.cell? ⟨gb105,0,none⟩=some (.string (⟨#[]⟩:ByteArray)):=(blk_cell BK105.out 0).trans rfl;have hcz17_1:w16.cell? ⟨gb105,1,none⟩=some (.int .i64 0):=(blk_cell BK105.out 1).trans rfl;have hcz17_2:w16.cell? ⟨gb105,2,none⟩=some (.int .i64 0):=(blk_cell BK105.out 2).trans rfl;have hfz17_0:=blk_frozen BK105.out 0;have hfz17_1:=blk_frozen BK105.out 1;have hfz17_2:=blk_frozen BK105.out 2;have p106:0≤(x6_1:Int):=of_decide_eq_true zb;have q106:x6_1<(l1.length:Int):=of_decide_eq_true zb;obtain ⟨ad106,e106,hx106_0,hx106_1,hx106_2⟩:=at_T125 HR1.out x6_1 p106 q106;cases e106;have hn106_0:ad106.block≠gb105:=Nat.ne_of_lt (Nat.lt_of_lt_of_le (by have:=World.block_lt_of_cell? _ _ hx106_0;first|rwa [add_block] at this|exact this) GW105.out);have hn106_1:ad106.block≠gb105:=Nat.ne_of_lt (Nat.lt_of_lt_of_le (by have:=World.block_lt_of_cell? _ _ hx106_0;first|rwa [add_block] at this|exact this) GW105.out);have hn106_2:ad106.block≠gb105:=Nat.ne_of_lt (Nat.lt_of_lt_of_le (by have:=World.block_lt_of_cell? _ _ hx106_0;first|rwa [add_block] at this|exact this) GW105.out);replace hx106_0:=(HB.out.cell (World.block_lt_of_cell? w _ hx106_0)).trans hx106_0;replace hx106_1:=(HB.out.cell (World.block_lt_of_cell? w _ hx106_1)).trans hx106_1;replace hx106_2:=(HB.out.cell (World.block_lt_of_cell? w _ hx106_2)).trans hx106_2;replace hx106_0:=(cell_far (p:=⟨gb105,0,none⟩) zai (.string ((rd_T127 l0 x7_2).f0))).trans hx106_0;replace hx106_1:=(cell_far (p:=⟨gb105,0,none⟩) zai (.string ((rd_T127 l0 x7_2).f0))).trans hx106_1;replace hx106_2:=(cell_far (p:=⟨gb105,0,none⟩) zai (.string ((rd_T127 l0 x7_2).f0))).trans hx106_2;replace hx106_0:=(cell_far (p:=⟨gb105,1,none⟩) zaj (.int .i64 ((rd_T127 l0 x7_2).f1))).trans hx106_0;replace hx106_1:=(cell_far (p:=⟨gb105,1,none⟩) zaj (.int .i64 ((rd_T127 l0 x7_2).f1))).trans hx106_1;replace hx106_2:=(cell_far (p:=⟨gb105,1,none⟩) zaj (.int .i64 ((rd_T127 l0 x7_2).f1))).trans hx106_2;replace hx106_0:=(cell_far (p:=⟨gb105,2,none⟩) zak (.int .i64 ((rd_T127 l0 x7_2).f2))).trans hx106_0;replace hx106_1:=(cell_far (p:=⟨gb105,2,none⟩) zak (.int .i64 ((rd_T127 l0 x7_2).f2))).trans hx106_1;replace hx106_2:=(cell_far (p:=⟨gb105,2,none⟩) zak (.int .i64 ((rd_T127 l0 x7_2).f2))).trans hx106_2;(try have hy106_0:=fun (n_:Nat)=>(show (((((w16.drewN n_).setCell ⟨gb105,0,none⟩ (.string ((rd_T127 l0 x7_2).f0))).setCell ⟨gb105,1,none⟩ (.int .i64 ((rd_T127 l0 x7_2).f1))).setCell ⟨gb105,2,none⟩ (.int .i64 ((rd_T127 l0 x7_2).f2)))).cell? _=some _ from hx106_0));(try have hy106_1:=fun (n_:Nat)=>(show (((((w16.drewN n_).setCell ⟨gb105,0,none⟩ (.string ((rd_T127 l0 x7_2).f0))).setCell ⟨gb105,1,none⟩ (.int .i64 ((rd_T127 l0 x7_2).f1))).setCell ⟨gb105,2,none⟩ (.int .i64 ((rd_T127 l0 x7_2).f2)))).cell? _=some _ from hx106_1));(try have hy106_2:=fun (n_:Nat)=>(show (((((w16.drewN n_).setCell ⟨gb105,0,none⟩ (.string ((rd_T127 l0 x7_2).f0))).setCell ⟨gb105,1,none⟩ (.int .i64 ((rd_T127 l0 x7_2).f1))).setCell ⟨gb105,2,none⟩ (.int .i64 ((rd_T127 l0 x7_2).f2)))).cell? _=some _ from hx106_2));clear hn106_0;clear hn106_1;clear hn106_2;replace p106:=eq_true p106;replace q106:=eq_true q106;have p107:0≤(x6_1:Int):=of_decide_eq_true zb;have q107:x6_1<(l1.length:Int):=of_decide_eq_true zb;obtain ⟨ad107,e107,hx107_0,hx107_1,hx107_2⟩:=at_T125 HR1.out x6_1 p107 q107;obtain rfl:ad106=ad107:=(by injection e107);have hn107_0:ad106.block≠gb105:=Nat.ne_of_lt (Nat.lt_of_lt_of_le (by have:=World.block_lt_of_cell? _ _ hx107_0;first|rwa [add_block] at this|exact this) GW105.out);have hn107_1:ad106.block≠gb105:=Nat.ne_of_lt (Nat.lt_of_lt_of_le (by have:=World.block_lt_of_cell? _ _ hx107_0;first|rwa [add_block] at this|exact this) GW105.out);have hn107_2:ad106.block≠gb105:=Nat.ne_of_lt (Nat.lt_of_lt_of_le (by have:=World.block_lt_of_cell? _ _ hx107_0;first|rwa [add_block] at this|exact this) GW105.out);replace hx107_0:=(HB.out.cell (World.block_lt_of_cell? w _ hx107_0)).trans hx107_0;replace hx107_1:=(HB.out.cell (World.block_lt_of_cell? w _ hx107_1)).trans hx107_1;replace hx107_2:=(HB.out.cell (World.block_lt_of_cell? w _ hx107_2)).trans hx107_2;replace hx107_0:=(cell_far (p:=⟨gb105,0,none⟩) zbd (.string ((rd_T127 l0 x7_2).f0))).trans hx107_0;replace hx107_1:=(cell_far (p:=⟨gb105,0,none⟩) zbd (.string ((rd_T127 l0 x7_2).f0))).trans hx107_1;replace hx107_2:=(cell_far (p:=⟨gb105,0,none⟩) zbd (.string ((rd_T127 l0 x7_2).f0))).trans hx107_2;replace hx107_0:=(cell_far (p:=⟨gb105,1,none⟩) zbe (.int .i64 ((rd_T127 l0 x7_2).f1))).trans hx107_0;replace hx107_1:=(cell_far (p:=⟨gb105,1,none⟩) zbe (.int .i64 ((rd_T127 l0 x7_2).f1))).trans hx107_1;replace hx107_2:=(cell_far (p:=⟨gb105,1,none⟩) zbe (.int .i64 ((rd_T127 l0 x7_2).f1))).trans hx107_2;replace hx107_0:=(cell_far (p:=⟨gb105,2,none⟩) zbf (.int .i64 ((rd_T127 l0 x7_2).f2))).trans hx107_0;replace hx107_1:=(cell_far (p:=⟨gb105,2,none⟩) zbf (.int .i64 ((rd_T127 l0 x7_2).f2))).trans hx107_1;replace hx107_2:=(cell_far (p:=⟨gb105,2,none⟩) zbf (.int .i64 ((rd_T127 l0 x7_2).f2))).trans hx107_2;(try have hy107_0:=fun (n_:Nat)=>(show (((((w16.drewN n_).setCell ⟨gb105,0,none⟩ (.string ((rd_T127 l0 x7_2).f0))).setCell ⟨gb105,1,none⟩ (.int .i64 ((rd_T127 l0 x7_2).f1))).setCell ⟨gb105,2,none⟩ (.int .i64 ((rd_T127 l0 x7_2).f2)))).cell? _=some _ from hx107_0));(try have hy107_1:=fun (n_:Nat)=>(show (((((w16.drewN n_).setCell ⟨gb105,0,none⟩ (.string ((rd_T127 l0 x7_2).f0))).setCell ⟨gb105,1,none⟩ (.int .i64 ((rd_T127 l0 x7_2).f1))).setCell ⟨gb105,2,none⟩ (.int .i64 ((rd_T127 l0 x7_2).f2)))).cell? _=some _ from hx107_1));(try have hy107_2:=fun (n_:Nat)=>(show (((((w16.drewN n_).setCell ⟨gb105,0,none⟩ (.string ((rd_T127 l0 x7_2).f0))).setCell ⟨gb105,1,none⟩ (.int .i64 ((rd_T127 l0 x7_2).f1))).setCell ⟨gb105,2,none⟩ (.int .i64 ((rd_T127 l0 x7_2).f2)))).cell? _=some _ from hx107_2));clear hn107_0;clear hn107_1;clear hn107_2;replace p107:=eq_true p107;replace q107:=eq_true q107;have p108:0≤(x6_1:Int):=of_decide_eq_true zb;have q108:x6_1<(l1.length:Int):=of_decide_eq_true zb;obtain ⟨ad108,e108,hx108_0,hx108_1,hx108_2⟩:=at_T125 HR1.out x6_1 p108 q108;obtain rfl:ad106=ad108:=(by injection e108);have hn108_0:ad106.block≠gb105:=Nat.ne_of_lt (Nat.lt_of_lt_of_le (by have:=World.block_lt_of_cell? _ _ hx108_0;first|rwa [add_block] at this|exact this) GW105.out);have hn108_1:ad106.block≠gb105:=Nat.ne_of_lt (Nat.lt_of_lt_of_le (by have:=World.block_lt_of_cell? _ _ hx108_0;first|rwa [add_block] at this|exact this) GW105.out);have hn108_2:ad106.block≠gb105:=Nat.ne_of_lt (Nat.lt_of_lt_of_le (by have:=World.block_lt_of_cell? _ _ hx108_0;first|rwa [add_block] at this|exact this) GW105.out);replace hx108_0:=(HB.out.cell (World.block_lt_of_cell? w _ hx108_0)).trans hx108_0;replace hx108_1:=(HB.out.cell (World.block_lt_of_cell? w _ hx108_1)).trans hx108_1;replace hx108_2:=(HB.out.cell (World.block_lt_of_cell? w _ hx108_2)).trans hx108_2;replace hx108_0:=(cell_far (p:=⟨gb105,0,none⟩) zbg (.string ((rd_T127 l0 x7_2).f0))).trans hx108_0;replace hx108_1:=(cell_far (p:=⟨gb105,0,none⟩) zbg (.string ((rd_T127 l0 x7_2).f0))).trans hx108_1;replace hx108_2:=(cell_far (p:=⟨gb105,0,none⟩) zbg (.string ((rd_T127 l0 x7_2).f0))).trans hx108_2;replace hx108_0:=(cell_far (p:=⟨gb105,1,none⟩) zbh (.int .i64 ((rd_T127 l0 x7_2).f1))).trans hx108_0;replace hx108_1:=(cell_far (p:=⟨gb105,1,none⟩) zbh (.int .i64 ((rd_T127 l0 x7_2).f1))).trans hx108_1;replace hx108_2:=(cell_far (p:=⟨gb105,1,none⟩) zbh (.int .i64 ((rd_T127 l0 x7_2).f1))).trans hx108_2;replace hx108_0:=(cell_far (p:=⟨gb105,2,none⟩) zbi (.int .i64 ((rd_T127 l0 x7_2).f2))).trans hx108_0;replace hx108_1:=(cell_far (p:=⟨gb105,2,none⟩) zbi (.int .i64 ((rd_T127 l0 x7_2).f2))).trans hx108_1;replace hx108_2:=(cell_far (p:=⟨gb105,2,none⟩) zbi (.int .i64 ((rd_T127 l0 x7_2).f2))).trans hx108_2;(try have hy108_0:=fun (n_:Nat)=>(show (((((w16.drewN n_).setCell ⟨gb105,0,none⟩ (.string ((rd_T127 l0 x7_2).f0))).setCell ⟨gb105,1,none⟩ (.int .i64 ((rd_T127 l0 x7_2).f1))).setCell ⟨gb105,2,none⟩ (.int .i64 ((rd_T127 l0 x7_2).f2)))).cell? _=some _ from hx108_0));(try have hy108_1:=fun (n_:Nat)=>(show (((((w16.drewN n_).setCell ⟨gb105,0,none⟩ (.string ((rd_T127 l0 x7_2).f0))).setCell ⟨gb105,1,none⟩ (.int .i64 ((rd_T127 l0 x7_2).f1))).setCell ⟨gb105,2,none⟩ (.int .i64 ((rd_T127 l0 x7_2).f2)))).cell? _=some _ from hx108_1));(try have hy108_2:=fun (n_:Nat)=>(show (((((w16.drewN n_).setCell ⟨gb105,0,none⟩ (.string ((rd_T127 l0 x7_2).f0))).setCell ⟨gb105,1,none⟩ (.int .i64 ((rd_T127 l0 x7_2).f1))).setCell ⟨gb105,2,none⟩ (.int .i64 ((rd_T127 l0 x7_2).f2)))).cell? _=some _ from hx108_2));clear hn108_0;clear hn108_1;clear hn108_2;replace p108:=eq_true p108;replace q108:=eq_true q108)|(go_at_call 90;(with_reducible refine (spec_l23Begins.calls k2 _ _ l0 ((rd_T125 l1 x6_1).f1) (wrap64 ((wrap64 (((rd_T127 l0 x7_2).f1)+((rd_T127 l0 x7_2).f2)))+((rd_T125 l1 x6_1).f2))) false _ ?side1 ?side2 A11.out).mono ?_);(case side1=>exact Kd.C_below HR0.out zaf);(case side2=>exact HC0.out);rintro e w' ⟨rfl,⟨nd,rfl⟩⟩;(try first|exact ⟨rfl,_,World.drewN_drewN _ _ _⟩|exact ⟨rfl,_,Eq.trans (World.drewN_drewN _ _ _) (congrArg (World.drewN _) (Nat.add_assoc _ _ _))⟩))|((with_reducible refine gate_dst (N:=58) rfl ?_);refine Kd.R_lit (Kd.int .i64) _ 2 ?hg (N:=58) ?hd (xs:=([x6_1,x7_2]:List Int)) (inner:=[.int .i64 x6_1,.int .i64 x7_2]) (ok:=fun _=>True) (okp:=fun _=>True) ?hr ?hp (fun _ hk=>hk) trivial (Below.refl _ _) (Nat.le_refl _) zdd ?_;(case hd=>rfl);(case hg=>rfl);(case hr=>exact zt);(case hp=>exact zdo);intro v111 w18 ho19 hb hg_ hnew_;clear hg_ hnew_;(first|rw [←Ny110.out] at ho19|(simp only [Int.reduceToNat] at ho19;rw [←Ny110.out] at ho19));replace HO_5:=Aside0.mk (Kd.S_elder' zcm (Kd.R_base ho19) hb);have HO112:=Aside0.mk (Kd.R_lower ho19 (below_size zaf));replace BK105:=Aside0.mk (blk_below (g:=gb105) (o:=.cells #[.string ((rd_T127 l0 x7_2).f0),.int .i64 ((rd_T127 l0 x7_2).f1),.int .i64 ((rd_T127 l0 x7_2).f2)] 127 (0,0)) zbc hb);replace HB:=Aside0.mk (below_step zaf hb);clear hb ho19;obtain ⟨Ao21,co21,eo21⟩:=Kd.R_slice HO112.out;subst eo21)|((with_reducible refine gate_builtin (b:=.append) (xs:=#[.tmp 55,.tmp 59]) rfl ?_);at_builtin;refine Kd.S_append (Kd.slice 2 (Kd.int .i64)) (w0:=w) w.heap.size rfl (.tmp 55) (.tmp 59) 123 126 (.slice none 0 0) 24 rfl Try.underlying123 info126 rfl zbq zbt u5 x5_2 y110 [.slice Ao21 y110.length co21] (fun _=>True) (fun k_=>some k_=(.slice Ao21 y110.length co21:Value).ownBlock) rfl rfl ?aP (fun k_ hk_=>((Kd.R_mono (ok':=fun k_=>((fun _=>True)) k_∧some k_≠(u5:Value).ownBlock) (Kd.R_apart' (HO112.out) (Kd.S_typed HO_5.out) zbq) (fun k_ hk=>⟨trivial,hk.2⟩))).1 k_ hk_.symm) ?aF ?aO ?aB ?aS ?aL ?_;(case aP=>exact Kd.M_row (Kd.R_mono (Kd.R_tight rfl (Kd.R_mono (ok':=fun k_=>((fun _=>True)) k_∧some k_≠(u5:Value).ownBlock) (Kd.R_apart' (HO112.out) (Kd.S_typed HO_5.out) zbq) (fun k_ hk=>⟨trivial,hk.2⟩))) (fun _ h_=>h_)));(case aB=>exact zaf);(case aF=>exact (fun _ _=>trivial));(case aO=>exact zdf);(case aS=>exact (below_size zaf));(case aL=>have:=LMc15.out;omega);intro v114 w20 ho hb hg hat;rw [←Ny113.out] at ho;replace BK105:=Aside0.mk (blk_grown (g:=gb105) (o:=.cells #[.string ((rd_T127 l0 x7_2).f0),.int .i64 ((rd_T127 l0 x7_2).f1),.int .i64 ((rd_T127 l0 x7_2).f2)] 127 (0,0)) (by (with_reducible repeat (first|refine blk_drewN ?_ _|refine blk_drew ?_|refine blk_alloc ?_ _));exact BK105.out) hg (Kd.S_ne HO_5.out BK105.out zbq));replace HB:=Aside0.mk (hb);have HO115:=Aside0.mk (ho);clear HO_5 HO112;clear ho hb hg hat));try go_wp2_with (first|((with_reducible refine gate_dst (N:=8) rfl ?_);refine box_event ?hg (N:=8) ?hd (cs:=#[.string (⟨#[]⟩:ByteArray),.int .i64 0,.int .i64 0]) (t:=127) ?hr ?_;(case hd=>rfl);(case hg=>rfl);(case hr=>exact zt);intro gb105 hg w16 hbox hb;have n0_:=Aside0.mk (Kd.S_below zav hb);have n1_:=Aside0.mk (below_step za hb);have n2_:=Aside0.mk (hbox);have n3_:=Aside0.mk ((by rw [hg];exact (below_size za):w.heap.size≤gb105));have n4_:=Aside0.mk ((by rw [hg];exact (below_size za):w.heap.size≤gb105));clear HO_5;clear HB;have HO_5:=n0_;have HB:=n1_;have BK105:=n2_;have GW105:=n3_;have GE105:=n4_;clear n0_ n1_ n2_ n3_ n4_;clear hb hbox hg;have hcz17_0:w16.cell? ⟨gb105,0,none⟩=some (.string (⟨#[]⟩:ByteArray)):=(blk_cell BK105.out 0).trans rfl;have hcz17_1:w16.cell? ⟨gb105,1,none⟩=some (.int .i64 0):=(blk_cell BK105.out 1).trans rfl;have hcz17_2:w16.cell? ⟨gb105,2,none⟩=some (.int .i64 0):=(blk_cell BK105.out 2).trans rfl;have hfz17_0:=blk_frozen BK105.out 0;have hfz17_1:=blk_frozen BK105.out 1;have hfz17_2:=blk_frozen BK105.out 2;have p106:0≤(x6_1:Int):=of_decide_eq_true zb;have q106:x6_1<(l1.length:Int):=of_decide_eq_true zb;obtain ⟨ad106,e106,hx106_0,hx106_1,hx106_2⟩:=at_T125 HR1.out x6_1 p106 q106;cases e106;have hn106_0:ad106.block≠gb105:=Nat.ne_of_lt (Nat.lt_of_lt_of_le (by have:=World.block_lt_of_cell? _ _ hx106_0;first|rwa [add_block] at this|exact this) GW105.out);have hn106_1:ad106.block≠gb105:=Nat.ne_of_lt (Nat.lt_of_lt_of_le (by have:=World.block_lt_of_cell? _ _ hx106_0;first|rwa [add_block] at this|exact this) GW105.out);have hn106_2:ad106.block≠gb105:=Nat.ne_of_lt (Nat.lt_of_lt_of_le (by have:=World.block_lt_of_cell? _ _ hx106_0;first|rwa [add_block] at this|exact this) GW105.out);replace hx106_0:=(HB.out.cell (World.block_lt_of_cell? w _ hx106_0)).trans hx106_0;replace hx106_1:=(HB.out.cell (World.block_lt_of_cell? w _ hx106_1)).trans hx106_1;replace hx106_2:=(HB.out.cell (World.block_lt_of_cell? w _ hx106_2)).trans hx106_2;replace hx106_0:=(cell_far (p:=⟨gb105,0,none⟩) zai (.string ((rd_T127 l0 x7_2).f0))).trans hx106_0;replace hx106_1:=(cell_far (p:=⟨gb105,0,none⟩) zai (.string ((rd_T127 l0 x7_2).f0))).trans hx106_1;replace hx106_2:=(cell_far (p:=⟨gb105,0,none⟩) zai (.string ((rd_T127 l0 x7_2).f0))).trans hx106_2;replace hx106_0:=(cell_far (p:=⟨gb105,1,none⟩) zaj (.int .i64 ((rd_T127 l0 x7_2).f1))).trans hx106_0;replace hx106_1:=(cell_far (p:=⟨gb105,1,none⟩) zaj (.int .i64 ((rd_T127 l0 x7_2).f1))).trans hx106_1;replace hx106_2:=(cell_far (p:=⟨gb105,1,none⟩) zaj (.int .i64 ((rd_T127 l0 x7_2).f1))).trans hx106_2;replace hx106_0:=(cell_far (p:=⟨gb105,2,none⟩) zak (.int .i64 ((rd_T127 l0 x7_2).f2))).trans hx106_0;replace hx106_1:=(cell_far (p:=⟨gb105,2,none⟩) zak (.int .i64 ((rd_T127 l0 x7_2).f2))).trans hx106_1;replace hx106_2:=(cell_far (p:=⟨gb105,2,none⟩) zak (.int .i64 ((rd_T127 l0 x7_2).f2))).trans hx106_2;(try have hy106_0:=fun (n_:Nat)=>(show (((((w16.drewN n_).setCell ⟨gb105,0,none⟩ (.string ((rd_T127 l0 x7_2).f0))).setCell ⟨gb105,1,none⟩ (.int .i64 ((rd_T127 l0 x7_2).f1))).setCell ⟨gb105,2,none⟩ (.int .i64 ((rd_T127 l0 x7_2).f2)))).cell? _=some _ from hx106_0));(try have hy106_1:=fun (n_:Nat)=>(show (((((w16.drewN n_).setCell ⟨gb105,0,none⟩ (.string ((rd_T127 l0 x7_2).f0))).setCell ⟨gb105,1,none⟩ (.int .i64 ((rd_T127 l0 x7_2).f1))).setCell ⟨gb105,2,none⟩ (.int .i64 ((rd_T127 l0 x7_2).f2)))).cell? _=some _ from hx106_1));(try have hy106_2:=fun (n_:Nat)=>(show (((((w16.drewN n_).setCell ⟨gb105,0,none⟩ (.string ((rd_T127 l0 x7_2).f0))).setCell ⟨gb105,1,none⟩ (.int .i64 ((rd_T127 l0 x7_2).f1))).setCell ⟨gb105,2,none⟩ (.int .i64 ((rd_T127 l0 x7_2).f2)))).cell? _=some _ from hx106_2));clear hn106_0;clear hn106_1;clear hn106_2;replace p106:=eq_true p106;replace q106:=eq_true q106;have p107:0≤(x6_1:Int):=of_decide_eq_true zb;have q107:x6_1<(l1.length:Int):=of_decide_eq_true zb;obtain ⟨ad107,e107,hx107_0,hx107_1,hx107_2⟩:=at_T125 HR1.out x6_1 p107 q107;obtain rfl:ad106=ad107:=(by injection e107);have hn107_0:ad106.block≠gb105:=Nat.ne_of_lt (Nat.lt_of_lt_of_le (by have:=World.block_lt_of_cell? _ _ hx107_0;first|rwa [add_block] at this|exact this) GW105.out);have hn107_1:ad106.block≠gb105:=Nat.ne_of_lt (Nat.lt_of_lt_of_le (by have:=World.block_lt_of_cell? _ _ hx107_0;first|rwa [add_block] at this|exact this) GW105.out);have hn107_2:ad106.block≠gb105:=Nat.ne_of_lt (Nat.lt_of_lt_of_le (by have:=World.block_lt_of_cell? _ _ hx107_0;first|rwa [add_block] at this|exact this) GW105.out);replace hx107_0:=(HB.out.cell (World.block_lt_of_cell? w _ hx107_0)).trans hx107_0;replace hx107_1:=(HB.out.cell (World.block_lt_of_cell? w _ hx107_1)).trans hx107_1;replace hx107_2:=(HB.out.cell (World.block_lt_of_cell? w _ hx107_2)).trans hx107_2;replace hx107_0:=(cell_far (p:=⟨gb105,0,none⟩) zbd (.string ((rd_T127 l0 x7_2).f0))).trans hx107_0;replace hx107_1:=(cell_far (p:=⟨gb105,0,none⟩) zbd (.string ((rd_T127 l0 x7_2).f0))).trans hx107_1;replace hx107_2:=(cell_far (p:=⟨gb105,0,none⟩) zbd (.string ((rd_T127 l0 x7_2).f0))).trans hx107_2;replace hx107_0:=(cell_far (p:=⟨gb105,1,none⟩) zbe (.int .i64 ((rd_T127 l0 x7_2).f1))).trans hx107_0;replace hx107_1:=(cell_far (p:=⟨gb105,1,none⟩) zbe (.int .i64 ((rd_T127 l0 x7_2).f1))).trans hx107_1;replace hx107_2:=(cell_far (p:=⟨gb105,1,none⟩) zbe (.int .i64 ((rd_T127 l0 x7_2).f1))).trans hx107_2;replace hx107_0:=(cell_far (p:=⟨gb105,2,none⟩) zbf (.int .i64 ((rd_T127 l0 x7_2).f2))).trans hx107_0;replace hx107_1:=(cell_far (p:=⟨gb105,2,none⟩) zbf (.int .i64 ((rd_T127 l0 x7_2).f2))).trans hx107_1;replace hx107_2:=(cell_far (p:=⟨gb105,2,none⟩) zbf (.int .i64 ((rd_T127 l0 x7_2).f2))).trans hx107_2;(try have hy107_0:=fun (n_:Nat)=>(show (((((w16.drewN n_).setCell ⟨gb105,0,none⟩ (.string ((rd_T127 l0 x7_2).f0))).setCell ⟨gb105,1,none⟩ (.int .i64 ((rd_T127 l0 x7_2).f1))).setCell ⟨gb105,2,none⟩ (.int .i64 ((rd_T127 l0 x7_2).f2)))).cell? _=some _ from hx107_0));(try have hy107_1:=fun (n_:Nat)=>(show (((((w16.drewN n_).setCell ⟨gb105,0,none⟩ (.string ((rd_T127 l0 x7_2).f0))).setCell ⟨gb105,1,none⟩ (.int .i64 ((rd_T127 l0 x7_2).f1))).setCell ⟨gb105,2,none⟩ (.int .i64 ((rd_T127 l0 x7_2).f2)))).cell? _=some _ from hx107_1));(try have hy107_2:=fun (n_:Nat)=>(show (((((w16.drewN n_).setCell ⟨gb105,0,none⟩ (.string ((rd_T127 l0 x7_2).f0))).setCell ⟨gb105,1,none⟩ (.int .i64 ((rd_T127 l0 x7_2).f1))).setCell ⟨gb105,2,none⟩ (.int .i64 ((rd_T127 l0 x7_2).f2)))).cell? _=some _ from hx107_2));clear hn107_0;clear hn107_1;clear hn107_2;replace p107:=eq_true p107;replace q107:=eq_true q107;have p108:0≤(x6_1:Int):=of_decide_eq_true zb;have q108:x6_1<(l1.length:Int):=of_decide_eq_true zb;obtain ⟨ad108,e108,hx108_0,hx108_1,hx108_2⟩:=at_T125 HR1.out x6_1 p108 q108;obtain rfl:ad106=ad108:=(by injection e108);have hn108_0:ad106.block≠gb105:=Nat.ne_of_lt (Nat.lt_of_lt_of_le (by have:=World.block_lt_of_cell? _ _ hx108_0;first|rwa [add_block] at this|exact this) GW105.out);have hn108_1:ad106.block≠gb105:=Nat.ne_of_lt (Nat.lt_of_lt_of_le (by have:=World.block_lt_of_cell? _ _ hx108_0;first|rwa [add_block] at this|exact this) GW105.out);have hn108_2:ad106.block≠gb105:=Nat.ne_of_lt (Nat.lt_of_lt_of_le (by have:=World.block_lt_of_cell? _ _ hx108_0;first|rwa [add_block] at this|exact this) GW105.out);replace hx108_0:=(HB.out.cell (World.block_lt_of_cell? w _ hx108_0)).trans hx108_0;replace hx108_1:=(HB.out.cell (World.block_lt_of_cell? w _ hx108_1)).trans hx108_1;replace hx108_2:=(HB.out.cell (World.block_lt_of_cell? w _ hx108_2)).trans hx108_2;replace hx108_0:=(cell_far (p:=⟨gb105,0,none⟩) zbg (.string ((rd_T127 l0 x7_2).f0))).trans hx108_0;replace hx108_1:=(cell_far (p:=⟨gb105,0,none⟩) zbg (.string ((rd_T127 l0 x7_2).f0))).trans hx108_1;replace hx108_2:=(cell_far (p:=⟨gb105,0,none⟩) zbg (.string ((rd_T127 l0 x7_2).f0))).trans hx108_2;replace hx108_0:=(cell_far (p:=⟨gb105,1,none⟩) zbh (.int .i64 ((rd_T127 l0 x7_2).f1))).trans hx108_0;replace hx108_1:=(cell_far (p:=⟨gb105,1,none⟩) zbh (.int .i64 ((rd_T127 l0 x7_2).f1))).trans hx108_1;replace hx108_2:=(cell_far (p:=⟨gb105,1,none⟩) zbh (.int .i64 ((rd_T127 l0 x7_2).f1))).trans hx108_2;replace hx108_0:=(cell_far (p:=⟨gb105,2,none⟩) zbi (.int .i64 ((rd_T127 l0 x7_2).f2))).trans hx108_0;replace hx108_1:=(cell_far (p:=⟨gb105,2,none⟩) zbi (.int .i64 ((rd_T127 l0 x7_2).f2))).trans hx108_1;replace hx108_2:=(cell_far (p:=⟨gb105,2,none⟩) zbi (.int .i64 ((rd_T127 l0 x7_2).f2))).trans hx108_2;(try have hy108_0:=fun (n_:Nat)=>(show (((((w16.drewN n_).setCell ⟨gb105,0,none⟩ (.string ((rd_T127 l0 x7_2).f0))).setCell ⟨gb105,1,none⟩ (.int .i64 ((rd_T127 l0 x7_2).f1))).setCell ⟨gb105,2,none⟩ (.int .i64 ((rd_T127 l0 x7_2).f2)))).cell? _=some _ from hx108_0));(try have hy108_1:=fun (n_:Nat)=>(show (((((w16.drewN n_).setCell ⟨gb105,0,none⟩ (.string ((rd_T127 l0 x7_2).f0))).setCell ⟨gb105,1,none⟩ (.int .i64 ((rd_T127 l0 x7_2).f1))).setCell ⟨gb105,2,none⟩ (.int .i64 ((rd_T127 l0 x7_2).f2)))).cell? _=some _ from hx108_1));(try have hy108_2:=fun (n_:Nat)=>(show (((((w16.drewN n_).setCell ⟨gb105,0,none⟩ (.string ((rd_T127 l0 x7_2).f0))).setCell ⟨gb105,1,none⟩ (.int .i64 ((rd_T127 l0 x7_2).f1))).setCell ⟨gb105,2,none⟩ (.int .i64 ((rd_T127 l0 x7_2).f2)))).cell? _=some _ from hx108_2));clear hn108_0;clear hn108_1;clear hn108_2;replace p108:=eq_true p108;replace q108:=eq_true q108)|(go_at_call 90;(with_reducible refine (spec_l23Begins.calls k2 _ _ l0 ((rd_T125 l1 x6_1).f1) (wrap64 ((wrap64 (((rd_T127 l0 x7_2).f1)+((rd_T127 l0 x7_2).f2)))+((rd_T125 l1 x6_1).f2))) false _ ?side1 ?side2 A11.out).mono ?_);(case side1=>exact Kd.C_below HR0.out zaf);(case side2=>exact HC0.out);rintro e w' ⟨rfl,⟨nd,rfl⟩⟩;(try first|exact ⟨rfl,_,World.drewN_drewN _ _ _⟩|exact ⟨rfl,_,Eq.trans (World.drewN_drewN _ _ _) (congrArg (World.drewN _) (Nat.add_assoc _ _ _))⟩))|((with_reducible refine gate_dst (N:=58) rfl ?_);refine Kd.R_lit (Kd.int .i64) _ 2 ?hg (N:=58) ?hd (xs:=([x6_1,x7_2]:List Int)) (inner:=[.int .i64 x6_1,.int .i64 x7_2]) (ok:=fun _=>True) (okp:=fun _=>True) ?hr ?hp (fun _ hk=>hk) trivial (Below.refl _ _) (Nat.le_refl _) zdd ?_;(case hd=>rfl);(case hg=>rfl);(case hr=>exact zt);(case hp=>exact zdo);intro v111 w18 ho19 hb hg_ hnew_;clear hg_ hnew_;(first|rw [←Ny110.out] at ho19|(simp only [Int.reduceToNat] at ho19;rw [←Ny110.out] at ho19));replace HO_5:=Aside0.mk (Kd.S_elder' zcm (Kd.R_base ho19) hb);have HO112:=Aside0.mk (Kd.R_lower ho19 (below_size zaf));replace BK105:=Aside0.mk (blk_below (g:=gb105) (o:=.cells #[.string ((rd_T127 l0 x7_2).f0),.int .i64 ((rd_T127 l0 x7_2).f1),.int .i64 ((rd_T127 l0 x7_2).f2)] 127 (0,0)) zbc hb);replace HB:=Aside0.mk (below_step zaf hb);clear hb ho19;obtain ⟨Ao21,co21,eo21⟩:=Kd.R_slice HO112.out;subst eo21)|((with_reducible refine gate_builtin (b:=.append) (xs:=#[.tmp 55,.tmp 59]) rfl ?_);at_builtin;refine Kd.S_append (Kd.slice 2 (Kd.int .i64)) (w0:=w) w.heap.size rfl (.tmp 55) (.tmp 59) 123 126 (.slice none 0 0) 24 rfl Try.underlying123 info126 rfl zbq zbt u5 x5_2 y110 [.slice Ao21 y110.length co21] (fun _=>True) (fun k_=>some k_=(.slice Ao21 y110.length co21:Value).ownBlock) rfl rfl ?aP (fun k_ hk_=>((Kd.R_mono (ok':=fun k_=>((fun _=>True)) k_∧some k_≠(u5:Value).ownBlock) (Kd.R_apart' (HO112.out) (Kd.S_typed HO_5.out) zbq) (fun k_ hk=>⟨trivial,hk.2⟩))).1 k_ hk_.symm) ?aF ?aO ?aB ?aS ?aL ?_;(case aP=>exact Kd.M_row (Kd.R_mono (Kd.R_tight rfl (Kd.R_mono (ok':=fun k_=>((fun _=>True)) k_∧some k_≠(u5:Value).ownBlock) (Kd.R_apart' (HO112.out) (Kd.S_typed HO_5.out) zbq) (fun k_ hk=>⟨trivial,hk.2⟩))) (fun _ h_=>h_)));(case aB=>exact zaf);(case aF=>exact (fun _ _=>trivial));(case aO=>exact zdf);(case aS=>exact (below_size zaf));(case aL=>have:=LMc15.out;omega);intro v114 w20 ho hb hg hat;rw [←Ny113.out] at ho;replace BK105:=Aside0.mk (blk_grown (g:=gb105) (o:=.cells #[.string ((rd_T127 l0 x7_2).f0),.int .i64 ((rd_T127 l0 x7_2).f1),.int .i64 ((rd_T127 l0 x7_2).f2)] 127 (0,0)) (by (with_reducible repeat (first|refine blk_drewN ?_ _|refine blk_drew ?_|refine blk_alloc ?_ _));exact BK105.out) hg (Kd.S_ne HO_5.out BK105.out zbq));replace HB:=Aside0.mk (hb);have HO115:=Aside0.mk (ho);clear HO_5 HO112;clear ho hb hg hat)))
             go_roundg k2
             case measure=>have:=HK1.out;have:=HK2.out;omega
             case rel=>exact ⟨(y113),(wrap64 (x7_2+1)),zm,H',⟨by have:=HK1.out;have:=HK2.out;omega⟩,⟨by (with_reducible repeat (first|apply Kd.S_alloc|apply Kd.S_drewN|apply Kd.S_drew));exact HO115.out⟩,⟨zaf⟩⟩
            ·rw [if_neg c15] at H
             exact absurd H zdd
          ·rw [if_neg c10] at H
           have c10b0:(((rd_T127 l0 x7_2).f0).toList == ((rd_T125 l1 x6_1).f0).toList)=false:=beq_eq_false_iff_ne.mpr c10
           have c10b1:(((rd_T127 l0 x7_2).f0).toList != ((rd_T125 l1 x6_1).f0).toList)=true:=bne_iff_ne.mpr c10
           have H':=Aside0.mk H
           clear H
           have p104:0≤(x7_2:Int):=of_decide_eq_true zb
           have q104:x7_2<(l0.length:Int):=of_decide_eq_true zb
           obtain ⟨ad104,e104,hx104_0,hx104_1,hx104_2⟩:=at_T127 HR0.out x7_2 p104 q104
           cases e104
           replace hx104_0:=(HB.out.cell (World.block_lt_of_cell? w _ hx104_0)).trans hx104_0
           replace hx104_1:=(HB.out.cell (World.block_lt_of_cell? w _ hx104_1)).trans hx104_1
           replace hx104_2:=(HB.out.cell (World.block_lt_of_cell? w _ hx104_2)).trans hx104_2
           replace p104:=eq_true p104
           replace q104:=eq_true q104
           go_wp2_with (first|((with_reducible refine gate_dst (N:=8) rfl ?_);refine box_event ?hg (N:=8) ?hd (cs:=#[.string (⟨#[]⟩:ByteArray),.int .i64 0,.int .i64 0]) (t:=127) ?hr ?_;(case hd=>rfl);(case hg=>rfl);(case hr=>exact zt);intro gb105 hg w22 hbox hb;have n0_:=Aside0.mk (Kd.S_below zav hb);have n1_:=Aside0.mk (below_step za hb);have n2_:=Aside0.mk (hbox);have n3_:=Aside0.mk ((by rw [hg];exact (below_size za):w.heap.size≤gb105));have n4_:=Aside0.mk ((by rw [hg];exact (below_size za):w.heap.size≤gb105));clear HO_5;clear HB;have HO_5:=n0_;have HB:=n1_;have BK105:=n2_;have GW105:=n3_;have GE105:=n4_;clear n0_ n1_ n2_ n3_ n4_;clear hb hbox hg;have hcz23_0:w22.cell? ⟨gb105,0,none⟩=some (.string (⟨#[]⟩:ByteArray)):=(blk_cell BK105.out 0).trans rfl;have hcz23_1:w22.cell? ⟨gb105,1,none⟩=some (.int .i64 0):=(blk_cell BK105.out 1).trans rfl;have hcz23_2:w22.cell? ⟨gb105,2,none⟩=some (.int .i64 0):=(blk_cell BK105.out 2).trans rfl;have hfz23_0:=blk_frozen BK105.out 0;have hfz23_1:=blk_frozen BK105.out 1;have hfz23_2:=blk_frozen BK105.out 2;have p106:0≤(x6_1:Int):=of_decide_eq_true zb;have q106:x6_1<(l1.length:Int):=of_decide_eq_true zb;obtain ⟨ad106,e106,hx106_0,hx106_1,hx106_2⟩:=at_T125 HR1.out x6_1 p106 q106;cases e106;have hn106_0:ad106.block≠gb105:=Nat.ne_of_lt (Nat.lt_of_lt_of_le (by have:=World.block_lt_of_cell? _ _ hx106_0;first|rwa [add_block] at this|exact this) GW105.out);have hn106_1:ad106.block≠gb105:=Nat.ne_of_lt (Nat.lt_of_lt_of_le (by have:=World.block_lt_of_cell? _ _ hx106_0;first|rwa [add_block] at this|exact this) GW105.out);have hn106_2:ad106.block≠gb105:=Nat.ne_of_lt (Nat.lt_of_lt_of_le (by have:=World.block_lt_of_cell? _ _ hx106_0;first|rwa [add_block] at this|exact this) GW105.out);replace hx106_0:=(HB.out.cell (World.block_lt_of_cell? w _ hx106_0)).trans hx106_0;replace hx106_1:=(HB.out.cell (World.block_lt_of_cell? w _ hx106_1)).trans hx106_1;replace hx106_2:=(HB.out.cell (World.block_lt_of_cell? w _ hx106_2)).trans hx106_2;replace hx106_0:=(cell_far (p:=⟨gb105,0,none⟩) zai (.string ((rd_T127 l0 x7_2).f0))).trans hx106_0;replace hx106_1:=(cell_far (p:=⟨gb105,0,none⟩) zai (.string ((rd_T127 l0 x7_2).f0))).trans hx106_1;replace hx106_2:=(cell_far (p:=⟨gb105,0,none⟩) zai (.string ((rd_T127 l0 x7_2).f0))).trans hx106_2;replace hx106_0:=(cell_far (p:=⟨gb105,1,none⟩) zaj (.int .i64 ((rd_T127 l0 x7_2).f1))).trans hx106_0;replace hx106_1:=(cell_far (p:=⟨gb105,1,none⟩) zaj (.int .i64 ((rd_T127 l0 x7_2).f1))).trans hx106_1;replace hx106_2:=(cell_far (p:=⟨gb105,1,none⟩) zaj (.int .i64 ((rd_T127 l0 x7_2).f1))).trans hx106_2;replace hx106_0:=(cell_far (p:=⟨gb105,2,none⟩) zak (.int .i64 ((rd_T127 l0 x7_2).f2))).trans hx106_0;replace hx106_1:=(cell_far (p:=⟨gb105,2,none⟩) zak (.int .i64 ((rd_T127 l0 x7_2).f2))).trans hx106_1;replace hx106_2:=(cell_far (p:=⟨gb105,2,none⟩) zak (.int .i64 ((rd_T127 l0 x7_2).f2))).trans hx106_2;(try have hy106_0:=fun (n_:Nat)=>(show (((((w22.drewN n_).setCell ⟨gb105,0,none⟩ (.string ((rd_T127 l0 x7_2).f0))).setCell ⟨gb105,1,none⟩ (.int .i64 ((rd_T127 l0 x7_2).f1))).setCell ⟨gb105,2,none⟩ (.int .i64 ((rd_T127 l0 x7_2).f2)))).cell? _=some _ from hx106_0));(try have hy106_1:=fun (n_:Nat)=>(show (((((w22.drewN n_).setCell ⟨gb105,0,none⟩ (.string ((rd_T127 l0 x7_2).f0))).setCell ⟨gb105,1,none⟩ (.int .i64 ((rd_T127 l0 x7_2).f1))).setCell ⟨gb105,2,none⟩ (.int .i64 ((rd_T127 l0 x7_2).f2)))).cell? _=some _ from hx106_1));(try have hy106_2:=fun (n_:Nat)=>(show (((((w22.drewN n_).setCell ⟨gb105,0,none⟩ (.string ((rd_T127 l0 x7_2).f0))).setCell ⟨gb105,1,none⟩ (.int .i64 ((rd_T127 l0 x7_2).f1))).setCell ⟨gb105,2,none⟩ (.int .i64 ((rd_T127 l0 x7_2).f2)))).cell? _=some _ from hx106_2));clear hn106_0;clear hn106_1;clear hn106_2;replace p106:=eq_true p106;replace q106:=eq_true q106))
           repeat (go_quiet (first|((with_reducible refine gate_dst (N:=8) rfl ?_);refine box_event ?hg (N:=8) ?hd (cs:=#[.string (⟨#[]⟩:ByteArray),.int .i64 0,.int .i64 0]) (t:=127) ?hr ?_;(case hd=>rfl);(case hg=>rfl);(case hr=>exact zt);intro gb105 hg w22 hbox hb;have n0_:=Aside0.mk (Kd.S_below zav hb);have n1_:=Aside0.mk (below_step za hb);have n2_:=Aside0.mk (hbox);have n3_:=Aside0.mk ((by rw [hg];exact (below_size za):w.heap.size≤gb105));have n4_:=Aside0.mk ((by rw [hg];exact (below_size za):w.heap.size≤gb105));clear HO_5;clear HB;have HO_5:=n0_;have HB:=n1_;have BK105:=n2_;have GW105:=n3_;have GE105:=n4_;clear n0_ n1_ n2_ n3_ n4_;clear hb hbox hg;have hcz23_0:w22.cell? ⟨gb105,0,none⟩=some (.string (⟨#[]⟩:ByteArray)):=(blk_cell BK105.out 0).trans rfl;have hcz23_1:w22.cell? ⟨gb105,1,none⟩=some (.int .i64 0):=(blk_cell BK105.out 1).trans rfl;have hcz23_2:w22.cell? ⟨gb105,2,none⟩=some (.int .i64 0):=(blk_cell BK105.out 2).trans rfl;have hfz23_0:=blk_frozen BK105.out 0;have hfz23_1:=blk_frozen BK105.out 1;have hfz23_2:=blk_frozen BK105.out 2;have p106:0≤(x6_1:Int):=of_decide_eq_true zb;have q106:x6_1<(l1.length:Int):=of_decide_eq_true zb;obtain ⟨ad106,e106,hx106_0,hx106_1,hx106_2⟩:=at_T125 HR1.out x6_1 p106 q106;cases e106;have hn106_0:ad106.block≠gb105:=Nat.ne_of_lt (Nat.lt_of_lt_of_le (by have:=World.block_lt_of_cell? _ _ hx106_0;first|rwa [add_block] at this|exact this) GW105.out);have hn106_1:ad106.block≠gb105:=Nat.ne_of_lt (Nat.lt_of_lt_of_le (by have:=World.block_lt_of_cell? _ _ hx106_0;first|rwa [add_block] at this|exact this) GW105.out);have hn106_2:ad106.block≠gb105:=Nat.ne_of_lt (Nat.lt_of_lt_of_le (by have:=World.block_lt_of_cell? _ _ hx106_0;first|rwa [add_block] at this|exact this) GW105.out);replace hx106_0:=(HB.out.cell (World.block_lt_of_cell? w _ hx106_0)).trans hx106_0;replace hx106_1:=(HB.out.cell (World.block_lt_of_cell? w _ hx106_1)).trans hx106_1;replace hx106_2:=(HB.out.cell (World.block_lt_of_cell? w _ hx106_2)).trans hx106_2;replace hx106_0:=(cell_far (p:=⟨gb105,0,none⟩) zai (.string ((rd_T127 l0 x7_2).f0))).trans hx106_0;replace hx106_1:=(cell_far (p:=⟨gb105,0,none⟩) zai (.string ((rd_T127 l0 x7_2).f0))).trans hx106_1;replace hx106_2:=(cell_far (p:=⟨gb105,0,none⟩) zai (.string ((rd_T127 l0 x7_2).f0))).trans hx106_2;replace hx106_0:=(cell_far (p:=⟨gb105,1,none⟩) zaj (.int .i64 ((rd_T127 l0 x7_2).f1))).trans hx106_0;replace hx106_1:=(cell_far (p:=⟨gb105,1,none⟩) zaj (.int .i64 ((rd_T127 l0 x7_2).f1))).trans hx106_1;replace hx106_2:=(cell_far (p:=⟨gb105,1,none⟩) zaj (.int .i64 ((rd_T127 l0 x7_2).f1))).trans hx106_2;replace hx106_0:=(cell_far (p:=⟨gb105,2,none⟩) zak (.int .i64 ((rd_T127 l0 x7_2).f2))).trans hx106_0;replace hx106_1:=(cell_far (p:=⟨gb105,2,none⟩) zak (.int .i64 ((rd_T127 l0 x7_2).f2))).trans hx106_1;replace hx106_2:=(cell_far (p:=⟨gb105,2,none⟩) zak (.int .i64 ((rd_T127 l0 x7_2).f2))).trans hx106_2;(try have hy106_0:=fun (n_:Nat)=>(show (((((w22.drewN n_).setCell ⟨gb105,0,none⟩ (.string ((rd_T127 l0 x7_2).f0))).setCell ⟨gb105,1,none⟩ (.int .i64 ((rd_T127 l0 x7_2).f1))).setCell ⟨gb105,2,none⟩ (.int .i64 ((rd_T127 l0 x7_2).f2)))).cell? _=some _ from hx106_0));(try have hy106_1:=fun (n_:Nat)=>(show (((((w22.drewN n_).setCell ⟨gb105,0,none⟩ (.string ((rd_T127 l0 x7_2).f0))).setCell ⟨gb105,1,none⟩ (.int .i64 ((rd_T127 l0 x7_2).f1))).setCell ⟨gb105,2,none⟩ (.int .i64 ((rd_T127 l0 x7_2).f2)))).cell? _=some _ from hx106_1));(try have hy106_2:=fun (n_:Nat)=>(show (((((w22.drewN n_).setCell ⟨gb105,0,none⟩ (.string ((rd_T127 l0 x7_2).f0))).setCell ⟨gb105,1,none⟩ (.int .i64 ((rd_T127 l0 x7_2).f1))).setCell ⟨gb105,2,none⟩ (.int .i64 ((rd_T127 l0 x7_2).f2)))).cell? _=some _ from hx106_2));clear hn106_0;clear hn106_1;clear hn106_2;replace p106:=eq_true p106;replace q106:=eq_true q106));try go_wp2_with (first|((with_reducible refine gate_dst (N:=8) rfl ?_);refine box_event ?hg (N:=8) ?hd (cs:=#[.string (⟨#[]⟩:ByteArray),.int .i64 0,.int .i64 0]) (t:=127) ?hr ?_;(case hd=>rfl);(case hg=>rfl);(case hr=>exact zt);intro gb105 hg w22 hbox hb;have n0_:=Aside0.mk (Kd.S_below zav hb);have n1_:=Aside0.mk (below_step za hb);have n2_:=Aside0.mk (hbox);have n3_:=Aside0.mk ((by rw [hg];exact (below_size za):w.heap.size≤gb105));have n4_:=Aside0.mk ((by rw [hg];exact (below_size za):w.heap.size≤gb105));clear HO_5;clear HB;have HO_5:=n0_;have HB:=n1_;have BK105:=n2_;have GW105:=n3_;have GE105:=n4_;clear n0_ n1_ n2_ n3_ n4_;clear hb hbox hg;have hcz23_0:w22.cell? ⟨gb105,0,none⟩=some (.string (⟨#[]⟩:ByteArray)):=(blk_cell BK105.out 0).trans rfl;have hcz23_1:w22.cell? ⟨gb105,1,none⟩=some (.int .i64 0):=(blk_cell BK105.out 1).trans rfl;have hcz23_2:w22.cell? ⟨gb105,2,none⟩=some (.int .i64 0):=(blk_cell BK105.out 2).trans rfl;have hfz23_0:=blk_frozen BK105.out 0;have hfz23_1:=blk_frozen BK105.out 1;have hfz23_2:=blk_frozen BK105.out 2;have p106:0≤(x6_1:Int):=of_decide_eq_true zb;have q106:x6_1<(l1.length:Int):=of_decide_eq_true zb;obtain ⟨ad106,e106,hx106_0,hx106_1,hx106_2⟩:=at_T125 HR1.out x6_1 p106 q106;cases e106;have hn106_0:ad106.block≠gb105:=Nat.ne_of_lt (Nat.lt_of_lt_of_le (by have:=World.block_lt_of_cell? _ _ hx106_0;first|rwa [add_block] at this|exact this) GW105.out);have hn106_1:ad106.block≠gb105:=Nat.ne_of_lt (Nat.lt_of_lt_of_le (by have:=World.block_lt_of_cell? _ _ hx106_0;first|rwa [add_block] at this|exact this) GW105.out);have hn106_2:ad106.block≠gb105:=Nat.ne_of_lt (Nat.lt_of_lt_of_le (by have:=World.block_lt_of_cell? _ _ hx106_0;first|rwa [add_block] at this|exact this) GW105.out);replace hx106_0:=(HB.out.cell (World.block_lt_of_cell? w _ hx106_0)).trans hx106_0;replace hx106_1:=(HB.out.cell (World.block_lt_of_cell? w _ hx106_1)).trans hx106_1;replace hx106_2:=(HB.out.cell (World.block_lt_of_cell? w _ hx106_2)).trans hx106_2;replace hx106_0:=(cell_far (p:=⟨gb105,0,none⟩) zai (.string ((rd_T127 l0 x7_2).f0))).trans hx106_0;replace hx106_1:=(cell_far (p:=⟨gb105,0,none⟩) zai (.string ((rd_T127 l0 x7_2).f0))).trans hx106_1;replace hx106_2:=(cell_far (p:=⟨gb105,0,none⟩) zai (.string ((rd_T127 l0 x7_2).f0))).trans hx106_2;replace hx106_0:=(cell_far (p:=⟨gb105,1,none⟩) zaj (.int .i64 ((rd_T127 l0 x7_2).f1))).trans hx106_0;replace hx106_1:=(cell_far (p:=⟨gb105,1,none⟩) zaj (.int .i64 ((rd_T127 l0 x7_2).f1))).trans hx106_1;replace hx106_2:=(cell_far (p:=⟨gb105,1,none⟩) zaj (.int .i64 ((rd_T127 l0 x7_2).f1))).trans hx106_2;replace hx106_0:=(cell_far (p:=⟨gb105,2,none⟩) zak (.int .i64 ((rd_T127 l0 x7_2).f2))).trans hx106_0;replace hx106_1:=(cell_far (p:=⟨gb105,2,none⟩) zak (.int .i64 ((rd_T127 l0 x7_2).f2))).trans hx106_1;replace hx106_2:=(cell_far (p:=⟨gb105,2,none⟩) zak (.int .i64 ((rd_T127 l0 x7_2).f2))).trans hx106_2;(try have hy106_0:=fun (n_:Nat)=>(show (((((w22.drewN n_).setCell ⟨gb105,0,none⟩ (.string ((rd_T127 l0 x7_2).f0))).setCell ⟨gb105,1,none⟩ (.int .i64 ((rd_T127 l0 x7_2).f1))).setCell ⟨gb105,2,none⟩ (.int .i64 ((rd_T127 l0 x7_2).f2)))).cell? _=some _ from hx106_0));(try have hy106_1:=fun (n_:Nat)=>(show (((((w22.drewN n_).setCell ⟨gb105,0,none⟩ (.string ((rd_T127 l0 x7_2).f0))).setCell ⟨gb105,1,none⟩ (.int .i64 ((rd_T127 l0 x7_2).f1))).setCell ⟨gb105,2,none⟩ (.int .i64 ((rd_T127 l0 x7_2).f2)))).cell? _=some _ from hx106_1));(try have hy106_2:=fun (n_:Nat)=>(show (((((w22.drewN n_).setCell ⟨gb105,0,none⟩ (.string ((rd_T127 l0 x7_2).f0))).setCell ⟨gb105,1,none⟩ (.int .i64 ((rd_T127 l0 x7_2).f1))).setCell ⟨gb105,2,none⟩ (.int .i64 ((rd_T127 l0 x7_2).f2)))).cell? _=some _ from hx106_2));clear hn106_0;clear hn106_1;clear hn106_2;replace p106:=eq_true p106;replace q106:=eq_true q106)))
           go_roundg k2
           case measure=>have:=HK1.out;have:=HK2.out;omega
           case rel=>exact ⟨(x5_2),(wrap64 (x7_2+1)),zm,H',⟨by have:=HK1.out;have:=HK2.out;omega⟩,⟨by (with_reducible repeat (first|apply Kd.S_alloc|apply Kd.S_drewN|apply Kd.S_drew));exact Kd.S_mono (Kd.S_far (p:=⟨gb105,2,none⟩) (Kd.S_far (p:=⟨gb105,1,none⟩) (Kd.S_far (p:=⟨gb105,0,none⟩) (Kd.S_types HO_5.out BK105.out zbq) (fun _ hk=>hk.2) (.string ((rd_T127 l0 x7_2).f0))) (fun _ hk=>hk.2) (.int .i64 ((rd_T127 l0 x7_2).f1))) (fun _ hk=>hk.2) (.int .i64 ((rd_T127 l0 x7_2).f2))) (fun _ hk=>trivial)⟩,⟨zaf⟩⟩
         ·rw [if_neg c9] at H
          exact absurd H zdd
        ·rw [if_neg c8] at H
         exact absurd H zdd
       ·rw [if_neg c7] at H
        exact absurd H zdd
      ·rw [if_neg c6] at H
       have c6b0:decide (x7_2<(l0.length:Int))=false:=decide_eq_false c6
       clear c6
       have H':=Aside0.mk H
       clear H
       go_wp2
       repeat (go_quiet (fail);try go_wp2)
       go_roundg k2
       case measure=>have:=HK1.out;have:=HK2.out;omega
       case rel=>exact ⟨(x5_2),(wrap64 (x6_1+1)),zm,H',⟨by have:=HK1.out;have:=HK2.out;omega⟩,⟨zav⟩,⟨za⟩⟩
   ·rw [if_neg c5] at H
    have c5b0:decide (x6_1<(l1.length:Int))=false:=decide_eq_false c5
    clear c5
    obtain rfl:=Option.some.inj H
    go_wp2
    repeat (go_quiet (fail);try go_wp2)
    go_ret
    exact ⟨_,zk,zav,za⟩

def spec_l23Put.l0:Nat→List (S127)→Int→ByteArray→Int→Int→Option ((List (S127)))
 | 0,_,_,_,_,_=>none
 | k+1,x0,x5,x102000,x102001,x102002=>if x5 > 0 then (if 0≤(wrap64 (x5 - 1)) then (if (wrap64 (x5 - 1))<(x0.length:Int) then ((spec_l23Before_e.f [(⟨x102000,x102001,x102002⟩:S127)] 0 x0 (wrap64 (x5 - 1))).bind fun t103=>(if t103=true then (spec_l23Put.l0 k x0 (wrap64 (x5 - 1)) x102000 x102001 x102002) else ((some (([]:List (S127)):List (S127))).bind fun y104=>(if 0≤x5 then (if x5≤(x0.length:Int) then ((some (x0.take (x5:Int).toNat:List (S127))).bind fun y107=>(if y104.length+y107.length<4398046511104 then ((some (y104++y107:List (S127))).bind fun y111=>(if y111.length<4398046511104 then ((some (y111++[(⟨x102000,x102001,x102002⟩:S127)]:List (S127))).bind fun y114=>((some (x0.drop (x5:Int).toNat:List (S127))).bind fun y117=>(if y114.length+y117.length<4398046511104 then (some (y114++y117)) else (none)))) else (none))) else (none))) else (none)) else (none))))) else (none)) else (none)) else ((some (([]:List (S127)):List (S127))).bind fun y124=>(if 0≤x5 then (if x5≤(x0.length:Int) then ((some (x0.take (x5:Int).toNat:List (S127))).bind fun y127=>(if y124.length+y127.length<4398046511104 then ((some (y124++y127:List (S127))).bind fun y131=>(if y131.length<4398046511104 then ((some (y131++[(⟨x102000,x102001,x102002⟩:S127)]:List (S127))).bind fun y134=>((some (x0.drop (x5:Int).toNat:List (S127))).bind fun y137=>(if y134.length+y137.length<4398046511104 then (some (y134++y137)) else (none)))) else (none))) else (none))) else (none)) else (none)))
def spec_l23Put.f (k:Nat) (l0:List (S127)) (a1_0:ByteArray) (a1_1:Int) (a1_2:Int):Option ((List (S127))):=spec_l23Put.l0 k l0 (l0.length:Int) a1_0 a1_1 a1_2
set_option maxHeartbeats 8000000 in
set_option maxRecDepth 100000 in
theorem spec_l23Put.calls (k:Nat) (A0:Option Addr) (c0:Nat) (l0:List (S127)) (a1_0:ByteArray) (a1_1:Int) (a1_2:Int) (r:List (S127)) (w:World) (hr0:Kd.C k127 w A0 l0.length l0) (hc0:l0.length≤c0) (h:spec_l23Put.f k l0 a1_0 a1_1 a1_2=some r) :
 Calls Try.prog 91 #[.slice A0 l0.length c0,.agg #[.string a1_0,.int .i64 a1_1,.int .i64 a1_2]] w fun e w'=>∃v0_:Value,e = .returned (v0_)∧Kd.R k127 127 w' w.heap.size (fun _=>True) v0_ r∧Below w.heap.size w w':=by
 have hu127:=Try.underlying127
 have HR0:=Aside0.mk hr0
 have HC0:=Aside0.mk hc0
 clear hr0 hc0
 have HB:=Aside0.mk (Below.refl w.heap.size w)
 have H:(spec_l23Put.l0 k l0 (l0.length:Int) a1_0 a1_1 a1_2)=some r:=h
 clear h
 have H':=Aside0.mk H
 clear H
 go_enter Try.func91,Try.ntmps91
 go_wp2_with (first|((with_reducible refine gate_dst (N:=3) rfl ?_);refine box_event ?hg (N:=3) ?hd (cs:=#[.string a1_0,.int .i64 a1_1,.int .i64 a1_2]) (t:=127) ?hr ?_;(case hd=>rfl);(case hg=>rfl);(case hr=>exact zt);intro gb101 hg w3 hbox hb;have n0_:=Aside0.mk (below_step za hb);have n1_:=Aside0.mk (hbox);have n2_:=Aside0.mk ((by rw [hg];exact (below_size za):w.heap.size≤gb101));have n3_:=Aside0.mk ((by rw [hg];exact (below_size za):w.heap.size≤gb101));clear HB;have HB:=n0_;have BK101:=n1_;have GW101:=n2_;have GE101:=n3_;clear n0_ n1_ n2_ n3_;clear hb hbox hg))
 go_loopg [5] k (fun kq v5 w'=>∃(x5_1:Int) (x102000_1:ByteArray) (x102001_1:Int) (x102002_1:Int),v5 = .int .i64 x5_1∧Aside0 (spec_l23Put.l0 kq l0 x5_1 x102000_1 x102001_1 x102002_1=some r)∧Aside0 (kq≤k)∧Aside0 (w'.heap[gb101]?=some (.cells #[.string x102000_1,.int .i64 x102001_1,.int .i64 x102002_1] 127 (0,0)))∧Aside0 (Below w.heap.size w w'))
 case atStart=>exact ⟨((l0.length:Int)),(a1_0),(a1_1),(a1_2),zm,H',⟨Nat.le_refl _⟩,⟨ze⟩,⟨zd⟩⟩
 case round=>
  clear H'
  try clear p2
  obtain ⟨x5_1,x102000_1,x102001_1,x102002_1,rfl,HA,HK1,BK101,HB⟩:=hrel
  cases gk with
  | zero=>exact absurd HA.out (by simp [spec_l23Put.l0])
  | succ k1=>
   have H:=HA.out
   clear HA
   simp only [spec_l23Put.l0] at H
   by_cases c4:x5_1 > 0
   ·rw [if_pos c4] at H
    have c4b0:decide (0<x5_1)=true:=decide_eq_true c4
    clear c4
    obtain ⟨ji5,hji5⟩:∃j_:Int,(wrap64 (x5_1 - 1))=j_:=⟨_,rfl⟩
    replace H:(if 0≤(ji5) then (if (ji5)<(l0.length:Int) then ((spec_l23Before_e.f [(⟨x102000_1,x102001_1,x102002_1⟩:S127)] 0 l0 (ji5)).bind fun t103=>(if t103=true then (spec_l23Put.l0 k1 l0 ji5 x102000_1 x102001_1 x102002_1) else ((some (([]:List (S127)):List (S127))).bind fun y104=>(if 0≤x5_1 then (if x5_1≤(l0.length:Int) then ((some (l0.take (x5_1:Int).toNat:List (S127))).bind fun y107=>(if y104.length+y107.length<4398046511104 then ((some (y104++y107:List (S127))).bind fun y111=>(if y111.length<4398046511104 then ((some (y111++[(⟨x102000_1,x102001_1,x102002_1⟩:S127)]:List (S127))).bind fun y114=>((some (l0.drop (x5_1:Int).toNat:List (S127))).bind fun y117=>(if y114.length+y117.length<4398046511104 then (some (y114++y117)) else (none)))) else (none))) else (none))) else (none)) else (none))))) else (none)) else (none))=some r:=by first|(rw [hji5] at H;exact H)|(simp only [hji5] at H ⊢;exact H)
    have hji5w:(IntKind.i64.wrap (x5_1 - 1))=ji5:=(i64_w _).trans hji5
    by_cases c6:0≤(ji5)
    ·rw [if_pos c6] at H
     have c6b0:decide (0≤(ji5))=true:=decide_eq_true c6
     clear c6
     by_cases c7:(ji5)<(l0.length:Int)
     ·rw [if_pos c7] at H
      have c7b0:decide ((ji5)<(l0.length:Int))=true:=decide_eq_true c7
      clear c7
      replace H:=Option.bind_eq_some_iff.mp H
      obtain ⟨t103,A80,H⟩:=H
      replace H:(if t103=true then (spec_l23Put.l0 k1 l0 ji5 x102000_1 x102001_1 x102002_1) else ((some (([]:List (S127)):List (S127))).bind fun y104=>(if 0≤x5_1 then (if x5_1≤(l0.length:Int) then ((some (l0.take (x5_1:Int).toNat:List (S127))).bind fun y107=>(if y104.length+y107.length<4398046511104 then ((some (y104++y107:List (S127))).bind fun y111=>(if y111.length<4398046511104 then ((some (y111++[(⟨x102000_1,x102001_1,x102002_1⟩:S127)]:List (S127))).bind fun y114=>((some (l0.drop (x5_1:Int).toNat:List (S127))).bind fun y117=>(if y114.length+y117.length<4398046511104 then (some (y114++y117)) else (none)))) else (none))) else (none))) else (none)) else (none))))=some r:=H
      have A8:=Aside0.mk A80
      clear A80
      by_cases c9:t103=true
      ·subst c9
       have H1:(spec_l23Put.l0 k1 l0 ji5 x102000_1 x102001_1 x102002_1)=some r:=by rw [if_pos rfl] at H;exact H
       clear H
       have H:=H1
       clear H1
       have H':=Aside0.mk H
       clear H
       have p102:0≤((ji5):Int):=of_decide_eq_true zb
       have q102:(ji5)<(l0.length:Int):=of_decide_eq_true zb
       obtain ⟨ad102,e102,hx102_0,hx102_1,hx102_2⟩:=at_T127 HR0.out (ji5) p102 q102
       cases e102
       replace hx102_0:=(HB.out.cell (World.block_lt_of_cell? w _ hx102_0)).trans hx102_0
       replace hx102_1:=(HB.out.cell (World.block_lt_of_cell? w _ hx102_1)).trans hx102_1
       replace hx102_2:=(HB.out.cell (World.block_lt_of_cell? w _ hx102_2)).trans hx102_2
       replace p102:=eq_true p102
       replace q102:=eq_true q102
       go_wp2_with (first|(go_at_call 130;refine calls_of_args (args':=#[.pointer (some ((⟨gb101,0,none⟩:Addr).add ((0:Int).toNat*3))),.pointer (some (ad102.add (((ji5):Int).toNat*3)))]) (by first|rfl) ?_;(with_reducible refine (spec_l23Before_e.calls _ [(⟨x102000_1,x102001_1,x102002_1⟩:S127)] 0 _ l0 (ji5) true _ ?side1 ?side2 ?side3 ?side4 ?side5 ?side6 A8.out).mono ?_);(case side1=>exact box_C (ca:=#[.string x102000_1,.int .i64 x102001_1,.int .i64 x102002_1]) (t:=127) ze rfl _ (k127_mk _ _));(case side2=>first|(with_reducible assumption)|assumption|decide|exact decide_eq_true zdd|exact decide_eq_true zbt);(case side3=>first|(with_reducible assumption)|assumption|decide|exact decide_eq_true zdd|exact decide_eq_true zbt);(case side4=>exact zbs);(case side5=>first|(with_reducible assumption)|assumption|decide|exact decide_eq_true zdd|exact decide_eq_true zbt);(case side6=>first|(with_reducible assumption)|assumption|decide|exact decide_eq_true zdd|exact decide_eq_true zbt);rintro e w' ⟨rfl,⟨nd,rfl⟩⟩))
       go_roundg k1
       case measure=>have:=HK1.out;omega
       case rel=>exact ⟨(ji5),(x102000_1),(x102001_1),(x102002_1),(by first|rfl|(simp;done)|(simp only [←hji5]<;>(first|rfl|simp))|(simp [*];done)),H',⟨zdn⟩,⟨ze⟩,⟨zd⟩⟩
      ·replace c9:=Bool.eq_false_iff.mpr c9
       subst c9
       have H1:((some (([]:List (S127)):List (S127))).bind fun y104=>(if 0≤x5_1 then (if x5_1≤(l0.length:Int) then ((some (l0.take (x5_1:Int).toNat:List (S127))).bind fun y107=>(if y104.length+y107.length<4398046511104 then ((some (y104++y107:List (S127))).bind fun y111=>(if y111.length<4398046511104 then ((some (y111++[(⟨x102000_1,x102001_1,x102002_1⟩:S127)]:List (S127))).bind fun y114=>((some (l0.drop (x5_1:Int).toNat:List (S127))).bind fun y117=>(if y114.length+y117.length<4398046511104 then (some (y114++y117)) else (none)))) else (none))) else (none))) else (none)) else (none)))=some r:=by rw [if_neg (show ¬ (false=true) by decide)] at H;exact H
       clear H
       have H:=H1
       clear H1
       obtain ⟨y104,hy104⟩:∃y_:List (S127),y_=(([]:List (S127))):=⟨_,rfl⟩
       replace H:(if 0≤x5_1 then (if x5_1≤(l0.length:Int) then ((some (l0.take (x5_1:Int).toNat:List (S127))).bind fun y107=>(if y104.length+y107.length<4398046511104 then ((some (y104++y107:List (S127))).bind fun y111=>(if y111.length<4398046511104 then ((some (y111++[(⟨x102000_1,x102001_1,x102002_1⟩:S127)]:List (S127))).bind fun y114=>((some (l0.drop (x5_1:Int).toNat:List (S127))).bind fun y117=>(if y114.length+y117.length<4398046511104 then (some (y114++y117)) else (none)))) else (none))) else (none))) else (none)) else (none))=some r:=by first|(rw [hy104];with_reducible exact H)|(have H2_:=(Option.bind_some _ _).symm.trans H;rw [hy104];with_reducible exact H2_)|(have H2_:=(Option.bind_some _ _).symm.trans H;with_reducible exact H2_)|with_reducible exact H|(rw [hy104];exact H)|exact H
       have Ny104:=Aside0.mk hy104
       clear hy104
       by_cases c10:0≤x5_1
       ·rw [if_pos c10] at H
        have c10b0:=eq_true c10
        have c10b1:decide (0≤x5_1)=true:=decide_eq_true c10
        clear c10
        by_cases c11:x5_1≤(l0.length:Int)
        ·rw [if_pos c11] at H
         have c11b0:=eq_true c11
         have c11b1:decide (x5_1≤(l0.length:Int))=true:=decide_eq_true c11
         clear c11
         obtain ⟨y107,hy107⟩:∃y_:List (S127),y_=(l0.take (x5_1:Int).toNat):=⟨_,rfl⟩
         replace H:(if y104.length+y107.length<4398046511104 then ((some (y104++y107:List (S127))).bind fun y111=>(if y111.length<4398046511104 then ((some (y111++[(⟨x102000_1,x102001_1,x102002_1⟩:S127)]:List (S127))).bind fun y114=>((some (l0.drop (x5_1:Int).toNat:List (S127))).bind fun y117=>(if y114.length+y117.length<4398046511104 then (some (y114++y117)) else (none)))) else (none))) else (none))=some r:=by first|(rw [hy107];with_reducible exact H)|(have H2_:=(Option.bind_some _ _).symm.trans H;rw [hy107];with_reducible exact H2_)|(have H2_:=(Option.bind_some _ _).symm.trans H;with_reducible exact H2_)|with_reducible exact H|(rw [hy107];exact H)|exact H
         have Ny107:=Aside0.mk hy107
         clear hy107
         by_cases c12:y104.length+y107.length<4398046511104
         ·rw [if_pos c12] at H
          have LMc12:=Aside0.mk c12
          clear c12
          obtain ⟨y111,hy111⟩:∃y_:List (S127),y_=(y104++y107):=⟨_,rfl⟩
          replace H:(if y111.length<4398046511104 then ((some (y111++[(⟨x102000_1,x102001_1,x102002_1⟩:S127)]:List (S127))).bind fun y114=>((some (l0.drop (x5_1:Int).toNat:List (S127))).bind fun y117=>(if y114.length+y117.length<4398046511104 then (some (y114++y117)) else (none)))) else (none))=some r:=by first|(rw [hy111];with_reducible exact H)|(have H2_:=(Option.bind_some _ _).symm.trans H;rw [hy111];with_reducible exact H2_)|(have H2_:=(Option.bind_some _ _).symm.trans H;with_reducible exact H2_)|with_reducible exact H|(rw [hy111];exact H)|exact H
          have Ny111:=Aside0.mk hy111
          clear hy111
          by_cases c13:y111.length<4398046511104
          ·rw [if_pos c13] at H
           have LMc13:=Aside0.mk c13
           clear c13
           obtain ⟨y114,hy114⟩:∃y_:List (S127),y_=(y111++[(⟨x102000_1,x102001_1,x102002_1⟩:S127)]):=⟨_,rfl⟩
           replace H:((some (l0.drop (x5_1:Int).toNat:List (S127))).bind fun y117=>(if y114.length+y117.length<4398046511104 then (some (y114++y117)) else (none)))=some r:=by first|(rw [hy114];with_reducible exact H)|(have H2_:=(Option.bind_some _ _).symm.trans H;rw [hy114];with_reducible exact H2_)|(have H2_:=(Option.bind_some _ _).symm.trans H;with_reducible exact H2_)|with_reducible exact H|(rw [hy114];exact H)|exact H
           have Ny114:=Aside0.mk hy114
           clear hy114
           have c14b0:=eq_true (of_decide_eq_true zb:0≤x5_1)
           have c15b0:=eq_true (of_decide_eq_true zb:x5_1≤(l0.length:Int))
           obtain ⟨y117,hy117⟩:∃y_:List (S127),y_=(l0.drop (x5_1:Int).toNat):=⟨_,rfl⟩
           replace H:(if y114.length+y117.length<4398046511104 then (some (y114++y117)) else (none))=some r:=by first|(rw [hy117];with_reducible exact H)|(have H2_:=(Option.bind_some _ _).symm.trans H;rw [hy117];with_reducible exact H2_)|(have H2_:=(Option.bind_some _ _).symm.trans H;with_reducible exact H2_)|with_reducible exact H|(rw [hy117];exact H)|exact H
           have Ny117:=Aside0.mk hy117
           clear hy117
           by_cases c16:y114.length+y117.length<4398046511104
           ·rw [if_pos c16] at H
            have LMc16:=Aside0.mk c16
            clear c16
            obtain ⟨y121,hy121⟩:∃y_:List (S127),y_=(y114++y117):=⟨_,rfl⟩
            replace H:(some y121)=some r:=by first|(rw [hy121];with_reducible exact H)|(have H2_:=(Option.bind_some _ _).symm.trans H;rw [hy121];with_reducible exact H2_)|(have H2_:=(Option.bind_some _ _).symm.trans H;with_reducible exact H2_)|with_reducible exact H|(rw [hy121];exact H)|exact H
            have Ny121:=Aside0.mk hy121
            clear hy121
            obtain rfl:=Option.some.inj H
            have p102:0≤((ji5):Int):=of_decide_eq_true zb
            have q102:(ji5)<(l0.length:Int):=of_decide_eq_true zb
            obtain ⟨ad102,e102,hx102_0,hx102_1,hx102_2⟩:=at_T127 HR0.out (ji5) p102 q102
            cases e102
            replace hx102_0:=(HB.out.cell (World.block_lt_of_cell? w _ hx102_0)).trans hx102_0
            replace hx102_1:=(HB.out.cell (World.block_lt_of_cell? w _ hx102_1)).trans hx102_1
            replace hx102_2:=(HB.out.cell (World.block_lt_of_cell? w _ hx102_2)).trans hx102_2
            replace p102:=eq_true p102
            replace q102:=eq_true q102
            go_wp2_with (first|(go_at_call 130;refine calls_of_args (args':=#[.pointer (some ((⟨gb101,0,none⟩:Addr).add ((0:Int).toNat*3))),.pointer (some (ad102.add (((ji5):Int).toNat*3)))]) (by first|rfl) ?_;(with_reducible refine (spec_l23Before_e.calls _ [(⟨x102000_1,x102001_1,x102002_1⟩:S127)] 0 _ l0 (ji5) false _ ?side1 ?side2 ?side3 ?side4 ?side5 ?side6 A8.out).mono ?_);(case side1=>exact box_C (ca:=#[.string x102000_1,.int .i64 x102001_1,.int .i64 x102002_1]) (t:=127) ze rfl _ (k127_mk _ _));(case side2=>first|(with_reducible assumption)|assumption|decide|exact decide_eq_true zdd|exact decide_eq_true zbt);(case side3=>first|(with_reducible assumption)|assumption|decide|exact decide_eq_true zdd|exact decide_eq_true zbt);(case side4=>exact zbs);(case side5=>first|(with_reducible assumption)|assumption|decide|exact decide_eq_true zdd|exact decide_eq_true zbt);(case side6=>first|(with_reducible assumption)|assumption|decide|exact decide_eq_true zdd|exact decide_eq_true zbt);rintro e w' ⟨rfl,⟨nd,rfl⟩⟩)|((with_reducible refine gate_dst (N:=20) rfl ?_);refine Kd.R_lit k127 _ 127 ?hg (N:=20) ?hd (xs:=([]:List (S127))) (inner:=[]) (ok:=fun _=>True) (okp:=fun _=>True) ?hr ?hp (fun _ hk=>hk) trivial (Below.refl _ _) (Nat.le_refl _) zdd ?_;(case hd=>rfl);(case hg=>rfl);(case hr=>exact zt);(case hp=>exact (Reps.none _ _));intro v105 w17 ho18 hb hg_ hnew_;clear hg_ hnew_;(first|rw [←Ny104.out] at ho18|(simp only [Int.reduceToNat] at ho18;rw [←Ny104.out] at ho18));have HO106:=Aside0.mk (Kd.R_lower (Kd.R_newB ho18 (g:=gb101) (o:=.cells #[.string x102000_1,.int .i64 x102001_1,.int .i64 x102002_1] 127 (0,0)) ze) (below_size zd));replace BK101:=Aside0.mk (blk_below (g:=gb101) (o:=.cells #[.string x102000_1,.int .i64 x102001_1,.int .i64 x102002_1] 127 (0,0)) ze hb);replace HB:=Aside0.mk (below_step zd hb);clear hb ho18;have q19:(x5_1:Int)≤((l0.length:Int):Int):=of_decide_eq_true zb;obtain ⟨i019,hi019,_,hsz19,_⟩:=info_parts info127;have hroom19:l0.length≤c0:=HC0.out;have hC19:Kd.C k127 _ (some ad102) l0.length l0:=HR0.out;have hcut19:=cut_to (P:=Try.prog) 61 127 .i64 Try.underlying61 hi019 (some ad102) l0.length c0 x5_1 (of_decide_eq_true zb) q19 hroom19;have hr19:=Kd.C_take (m:=(x5_1:Int).toNat) hC19 zbt;have hy19:y107.length=(x5_1:Int).toNat:=(by rw [Ny107.out,List.length_take];omega);rw [←Ny107.out] at hr19;rw [←hy19] at hcut19;have HR110:=Aside0.mk hr19;have HC110:=Aside0.mk (show y107.length≤c0 from by omega);clear hr19 hC19 hroom19 hi019 hsz19;have KY19:=Aside0.mk hy19;clear hy19;replace q19:=eq_true q19)|((with_reducible refine gate_builtin (b:=.append) (xs:=#[.tmp 20,.tmp 23]) rfl ?_);at_builtin;refine Kd.R_append_rows k127 (w0:=w) w.heap.size rfl (.tmp 20) (.tmp 23) 61 127 (.agg #[(.string ⟨#[]⟩),(.int .i64 0),(.int .i64 0)]) 32 rfl Try.underlying61 info127 rfl zbq zbt v105 y104 y107 _ _ _ (fun k_=>k_≠gb101) (fun _=>False) rfl rfl ?aO ?aR (fun _ _ h=>h) (fun _ h=>h.elim) ?aF ?aB ?aS ?aL ?_;(case aR=>repeat (first|exact (Kd.C_below HR110.out HB.out)|(with_reducible refine Kd.C_alloc ?_ _)|(with_reducible refine Kd.C_drewN ?_ _)|(with_reducible refine Kd.C_drew ?_)));(case aB=>exact zd);(case aF=>exact (fun k_ hk=>Kd.freshB (g:=gb101) (o:=.cells #[.string x102000_1,.int .i64 x102001_1,.int .i64 x102002_1] 127 (0,0)) ze k_ hk));(case aO=>exact (by (with_reducible repeat (first|apply Kd.R_alloc|apply Kd.R_drewN|apply Kd.R_drew));exact Kd.R_mono HO106.out (fun _ hk=>hk.2)));(case aS=>exact (below_size zd));(case aL=>have:=LMc12.out;omega);intro v112 w20 ho hb hg hat;rw [←Ny111.out] at ho;replace BK101:=Aside0.mk (blk_grown (g:=gb101) (o:=.cells #[.string x102000_1,.int .i64 x102001_1,.int .i64 x102002_1] 127 (0,0)) ze hg (Kd.R_away HO106.out (fun _ hk=>hk.2)));replace HB:=Aside0.mk (hb);have HO113:=Aside0.mk (ho);clear HO106;clear ho hb hg hat;have hcz21_0:w20.cell? ⟨gb101,0,none⟩=some (.string x102000_1):=(blk_cell BK101.out 0).trans rfl;have hcz21_1:w20.cell? ⟨gb101,1,none⟩=some (.int .i64 x102001_1):=(blk_cell BK101.out 1).trans rfl;have hcz21_2:w20.cell? ⟨gb101,2,none⟩=some (.int .i64 x102002_1):=(blk_cell BK101.out 2).trans rfl;have hfz21_0:=blk_frozen BK101.out 0;have hfz21_1:=blk_frozen BK101.out 1;have hfz21_2:=blk_frozen BK101.out 2)|((with_reducible refine gate_builtin (b:=.append) (xs:=#[.tmp 25,.tmp 27]) rfl ?_);at_builtin;refine Kd.R_append k127 (w0:=w) w.heap.size rfl (.tmp 25) (.tmp 27) 61 127 (.agg #[(.string ⟨#[]⟩),(.int .i64 0),(.int .i64 0)]) 32 rfl Try.underlying61 info127 rfl zbq zbt v112 y111 (⟨x102000_1,x102001_1,x102002_1⟩:S127) [.string x102000_1,.int .i64 x102001_1,.int .i64 x102002_1] (fun k_=>k_≠gb101) (fun _=>False) rfl rfl ?aP (fun _ hk=>hk.elim) ?aF ?aO ?aB ?aS ?aL ?_;(case aP=>exact k127_mkM _ _ _ (⟨x102000_1,x102001_1,x102002_1⟩:S127));(case aB=>exact zd);(case aF=>exact (fun k_ hk=>Kd.freshB (g:=gb101) (o:=.cells #[.string x102000_1,.int .i64 x102001_1,.int .i64 x102002_1] 127 (0,0)) ze k_ hk));(case aO=>exact (by (with_reducible repeat (first|apply Kd.R_alloc|apply Kd.R_drewN|apply Kd.R_drew));exact HO113.out));(case aS=>exact (below_size zd));(case aL=>have:=LMc13.out;omega);intro v115 w22 ho hb hg hat;rw [←Ny114.out] at ho;replace BK101:=Aside0.mk (blk_grown (g:=gb101) (o:=.cells #[.string x102000_1,.int .i64 x102001_1,.int .i64 x102002_1] 127 (0,0)) ze hg (Kd.R_away HO113.out (fun _ hk=>hk)));replace HB:=Aside0.mk (hb);have HO116:=Aside0.mk (ho);clear HO113;clear ho hb hg hat;have q23:(x5_1:Int)≤((l0.length:Int):Int):=of_decide_eq_true zb;obtain ⟨i023,hi023,_,hsz23,_⟩:=info_parts info127;have hroom23:l0.length≤c0:=HC0.out;have hC23:Kd.C k127 _ (some ad102) l0.length l0:=HR0.out;have q023:(0:Int)≤(x5_1:Int):=of_decide_eq_true zb;have hcut23:=cut_from (P:=Try.prog) 61 127 .i64 Try.underlying61 hi023 3 hsz23 (some ad102) l0.length c0 x5_1 q023 q23;have hr23:=Kd.C_drop (m:=(x5_1:Int).toNat) (c:=c0) hC23 zbt hroom23;obtain ⟨A23,hA23⟩:∃A1,A1=(if c0=(x5_1:Int).toNat then (some ad102) else ((some ad102):Option Addr).map (·.add ((x5_1:Int).toNat*3))):=⟨_,rfl⟩;obtain ⟨c23,hc23⟩:∃c1,c1=c0 - (x5_1:Int).toNat:=⟨_,rfl⟩;have hy23:y117.length=l0.length - (x5_1:Int).toNat:=(by rw [Ny117.out,List.length_drop]<;>omega);rw [show (l0).drop (x5_1:Int).toNat=y117 from Ny117.out.symm] at hr23;replace hr23:Kd.C k127 _ A23 y117.length y117:=(by rw [hA23];exact hr23);rw [←hy23,←hA23,←hc23] at hcut23;have HR120:=Aside0.mk hr23;have HC120:=Aside0.mk (show y117.length≤c23 from by rw [hy23,hc23];exact Nat.sub_le_sub_right hroom23 _);clear hr23 hC23 hroom23 hi023 hsz23 hc23;have KY23:=Aside0.mk hy23;have KA23:=Aside0.mk hA23;clear hy23 hA23;replace q23:=eq_true q23)|((with_reducible refine gate_builtin (b:=.append) (xs:=#[.tmp 29,.tmp 32]) rfl ?_);at_builtin;refine Kd.R_append_rows k127 (w0:=w) w.heap.size rfl (.tmp 29) (.tmp 32) 61 127 (.agg #[(.string ⟨#[]⟩),(.int .i64 0),(.int .i64 0)]) 32 rfl Try.underlying61 info127 rfl zbq zbt v115 y114 y117 _ _ _ (fun k_=>k_≠gb101) (fun _=>False) rfl rfl ?aO ?aR (fun _ _ h=>h) (fun _ h=>h.elim) ?aF ?aB ?aS ?aL ?_;(case aR=>repeat (first|exact (Kd.C_below HR120.out HB.out)|(with_reducible refine Kd.C_alloc ?_ _)|(with_reducible refine Kd.C_drewN ?_ _)|(with_reducible refine Kd.C_drew ?_)));(case aB=>exact zd);(case aF=>exact (fun k_ hk=>Kd.freshB (g:=gb101) (o:=.cells #[.string x102000_1,.int .i64 x102001_1,.int .i64 x102002_1] 127 (0,0)) ze k_ hk));(case aO=>exact (by (with_reducible repeat (first|apply Kd.R_alloc|apply Kd.R_drewN|apply Kd.R_drew));exact HO116.out));(case aS=>exact (below_size zd));(case aL=>have:=LMc16.out;omega);intro v122 w24 ho hb hg hat;rw [←Ny121.out] at ho;replace BK101:=Aside0.mk (blk_grown (g:=gb101) (o:=.cells #[.string x102000_1,.int .i64 x102001_1,.int .i64 x102002_1] 127 (0,0)) ze hg (Kd.R_away HO116.out (fun _ hk=>hk)));replace HB:=Aside0.mk (hb);have HO123:=Aside0.mk (ho);clear HO116;clear ho hb hg hat))
            go_ret
            exact ⟨_,by first|rfl|(simp [errW_none,errW_some]<;>rfl)|(simp only [←hji5];first|rfl|(simp [errW_none,errW_some]<;>rfl))|(simp [*,errW_none,errW_some]<;>rfl),by (with_reducible repeat (first|apply Kd.R_alloc|apply Kd.R_drewN|apply Kd.R_drew));exact Kd.R_mono HO123.out (fun _ hk=>trivial),zd⟩
           ·rw [if_neg c16] at H
            exact absurd H zdd
          ·rw [if_neg c13] at H
           exact absurd H zdd
         ·rw [if_neg c12] at H
          exact absurd H zdd
        ·rw [if_neg c11] at H
         exact absurd H zdd
       ·rw [if_neg c10] at H
        exact absurd H zdd
     ·rw [if_neg c7] at H
      exact absurd H zdd
    ·rw [if_neg c6] at H
     exact absurd H zdd
   ·rw [if_neg c4] at H
    have c4b0:decide (0<x5_1)=false:=decide_eq_false c4
    clear c4
    obtain ⟨y124,hy124⟩:∃y_:List (S127),y_=(([]:List (S127))):=⟨_,rfl⟩
    replace H:(if 0≤x5_1 then (if x5_1≤(l0.length:Int) then ((some (l0.take (x5_1:Int).toNat:List (S127))).bind fun y127=>(if y124.length+y127.length<4398046511104 then ((some (y124++y127:List (S127))).bind fun y131=>(if y131.length<4398046511104 then ((some (y131++[(⟨x102000_1,x102001_1,x102002_1⟩:S127)]:List (S127))).bind fun y134=>((some (l0.drop (x5_1:Int).toNat:List (S127))).bind fun y137=>(if y134.length+y137.length<4398046511104 then (some (y134++y137)) else (none)))) else (none))) else (none))) else (none)) else (none))=some r:=by first|(rw [hy124];with_reducible exact H)|(have H2_:=(Option.bind_some _ _).symm.trans H;rw [hy124];with_reducible exact H2_)|(have H2_:=(Option.bind_some _ _).symm.trans H;with_reducible exact H2_)|with_reducible exact H|(rw [hy124];exact H)|exact H
    have Ny124:=Aside0.mk hy124
    clear hy124
    by_cases c25:0≤x5_1
    ·rw [if_pos c25] at H
     have c25b0:=eq_true c25
     have c25b1:decide (0≤x5_1)=true:=decide_eq_true c25
     clear c25
     by_cases c26:x5_1≤(l0.length:Int)
     ·rw [if_pos c26] at H
      have c26b0:=eq_true c26
      have c26b1:decide (x5_1≤(l0.length:Int))=true:=decide_eq_true c26
      clear c26
      obtain ⟨y127,hy127⟩:∃y_:List (S127),y_=(l0.take (x5_1:Int).toNat):=⟨_,rfl⟩
      replace H:(if y124.length+y127.length<4398046511104 then ((some (y124++y127:List (S127))).bind fun y131=>(if y131.length<4398046511104 then ((some (y131++[(⟨x102000_1,x102001_1,x102002_1⟩:S127)]:List (S127))).bind fun y134=>((some (l0.drop (x5_1:Int).toNat:List (S127))).bind fun y137=>(if y134.length+y137.length<4398046511104 then (some (y134++y137)) else (none)))) else (none))) else (none))=some r:=by first|(rw [hy127];with_reducible exact H)|(have H2_:=(Option.bind_some _ _).symm.trans H;rw [hy127];with_reducible exact H2_)|(have H2_:=(Option.bind_some _ _).symm.trans H;with_reducible exact H2_)|with_reducible exact H|(rw [hy127];exact H)|exact H
      have Ny127:=Aside0.mk hy127
      clear hy127
      by_cases c27:y124.length+y127.length<4398046511104
      ·rw [if_pos c27] at H
       have LMc27:=Aside0.mk c27
       clear c27
       obtain ⟨y131,hy131⟩:∃y_:List (S127),y_=(y124++y127):=⟨_,rfl⟩
       replace H:(if y131.length<4398046511104 then ((some (y131++[(⟨x102000_1,x102001_1,x102002_1⟩:S127)]:List (S127))).bind fun y134=>((some (l0.drop (x5_1:Int).toNat:List (S127))).bind fun y137=>(if y134.length+y137.length<4398046511104 then (some (y134++y137)) else (none)))) else (none))=some r:=by first|(rw [hy131];with_reducible exact H)|(have H2_:=(Option.bind_some _ _).symm.trans H;rw [hy131];with_reducible exact H2_)|(have H2_:=(Option.bind_some _ _).symm.trans H;with_reducible exact H2_)|with_reducible exact H|(rw [hy131];exact H)|exact H
       have Ny131:=Aside0.mk hy131
       clear hy131
       by_cases c28:y131.length<4398046511104
       ·rw [if_pos c28] at H
        have LMc28:=Aside0.mk c28
        clear c28
        obtain ⟨y134,hy134⟩:∃y_:List (S127),y_=(y131++[(⟨x102000_1,x102001_1,x102002_1⟩:S127)]):=⟨_,rfl⟩
        replace H:((some (l0.drop (x5_1:Int).toNat:List (S127))).bind fun y137=>(if y134.length+y137.length<4398046511104 then (some (y134++y137)) else (none)))=some r:=by first|(rw [hy134];with_reducible exact H)|(have H2_:=(Option.bind_some _ _).symm.trans H;rw [hy134];with_reducible exact H2_)|(have H2_:=(Option.bind_some _ _).symm.trans H;with_reducible exact H2_)|with_reducible exact H|(rw [hy134];exact H)|exact H
        have Ny134:=Aside0.mk hy134
        clear hy134
        have c29b0:=eq_true (of_decide_eq_true zb:0≤x5_1)
        have c30b0:=eq_true (of_decide_eq_true zb:x5_1≤(l0.length:Int))
        obtain ⟨y137,hy137⟩:∃y_:List (S127),y_=(l0.drop (x5_1:Int).toNat):=⟨_,rfl⟩
        replace H:(if y134.length+y137.length<4398046511104 then (some (y134++y137)) else (none))=some r:=by first|(rw [hy137];with_reducible exact H)|(have H2_:=(Option.bind_some _ _).symm.trans H;rw [hy137];with_reducible exact H2_)|(have H2_:=(Option.bind_some _ _).symm.trans H;with_reducible exact H2_)|with_reducible exact H|(rw [hy137];exact H)|exact H
        have Ny137:=Aside0.mk hy137
        clear hy137
        by_cases c31:y134.length+y137.length<4398046511104
        ·rw [if_pos c31] at H
         have LMc31:=Aside0.mk c31
         clear c31
         obtain ⟨y141,hy141⟩:∃y_:List (S127),y_=(y134++y137):=⟨_,rfl⟩
         replace H:(some y141)=some r:=by first|(rw [hy141];with_reducible exact H)|(have H2_:=(Option.bind_some _ _).symm.trans H;rw [hy141];with_reducible exact H2_)|(have H2_:=(Option.bind_some _ _).symm.trans H;with_reducible exact H2_)|with_reducible exact H|(rw [hy141];exact H)|exact H
         have Ny141:=Aside0.mk hy141
         clear hy141
         obtain rfl:=Option.some.inj H
         go_wp2_with (first|((with_reducible refine gate_dst (N:=20) rfl ?_);refine Kd.R_lit k127 _ 127 ?hg (N:=20) ?hd (xs:=([]:List (S127))) (inner:=[]) (ok:=fun _=>True) (okp:=fun _=>True) ?hr ?hp (fun _ hk=>hk) trivial (Below.refl _ _) (Nat.le_refl _) zdd ?_;(case hd=>rfl);(case hg=>rfl);(case hr=>exact zt);(case hp=>exact (Reps.none _ _));intro v125 w32 ho33 hb hg_ hnew_;clear hg_ hnew_;(first|rw [←Ny124.out] at ho33|(simp only [Int.reduceToNat] at ho33;rw [←Ny124.out] at ho33));have HO126:=Aside0.mk (Kd.R_lower (Kd.R_newB ho33 (g:=gb101) (o:=.cells #[.string x102000_1,.int .i64 x102001_1,.int .i64 x102002_1] 127 (0,0)) ze) (below_size zd));replace BK101:=Aside0.mk (blk_below (g:=gb101) (o:=.cells #[.string x102000_1,.int .i64 x102001_1,.int .i64 x102002_1] 127 (0,0)) ze hb);replace HB:=Aside0.mk (below_step zd hb);clear hb ho33;have q34:(x5_1:Int)≤((l0.length:Int):Int):=of_decide_eq_true zb;obtain ⟨i034,hi034,_,hsz34,_⟩:=info_parts info127;have hroom34:l0.length≤c0:=HC0.out;have hC34:Kd.C k127 _ A0 l0.length l0:=HR0.out;have hcut34:=cut_to (P:=Try.prog) 61 127 .i64 Try.underlying61 hi034 A0 l0.length c0 x5_1 (of_decide_eq_true zb) q34 hroom34;have hr34:=Kd.C_take (m:=(x5_1:Int).toNat) hC34 zbt;have hy34:y127.length=(x5_1:Int).toNat:=(by rw [Ny127.out,List.length_take];omega);rw [←Ny127.out] at hr34;rw [←hy34] at hcut34;have HR130:=Aside0.mk hr34;have HC130:=Aside0.mk (show y127.length≤c0 from by omega);clear hr34 hC34 hroom34 hi034 hsz34;have KY34:=Aside0.mk hy34;clear hy34;replace q34:=eq_true q34)|((with_reducible refine gate_builtin (b:=.append) (xs:=#[.tmp 20,.tmp 23]) rfl ?_);at_builtin;refine Kd.R_append_rows k127 (w0:=w) w.heap.size rfl (.tmp 20) (.tmp 23) 61 127 (.agg #[(.string ⟨#[]⟩),(.int .i64 0),(.int .i64 0)]) 32 rfl Try.underlying61 info127 rfl zbq zbt v125 y124 y127 _ _ _ (fun k_=>k_≠gb101) (fun _=>False) rfl rfl ?aO ?aR (fun _ _ h=>h) (fun _ h=>h.elim) ?aF ?aB ?aS ?aL ?_;(case aR=>repeat (first|exact (Kd.C_below HR130.out HB.out)|(with_reducible refine Kd.C_alloc ?_ _)|(with_reducible refine Kd.C_drewN ?_ _)|(with_reducible refine Kd.C_drew ?_)));(case aB=>exact zd);(case aF=>exact (fun k_ hk=>Kd.freshB (g:=gb101) (o:=.cells #[.string x102000_1,.int .i64 x102001_1,.int .i64 x102002_1] 127 (0,0)) ze k_ hk));(case aO=>exact (by (with_reducible repeat (first|apply Kd.R_alloc|apply Kd.R_drewN|apply Kd.R_drew));exact Kd.R_mono HO126.out (fun _ hk=>hk.2)));(case aS=>exact (below_size zd));(case aL=>have:=LMc27.out;omega);intro v132 w35 ho hb hg hat;rw [←Ny131.out] at ho;replace BK101:=Aside0.mk (blk_grown (g:=gb101) (o:=.cells #[.string x102000_1,.int .i64 x102001_1,.int .i64 x102002_1] 127 (0,0)) ze hg (Kd.R_away HO126.out (fun _ hk=>hk.2)));replace HB:=Aside0.mk (hb);have HO133:=Aside0.mk (ho);clear HO126;clear ho hb hg hat;have hcz36_0:w35.cell? ⟨gb101,0,none⟩=some (.string x102000_1):=(blk_cell BK101.out 0).trans rfl;have hcz36_1:w35.cell? ⟨gb101,1,none⟩=some (.int .i64 x102001_1):=(blk_cell BK101.out 1).trans rfl;have hcz36_2:w35.cell? ⟨gb101,2,none⟩=some (.int .i64 x102002_1):=(blk_cell BK101.out 2).trans rfl;have hfz36_0:=blk_frozen BK101.out 0;have hfz36_1:=blk_frozen BK101.out 1;have hfz36_2:=blk_frozen BK101.out 2)|((with_reducible refine gate_builtin (b:=.append) (xs:=#[.tmp 25,.tmp 27]) rfl ?_);at_builtin;refine Kd.R_append k127 (w0:=w) w.heap.size rfl (.tmp 25) (.tmp 27) 61 127 (.agg #[(.string ⟨#[]⟩),(.int .i64 0),(.int .i64 0)]) 32 rfl Try.underlying61 info127 rfl zbq zbt v132 y131 (⟨x102000_1,x102001_1,x102002_1⟩:S127) [.string x102000_1,.int .i64 x102001_1,.int .i64 x102002_1] (fun k_=>k_≠gb101) (fun _=>False) rfl rfl ?aP (fun _ hk=>hk.elim) ?aF ?aO ?aB ?aS ?aL ?_;(case aP=>exact k127_mkM _ _ _ (⟨x102000_1,x102001_1,x102002_1⟩:S127));(case aB=>exact zd);(case aF=>exact (fun k_ hk=>Kd.freshB (g:=gb101) (o:=.cells #[.string x102000_1,.int .i64 x102001_1,.int .i64 x102002_1] 127 (0,0)) ze k_ hk));(case aO=>exact (by (with_reducible repeat (first|apply Kd.R_alloc|apply Kd.R_drewN|apply Kd.R_drew));exact HO133.out));(case aS=>exact (below_size zd));(case aL=>have:=LMc28.out;omega);intro v135 w37 ho hb hg hat;rw [←Ny134.out] at ho;replace BK101:=Aside0.mk (blk_grown (g:=gb101) (o:=.cells #[.string x102000_1,.int .i64 x102001_1,.int .i64 x102002_1] 127 (0,0)) ze hg (Kd.R_away HO133.out (fun _ hk=>hk)));replace HB:=Aside0.mk (hb);have HO136:=Aside0.mk (ho);clear HO133;clear ho hb hg hat;have q38:(x5_1:Int)≤((l0.length:Int):Int):=of_decide_eq_true zb;obtain ⟨i038,hi038,_,hsz38,_⟩:=info_parts info127;have hroom38:l0.length≤c0:=HC0.out;have hC38:Kd.C k127 _ A0 l0.length l0:=HR0.out;have q038:(0:Int)≤(x5_1:Int):=of_decide_eq_true zb;have hcut38:=cut_from (P:=Try.prog) 61 127 .i64 Try.underlying61 hi038 3 hsz38 A0 l0.length c0 x5_1 q038 q38;have hr38:=Kd.C_drop (m:=(x5_1:Int).toNat) (c:=c0) hC38 zbt hroom38;obtain ⟨A38,hA38⟩:∃A1,A1=(if c0=(x5_1:Int).toNat then A0 else (A0:Option Addr).map (·.add ((x5_1:Int).toNat*3))):=⟨_,rfl⟩;obtain ⟨c38,hc38⟩:∃c1,c1=c0 - (x5_1:Int).toNat:=⟨_,rfl⟩;have hy38:y137.length=l0.length - (x5_1:Int).toNat:=(by rw [Ny137.out,List.length_drop]<;>omega);rw [show (l0).drop (x5_1:Int).toNat=y137 from Ny137.out.symm] at hr38;replace hr38:Kd.C k127 _ A38 y137.length y137:=(by rw [hA38];exact hr38);rw [←hy38,←hA38,←hc38] at hcut38;have HR140:=Aside0.mk hr38;have HC140:=Aside0.mk (show y137.length≤c38 from by rw [hy38,hc38];exact Nat.sub_le_sub_right hroom38 _);clear hr38 hC38 hroom38 hi038 hsz38 hc38;have KY38:=Aside0.mk hy38;have KA38:=Aside0.mk hA38;clear hy38 hA38;replace q38:=eq_true q38)|((with_reducible refine gate_builtin (b:=.append) (xs:=#[.tmp 29,.tmp 32]) rfl ?_);at_builtin;refine Kd.R_append_rows k127 (w0:=w) w.heap.size rfl (.tmp 29) (.tmp 32) 61 127 (.agg #[(.string ⟨#[]⟩),(.int .i64 0),(.int .i64 0)]) 32 rfl Try.underlying61 info127 rfl zbq zbt v135 y134 y137 _ _ _ (fun k_=>k_≠gb101) (fun _=>False) rfl rfl ?aO ?aR (fun _ _ h=>h) (fun _ h=>h.elim) ?aF ?aB ?aS ?aL ?_;(case aR=>repeat (first|exact (Kd.C_below HR140.out HB.out)|(with_reducible refine Kd.C_alloc ?_ _)|(with_reducible refine Kd.C_drewN ?_ _)|(with_reducible refine Kd.C_drew ?_)));(case aB=>exact zd);(case aF=>exact (fun k_ hk=>Kd.freshB (g:=gb101) (o:=.cells #[.string x102000_1,.int .i64 x102001_1,.int .i64 x102002_1] 127 (0,0)) ze k_ hk));(case aO=>exact (by (with_reducible repeat (first|apply Kd.R_alloc|apply Kd.R_drewN|apply Kd.R_drew));exact HO136.out));(case aS=>exact (below_size zd));(case aL=>have:=LMc31.out;omega);intro v142 w39 ho hb hg hat;rw [←Ny141.out] at ho;replace BK101:=Aside0.mk (blk_grown (g:=gb101) (o:=.cells #[.string x102000_1,.int .i64 x102001_1,.int .i64 x102002_1] 127 (0,0)) ze hg (Kd.R_away HO136.out (fun _ hk=>hk)));replace HB:=Aside0.mk (hb);have HO143:=Aside0.mk (ho);clear HO136;clear ho hb hg hat))
         go_ret
         exact ⟨_,zk,by (with_reducible repeat (first|apply Kd.R_alloc|apply Kd.R_drewN|apply Kd.R_drew));exact Kd.R_mono HO143.out (fun _ hk=>trivial),zd⟩
        ·rw [if_neg c31] at H
         exact absurd H zdd
       ·rw [if_neg c28] at H
        exact absurd H zdd
      ·rw [if_neg c27] at H
       exact absurd H zdd
     ·rw [if_neg c26] at H
      exact absurd H zdd
    ·rw [if_neg c25] at H
     exact absurd H zdd
end Go.Proofs.Ytocegmkifmdlcaa.P
