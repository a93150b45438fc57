/- Part a of what FnVersions stands on: functions of the program as Lean functions with their walks, and plain lemmas. -/
import Derived.Handed
import Derived.HandedShaped
import Derived.LaidMore
import Derived.Lay
import Derived.Stop.Joined
import Derived.Stop.LaidErr
import Derived.Shelf.Vars
import Derived.Lib.LaidTab
import Derived.Lib.ItoaNum
import Derived.Test.YtocegmkifmdlcaaDoorK
namespace Go.Proofs.YtocegmkifmdlcaaDoorD
open Go
set_option linter.unusedVariables false
set_option linter.unusedSimpArgs false
variable {H : Type} {enc : TypeId × Value → H}
theorem handed {a : Assume} {C : Checked} {os : Os} {f : FuncId} {fn : Func} {s : ChangeSpec} {conds : List PathCond} {apart fresh handsOn again : Bool} {X : World → Array Value → Prop}
    (hX : ∀ (w w' : World) (args : Array Value), w.heap = w'.heap → X w args → X w' args)
    (own : ownKnob C.prog.godebug = none) (started : os.Started) (noInit : C.prog.inits.idxOf? f = none) (hfn : C.prog.funcs[f]? = some fn)
    (witness : ∃ (w : World) (tape : Tape) (i : Input), w.os = os ∧ (w.forCall tape i).Shaped C.prog ∧ i.vars = [] ∧ Input.okWide C.prog (w.forCall tape i) .any w.heap.size f i ∧
      ((s.pre enc C.prog fn conds apart (w.forCall tape i).memory i.args ∧ X (w.forCall tape i).memory i.args) ∧ sizedMet enc C.prog fn (OpenSpec.ofChange s) apart (w.forCall tape i).memory i.args) ∧ a.holds C.prog (lone (Frame.enter C.prog f i.args .normal) [] (w.forCall tape i)))
    (contract : ∀ (W : World) (base : Nat) (args : Array Value) (ds gs : List (DataW H)) (before : List MemPlace),
      (∀ (j : Nat) t v, fn.params[j]? = some t → args[j]? = some v → Value.okWide C.prog W .any base t v) →
      DataW.Whole enc C.prog fn.params.toList s.vars apart W args.toList ds gs before →
      conds.all (PathCond.test C.prog ⟨fn.params.toList, ds, s.plain.varTypes C.prog, gs⟩) = true →
      (DataW.weightsEach C.prog (fn.params.toList ++ s.plain.varTypes C.prog) (ds ++ gs)).all (· ≤ reachBytes) = true → X W args → W.ShapedOpen C.prog →
      a.holds C.prog (lone (Frame.enter C.prog f args .normal) [] W) →
      Calls C.prog f args W fun e W' => ∃ v, e = .returned v ∧ s.post enc C.prog fn apart fresh handsOn again W args v W') :
    ReturnsInHanded a C os f .any (fun w args => (s.pre enc C.prog fn conds apart w args ∧ X w args) ∧ sizedMet enc C.prog fn (OpenSpec.ofChange s) apart w args) (s.post enc C.prog fn apart fresh handsOn again) := by
  refine returnsInHanded_of_calls own started noInit witness ?_
  intro w tape i _ hsh _ hok hpre hholds
  obtain ⟨_, _, _, fn', hfn', _, _, _, _, hval⟩ := hok
  have e : fn' = fn := Option.some.inj (hfn'.symm.trans hfn)
  subst e
  obtain ⟨⟨⟨ds, gs, before, hw, hc⟩, hx⟩, hz⟩ := hpre
  have hw' := DataW.Whole.of_heap (w' := w.forCall tape i) (by rfl) hw
  refine (contract (w.forCall tape i) w.heap.size i.args ds gs before hval hw' hc (hz.weights hw) (hX _ _ _ (by rfl) hx) hsh hholds).mono fun e W' ⟨v, he, hp⟩ => ?_
  subst he
  exact ChangeSpec.post_blind hp
end Go.Proofs.YtocegmkifmdlcaaDoorD

/- Default proofs: tactic blocks that stand often in the walks, once each. -/
namespace Go.Proofs.YtocegmkifmdlcaaDoor.P
open Go.RowKit Go.Proofs.YtocegmkifmdlcaaDoorW.PrintWords Go.Proofs.YtocegmkifmdlcaaDoorW.PrintLast Go.Proofs.YtocegmkifmdlcaaDoorW.PrintMore
set_option linter.unusedVariables false
section
variable {P:Program} {ops:Array Oper} {Q:Exit→Act→World→Prop} {md:Region.Mode} {S:World→Prop} {ds:List Nat}
theorem pA (i N:Nat) {oi:Oper} {v:Value} {fuel:Nat} {l l':Array Bool} {a a':Act} {w:World} (h:wpAnyLast P md ops Q S ds fuel l' a' w) (hl:l.setIfInBounds i true=l':=by simp only [List.setIfInBounds_toArray,List.set_cons_zero,List.set_cons_succ];rfl) (hi:ops[i]?=some oi:=by exact rfl) (hN:oi.dst=some N:=by exact rfl) (hc:anyB md ops l l' i=true:=by first|exact any_of HT_.out (by kernel_rfl)|kernel_rfl) (hQ:∀c a w,Q (.panic c) (a.put oi.dst v) w→Q (.panic c) a w:=by exact fun _ _ _ h=>h) (hw:Region.wanted oi (yielded ops a.tmps)=true:=by rfl) (hy:∀w',(execOp a.eval oi).run P w' = .ok (.value v) w':=by intro w';go_simp;with_reducible rfl) (ha:a.put (some N) v=a':=by simp only [Act.put,List.setIfInBounds_toArray,List.set_cons_zero,List.set_cons_succ,i64_w,i32_w];rfl):wpAnyLast P md ops Q S ds (fuel+1) l a w:=pure_ l' hi hN hc hQ (Or.inl ⟨hw,hy⟩) ha h
theorem pU (i N:Nat) {oi:Oper} {fuel:Nat} {l l':Array Bool} {a a':Act} {w:World} (h:wpAnyLast P md ops Q S ds fuel l' a' w) (hl:l.setIfInBounds i true=l':=by simp only [List.setIfInBounds_toArray,List.set_cons_zero,List.set_cons_succ];rfl) (hi:ops[i]?=some oi:=by exact rfl) (hN:oi.dst=some N:=by exact rfl) (hc:anyB md ops l l' i=true:=by first|exact any_of HT_.out (by kernel_rfl)|kernel_rfl) (hQ:∀c a w,Q (.panic c) (a.put oi.dst undef) w→Q (.panic c) a w:=by exact fun _ _ _ h=>h) (hw:Region.wanted oi (yielded ops a.tmps)=false:=by rfl) (ha:a.put (some N) undef=a':=by simp only [Act.put,List.setIfInBounds_toArray,List.set_cons_zero,List.set_cons_succ,i64_w,i32_w];rfl):wpAnyLast P md ops Q S ds (fuel+1) l a w:=pure_ (v:=undef) l' hi hN hc hQ (Or.inr ⟨hw,rfl⟩) ha h
theorem pT (i N:Nat) {oi:Oper} {v:Value} {fuel:Nat} {l l':Array Bool} {a a':Act} {w:World} (hi:ops[i]?=some oi) (hy:∀w',S w'→(execOp a.eval oi).run P w' = .ok (.value v) w') (h:wpAnyLast P md ops Q S ds fuel l' a' w) (hS:S w:=by exact hHeld) (hl:l.setIfInBounds i true=l':=by simp only [List.setIfInBounds_toArray,List.set_cons_zero,List.set_cons_succ];rfl) (hN:oi.dst=some N:=by exact rfl) (hc:takeB md ops ds l l' i=true:=by first|exact take_ofW HT_.out HW_.out (by kernel_rfl)|kernel_rfl) (hQ:∀c a w,Q (.panic c) (a.put oi.dst v) w→Q (.panic c) a w:=by exact fun _ _ _ h=>h) (hw:Region.wanted oi (yielded ops a.tmps)=true:=by rfl) (ha:a.put (some N) v=a':=by simp only [Act.put,List.setIfInBounds_toArray,List.set_cons_zero,List.set_cons_succ,i64_w,i32_w];rfl):wpAnyLast P md ops Q S ds (fuel+1) l a w:=take_ l' hi hN hc hQ (Or.inl ⟨hw,hy⟩) hS ha h
theorem pN (N:Nat) {fuel:Nat} {l:Array Bool} {a a':Act} {v:Value} {w:World} (h:wpAnyLast P md ops Q S ds fuel l a' w) (ha:a.put (some N) v=a':=by simp only [Act.put,List.setIfInBounds_toArray,List.set_cons_zero,List.set_cons_succ,i64_w,i32_w];rfl):wpAnyLast P md ops Q S ds fuel l (a.put (some N) v) w:=norm_ ha h
end
theorem za {P:Prop} (h:P:=by repeat (first|(with_reducible first|exact HB.out|apply below_alloc|apply pw_below_drewN|apply below_drew1)|exact HB.out)):P:=h
theorem zb {P:Prop} (h:P:=by first|(with_reducible assumption)|assumption):P:=h
theorem zc {P:Prop} (h:P:=by repeat (first|(with_reducible first|exact HB.out|apply below_alloc|apply pw_below_drewN|apply below_drew1|refine below_set ?_ GE101.out)|exact HB.out)):P:=h
theorem zd {P:Prop} (h:P:=by (try simp only [List.map_toArray,List.map_cons,List.map_nil]);first|done|rfl|(simp only [List.length_drop,List.length_take];rfl)):P:=h
theorem ze {P:Prop} (h:P:=by repeat (first|(with_reducible first|exact HK.out|apply KeepBut.set_|apply keep_drewN|apply keep_drew|apply keep_alloc)|exact HK.out)):P:=h
theorem zf {P:Prop} (h:P:=by repeat (first|(with_reducible first|exact HB.out|apply below_alloc|apply pw_below_drewN|apply below_drew1|refine below_set ?_ (IsS82.ge HI0.out))|exact HB.out)):P:=h
theorem zg {P:Prop} (h:P:=by repeat (first|(with_reducible first|exact HI0.out|apply IsS82.alloc|apply IsS82.drewN|apply IsS82.drew|apply IsS82.set_1|apply IsS82.set_2)|exact HI0.out)):P:=h
theorem zh {P:Prop} (h:P:=by (with_reducible repeat (first|refine blk_drewN ?_ _|refine blk_drew ?_|refine blk_alloc ?_ _));exact BK101.out):P:=h
theorem zi {P:Prop} (h:P:=by first|rfl|(simp;done)|(simp [*];done)):P:=h
theorem zj {P:Prop} (h:P:=by first|rfl|(simp [errW_none,errW_some]<;>rfl)|(simp [*,errW_none,errW_some]<;>rfl)):P:=h
theorem zk {P:Prop} (h:P:=by repeat (first|(with_reducible first|exact HB.out|apply below_alloc|apply pw_below_drewN|apply below_drew1|refine below_set ?_ GE102.out)|exact HB.out)):P:=h
theorem zl {P:Prop} (h:P:=by (with_reducible repeat (first|apply Kd.R_alloc|apply Kd.R_drewN|apply Kd.R_drew));exact HO_6.out):P:=h
theorem zm {P:Prop} (h:P:=by repeat (first|exact (Kd.C_below HR0.out HB.out)|(with_reducible refine Kd.C_alloc ?_ _)|(with_reducible refine Kd.C_drewN ?_ _)|(with_reducible refine Kd.C_drew ?_))):P:=h
theorem zn {P:Prop} (h:P:=by repeat (first|exact Drawn0.refl _|apply Drawn0.step)):P:=h
theorem zo {P:Prop} (h:P:=by repeat (first|exact HR0.out|(with_reducible refine Kd.C_alloc ?_ _)|(with_reducible refine Kd.C_drewN ?_ _)|(with_reducible refine Kd.C_drew ?_))):P:=h
theorem zp {P:Prop} (h:P:=by repeat (first|(with_reducible first|exact HB.out|apply below_alloc|apply pw_below_drewN|apply below_drew1|refine below_set ?_ GE107.out)|exact HB.out)):P:=h
theorem zq {P:Prop} (h:P:=by (with_reducible repeat (first|apply Kd.R_alloc|apply Kd.R_drewN|apply Kd.R_drew));exact HO_5.out):P:=h
theorem zr {P:Prop} (h:P:=by exact (fun k_ hk=>Kd.freshB (g:=gb101) (o:=.cells #[.string a1_0,.int .i64 a1_1] 57 (0,0)) (by (with_reducible repeat (first|refine blk_drewN ?_ _|refine blk_drew ?_|refine blk_alloc ?_ _));exact BK101.out) k_ hk)):P:=h
theorem zt {P:Prop} (h:P:=by (with_reducible repeat (first|apply Kd.S_alloc|apply Kd.S_drewN|apply Kd.S_drew));exact HO_5.out):P:=h
theorem zu {P:Prop} (h:P:=by first|(with_reducible assumption)|assumption|decide|exact decide_eq_true (by simp)|exact decide_eq_true (by omega)):P:=h
theorem zv {P:Prop} (h:P:=by first|(go_simp;done)|(go_simp;rfl)):P:=h
theorem zw {P:Prop} (h:P:=by exact (below_size (by repeat (first|(with_reducible first|exact HB.out|apply below_alloc|apply pw_below_drewN|apply below_drew1|refine below_set ?_ GE101.out)|exact HB.out)))):P:=h
theorem zx {P:Prop} (h:P:=by (with_reducible repeat (first|apply Kd.R_alloc|apply Kd.R_drewN|apply Kd.R_drew));exact (Kd.R_mono (Kd.R_far (p:=⟨gb107,2,none⟩) (Kd.R_far (p:=⟨gb107,1,none⟩) (Kd.R_far (p:=⟨gb107,0,none⟩) (Kd.R_types HO_7.out BK107.out (by decide)) (fun _ hk=>hk.2) (.int .i64 ((rd_T61 l1 x24_2).f0))) (fun _ hk=>hk.2) (.string ((rd_T61 l1 x24_2).f1.f0))) (fun _ hk=>hk.2) (.int .i64 ((rd_T61 l1 x24_2).f1.f1))) (fun _ h_=>h_.1))):P:=h
theorem zy {P:Prop} (h:P:=by (with_reducible repeat (first|refine blk_drewN ?_ _|refine blk_drew ?_|refine blk_alloc ?_ _));refine blk_put (cs:=#[.int .i64 ((rd_T61 l1 x24_2).f0),.string ((rd_T61 l1 x24_2).f1.f0),.int .i64 0]) ?_ 2 _ rfl;(with_reducible repeat (first|refine blk_drewN ?_ _|refine blk_drew ?_|refine blk_alloc ?_ _));refine blk_put (cs:=#[.int .i64 ((rd_T61 l1 x24_2).f0),.string (⟨#[]⟩:ByteArray),.int .i64 0]) ?_ 1 _ rfl;(with_reducible repeat (first|refine blk_drewN ?_ _|refine blk_drew ?_|refine blk_alloc ?_ _));refine blk_put (cs:=#[.int .i64 0,.string (⟨#[]⟩:ByteArray),.int .i64 0]) ?_ 0 _ rfl;(with_reducible repeat (first|refine blk_drewN ?_ _|refine blk_drew ?_|refine blk_alloc ?_ _));exact BK107.out):P:=h
theorem zz {P:Prop} (h:P:=by repeat (first|(with_reducible first|exact HB.out|apply below_alloc|apply pw_below_drewN|apply below_drew1|refine below_set ?_ GE111.out)|exact HB.out)):P:=h
theorem zaa {P:Prop} (h:P:=by (with_reducible repeat (first|apply Kd.Q_alloc|apply Kd.Q_drewN|apply Kd.Q_drew));exact HO_18.out):P:=h
theorem zab {P:Prop} (h:P:=by repeat (first|exact (Kd.C_below HR1.out HB.out)|(with_reducible refine Kd.C_alloc ?_ _)|(with_reducible refine Kd.C_drewN ?_ _)|(with_reducible refine Kd.C_drew ?_))):P:=h
theorem zac {P:Prop} (h:P:=by repeat (first|exact (Kd.S_reads' HO124.out).2.2|(with_reducible refine Kd.C_alloc ?_ _)|(with_reducible refine Kd.C_drewN ?_ _)|(with_reducible refine Kd.C_drew ?_))):P:=h
theorem zad {P:Prop} (h:P:=by (with_reducible repeat (first|apply Kd.R_alloc|apply Kd.R_drewN|apply Kd.R_drew));exact HO_7.out):P:=h
theorem zae {P:Prop} (h:P:=by (with_reducible repeat (first|apply Kd.R_alloc|apply Kd.R_drewN|apply Kd.R_drew));exact HO103.out):P:=h
theorem zaf {P:Prop} (h:P:=by repeat (first|(with_reducible exact HR144_3.out)|(with_reducible refine Kd.C_alloc ?_ _)|(with_reducible refine Kd.C_drewN ?_ _)|(with_reducible refine Kd.C_drew ?_)|exact HR144_3.out)):P:=h
theorem zag {P:Prop} (h:P:=by (with_reducible repeat (first|refine blk_drewN ?_ _|refine blk_drew ?_|refine blk_alloc ?_ _));refine blk_put (cs:=#[.string ((rd_T57 l0 x10_1).f0),.int .i64 0]) ?_ 1 _ rfl;(with_reducible repeat (first|refine blk_drewN ?_ _|refine blk_drew ?_|refine blk_alloc ?_ _));refine blk_put (cs:=#[.string (⟨#[]⟩:ByteArray),.int .i64 0]) ?_ 0 _ rfl;(with_reducible repeat (first|refine blk_drewN ?_ _|refine blk_drew ?_|refine blk_alloc ?_ _));exact BK102.out):P:=h
theorem zah {P:Prop} (h:P:=by (with_reducible repeat (first|refine blk_drewN ?_ _|refine blk_drew ?_|refine blk_alloc ?_ _));exact BK107.out):P:=h
theorem zai {P:Prop} (h:P:=by (with_reducible repeat (first|apply Kd.S_alloc|apply Kd.S_drewN|apply Kd.S_drew));exact HO124.out):P:=h
theorem zaj {P:Prop} (h:P:=by (with_reducible repeat (first|apply Kd.S_alloc|apply Kd.S_drewN|apply Kd.S_drew));exact HO_13.out):P:=h
theorem zak {P:Prop} (h:P:=by (with_reducible repeat (first|apply Kd.R_alloc|apply Kd.R_drewN|apply Kd.R_drew));exact HO107.out):P:=h
theorem zal {P:Prop} (h:P:=by repeat (first|(with_reducible first|exact HB.out|apply below_alloc|apply pw_below_drewN|apply below_drew1|refine below_set ?_ (IsS82.ge HI104.out))|exact HB.out)):P:=h
theorem zam {P:Prop} (h:P:=by refine (Kd.R_reads' (e:=57) (base:=w.heap.size) (ok:=fun k_=>True) (n:=x7_2.length) (c:=co20) ?_).2.2;exact (by (with_reducible repeat (first|apply Kd.R_alloc|apply Kd.R_drewN|apply Kd.R_drew));exact (Kd.R_mono (Kd.R_far (p:=⟨gb107,2,none⟩) (Kd.R_far (p:=⟨gb107,1,none⟩) (Kd.R_far (p:=⟨gb107,0,none⟩) (Kd.R_types HO_7.out BK107.out (by decide)) (fun _ hk=>hk.2) (.int .i64 ((rd_T61 l1 x24_2).f0))) (fun _ hk=>hk.2) (.string ((rd_T61 l1 x24_2).f1.f0))) (fun _ hk=>hk.2) (.int .i64 ((rd_T61 l1 x24_2).f1.f1))) (fun _ h_=>h_.1)))):P:=h
theorem zan {P:Prop} (h:P:=by exact Door1.at HD.out (by repeat (first|(with_reducible first|exact HB.out|apply below_alloc|apply pw_below_drewN|apply below_drew1)|exact HB.out))):P:=h
theorem zao {P:Prop} (h:P:=by repeat (first|exact (Kd.R_reads' HO107.out).2.2|(with_reducible refine Kd.C_alloc ?_ _)|(with_reducible refine Kd.C_drewN ?_ _)|(with_reducible refine Kd.C_drew ?_))):P:=h
theorem zap {P:Prop} (h:P:=by (with_reducible repeat (first|refine blk_drewN ?_ _|refine blk_drew ?_|refine blk_alloc ?_ _));refine blk_put (cs:=#[.string ((rd_T57 l1 x46_3).f0),.int .i64 0]) ?_ 1 _ rfl;(with_reducible repeat (first|refine blk_drewN ?_ _|refine blk_drew ?_|refine blk_alloc ?_ _));refine blk_put (cs:=#[.string (⟨#[]⟩:ByteArray),.int .i64 0]) ?_ 0 _ rfl;(with_reducible repeat (first|refine blk_drewN ?_ _|refine blk_drew ?_|refine blk_alloc ?_ _));exact BK111.out):P:=h
theorem zaq {P:Prop} (h:P:=by kernel_rfl):P:=h
theorem zar {P:Prop} (h:P:=by (with_reducible repeat (first|apply Kd.S_alloc|apply Kd.S_drewN|apply Kd.S_drew));exact HO_3.out):P:=h
theorem zas {P:Prop} (h:P:=by repeat (first|(with_reducible first|exact HB.out|apply below_alloc|apply pw_below_drewN|apply below_drew1|refine below_set ?_ GE104.out)|exact HB.out)):P:=h
theorem zat {P:Prop} (h:P:=by repeat (first|(with_reducible first|exact HK.out|apply KeepBut.set_|apply keep_drewN|apply keep_drew|apply keep_alloc|refine keep_far ?_ GW121.out _)|exact HK.out)):P:=h
theorem zau {P:Prop} (h:P:=by repeat (first|(with_reducible first|exact HK.out|apply KeepBut.set_|apply keep_drewN|apply keep_drew|apply keep_alloc|refine keep_far ?_ GW131.out _)|exact HK.out)):P:=h
theorem zav {P:Prop} (h:P:=by (with_reducible repeat (first|apply Kd.S_alloc|apply Kd.S_drewN|apply Kd.S_drew));exact HO104.out):P:=h
theorem zaw {P:Prop} (h:P:=by (with_reducible repeat (first|apply Kd.S_alloc|apply Kd.S_drewN|apply Kd.S_drew));exact HO128.out):P:=h
theorem zax {P:Prop} (h:P:=by (with_reducible repeat (first|apply Kd.Q_alloc|apply Kd.Q_drewN|apply Kd.Q_drew));exact HO132.out):P:=h
theorem zay {P:Prop} (h:P:=by repeat (first|(with_reducible exact HR152_3.out)|(with_reducible refine Kd.C_alloc ?_ _)|(with_reducible refine Kd.C_drewN ?_ _)|(with_reducible refine Kd.C_drew ?_)|exact HR152_3.out)):P:=h
theorem zaz {P:Prop} (h:P:=by repeat (first|(with_reducible exact HR161_3.out)|(with_reducible refine Kd.C_alloc ?_ _)|(with_reducible refine Kd.C_drewN ?_ _)|(with_reducible refine Kd.C_drew ?_)|exact HR161_3.out)):P:=h
theorem zba {P:Prop} (h:P:=by first|exact Kd.R_nil _ _ _ _ _|exact Kd.N_nil _ _ _ _ _|exact Kd.V_nil _ _ _ _ _|exact Kd.Q_nil _ _ _ _ _|exact Kd.S_nil _ _ _ _ _):P:=h
theorem zbb {P:Prop} (h:P:=by repeat (first|exact HR1.out|(with_reducible refine Kd.C_alloc ?_ _)|(with_reducible refine Kd.C_drewN ?_ _)|(with_reducible refine Kd.C_drew ?_))):P:=h
theorem zbc {P:Prop} (h:P:=by repeat (first|exact (Kd.R_reads' HO103.out).2.2|(with_reducible refine Kd.C_alloc ?_ _)|(with_reducible refine Kd.C_drewN ?_ _)|(with_reducible refine Kd.C_drew ?_))):P:=h
theorem zbd {P:Prop} (h:P:=by repeat (first|exact (Kd.R_reads' HO110.out).2.2|(with_reducible refine Kd.C_alloc ?_ _)|(with_reducible refine Kd.C_drewN ?_ _)|(with_reducible refine Kd.C_drew ?_))):P:=h
theorem zbe {P:Prop} (h:P:=by repeat (first|exact (Kd.Q_reads' HO_18.out).2.2|(with_reducible refine Kd.C_alloc ?_ _)|(with_reducible refine Kd.C_drewN ?_ _)|(with_reducible refine Kd.C_drew ?_))):P:=h
theorem zbf {P:Prop} (h:P:=by (with_reducible repeat (first|apply Kd.R_alloc|apply Kd.R_drewN|apply Kd.R_drew));exact (Kd.R_mono (Kd.R_far (p:=⟨gb111,1,none⟩) (Kd.R_far (p:=⟨gb111,0,none⟩) (Kd.R_types HO_6.out BK111.out (by decide)) (fun _ hk=>hk.2) (.string ((rd_T57 l1 x46_3).f0))) (fun _ hk=>hk.2) (.int .i64 ((rd_T57 l1 x46_3).f1))) (fun _ h_=>h_.1))):P:=h
theorem zbg {P:Prop} (h:P:=by repeat (first|exact (by repeat (first|(with_reducible exact HR145_3.out)|(with_reducible refine Kd.C_alloc ?_ _)|(with_reducible refine Kd.C_drewN ?_ _)|(with_reducible refine Kd.C_drew ?_)|exact HR145_3.out))|(with_reducible refine Kd.C_alloc ?_ _)|(with_reducible refine Kd.C_drewN ?_ _)|(with_reducible refine Kd.C_drew ?_))):P:=h
theorem zbh {P:Prop} (h:P:=by repeat (first|exact (by repeat (first|(with_reducible exact HR144_3.out)|(with_reducible refine Kd.C_alloc ?_ _)|(with_reducible refine Kd.C_drewN ?_ _)|(with_reducible refine Kd.C_drew ?_)|exact HR144_3.out))|(with_reducible refine Kd.C_alloc ?_ _)|(with_reducible refine Kd.C_drewN ?_ _)|(with_reducible refine Kd.C_drew ?_))):P:=h
theorem zbi {P:Prop} (h:P:=by repeat (first|exact (by repeat (first|(with_reducible exact HR152_3.out)|(with_reducible refine Kd.C_alloc ?_ _)|(with_reducible refine Kd.C_drewN ?_ _)|(with_reducible refine Kd.C_drew ?_)|exact HR152_3.out))|(with_reducible refine Kd.C_alloc ?_ _)|(with_reducible refine Kd.C_drewN ?_ _)|(with_reducible refine Kd.C_drew ?_))):P:=h
theorem zbj {P:Prop} (h:P:=by repeat (first|exact (by repeat (first|(with_reducible exact HR154_3.out)|(with_reducible refine Kd.C_alloc ?_ _)|(with_reducible refine Kd.C_drewN ?_ _)|(with_reducible refine Kd.C_drew ?_)|exact HR154_3.out))|(with_reducible refine Kd.C_alloc ?_ _)|(with_reducible refine Kd.C_drewN ?_ _)|(with_reducible refine Kd.C_drew ?_))):P:=h
theorem zbk {P:Prop} (h:P:=by repeat (first|exact (by repeat (first|(with_reducible exact HR161_3.out)|(with_reducible refine Kd.C_alloc ?_ _)|(with_reducible refine Kd.C_drewN ?_ _)|(with_reducible refine Kd.C_drew ?_)|exact HR161_3.out))|(with_reducible refine Kd.C_alloc ?_ _)|(with_reducible refine Kd.C_drewN ?_ _)|(with_reducible refine Kd.C_drew ?_))):P:=h
theorem zbl {P:Prop} (h:P:=by repeat (first|(with_reducible first|exact HB.out|apply below_alloc|apply pw_below_drewN|apply below_drew1|refine below_set ?_ (IsS82.ge HI0.out)|refine below_set ?_ GE121.out)|exact HB.out)):P:=h
theorem zbm {P:Prop} (h:P:=by repeat (first|(with_reducible first|exact HB.out|apply below_alloc|apply pw_below_drewN|apply below_drew1|refine below_set ?_ (IsS82.ge HI0.out)|refine below_set ?_ GE131.out)|exact HB.out)):P:=h
theorem zbn {P:Prop} (h:P:=by omega):P:=h
theorem zbo {P:Prop} (h:P:=by (with_reducible repeat (first|apply Kd.R_alloc|apply Kd.R_drewN|apply Kd.R_drew));exact HO110.out):P:=h
theorem zbp {P:Prop} (h:P:=by decide):P:=h
theorem zbq {P:Prop} (h:P:=by (with_reducible repeat (first|apply Kd.R_alloc|apply Kd.R_drewN|apply Kd.R_drew));exact HO112.out):P:=h
theorem zbr {P:Prop} (h:P:=by rintro w' ⟨s0,s1,s2,s3⟩;go_simp;with_reducible rfl):P:=h
theorem zbs {P:Prop} (h:P:=by repeat (first|(with_reducible first|exact HI0.out|apply IsS82.alloc|apply IsS82.drewN|apply IsS82.drew|apply IsS82.set_1|apply IsS82.set_2|refine IsS82.far ?_ NB0_121.out _)|exact HI0.out)):P:=h
theorem zbt {P:Prop} (h:P:=by repeat (first|(with_reducible first|exact HI0.out|apply IsS82.alloc|apply IsS82.drewN|apply IsS82.drew|apply IsS82.set_1|apply IsS82.set_2|refine IsS82.far ?_ NB0_131.out _)|exact HI0.out)):P:=h
theorem zbu {P:Prop} (h:P:=by exact (Reps.c2 (show Kd.M k57 _ _ _ (⟨((rd_T61 l1 x24_2).f1.f0),((rd_T61 l1 x24_2).f1.f1)⟩:S57) [.string ((rd_T61 l1 x24_2).f1.f0),.int .i64 ((rd_T61 l1 x24_2).f1.f1)] from (k57_mkM _ _ _ (⟨((rd_T61 l1 x24_2).f1.f0),((rd_T61 l1 x24_2).f1.f1)⟩:S57))) (Reps.none _ _))):P:=h
theorem zbv {P:Prop} (h:P:=by (try simp only [Int.add_zero]);repeat (first|(with_reducible first|exact HI0.out|apply IsS82.alloc|apply IsS82.drewN|apply IsS82.drew|apply IsS82.set_1|apply IsS82.set_2)|exact HI0.out)):P:=h
theorem zbw {P:Prop} (h:P:=by exact (keep_size (w:=w) (g:=g) (row:=none) (by repeat (first|(with_reducible first|exact HK.out|apply KeepBut.set_|apply keep_drewN|apply keep_drew|apply keep_alloc)|exact HK.out)))):P:=h
theorem zbx {P:Prop} (h:P:=by exact Kd.C_below HR101_3.out (by repeat (first|(with_reducible first|exact HB.out|apply below_alloc|apply pw_below_drewN|apply below_drew1|refine below_set ?_ GE102.out)|exact HB.out))):P:=h
theorem zby {P:Prop} (h:P:=by repeat (first|(with_reducible first|exact HB.out|apply below_alloc|apply pw_below_drewN|apply below_drew1|refine below_set ?_ GE101.out|refine below_set ?_ GE109.out)|exact HB.out)):P:=h
theorem zbz {P:Prop} (h:P:=by (with_reducible repeat (first|apply Kd.R_alloc|apply Kd.R_drewN|apply Kd.R_drew));exact HO_4.out):P:=h
theorem zca {P:Prop} (h:P:=by simp):P:=h
theorem zcb {P:Prop} (h:P:=by (with_reducible repeat (first|apply Kd.R_alloc|apply Kd.R_drewN|apply Kd.R_drew));exact HO136.out):P:=h
theorem zcc {P:Prop} (h:P:=by (with_reducible repeat (first|apply Kd.S_alloc|apply Kd.S_drewN|apply Kd.S_drew));exact HO_16.out):P:=h
theorem zcd {P:Prop} (h:P:=by (with_reducible repeat (first|apply Kd.R_alloc|apply Kd.R_drewN|apply Kd.R_drew));exact HO_3.out):P:=h
theorem zce {P:Prop} (h:P:=by exact Kd.C_below HR0.out (by repeat (first|(with_reducible first|exact HB.out|apply below_alloc|apply pw_below_drewN|apply below_drew1|refine below_set ?_ GE111.out)|exact HB.out))):P:=h
theorem zcf {P:Prop} (h:P:=by repeat (first|(with_reducible exact HR145_3.out)|(with_reducible refine Kd.C_alloc ?_ _)|(with_reducible refine Kd.C_drewN ?_ _)|(with_reducible refine Kd.C_drew ?_)|exact HR145_3.out)):P:=h
theorem zcg {P:Prop} (h:P:=by repeat (first|(with_reducible exact HR154_3.out)|(with_reducible refine Kd.C_alloc ?_ _)|(with_reducible refine Kd.C_drewN ?_ _)|(with_reducible refine Kd.C_drew ?_)|exact HR154_3.out)):P:=h
theorem zch {P:Prop} (h:P:=by (with_reducible repeat (first|apply Kd.R_alloc|apply Kd.R_drewN|apply Kd.R_drew));exact HL115_3.out):P:=h
theorem zci {P:Prop} (h:P:=by have:=HK1.out;omega):P:=h
theorem zcj {P:Prop} (h:P:=by first|omega|exact Nat.le_refl _):P:=h
theorem zck {P:Prop} (h:P:=by repeat (first|(with_reducible first|exact HI104.out|apply IsS82.alloc|apply IsS82.drewN|apply IsS82.drew|apply IsS82.set_1|apply IsS82.set_2)|exact HI104.out)):P:=h
theorem zcl {P:Prop} (h:P:=by repeat (first|exact (Kd.R_reads' HO114.out).2.2|(with_reducible refine Kd.C_alloc ?_ _)|(with_reducible refine Kd.C_drewN ?_ _)|(with_reducible refine Kd.C_drew ?_))):P:=h
theorem zcm {P:Prop} (h:P:=by repeat (first|exact (Kd.R_reads' HO118.out).2.2|(with_reducible refine Kd.C_alloc ?_ _)|(with_reducible refine Kd.C_drewN ?_ _)|(with_reducible refine Kd.C_drew ?_))):P:=h
theorem zcn {P:Prop} (h:P:=by repeat (first|exact (Kd.R_reads' HO136.out).2.2|(with_reducible refine Kd.C_alloc ?_ _)|(with_reducible refine Kd.C_drewN ?_ _)|(with_reducible refine Kd.C_drew ?_))):P:=h
theorem zco {P:Prop} (h:P:=by repeat (first|exact (Kd.S_reads' HO128.out).2.2|(with_reducible refine Kd.C_alloc ?_ _)|(with_reducible refine Kd.C_drewN ?_ _)|(with_reducible refine Kd.C_drew ?_))):P:=h
theorem zcp {P:Prop} (h:P:=by repeat (first|exact (Kd.R_reads' HO143.out).2.2|(with_reducible refine Kd.C_alloc ?_ _)|(with_reducible refine Kd.C_drewN ?_ _)|(with_reducible refine Kd.C_drew ?_))):P:=h
theorem zcq {P:Prop} (h:P:=by repeat (first|exact (Kd.S_reads' HO_5.out).2.2|(with_reducible refine Kd.C_alloc ?_ _)|(with_reducible refine Kd.C_drewN ?_ _)|(with_reducible refine Kd.C_drew ?_))):P:=h
theorem zcr {P:Prop} (h:P:=by repeat (first|exact (Kd.R_reads' HO_6.out).2.2|(with_reducible refine Kd.C_alloc ?_ _)|(with_reducible refine Kd.C_drewN ?_ _)|(with_reducible refine Kd.C_drew ?_))):P:=h
theorem zcs {P:Prop} (h:P:=by (with_reducible repeat (first|refine blk_drewN ?_ _|refine blk_drew ?_|refine blk_alloc ?_ _));exact BK102.out):P:=h
theorem zct {P:Prop} (h:P:=by exact k57_mkM _ _ _ (⟨(rd_T57 l0 x7_1).f0,(rd_T57 l0 x7_1).f1⟩:S57)):P:=h
theorem zcu {P:Prop} (h:P:=by (with_reducible repeat (first|apply Kd.R_alloc|apply Kd.R_drewN|apply Kd.R_drew));exact HO106.out):P:=h
theorem zcv {P:Prop} (h:P:=by (with_reducible repeat (first|apply Kd.R_alloc|apply Kd.R_drewN|apply Kd.R_drew));exact HO116.out):P:=h
theorem zcw {P:Prop} (h:P:=by (with_reducible repeat (first|apply Kd.R_alloc|apply Kd.R_drewN|apply Kd.R_drew));exact HO111.out):P:=h
theorem zcx {P:Prop} (h:P:=by exact (Kd.S_reads' HO124.out).2.1):P:=h
theorem zcy {P:Prop} (h:P:=by exact k57_mkM _ _ _ (⟨a1_0,a1_1⟩:S57)):P:=h
end Go.Proofs.YtocegmkifmdlcaaDoor.P

namespace Go.Proofs.YtocegmkifmdlcaaDoor.P
open Go.RowKit Go.Proofs.YtocegmkifmdlcaaDoorW.PrintWords Go.Proofs.YtocegmkifmdlcaaDoorW.PrintLast Go.Proofs.YtocegmkifmdlcaaDoorW.PrintMore
attribute [local go_sem] max2_int min2_int max_two min_two max_three min_three max_four min_four str_leq str_gtr str_geq
set_option linter.unusedVariables false
set_option linter.unusedSimpArgs false
def laws_r8Long.f (l0:List Int) (l1:List Int):Option (Bool):=if (l0.length:Int) > 1048576 then (some true) else (some (decide ((l1.length:Int) > 1048576)))
set_option maxHeartbeats 8000000 in
set_option maxRecDepth 100000 in
theorem laws_r8Long.calls (A0:Option Addr) (c0:Nat) (l0:List Int) (A1:Option Addr) (c1:Nat) (l1:List Int) (r:Bool) (w:World) (hr0:Kd.C (Kd.int .u8) w A0 l0.length l0) (hc0:l0.length≤c0) (hr1:Kd.C (Kd.int .u8) w A1 l1.length l1) (hc1:l1.length≤c1) (h:laws_r8Long.f l0 l1=some r) :
 Calls Tryd.prog 4 #[.slice A0 l0.length c0,.slice A1 l1.length c1] w fun e w'=>e = .returned (.bool r)∧Drawn0 w w':=by
 have HR0:=Aside0.mk hr0
 have HC0:=Aside0.mk hc0
 clear hr0 hc0
 have HR1:=Aside0.mk hr1
 have HC1:=Aside0.mk hc1
 clear hr1 hc1
 have H:(if (l0.length:Int) > 1048576 then (some true) else (some (decide ((l1.length:Int) > 1048576))))=some r:=h
 clear h
 by_cases c3:(l0.length:Int) > 1048576
 ·rw [if_pos c3] at H
  have c3b0:decide (1048576<(l0.length:Int))=true:=decide_eq_true c3
  have c3b1:decide (1048576<l0.length)=true:=decide_eq_true zbn
  clear c3
  obtain rfl:=Option.some.inj H
  go_enter Tryd.func4,Tryd.ntmps4
  go_wp2
  go_ret
  exact ⟨zi,zn⟩
 ·rw [if_neg c3] at H
  have c3b0:decide (1048576<(l0.length:Int))=false:=decide_eq_false c3
  have c3b1:decide (1048576<l0.length)=false:=decide_eq_false zbn
  clear c3
  obtain rfl:=Option.some.inj H
  go_enter Tryd.func4,Tryd.ntmps4
  go_wp2
  go_ret
  exact ⟨zi,zn⟩

/-- A state of type 82 at block g of W; what its slices lead to came in by w0. -/
def IsS82 (w0 W:World) (g:Nat) (f0:List Int) (f1:Int) (f2:Int):Prop:=∃A0 c0,W.heap[g]?=some (.cells #[.slice A0 f0.length c0,.int .i64 f1,.int .u64 f2] 82 (0,0))∧w0.heap.size≤g∧Kd.C (Kd.int .u8) w0 A0 f0.length f0
theorem IsS82.grown {w0 W:World} {g:Nat} {f0:List Int} {f1:Int} {f2:Int} {W1:World} {row:Option Nat} (h:IsS82 w0 W g f0 f1 f2) (hw:W.grownBy W1 row) (hne:some g≠row):IsS82 w0 W1 g f0 f1 f2:=by
 obtain ⟨A0,c0,hb,hg,hr0⟩:=h
 exact ⟨A0,c0,blk_grown hb hw hne,hg,hr0⟩
theorem IsS82.kept {w0 W:World} {g:Nat} {f0:List Int} {f1:Int} {f2:Int} {W1:World} {S:Nat→Prop} (h:IsS82 w0 W g f0 f1 f2) (hk:Kept W W1 S) (hne:¬ S g):IsS82 w0 W1 g f0 f1 f2:=by
 obtain ⟨A0,c0,hb,hg,hr0⟩:=h
 exact ⟨A0,c0,blk_kept hb hk hne,hg,hr0⟩
theorem IsS82.below {w0 W:World} {g:Nat} {f0:List Int} {f1:Int} {f2:Int} {W1:World} (h:IsS82 w0 W g f0 f1 f2) (hw:Below W.heap.size W W1):IsS82 w0 W1 g f0 f1 f2:=h.grown (grown_of_below hw none) (by simp)
theorem IsS82.alloc {w0 W:World} {g:Nat} {f0:List Int} {f1:Int} {f2:Int} (h:IsS82 w0 W g f0 f1 f2) (o:Obj):IsS82 w0 (W.alloc o) g f0 f1 f2:=h.below (below_alloc (Below.refl _ _) o)
theorem IsS82.drewN {w0 W:World} {g:Nat} {f0:List Int} {f1:Int} {f2:Int} (h:IsS82 w0 W g f0 f1 f2) (m:Nat):IsS82 w0 (W.drewN m) g f0 f1 f2:=h
theorem IsS82.drew {w0 W:World} {g:Nat} {f0:List Int} {f1:Int} {f2:Int} (h:IsS82 w0 W g f0 f1 f2):IsS82 w0 W.drew g f0 f1 f2:=h
theorem IsS82.apart {w0 W:World} {g:Nat} {f0:List Int} {f1:Int} {f2:Int} {α:Type} {d:Kd α} {e:Nat} {base:Nat} {ok:Nat→Prop} {v:Value} {xs:List α} (h:IsS82 w0 W g f0 f1 f2) (ho:d.R e W base ok v xs) (ht:∀q,q∈e :: d.E→q≠82):d.R e W base (fun k=>ok k∧k≠g) v xs:=by
 obtain ⟨A0,c0,hb,hg,hr0⟩:=h
 exact Kd.R_types ho hb ht
theorem IsS82.own_ne {w0 W:World} {g:Nat} {f0:List Int} {f1:Int} {f2:Int} {α:Type} {d:Kd α} {e:Nat} {base:Nat} {ok:Nat→Prop} {v:Value} {xs:List α} (h:IsS82 w0 W g f0 f1 f2) (ho:d.R e W base ok v xs) (ht:e≠82):some g≠v.ownBlock:=by
 obtain ⟨A0,c0,hb,hg,hr0⟩:=h
 exact Kd.R_ne ho hb ht
theorem IsS82.apartS {w0 W:World} {g:Nat} {f0:List Int} {f1:Int} {f2:Int} {α:Type} {d:Kd α} {e:Nat} {base:Nat} {ok:Nat→Prop} {v:Value} {xs:List α} (h:IsS82 w0 W g f0 f1 f2) (ho:d.S e W base ok v xs) (ht:∀q,q∈e :: d.E→q≠82):d.S e W base (fun k=>ok k∧k≠g) v xs:=by
 obtain ⟨A0,c0,hb,hg,hr0⟩:=h
 exact Kd.S_types ho hb ht
theorem IsS82.own_neS {w0 W:World} {g:Nat} {f0:List Int} {f1:Int} {f2:Int} {α:Type} {d:Kd α} {e:Nat} {base:Nat} {ok:Nat→Prop} {v:Value} {xs:List α} (h:IsS82 w0 W g f0 f1 f2) (ho:d.S e W base ok v xs) (ht:e≠82):some g≠v.ownBlock:=by
 obtain ⟨A0,c0,hb,hg,hr0⟩:=h
 exact Kd.S_ne ho hb ht
theorem IsS82.lt {w0 W:World} {g:Nat} {f0:List Int} {f1:Int} {f2:Int} (h:IsS82 w0 W g f0 f1 f2):g<W.heap.size:=by
 obtain ⟨A0,c0,hb,hg,hr0⟩:=h
 exact blk_lt hb
theorem IsS82.ge {w0 W:World} {g:Nat} {f0:List Int} {f1:Int} {f2:Int} (h:IsS82 w0 W g f0 f1 f2):w0.heap.size≤g:=by
 obtain ⟨A0,c0,hb,hg,hr0⟩:=h
 exact hg
theorem IsS82.far {w0 W:World} {g:Nat} {f0:List Int} {f1:Int} {f2:Int} {p:Addr} (h:IsS82 w0 W g f0 f1 f2) (hne:g≠p.block) (u:Value):IsS82 w0 (W.setCell p u) g f0 f1 f2:=by
 obtain ⟨A0,c0,hb,hg,hr0⟩:=h
 exact ⟨A0,c0,blk_far hb hne u,hg,hr0⟩
theorem cellS82_0 {W:World} {g:Nat} {A0:Option Addr} {c0:Nat} {f0:List Int} {f1:Int} {f2:Int} (h:W.heap[g]?=some (.cells #[.slice A0 f0.length c0,.int .i64 f1,.int .u64 f2] 82 (0,0))):W.cell? ⟨g,0,none⟩=some (.slice A0 f0.length c0):=(blk_cell h 0).trans rfl
theorem cellS82_1 {W:World} {g:Nat} {A0:Option Addr} {c0:Nat} {f0:List Int} {f1:Int} {f2:Int} (h:W.heap[g]?=some (.cells #[.slice A0 f0.length c0,.int .i64 f1,.int .u64 f2] 82 (0,0))):W.cell? ⟨g,1,none⟩=some (.int .i64 f1):=(blk_cell h 1).trans rfl
theorem IsS82.set_1 {w0 W:World} {g:Nat} {f0:List Int} {f1:Int} {f2:Int} (h:IsS82 w0 W g f0 f1 f2) (x:Int):IsS82 w0 (W.setCell ⟨g,1,none⟩ (.int .i64 x)) g f0 x f2:=by
 obtain ⟨A0,c0,hb,hg,hr0⟩:=h
 exact ⟨A0,c0,by simpa using blk_set hb 1 (.int .i64 x),hg,hr0⟩
theorem cellS82_2 {W:World} {g:Nat} {A0:Option Addr} {c0:Nat} {f0:List Int} {f1:Int} {f2:Int} (h:W.heap[g]?=some (.cells #[.slice A0 f0.length c0,.int .i64 f1,.int .u64 f2] 82 (0,0))):W.cell? ⟨g,2,none⟩=some (.int .u64 f2):=(blk_cell h 2).trans rfl
theorem IsS82.set_2 {w0 W:World} {g:Nat} {f0:List Int} {f1:Int} {f2:Int} (h:IsS82 w0 W g f0 f1 f2) (x:Int):IsS82 w0 (W.setCell ⟨g,2,none⟩ (.int .u64 x)) g f0 f1 x:=by
 obtain ⟨A0,c0,hb,hg,hr0⟩:=h
 exact ⟨A0,c0,by simpa using blk_set hb 2 (.int .u64 x),hg,hr0⟩
def spec_l00From.f (l0:List Int):Option (List Int × Int × Int):=some (l0,0,0)
set_option maxHeartbeats 8000000 in
set_option maxRecDepth 100000 in
theorem spec_l00From.calls (A0:Option Addr) (c0:Nat) (l0:List Int) (r1:List Int) (r2:Int) (r3:Int) (w0 w:World) (hB:Below w0.heap.size w0 w) (hr0:Kd.C (Kd.int .u8) w0 A0 l0.length l0) (hc0:l0.length≤c0) (h:spec_l00From.f l0=some (r1,r2,r3)) :
 Calls Tryd.prog 20 #[.slice A0 l0.length c0] w fun e w'=>∃g_:Nat,e = .returned (.pointer (some ⟨g_,0,none⟩))∧IsS82 w0 w' g_ r1 r2 r3∧Below w0.heap.size w0 w'∧Below w.heap.size w w':=by
 have hu82:=Tryd.underlying82
 have HR0:=Aside0.mk hr0
 have HC0:=Aside0.mk hc0
 clear hr0 hc0
 have HBW:=Aside0.mk (Below.refl w.heap.size w)
 have HW0:=Aside0.mk hB.size
 have HB:=Aside0.mk hB
 clear hB
 have H:(some (l0,0,0))=some (r1,r2,r3):=h
 clear h
 simp only [Option.some.injEq,Prod.mk.injEq] at H
 obtain ⟨rfl,rfl,rfl⟩:=H
 go_enter Tryd.func20,Tryd.ntmps20
 go_wp2_with (first|((with_reducible refine gate_dst (N:=5) rfl ?_);refine box_event ?hg (N:=5) ?hd (cs:=#[.slice A0 l0.length c0,.int .i64 0,.int .u64 0]) (t:=82) ?hr ?_;(case hd=>rfl);(case hg=>rfl);(case hr=>exact zv);intro gb101 hg w2 hbox hb;have n0_:=Aside0.mk (below_step HBW.out hb);have n1_:=Aside0.mk (below_step za hb);have n2_:=Aside0.mk (hbox);have n3_:=Aside0.mk ((by rw [hg];exact (below_size (by repeat (first|(with_reducible first|exact HBW.out|apply below_alloc|apply pw_below_drewN|apply below_drew1)|exact HBW.out))):w.heap.size≤gb101));have n4_:=Aside0.mk ((Nat.le_trans HW0.out (by rw [hg];exact (below_size (by repeat (first|(with_reducible first|exact HBW.out|apply below_alloc|apply pw_below_drewN|apply below_drew1)|exact HBW.out))):w.heap.size≤gb101):w0.heap.size≤gb101));clear HBW;clear HB;have HBW:=n0_;have HB:=n1_;have BK101:=n2_;have GW101:=n3_;have GE101:=n4_;clear n0_ n1_ n2_ n3_ n4_;clear hb hbox hg))
 go_ret
 exact ⟨_,rfl,(show IsS82 w0 _ gb101 l0 0 0 from ⟨_,_,zh,GE101.out,HR0.out⟩),zc,by repeat (first|(with_reducible first|exact HBW.out|apply below_alloc|apply pw_below_drewN|apply below_drew1|refine below_set ?_ GW101.out)|exact HBW.out)⟩

def spec_l00Src_next.f (s0_0:List Int) (s0_1:Int) (s0_2:Int):Option (Int × Int × Int):=if s0_1<(s0_0.length:Int) then (if 0≤s0_1 then (if (wrap64 (s0_1+1))≤(s0_0.length:Int) then (some (wrap64 (rd s0_0 s0_1),wrap64 (s0_1+1),IntKind.u64.wrap ((IntKind.u64.wrap ((IntKind.u64.wrap (s0_2*6364136223846793005))+(IntKind.u64.wrap (wrap64 (rd s0_0 s0_1)))))+1442695040888963407))) else (some (wrap64 (Go.bits .and .u64 ((IntKind.u64.wrap ((IntKind.u64.wrap ((IntKind.u64.wrap (s0_2*6364136223846793005))+(IntKind.u64.wrap (wrap64 (rd s0_0 s0_1)))))+1442695040888963407)) / 1099511627776) 255),wrap64 (s0_1+1),IntKind.u64.wrap ((IntKind.u64.wrap ((IntKind.u64.wrap (s0_2*6364136223846793005))+(IntKind.u64.wrap (wrap64 (rd s0_0 s0_1)))))+1442695040888963407)))) else (none)) else (if (wrap64 (s0_1+1))≤(s0_0.length:Int) then (some (0,wrap64 (s0_1+1),IntKind.u64.wrap ((IntKind.u64.wrap ((IntKind.u64.wrap (s0_2*6364136223846793005))+0))+1442695040888963407))) else (some (wrap64 (Go.bits .and .u64 ((IntKind.u64.wrap ((IntKind.u64.wrap ((IntKind.u64.wrap (s0_2*6364136223846793005))+0))+1442695040888963407)) / 1099511627776) 255),wrap64 (s0_1+1),IntKind.u64.wrap ((IntKind.u64.wrap ((IntKind.u64.wrap (s0_2*6364136223846793005))+0))+1442695040888963407))))
set_option maxHeartbeats 8000000 in
set_option maxRecDepth 100000 in
theorem spec_l00Src_next.calls (g:Nat) (s0_0:List Int) (s0_1:Int) (s0_2:Int) (r1:Int) (r2:Int) (r3:Int) (w0 w:World) (hI:IsS82 w0 w g s0_0 s0_1 s0_2) (hB:Below w0.heap.size w0 w) (h:spec_l00Src_next.f s0_0 s0_1 s0_2=some (r1,r2,r3)) :
 Calls Tryd.prog 66 #[.pointer (some ⟨g,0,none⟩)] w fun e w'=>e = .returned (.int .i64 r1)∧IsS82 w0 w' g s0_0 r2 r3∧Below w0.heap.size w0 w'∧KeepBut w w' g none:=by
 have HI0:=Aside0.mk hI
 have HK:=Aside0.mk (KeepBut.refl w g none)
 have HL:=Aside0.mk hB.size
 clear hI
 have HW0:=Aside0.mk hB.size
 have HB:=Aside0.mk hB
 clear hB
 have H:(if s0_1<(s0_0.length:Int) then (if 0≤s0_1 then (if (wrap64 (s0_1+1))≤(s0_0.length:Int) then (some (wrap64 (rd s0_0 s0_1),wrap64 (s0_1+1),IntKind.u64.wrap ((IntKind.u64.wrap ((IntKind.u64.wrap (s0_2*6364136223846793005))+(IntKind.u64.wrap (wrap64 (rd s0_0 s0_1)))))+1442695040888963407))) else (some (wrap64 (Go.bits .and .u64 ((IntKind.u64.wrap ((IntKind.u64.wrap ((IntKind.u64.wrap (s0_2*6364136223846793005))+(IntKind.u64.wrap (wrap64 (rd s0_0 s0_1)))))+1442695040888963407)) / 1099511627776) 255),wrap64 (s0_1+1),IntKind.u64.wrap ((IntKind.u64.wrap ((IntKind.u64.wrap (s0_2*6364136223846793005))+(IntKind.u64.wrap (wrap64 (rd s0_0 s0_1)))))+1442695040888963407)))) else (none)) else (if (wrap64 (s0_1+1))≤(s0_0.length:Int) then (some (0,wrap64 (s0_1+1),IntKind.u64.wrap ((IntKind.u64.wrap ((IntKind.u64.wrap (s0_2*6364136223846793005))+0))+1442695040888963407))) else (some (wrap64 (Go.bits .and .u64 ((IntKind.u64.wrap ((IntKind.u64.wrap ((IntKind.u64.wrap (s0_2*6364136223846793005))+0))+1442695040888963407)) / 1099511627776) 255),wrap64 (s0_1+1),IntKind.u64.wrap ((IntKind.u64.wrap ((IntKind.u64.wrap (s0_2*6364136223846793005))+0))+1442695040888963407)))))=some (r1,r2,r3):=h
 clear h
 by_cases c2:s0_1<(s0_0.length:Int)
 ·rw [if_pos c2] at H
  have c2b0:decide (s0_1<(s0_0.length:Int))=true:=decide_eq_true c2
  clear c2
  by_cases c3:0≤s0_1
  ·rw [if_pos c3] at H
   have c3b0:decide (0≤s0_1)=true:=decide_eq_true c3
   clear c3
   by_cases c4:(wrap64 (s0_1+1))≤(s0_0.length:Int)
   ·rw [if_pos c4] at H
    have c4b0:decide ((wrap64 (s0_1+1))≤(s0_0.length:Int))=true:=decide_eq_true c4
    clear c4
    simp only [Option.some.injEq,Prod.mk.injEq] at H
    obtain ⟨rfl,rfl,rfl⟩:=H
    obtain ⟨ASz5_0,cSz5_0,HGz5,hgz5,HSz5_0⟩:=HI0.out
    have hcz5_0:=cellS82_0 HGz5
    have hcz5_1:=cellS82_1 HGz5
    have hcz5_2:=cellS82_2 HGz5
    have hfz5_1:=blk_frozen HGz5 1
    have hfz5_2:=blk_frozen HGz5 2
    clear HGz5 hgz5
    have p101:0≤(s0_1:Int):=of_decide_eq_true zb
    have q101:s0_1<(s0_0.length:Int):=of_decide_eq_true zb
    obtain ⟨ad101,e101,hx101_0⟩:=Kd.at_int HSz5_0 s0_1 p101 q101
    cases e101
    replace hx101_0:=pw_cell_below HB.out hx101_0
    replace p101:=eq_true p101
    replace q101:=eq_true q101
    go_enter Tryd.func66,Tryd.ntmps66
    go_wp2
    repeat (go_quiet (fail);try go_wp2)
    go_ret
    exact ⟨zj,zbv,zf,ze⟩
   ·rw [if_neg c4] at H
    have c4b0:decide ((wrap64 (s0_1+1))≤(s0_0.length:Int))=false:=decide_eq_false c4
    clear c4
    simp only [Option.some.injEq,Prod.mk.injEq] at H
    obtain ⟨rfl,rfl,rfl⟩:=H
    obtain ⟨ASz6_0,cSz6_0,HGz6,hgz6,HSz6_0⟩:=HI0.out
    have hcz6_0:=cellS82_0 HGz6
    have hcz6_1:=cellS82_1 HGz6
    have hcz6_2:=cellS82_2 HGz6
    have hfz6_1:=blk_frozen HGz6 1
    have hfz6_2:=blk_frozen HGz6 2
    clear HGz6 hgz6
    have p101:0≤(s0_1:Int):=of_decide_eq_true zb
    have q101:s0_1<(s0_0.length:Int):=of_decide_eq_true zb
    obtain ⟨ad101,e101,hx101_0⟩:=Kd.at_int HSz6_0 s0_1 p101 q101
    cases e101
    replace hx101_0:=pw_cell_below HB.out hx101_0
    replace p101:=eq_true p101
    replace q101:=eq_true q101
    go_enter Tryd.func66,Tryd.ntmps66
    go_wp2
    repeat (go_quiet (fail);try go_wp2)
    go_ret
    exact ⟨zj,zbv,zf,ze⟩
  ·rw [if_neg c3] at H
   exact absurd H zca
 ·rw [if_neg c2] at H
  have c2b0:decide (s0_1<(s0_0.length:Int))=false:=decide_eq_false c2
  clear c2
  by_cases c7:(wrap64 (s0_1+1))≤(s0_0.length:Int)
  ·rw [if_pos c7] at H
   have c7b0:decide ((wrap64 (s0_1+1))≤(s0_0.length:Int))=true:=decide_eq_true c7
   clear c7
   simp only [Option.some.injEq,Prod.mk.injEq] at H
   obtain ⟨rfl,rfl,rfl⟩:=H
   obtain ⟨ASz8_0,cSz8_0,HGz8,hgz8,HSz8_0⟩:=HI0.out
   have hcz8_0:=cellS82_0 HGz8
   have hcz8_1:=cellS82_1 HGz8
   have hcz8_2:=cellS82_2 HGz8
   have hfz8_1:=blk_frozen HGz8 1
   have hfz8_2:=blk_frozen HGz8 2
   clear HGz8 hgz8
   go_enter Tryd.func66,Tryd.ntmps66
   go_wp2
   repeat (go_quiet (fail);try go_wp2)
   go_ret
   exact ⟨zj,zbv,zf,ze⟩
  ·rw [if_neg c7] at H
   have c7b0:decide ((wrap64 (s0_1+1))≤(s0_0.length:Int))=false:=decide_eq_false c7
   clear c7
   simp only [Option.some.injEq,Prod.mk.injEq] at H
   obtain ⟨rfl,rfl,rfl⟩:=H
   obtain ⟨ASz9_0,cSz9_0,HGz9,hgz9,HSz9_0⟩:=HI0.out
   have hcz9_0:=cellS82_0 HGz9
   have hcz9_1:=cellS82_1 HGz9
   have hcz9_2:=cellS82_2 HGz9
   have hfz9_1:=blk_frozen HGz9 1
   have hfz9_2:=blk_frozen HGz9 2
   clear HGz9 hgz9
   go_enter Tryd.func66,Tryd.ntmps66
   go_wp2
   repeat (go_quiet (fail);try go_wp2)
   go_ret
   exact ⟨zj,zbv,zf,ze⟩

def spec_l00Src_pick.f (s0_0:List Int) (s0_1:Int) (s0_2:Int) (a1:Int):Option (Int × Int × Int):=if a1≤1 then (some (0,s0_1,s0_2)) else ((spec_l00Src_next.f s0_0 s0_1 s0_2).bind fun bt101=>(if a1 > 200 then ((spec_l00Src_next.f s0_0 bt101.2.1 bt101.2.2).bind fun bt104=>(if a1=0 then (none) else (some (Int.tmod (wrap64 ((wrap64 (bt101.1*256))+bt104.1)) a1,bt104.2.1,bt104.2.2)))) else (if a1=0 then (none) else (some (Int.tmod bt101.1 a1,bt101.2.1,bt101.2.2)))))
set_option maxHeartbeats 8000000 in
set_option maxRecDepth 100000 in
theorem spec_l00Src_pick.calls (g:Nat) (s0_0:List Int) (s0_1:Int) (s0_2:Int) (a1:Int) (r1:Int) (r2:Int) (r3:Int) (w0 w:World) (hI:IsS82 w0 w g s0_0 s0_1 s0_2) (hB:Below w0.heap.size w0 w) (h:spec_l00Src_pick.f s0_0 s0_1 s0_2 a1=some (r1,r2,r3)) :
 Calls Tryd.prog 47 #[.pointer (some ⟨g,0,none⟩),.int .i64 a1] w fun e w'=>e = .returned (.int .i64 r1)∧IsS82 w0 w' g s0_0 r2 r3∧Below w0.heap.size w0 w'∧KeepBut w w' g none:=by
 have HI0:=Aside0.mk hI
 have HK:=Aside0.mk (KeepBut.refl w g none)
 have HL:=Aside0.mk hB.size
 clear hI
 have HW0:=Aside0.mk hB.size
 have HB:=Aside0.mk hB
 clear hB
 have H:(if a1≤1 then (some (0,s0_1,s0_2)) else ((spec_l00Src_next.f s0_0 s0_1 s0_2).bind fun bt101=>(if a1 > 200 then ((spec_l00Src_next.f s0_0 bt101.2.1 bt101.2.2).bind fun bt104=>(if a1=0 then (none) else (some (Int.tmod (wrap64 ((wrap64 (bt101.1*256))+bt104.1)) a1,bt104.2.1,bt104.2.2)))) else (if a1=0 then (none) else (some (Int.tmod bt101.1 a1,bt101.2.1,bt101.2.2))))))=some (r1,r2,r3):=h
 clear h
 by_cases c3:a1≤1
 ·rw [if_pos c3] at H
  have c3b0:decide (a1≤1)=true:=decide_eq_true c3
  clear c3
  simp only [Option.some.injEq,Prod.mk.injEq] at H
  obtain ⟨rfl,rfl,rfl⟩:=H
  go_enter Tryd.func47,Tryd.ntmps47
  go_wp2
  go_ret
  exact ⟨zj,zg,zf,ze⟩
 ·rw [if_neg c3] at H
  have c3b0:decide (a1≤1)=false:=decide_eq_false c3
  clear c3
  replace H:=Option.bind_eq_some_iff.mp H
  obtain ⟨⟨t101,t102,t103⟩,A40,H⟩:=H
  replace H:(if a1 > 200 then ((spec_l00Src_next.f s0_0 t102 t103).bind fun bt104=>(if a1=0 then (none) else (some (Int.tmod (wrap64 ((wrap64 (t101*256))+bt104.1)) a1,bt104.2.1,bt104.2.2)))) else (if a1=0 then (none) else (some (Int.tmod t101 a1,t102,t103))))=some (r1,r2,r3):=H
  have A4:=Aside0.mk A40
  clear A40
  by_cases c5:a1 > 200
  ·rw [if_pos c5] at H
   have c5b0:decide (200<a1)=true:=decide_eq_true c5
   clear c5
   replace H:=Option.bind_eq_some_iff.mp H
   obtain ⟨⟨t104,t105,t106⟩,A60,H⟩:=H
   replace H:(if a1=0 then (none) else (some (Int.tmod (wrap64 ((wrap64 (t101*256))+t104)) a1,t105,t106)))=some (r1,r2,r3):=H
   have A6:=Aside0.mk A60
   clear A60
   by_cases c7:a1=0
   ·rw [if_pos c7] at H
    exact absurd H zca
   ·rw [if_neg c7] at H
    have c7b0:(a1 == 0)=false:=beq_eq_false_iff_ne.mpr c7
    have c7b1:(a1 != 0)=true:=bne_iff_ne.mpr c7
    simp only [Option.some.injEq,Prod.mk.injEq] at H
    obtain ⟨rfl,rfl,rfl⟩:=H
    go_enter Tryd.func47,Tryd.ntmps47
    go_wp2_with (first|((with_reducible refine gate_callee (f:=66) rfl ?_);refine goesL_ (some 9) rfl rfl Tryd.func66 zaq rfl #[.pointer (some ⟨g,0,none⟩)] rfl zd ?_;(with_reducible refine (spec_l00Src_next.calls g s0_0 s0_1 s0_2 t101 t102 t103 w0 _ ?side1 ?side2 A4.out).mono ?_);(case side1=>exact zg);(case side2=>exact zf);rintro e w8 ⟨rfl,hi,hb,hk⟩;refine ⟨_,rfl,?_⟩;replace HK:=Aside0.mk (KeepBut.trans ze hk (.inl rfl));replace HB:=Aside0.mk (hb);replace HI0:=Aside0.mk (hi);(try clear hb);(try clear hb2);(try clear hk);(try clear hi))|((with_reducible refine gate_callee (f:=66) rfl ?_);refine goesL_ (some 15) rfl rfl Tryd.func66 zaq rfl #[.pointer (some ⟨g,0,none⟩)] rfl zd ?_;(with_reducible refine (spec_l00Src_next.calls g s0_0 t102 t103 t104 t105 t106 w0 _ ?side1 ?side2 A6.out).mono ?_);(case side1=>exact zg);(case side2=>exact zf);rintro e w9 ⟨rfl,hi,hb,hk⟩;refine ⟨_,rfl,?_⟩;replace HK:=Aside0.mk (KeepBut.trans ze hk (.inl rfl));replace HB:=Aside0.mk (hb);replace HI0:=Aside0.mk (hi);(try clear hb);(try clear hb2);(try clear hk);(try clear hi)))
    go_ret
    exact ⟨zj,zg,zf,ze⟩
  ·rw [if_neg c5] at H
   have c5b0:decide (200<a1)=false:=decide_eq_false c5
   clear c5
   by_cases c10:a1=0
   ·rw [if_pos c10] at H
    exact absurd H zca
   ·rw [if_neg c10] at H
    have c10b0:(a1 == 0)=false:=beq_eq_false_iff_ne.mpr c10
    have c10b1:(a1 != 0)=true:=bne_iff_ne.mpr c10
    simp only [Option.some.injEq,Prod.mk.injEq] at H
    obtain ⟨rfl,rfl,rfl⟩:=H
    go_enter Tryd.func47,Tryd.ntmps47
    go_wp2_with (first|((with_reducible refine gate_callee (f:=66) rfl ?_);refine goesL_ (some 9) rfl rfl Tryd.func66 zaq rfl #[.pointer (some ⟨g,0,none⟩)] rfl zd ?_;(with_reducible refine (spec_l00Src_next.calls g s0_0 s0_1 s0_2 t101 t102 t103 w0 _ ?side1 ?side2 A4.out).mono ?_);(case side1=>exact zg);(case side2=>exact zf);rintro e w11 ⟨rfl,hi,hb,hk⟩;refine ⟨_,rfl,?_⟩;replace HK:=Aside0.mk (KeepBut.trans ze hk (.inl rfl));replace HB:=Aside0.mk (hb);replace HI0:=Aside0.mk (hi);(try clear hb);(try clear hb2);(try clear hk);(try clear hi)))
    go_ret
    exact ⟨zj,zg,zf,ze⟩

def spec_l00Src_one.f (s0_0:List Int) (s0_1:Int) (s0_2:Int) (a1:Int):Option (Bool × Int × Int):=(spec_l00Src_pick.f s0_0 s0_1 s0_2 a1).bind fun bt101=>(some ((bt101.1 == 0),bt101.2.1,bt101.2.2))
set_option maxHeartbeats 8000000 in
set_option maxRecDepth 100000 in
theorem spec_l00Src_one.calls (g:Nat) (s0_0:List Int) (s0_1:Int) (s0_2:Int) (a1:Int) (r1:Bool) (r2:Int) (r3:Int) (w0 w:World) (hI:IsS82 w0 w g s0_0 s0_1 s0_2) (hB:Below w0.heap.size w0 w) (h:spec_l00Src_one.f s0_0 s0_1 s0_2 a1=some (r1,r2,r3)) :
 Calls Tryd.prog 49 #[.pointer (some ⟨g,0,none⟩),.int .i64 a1] w fun e w'=>e = .returned (.bool r1)∧IsS82 w0 w' g s0_0 r2 r3∧Below w0.heap.size w0 w'∧KeepBut w w' g none:=by
 have HI0:=Aside0.mk hI
 have HK:=Aside0.mk (KeepBut.refl w g none)
 have HL:=Aside0.mk hB.size
 clear hI
 have HW0:=Aside0.mk hB.size
 have HB:=Aside0.mk hB
 clear hB
 have H:((spec_l00Src_pick.f s0_0 s0_1 s0_2 a1).bind fun bt101=>(some ((bt101.1 == 0),bt101.2.1,bt101.2.2)))=some (r1,r2,r3):=h
 clear h
 replace H:=Option.bind_eq_some_iff.mp H
 obtain ⟨⟨t101,t102,t103⟩,A30,H⟩:=H
 replace H:(some ((t101 == 0),t102,t103))=some (r1,r2,r3):=H
 have A3:=Aside0.mk A30
 clear A30
 simp only [Option.some.injEq,Prod.mk.injEq] at H
 obtain ⟨rfl,rfl,rfl⟩:=H
 go_enter Tryd.func49,Tryd.ntmps49
 go_wp2_with (first|((with_reducible refine gate_callee (f:=47) rfl ?_);refine goesL_ (some 7) rfl rfl Tryd.func47 zaq rfl #[.pointer (some ⟨g,0,none⟩),.int .i64 a1] rfl zd ?_;(with_reducible refine (spec_l00Src_pick.calls g s0_0 s0_1 s0_2 a1 t101 t102 t103 w0 _ ?side1 ?side2 A3.out).mono ?_);(case side1=>exact zg);(case side2=>exact zf);rintro e w4 ⟨rfl,hi,hb,hk⟩;refine ⟨_,rfl,?_⟩;replace HK:=Aside0.mk (KeepBut.trans ze hk (.inl rfl));replace HB:=Aside0.mk (hb);replace HI0:=Aside0.mk (hi);(try clear hb);(try clear hb2);(try clear hk);(try clear hi)))
 go_ret
 exact ⟨zj,zg,zf,ze⟩

def spec_l27DrawState.l0:Nat→List ByteArray→List (S57)→Int→List Int→Int→Int→Option ((List (S57)) × Int × Int)
 | 0,_,_,_,_,_,_=>none
 | k+1,x3,x4,x5,x1000,x1001,x1002=>if x5<5 then ((spec_l00Src_one.f x1000 x1001 x1002 2).bind fun bt107=>(if bt107.1=true then (if 0≤x5 then (if x5<(x3.length:Int) then ((spec_l00Src_pick.f x1000 bt107.2.1 bt107.2.2 1001).bind fun bt111=>(if x4.length<5864062014805 then (spec_l27DrawState.l0 k x3 (x4++[(⟨rdOf ByteArray.empty x3 x5,bt111.1⟩:S57)]) (wrap64 (x5+1)) x1000 bt111.2.1 bt111.2.2) else (none))) else (none)) else (none)) else (spec_l27DrawState.l0 k x3 x4 (wrap64 (x5+1)) x1000 bt107.2.1 bt107.2.2))) else (some (x4,x1001,x1002))
def spec_l27DrawState.f (k:Nat) (s0_0:List Int) (s0_1:Int) (s0_2:Int):Option ((List (S57)) × Int × Int):=spec_l27DrawState.l0 k (([(⟨#[97]⟩:ByteArray),(⟨#[98]⟩:ByteArray),(⟨#[99]⟩:ByteArray),(⟨#[100]⟩:ByteArray),(⟨#[101]⟩:ByteArray)]:List ByteArray)) (([]:List (S57))) 0 s0_0 s0_1 s0_2
def spec_l27DrawState.T7:Bool × List (List Nat × List Nat):=(true,[([],[]),([],[]),([],[]),([1,2],[1,2]),([3],[3]),([],[]),([5],[5]),([4,6],[4,6]),([7],[7]),([0,8,6],[0,8]),([9,9,0,1,2,3,4,5,6,7,8,9],[0,9])])
def spec_l27DrawState.B7:List Nat:=[0,0,0,6,14,0,32,126,254,511,1023]
theorem spec_l27DrawState.tab7:rtab .any (opsOf Tryd.f22 7)=spec_l27DrawState.T7:=by kernel_rfl
theorem spec_l27DrawState.bits7:waitsOk spec_l27DrawState.T7.2 spec_l27DrawState.B7=true:=by kernel_rfl
set_option maxHeartbeats 8000000 in
set_option maxRecDepth 100000 in
theorem spec_l27DrawState.calls (k:Nat) (g:Nat) (s0_0:List Int) (s0_1:Int) (s0_2:Int) (r1:List (S57)) (r2:Int) (r3:Int) (w0 w:World) (hI:IsS82 w0 w g s0_0 s0_1 s0_2) (hB:Below w0.heap.size w0 w) (h:spec_l27DrawState.f k s0_0 s0_1 s0_2=some (r1,r2,r3)) :
 Calls Tryd.prog 22 #[.pointer (some ⟨g,0,none⟩)] w fun e w'=>∃v0_:Value,e = .returned (v0_)∧Kd.R k57 57 w' w.heap.size (fun _=>True) v0_ r1∧IsS82 w0 w' g s0_0 r2 r3∧Below w0.heap.size w0 w'∧KeepBut w w' g none:=by
 have hu57:=Tryd.underlying57
 have HI0:=Aside0.mk hI
 have HK:=Aside0.mk (KeepBut.refl w g none)
 have HL:=Aside0.mk hB.size
 clear hI
 have HW0:=Aside0.mk hB.size
 have HB:=Aside0.mk hB
 clear hB
 have H:(spec_l27DrawState.l0 k (([(⟨#[97]⟩:ByteArray),(⟨#[98]⟩:ByteArray),(⟨#[99]⟩:ByteArray),(⟨#[100]⟩:ByteArray),(⟨#[101]⟩:ByteArray)]:List ByteArray)) (([]:List (S57))) 0 s0_0 s0_1 s0_2)=some (r1,r2,r3):=h
 clear h
 obtain ⟨y101,hy101⟩:∃y_:List ByteArray,y_=(([(⟨#[97]⟩:ByteArray),(⟨#[98]⟩:ByteArray),(⟨#[99]⟩:ByteArray),(⟨#[100]⟩:ByteArray),(⟨#[101]⟩:ByteArray)]:List ByteArray)):=⟨_,rfl⟩
 replace H:(spec_l27DrawState.l0 k y101 (([]:List (S57))) 0 s0_0 s0_1 s0_2)=some (r1,r2,r3):=by first|(rw [hy101];with_reducible exact H)|(have H2_:=(Option.bind_some _ _).symm.trans H;rw [hy101];with_reducible exact H2_)|(have H2_:=(Option.bind_some _ _).symm.trans H;with_reducible exact H2_)|with_reducible exact H|(rw [hy101];exact H)|exact H
 have Ny101:=Aside0.mk hy101
 clear hy101
 obtain ⟨y104,hy104⟩:∃y_:List (S57),y_=(([]:List (S57))):=⟨_,rfl⟩
 replace H:(spec_l27DrawState.l0 k y101 y104 0 s0_0 s0_1 s0_2)=some (r1,r2,r3):=by first|(rw [hy104];with_reducible exact H)|(have H2_:=(Option.bind_some _ _).symm.trans H;rw [hy104];with_reducible exact H2_)|(have H2_:=(Option.bind_some _ _).symm.trans H;with_reducible exact H2_)|with_reducible exact H|(rw [hy104];exact H)|exact H
 have Ny104:=Aside0.mk hy104
 clear hy104
 have H':=Aside0.mk H
 clear H
 go_enter Tryd.func22,Tryd.ntmps22
 go_wp2_with (first|((with_reducible refine gate_dst (N:=6) rfl ?_);refine Kd.R_lit Kd.string _ 9 ?hg (N:=6) ?hd (xs:=([(⟨#[97]⟩:ByteArray),(⟨#[98]⟩:ByteArray),(⟨#[99]⟩:ByteArray),(⟨#[100]⟩:ByteArray),(⟨#[101]⟩:ByteArray)]:List ByteArray)) (inner:=[.string (⟨#[97]⟩:ByteArray),.string (⟨#[98]⟩:ByteArray),.string (⟨#[99]⟩:ByteArray),.string (⟨#[100]⟩:ByteArray),.string (⟨#[101]⟩:ByteArray)]) (ok:=fun _=>True) (okp:=fun _=>True) ?hr ?hp (fun _ hk=>hk) trivial (Below.refl _ _) (Nat.le_refl _) zca ?_;(case hd=>rfl);(case hg=>rfl);(case hr=>exact zv);(case hp=>exact (Reps.one (show Kd.M Kd.string _ _ _ (⟨#[97]⟩:ByteArray) [.string (⟨#[97]⟩:ByteArray)] from rfl) (Reps.one (show Kd.M Kd.string _ _ _ (⟨#[98]⟩:ByteArray) [.string (⟨#[98]⟩:ByteArray)] from rfl) (Reps.one (show Kd.M Kd.string _ _ _ (⟨#[99]⟩:ByteArray) [.string (⟨#[99]⟩:ByteArray)] from rfl) (Reps.one (show Kd.M Kd.string _ _ _ (⟨#[100]⟩:ByteArray) [.string (⟨#[100]⟩:ByteArray)] from rfl) (Reps.one (show Kd.M Kd.string _ _ _ (⟨#[101]⟩:ByteArray) [.string (⟨#[101]⟩:ByteArray)] from rfl) (Reps.none _ _)))))));intro v102 w2 ho3 hb hg_ hnew_;clear hg_ hnew_;(first|rw [←Ny101.out] at ho3|(simp only [Int.reduceToNat] at ho3;rw [←Ny101.out] at ho3));have n0_:=Aside0.mk (Kd.R_lower ho3 (keep_size (w:=w) (g:=g) (row:=none) ze));have n1_:=Aside0.mk (IsS82.below zg hb);have n2_:=Aside0.mk (KeepBut.trans ze (KeepBut.of_below hb g none) (.inl rfl));have n3_:=Aside0.mk (below_step zf hb);clear HI0;clear HK;clear HB;have HO103:=n0_;have HI0:=n1_;have HK:=n2_;have HB:=n3_;clear n0_ n1_ n2_ n3_;clear hb ho3)|((with_reducible refine gate_dst (N:=7) rfl ?_);refine Kd.R_lit k57 _ 57 ?hg (N:=7) ?hd (xs:=([]:List (S57))) (inner:=[]) (ok:=fun _=>True) (okp:=fun _=>True) ?hr ?hp (fun _ hk=>hk) trivial (Below.refl _ _) (Nat.le_refl _) zca ?_;(case hd=>rfl);(case hg=>rfl);(case hr=>exact zv);(case hp=>exact (Reps.none _ _));intro v105 w4 ho5 hb hg_ hnew_;clear hg_ hnew_;(first|rw [←Ny104.out] at ho5|(simp only [Int.reduceToNat] at ho5;rw [←Ny104.out] at ho5));have n0_:=Aside0.mk (Kd.R_below zae hb);have n1_:=Aside0.mk (Kd.R_lower ho5 (keep_size (w:=w) (g:=g) (row:=none) ze));have n2_:=Aside0.mk (IsS82.below zg hb);have n3_:=Aside0.mk (KeepBut.trans ze (KeepBut.of_below hb g none) (.inl rfl));have n4_:=Aside0.mk (below_step zf hb);clear HO103;clear HI0;clear HK;clear HB;have HO103:=n0_;have HO106:=n1_;have HI0:=n2_;have HK:=n3_;have HB:=n4_;clear n0_ n1_ n2_ n3_ n4_;clear hb ho5))
 go_loopg [4,5] k (fun kq v4 v5 w'=>∃(x4_1:List (S57)) (x5_1:Int) (x1001_1:Int) (x1002_1:Int),v5 = .int .i64 x5_1∧Aside0 (spec_l27DrawState.l0 kq y101 x4_1 x5_1 s0_0 x1001_1 x1002_1=some (r1,r2,r3))∧Aside0 (kq≤k)∧Aside0 (Kd.R Kd.string 9 w' w.heap.size (fun _=>True) v102 y101)∧Aside0 (Kd.R k57 57 w' w.heap.size (fun _=>True) v4 x4_1)∧Aside0 (IsS82 w0 w' g s0_0 x1001_1 x1002_1)∧Aside0 (KeepBut w w' g none)∧Aside0 (Below w0.heap.size w0 w'))
 case atStart=>exact ⟨(y104),(0),(s0_1),(s0_2),zi,H',⟨Nat.le_refl _⟩,⟨zae⟩,⟨zcu⟩,⟨zg⟩,⟨ze⟩,⟨zf⟩⟩
 case round=>
  clear H'
  try clear c2
  try clear p2
  obtain ⟨x4_1,x5_1,x1001_1,x1002_1,rfl,HA,HK1,HO_3,HO_4,HI0,HK,HB⟩:=hrel
  cases gk with
  | zero=>exact absurd HA.out (by simp [spec_l27DrawState.l0])
  | succ k1=>
   have H:=HA.out
   clear HA
   simp only [spec_l27DrawState.l0] at H
   by_cases c6:x5_1<5
   ·rw [if_pos c6] at H
    have c6b0:decide (x5_1<5)=true:=decide_eq_true c6
    clear c6
    replace H:=Option.bind_eq_some_iff.mp H
    obtain ⟨⟨t107,t108,t109⟩,A70,H⟩:=H
    replace H:(if t107=true then (if 0≤x5_1 then (if x5_1<(y101.length:Int) then ((spec_l00Src_pick.f s0_0 t108 t109 1001).bind fun bt111=>(if x4_1.length<5864062014805 then (spec_l27DrawState.l0 k1 y101 (x4_1++[(⟨rdOf ByteArray.empty y101 x5_1,bt111.1⟩:S57)]) (wrap64 (x5_1+1)) s0_0 bt111.2.1 bt111.2.2) else (none))) else (none)) else (none)) else (spec_l27DrawState.l0 k1 y101 x4_1 (wrap64 (x5_1+1)) s0_0 t108 t109))=some (r1,r2,r3):=H
    have A7:=Aside0.mk A70
    clear A70
    by_cases c8:t107=true
    ·subst c8
     have H1:(if 0≤x5_1 then (if x5_1<(y101.length:Int) then ((spec_l00Src_pick.f s0_0 t108 t109 1001).bind fun bt111=>(if x4_1.length<5864062014805 then (spec_l27DrawState.l0 k1 y101 (x4_1++[(⟨rdOf ByteArray.empty y101 x5_1,bt111.1⟩:S57)]) (wrap64 (x5_1+1)) s0_0 bt111.2.1 bt111.2.2) else (none))) else (none)) else (none))=some (r1,r2,r3):=by rw [if_pos rfl] at H;exact H
     clear H
     have H:=H1
     clear H1
     by_cases c9:0≤x5_1
     ·rw [if_pos c9] at H
      have c9b0:decide (0≤x5_1)=true:=decide_eq_true c9
      clear c9
      by_cases c10:x5_1<(y101.length:Int)
      ·rw [if_pos c10] at H
       have c10b0:decide (x5_1<(y101.length:Int))=true:=decide_eq_true c10
       clear c10
       replace H:=Option.bind_eq_some_iff.mp H
       obtain ⟨⟨t111,t112,t113⟩,A110,H⟩:=H
       replace H:(if x4_1.length<5864062014805 then (spec_l27DrawState.l0 k1 y101 (x4_1++[(⟨rdOf ByteArray.empty y101 x5_1,t111⟩:S57)]) (wrap64 (x5_1+1)) s0_0 t112 t113) else (none))=some (r1,r2,r3):=H
       have A11:=Aside0.mk A110
       clear A110
       by_cases c12:x4_1.length<5864062014805
       ·rw [if_pos c12] at H
        have LMc12:=Aside0.mk c12
        clear c12
        obtain ⟨y114,hy114⟩:∃y_:List (S57),y_=(x4_1++[(⟨rdOf ByteArray.empty y101 x5_1,t111⟩:S57)]):=⟨_,rfl⟩
        replace H:(spec_l27DrawState.l0 k1 y101 y114 (wrap64 (x5_1+1)) s0_0 t112 t113)=some (r1,r2,r3):=by first|(rw [hy114];with_reducible exact H)|(have H2_:=(Option.bind_some _ _).symm.trans H;rw [hy114];with_reducible exact H2_)|(have H2_:=(Option.bind_some _ _).symm.trans H;with_reducible exact H2_)|with_reducible exact H|(rw [hy114];exact H)|exact H
        have Ny114:=Aside0.mk hy114
        clear hy114
        have H':=Aside0.mk H
        clear H
        try go_wp2_with (first|((with_reducible refine gate_callee (f:=49) rfl ?_);refine goesL_ (some 13) rfl rfl Tryd.func49 zaq rfl #[.pointer (some ⟨g,0,none⟩),.int .i64 2] rfl zd ?_;(with_reducible refine (spec_l00Src_one.calls g s0_0 x1001_1 x1002_1 2 true t108 t109 w0 _ ?side1 ?side2 A7.out).mono ?_);(case side1=>exact zg);(case side2=>exact zf);rintro e w13 ⟨rfl,hi,hb,hk⟩;refine ⟨_,rfl,?_⟩;replace HO_3:=Aside0.mk (Kd.R_mono (Kd.R_keep (IsS82.apart (show IsS82 w0 _ g s0_0 x1001_1 x1002_1 from by repeat (first|(with_reducible first|exact HI0.out|apply IsS82.alloc|apply IsS82.drewN|apply IsS82.drew|apply IsS82.set_1|apply IsS82.set_2)|exact HI0.out)) zcd zbp) hk (fun _ h=>h.2)) (fun _ h=>h.1));replace HO_4:=Aside0.mk (Kd.R_mono (Kd.R_keep (IsS82.apart (show IsS82 w0 _ g s0_0 x1001_1 x1002_1 from by repeat (first|(with_reducible first|exact HI0.out|apply IsS82.alloc|apply IsS82.drewN|apply IsS82.drew|apply IsS82.set_1|apply IsS82.set_2)|exact HI0.out)) zbz zbp) hk (fun _ h=>h.2)) (fun _ h=>h.1));replace HK:=Aside0.mk (KeepBut.trans ze hk (.inl rfl));replace HB:=Aside0.mk (hb);replace HI0:=Aside0.mk (hi);(try clear hb);(try clear hb2);(try clear hk);(try clear hi)))
        replace HO_3:=Aside0.mk (Kd.R_drew HO_3.out)
        replace HO_4:=Aside0.mk (Kd.R_drew HO_4.out)
        replace HI0:=Aside0.mk (IsS82.drew HI0.out)
        replace HK:=Aside0.mk (keep_drew HK.out)
        replace HB:=Aside0.mk (below_drew1 HB.out)
        obtain ⟨Ao15,co15,eo15⟩:=Kd.R_slice HO_3.out
        (first|subst eo15|(injection eo15 with f1_ f2_ f3_;have f4_:=f1_.symm;have f5_:=f3_.symm;clear f1_ f2_ f3_;subst f4_;subst f5_))
        have p110:0≤(x5_1:Int):=of_decide_eq_true zb
        have q110:x5_1<(y101.length:Int):=of_decide_eq_true zb
        obtain ⟨ad110,e110,hx110_0⟩:=Kd.at_string (Kd.R_reads' HO_3.out).2.2 x5_1 p110 q110
        cases e110
        replace p110:=eq_true p110
        replace q110:=eq_true q110
        refine start_ (n:=11) (S:=fun w'=>w'.cell? (ad110.add (x5_1).toNat)=some (.string (rdOf ByteArray.empty y101 x5_1))) (ds:=[8,9]) #[false,false,false,false,false,false,false,false,false,false,false] zaq rfl rfl (hx110_0) (fun hHeld=>?_);refine with_tabW spec_l27DrawState.tab7 spec_l27DrawState.bits7 (fun HT_ HW_=>?_)
        generalize w13.drew=w14 at HO_3 HO_4 HI0 HK HB hx110_0 hHeld ⊢
        refine pA 0 14 ?_
        refine pA 1 15 ?_
        refine pA 2 16 ?_
        refine pA 3 17 ?_
        refine pA 5 19 ?_
        refine take_ (i:=4) (N:=some 18) (v:=?_) (a':=?_) #[true,true,true,true,true,true,false,false,false,false,false] rfl rfl (take_ofW HT_.out HW_.out zaq) (fun _ _ _ h=>h) (Or.inl ⟨by rfl,?_⟩) hHeld ?_ ?_
        rotate_left
        ·intro w' s0
         go_simp
         with_reducible rfl
        rotate_left
        ·simp only [Act.put,List.setIfInBounds_toArray,List.set_cons_zero,List.set_cons_succ,i64_w,i32_w]
         rfl
        refine one_ (i:=6) (N:=some 20) #[true,true,true,true,true,true,true,false,false,false,false] rfl rfl (one_of HT_.out zaq) zbp (fun K hK=>?_)
        refine goes_ Tryd.func47 zaq rfl #[.pointer (some ⟨g,0,none⟩),.int .i64 1001] (by rfl) rfl rfl zd ?_
        with_reducible refine (spec_l00Src_pick.calls g s0_0 t108 t109 1001 t111 t112 t113 w0 _ ?side1 ?side2 A11.out).mono ?_
        (case side1=>exact zg)
        (case side2=>exact zf)
        rintro e w16 ⟨rfl,hi,hb,hk⟩
        have HS0_:=keep_cell hk (hHeld) (by first|(rw [add_block];exact Kd.own_blk (IsS82.own_ne HI0.out HO_3.out zbp))|(show (Addr.add _ _).block≠_;rw [add_block];exact Kd.own_blk (IsS82.own_ne HI0.out HO_3.out zbp))|exact Kd.own_blk (IsS82.own_ne HI0.out HO_3.out zbp))
        refine ⟨_,rfl,?_⟩
        replace HO_3:=Aside0.mk (Kd.R_mono (Kd.R_keep (IsS82.apart (show IsS82 w0 _ g s0_0 t108 t109 from by repeat (first|(with_reducible first|exact HI0.out|apply IsS82.alloc|apply IsS82.drewN|apply IsS82.drew|apply IsS82.set_1|apply IsS82.set_2)|exact HI0.out)) zcd zbp) hk (fun _ h=>h.2)) (fun _ h=>h.1))
        replace HO_4:=Aside0.mk (Kd.R_mono (Kd.R_keep (IsS82.apart (show IsS82 w0 _ g s0_0 t108 t109 from by repeat (first|(with_reducible first|exact HI0.out|apply IsS82.alloc|apply IsS82.drewN|apply IsS82.drew|apply IsS82.set_1|apply IsS82.set_2)|exact HI0.out)) zbz zbp) hk (fun _ h=>h.2)) (fun _ h=>h.1))
        replace HK:=Aside0.mk (KeepBut.trans ze hk (.inl rfl))
        replace HB:=Aside0.mk (hb)
        replace HI0:=Aside0.mk (hi)
        (try clear hb)
        (try clear hb2)
        (try clear hk)
        (try clear hi)
        refine hK.out _ _ (HS0_) (fun hHeld=>?_)
        clear hK K
        refine pN 20 ?_
        refine pA 7 21 ?_
        refine last_ (i:=8) (N:=some 22) #[true,true,true,true,true,true,true,true,true,false,false] rfl rfl (one_of HT_.out zaq) zbp (fun K hK=>?_)
        refine value_ (w1:=?_) (v:=?_) (by rfl) rfl ?_ ?_
        rotate_left 2
        ·go_simp
         constructor
         ·rfl
         ·rfl
        refine hK.out _ _ ?_
        clear hK K
        refine pN 22 ?_
        refine last_ (i:=9) (N:=some 23) #[true,true,true,true,true,true,true,true,true,true,false] rfl rfl (one_of HT_.out zaq) zbp (fun K hK=>?_)
        refine Kd.R_append_step k57 w.heap.size (by rfl) (.tmp 14) (.tmp 22) 26 57 (.agg #[(.string ⟨#[]⟩),(.int .i64 0)]) 24 rfl Tryd.underlying26 info57 rfl zbp zbn u4 x4_1 (⟨rdOf ByteArray.empty y101 x5_1,t111⟩:S57) [.string (rdOf ByteArray.empty y101 x5_1),.int .i64 t111] (fun _=>True) (fun _=>False) rfl rfl ?aP (fun _ hk=>hk.elim) ?aF ?aO (Below.refl _ _) ?aS ?aL ?_
        (case aP=>exact k57_mkM _ _ _ (⟨rdOf ByteArray.empty y101 x5_1,t111⟩:S57))
        (case aF=>exact (fun _ _=>trivial))
        (case aO=>exact zbz)
        (case aS=>exact (keep_size (w:=w) (g:=g) (row:=none) ze))
        (case aL=>have:=LMc12.out;omega)
        intro v115 w17 ho hb hg hat
        rw [←Ny114.out] at ho
        have n0_:=Aside0.mk (Kd.R_over' zcd (Kd.R_typed zbz) zbp hg)
        have n1_:=Aside0.mk (IsS82.grown zg hg (IsS82.own_ne HI0.out HO_4.out zbp))
        have n2_:=Aside0.mk (below_weaken zf HL.out hb)
        have n3_:=Aside0.mk (KeepBut.trans ze (KeepBut.of_grown hg g) (Kd.R_base2 HO_4.out))
        have n4_:=Aside0.mk (ho)
        clear HO_3
        clear HI0
        clear HB
        clear HK
        clear HO_4
        have HO_3:=n0_
        have HI0:=n1_
        have HB:=n2_
        have HK:=n3_
        have HO116:=n4_
        clear n0_ n1_ n2_ n3_ n4_
        clear ho hb hg hat
        refine hK.out _ _ ?_
        clear hK K
        refine pN 23 ?_
        refine pA 10 4 ?_
        refine done_ (done_of HT_.out zaq) ?_
        try go_wp2
        go_roundg k1
        case measure=>have:=HK1.out;omega
        case rel=>exact ⟨(y114),(wrap64 (x5_1+1)),(t112),(t113),zi,H',⟨zci⟩,⟨zcd⟩,⟨zcv⟩,⟨zg⟩,⟨ze⟩,⟨zf⟩⟩
       ·rw [if_neg c12] at H
        exact absurd H zca
      ·rw [if_neg c10] at H
       exact absurd H zca
     ·rw [if_neg c9] at H
      exact absurd H zca
    ·replace c8:=Bool.eq_false_iff.mpr c8
     subst c8
     have H1:(spec_l27DrawState.l0 k1 y101 x4_1 (wrap64 (x5_1+1)) s0_0 t108 t109)=some (r1,r2,r3):=by rw [if_neg (show ¬ (false=true) by decide)] at H;exact H
     clear H
     have H:=H1
     clear H1
     have H':=Aside0.mk H
     clear H
     go_wp2_with (first|((with_reducible refine gate_callee (f:=49) rfl ?_);refine goesL_ (some 13) rfl rfl Tryd.func49 zaq rfl #[.pointer (some ⟨g,0,none⟩),.int .i64 2] rfl zd ?_;(with_reducible refine (spec_l00Src_one.calls g s0_0 x1001_1 x1002_1 2 false t108 t109 w0 _ ?side1 ?side2 A7.out).mono ?_);(case side1=>exact zg);(case side2=>exact zf);rintro e w18 ⟨rfl,hi,hb,hk⟩;refine ⟨_,rfl,?_⟩;replace HO_3:=Aside0.mk (Kd.R_mono (Kd.R_keep (IsS82.apart (show IsS82 w0 _ g s0_0 x1001_1 x1002_1 from by repeat (first|(with_reducible first|exact HI0.out|apply IsS82.alloc|apply IsS82.drewN|apply IsS82.drew|apply IsS82.set_1|apply IsS82.set_2)|exact HI0.out)) zcd zbp) hk (fun _ h=>h.2)) (fun _ h=>h.1));replace HO_4:=Aside0.mk (Kd.R_mono (Kd.R_keep (IsS82.apart (show IsS82 w0 _ g s0_0 x1001_1 x1002_1 from by repeat (first|(with_reducible first|exact HI0.out|apply IsS82.alloc|apply IsS82.drewN|apply IsS82.drew|apply IsS82.set_1|apply IsS82.set_2)|exact HI0.out)) zbz zbp) hk (fun _ h=>h.2)) (fun _ h=>h.1));replace HK:=Aside0.mk (KeepBut.trans ze hk (.inl rfl));replace HB:=Aside0.mk (hb);replace HI0:=Aside0.mk (hi);(try clear hb);(try clear hb2);(try clear hk);(try clear hi)))
     go_roundg k1
     case measure=>have:=HK1.out;omega
     case rel=>exact ⟨(x4_1),(wrap64 (x5_1+1)),(t108),(t109),zi,H',⟨zci⟩,⟨zcd⟩,⟨zbz⟩,⟨zg⟩,⟨ze⟩,⟨zf⟩⟩
   ·rw [if_neg c6] at H
    have c6b0:decide (x5_1<5)=false:=decide_eq_false c6
    clear c6
    simp only [Option.some.injEq,Prod.mk.injEq] at H
    obtain ⟨rfl,rfl,rfl⟩:=H
    go_wp2
    go_ret
    exact ⟨_,zj,zbz,zg,zf,ze⟩

def spec_l27At.l0:Nat→List (S57)→ByteArray→Int→Option (Int)
 | 0,_,_,_=>none
 | k+1,x0,x1,x5=>if x5<(x0.length:Int) then (if 0≤x5 then (if ((rd_T57 x0 x5).f0).toList=x1.toList then (some x5) else (spec_l27At.l0 k x0 x1 (wrap64 (x5+1)))) else (none)) else (some (-1))
def spec_l27At.f (k:Nat) (l0:List (S57)) (a1:ByteArray):Option (Int):=spec_l27At.l0 k l0 a1 0
set_option maxHeartbeats 8000000 in
set_option maxRecDepth 100000 in
theorem spec_l27At.calls (k:Nat) (A0:Option Addr) (c0:Nat) (l0:List (S57)) (a1:ByteArray) (r:Int) (w:World) (hr0:Kd.C k57 w A0 l0.length l0) (hc0:l0.length≤c0) (h:spec_l27At.f k l0 a1=some r) :
 Calls Tryd.prog 50 #[.slice A0 l0.length c0,.string a1] w fun e w'=>e = .returned (.int .i64 r)∧Drawn0 w w':=by
 have HR0:=Aside0.mk hr0
 have HC0:=Aside0.mk hc0
 clear hr0 hc0
 have H:(spec_l27At.l0 k l0 a1 0)=some r:=h
 clear h
 have H':=Aside0.mk H
 clear H
 go_enter Tryd.func50,Tryd.ntmps50
 go_wp2
 go_loopg [5] k (fun kq v5 w'=>∃(x5_1:Int),v5 = .int .i64 x5_1∧Aside0 (spec_l27At.l0 kq l0 a1 x5_1=some r)∧Aside0 (kq≤k)∧Drawn0 w w')
 case atStart=>exact ⟨(0),zi,H',⟨Nat.le_refl _⟩,zn⟩
 case round=>
  clear H'
  try clear p2
  obtain ⟨x5_1,rfl,HA,HK1,⟨m1,rfl⟩⟩:=hrel
  cases gk with
  | zero=>exact absurd HA.out (by simp [spec_l27At.l0])
  | succ k1=>
   have H:=HA.out
   clear HA
   simp only [spec_l27At.l0] at H
   by_cases c3:x5_1<(l0.length:Int)
   ·rw [if_pos c3] at H
    have c3b0:decide (x5_1<(l0.length:Int))=true:=decide_eq_true c3
    clear c3
    by_cases c4:0≤x5_1
    ·rw [if_pos c4] at H
     have c4b0:decide (0≤x5_1)=true:=decide_eq_true c4
     clear c4
     by_cases c5:((rd_T57 l0 x5_1).f0).toList=a1.toList
     ·rw [if_pos c5] at H
      have c5b0:(((rd_T57 l0 x5_1).f0).toList == a1.toList)=true:=beq_iff_eq.mpr c5
      have c5b1:(((rd_T57 l0 x5_1).f0).toList != a1.toList)=false:=bne_eq_false_iff_eq.mpr c5
      clear c5
      obtain rfl:=Option.some.inj H
      have p101:0≤(x5_1:Int):=of_decide_eq_true zb
      have q101:x5_1<(l0.length:Int):=of_decide_eq_true zb
      obtain ⟨ad101,e101,hx101_0,hx101_1⟩:=at_T57 HR0.out x5_1 p101 q101
      cases e101
      replace p101:=eq_true p101
      replace q101:=eq_true q101
      go_wp2
      go_ret
      exact ⟨zi,zn⟩
     ·rw [if_neg c5] at H
      have c5b0:(((rd_T57 l0 x5_1).f0).toList == a1.toList)=false:=beq_eq_false_iff_ne.mpr c5
      have c5b1:(((rd_T57 l0 x5_1).f0).toList != a1.toList)=true:=bne_iff_ne.mpr c5
      have H':=Aside0.mk H
      clear H
      have p101:0≤(x5_1:Int):=of_decide_eq_true zb
      have q101:x5_1<(l0.length:Int):=of_decide_eq_true zb
      obtain ⟨ad101,e101,hx101_0,hx101_1⟩:=at_T57 HR0.out x5_1 p101 q101
      cases e101
      replace p101:=eq_true p101
      replace q101:=eq_true q101
      go_wp2
      go_roundg k1
      case measure=>have:=HK1.out;omega
      case rel=>exact ⟨(wrap64 (x5_1+1)),zi,H',⟨zci⟩,zn⟩
    ·rw [if_neg c4] at H
     exact absurd H zca
   ·rw [if_neg c3] at H
    have c3b0:decide (x5_1<(l0.length:Int))=false:=decide_eq_false c3
    clear c3
    obtain rfl:=Option.some.inj H
    go_wp2
    go_ret
    exact ⟨zi,zn⟩

mutual
def spec_l27Set.l0:Nat→List (S57)→List (S57)→Bool→Int→ByteArray→Int→Option ((List (S57)))
 | 0,_,_,_,_,_,_=>none
 | k+1,x0,x5,x6,x7,x102000,x102001=>if x7<(x0.length:Int) then (if x6=true then (spec_l27Set.j1 k x0 x5 x6 x7 false x102000 x102001) else (if 0≤x7 then (spec_l27Set.j1 k x0 x5 x6 x7 (!(Op.bytesLess (((rd_T57 x0 x7).f0).toList) x102000.toList)) x102000 x102001) else (none))) else (if x6=true then (some x5) else (if x5.length<5864062014805 then (some (x5++[(⟨x102000,x102001⟩:S57)])) else (none)))
def spec_l27Set.j1:Nat→List (S57)→List (S57)→Bool→Int→Bool→ByteArray→Int→Option ((List (S57)))
 | 0,_,_,_,_,_,_,_=>none
 | k+1,x0,x5,x6,x7,x26,x102000,x102001=>if x26=true then (if x5.length<5864062014805 then ((some (x5++[(⟨x102000,x102001⟩:S57)]:List (S57))).bind fun y109=>(if 0≤x7 then (if x7<(x0.length:Int) then (if ((rd_T57 x0 x7).f0).toList=x102000.toList then (spec_l27Set.l0 k x0 y109 true (wrap64 (x7+1)) x102000 x102001) else (if y109.length<5864062014805 then (spec_l27Set.l0 k x0 (y109++[(⟨(rd_T57 x0 x7).f0,(rd_T57 x0 x7).f1⟩:S57)]) true (wrap64 (x7+1)) x102000 x102001) else (none))) else (none)) else (none))) else (none)) else (if 0≤x7 then (if x7<(x0.length:Int) then (if ((rd_T57 x0 x7).f0).toList=x102000.toList then (spec_l27Set.l0 k x0 x5 x6 (wrap64 (x7+1)) x102000 x102001) else (if x5.length<5864062014805 then (spec_l27Set.l0 k x0 (x5++[(⟨(rd_T57 x0 x7).f0,(rd_T57 x0 x7).f1⟩:S57)]) x6 (wrap64 (x7+1)) x102000 x102001) else (none))) else (none)) else (none))
end
def spec_l27Set.f (k:Nat) (l0:List (S57)) (a1_0:ByteArray) (a1_1:Int):Option ((List (S57))):=spec_l27Set.l0 k l0 (([]:List (S57))) false 0 a1_0 a1_1
set_option maxHeartbeats 8000000 in
set_option maxRecDepth 100000 in
theorem spec_l27Set.calls (k:Nat) (A0:Option Addr) (c0:Nat) (l0:List (S57)) (a1_0:ByteArray) (a1_1:Int) (r:List (S57)) (w:World) (hr0:Kd.C k57 w A0 l0.length l0) (hc0:l0.length≤c0) (h:spec_l27Set.f k l0 a1_0 a1_1=some r) :
 Calls Tryd.prog 51 #[.slice A0 l0.length c0,.agg #[.string a1_0,.int .i64 a1_1]] w fun e w'=>∃v0_:Value,e = .returned (v0_)∧Kd.R k57 57 w' w.heap.size (fun _=>True) v0_ r∧Below w.heap.size w w':=by
 have hu57:=Tryd.underlying57
 have HR0:=Aside0.mk hr0
 have HC0:=Aside0.mk hc0
 clear hr0 hc0
 have HB:=Aside0.mk (Below.refl w.heap.size w)
 have H:(spec_l27Set.l0 k l0 (([]:List (S57))) false 0 a1_0 a1_1)=some r:=h
 clear h
 obtain ⟨y102,hy102⟩:∃y_:List (S57),y_=(([]:List (S57))):=⟨_,rfl⟩
 replace H:(spec_l27Set.l0 k l0 y102 false 0 a1_0 a1_1)=some r:=by first|(rw [hy102];with_reducible exact H)|(have H2_:=(Option.bind_some _ _).symm.trans H;rw [hy102];with_reducible exact H2_)|(have H2_:=(Option.bind_some _ _).symm.trans H;with_reducible exact H2_)|with_reducible exact H|(rw [hy102];exact H)|exact H
 have Ny102:=Aside0.mk hy102
 clear hy102
 have H':=Aside0.mk H
 clear H
 go_enter Tryd.func51,Tryd.ntmps51
 go_wp2_with (first|((with_reducible refine gate_dst (N:=3) rfl ?_);refine box_event ?hg (N:=3) ?hd (cs:=#[.string a1_0,.int .i64 a1_1]) (t:=57) ?hr ?_;(case hd=>rfl);(case hg=>rfl);(case hr=>exact zv);intro gb101 hg w3 hbox hb;have n0_:=Aside0.mk (below_step za hb);have n1_:=Aside0.mk (hbox);have n2_:=Aside0.mk ((by rw [hg];exact (below_size za):w.heap.size≤gb101));have n3_:=Aside0.mk ((by rw [hg];exact (below_size za):w.heap.size≤gb101));clear HB;have HB:=n0_;have BK101:=n1_;have GW101:=n2_;have GE101:=n3_;clear n0_ n1_ n2_ n3_;clear hb hbox hg)|((with_reducible refine gate_dst (N:=8) rfl ?_);refine Kd.R_lit k57 _ 57 ?hg (N:=8) ?hd (xs:=([]:List (S57))) (inner:=[]) (ok:=fun _=>True) (okp:=fun _=>True) ?hr ?hp (fun _ hk=>hk) trivial (Below.refl _ _) (Nat.le_refl _) zca ?_;(case hd=>rfl);(case hg=>rfl);(case hr=>exact zv);(case hp=>exact (Reps.none _ _));intro v103 w4 ho5 hb hg_ hnew_;clear hg_ hnew_;(first|rw [←Ny102.out] at ho5|(simp only [Int.reduceToNat] at ho5;rw [←Ny102.out] at ho5));have HO104:=Aside0.mk (Kd.R_lower (Kd.R_newB ho5 (g:=gb101) (o:=.cells #[.string a1_0,.int .i64 a1_1] 57 (0,0)) zh) (below_size zc));replace BK101:=Aside0.mk (blk_below (g:=gb101) (o:=.cells #[.string a1_0,.int .i64 a1_1] 57 (0,0)) zh hb);replace HB:=Aside0.mk (below_step zc hb);clear hb ho5))
 repeat (go_quiet (first|((with_reducible refine gate_dst (N:=3) rfl ?_);refine box_event ?hg (N:=3) ?hd (cs:=#[.string a1_0,.int .i64 a1_1]) (t:=57) ?hr ?_;(case hd=>rfl);(case hg=>rfl);(case hr=>exact zv);intro gb101 hg w3 hbox hb;have n0_:=Aside0.mk (below_step za hb);have n1_:=Aside0.mk (hbox);have n2_:=Aside0.mk ((by rw [hg];exact (below_size za):w.heap.size≤gb101));have n3_:=Aside0.mk ((by rw [hg];exact (below_size za):w.heap.size≤gb101));clear HB;have HB:=n0_;have BK101:=n1_;have GW101:=n2_;have GE101:=n3_;clear n0_ n1_ n2_ n3_;clear hb hbox hg)|((with_reducible refine gate_dst (N:=8) rfl ?_);refine Kd.R_lit k57 _ 57 ?hg (N:=8) ?hd (xs:=([]:List (S57))) (inner:=[]) (ok:=fun _=>True) (okp:=fun _=>True) ?hr ?hp (fun _ hk=>hk) trivial (Below.refl _ _) (Nat.le_refl _) zca ?_;(case hd=>rfl);(case hg=>rfl);(case hr=>exact zv);(case hp=>exact (Reps.none _ _));intro v103 w4 ho5 hb hg_ hnew_;clear hg_ hnew_;(first|rw [←Ny102.out] at ho5|(simp only [Int.reduceToNat] at ho5;rw [←Ny102.out] at ho5));have HO104:=Aside0.mk (Kd.R_lower (Kd.R_newB ho5 (g:=gb101) (o:=.cells #[.string a1_0,.int .i64 a1_1] 57 (0,0)) zh) (below_size zc));replace BK101:=Aside0.mk (blk_below (g:=gb101) (o:=.cells #[.string a1_0,.int .i64 a1_1] 57 (0,0)) zh hb);replace HB:=Aside0.mk (below_step zc hb);clear hb ho5));try go_wp2_with (first|((with_reducible refine gate_dst (N:=3) rfl ?_);refine box_event ?hg (N:=3) ?hd (cs:=#[.string a1_0,.int .i64 a1_1]) (t:=57) ?hr ?_;(case hd=>rfl);(case hg=>rfl);(case hr=>exact zv);intro gb101 hg w3 hbox hb;have n0_:=Aside0.mk (below_step za hb);have n1_:=Aside0.mk (hbox);have n2_:=Aside0.mk ((by rw [hg];exact (below_size za):w.heap.size≤gb101));have n3_:=Aside0.mk ((by rw [hg];exact (below_size za):w.heap.size≤gb101));clear HB;have HB:=n0_;have BK101:=n1_;have GW101:=n2_;have GE101:=n3_;clear n0_ n1_ n2_ n3_;clear hb hbox hg)|((with_reducible refine gate_dst (N:=8) rfl ?_);refine Kd.R_lit k57 _ 57 ?hg (N:=8) ?hd (xs:=([]:List (S57))) (inner:=[]) (ok:=fun _=>True) (okp:=fun _=>True) ?hr ?hp (fun _ hk=>hk) trivial (Below.refl _ _) (Nat.le_refl _) zca ?_;(case hd=>rfl);(case hg=>rfl);(case hr=>exact zv);(case hp=>exact (Reps.none _ _));intro v103 w4 ho5 hb hg_ hnew_;clear hg_ hnew_;(first|rw [←Ny102.out] at ho5|(simp only [Int.reduceToNat] at ho5;rw [←Ny102.out] at ho5));have HO104:=Aside0.mk (Kd.R_lower (Kd.R_newB ho5 (g:=gb101) (o:=.cells #[.string a1_0,.int .i64 a1_1] 57 (0,0)) zh) (below_size zc));replace BK101:=Aside0.mk (blk_below (g:=gb101) (o:=.cells #[.string a1_0,.int .i64 a1_1] 57 (0,0)) zh hb);replace HB:=Aside0.mk (below_step zc hb);clear hb ho5)))
 go_loopg [5,6,7] k (fun kq v5 v6 v7 w'=>∃(x5_1:List (S57)) (x6_1:Bool) (x7_1:Int),v6 = .bool x6_1∧v7 = .int .i64 x7_1∧Aside0 (spec_l27Set.l0 kq l0 x5_1 x6_1 x7_1 a1_0 a1_1=some r)∧Aside0 (kq≤k)∧Aside0 (Kd.R k57 57 w' w.heap.size (fun k_=>k_≠gb101) v5 x5_1)∧Aside0 (w'.heap[gb101]?=some (.cells #[.string a1_0,.int .i64 a1_1] 57 (0,0)))∧Aside0 (Below w.heap.size w w'))
 case atStart=>exact ⟨(y102),(false),(0),zi,zi,H',⟨Nat.le_refl _⟩,⟨by (with_reducible repeat (first|apply Kd.R_alloc|apply Kd.R_drewN|apply Kd.R_drew));exact Kd.R_mono HO104.out (fun _ hk=>hk.2)⟩,⟨zh⟩,⟨zc⟩⟩
 case round=>
  clear H'
  try clear p2
  try clear c5
  obtain ⟨x5_1,x6_1,x7_1,rfl,rfl,HA,HK1,HO_5,BK101,HB⟩:=hrel
  cases gk with
  | zero=>exact absurd HA.out (by simp [spec_l27Set.l0])
  | succ k1=>
   have H:=HA.out
   clear HA
   simp only [spec_l27Set.l0] at H
   by_cases c6:x7_1<(l0.length:Int)
   ·rw [if_pos c6] at H
    have c6b0:decide (x7_1<(l0.length:Int))=true:=decide_eq_true c6
    clear c6
    have HC7:=Aside0.mk H
    clear H
    go_upto_region 6 with (fail)
    repeat (go_quiet (fail);go_upto_region 6 with (fail))
    go_cut [26] (fun v26 wc=>∃(kq:Nat) (x26_6:Bool),v26 = .bool x26_6∧Aside0 (spec_l27Set.j1 kq l0 x5_1 x6_1 x7_1 x26_6 a1_0 a1_1=some r)∧Aside0 (kq≤k1)∧Aside0 (Kd.R k57 57 wc w.heap.size (fun k_=>k_≠gb101) u5 x5_1)∧Aside0 (wc.heap[gb101]?=some (.cells #[.string a1_0,.int .i64 a1_1] 57 (0,0)))∧Aside0 (Below w.heap.size w wc))
    case first=>
     have H:=HC7.out
     clear HC7
     by_cases c8:x6_1=true
     ·subst c8
      have H1:(spec_l27Set.j1 k1 l0 x5_1 true x7_1 false a1_0 a1_1)=some r:=by rw [if_pos rfl] at H;exact H
      clear H
      have H:=H1
      clear H1
      have H':=Aside0.mk H
      clear H
      go_wp2
      repeat (go_quiet (fail);try go_wp2)
      go_meet
      case rel=>exact ⟨_,(false),zi,H',⟨by have:=HK1.out;first|omega|exact Nat.le_refl _⟩,⟨zq⟩,⟨zh⟩,⟨zc⟩⟩
     ·replace c8:=Bool.eq_false_iff.mpr c8
      subst c8
      have H1:(if 0≤x7_1 then (spec_l27Set.j1 k1 l0 x5_1 false x7_1 (!(Op.bytesLess (((rd_T57 l0 x7_1).f0).toList) a1_0.toList)) a1_0 a1_1) else (none))=some r:=by rw [if_neg (show ¬ (false=true) by decide)] at H;exact H
      clear H
      have H:=H1
      clear H1
      by_cases c9:0≤x7_1
      ·rw [if_pos c9] at H
       have c9b0:decide (0≤x7_1)=true:=decide_eq_true c9
       clear c9
       (first|rw [c9b0]|(simp only [i64_w,i32_w];rw [c9b0])|skip)
       have H':=Aside0.mk H
       clear H
       have p108:0≤(x7_1:Int):=of_decide_eq_true zb
       have q108:x7_1<(l0.length:Int):=of_decide_eq_true zb
       obtain ⟨ad108,e108,hx108_0,hx108_1⟩:=at_T57 HR0.out x7_1 p108 q108
       cases e108
       replace hx108_0:=(HB.out.cell (World.block_lt_of_cell? w _ hx108_0)).trans hx108_0
       replace hx108_1:=(HB.out.cell (World.block_lt_of_cell? w _ hx108_1)).trans hx108_1
       replace p108:=eq_true p108
       replace q108:=eq_true q108
       have hcz10_0:wr.cell? ⟨gb101,0,none⟩=some (.string a1_0):=(blk_cell BK101.out 0).trans rfl
       have hcz10_1:wr.cell? ⟨gb101,1,none⟩=some (.int .i64 a1_1):=(blk_cell BK101.out 1).trans rfl
       have hfz10_0:=blk_frozen BK101.out 0
       have hfz10_1:=blk_frozen BK101.out 1
       go_wp2
       repeat (go_quiet (fail);try go_wp2)
       go_meet
       case rel=>exact ⟨_,(!(Op.bytesLess (((rd_T57 l0 x7_1).f0).toList) a1_0.toList)),zi,H',⟨by have:=HK1.out;first|omega|exact Nat.le_refl _⟩,⟨zq⟩,⟨zh⟩,⟨zc⟩⟩
      ·rw [if_neg c9] at H
       exact absurd H zca
    case rest=>
     clear HC7
     try clear p1
     try clear q1
     try clear hx1
     try clear p2
     try clear c5
     try clear c6
     try clear c6b0
     try clear c8
     try clear c9
     try clear c9b0
     try clear p10
     try clear q10
     try clear hx10
     try clear hcz10_0
     try clear hcz10_1
     try clear hfz10_0
     try clear hfz10_1
     try clear hx108_0
     try clear hx108_1
     try clear p108
     try clear p2
     try clear q108
     obtain ⟨kq,x26_6,rfl,HA,HJ6,HO_5,BK101,HB⟩:=hcut
     cases kq with
     | zero=>exact absurd HA.out (by simp [spec_l27Set.j1])
     | succ kj6=>
      have H:=HA.out
      clear HA
      simp only [spec_l27Set.j1] at H
      by_cases c11:x26_6=true
      ·subst c11
       have H1:(if x5_1.length<5864062014805 then ((some (x5_1++[(⟨a1_0,a1_1⟩:S57)]:List (S57))).bind fun y109=>(if 0≤x7_1 then (if x7_1<(l0.length:Int) then (if ((rd_T57 l0 x7_1).f0).toList=a1_0.toList then (spec_l27Set.l0 kj6 l0 y109 true (wrap64 (x7_1+1)) a1_0 a1_1) else (if y109.length<5864062014805 then (spec_l27Set.l0 kj6 l0 (y109++[(⟨(rd_T57 l0 x7_1).f0,(rd_T57 l0 x7_1).f1⟩:S57)]) true (wrap64 (x7_1+1)) a1_0 a1_1) else (none))) else (none)) else (none))) else (none))=some r:=by rw [if_pos rfl] at H;exact H
       clear H
       have H:=H1
       clear H1
       by_cases c12:x5_1.length<5864062014805
       ·rw [if_pos c12] at H
        have LMc12:=Aside0.mk c12
        clear c12
        obtain ⟨y109,hy109⟩:∃y_:List (S57),y_=(x5_1++[(⟨a1_0,a1_1⟩:S57)]):=⟨_,rfl⟩
        replace H:(if 0≤x7_1 then (if x7_1<(l0.length:Int) then (if ((rd_T57 l0 x7_1).f0).toList=a1_0.toList then (spec_l27Set.l0 kj6 l0 y109 true (wrap64 (x7_1+1)) a1_0 a1_1) else (if y109.length<5864062014805 then (spec_l27Set.l0 kj6 l0 (y109++[(⟨(rd_T57 l0 x7_1).f0,(rd_T57 l0 x7_1).f1⟩:S57)]) true (wrap64 (x7_1+1)) a1_0 a1_1) else (none))) else (none)) else (none))=some r:=by first|(rw [hy109];with_reducible exact H)|(have H2_:=(Option.bind_some _ _).symm.trans H;rw [hy109];with_reducible exact H2_)|(have H2_:=(Option.bind_some _ _).symm.trans H;with_reducible exact H2_)|with_reducible exact H|(rw [hy109];exact H)|exact H
        have Ny109:=Aside0.mk hy109
        clear hy109
        by_cases c13:0≤x7_1
        ·rw [if_pos c13] at H
         have c13b0:decide (0≤x7_1)=true:=decide_eq_true c13
         clear c13
         by_cases c14:x7_1<(l0.length:Int)
         ·rw [if_pos c14] at H
          have c14b0:decide (x7_1<(l0.length:Int))=true:=decide_eq_true c14
          clear c14
          by_cases c15:((rd_T57 l0 x7_1).f0).toList=a1_0.toList
          ·rw [if_pos c15] at H
           have c15b0:(((rd_T57 l0 x7_1).f0).toList == a1_0.toList)=true:=beq_iff_eq.mpr c15
           have c15b1:(((rd_T57 l0 x7_1).f0).toList != a1_0.toList)=false:=bne_eq_false_iff_eq.mpr c15
           clear c15
           have H':=Aside0.mk H
           clear H
           have hcz16_0:wc.cell? ⟨gb101,0,none⟩=some (.string a1_0):=(blk_cell BK101.out 0).trans rfl
           have hcz16_1:wc.cell? ⟨gb101,1,none⟩=some (.int .i64 a1_1):=(blk_cell BK101.out 1).trans rfl
           have hfz16_0:=blk_frozen BK101.out 0
           have hfz16_1:=blk_frozen BK101.out 1
           go_wp2_with (first|((with_reducible refine gate_builtin (b:=.append) (xs:=#[.tmp 27,.tmp 29]) rfl ?_);at_builtin;refine Kd.R_append k57 (w0:=w) w.heap.size rfl (.tmp 27) (.tmp 29) 26 57 (.agg #[(.string ⟨#[]⟩),(.int .i64 0)]) 24 rfl Tryd.underlying26 info57 rfl zbp zbn u5 x5_1 (⟨a1_0,a1_1⟩:S57) [.string a1_0,.int .i64 a1_1] (fun k_=>k_≠gb101) (fun _=>False) rfl rfl ?aP (fun _ hk=>hk.elim) ?aF ?aO ?aB ?aS ?aL ?_;(case aP=>exact zcy);(case aB=>exact zc);(case aF=>exact (fun k_ hk=>Kd.freshB (g:=gb101) (o:=.cells #[.string a1_0,.int .i64 a1_1] 57 (0,0)) zh k_ hk));(case aO=>exact zq);(case aS=>exact (below_size zc));(case aL=>have:=LMc12.out;omega);intro v110 w17 ho hb hg hat;rw [←Ny109.out] at ho;replace BK101:=Aside0.mk (blk_grown (g:=gb101) (o:=.cells #[.string a1_0,.int .i64 a1_1] 57 (0,0)) zh hg (Kd.R_away HO_5.out (fun _ hk=>hk)));replace HB:=Aside0.mk (hb);have HO111:=Aside0.mk (ho);clear HO_5;clear ho hb hg hat;have p112:0≤(x7_1:Int):=of_decide_eq_true zb;have q112:x7_1<(l0.length:Int):=of_decide_eq_true zb;obtain ⟨ad112,e112,hx112_0,hx112_1⟩:=at_T57 HR0.out x7_1 p112 q112;cases e112;replace hx112_0:=(HB.out.cell (World.block_lt_of_cell? w _ hx112_0)).trans hx112_0;replace hx112_1:=(HB.out.cell (World.block_lt_of_cell? w _ hx112_1)).trans hx112_1;replace p112:=eq_true p112;replace q112:=eq_true q112;have hcz18_0:w17.cell? ⟨gb101,0,none⟩=some (.string a1_0):=(blk_cell BK101.out 0).trans rfl;have hcz18_1:w17.cell? ⟨gb101,1,none⟩=some (.int .i64 a1_1):=(blk_cell BK101.out 1).trans rfl;have hfz18_0:=blk_frozen BK101.out 0;have hfz18_1:=blk_frozen BK101.out 1))
           repeat (go_quiet (first|((with_reducible refine gate_builtin (b:=.append) (xs:=#[.tmp 27,.tmp 29]) rfl ?_);at_builtin;refine Kd.R_append k57 (w0:=w) w.heap.size rfl (.tmp 27) (.tmp 29) 26 57 (.agg #[(.string ⟨#[]⟩),(.int .i64 0)]) 24 rfl Tryd.underlying26 info57 rfl zbp zbn u5 x5_1 (⟨a1_0,a1_1⟩:S57) [.string a1_0,.int .i64 a1_1] (fun k_=>k_≠gb101) (fun _=>False) rfl rfl ?aP (fun _ hk=>hk.elim) ?aF ?aO ?aB ?aS ?aL ?_;(case aP=>exact zcy);(case aB=>exact zc);(case aF=>exact (fun k_ hk=>Kd.freshB (g:=gb101) (o:=.cells #[.string a1_0,.int .i64 a1_1] 57 (0,0)) zh k_ hk));(case aO=>exact zq);(case aS=>exact (below_size zc));(case aL=>have:=LMc12.out;omega);intro v110 w17 ho hb hg hat;rw [←Ny109.out] at ho;replace BK101:=Aside0.mk (blk_grown (g:=gb101) (o:=.cells #[.string a1_0,.int .i64 a1_1] 57 (0,0)) zh hg (Kd.R_away HO_5.out (fun _ hk=>hk)));replace HB:=Aside0.mk (hb);have HO111:=Aside0.mk (ho);clear HO_5;clear ho hb hg hat;have p112:0≤(x7_1:Int):=of_decide_eq_true zb;have q112:x7_1<(l0.length:Int):=of_decide_eq_true zb;obtain ⟨ad112,e112,hx112_0,hx112_1⟩:=at_T57 HR0.out x7_1 p112 q112;cases e112;replace hx112_0:=(HB.out.cell (World.block_lt_of_cell? w _ hx112_0)).trans hx112_0;replace hx112_1:=(HB.out.cell (World.block_lt_of_cell? w _ hx112_1)).trans hx112_1;replace p112:=eq_true p112;replace q112:=eq_true q112;have hcz18_0:w17.cell? ⟨gb101,0,none⟩=some (.string a1_0):=(blk_cell BK101.out 0).trans rfl;have hcz18_1:w17.cell? ⟨gb101,1,none⟩=some (.int .i64 a1_1):=(blk_cell BK101.out 1).trans rfl;have hfz18_0:=blk_frozen BK101.out 0;have hfz18_1:=blk_frozen BK101.out 1));try go_wp2_with (first|((with_reducible refine gate_builtin (b:=.append) (xs:=#[.tmp 27,.tmp 29]) rfl ?_);at_builtin;refine Kd.R_append k57 (w0:=w) w.heap.size rfl (.tmp 27) (.tmp 29) 26 57 (.agg #[(.string ⟨#[]⟩),(.int .i64 0)]) 24 rfl Tryd.underlying26 info57 rfl zbp zbn u5 x5_1 (⟨a1_0,a1_1⟩:S57) [.string a1_0,.int .i64 a1_1] (fun k_=>k_≠gb101) (fun _=>False) rfl rfl ?aP (fun _ hk=>hk.elim) ?aF ?aO ?aB ?aS ?aL ?_;(case aP=>exact zcy);(case aB=>exact zc);(case aF=>exact (fun k_ hk=>Kd.freshB (g:=gb101) (o:=.cells #[.string a1_0,.int .i64 a1_1] 57 (0,0)) zh k_ hk));(case aO=>exact zq);(case aS=>exact (below_size zc));(case aL=>have:=LMc12.out;omega);intro v110 w17 ho hb hg hat;rw [←Ny109.out] at ho;replace BK101:=Aside0.mk (blk_grown (g:=gb101) (o:=.cells #[.string a1_0,.int .i64 a1_1] 57 (0,0)) zh hg (Kd.R_away HO_5.out (fun _ hk=>hk)));replace HB:=Aside0.mk (hb);have HO111:=Aside0.mk (ho);clear HO_5;clear ho hb hg hat;have p112:0≤(x7_1:Int):=of_decide_eq_true zb;have q112:x7_1<(l0.length:Int):=of_decide_eq_true zb;obtain ⟨ad112,e112,hx112_0,hx112_1⟩:=at_T57 HR0.out x7_1 p112 q112;cases e112;replace hx112_0:=(HB.out.cell (World.block_lt_of_cell? w _ hx112_0)).trans hx112_0;replace hx112_1:=(HB.out.cell (World.block_lt_of_cell? w _ hx112_1)).trans hx112_1;replace p112:=eq_true p112;replace q112:=eq_true q112;have hcz18_0:w17.cell? ⟨gb101,0,none⟩=some (.string a1_0):=(blk_cell BK101.out 0).trans rfl;have hcz18_1:w17.cell? ⟨gb101,1,none⟩=some (.int .i64 a1_1):=(blk_cell BK101.out 1).trans rfl;have hfz18_0:=blk_frozen BK101.out 0;have hfz18_1:=blk_frozen BK101.out 1)))
           go_roundg kj6
           case measure=>have:=HK1.out;have:=HJ6.out;omega
           case rel=>exact ⟨(y109),(true),(wrap64 (x7_1+1)),zi,zi,H',⟨by have:=HK1.out;have:=HJ6.out;omega⟩,⟨zcw⟩,⟨zh⟩,⟨zc⟩⟩
          ·rw [if_neg c15] at H
           have c15b0:(((rd_T57 l0 x7_1).f0).toList == a1_0.toList)=false:=beq_eq_false_iff_ne.mpr c15
           have c15b1:(((rd_T57 l0 x7_1).f0).toList != a1_0.toList)=true:=bne_iff_ne.mpr c15
           by_cases c19:y109.length<5864062014805
           ·rw [if_pos c19] at H
            have LMc19:=Aside0.mk c19
            clear c19
            obtain ⟨y114,hy114⟩:∃y_:List (S57),y_=(y109++[(⟨(rd_T57 l0 x7_1).f0,(rd_T57 l0 x7_1).f1⟩:S57)]):=⟨_,rfl⟩
            replace H:(spec_l27Set.l0 kj6 l0 y114 true (wrap64 (x7_1+1)) a1_0 a1_1)=some r:=by first|(rw [hy114];with_reducible exact H)|(have H2_:=(Option.bind_some _ _).symm.trans H;rw [hy114];with_reducible exact H2_)|(have H2_:=(Option.bind_some _ _).symm.trans H;with_reducible exact H2_)|with_reducible exact H|(rw [hy114];exact H)|exact H
            have Ny114:=Aside0.mk hy114
            clear hy114
            have H':=Aside0.mk H
            clear H
            have hcz20_0:wc.cell? ⟨gb101,0,none⟩=some (.string a1_0):=(blk_cell BK101.out 0).trans rfl
            have hcz20_1:wc.cell? ⟨gb101,1,none⟩=some (.int .i64 a1_1):=(blk_cell BK101.out 1).trans rfl
            have hfz20_0:=blk_frozen BK101.out 0
            have hfz20_1:=blk_frozen BK101.out 1
            go_wp2_with (first|((with_reducible refine gate_builtin (b:=.append) (xs:=#[.tmp 27,.tmp 29]) rfl ?_);at_builtin;refine Kd.R_append k57 (w0:=w) w.heap.size rfl (.tmp 27) (.tmp 29) 26 57 (.agg #[(.string ⟨#[]⟩),(.int .i64 0)]) 24 rfl Tryd.underlying26 info57 rfl zbp zbn u5 x5_1 (⟨a1_0,a1_1⟩:S57) [.string a1_0,.int .i64 a1_1] (fun k_=>k_≠gb101) (fun _=>False) rfl rfl ?aP (fun _ hk=>hk.elim) ?aF ?aO ?aB ?aS ?aL ?_;(case aP=>exact zcy);(case aB=>exact zc);(case aF=>exact (fun k_ hk=>Kd.freshB (g:=gb101) (o:=.cells #[.string a1_0,.int .i64 a1_1] 57 (0,0)) zh k_ hk));(case aO=>exact zq);(case aS=>exact (below_size zc));(case aL=>have:=LMc12.out;omega);intro v110 w21 ho hb hg hat;rw [←Ny109.out] at ho;replace BK101:=Aside0.mk (blk_grown (g:=gb101) (o:=.cells #[.string a1_0,.int .i64 a1_1] 57 (0,0)) zh hg (Kd.R_away HO_5.out (fun _ hk=>hk)));replace HB:=Aside0.mk (hb);have HO111:=Aside0.mk (ho);clear HO_5;clear ho hb hg hat;have p112:0≤(x7_1:Int):=of_decide_eq_true zb;have q112:x7_1<(l0.length:Int):=of_decide_eq_true zb;obtain ⟨ad112,e112,hx112_0,hx112_1⟩:=at_T57 HR0.out x7_1 p112 q112;cases e112;replace hx112_0:=(HB.out.cell (World.block_lt_of_cell? w _ hx112_0)).trans hx112_0;replace hx112_1:=(HB.out.cell (World.block_lt_of_cell? w _ hx112_1)).trans hx112_1;replace p112:=eq_true p112;replace q112:=eq_true q112;have hcz22_0:w21.cell? ⟨gb101,0,none⟩=some (.string a1_0):=(blk_cell BK101.out 0).trans rfl;have hcz22_1:w21.cell? ⟨gb101,1,none⟩=some (.int .i64 a1_1):=(blk_cell BK101.out 1).trans rfl;have hfz22_0:=blk_frozen BK101.out 0;have hfz22_1:=blk_frozen BK101.out 1;have p113:0≤(x7_1:Int):=of_decide_eq_true zb;have q113:x7_1<(l0.length:Int):=of_decide_eq_true zb;obtain ⟨ad113,e113,hx113_0,hx113_1⟩:=at_T57 HR0.out x7_1 p113 q113;obtain rfl:ad112=ad113:=(by injection e113);replace hx113_0:=(HB.out.cell (World.block_lt_of_cell? w _ hx113_0)).trans hx113_0;replace hx113_1:=(HB.out.cell (World.block_lt_of_cell? w _ hx113_1)).trans hx113_1;replace p113:=eq_true p113;replace q113:=eq_true q113)|((with_reducible refine gate_builtin (b:=.append) (xs:=#[.tmp 39,.tmp 44]) rfl ?_);at_builtin;refine Kd.R_append k57 (w0:=w) w.heap.size rfl (.tmp 39) (.tmp 44) 26 57 (.agg #[(.string ⟨#[]⟩),(.int .i64 0)]) 24 rfl Tryd.underlying26 info57 rfl zbp zbn v110 y109 (⟨(rd_T57 l0 x7_1).f0,(rd_T57 l0 x7_1).f1⟩:S57) [.string ((rd_T57 l0 x7_1).f0),.int .i64 ((rd_T57 l0 x7_1).f1)] (fun k_=>k_≠gb101) (fun _=>False) rfl rfl ?aP (fun _ hk=>hk.elim) ?aF ?aO ?aB ?aS ?aL ?_;(case aP=>exact zct);(case aB=>exact zc);(case aF=>exact (fun k_ hk=>Kd.freshB (g:=gb101) (o:=.cells #[.string a1_0,.int .i64 a1_1] 57 (0,0)) zh k_ hk));(case aO=>exact zcw);(case aS=>exact (below_size zc));(case aL=>have:=LMc19.out;omega);intro v115 w23 ho hb hg hat;rw [←Ny114.out] at ho;replace BK101:=Aside0.mk (blk_grown (g:=gb101) (o:=.cells #[.string a1_0,.int .i64 a1_1] 57 (0,0)) zh hg (Kd.R_away HO111.out (fun _ hk=>hk)));replace HB:=Aside0.mk (hb);have HO116:=Aside0.mk (ho);clear HO111;clear ho hb hg hat))
            repeat (go_quiet (first|((with_reducible refine gate_builtin (b:=.append) (xs:=#[.tmp 27,.tmp 29]) rfl ?_);at_builtin;refine Kd.R_append k57 (w0:=w) w.heap.size rfl (.tmp 27) (.tmp 29) 26 57 (.agg #[(.string ⟨#[]⟩),(.int .i64 0)]) 24 rfl Tryd.underlying26 info57 rfl zbp zbn u5 x5_1 (⟨a1_0,a1_1⟩:S57) [.string a1_0,.int .i64 a1_1] (fun k_=>k_≠gb101) (fun _=>False) rfl rfl ?aP (fun _ hk=>hk.elim) ?aF ?aO ?aB ?aS ?aL ?_;(case aP=>exact zcy);(case aB=>exact zc);(case aF=>exact (fun k_ hk=>Kd.freshB (g:=gb101) (o:=.cells #[.string a1_0,.int .i64 a1_1] 57 (0,0)) zh k_ hk));(case aO=>exact zq);(case aS=>exact (below_size zc));(case aL=>have:=LMc12.out;omega);intro v110 w21 ho hb hg hat;rw [←Ny109.out] at ho;replace BK101:=Aside0.mk (blk_grown (g:=gb101) (o:=.cells #[.string a1_0,.int .i64 a1_1] 57 (0,0)) zh hg (Kd.R_away HO_5.out (fun _ hk=>hk)));replace HB:=Aside0.mk (hb);have HO111:=Aside0.mk (ho);clear HO_5;clear ho hb hg hat;have p112:0≤(x7_1:Int):=of_decide_eq_true zb;have q112:x7_1<(l0.length:Int):=of_decide_eq_true zb;obtain ⟨ad112,e112,hx112_0,hx112_1⟩:=at_T57 HR0.out x7_1 p112 q112;cases e112;replace hx112_0:=(HB.out.cell (World.block_lt_of_cell? w _ hx112_0)).trans hx112_0;replace hx112_1:=(HB.out.cell (World.block_lt_of_cell? w _ hx112_1)).trans hx112_1;replace p112:=eq_true p112;replace q112:=eq_true q112;have hcz22_0:w21.cell? ⟨gb101,0,none⟩=some (.string a1_0):=(blk_cell BK101.out 0).trans rfl;have hcz22_1:w21.cell? ⟨gb101,1,none⟩=some (.int .i64 a1_1):=(blk_cell BK101.out 1).trans rfl;have hfz22_0:=blk_frozen BK101.out 0;have hfz22_1:=blk_frozen BK101.out 1;have p113:0≤(x7_1:Int):=of_decide_eq_true zb;have q113:x7_1<(l0.length:Int):=of_decide_eq_true zb;obtain ⟨ad113,e113,hx113_0,hx113_1⟩:=at_T57 HR0.out x7_1 p113 q113;obtain rfl:ad112=ad113:=(by injection e113);replace hx113_0:=(HB.out.cell (World.block_lt_of_cell? w _ hx113_0)).trans hx113_0;replace hx113_1:=(HB.out.cell (World.block_lt_of_cell? w _ hx113_1)).trans hx113_1;replace p113:=eq_true p113;replace q113:=eq_true q113)|((with_reducible refine gate_builtin (b:=.append) (xs:=#[.tmp 39,.tmp 44]) rfl ?_);at_builtin;refine Kd.R_append k57 (w0:=w) w.heap.size rfl (.tmp 39) (.tmp 44) 26 57 (.agg #[(.string ⟨#[]⟩),(.int .i64 0)]) 24 rfl Tryd.underlying26 info57 rfl zbp zbn v110 y109 (⟨(rd_T57 l0 x7_1).f0,(rd_T57 l0 x7_1).f1⟩:S57) [.string ((rd_T57 l0 x7_1).f0),.int .i64 ((rd_T57 l0 x7_1).f1)] (fun k_=>k_≠gb101) (fun _=>False) rfl rfl ?aP (fun _ hk=>hk.elim) ?aF ?aO ?aB ?aS ?aL ?_;(case aP=>exact zct);(case aB=>exact zc);(case aF=>exact (fun k_ hk=>Kd.freshB (g:=gb101) (o:=.cells #[.string a1_0,.int .i64 a1_1] 57 (0,0)) zh k_ hk));(case aO=>exact zcw);(case aS=>exact (below_size zc));(case aL=>have:=LMc19.out;omega);intro v115 w23 ho hb hg hat;rw [←Ny114.out] at ho;replace BK101:=Aside0.mk (blk_grown (g:=gb101) (o:=.cells #[.string a1_0,.int .i64 a1_1] 57 (0,0)) zh hg (Kd.R_away HO111.out (fun _ hk=>hk)));replace HB:=Aside0.mk (hb);have HO116:=Aside0.mk (ho);clear HO111;clear ho hb hg hat));try go_wp2_with (first|((with_reducible refine gate_builtin (b:=.append) (xs:=#[.tmp 27,.tmp 29]) rfl ?_);at_builtin;refine Kd.R_append k57 (w0:=w) w.heap.size rfl (.tmp 27) (.tmp 29) 26 57 (.agg #[(.string ⟨#[]⟩),(.int .i64 0)]) 24 rfl Tryd.underlying26 info57 rfl zbp zbn u5 x5_1 (⟨a1_0,a1_1⟩:S57) [.string a1_0,.int .i64 a1_1] (fun k_=>k_≠gb101) (fun _=>False) rfl rfl ?aP (fun _ hk=>hk.elim) ?aF ?aO ?aB ?aS ?aL ?_;(case aP=>exact zcy);(case aB=>exact zc);(case aF=>exact (fun k_ hk=>Kd.freshB (g:=gb101) (o:=.cells #[.string a1_0,.int .i64 a1_1] 57 (0,0)) zh k_ hk));(case aO=>exact zq);(case aS=>exact (below_size zc));(case aL=>have:=LMc12.out;omega);intro v110 w21 ho hb hg hat;rw [←Ny109.out] at ho;replace BK101:=Aside0.mk (blk_grown (g:=gb101) (o:=.cells #[.string a1_0,.int .i64 a1_1] 57 (0,0)) zh hg (Kd.R_away HO_5.out (fun _ hk=>hk)));replace HB:=Aside0.mk (hb);have HO111:=Aside0.mk (ho);clear HO_5;clear ho hb hg hat;have p112:0≤(x7_1:Int):=of_decide_eq_true zb;have q112:x7_1<(l0.length:Int):=of_decide_eq_true zb;obtain ⟨ad112,e112,hx112_0,hx112_1⟩:=at_T57 HR0.out x7_1 p112 q112;cases e112;replace hx112_0:=(HB.out.cell (World.block_lt_of_cell? w _ hx112_0)).trans hx112_0;replace hx112_1:=(HB.out.cell (World.block_lt_of_cell? w _ hx112_1)).trans hx112_1;replace p112:=eq_true p112;replace q112:=eq_true q112;have hcz22_0:w21.cell? ⟨gb101,0,none⟩=some (.string a1_0):=(blk_cell BK101.out 0).trans rfl;have hcz22_1:w21.cell? ⟨gb101,1,none⟩=some (.int .i64 a1_1):=(blk_cell BK101.out 1).trans rfl;have hfz22_0:=blk_frozen BK101.out 0;have hfz22_1:=blk_frozen BK101.out 1;have p113:0≤(x7_1:Int):=of_decide_eq_true zb;have q113:x7_1<(l0.length:Int):=of_decide_eq_true zb;obtain ⟨ad113,e113,hx113_0,hx113_1⟩:=at_T57 HR0.out x7_1 p113 q113;obtain rfl:ad112=ad113:=(by injection e113);replace hx113_0:=(HB.out.cell (World.block_lt_of_cell? w _ hx113_0)).trans hx113_0;replace hx113_1:=(HB.out.cell (World.block_lt_of_cell? w _ hx113_1)).trans hx113_1;replace p113:=eq_true p113;replace q113:=eq_true q113)|((with_reducible refine gate_builtin (b:=.append) (xs:=#[.tmp 39,.tmp 44]) rfl ?_);at_builtin;refine Kd.R_append k57 (w0:=w) w.heap.size rfl (.tmp 39) (.tmp 44) 26 57 (.agg #[(.string ⟨#[]⟩),(.int .i64 0)]) 24 rfl Tryd.underlying26 info57 rfl zbp zbn v110 y109 (⟨(rd_T57 l0 x7_1).f0,(rd_T57 l0 x7_1).f1⟩:S57) [.string ((rd_T57 l0 x7_1).f0),.int .i64 ((rd_T57 l0 x7_1).f1)] (fun k_=>k_≠gb101) (fun _=>False) rfl rfl ?aP (fun _ hk=>hk.elim) ?aF ?aO ?aB ?aS ?aL ?_;(case aP=>exact zct);(case aB=>exact zc);(case aF=>exact (fun k_ hk=>Kd.freshB (g:=gb101) (o:=.cells #[.string a1_0,.int .i64 a1_1] 57 (0,0)) zh k_ hk));(case aO=>exact zcw);(case aS=>exact (below_size zc));(case aL=>have:=LMc19.out;omega);intro v115 w23 ho hb hg hat;rw [←Ny114.out] at ho;replace BK101:=Aside0.mk (blk_grown (g:=gb101) (o:=.cells #[.string a1_0,.int .i64 a1_1] 57 (0,0)) zh hg (Kd.R_away HO111.out (fun _ hk=>hk)));replace HB:=Aside0.mk (hb);have HO116:=Aside0.mk (ho);clear HO111;clear ho hb hg hat)))
            go_roundg kj6
            case measure=>have:=HK1.out;have:=HJ6.out;omega
            case rel=>exact ⟨(y114),(true),(wrap64 (x7_1+1)),zi,zi,H',⟨by have:=HK1.out;have:=HJ6.out;omega⟩,⟨zcv⟩,⟨zh⟩,⟨zc⟩⟩
           ·rw [if_neg c19] at H
            exact absurd H zca
         ·rw [if_neg c14] at H
          exact absurd H zca
        ·rw [if_neg c13] at H
         exact absurd H zca
       ·rw [if_neg c12] at H
        exact absurd H zca
      ·replace c11:=Bool.eq_false_iff.mpr c11
       subst c11
       have H1:(if 0≤x7_1 then (if x7_1<(l0.length:Int) then (if ((rd_T57 l0 x7_1).f0).toList=a1_0.toList then (spec_l27Set.l0 kj6 l0 x5_1 x6_1 (wrap64 (x7_1+1)) a1_0 a1_1) else (if x5_1.length<5864062014805 then (spec_l27Set.l0 kj6 l0 (x5_1++[(⟨(rd_T57 l0 x7_1).f0,(rd_T57 l0 x7_1).f1⟩:S57)]) x6_1 (wrap64 (x7_1+1)) a1_0 a1_1) else (none))) else (none)) else (none))=some r:=by rw [if_neg (show ¬ (false=true) by decide)] at H;exact H
       clear H
       have H:=H1
       clear H1
       by_cases c24:0≤x7_1
       ·rw [if_pos c24] at H
        have c24b0:decide (0≤x7_1)=true:=decide_eq_true c24
        clear c24
        by_cases c25:x7_1<(l0.length:Int)
        ·rw [if_pos c25] at H
         have c25b0:decide (x7_1<(l0.length:Int))=true:=decide_eq_true c25
         clear c25
         by_cases c26:((rd_T57 l0 x7_1).f0).toList=a1_0.toList
         ·rw [if_pos c26] at H
          have c26b0:(((rd_T57 l0 x7_1).f0).toList == a1_0.toList)=true:=beq_iff_eq.mpr c26
          have c26b1:(((rd_T57 l0 x7_1).f0).toList != a1_0.toList)=false:=bne_eq_false_iff_eq.mpr c26
          clear c26
          have H':=Aside0.mk H
          clear H
          have p117:0≤(x7_1:Int):=of_decide_eq_true zb
          have q117:x7_1<(l0.length:Int):=of_decide_eq_true zb
          obtain ⟨ad117,e117,hx117_0,hx117_1⟩:=at_T57 HR0.out x7_1 p117 q117
          cases e117
          replace hx117_0:=(HB.out.cell (World.block_lt_of_cell? w _ hx117_0)).trans hx117_0
          replace hx117_1:=(HB.out.cell (World.block_lt_of_cell? w _ hx117_1)).trans hx117_1
          replace p117:=eq_true p117
          replace q117:=eq_true q117
          have hcz27_0:wc.cell? ⟨gb101,0,none⟩=some (.string a1_0):=(blk_cell BK101.out 0).trans rfl
          have hcz27_1:wc.cell? ⟨gb101,1,none⟩=some (.int .i64 a1_1):=(blk_cell BK101.out 1).trans rfl
          have hfz27_0:=blk_frozen BK101.out 0
          have hfz27_1:=blk_frozen BK101.out 1
          go_wp2
          repeat (go_quiet (fail);try go_wp2)
          go_roundg kj6
          case measure=>have:=HK1.out;have:=HJ6.out;omega
          case rel=>exact ⟨(x5_1),(x6_1),(wrap64 (x7_1+1)),zi,zi,H',⟨by have:=HK1.out;have:=HJ6.out;omega⟩,⟨zq⟩,⟨zh⟩,⟨zc⟩⟩
         ·rw [if_neg c26] at H
          have c26b0:(((rd_T57 l0 x7_1).f0).toList == a1_0.toList)=false:=beq_eq_false_iff_ne.mpr c26
          have c26b1:(((rd_T57 l0 x7_1).f0).toList != a1_0.toList)=true:=bne_iff_ne.mpr c26
          by_cases c28:x5_1.length<5864062014805
          ·rw [if_pos c28] at H
           have LMc28:=Aside0.mk c28
           clear c28
           obtain ⟨y119,hy119⟩:∃y_:List (S57),y_=(x5_1++[(⟨(rd_T57 l0 x7_1).f0,(rd_T57 l0 x7_1).f1⟩:S57)]):=⟨_,rfl⟩
           replace H:(spec_l27Set.l0 kj6 l0 y119 x6_1 (wrap64 (x7_1+1)) a1_0 a1_1)=some r:=by first|(rw [hy119];with_reducible exact H)|(have H2_:=(Option.bind_some _ _).symm.trans H;rw [hy119];with_reducible exact H2_)|(have H2_:=(Option.bind_some _ _).symm.trans H;with_reducible exact H2_)|with_reducible exact H|(rw [hy119];exact H)|exact H
           have Ny119:=Aside0.mk hy119
           clear hy119
           have H':=Aside0.mk H
           clear H
           have p117:0≤(x7_1:Int):=of_decide_eq_true zb
           have q117:x7_1<(l0.length:Int):=of_decide_eq_true zb
           obtain ⟨ad117,e117,hx117_0,hx117_1⟩:=at_T57 HR0.out x7_1 p117 q117
           cases e117
           replace hx117_0:=(HB.out.cell (World.block_lt_of_cell? w _ hx117_0)).trans hx117_0
           replace hx117_1:=(HB.out.cell (World.block_lt_of_cell? w _ hx117_1)).trans hx117_1
           replace p117:=eq_true p117
           replace q117:=eq_true q117
           have hcz29_0:wc.cell? ⟨gb101,0,none⟩=some (.string a1_0):=(blk_cell BK101.out 0).trans rfl
           have hcz29_1:wc.cell? ⟨gb101,1,none⟩=some (.int .i64 a1_1):=(blk_cell BK101.out 1).trans rfl
           have hfz29_0:=blk_frozen BK101.out 0
           have hfz29_1:=blk_frozen BK101.out 1
           have p118:0≤(x7_1:Int):=of_decide_eq_true zb
           have q118:x7_1<(l0.length:Int):=of_decide_eq_true zb
           obtain ⟨ad118,e118,hx118_0,hx118_1⟩:=at_T57 HR0.out x7_1 p118 q118
           obtain rfl:ad117=ad118:=(by injection e118)
           replace hx118_0:=(HB.out.cell (World.block_lt_of_cell? w _ hx118_0)).trans hx118_0
           replace hx118_1:=(HB.out.cell (World.block_lt_of_cell? w _ hx118_1)).trans hx118_1
           replace p118:=eq_true p118
           replace q118:=eq_true q118
           go_wp2_with (first|((with_reducible refine gate_builtin (b:=.append) (xs:=#[.tmp 39,.tmp 44]) rfl ?_);at_builtin;refine Kd.R_append k57 (w0:=w) w.heap.size rfl (.tmp 39) (.tmp 44) 26 57 (.agg #[(.string ⟨#[]⟩),(.int .i64 0)]) 24 rfl Tryd.underlying26 info57 rfl zbp zbn u5 x5_1 (⟨(rd_T57 l0 x7_1).f0,(rd_T57 l0 x7_1).f1⟩:S57) [.string ((rd_T57 l0 x7_1).f0),.int .i64 ((rd_T57 l0 x7_1).f1)] (fun k_=>k_≠gb101) (fun _=>False) rfl rfl ?aP (fun _ hk=>hk.elim) ?aF ?aO ?aB ?aS ?aL ?_;(case aP=>exact zct);(case aB=>exact zc);(case aF=>exact (fun k_ hk=>Kd.freshB (g:=gb101) (o:=.cells #[.string a1_0,.int .i64 a1_1] 57 (0,0)) zh k_ hk));(case aO=>exact zq);(case aS=>exact (below_size zc));(case aL=>have:=LMc28.out;omega);intro v120 w30 ho hb hg hat;rw [←Ny119.out] at ho;replace BK101:=Aside0.mk (blk_grown (g:=gb101) (o:=.cells #[.string a1_0,.int .i64 a1_1] 57 (0,0)) zh hg (Kd.R_away HO_5.out (fun _ hk=>hk)));replace HB:=Aside0.mk (hb);have HO121:=Aside0.mk (ho);clear HO_5;clear ho hb hg hat))
           repeat (go_quiet (first|((with_reducible refine gate_builtin (b:=.append) (xs:=#[.tmp 39,.tmp 44]) rfl ?_);at_builtin;refine Kd.R_append k57 (w0:=w) w.heap.size rfl (.tmp 39) (.tmp 44) 26 57 (.agg #[(.string ⟨#[]⟩),(.int .i64 0)]) 24 rfl Tryd.underlying26 info57 rfl zbp zbn u5 x5_1 (⟨(rd_T57 l0 x7_1).f0,(rd_T57 l0 x7_1).f1⟩:S57) [.string ((rd_T57 l0 x7_1).f0),.int .i64 ((rd_T57 l0 x7_1).f1)] (fun k_=>k_≠gb101) (fun _=>False) rfl rfl ?aP (fun _ hk=>hk.elim) ?aF ?aO ?aB ?aS ?aL ?_;(case aP=>exact zct);(case aB=>exact zc);(case aF=>exact (fun k_ hk=>Kd.freshB (g:=gb101) (o:=.cells #[.string a1_0,.int .i64 a1_1] 57 (0,0)) zh k_ hk));(case aO=>exact zq);(case aS=>exact (below_size zc));(case aL=>have:=LMc28.out;omega);intro v120 w30 ho hb hg hat;rw [←Ny119.out] at ho;replace BK101:=Aside0.mk (blk_grown (g:=gb101) (o:=.cells #[.string a1_0,.int .i64 a1_1] 57 (0,0)) zh hg (Kd.R_away HO_5.out (fun _ hk=>hk)));replace HB:=Aside0.mk (hb);have HO121:=Aside0.mk (ho);clear HO_5;clear ho hb hg hat));try go_wp2_with (first|((with_reducible refine gate_builtin (b:=.append) (xs:=#[.tmp 39,.tmp 44]) rfl ?_);at_builtin;refine Kd.R_append k57 (w0:=w) w.heap.size rfl (.tmp 39) (.tmp 44) 26 57 (.agg #[(.string ⟨#[]⟩),(.int .i64 0)]) 24 rfl Tryd.underlying26 info57 rfl zbp zbn u5 x5_1 (⟨(rd_T57 l0 x7_1).f0,(rd_T57 l0 x7_1).f1⟩:S57) [.string ((rd_T57 l0 x7_1).f0),.int .i64 ((rd_T57 l0 x7_1).f1)] (fun k_=>k_≠gb101) (fun _=>False) rfl rfl ?aP (fun _ hk=>hk.elim) ?aF ?aO ?aB ?aS ?aL ?_;(case aP=>exact zct);(case aB=>exact zc);(case aF=>exact (fun k_ hk=>Kd.freshB (g:=gb101) (o:=.cells #[.string a1_0,.int .i64 a1_1] 57 (0,0)) zh k_ hk));(case aO=>exact zq);(case aS=>exact (below_size zc));(case aL=>have:=LMc28.out;omega);intro v120 w30 ho hb hg hat;rw [←Ny119.out] at ho;replace BK101:=Aside0.mk (blk_grown (g:=gb101) (o:=.cells #[.string a1_0,.int .i64 a1_1] 57 (0,0)) zh hg (Kd.R_away HO_5.out (fun _ hk=>hk)));replace HB:=Aside0.mk (hb);have HO121:=Aside0.mk (ho);clear HO_5;clear ho hb hg hat)))
           go_roundg kj6
           case measure=>have:=HK1.out;have:=HJ6.out;omega
           case rel=>exact ⟨(y119),(x6_1),(wrap64 (x7_1+1)),zi,zi,H',⟨by have:=HK1.out;have:=HJ6.out;omega⟩,⟨by (with_reducible repeat (first|apply Kd.R_alloc|apply Kd.R_drewN|apply Kd.R_drew));exact HO121.out⟩,⟨zh⟩,⟨zc⟩⟩
          ·rw [if_neg c28] at H
           exact absurd H zca
        ·rw [if_neg c25] at H
         exact absurd H zca
       ·rw [if_neg c24] at H
        exact absurd H zca
   ·rw [if_neg c6] at H
    have c6b0:decide (x7_1<(l0.length:Int))=false:=decide_eq_false c6
    clear c6
    by_cases c31:x6_1=true
    ·subst c31
     have H1:(some x5_1)=some r:=by rw [if_pos rfl] at H;exact H
     clear H
     have H:=H1
     clear H1
     obtain rfl:=Option.some.inj H
     go_wp2
     repeat (go_quiet (fail);try go_wp2)
     go_ret
     exact ⟨_,zj,by (with_reducible repeat (first|apply Kd.R_alloc|apply Kd.R_drewN|apply Kd.R_drew));exact Kd.R_mono HO_5.out (fun _ hk=>trivial),zc⟩
    ·replace c31:=Bool.eq_false_iff.mpr c31
     subst c31
     have H1:(if x5_1.length<5864062014805 then (some (x5_1++[(⟨a1_0,a1_1⟩:S57)])) else (none))=some r:=by rw [if_neg (show ¬ (false=true) by decide)] at H;exact H
     clear H
     have H:=H1
     clear H1
     by_cases c32:x5_1.length<5864062014805
     ·rw [if_pos c32] at H
      have LMc32:=Aside0.mk c32
      clear c32
      obtain ⟨y105,hy105⟩:∃y_:List (S57),y_=(x5_1++[(⟨a1_0,a1_1⟩:S57)]):=⟨_,rfl⟩
      replace H:(some y105)=some r:=by first|(rw [hy105];with_reducible exact H)|(have H2_:=(Option.bind_some _ _).symm.trans H;rw [hy105];with_reducible exact H2_)|(have H2_:=(Option.bind_some _ _).symm.trans H;with_reducible exact H2_)|with_reducible exact H|(rw [hy105];exact H)|exact H
      have Ny105:=Aside0.mk hy105
      clear hy105
      obtain rfl:=Option.some.inj H
      have hcz33_0:wr.cell? ⟨gb101,0,none⟩=some (.string a1_0):=(blk_cell BK101.out 0).trans rfl
      have hcz33_1:wr.cell? ⟨gb101,1,none⟩=some (.int .i64 a1_1):=(blk_cell BK101.out 1).trans rfl
      have hfz33_0:=blk_frozen BK101.out 0
      have hfz33_1:=blk_frozen BK101.out 1
      go_wp2_with (first|((with_reducible refine gate_builtin (b:=.append) (xs:=#[.tmp 48,.tmp 50]) rfl ?_);at_builtin;refine Kd.R_append k57 (w0:=w) w.heap.size rfl (.tmp 48) (.tmp 50) 26 57 (.agg #[(.string ⟨#[]⟩),(.int .i64 0)]) 24 rfl Tryd.underlying26 info57 rfl zbp zbn u5 x5_1 (⟨a1_0,a1_1⟩:S57) [.string a1_0,.int .i64 a1_1] (fun k_=>k_≠gb101) (fun _=>False) rfl rfl ?aP (fun _ hk=>hk.elim) ?aF ?aO ?aB ?aS ?aL ?_;(case aP=>exact zcy);(case aB=>exact zc);(case aF=>exact (fun k_ hk=>Kd.freshB (g:=gb101) (o:=.cells #[.string a1_0,.int .i64 a1_1] 57 (0,0)) zh k_ hk));(case aO=>exact zq);(case aS=>exact (below_size zc));(case aL=>have:=LMc32.out;omega);intro v106 w34 ho hb hg hat;rw [←Ny105.out] at ho;replace BK101:=Aside0.mk (blk_grown (g:=gb101) (o:=.cells #[.string a1_0,.int .i64 a1_1] 57 (0,0)) zh hg (Kd.R_away HO_5.out (fun _ hk=>hk)));replace HB:=Aside0.mk (hb);have HO107:=Aside0.mk (ho);clear HO_5;clear ho hb hg hat))
      repeat (go_quiet (first|((with_reducible refine gate_builtin (b:=.append) (xs:=#[.tmp 48,.tmp 50]) rfl ?_);at_builtin;refine Kd.R_append k57 (w0:=w) w.heap.size rfl (.tmp 48) (.tmp 50) 26 57 (.agg #[(.string ⟨#[]⟩),(.int .i64 0)]) 24 rfl Tryd.underlying26 info57 rfl zbp zbn u5 x5_1 (⟨a1_0,a1_1⟩:S57) [.string a1_0,.int .i64 a1_1] (fun k_=>k_≠gb101) (fun _=>False) rfl rfl ?aP (fun _ hk=>hk.elim) ?aF ?aO ?aB ?aS ?aL ?_;(case aP=>exact zcy);(case aB=>exact zc);(case aF=>exact (fun k_ hk=>Kd.freshB (g:=gb101) (o:=.cells #[.string a1_0,.int .i64 a1_1] 57 (0,0)) zh k_ hk));(case aO=>exact zq);(case aS=>exact (below_size zc));(case aL=>have:=LMc32.out;omega);intro v106 w34 ho hb hg hat;rw [←Ny105.out] at ho;replace BK101:=Aside0.mk (blk_grown (g:=gb101) (o:=.cells #[.string a1_0,.int .i64 a1_1] 57 (0,0)) zh hg (Kd.R_away HO_5.out (fun _ hk=>hk)));replace HB:=Aside0.mk (hb);have HO107:=Aside0.mk (ho);clear HO_5;clear ho hb hg hat));try go_wp2_with (first|((with_reducible refine gate_builtin (b:=.append) (xs:=#[.tmp 48,.tmp 50]) rfl ?_);at_builtin;refine Kd.R_append k57 (w0:=w) w.heap.size rfl (.tmp 48) (.tmp 50) 26 57 (.agg #[(.string ⟨#[]⟩),(.int .i64 0)]) 24 rfl Tryd.underlying26 info57 rfl zbp zbn u5 x5_1 (⟨a1_0,a1_1⟩:S57) [.string a1_0,.int .i64 a1_1] (fun k_=>k_≠gb101) (fun _=>False) rfl rfl ?aP (fun _ hk=>hk.elim) ?aF ?aO ?aB ?aS ?aL ?_;(case aP=>exact zcy);(case aB=>exact zc);(case aF=>exact (fun k_ hk=>Kd.freshB (g:=gb101) (o:=.cells #[.string a1_0,.int .i64 a1_1] 57 (0,0)) zh k_ hk));(case aO=>exact zq);(case aS=>exact (below_size zc));(case aL=>have:=LMc32.out;omega);intro v106 w34 ho hb hg hat;rw [←Ny105.out] at ho;replace BK101:=Aside0.mk (blk_grown (g:=gb101) (o:=.cells #[.string a1_0,.int .i64 a1_1] 57 (0,0)) zh hg (Kd.R_away HO_5.out (fun _ hk=>hk)));replace HB:=Aside0.mk (hb);have HO107:=Aside0.mk (ho);clear HO_5;clear ho hb hg hat)))
      go_ret
      exact ⟨_,zj,by (with_reducible repeat (first|apply Kd.R_alloc|apply Kd.R_drewN|apply Kd.R_drew));exact Kd.R_mono HO107.out (fun _ hk=>trivial),zc⟩
     ·rw [if_neg c32] at H
      exact absurd H zca

mutual
def spec_l27Changed.l0:Nat→List (S57)→List ByteArray→Int→List Int→Int→Int→Option ((List (S57)) × Int × Int)
 | 0,_,_,_,_,_,_=>none
 | k+1,x5,x6,x7,x1000,x1001,x1002=>if x7 > 0 then ((spec_l00Src_pick.f x1000 x1001 x1002 6).bind fun bt113=>(if 0≤bt113.1 then (if bt113.1<(x6.length:Int) then ((spec_l27At.f k x5 (rdOf ByteArray.empty x6 bt113.1)).bind fun t117=>(if t117≥0 then ((spec_l00Src_one.f x1000 bt113.2.1 bt113.2.2 2).bind fun bt118=>(spec_l27Changed.j1 k x5 x6 x7 (rdOf ByteArray.empty x6 bt113.1) t117 bt118.1 x1000 bt118.2.1 bt118.2.2)) else (spec_l27Changed.j1 k x5 x6 x7 (rdOf ByteArray.empty x6 bt113.1) t117 false x1000 bt113.2.1 bt113.2.2))) else (none)) else (none))) else (some (x5,x1001,x1002))
def spec_l27Changed.j1:Nat→List (S57)→List ByteArray→Int→ByteArray→Int→Bool→List Int→Int→Int→Option ((List (S57)) × Int × Int)
 | 0,_,_,_,_,_,_,_,_,_=>none
 | k+1,x5,x6,x7,x8,x9,x34,x1000,x1001,x1002=>if x34=true then ((some (([]:List (S57)):List (S57))).bind fun y121=>(if 0≤x9 then (if x9≤(x5.length:Int) then ((some (x5.take (x9:Int).toNat:List (S57))).bind fun y124=>(if y121.length+y124.length<5864062014805 then ((some (y121++y124:List (S57))).bind fun y128=>(if 0≤(wrap64 (x9+1)) then (if (wrap64 (x9+1))≤(x5.length:Int) then ((some (x5.drop ((wrap64 (x9+1)):Int).toNat:List (S57))).bind fun y131=>(if y128.length+y131.length<5864062014805 then (spec_l27Changed.l0 k (y128++y131) x6 (wrap64 (x7 - 1)) x1000 x1001 x1002) else (none))) else (none)) else (none))) else (none))) else (none)) else (none))) else ((spec_l00Src_pick.f x1000 x1001 x1002 1001).bind fun bt138=>((spec_l27Set.f k x5 x8 bt138.1).bind fun t141=>(spec_l27Changed.l0 k t141 x6 (wrap64 (x7 - 1)) x1000 bt138.2.1 bt138.2.2)))
end
def spec_l27Changed.f (k:Nat) (s0_0:List Int) (s0_1:Int) (s0_2:Int) (l1:List (S57)):Option ((List (S57)) × Int × Int):=(some (([]:List (S57)):List (S57))).bind fun y101=>(if y101.length+l1.length<5864062014805 then ((spec_l00Src_pick.f s0_0 s0_1 s0_2 4).bind fun bt110=>(spec_l27Changed.l0 k (y101++l1) (([(⟨#[97]⟩:ByteArray),(⟨#[98]⟩:ByteArray),(⟨#[99]⟩:ByteArray),(⟨#[100]⟩:ByteArray),(⟨#[101]⟩:ByteArray),(⟨#[102]⟩:ByteArray)]:List ByteArray)) bt110.1 s0_0 bt110.2.1 bt110.2.2)) else (none))
set_option maxHeartbeats 8000000 in
set_option maxRecDepth 100000 in
theorem spec_l27Changed.calls (k:Nat) (g:Nat) (s0_0:List Int) (s0_1:Int) (s0_2:Int) (A1:Option Addr) (c1:Nat) (l1:List (S57)) (r1:List (S57)) (r2:Int) (r3:Int) (w0 w:World) (hI:IsS82 w0 w g s0_0 s0_1 s0_2) (hB:Below w0.heap.size w0 w) (hr1:∀W_,KeepBut w W_ g none→Kd.C k57 W_ A1 l1.length l1) (hc1:l1.length≤c1) (h:spec_l27Changed.f k s0_0 s0_1 s0_2 l1=some (r1,r2,r3)) :
 Calls Tryd.prog 23 #[.pointer (some ⟨g,0,none⟩),.slice A1 l1.length c1] w fun e w'=>∃v0_:Value,e = .returned (v0_)∧Kd.R k57 57 w' w.heap.size (fun _=>True) v0_ r1∧IsS82 w0 w' g s0_0 r2 r3∧Below w0.heap.size w0 w'∧KeepBut w w' g none:=by
 have hu57:=Tryd.underlying57
 have HR1:=Aside0.mk hr1
 have HC1:=Aside0.mk hc1
 clear hr1 hc1
 have HI0:=Aside0.mk hI
 have HK:=Aside0.mk (KeepBut.refl w g none)
 have HL:=Aside0.mk hB.size
 clear hI
 have HW0:=Aside0.mk hB.size
 have HB:=Aside0.mk hB
 clear hB
 have H:((some (([]:List (S57)):List (S57))).bind fun y101=>(if y101.length+l1.length<5864062014805 then ((spec_l00Src_pick.f s0_0 s0_1 s0_2 4).bind fun bt110=>(spec_l27Changed.l0 k (y101++l1) (([(⟨#[97]⟩:ByteArray),(⟨#[98]⟩:ByteArray),(⟨#[99]⟩:ByteArray),(⟨#[100]⟩:ByteArray),(⟨#[101]⟩:ByteArray),(⟨#[102]⟩:ByteArray)]:List ByteArray)) bt110.1 s0_0 bt110.2.1 bt110.2.2)) else (none)))=some (r1,r2,r3):=h
 clear h
 obtain ⟨y101,hy101⟩:∃y_:List (S57),y_=(([]:List (S57))):=⟨_,rfl⟩
 replace H:(if y101.length+l1.length<5864062014805 then ((spec_l00Src_pick.f s0_0 s0_1 s0_2 4).bind fun bt110=>(spec_l27Changed.l0 k (y101++l1) (([(⟨#[97]⟩:ByteArray),(⟨#[98]⟩:ByteArray),(⟨#[99]⟩:ByteArray),(⟨#[100]⟩:ByteArray),(⟨#[101]⟩:ByteArray),(⟨#[102]⟩:ByteArray)]:List ByteArray)) bt110.1 s0_0 bt110.2.1 bt110.2.2)) else (none))=some (r1,r2,r3):=by first|(rw [hy101];with_reducible exact H)|(have H2_:=(Option.bind_some _ _).symm.trans H;rw [hy101];with_reducible exact H2_)|(have H2_:=(Option.bind_some _ _).symm.trans H;with_reducible exact H2_)|with_reducible exact H|(rw [hy101];exact H)|exact H
 have Ny101:=Aside0.mk hy101
 clear hy101
 by_cases c3:y101.length+l1.length<5864062014805
 ·rw [if_pos c3] at H
  have LMc3:=Aside0.mk c3
  clear c3
  obtain ⟨y104,hy104⟩:∃y_:List (S57),y_=(y101++l1):=⟨_,rfl⟩
  replace H:((spec_l00Src_pick.f s0_0 s0_1 s0_2 4).bind fun bt110=>(spec_l27Changed.l0 k y104 (([(⟨#[97]⟩:ByteArray),(⟨#[98]⟩:ByteArray),(⟨#[99]⟩:ByteArray),(⟨#[100]⟩:ByteArray),(⟨#[101]⟩:ByteArray),(⟨#[102]⟩:ByteArray)]:List ByteArray)) bt110.1 s0_0 bt110.2.1 bt110.2.2))=some (r1,r2,r3):=by first|(rw [hy104];with_reducible exact H)|(have H2_:=(Option.bind_some _ _).symm.trans H;rw [hy104];with_reducible exact H2_)|(have H2_:=(Option.bind_some _ _).symm.trans H;with_reducible exact H2_)|with_reducible exact H|(rw [hy104];exact H)|exact H
  have Ny104:=Aside0.mk hy104
  clear hy104
  obtain ⟨y107,hy107⟩:∃y_:List ByteArray,y_=(([(⟨#[97]⟩:ByteArray),(⟨#[98]⟩:ByteArray),(⟨#[99]⟩:ByteArray),(⟨#[100]⟩:ByteArray),(⟨#[101]⟩:ByteArray),(⟨#[102]⟩:ByteArray)]:List ByteArray)):=⟨_,rfl⟩
  replace H:((spec_l00Src_pick.f s0_0 s0_1 s0_2 4).bind fun bt110=>(spec_l27Changed.l0 k y104 y107 bt110.1 s0_0 bt110.2.1 bt110.2.2))=some (r1,r2,r3):=by first|(rw [hy107];with_reducible exact H)|(have H2_:=(Option.bind_some _ _).symm.trans H;rw [hy107];with_reducible exact H2_)|(have H2_:=(Option.bind_some _ _).symm.trans H;with_reducible exact H2_)|with_reducible exact H|(rw [hy107];exact H)|exact H
  have Ny107:=Aside0.mk hy107
  clear hy107
  replace H:=Option.bind_eq_some_iff.mp H
  obtain ⟨⟨t110,t111,t112⟩,A40,H⟩:=H
  replace H:(spec_l27Changed.l0 k y104 y107 t110 s0_0 t111 t112)=some (r1,r2,r3):=H
  have A4:=Aside0.mk A40
  clear A40
  have H':=Aside0.mk H
  clear H
  go_enter Tryd.func23,Tryd.ntmps23
  go_wp2_with (first|((with_reducible refine gate_dst (N:=11) rfl ?_);refine Kd.R_lit k57 _ 57 ?hg (N:=11) ?hd (xs:=([]:List (S57))) (inner:=[]) (ok:=fun _=>True) (okp:=fun _=>True) ?hr ?hp (fun _ hk=>hk) trivial (Below.refl _ _) (Nat.le_refl _) zca ?_;(case hd=>rfl);(case hg=>rfl);(case hr=>exact zv);(case hp=>exact (Reps.none _ _));intro v102 w5 ho6 hb hg_ hnew_;clear hg_ hnew_;(first|rw [←Ny101.out] at ho6|(simp only [Int.reduceToNat] at ho6;rw [←Ny101.out] at ho6));have n0_:=Aside0.mk (Kd.R_lower ho6 (keep_size (w:=w) (g:=g) (row:=none) ze));have n1_:=Aside0.mk (IsS82.below zg hb);have n2_:=Aside0.mk (KeepBut.trans ze (KeepBut.of_below hb g none) (.inl rfl));have n3_:=Aside0.mk (below_step zf hb);clear HI0;clear HK;clear HB;have HO103:=n0_;have HI0:=n1_;have HK:=n2_;have HB:=n3_;clear n0_ n1_ n2_ n3_;clear hb ho6)|((with_reducible refine gate_builtin (b:=.append) (xs:=#[.tmp 11,.tmp 12]) rfl ?_);at_builtin;refine Kd.R_append_rows k57 w.heap.size rfl (.tmp 11) (.tmp 12) 26 57 (.agg #[(.string ⟨#[]⟩),(.int .i64 0)]) 24 rfl Tryd.underlying26 info57 rfl zbp zbn v102 y101 l1 _ _ _ (fun _=>True) (fun _=>False) rfl rfl ?aO ?aR (fun _ _ h=>h) (fun _ h=>h.elim) ?aF (Below.refl _ _) ?aS ?aL ?_;(case aR=>exact Kd.C_foot_now HR1.out ze);(case aF=>exact (fun _ _=>trivial));(case aO=>exact zae);(case aS=>exact (keep_size (w:=w) (g:=g) (row:=none) ze));(case aL=>have:=LMc3.out;omega);intro v105 w7 ho hb hg hat;rw [←Ny104.out] at ho;have n0_:=Aside0.mk (IsS82.grown zg hg (IsS82.own_ne HI0.out HO103.out zbp));have n1_:=Aside0.mk (below_weaken zf HL.out hb);have n2_:=Aside0.mk (KeepBut.trans ze (KeepBut.of_grown hg g) (Kd.R_base2 HO103.out));have n3_:=Aside0.mk (ho);clear HI0;clear HB;clear HK;clear HO103;have HI0:=n0_;have HB:=n1_;have HK:=n2_;have HO106:=n3_;clear n0_ n1_ n2_ n3_;clear ho hb hg hat)|((with_reducible refine gate_dst (N:=14) rfl ?_);refine Kd.R_lit Kd.string _ 9 ?hg (N:=14) ?hd (xs:=([(⟨#[97]⟩:ByteArray),(⟨#[98]⟩:ByteArray),(⟨#[99]⟩:ByteArray),(⟨#[100]⟩:ByteArray),(⟨#[101]⟩:ByteArray),(⟨#[102]⟩:ByteArray)]:List ByteArray)) (inner:=[.string (⟨#[97]⟩:ByteArray),.string (⟨#[98]⟩:ByteArray),.string (⟨#[99]⟩:ByteArray),.string (⟨#[100]⟩:ByteArray),.string (⟨#[101]⟩:ByteArray),.string (⟨#[102]⟩:ByteArray)]) (ok:=fun _=>True) (okp:=fun _=>True) ?hr ?hp (fun _ hk=>hk) trivial (Below.refl _ _) (Nat.le_refl _) zca ?_;(case hd=>rfl);(case hg=>rfl);(case hr=>exact zv);(case hp=>exact (Reps.one (show Kd.M Kd.string _ _ _ (⟨#[97]⟩:ByteArray) [.string (⟨#[97]⟩:ByteArray)] from rfl) (Reps.one (show Kd.M Kd.string _ _ _ (⟨#[98]⟩:ByteArray) [.string (⟨#[98]⟩:ByteArray)] from rfl) (Reps.one (show Kd.M Kd.string _ _ _ (⟨#[99]⟩:ByteArray) [.string (⟨#[99]⟩:ByteArray)] from rfl) (Reps.one (show Kd.M Kd.string _ _ _ (⟨#[100]⟩:ByteArray) [.string (⟨#[100]⟩:ByteArray)] from rfl) (Reps.one (show Kd.M Kd.string _ _ _ (⟨#[101]⟩:ByteArray) [.string (⟨#[101]⟩:ByteArray)] from rfl) (Reps.one (show Kd.M Kd.string _ _ _ (⟨#[102]⟩:ByteArray) [.string (⟨#[102]⟩:ByteArray)] from rfl) (Reps.none _ _))))))));intro v108 w8 ho9 hb hg_ hnew_;clear hg_ hnew_;(first|rw [←Ny107.out] at ho9|(simp only [Int.reduceToNat] at ho9;rw [←Ny107.out] at ho9));have n0_:=Aside0.mk (Kd.R_below zcu hb);have n1_:=Aside0.mk (Kd.R_lower ho9 (keep_size (w:=w) (g:=g) (row:=none) ze));have n2_:=Aside0.mk (IsS82.below zg hb);have n3_:=Aside0.mk (KeepBut.trans ze (KeepBut.of_below hb g none) (.inl rfl));have n4_:=Aside0.mk (below_step zf hb);clear HO106;clear HI0;clear HK;clear HB;have HO106:=n0_;have HO109:=n1_;have HI0:=n2_;have HK:=n3_;have HB:=n4_;clear n0_ n1_ n2_ n3_ n4_;clear hb ho9)|((with_reducible refine gate_callee (f:=47) rfl ?_);refine goesL_ (some 16) rfl rfl Tryd.func47 zaq rfl #[.pointer (some ⟨g,0,none⟩),.int .i64 4] rfl zd ?_;(with_reducible refine (spec_l00Src_pick.calls g s0_0 s0_1 s0_2 4 t110 t111 t112 w0 _ ?side1 ?side2 A4.out).mono ?_);(case side1=>exact zg);(case side2=>exact zf);rintro e w10 ⟨rfl,hi,hb,hk⟩;refine ⟨_,rfl,?_⟩;replace HO106:=Aside0.mk (Kd.R_mono (Kd.R_keep (IsS82.apart (show IsS82 w0 _ g s0_0 s0_1 s0_2 from by repeat (first|(with_reducible first|exact HI0.out|apply IsS82.alloc|apply IsS82.drewN|apply IsS82.drew|apply IsS82.set_1|apply IsS82.set_2)|exact HI0.out)) zcu zbp) hk (fun _ h=>h.2)) (fun _ h=>h.1));replace HO109:=Aside0.mk (Kd.R_mono (Kd.R_keep (IsS82.apart (show IsS82 w0 _ g s0_0 s0_1 s0_2 from by repeat (first|(with_reducible first|exact HI0.out|apply IsS82.alloc|apply IsS82.drewN|apply IsS82.drew|apply IsS82.set_1|apply IsS82.set_2)|exact HI0.out)) (by (with_reducible repeat (first|apply Kd.R_alloc|apply Kd.R_drewN|apply Kd.R_drew));exact HO109.out) zbp) hk (fun _ h=>h.2)) (fun _ h=>h.1));replace HK:=Aside0.mk (KeepBut.trans ze hk (.inl rfl));replace HB:=Aside0.mk (hb);replace HI0:=Aside0.mk (hi);(try clear hb);(try clear hb2);(try clear hk);(try clear hi)))
  go_loopg [5,7] k (fun kq v5 v7 w'=>∃(x5_1:List (S57)) (x7_1:Int) (x1001_1:Int) (x1002_1:Int),v7 = .int .i64 x7_1∧Aside0 (spec_l27Changed.l0 kq x5_1 y107 x7_1 s0_0 x1001_1 x1002_1=some (r1,r2,r3))∧Aside0 (kq≤k)∧Aside0 (Kd.R k57 57 w' w.heap.size (fun _=>True) v5 x5_1)∧Aside0 (Kd.R Kd.string 9 w' w.heap.size (fun _=>True) v108 y107)∧Aside0 (IsS82 w0 w' g s0_0 x1001_1 x1002_1)∧Aside0 (KeepBut w w' g none)∧Aside0 (Below w0.heap.size w0 w'))
  case atStart=>exact ⟨(y104),(t110),(t111),(t112),zi,H',⟨Nat.le_refl _⟩,⟨zcu⟩,⟨by (with_reducible repeat (first|apply Kd.R_alloc|apply Kd.R_drewN|apply Kd.R_drew));exact HO109.out⟩,⟨zg⟩,⟨ze⟩,⟨zf⟩⟩
  case round=>
   clear H'
   try clear c1
   try clear c2
   try clear p2
   try clear c3
   try clear c4
   obtain ⟨x5_1,x7_1,x1001_1,x1002_1,rfl,HA,HK1,HO_5,HO_6,HI0,HK,HB⟩:=hrel
   cases gk with
   | zero=>exact absurd HA.out (by simp [spec_l27Changed.l0])
   | succ k1=>
    have H:=HA.out
    clear HA
    simp only [spec_l27Changed.l0] at H
    by_cases c11:x7_1 > 0
    ·rw [if_pos c11] at H
     have c11b0:decide (0<x7_1)=true:=decide_eq_true c11
     clear c11
     replace H:=Option.bind_eq_some_iff.mp H
     obtain ⟨⟨t113,t114,t115⟩,A120,H⟩:=H
     replace H:(if 0≤t113 then (if t113<(y107.length:Int) then ((spec_l27At.f k1 x5_1 (rdOf ByteArray.empty y107 t113)).bind fun t117=>(if t117≥0 then ((spec_l00Src_one.f s0_0 t114 t115 2).bind fun bt118=>(spec_l27Changed.j1 k1 x5_1 y107 x7_1 (rdOf ByteArray.empty y107 t113) t117 bt118.1 s0_0 bt118.2.1 bt118.2.2)) else (spec_l27Changed.j1 k1 x5_1 y107 x7_1 (rdOf ByteArray.empty y107 t113) t117 false s0_0 t114 t115))) else (none)) else (none))=some (r1,r2,r3):=H
     have A12:=Aside0.mk A120
     clear A120
     by_cases c13:0≤t113
     ·rw [if_pos c13] at H
      have c13b0:decide (0≤t113)=true:=decide_eq_true c13
      clear c13
      by_cases c14:t113<(y107.length:Int)
      ·rw [if_pos c14] at H
       have c14b0:decide (t113<(y107.length:Int))=true:=decide_eq_true c14
       clear c14
       replace H:=Option.bind_eq_some_iff.mp H
       obtain ⟨t117,A150,H⟩:=H
       replace H:(if t117≥0 then ((spec_l00Src_one.f s0_0 t114 t115 2).bind fun bt118=>(spec_l27Changed.j1 k1 x5_1 y107 x7_1 (rdOf ByteArray.empty y107 t113) t117 bt118.1 s0_0 bt118.2.1 bt118.2.2)) else (spec_l27Changed.j1 k1 x5_1 y107 x7_1 (rdOf ByteArray.empty y107 t113) t117 false s0_0 t114 t115))=some (r1,r2,r3):=H
       have A15:=Aside0.mk A150
       clear A150
       have HC16:=Aside0.mk H
       clear H
       go_upto_region 8 with (first|((with_reducible refine gate_callee (f:=47) rfl ?_);refine goesL_ (some 23) rfl rfl Tryd.func47 zaq rfl #[.pointer (some ⟨g,0,none⟩),.int .i64 6] rfl zd ?_;(with_reducible refine (spec_l00Src_pick.calls g s0_0 x1001_1 x1002_1 6 t113 t114 t115 w0 _ ?side1 ?side2 A12.out).mono ?_);(case side1=>exact zg);(case side2=>exact zf);rintro e w17 ⟨rfl,hi,hb,hk⟩;refine ⟨_,rfl,?_⟩;replace HO_5:=Aside0.mk (Kd.R_mono (Kd.R_keep (IsS82.apart (show IsS82 w0 _ g s0_0 x1001_1 x1002_1 from by repeat (first|(with_reducible first|exact HI0.out|apply IsS82.alloc|apply IsS82.drewN|apply IsS82.drew|apply IsS82.set_1|apply IsS82.set_2)|exact HI0.out)) zq zbp) hk (fun _ h=>h.2)) (fun _ h=>h.1));replace HO_6:=Aside0.mk (Kd.R_mono (Kd.R_keep (IsS82.apart (show IsS82 w0 _ g s0_0 x1001_1 x1002_1 from by repeat (first|(with_reducible first|exact HI0.out|apply IsS82.alloc|apply IsS82.drewN|apply IsS82.drew|apply IsS82.set_1|apply IsS82.set_2)|exact HI0.out)) zl zbp) hk (fun _ h=>h.2)) (fun _ h=>h.1));replace HK:=Aside0.mk (KeepBut.trans ze hk (.inl rfl));replace HB:=Aside0.mk (hb);replace HI0:=Aside0.mk (hi);(try clear hb);(try clear hb2);(try clear hk);(try clear hi);obtain ⟨Ao18,co18,eo18⟩:=Kd.R_slice HO_6.out;subst eo18;have p116:0≤(t113:Int):=of_decide_eq_true zb;have q116:t113<(y107.length:Int):=of_decide_eq_true zb;obtain ⟨ad116,e116,hx116_0⟩:=Kd.at_string (Kd.R_reads' HO_6.out).2.2 t113 p116 q116;cases e116;replace p116:=eq_true p116;replace q116:=eq_true q116;obtain ⟨Ao19,co19,eo19⟩:=Kd.R_slice HO_5.out;subst eo19)|((with_reducible refine gate_callee (f:=50) rfl ?_);refine goesL_ (some 28) rfl rfl Tryd.func50 zaq rfl #[.slice Ao19 x5_1.length co19,.string (rdOf ByteArray.empty y107 t113)] rfl zd ?_;(with_reducible refine (spec_l27At.calls k1 _ _ x5_1 (rdOf ByteArray.empty y107 t113) t117 _ ?side1 ?side2 A15.out).mono ?_);(case side1=>repeat (first|exact (Kd.R_reads' HO_5.out).2.2|(with_reducible refine Kd.C_alloc ?_ _)|(with_reducible refine Kd.C_drewN ?_ _)|(with_reducible refine Kd.C_drew ?_)));(case side2=>exact (Kd.R_reads' HO_5.out).2.1);rintro e w' ⟨rfl,⟨nd,rfl⟩⟩;refine ⟨_,rfl,?_⟩))
       (try simp only [Act.put,List.setIfInBounds_toArray,List.set_cons_zero,List.set_cons_succ])
       go_cut [34] (fun v34 wc=>∃(kq:Nat) (x34_15:Bool) (x1001_15:Int) (x1002_15:Int),v34 = .bool x34_15∧Aside0 (spec_l27Changed.j1 kq x5_1 y107 x7_1 (rdOf ByteArray.empty y107 t113) t117 x34_15 s0_0 x1001_15 x1002_15=some (r1,r2,r3))∧Aside0 (kq≤k1)∧Aside0 (Kd.R k57 57 wc w.heap.size (fun _=>True) (.slice Ao19 x5_1.length co19) x5_1)∧Aside0 (Kd.R Kd.string 9 wc w.heap.size (fun _=>True) (.slice (some ad116) y107.length co18) y107)∧Aside0 (IsS82 w0 wc g s0_0 x1001_15 x1002_15)∧Aside0 (KeepBut w wc g none)∧Aside0 (Below w0.heap.size w0 wc))
       case first=>
        have H:=HC16.out
        clear HC16
        by_cases c20:t117≥0
        ·rw [if_pos c20] at H
         have c20b0:decide (0≤t117)=true:=decide_eq_true c20
         clear c20
         (first|rw [c20b0]|(simp only [i64_w,i32_w];rw [c20b0])|skip)
         replace H:=Option.bind_eq_some_iff.mp H
         obtain ⟨⟨t118,t119,t120⟩,A210,H⟩:=H
         replace H:(spec_l27Changed.j1 k1 x5_1 y107 x7_1 (rdOf ByteArray.empty y107 t113) t117 t118 s0_0 t119 t120)=some (r1,r2,r3):=H
         have A21:=Aside0.mk A210
         clear A210
         have H':=Aside0.mk H
         clear H
         go_wp2_with (first|(go_at_call 49;(with_reducible refine (spec_l00Src_one.calls g s0_0 t114 t115 2 t118 t119 t120 w0 _ ?side1 ?side2 A21.out).mono ?_);(case side1=>exact zg);(case side2=>exact zf);rintro e w22 ⟨rfl,hi,hb,hk⟩;replace HO_5:=Aside0.mk (Kd.R_mono (Kd.R_keep (IsS82.apart (show IsS82 w0 _ g s0_0 t114 t115 from by repeat (first|(with_reducible first|exact HI0.out|apply IsS82.alloc|apply IsS82.drewN|apply IsS82.drew|apply IsS82.set_1|apply IsS82.set_2)|exact HI0.out)) zq zbp) hk (fun _ h=>h.2)) (fun _ h=>h.1));replace HO_6:=Aside0.mk (Kd.R_mono (Kd.R_keep (IsS82.apart (show IsS82 w0 _ g s0_0 t114 t115 from by repeat (first|(with_reducible first|exact HI0.out|apply IsS82.alloc|apply IsS82.drewN|apply IsS82.drew|apply IsS82.set_1|apply IsS82.set_2)|exact HI0.out)) zl zbp) hk (fun _ h=>h.2)) (fun _ h=>h.1));replace HK:=Aside0.mk (KeepBut.trans ze hk (.inl rfl));replace HB:=Aside0.mk (hb);replace HI0:=Aside0.mk (hi);(try clear hb);(try clear hb2);(try clear hk);(try clear hi)))
         go_meet
         case rel=>exact ⟨_,(t118),(t119),(t120),zi,H',⟨by have:=HK1.out;first|omega|exact Nat.le_refl _⟩,⟨zq⟩,⟨zl⟩,⟨zg⟩,⟨ze⟩,⟨zf⟩⟩
        ·rw [if_neg c20] at H
         have c20b0:decide (0≤t117)=false:=decide_eq_false c20
         clear c20
         (first|rw [c20b0]|(simp only [i64_w,i32_w];rw [c20b0])|skip)
         have H':=Aside0.mk H
         clear H
         go_wp2
         go_meet
         case rel=>exact ⟨_,(false),(t114),(t115),zi,H',⟨by have:=HK1.out;first|omega|exact Nat.le_refl _⟩,⟨zq⟩,⟨zl⟩,⟨zg⟩,⟨ze⟩,⟨zf⟩⟩
       case rest=>
        clear HC16
        try clear c1
        try clear p1
        try clear q1
        try clear hx1
        try clear c2
        try clear p2
        try clear c3
        try clear c4
        try clear c5
        try clear c11
        try clear c11b0
        try clear p11
        try clear q11
        try clear hx11
        try clear c13
        try clear c13b0
        try clear c14
        try clear c14b0
        try clear c20
        try clear c20b0
        try clear hx116_0
        try clear p116
        try clear p2
        try clear q116
        obtain ⟨kq,x34_15,x1001_15,x1002_15,rfl,HA,HJ15,HO_5,HO_6,HI0,HK,HB⟩:=hcut
        cases kq with
        | zero=>exact absurd HA.out (by simp [spec_l27Changed.j1])
        | succ kj15=>
         have H:=HA.out
         clear HA
         simp only [spec_l27Changed.j1] at H
         by_cases c23:x34_15=true
         ·subst c23
          have H1:((some (([]:List (S57)):List (S57))).bind fun y121=>(if 0≤t117 then (if t117≤(x5_1.length:Int) then ((some (x5_1.take (t117:Int).toNat:List (S57))).bind fun y124=>(if y121.length+y124.length<5864062014805 then ((some (y121++y124:List (S57))).bind fun y128=>(if 0≤(wrap64 (t117+1)) then (if (wrap64 (t117+1))≤(x5_1.length:Int) then ((some (x5_1.drop ((wrap64 (t117+1)):Int).toNat:List (S57))).bind fun y131=>(if y128.length+y131.length<5864062014805 then (spec_l27Changed.l0 kj15 (y128++y131) y107 (wrap64 (x7_1 - 1)) s0_0 x1001_15 x1002_15) else (none))) else (none)) else (none))) else (none))) else (none)) else (none)))=some (r1,r2,r3):=by rw [if_pos rfl] at H;exact H
          clear H
          have H:=H1
          clear H1
          obtain ⟨y121,hy121⟩:∃y_:List (S57),y_=(([]:List (S57))):=⟨_,rfl⟩
          replace H:(if 0≤t117 then (if t117≤(x5_1.length:Int) then ((some (x5_1.take (t117:Int).toNat:List (S57))).bind fun y124=>(if y121.length+y124.length<5864062014805 then ((some (y121++y124:List (S57))).bind fun y128=>(if 0≤(wrap64 (t117+1)) then (if (wrap64 (t117+1))≤(x5_1.length:Int) then ((some (x5_1.drop ((wrap64 (t117+1)):Int).toNat:List (S57))).bind fun y131=>(if y128.length+y131.length<5864062014805 then (spec_l27Changed.l0 kj15 (y128++y131) y107 (wrap64 (x7_1 - 1)) s0_0 x1001_15 x1002_15) else (none))) else (none)) else (none))) else (none))) else (none)) else (none))=some (r1,r2,r3):=by first|(rw [hy121];with_reducible exact H)|(have H2_:=(Option.bind_some _ _).symm.trans H;rw [hy121];with_reducible exact H2_)|(have H2_:=(Option.bind_some _ _).symm.trans H;with_reducible exact H2_)|with_reducible exact H|(rw [hy121];exact H)|exact H
          have Ny121:=Aside0.mk hy121
          clear hy121
          by_cases c24:0≤t117
          ·rw [if_pos c24] at H
           have c24b0:=eq_true c24
           have c24b1:decide (0≤t117)=true:=decide_eq_true c24
           clear c24
           by_cases c25:t117≤(x5_1.length:Int)
           ·rw [if_pos c25] at H
            have c25b0:=eq_true c25
            have c25b1:decide (t117≤(x5_1.length:Int))=true:=decide_eq_true c25
            clear c25
            obtain ⟨y124,hy124⟩:∃y_:List (S57),y_=(x5_1.take (t117:Int).toNat):=⟨_,rfl⟩
            replace H:(if y121.length+y124.length<5864062014805 then ((some (y121++y124:List (S57))).bind fun y128=>(if 0≤(wrap64 (t117+1)) then (if (wrap64 (t117+1))≤(x5_1.length:Int) then ((some (x5_1.drop ((wrap64 (t117+1)):Int).toNat:List (S57))).bind fun y131=>(if y128.length+y131.length<5864062014805 then (spec_l27Changed.l0 kj15 (y128++y131) y107 (wrap64 (x7_1 - 1)) s0_0 x1001_15 x1002_15) else (none))) else (none)) else (none))) else (none))=some (r1,r2,r3):=by first|(rw [hy124];with_reducible exact H)|(have H2_:=(Option.bind_some _ _).symm.trans H;rw [hy124];with_reducible exact H2_)|(have H2_:=(Option.bind_some _ _).symm.trans H;with_reducible exact H2_)|with_reducible exact H|(rw [hy124];exact H)|exact H
            have Ny124:=Aside0.mk hy124
            clear hy124
            by_cases c26:y121.length+y124.length<5864062014805
            ·rw [if_pos c26] at H
             have LMc26:=Aside0.mk c26
             clear c26
             obtain ⟨y128,hy128⟩:∃y_:List (S57),y_=(y121++y124):=⟨_,rfl⟩
             replace H:(if 0≤(wrap64 (t117+1)) then (if (wrap64 (t117+1))≤(x5_1.length:Int) then ((some (x5_1.drop ((wrap64 (t117+1)):Int).toNat:List (S57))).bind fun y131=>(if y128.length+y131.length<5864062014805 then (spec_l27Changed.l0 kj15 (y128++y131) y107 (wrap64 (x7_1 - 1)) s0_0 x1001_15 x1002_15) else (none))) else (none)) else (none))=some (r1,r2,r3):=by first|(rw [hy128];with_reducible exact H)|(have H2_:=(Option.bind_some _ _).symm.trans H;rw [hy128];with_reducible exact H2_)|(have H2_:=(Option.bind_some _ _).symm.trans H;with_reducible exact H2_)|with_reducible exact H|(rw [hy128];exact H)|exact H
             have Ny128:=Aside0.mk hy128
             clear hy128
             obtain ⟨ji27,hji27⟩:∃j_:Int,(wrap64 (t117+1))=j_:=⟨_,rfl⟩
             replace H:(if 0≤(ji27) then (if (ji27)≤(x5_1.length:Int) then ((some (x5_1.drop ((ji27):Int).toNat:List (S57))).bind fun y131=>(if y128.length+y131.length<5864062014805 then (spec_l27Changed.l0 kj15 (y128++y131) y107 (wrap64 (x7_1 - 1)) s0_0 x1001_15 x1002_15) else (none))) else (none)) else (none))=some (r1,r2,r3):=by first|(rw [hji27] at H;exact H)|(simp only [hji27] at H ⊢;exact H)
             have hji27w:(IntKind.i64.wrap (t117+1))=ji27:=(i64_w _).trans hji27
             by_cases c28:0≤(ji27)
             ·rw [if_pos c28] at H
              have c28b0:=eq_true c28
              have c28b1:decide (0≤(ji27))=true:=decide_eq_true c28
              clear c28
              by_cases c29:(ji27)≤(x5_1.length:Int)
              ·rw [if_pos c29] at H
               have c29b0:=eq_true c29
               have c29b1:decide ((ji27)≤(x5_1.length:Int))=true:=decide_eq_true c29
               clear c29
               obtain ⟨y131,hy131⟩:∃y_:List (S57),y_=(x5_1.drop ((ji27):Int).toNat):=⟨_,rfl⟩
               replace H:(if y128.length+y131.length<5864062014805 then (spec_l27Changed.l0 kj15 (y128++y131) y107 (wrap64 (x7_1 - 1)) s0_0 x1001_15 x1002_15) else (none))=some (r1,r2,r3):=by first|(rw [hy131];with_reducible exact H)|(have H2_:=(Option.bind_some _ _).symm.trans H;rw [hy131];with_reducible exact H2_)|(have H2_:=(Option.bind_some _ _).symm.trans H;with_reducible exact H2_)|with_reducible exact H|(rw [hy131];exact H)|exact H
               have Ny131:=Aside0.mk hy131
               clear hy131
               by_cases c30:y128.length+y131.length<5864062014805
               ·rw [if_pos c30] at H
                have LMc30:=Aside0.mk c30
                clear c30
                obtain ⟨y135,hy135⟩:∃y_:List (S57),y_=(y128++y131):=⟨_,rfl⟩
                replace H:(spec_l27Changed.l0 kj15 y135 y107 (wrap64 (x7_1 - 1)) s0_0 x1001_15 x1002_15)=some (r1,r2,r3):=by first|(rw [hy135];with_reducible exact H)|(have H2_:=(Option.bind_some _ _).symm.trans H;rw [hy135];with_reducible exact H2_)|(have H2_:=(Option.bind_some _ _).symm.trans H;with_reducible exact H2_)|with_reducible exact H|(rw [hy135];exact H)|exact H
                have Ny135:=Aside0.mk hy135
                clear hy135
                have H':=Aside0.mk H
                clear H
                go_wp2_with (first|((with_reducible refine gate_dst (N:=35) rfl ?_);refine Kd.R_lit k57 _ 57 ?hg (N:=35) ?hd (xs:=([]:List (S57))) (inner:=[]) (ok:=fun _=>True) (okp:=fun _=>True) ?hr ?hp (fun _ hk=>hk) trivial (Below.refl _ _) (Nat.le_refl _) zca ?_;(case hd=>rfl);(case hg=>rfl);(case hr=>exact zv);(case hp=>exact (Reps.none _ _));intro v122 w31 ho32 hb hg_ hnew_;clear hg_ hnew_;(first|rw [←Ny121.out] at ho32|(simp only [Int.reduceToNat] at ho32;rw [←Ny121.out] at ho32));have n0_:=Aside0.mk (Kd.R_elder' zq (Kd.R_base ho32) hb);have n1_:=Aside0.mk (Kd.R_below zl hb);have n2_:=Aside0.mk (Kd.R_lower (Kd.R_new' ho32 (Kd.R_lt zq)) (keep_size (w:=w) (g:=g) (row:=none) ze));have n3_:=Aside0.mk (IsS82.below zg hb);have n4_:=Aside0.mk (KeepBut.trans ze (KeepBut.of_below hb g none) (.inl rfl));have n5_:=Aside0.mk (below_step zf hb);clear HO_5;clear HO_6;clear HI0;clear HK;clear HB;have HO_5:=n0_;have HO_6:=n1_;have HO123:=n2_;have HI0:=n3_;have HK:=n4_;have HB:=n5_;clear n0_ n1_ n2_ n3_ n4_ n5_;clear hb ho32;have q33:(t117:Int)≤((x5_1.length:Int):Int):=of_decide_eq_true zb;obtain ⟨i033,hi033,_,hsz33,_⟩:=info_parts info57;have hroom33:x5_1.length≤co19:=(Kd.R_reads' HO_5.out).2.1;have hC33:Kd.C k57 _ Ao19 x5_1.length x5_1:=(Kd.R_reads' HO_5.out).2.2;have hcut33:=cut_to (P:=Tryd.prog) 26 57 .i64 Tryd.underlying26 hi033 Ao19 x5_1.length co19 t117 (of_decide_eq_true zb) q33 hroom33;have hr33:=Kd.C_take (m:=(t117:Int).toNat) hC33 zbn;have hy33:y124.length=(t117:Int).toNat:=(by rw [Ny124.out,List.length_take];omega);rw [←Ny124.out] at hr33;rw [←hy33] at hcut33;have HR127:=Aside0.mk hr33;have HC127:=Aside0.mk (show y124.length≤co19 from by omega);clear hr33 hC33 hroom33 hi033 hsz33;have KY33:=Aside0.mk hy33;clear hy33;have KL33:=Aside0.mk (show (t117:Int).toNat≤x5_1.length from by omega);replace q33:=eq_true q33)|((with_reducible refine gate_builtin (b:=.append) (xs:=#[.tmp 35,.tmp 38]) rfl ?_);at_builtin;refine Kd.R_append_rows k57 w.heap.size rfl (.tmp 35) (.tmp 38) 26 57 (.agg #[(.string ⟨#[]⟩),(.int .i64 0)]) 24 rfl Tryd.underlying26 info57 rfl zbp zbn v122 y121 y124 _ _ _ (fun k_=>some k_≠(.slice Ao19 x5_1.length co19:Value).ownBlock) (fun _=>False) rfl rfl ?aO ?aR (fun _ _ h=>h) (fun _ h=>h.elim) ?aF (Below.refl _ _) ?aS ?aL ?_;(case aR=>repeat (first|exact (by repeat (first|(with_reducible exact HR127.out)|(with_reducible refine Kd.C_alloc ?_ _)|(with_reducible refine Kd.C_drewN ?_ _)|(with_reducible refine Kd.C_drew ?_)|exact HR127.out))|(with_reducible refine Kd.C_alloc ?_ _)|(with_reducible refine Kd.C_drewN ?_ _)|(with_reducible refine Kd.C_drew ?_)));(case aF=>exact (fun k_ hk=>Kd.fresh' (Kd.R_lt zq) k_ hk));(case aO=>exact (by (with_reducible repeat (first|apply Kd.R_alloc|apply Kd.R_drewN|apply Kd.R_drew));exact Kd.R_mono HO123.out (fun _ hk=>hk.2)));(case aS=>exact (keep_size (w:=w) (g:=g) (row:=none) ze));(case aL=>have:=LMc26.out;omega);intro v129 w34 ho hb hg hat;rw [←Ny128.out] at ho;have n0_:=Aside0.mk (Kd.R_after (ok:=(fun _=>True)) zq hg hat);have n1_:=Aside0.mk (Kd.R_over' zl (Kd.R_typed (by (with_reducible repeat (first|apply Kd.R_alloc|apply Kd.R_drewN|apply Kd.R_drew));exact HO123.out)) zbp hg);have n2_:=Aside0.mk (IsS82.grown zg hg (IsS82.own_ne HI0.out HO123.out zbp));have n3_:=Aside0.mk (below_weaken zf HL.out hb);have n4_:=Aside0.mk (KeepBut.trans ze (KeepBut.of_grown hg g) (Kd.R_base2 HO123.out));have n5_:=Aside0.mk ((show Kd.C k57 w34 Ao19 y124.length y124 from by rw [Ny124.out];exact Kd.C_take (m:=(t117:Int).toNat) ((Kd.R_reads' (Kd.R_after (ok:=(fun _=>True)) zq hg hat)).2.2) KL33.out));have n6_:=Aside0.mk (ho);clear HO_5;clear HO_6;clear HI0;clear HB;clear HK;clear HR127;clear HO123;have HO_5:=n0_;have HO_6:=n1_;have HI0:=n2_;have HB:=n3_;have HK:=n4_;have HR127:=n5_;have HO130:=n6_;clear n0_ n1_ n2_ n3_ n4_ n5_ n6_;clear ho hb hg hat;have q35:((ji27):Int)≤((x5_1.length:Int):Int):=of_decide_eq_true zb;obtain ⟨i035,hi035,_,hsz35,_⟩:=info_parts info57;have hroom35:x5_1.length≤co19:=(Kd.R_reads' HO_5.out).2.1;have hC35:Kd.C k57 _ Ao19 x5_1.length x5_1:=(Kd.R_reads' HO_5.out).2.2;have q035:(0:Int)≤((ji27):Int):=of_decide_eq_true zb;have hcut35:=cut_from (P:=Tryd.prog) 26 57 .i64 Tryd.underlying26 hi035 2 hsz35 Ao19 x5_1.length co19 (ji27) q035 q35;have hr35:=Kd.C_drop (m:=((ji27):Int).toNat) (c:=co19) hC35 zbn hroom35;obtain ⟨A35,hA35⟩:∃A1,A1=(if co19=((ji27):Int).toNat then Ao19 else (Ao19:Option Addr).map (·.add (((ji27):Int).toNat*2))):=⟨_,rfl⟩;obtain ⟨c35,hc35⟩:∃c1,c1=co19 - ((ji27):Int).toNat:=⟨_,rfl⟩;have hy35:y131.length=x5_1.length - ((ji27):Int).toNat:=(by rw [Ny131.out,List.length_drop]<;>omega);rw [show (x5_1).drop ((ji27):Int).toNat=y131 from Ny131.out.symm] at hr35;replace hr35:Kd.C k57 _ A35 y131.length y131:=(by rw [hA35];exact hr35);rw [←hy35,←hA35,←hc35] at hcut35;have HR134:=Aside0.mk hr35;have HC134:=Aside0.mk (show y131.length≤c35 from by rw [hy35,hc35];exact Nat.sub_le_sub_right hroom35 _);clear hr35 hC35 hroom35 hi035 hsz35 hc35;have KY35:=Aside0.mk hy35;have KA35:=Aside0.mk hA35;clear hy35 hA35;have KL35:=Aside0.mk (show ((ji27):Int).toNat≤x5_1.length from by omega);replace q35:=eq_true q35)|((with_reducible refine gate_builtin (b:=.append) (xs:=#[.tmp 40,.tmp 44]) rfl ?_);at_builtin;refine Kd.R_append_rows k57 w.heap.size rfl (.tmp 40) (.tmp 44) 26 57 (.agg #[(.string ⟨#[]⟩),(.int .i64 0)]) 24 rfl Tryd.underlying26 info57 rfl zbp zbn v129 y128 y131 _ _ _ (fun k_=>some k_≠(.slice Ao19 x5_1.length co19:Value).ownBlock) (fun _=>False) rfl rfl ?aO ?aR (fun _ _ h=>h) (fun _ h=>h.elim) ?aF (Below.refl _ _) ?aS ?aL ?_;(case aR=>repeat (first|exact (by repeat (first|(with_reducible exact HR134.out)|(with_reducible refine Kd.C_alloc ?_ _)|(with_reducible refine Kd.C_drewN ?_ _)|(with_reducible refine Kd.C_drew ?_)|exact HR134.out))|(with_reducible refine Kd.C_alloc ?_ _)|(with_reducible refine Kd.C_drewN ?_ _)|(with_reducible refine Kd.C_drew ?_)));(case aF=>exact (fun k_ hk=>Kd.fresh' (Kd.R_lt zq) k_ hk));(case aO=>exact (by (with_reducible repeat (first|apply Kd.R_alloc|apply Kd.R_drewN|apply Kd.R_drew));exact HO130.out));(case aS=>exact (keep_size (w:=w) (g:=g) (row:=none) ze));(case aL=>have:=LMc30.out;omega);intro v136 w36 ho hb hg hat;rw [←Ny135.out] at ho;have n0_:=Aside0.mk (Kd.R_after (ok:=(fun _=>True)) zq hg hat);have n1_:=Aside0.mk (Kd.R_over' zl (Kd.R_typed (by (with_reducible repeat (first|apply Kd.R_alloc|apply Kd.R_drewN|apply Kd.R_drew));exact HO130.out)) zbp hg);have n2_:=Aside0.mk (IsS82.grown zg hg (IsS82.own_ne HI0.out HO130.out zbp));have n3_:=Aside0.mk (below_weaken zf HL.out hb);have n4_:=Aside0.mk (KeepBut.trans ze (KeepBut.of_grown hg g) (Kd.R_base2 HO130.out));have n5_:=Aside0.mk ((show Kd.C k57 w36 Ao19 y124.length y124 from by rw [Ny124.out];exact Kd.C_take (m:=(t117:Int).toNat) ((Kd.R_reads' (Kd.R_after (ok:=(fun _=>True)) zq hg hat)).2.2) KL33.out));have n6_:=Aside0.mk ((show Kd.C k57 w36 A35 y131.length y131 from by rw [Ny131.out,KA35.out];exact Kd.C_drop (m:=((ji27):Int).toNat) (c:=co19) ((Kd.R_reads' (Kd.R_after (ok:=(fun _=>True)) zq hg hat)).2.2) KL35.out ((Kd.R_reads' (Kd.R_after (ok:=(fun _=>True)) zq hg hat)).2.1)));have n7_:=Aside0.mk (ho);clear HO_5;clear HO_6;clear HI0;clear HB;clear HK;clear HR127;clear HR134;clear HO130;have HO_5:=n0_;have HO_6:=n1_;have HI0:=n2_;have HB:=n3_;have HK:=n4_;have HR127:=n5_;have HR134:=n6_;have HO137:=n7_;clear n0_ n1_ n2_ n3_ n4_ n5_ n6_ n7_;clear ho hb hg hat))
                go_roundg kj15
                case measure=>have:=HK1.out;have:=HJ15.out;omega
                case rel=>exact ⟨(y135),(wrap64 (x7_1 - 1)),(x1001_15),(x1002_15),zi,H',⟨by have:=HK1.out;have:=HJ15.out;omega⟩,⟨by (with_reducible repeat (first|apply Kd.R_alloc|apply Kd.R_drewN|apply Kd.R_drew));exact Kd.R_mono HO137.out (fun _ hk=>trivial)⟩,⟨zl⟩,⟨zg⟩,⟨ze⟩,⟨zf⟩⟩
               ·rw [if_neg c30] at H
                exact absurd H zca
              ·rw [if_neg c29] at H
               exact absurd H zca
             ·rw [if_neg c28] at H
              exact absurd H zca
            ·rw [if_neg c26] at H
             exact absurd H zca
           ·rw [if_neg c25] at H
            exact absurd H zca
          ·rw [if_neg c24] at H
           exact absurd H zca
         ·replace c23:=Bool.eq_false_iff.mpr c23
          subst c23
          have H1:((spec_l00Src_pick.f s0_0 x1001_15 x1002_15 1001).bind fun bt138=>((spec_l27Set.f kj15 x5_1 (rdOf ByteArray.empty y107 t113) bt138.1).bind fun t141=>(spec_l27Changed.l0 kj15 t141 y107 (wrap64 (x7_1 - 1)) s0_0 bt138.2.1 bt138.2.2)))=some (r1,r2,r3):=by rw [if_neg (show ¬ (false=true) by decide)] at H;exact H
          clear H
          have H:=H1
          clear H1
          replace H:=Option.bind_eq_some_iff.mp H
          obtain ⟨⟨t138,t139,t140⟩,A370,H⟩:=H
          replace H:((spec_l27Set.f kj15 x5_1 (rdOf ByteArray.empty y107 t113) t138).bind fun t141=>(spec_l27Changed.l0 kj15 t141 y107 (wrap64 (x7_1 - 1)) s0_0 t139 t140))=some (r1,r2,r3):=H
          have A37:=Aside0.mk A370
          clear A370
          replace H:=Option.bind_eq_some_iff.mp H
          obtain ⟨t141,A380,H⟩:=H
          replace H:(spec_l27Changed.l0 kj15 t141 y107 (wrap64 (x7_1 - 1)) s0_0 t139 t140)=some (r1,r2,r3):=H
          have A38:=Aside0.mk A380
          clear A380
          have H':=Aside0.mk H
          clear H
          go_wp2_with (first|((with_reducible refine gate_callee (f:=47) rfl ?_);refine goesL_ (some 49) rfl rfl Tryd.func47 zaq rfl #[.pointer (some ⟨g,0,none⟩),.int .i64 1001] rfl zd ?_;(with_reducible refine (spec_l00Src_pick.calls g s0_0 x1001_15 x1002_15 1001 t138 t139 t140 w0 _ ?side1 ?side2 A37.out).mono ?_);(case side1=>exact zg);(case side2=>exact zf);rintro e w39 ⟨rfl,hi,hb,hk⟩;refine ⟨_,rfl,?_⟩;replace HO_5:=Aside0.mk (Kd.R_mono (Kd.R_keep (IsS82.apart (show IsS82 w0 _ g s0_0 x1001_15 x1002_15 from by repeat (first|(with_reducible first|exact HI0.out|apply IsS82.alloc|apply IsS82.drewN|apply IsS82.drew|apply IsS82.set_1|apply IsS82.set_2)|exact HI0.out)) zq zbp) hk (fun _ h=>h.2)) (fun _ h=>h.1));replace HO_6:=Aside0.mk (Kd.R_mono (Kd.R_keep (IsS82.apart (show IsS82 w0 _ g s0_0 x1001_15 x1002_15 from by repeat (first|(with_reducible first|exact HI0.out|apply IsS82.alloc|apply IsS82.drewN|apply IsS82.drew|apply IsS82.set_1|apply IsS82.set_2)|exact HI0.out)) zl zbp) hk (fun _ h=>h.2)) (fun _ h=>h.1));replace HK:=Aside0.mk (KeepBut.trans ze hk (.inl rfl));replace HB:=Aside0.mk (hb);replace HI0:=Aside0.mk (hi);(try clear hb);(try clear hb2);(try clear hk);(try clear hi))|((with_reducible refine gate_callee (f:=51) rfl ?_);refine goesL_ (some 51) rfl rfl Tryd.func51 zaq rfl #[.slice Ao19 x5_1.length co19,.agg #[.string (rdOf ByteArray.empty y107 t113),.int .i64 t138]] rfl zd ?_;(with_reducible refine (spec_l27Set.calls kj15 _ _ x5_1 (rdOf ByteArray.empty y107 t113) t138 t141 _ ?side1 ?side2 A38.out).mono ?_);(case side1=>repeat (first|exact (Kd.R_reads' HO_5.out).2.2|(with_reducible refine Kd.C_alloc ?_ _)|(with_reducible refine Kd.C_drewN ?_ _)|(with_reducible refine Kd.C_drew ?_)));(case side2=>exact (Kd.R_reads' HO_5.out).2.1);rintro e w40 ⟨v142,rfl,ho0,hb⟩;refine ⟨_,rfl,?_⟩;have n0_:=Aside0.mk (Kd.R_elder' zq (Kd.R_base ho0) hb);have n1_:=Aside0.mk (Kd.R_below zl hb);have n2_:=Aside0.mk (Kd.R_lower (Kd.R_new' ho0 (Kd.R_lt zq)) (keep_size (w:=w) (g:=g) (row:=none) ze));have n3_:=Aside0.mk (IsS82.below zg hb);have n4_:=Aside0.mk (KeepBut.trans ze (KeepBut.of_below hb g none) (.inl rfl));have n5_:=Aside0.mk (below_step zf hb);clear HO_5;clear HO_6;clear HI0;clear HK;clear HB;have HO_5:=n0_;have HO_6:=n1_;have HO143:=n2_;have HI0:=n3_;have HK:=n4_;have HB:=n5_;clear n0_ n1_ n2_ n3_ n4_ n5_;(try clear hb);(try clear hb2);(try clear hk);(try clear hi);(try clear ho0)))
          go_roundg kj15
          case measure=>have:=HK1.out;have:=HJ15.out;omega
          case rel=>exact ⟨(t141),(wrap64 (x7_1 - 1)),(t139),(t140),zi,H',⟨by have:=HK1.out;have:=HJ15.out;omega⟩,⟨by (with_reducible repeat (first|apply Kd.R_alloc|apply Kd.R_drewN|apply Kd.R_drew));exact Kd.R_mono HO143.out (fun _ hk=>trivial)⟩,⟨zl⟩,⟨zg⟩,⟨ze⟩,⟨zf⟩⟩
      ·rw [if_neg c14] at H
       exact absurd H zca
     ·rw [if_neg c13] at H
      exact absurd H zca
    ·rw [if_neg c11] at H
     have c11b0:decide (0<x7_1)=false:=decide_eq_false c11
     clear c11
     simp only [Option.some.injEq,Prod.mk.injEq] at H
     obtain ⟨rfl,rfl,rfl⟩:=H
     go_wp2
     go_ret
     exact ⟨_,zj,zq,zg,zf,ze⟩
 ·rw [if_neg c3] at H
  exact absurd H zca

def spec_l00Src_text.f (s0_0:List Int) (s0_1:Int) (s0_2:Int) (l1:List ByteArray):Option (ByteArray × Int × Int):=(spec_l00Src_pick.f s0_0 s0_1 s0_2 (l1.length:Int)).bind fun bt101=>(if 0≤bt101.1 then (if bt101.1<(l1.length:Int) then (some (rdOf ByteArray.empty l1 bt101.1,bt101.2.1,bt101.2.2)) else (none)) else (none))
set_option maxHeartbeats 8000000 in
set_option maxRecDepth 100000 in
theorem spec_l00Src_text.calls (g:Nat) (s0_0:List Int) (s0_1:Int) (s0_2:Int) (A1:Option Addr) (c1:Nat) (l1:List ByteArray) (r1:ByteArray) (r2:Int) (r3:Int) (w0 w:World) (hI:IsS82 w0 w g s0_0 s0_1 s0_2) (hB:Below w0.heap.size w0 w) (hr1:Kd.C Kd.string w A1 l1.length l1) (hc1:l1.length≤c1) (hf1:∀ad,A1=some ad→0<l1.length→ad.block≠g) (h:spec_l00Src_text.f s0_0 s0_1 s0_2 l1=some (r1,r2,r3)) :
 Calls Tryd.prog 48 #[.pointer (some ⟨g,0,none⟩),.slice A1 l1.length c1] w fun e w'=>e = .returned (.string r1)∧IsS82 w0 w' g s0_0 r2 r3∧Below w0.heap.size w0 w'∧KeepBut w w' g none:=by
 have HR1:=Aside0.mk hr1
 have HC1:=Aside0.mk hc1
 clear hr1 hc1
 have HI0:=Aside0.mk hI
 have HK:=Aside0.mk (KeepBut.refl w g none)
 have HL:=Aside0.mk hB.size
 clear hI
 have HW0:=Aside0.mk hB.size
 have HB:=Aside0.mk hB
 clear hB
 have H:((spec_l00Src_pick.f s0_0 s0_1 s0_2 (l1.length:Int)).bind fun bt101=>(if 0≤bt101.1 then (if bt101.1<(l1.length:Int) then (some (rdOf ByteArray.empty l1 bt101.1,bt101.2.1,bt101.2.2)) else (none)) else (none)))=some (r1,r2,r3):=h
 clear h
 replace H:=Option.bind_eq_some_iff.mp H
 obtain ⟨⟨t101,t102,t103⟩,A30,H⟩:=H
 replace H:(if 0≤t101 then (if t101<(l1.length:Int) then (some (rdOf ByteArray.empty l1 t101,t102,t103)) else (none)) else (none))=some (r1,r2,r3):=H
 have A3:=Aside0.mk A30
 clear A30
 by_cases c4:0≤t101
 ·rw [if_pos c4] at H
  have c4b0:decide (0≤t101)=true:=decide_eq_true c4
  clear c4
  by_cases c5:t101<(l1.length:Int)
  ·rw [if_pos c5] at H
   have c5b0:decide (t101<(l1.length:Int))=true:=decide_eq_true c5
   clear c5
   simp only [Option.some.injEq,Prod.mk.injEq] at H
   obtain ⟨rfl,rfl,rfl⟩:=H
   go_enter Tryd.func48,Tryd.ntmps48
   go_wp2_with (first|((with_reducible refine gate_callee (f:=47) rfl ?_);refine goesL_ (some 9) rfl rfl Tryd.func47 zaq rfl #[.pointer (some ⟨g,0,none⟩),.int .i64 (l1.length:Int)] rfl zd ?_;(with_reducible refine (spec_l00Src_pick.calls g s0_0 s0_1 s0_2 (l1.length:Int) t101 t102 t103 w0 _ ?side1 ?side2 A3.out).mono ?_);(case side1=>exact zg);(case side2=>exact zf);rintro e w6 ⟨rfl,hi,hb,hk⟩;refine ⟨_,rfl,?_⟩;replace HK:=Aside0.mk (KeepBut.trans ze hk (.inl rfl));replace HB:=Aside0.mk (hb);replace HI0:=Aside0.mk (hi);(try clear hb);(try clear hb2);(try clear hk);(try clear hi);have p104:0≤(t101:Int):=of_decide_eq_true zb;have q104:t101<(l1.length:Int):=of_decide_eq_true zb;obtain ⟨ad104,e104,hx104_0⟩:=Kd.at_string HR1.out t101 p104 q104;cases e104;replace hx104_0:=keep_cell HK.out hx104_0 (by first|(rw [add_block];exact hf1 _ rfl zbn)|exact hf1 _ rfl zbn|exact hf1 ad104 rfl zbn);replace p104:=eq_true p104;replace q104:=eq_true q104))
   go_ret
   exact ⟨zj,zg,zf,ze⟩
  ·rw [if_neg c5] at H
   exact absurd H zca
 ·rw [if_neg c4] at H
  exact absurd H zca

def spec_l27Draw.l0:Nat→List (S48)→Int→List Int→Int→Int→Option ((List (S48)) × Int × Int)
 | 0,_,_,_,_,_=>none
 | k+1,x3,x4,x1000,x1001,x1002=>if x4 > 0 then ((spec_l00Src_pick.f x1000 x1001 x1002 (wrap64 ((x3.length:Int)+1))).bind fun bt107=>((spec_l27DrawState.f k x1000 bt107.2.1 bt107.2.2).bind fun bt110=>(if bt107.1 > 0 then (if 0≤(wrap64 (bt107.1 - 1)) then (if (wrap64 (bt107.1 - 1))<(x3.length:Int) then ((spec_l27Changed.f k x1000 bt110.2.1 bt110.2.2 ((rd_T48 x3 (wrap64 (bt107.1 - 1))).f3)).bind fun bt116=>((spec_l00Src_text.f x1000 bt116.2.1 bt116.2.2 (([(⟨#[]⟩:ByteArray),(⟨#[110,101,119]⟩:ByteArray),(⟨#[97,32,98]⟩:ByteArray)]:List ByteArray))).bind fun bt125=>(if x3.length<2513169434916 then (spec_l27Draw.l0 k (x3++[(⟨wrap64 ((x3.length:Int)+1),bt107.1,bt125.1,bt116.1⟩:S48)]) (wrap64 (x4 - 1)) x1000 bt125.2.1 bt125.2.2) else (none)))) else (none)) else (none)) else ((spec_l00Src_text.f x1000 bt110.2.1 bt110.2.2 (([(⟨#[]⟩:ByteArray),(⟨#[110,101,119]⟩:ByteArray),(⟨#[97,32,98]⟩:ByteArray)]:List ByteArray))).bind fun bt135=>(if x3.length<2513169434916 then (spec_l27Draw.l0 k (x3++[(⟨wrap64 ((x3.length:Int)+1),bt107.1,bt135.1,bt110.1⟩:S48)]) (wrap64 (x4 - 1)) x1000 bt135.2.1 bt135.2.2) else (none)))))) else (some (x3,x1001,x1002))
def spec_l27Draw.f (k:Nat) (s0_0:List Int) (s0_1:Int) (s0_2:Int):Option ((List (S48)) × Int × Int):=(spec_l00Src_pick.f s0_0 s0_1 s0_2 6).bind fun bt104=>(spec_l27Draw.l0 k (([]:List (S48))) bt104.1 s0_0 bt104.2.1 bt104.2.2)
set_option maxHeartbeats 8000000 in
set_option maxRecDepth 100000 in
theorem spec_l27Draw.calls (k:Nat) (g:Nat) (s0_0:List Int) (s0_1:Int) (s0_2:Int) (r1:List (S48)) (r2:Int) (r3:Int) (w0 w:World) (hI:IsS82 w0 w g s0_0 s0_1 s0_2) (hB:Below w0.heap.size w0 w) (h:spec_l27Draw.f k s0_0 s0_1 s0_2=some (r1,r2,r3)) :
 Calls Tryd.prog 21 #[.pointer (some ⟨g,0,none⟩)] w fun e w'=>∃v0_:Value,e = .returned (v0_)∧Kd.S k48 48 w' w.heap.size (fun _=>True) v0_ r1∧IsS82 w0 w' g s0_0 r2 r3∧Below w0.heap.size w0 w'∧KeepBut w w' g none:=by
 have hu48:=Tryd.underlying48
 have HI0:=Aside0.mk hI
 have HK:=Aside0.mk (KeepBut.refl w g none)
 have HL:=Aside0.mk hB.size
 clear hI
 have HW0:=Aside0.mk hB.size
 have HB:=Aside0.mk hB
 clear hB
 have H:((spec_l00Src_pick.f s0_0 s0_1 s0_2 6).bind fun bt104=>(spec_l27Draw.l0 k (([]:List (S48))) bt104.1 s0_0 bt104.2.1 bt104.2.2))=some (r1,r2,r3):=h
 clear h
 obtain ⟨y101,hy101⟩:∃y_:List (S48),y_=(([]:List (S48))):=⟨_,rfl⟩
 replace H:((spec_l00Src_pick.f s0_0 s0_1 s0_2 6).bind fun bt104=>(spec_l27Draw.l0 k y101 bt104.1 s0_0 bt104.2.1 bt104.2.2))=some (r1,r2,r3):=by first|(rw [hy101];with_reducible exact H)|(have H2_:=(Option.bind_some _ _).symm.trans H;rw [hy101];with_reducible exact H2_)|(have H2_:=(Option.bind_some _ _).symm.trans H;with_reducible exact H2_)|with_reducible exact H|(rw [hy101];exact H)|exact H
 have Ny101:=Aside0.mk hy101
 clear hy101
 replace H:=Option.bind_eq_some_iff.mp H
 obtain ⟨⟨t104,t105,t106⟩,A20,H⟩:=H
 replace H:(spec_l27Draw.l0 k y101 t104 s0_0 t105 t106)=some (r1,r2,r3):=H
 have A2:=Aside0.mk A20
 clear A20
 have H':=Aside0.mk H
 clear H
 go_enter Tryd.func21,Tryd.ntmps21
 go_wp2_with (first|((with_reducible refine gate_dst (N:=9) rfl ?_);refine Kd.S_lit k48 _ 48 ?hg (N:=9) ?hd (xs:=([]:List (S48))) (inner:=[]) (ok:=fun _=>True) (okp:=fun _=>True) ?hr ?hp (fun _ hk=>hk) trivial (Below.refl _ _) (Nat.le_refl _) zca ?_;(case hd=>rfl);(case hg=>rfl);(case hr=>exact zv);(case hp=>exact (Reps.none _ _));intro v102 w3 ho4 hb hg_ hnew_;clear hg_ hnew_;(first|rw [←Ny101.out] at ho4|(simp only [Int.reduceToNat] at ho4;rw [←Ny101.out] at ho4));have n0_:=Aside0.mk (Kd.S_lower ho4 (keep_size (w:=w) (g:=g) (row:=none) ze));have n1_:=Aside0.mk (IsS82.below zg hb);have n2_:=Aside0.mk (KeepBut.trans ze (KeepBut.of_below hb g none) (.inl rfl));have n3_:=Aside0.mk (below_step zf hb);clear HI0;clear HK;clear HB;have HO103:=n0_;have HI0:=n1_;have HK:=n2_;have HB:=n3_;clear n0_ n1_ n2_ n3_;clear hb ho4)|((with_reducible refine gate_callee (f:=47) rfl ?_);refine goesL_ (some 11) rfl rfl Tryd.func47 zaq rfl #[.pointer (some ⟨g,0,none⟩),.int .i64 6] rfl zd ?_;(with_reducible refine (spec_l00Src_pick.calls g s0_0 s0_1 s0_2 6 t104 t105 t106 w0 _ ?side1 ?side2 A2.out).mono ?_);(case side1=>exact zg);(case side2=>exact zf);rintro e w5 ⟨rfl,hi,hb,hk⟩;refine ⟨_,rfl,?_⟩;replace HO103:=Aside0.mk (Kd.S_mono (Kd.S_keep (IsS82.apartS (show IsS82 w0 _ g s0_0 s0_1 s0_2 from by repeat (first|(with_reducible first|exact HI0.out|apply IsS82.alloc|apply IsS82.drewN|apply IsS82.drew|apply IsS82.set_1|apply IsS82.set_2)|exact HI0.out)) (by (with_reducible repeat (first|apply Kd.S_alloc|apply Kd.S_drewN|apply Kd.S_drew));exact HO103.out) zbp) hk (fun _ h=>h.2)) (fun _ h=>h.1));replace HK:=Aside0.mk (KeepBut.trans ze hk (.inl rfl));replace HB:=Aside0.mk (hb);replace HI0:=Aside0.mk (hi);(try clear hb);(try clear hb2);(try clear hk);(try clear hi)))
 go_loopg [3,4] k (fun kq v3 v4 w'=>∃(x3_1:List (S48)) (x4_1:Int) (x1001_1:Int) (x1002_1:Int),v4 = .int .i64 x4_1∧Aside0 (spec_l27Draw.l0 kq x3_1 x4_1 s0_0 x1001_1 x1002_1=some (r1,r2,r3))∧Aside0 (kq≤k)∧Aside0 (Kd.S k48 48 w' w.heap.size (fun _=>True) v3 x3_1)∧Aside0 (IsS82 w0 w' g s0_0 x1001_1 x1002_1)∧Aside0 (KeepBut w w' g none)∧Aside0 (Below w0.heap.size w0 w'))
 case atStart=>exact ⟨(y101),(t104),(t105),(t106),zi,H',⟨Nat.le_refl _⟩,⟨by (with_reducible repeat (first|apply Kd.S_alloc|apply Kd.S_drewN|apply Kd.S_drew));exact HO103.out⟩,⟨zg⟩,⟨ze⟩,⟨zf⟩⟩
 case round=>
  clear H'
  try clear c2
  try clear p2
  try clear c4
  obtain ⟨x3_1,x4_1,x1001_1,x1002_1,rfl,HA,HK1,HO_3,HI0,HK,HB⟩:=hrel
  cases gk with
  | zero=>exact absurd HA.out (by simp [spec_l27Draw.l0])
  | succ k1=>
   have H:=HA.out
   clear HA
   simp only [spec_l27Draw.l0] at H
   by_cases c6:x4_1 > 0
   ·rw [if_pos c6] at H
    have c6b0:decide (0<x4_1)=true:=decide_eq_true c6
    clear c6
    replace H:=Option.bind_eq_some_iff.mp H
    obtain ⟨⟨t107,t108,t109⟩,A70,H⟩:=H
    replace H:((spec_l27DrawState.f k1 s0_0 t108 t109).bind fun bt110=>(if t107 > 0 then (if 0≤(wrap64 (t107 - 1)) then (if (wrap64 (t107 - 1))<(x3_1.length:Int) then ((spec_l27Changed.f k1 s0_0 bt110.2.1 bt110.2.2 ((rd_T48 x3_1 (wrap64 (t107 - 1))).f3)).bind fun bt116=>((spec_l00Src_text.f s0_0 bt116.2.1 bt116.2.2 (([(⟨#[]⟩:ByteArray),(⟨#[110,101,119]⟩:ByteArray),(⟨#[97,32,98]⟩:ByteArray)]:List ByteArray))).bind fun bt125=>(if x3_1.length<2513169434916 then (spec_l27Draw.l0 k1 (x3_1++[(⟨wrap64 ((x3_1.length:Int)+1),t107,bt125.1,bt116.1⟩:S48)]) (wrap64 (x4_1 - 1)) s0_0 bt125.2.1 bt125.2.2) else (none)))) else (none)) else (none)) else ((spec_l00Src_text.f s0_0 bt110.2.1 bt110.2.2 (([(⟨#[]⟩:ByteArray),(⟨#[110,101,119]⟩:ByteArray),(⟨#[97,32,98]⟩:ByteArray)]:List ByteArray))).bind fun bt135=>(if x3_1.length<2513169434916 then (spec_l27Draw.l0 k1 (x3_1++[(⟨wrap64 ((x3_1.length:Int)+1),t107,bt135.1,bt110.1⟩:S48)]) (wrap64 (x4_1 - 1)) s0_0 bt135.2.1 bt135.2.2) else (none)))))=some (r1,r2,r3):=H
    have A7:=Aside0.mk A70
    clear A70
    replace H:=Option.bind_eq_some_iff.mp H
    obtain ⟨⟨t110,t113,t114⟩,A80,H⟩:=H
    replace H:(if t107 > 0 then (if 0≤(wrap64 (t107 - 1)) then (if (wrap64 (t107 - 1))<(x3_1.length:Int) then ((spec_l27Changed.f k1 s0_0 t113 t114 ((rd_T48 x3_1 (wrap64 (t107 - 1))).f3)).bind fun bt116=>((spec_l00Src_text.f s0_0 bt116.2.1 bt116.2.2 (([(⟨#[]⟩:ByteArray),(⟨#[110,101,119]⟩:ByteArray),(⟨#[97,32,98]⟩:ByteArray)]:List ByteArray))).bind fun bt125=>(if x3_1.length<2513169434916 then (spec_l27Draw.l0 k1 (x3_1++[(⟨wrap64 ((x3_1.length:Int)+1),t107,bt125.1,bt116.1⟩:S48)]) (wrap64 (x4_1 - 1)) s0_0 bt125.2.1 bt125.2.2) else (none)))) else (none)) else (none)) else ((spec_l00Src_text.f s0_0 t113 t114 (([(⟨#[]⟩:ByteArray),(⟨#[110,101,119]⟩:ByteArray),(⟨#[97,32,98]⟩:ByteArray)]:List ByteArray))).bind fun bt135=>(if x3_1.length<2513169434916 then (spec_l27Draw.l0 k1 (x3_1++[(⟨wrap64 ((x3_1.length:Int)+1),t107,bt135.1,t110⟩:S48)]) (wrap64 (x4_1 - 1)) s0_0 bt135.2.1 bt135.2.2) else (none))))=some (r1,r2,r3):=H
    have A8:=Aside0.mk A80
    clear A80
    by_cases c9:t107 > 0
    ·rw [if_pos c9] at H
     have c9b0:decide (0<t107)=true:=decide_eq_true c9
     clear c9
     obtain ⟨ji10,hji10⟩:∃j_:Int,(wrap64 (t107 - 1))=j_:=⟨_,rfl⟩
     replace H:(if 0≤(ji10) then (if (ji10)<(x3_1.length:Int) then ((spec_l27Changed.f k1 s0_0 t113 t114 ((rd_T48 x3_1 (ji10)).f3)).bind fun bt116=>((spec_l00Src_text.f s0_0 bt116.2.1 bt116.2.2 (([(⟨#[]⟩:ByteArray),(⟨#[110,101,119]⟩:ByteArray),(⟨#[97,32,98]⟩:ByteArray)]:List ByteArray))).bind fun bt125=>(if x3_1.length<2513169434916 then (spec_l27Draw.l0 k1 (x3_1++[(⟨wrap64 ((x3_1.length:Int)+1),t107,bt125.1,bt116.1⟩:S48)]) (wrap64 (x4_1 - 1)) s0_0 bt125.2.1 bt125.2.2) else (none)))) else (none)) else (none))=some (r1,r2,r3):=by first|(rw [hji10] at H;exact H)|(simp only [hji10] at H ⊢;exact H)
     (try rw [hji10] at A7)
     (try rw [hji10] at A8)
     have hji10w:(IntKind.i64.wrap (t107 - 1))=ji10:=(i64_w _).trans hji10
     by_cases c11:0≤(ji10)
     ·rw [if_pos c11] at H
      have c11b0:decide (0≤(ji10))=true:=decide_eq_true c11
      clear c11
      by_cases c12:(ji10)<(x3_1.length:Int)
      ·rw [if_pos c12] at H
       have c12b0:decide ((ji10)<(x3_1.length:Int))=true:=decide_eq_true c12
       clear c12
       replace H:=Option.bind_eq_some_iff.mp H
       obtain ⟨⟨t116,t119,t120⟩,A130,H⟩:=H
       replace H:((spec_l00Src_text.f s0_0 t119 t120 (([(⟨#[]⟩:ByteArray),(⟨#[110,101,119]⟩:ByteArray),(⟨#[97,32,98]⟩:ByteArray)]:List ByteArray))).bind fun bt125=>(if x3_1.length<2513169434916 then (spec_l27Draw.l0 k1 (x3_1++[(⟨wrap64 ((x3_1.length:Int)+1),t107,bt125.1,t116⟩:S48)]) (wrap64 (x4_1 - 1)) s0_0 bt125.2.1 bt125.2.2) else (none)))=some (r1,r2,r3):=H
       have A13:=Aside0.mk A130
       clear A130
       obtain ⟨y122,hy122⟩:∃y_:List ByteArray,y_=(([(⟨#[]⟩:ByteArray),(⟨#[110,101,119]⟩:ByteArray),(⟨#[97,32,98]⟩:ByteArray)]:List ByteArray)):=⟨_,rfl⟩
       replace H:((spec_l00Src_text.f s0_0 t119 t120 y122).bind fun bt125=>(if x3_1.length<2513169434916 then (spec_l27Draw.l0 k1 (x3_1++[(⟨wrap64 ((x3_1.length:Int)+1),t107,bt125.1,t116⟩:S48)]) (wrap64 (x4_1 - 1)) s0_0 bt125.2.1 bt125.2.2) else (none)))=some (r1,r2,r3):=by first|(rw [hy122];with_reducible exact H)|(have H2_:=(Option.bind_some _ _).symm.trans H;rw [hy122];with_reducible exact H2_)|(have H2_:=(Option.bind_some _ _).symm.trans H;with_reducible exact H2_)|with_reducible exact H|(rw [hy122];exact H)|exact H
       have Ny122:=Aside0.mk hy122
       clear hy122
       replace H:=Option.bind_eq_some_iff.mp H
       obtain ⟨⟨t125,t126,t127⟩,A140,H⟩:=H
       replace H:(if x3_1.length<2513169434916 then (spec_l27Draw.l0 k1 (x3_1++[(⟨wrap64 ((x3_1.length:Int)+1),t107,t125,t116⟩:S48)]) (wrap64 (x4_1 - 1)) s0_0 t126 t127) else (none))=some (r1,r2,r3):=H
       have A14:=Aside0.mk A140
       clear A140
       by_cases c15:x3_1.length<2513169434916
       ·rw [if_pos c15] at H
        have LMc15:=Aside0.mk c15
        clear c15
        obtain ⟨y128,hy128⟩:∃y_:List (S48),y_=(x3_1++[(⟨wrap64 ((x3_1.length:Int)+1),t107,t125,t116⟩:S48)]):=⟨_,rfl⟩
        replace H:(spec_l27Draw.l0 k1 y128 (wrap64 (x4_1 - 1)) s0_0 t126 t127)=some (r1,r2,r3):=by first|(rw [hy128];with_reducible exact H)|(have H2_:=(Option.bind_some _ _).symm.trans H;rw [hy128];with_reducible exact H2_)|(have H2_:=(Option.bind_some _ _).symm.trans H;with_reducible exact H2_)|with_reducible exact H|(rw [hy128];exact H)|exact H
        have Ny128:=Aside0.mk hy128
        clear hy128
        have H':=Aside0.mk H
        clear H
        obtain ⟨Ao16,co16,eo16⟩:=Kd.S_slice HO_3.out
        subst eo16
        go_wp2_with (first|((with_reducible refine gate_callee (f:=47) rfl ?_);refine goesL_ (some 21) rfl rfl Tryd.func47 zaq rfl #[.pointer (some ⟨g,0,none⟩),.int .i64 (wrap64 ((x3_1.length:Int)+1))] rfl zd ?_;(with_reducible refine (spec_l00Src_pick.calls g s0_0 x1001_1 x1002_1 (wrap64 ((x3_1.length:Int)+1)) t107 t108 t109 w0 _ ?side1 ?side2 A7.out).mono ?_);(case side1=>exact zg);(case side2=>exact zf);rintro e w17 ⟨rfl,hi,hb,hk⟩;refine ⟨_,rfl,?_⟩;replace HO_3:=Aside0.mk (Kd.S_mono (Kd.S_keep (IsS82.apartS (show IsS82 w0 _ g s0_0 x1001_1 x1002_1 from by repeat (first|(with_reducible first|exact HI0.out|apply IsS82.alloc|apply IsS82.drewN|apply IsS82.drew|apply IsS82.set_1|apply IsS82.set_2)|exact HI0.out)) zar zbp) hk (fun _ h=>h.2)) (fun _ h=>h.1));replace HK:=Aside0.mk (KeepBut.trans ze hk (.inl rfl));replace HB:=Aside0.mk (hb);replace HI0:=Aside0.mk (hi);(try clear hb);(try clear hb2);(try clear hk);(try clear hi))|((with_reducible refine gate_callee (f:=22) rfl ?_);refine goesL_ (some 23) rfl rfl Tryd.func22 zaq rfl #[.pointer (some ⟨g,0,none⟩)] rfl zd ?_;(with_reducible refine (spec_l27DrawState.calls k1 g s0_0 t108 t109 t110 t113 t114 w0 _ ?side1 ?side2 A8.out).mono ?_);(case side1=>exact zg);(case side2=>exact zf);rintro e w18 ⟨v111,rfl,ho0,hi,hb,hk⟩;refine ⟨_,rfl,?_⟩;replace HO_3:=Aside0.mk (Kd.S_mono (Kd.S_told (Kd.S_oldK (IsS82.apartS (show IsS82 w0 _ g s0_0 t108 t109 from by repeat (first|(with_reducible first|exact HI0.out|apply IsS82.alloc|apply IsS82.drewN|apply IsS82.drew|apply IsS82.set_1|apply IsS82.set_2)|exact HI0.out)) zar zbp) hk) (Kd.R_base ho0)) (fun _ h_=>h_.1));have HO112:=Aside0.mk (Kd.R_lower ho0 (keep_size (w:=w) (g:=g) (row:=none) ze));replace HK:=Aside0.mk (KeepBut.trans ze hk (.inl rfl));replace HB:=Aside0.mk (hb);replace HI0:=Aside0.mk (hi);(try clear hb);(try clear hb2);(try clear hk);(try clear hi);(try clear ho0);have p115:0≤((ji10):Int):=of_decide_eq_true zb;have q115:(ji10)<(x3_1.length:Int):=of_decide_eq_true zb;obtain ⟨ad115,A115_3,c115_3,e115,hx115_0,hx115_1,hx115_2,hx115_3,hl115_3,hi115_3⟩:=at_T48 (Kd.S_reads' HO_3.out).2.2 (ji10) p115 q115;cases e115;obtain ⟨ce115,hce115,hMe115,hcc115⟩:=Kd.S_get HO_3.out z48 (ji10) p115 (by first|exact q115|exact of_decide_eq_true zb|(have e_:=(Kd.S_reads' HO_3.out).1;omega));obtain ⟨ve115_3,rfl,ge115_3⟩:=k48_openM hMe115;have hv115_3:=hcc115 3 _ rfl;rw [add_field _ _ 3 zbn] at hv115_3;replace hv115_3:=Option.some.inj (hv115_3.symm.trans hx115_3);rw [hv115_3] at ge115_3;have HL115_3:=Aside0.mk (show Kd.R k57 57 _ _ _ _ ((rd_T48 x3_1 (ji10)).f3) from ge115_3);clear hv115_3 ge115_3;clear hcc115 hce115;have HR115_3:=Aside0.mk hi115_3;have HC115_3:=Aside0.mk hl115_3;clear hi115_3 hl115_3;replace p115:=eq_true p115;replace q115:=eq_true q115)|((with_reducible refine gate_callee (f:=23) rfl ?_);refine goesL_ (some 33) rfl rfl Tryd.func23 zaq rfl #[.pointer (some ⟨g,0,none⟩),.slice A115_3 ((rd_T48 x3_1 (ji10)).f3).length c115_3] rfl (by (try simp only [List.map_toArray,List.map_cons,List.map_nil]);first|done|(simp only [hji10];rfl)|rfl|(simp only [List.length_drop,List.length_take];rfl)) ?_;(with_reducible refine (spec_l27Changed.calls k1 g s0_0 t113 t114 _ _ ((rd_T48 x3_1 (ji10)).f3) t116 t119 t120 w0 _ ?side1 ?side2 ?side3 ?side4 A13.out).mono ?_);(case side1=>exact zg);(case side2=>exact zf);(case side3=>exact Kd.C_foot_own (IsS82.apart (show IsS82 w0 _ g s0_0 t113 t114 from by repeat (first|(with_reducible first|exact HI0.out|apply IsS82.alloc|apply IsS82.drewN|apply IsS82.drew|apply IsS82.set_1|apply IsS82.set_2)|exact HI0.out)) zch zbp) (fun _ h_=>h_.2));(case side4=>exact HC115_3.out);rintro e w19 ⟨v117,rfl,ho0,hi,hb,hk⟩;refine ⟨_,rfl,?_⟩;have n0_:=Aside0.mk (Kd.S_mono (Kd.S_told (Kd.S_oldK (IsS82.apartS (show IsS82 w0 _ g s0_0 t113 t114 from by repeat (first|(with_reducible first|exact HI0.out|apply IsS82.alloc|apply IsS82.drewN|apply IsS82.drew|apply IsS82.set_1|apply IsS82.set_2)|exact HI0.out)) zar zbp) hk) (Kd.R_base ho0)) (fun _ h_=>h_.1));have n1_:=Aside0.mk (Kd.R_mono (Kd.R_told (Kd.R_oldK (IsS82.apart (show IsS82 w0 _ g s0_0 t113 t114 from by repeat (first|(with_reducible first|exact HI0.out|apply IsS82.alloc|apply IsS82.drewN|apply IsS82.drew|apply IsS82.set_1|apply IsS82.set_2)|exact HI0.out)) zbq zbp) hk) (Kd.R_base ho0)) (fun _ h_=>h_.1));have n2_:=Aside0.mk (Kd.R_mono (Kd.R_told (Kd.R_oldK (IsS82.apart (show IsS82 w0 _ g s0_0 t113 t114 from by repeat (first|(with_reducible first|exact HI0.out|apply IsS82.alloc|apply IsS82.drewN|apply IsS82.drew|apply IsS82.set_1|apply IsS82.set_2)|exact HI0.out)) zch zbp) hk) (Kd.R_base ho0)) (fun _ h_=>h_.1));have n3_:=Aside0.mk (Kd.R_lower (Kd.R_new' (Kd.R_new' ho0 (Kd.R_lt zbq)) (Kd.R_lt zch)) (keep_size (w:=w) (g:=g) (row:=none) ze));have n4_:=Aside0.mk (KeepBut.trans ze hk (.inl rfl));have n5_:=Aside0.mk (hb);have n6_:=Aside0.mk (hi);clear HO_3;clear HO112;clear HL115_3;clear HK;clear HB;clear HI0;have HO_3:=n0_;have HO112:=n1_;have HL115_3:=n2_;have HO118:=n3_;have HK:=n4_;have HB:=n5_;have HI0:=n6_;clear n0_ n1_ n2_ n3_ n4_ n5_ n6_;(try clear hb);(try clear hb2);(try clear hk);(try clear hi);(try clear ho0);obtain ⟨Ao20,co20,eo20⟩:=Kd.R_slice HO118.out;subst eo20)|((with_reducible refine gate_dst (N:=8) rfl ?_);refine box_event ?hg (N:=8) ?hd (cs:=#[.int .i64 0,.int .i64 0,.string (⟨#[]⟩:ByteArray),.slice none 0 0]) (t:=48) ?hr ?_;(case hd=>rfl);(case hg=>rfl);(case hr=>exact zv);intro gb121 hg w21 hbox hb;have n0_:=Aside0.mk (Kd.S_below (Kd.S_elderB zar gb121 (Nat.le_of_eq hg.symm)) hb);have n1_:=Aside0.mk (Kd.R_below zbq hb);have n2_:=Aside0.mk (Kd.R_below zch hb);have n3_:=Aside0.mk (Kd.R_below (by (with_reducible repeat (first|apply Kd.R_alloc|apply Kd.R_drewN|apply Kd.R_drew));exact HO118.out) hb);have n4_:=Aside0.mk (IsS82.below zg hb);have n5_:=Aside0.mk (KeepBut.trans ze (KeepBut.of_below hb g none) (.inl rfl));have n6_:=Aside0.mk (below_step zf hb);have n7_:=Aside0.mk (hbox);have n8_:=Aside0.mk ((by rw [hg];exact (keep_size (w:=w) (g:=g) (row:=none) ze):w.heap.size≤gb121));have n9_:=Aside0.mk ((Nat.le_trans HW0.out (by rw [hg];exact (keep_size (w:=w) (g:=g) (row:=none) ze):w.heap.size≤gb121):w0.heap.size≤gb121));have n10_:=Aside0.mk ((by rw [hg];exact Nat.ne_of_lt (IsS82.lt (show IsS82 w0 _ g s0_0 t119 t120 from by repeat (first|(with_reducible first|exact HI0.out|apply IsS82.alloc|apply IsS82.drewN|apply IsS82.drew|apply IsS82.set_1|apply IsS82.set_2)|exact HI0.out))):g≠gb121));have n11_:=Aside0.mk ((by rw [hg];exact Nat.ne_of_gt (IsS82.lt (show IsS82 w0 _ g s0_0 t119 t120 from by repeat (first|(with_reducible first|exact HI0.out|apply IsS82.alloc|apply IsS82.drewN|apply IsS82.drew|apply IsS82.set_1|apply IsS82.set_2)|exact HI0.out))):gb121≠g));clear HO_3;clear HO112;clear HL115_3;clear HO118;clear HI0;clear HK;clear HB;have HO_3:=n0_;have HO112:=n1_;have HL115_3:=n2_;have HO118:=n3_;have HI0:=n4_;have HK:=n5_;have HB:=n6_;have BK121:=n7_;have GW121:=n8_;have GE121:=n9_;have NB0_121:=n10_;have NB121_0:=n11_;clear n0_ n1_ n2_ n3_ n4_ n5_ n6_ n7_ n8_ n9_ n10_ n11_;clear hb hbox hg;have hnb22:=NB121_0.out;have hnc22:=NB0_121.out;have hcz23_0:w21.cell? ⟨gb121,0,none⟩=some (.int .i64 0):=(blk_cell BK121.out 0).trans rfl;have hcz23_1:w21.cell? ⟨gb121,1,none⟩=some (.int .i64 0):=(blk_cell BK121.out 1).trans rfl;have hcz23_2:w21.cell? ⟨gb121,2,none⟩=some (.string (⟨#[]⟩:ByteArray)):=(blk_cell BK121.out 2).trans rfl;have hcz23_3:w21.cell? ⟨gb121,3,none⟩=some (.slice none 0 0):=(blk_cell BK121.out 3).trans rfl;have hfz23_0:=blk_frozen BK121.out 0;have hfz23_1:=blk_frozen BK121.out 1;have hfz23_2:=blk_frozen BK121.out 2;have hfz23_3:=blk_frozen BK121.out 3)|((with_reducible refine gate_dst (N:=40) rfl ?_);refine Kd.R_lit Kd.string _ 9 ?hg (N:=40) ?hd (xs:=([(⟨#[]⟩:ByteArray),(⟨#[110,101,119]⟩:ByteArray),(⟨#[97,32,98]⟩:ByteArray)]:List ByteArray)) (inner:=[.string (⟨#[]⟩:ByteArray),.string (⟨#[110,101,119]⟩:ByteArray),.string (⟨#[97,32,98]⟩:ByteArray)]) (ok:=fun _=>True) (okp:=fun _=>True) ?hr ?hp (fun _ hk=>hk) trivial (Below.refl _ _) (Nat.le_refl _) zca ?_;(case hd=>rfl);(case hg=>rfl);(case hr=>exact zv);(case hp=>exact (Reps.one (show Kd.M Kd.string _ _ _ (⟨#[]⟩:ByteArray) [.string (⟨#[]⟩:ByteArray)] from rfl) (Reps.one (show Kd.M Kd.string _ _ _ (⟨#[110,101,119]⟩:ByteArray) [.string (⟨#[110,101,119]⟩:ByteArray)] from rfl) (Reps.one (show Kd.M Kd.string _ _ _ (⟨#[97,32,98]⟩:ByteArray) [.string (⟨#[97,32,98]⟩:ByteArray)] from rfl) (Reps.none _ _)))));intro v123 w24 ho25 hb hg_ hnew_;clear hg_ hnew_;(first|rw [←Ny122.out] at ho25|(simp only [Int.reduceToNat] at ho25;rw [←Ny122.out] at ho25));have n0_:=Aside0.mk (Kd.S_below (by (with_reducible repeat (first|apply Kd.S_alloc|apply Kd.S_drewN|apply Kd.S_drew));exact (Kd.S_mono (Kd.S_far (p:=⟨gb121,3,none⟩) (Kd.S_far (p:=⟨gb121,2,none⟩) (Kd.S_far (p:=⟨gb121,1,none⟩) (Kd.S_far (p:=⟨gb121,0,none⟩) (Kd.S_mono HO_3.out (fun k_ hk=>(⟨hk,hk.2⟩:_∧k_≠gb121))) (fun _ hk=>hk.2) (.int .i64 (wrap64 ((x3_1.length:Int)+1)))) (fun _ hk=>hk.2) (.int .i64 t107)) (fun _ hk=>hk.2) (.string (⟨#[]⟩:ByteArray))) (fun _ hk=>hk.2) (.slice Ao20 t116.length co20)) (fun _ h_=>h_.1))) hb);have n1_:=Aside0.mk (Kd.R_below (by (with_reducible repeat (first|apply Kd.R_alloc|apply Kd.R_drewN|apply Kd.R_drew));exact (Kd.R_mono (Kd.R_far (p:=⟨gb121,3,none⟩) (Kd.R_far (p:=⟨gb121,2,none⟩) (Kd.R_far (p:=⟨gb121,1,none⟩) (Kd.R_far (p:=⟨gb121,0,none⟩) (Kd.R_types HO112.out BK121.out zbp) (fun _ hk=>hk.2) (.int .i64 (wrap64 ((x3_1.length:Int)+1)))) (fun _ hk=>hk.2) (.int .i64 t107)) (fun _ hk=>hk.2) (.string (⟨#[]⟩:ByteArray))) (fun _ hk=>hk.2) (.slice Ao20 t116.length co20)) (fun _ h_=>h_.1))) hb);have n2_:=Aside0.mk (Kd.R_below (by (with_reducible repeat (first|apply Kd.R_alloc|apply Kd.R_drewN|apply Kd.R_drew));exact (Kd.R_mono (Kd.R_far (p:=⟨gb121,3,none⟩) (Kd.R_far (p:=⟨gb121,2,none⟩) (Kd.R_far (p:=⟨gb121,1,none⟩) (Kd.R_far (p:=⟨gb121,0,none⟩) (Kd.R_types HL115_3.out BK121.out zbp) (fun _ hk=>hk.2) (.int .i64 (wrap64 ((x3_1.length:Int)+1)))) (fun _ hk=>hk.2) (.int .i64 t107)) (fun _ hk=>hk.2) (.string (⟨#[]⟩:ByteArray))) (fun _ hk=>hk.2) (.slice Ao20 t116.length co20)) (fun _ h_=>h_.1))) hb);have n3_:=Aside0.mk (Kd.R_below (by (with_reducible repeat (first|apply Kd.R_alloc|apply Kd.R_drewN|apply Kd.R_drew));exact (Kd.R_mono (Kd.R_far (p:=⟨gb121,3,none⟩) (Kd.R_far (p:=⟨gb121,2,none⟩) (Kd.R_far (p:=⟨gb121,1,none⟩) (Kd.R_far (p:=⟨gb121,0,none⟩) (Kd.R_types HO118.out BK121.out zbp) (fun _ hk=>hk.2) (.int .i64 (wrap64 ((x3_1.length:Int)+1)))) (fun _ hk=>hk.2) (.int .i64 t107)) (fun _ hk=>hk.2) (.string (⟨#[]⟩:ByteArray))) (fun _ hk=>hk.2) (.slice Ao20 t116.length co20)) (fun _ h_=>h_.1))) hb);have n4_:=Aside0.mk (Kd.R_lower ho25 (keep_size (w:=w) (g:=g) (row:=none) zat));have n5_:=Aside0.mk (IsS82.below (show IsS82 w0 ((((w21.setCell ⟨gb121,0,none⟩ (.int .i64 (wrap64 ((x3_1.length:Int)+1)))).setCell ⟨gb121,1,none⟩ (.int .i64 t107)).setCell ⟨gb121,2,none⟩ (.string (⟨#[]⟩:ByteArray))).setCell ⟨gb121,3,none⟩ (.slice Ao20 t116.length co20)) g s0_0 t119 t120 from by repeat (first|(with_reducible first|exact HI0.out|apply IsS82.alloc|apply IsS82.drewN|apply IsS82.drew|apply IsS82.set_1|apply IsS82.set_2|refine IsS82.far ?_ NB0_121.out _)|exact HI0.out)) hb);have n6_:=Aside0.mk (blk_below (g:=gb121) (o:=.cells #[.int .i64 (wrap64 ((x3_1.length:Int)+1)),.int .i64 t107,.string (⟨#[]⟩:ByteArray),.slice Ao20 t116.length co20] 48 (0,0)) (by (with_reducible repeat (first|refine blk_drewN ?_ _|refine blk_drew ?_|refine blk_alloc ?_ _));refine blk_put (cs:=#[.int .i64 (wrap64 ((x3_1.length:Int)+1)),.int .i64 t107,.string (⟨#[]⟩:ByteArray),.slice none 0 0]) ?_ 3 _ rfl;(with_reducible repeat (first|refine blk_drewN ?_ _|refine blk_drew ?_|refine blk_alloc ?_ _));refine blk_put (cs:=#[.int .i64 (wrap64 ((x3_1.length:Int)+1)),.int .i64 t107,.string (⟨#[]⟩:ByteArray),.slice none 0 0]) ?_ 2 _ rfl;(with_reducible repeat (first|refine blk_drewN ?_ _|refine blk_drew ?_|refine blk_alloc ?_ _));refine blk_put (cs:=#[.int .i64 (wrap64 ((x3_1.length:Int)+1)),.int .i64 0,.string (⟨#[]⟩:ByteArray),.slice none 0 0]) ?_ 1 _ rfl;(with_reducible repeat (first|refine blk_drewN ?_ _|refine blk_drew ?_|refine blk_alloc ?_ _));refine blk_put (cs:=#[.int .i64 0,.int .i64 0,.string (⟨#[]⟩:ByteArray),.slice none 0 0]) ?_ 0 _ rfl;(with_reducible repeat (first|refine blk_drewN ?_ _|refine blk_drew ?_|refine blk_alloc ?_ _));exact BK121.out) hb);have n7_:=Aside0.mk (KeepBut.trans zat (KeepBut.of_below hb g none) (.inl rfl));have n8_:=Aside0.mk (below_step zbl hb);clear HO_3;clear HO112;clear HL115_3;clear HO118;clear HI0;clear BK121;clear HK;clear HB;have HO_3:=n0_;have HO112:=n1_;have HL115_3:=n2_;have HO118:=n3_;have HO124:=n4_;have HI0:=n5_;have BK121:=n6_;have HK:=n7_;have HB:=n8_;clear n0_ n1_ n2_ n3_ n4_ n5_ n6_ n7_ n8_;clear hb ho25;obtain ⟨Ao26,co26,eo26⟩:=Kd.R_slice HO124.out;subst eo26)|((with_reducible refine gate_callee (f:=48) rfl ?_);refine goesL_ (some 41) rfl rfl Tryd.func48 zaq rfl #[.pointer (some ⟨g,0,none⟩),.slice Ao26 y122.length co26] rfl zd ?_;(with_reducible refine (spec_l00Src_text.calls g s0_0 t119 t120 _ _ y122 t125 t126 t127 w0 _ ?side1 ?side2 ?side3 ?side4 ?side5 A14.out).mono ?_);(case side1=>exact zbs);(case side2=>exact zbl);(case side3=>repeat (first|exact (Kd.R_reads' HO124.out).2.2|(with_reducible refine Kd.C_alloc ?_ _)|(with_reducible refine Kd.C_drewN ?_ _)|(with_reducible refine Kd.C_drew ?_)));(case side4=>exact (Kd.R_reads' HO124.out).2.1);(case side5=>exact far_slice (IsS82.own_ne HI0.out HO124.out zbp));rintro e w27 ⟨rfl,hi,hb,hk⟩;refine ⟨_,rfl,?_⟩;replace HO_3:=Aside0.mk (Kd.S_mono (Kd.S_keep (IsS82.apartS (show IsS82 w0 _ g s0_0 t119 t120 from by repeat (first|(with_reducible first|exact HI0.out|apply IsS82.alloc|apply IsS82.drewN|apply IsS82.drew|apply IsS82.set_1|apply IsS82.set_2|refine IsS82.far ?_ NB0_121.out _)|exact HI0.out)) zar zbp) hk (fun _ h=>h.2)) (fun _ h=>h.1));replace HO112:=Aside0.mk (Kd.R_mono (Kd.R_keep (IsS82.apart (show IsS82 w0 _ g s0_0 t119 t120 from by repeat (first|(with_reducible first|exact HI0.out|apply IsS82.alloc|apply IsS82.drewN|apply IsS82.drew|apply IsS82.set_1|apply IsS82.set_2|refine IsS82.far ?_ NB0_121.out _)|exact HI0.out)) zbq zbp) hk (fun _ h=>h.2)) (fun _ h=>h.1));replace HL115_3:=Aside0.mk (Kd.R_mono (Kd.R_keep (IsS82.apart (show IsS82 w0 _ g s0_0 t119 t120 from by repeat (first|(with_reducible first|exact HI0.out|apply IsS82.alloc|apply IsS82.drewN|apply IsS82.drew|apply IsS82.set_1|apply IsS82.set_2|refine IsS82.far ?_ NB0_121.out _)|exact HI0.out)) zch zbp) hk (fun _ h=>h.2)) (fun _ h=>h.1));replace HO118:=Aside0.mk (Kd.R_mono (Kd.R_keep (IsS82.apart (show IsS82 w0 _ g s0_0 t119 t120 from by repeat (first|(with_reducible first|exact HI0.out|apply IsS82.alloc|apply IsS82.drewN|apply IsS82.drew|apply IsS82.set_1|apply IsS82.set_2|refine IsS82.far ?_ NB0_121.out _)|exact HI0.out)) (by (with_reducible repeat (first|apply Kd.R_alloc|apply Kd.R_drewN|apply Kd.R_drew));exact HO118.out) zbp) hk (fun _ h=>h.2)) (fun _ h=>h.1));replace BK121:=Aside0.mk (KeepBut.blk hk (g':=gb121) (o:=.cells #[.int .i64 (wrap64 ((x3_1.length:Int)+1)),.int .i64 t107,.string (⟨#[]⟩:ByteArray),.slice Ao20 t116.length co20] 48 (0,0)) (by (with_reducible repeat (first|refine blk_drewN ?_ _|refine blk_drew ?_|refine blk_alloc ?_ _));exact BK121.out) NB121_0.out zca);replace HO124:=Aside0.mk (Kd.R_mono (Kd.R_keep (IsS82.apart (show IsS82 w0 _ g s0_0 t119 t120 from by repeat (first|(with_reducible first|exact HI0.out|apply IsS82.alloc|apply IsS82.drewN|apply IsS82.drew|apply IsS82.set_1|apply IsS82.set_2|refine IsS82.far ?_ NB0_121.out _)|exact HI0.out)) (by (with_reducible repeat (first|apply Kd.R_alloc|apply Kd.R_drewN|apply Kd.R_drew));exact HO124.out) zbp) hk (fun _ h=>h.2)) (fun _ h=>h.1));replace HK:=Aside0.mk (KeepBut.trans zat hk (.inl rfl));replace HB:=Aside0.mk (hb);replace HI0:=Aside0.mk (hi);(try clear hb);(try clear hb2);(try clear hk);(try clear hi);have hcz28_0:w27.cell? ⟨gb121,0,none⟩=some (.int .i64 (wrap64 ((x3_1.length:Int)+1))):=(blk_cell BK121.out 0).trans rfl;have hcz28_1:w27.cell? ⟨gb121,1,none⟩=some (.int .i64 t107):=(blk_cell BK121.out 1).trans rfl;have hcz28_2:w27.cell? ⟨gb121,2,none⟩=some (.string (⟨#[]⟩:ByteArray)):=(blk_cell BK121.out 2).trans rfl;have hcz28_3:w27.cell? ⟨gb121,3,none⟩=some (.slice Ao20 t116.length co20):=(blk_cell BK121.out 3).trans rfl;have hfz28_0:=blk_frozen BK121.out 0;have hfz28_1:=blk_frozen BK121.out 1;have hfz28_2:=blk_frozen BK121.out 2;have hfz28_3:=blk_frozen BK121.out 3)|((with_reducible refine gate_store (t:=9) (p:=42) rfl ?_);refine store_event (t:=9) (p:=42) (v:=?vo_w29) (w1:=(w27.setCell ⟨gb121,2,none⟩ (.string t125))) ?hg ?ho ?hn ?hr ?_;(case ho=>rfl);(case hg=>rfl);(case hn=>rfl);(case hr=>exact zv);intro w29 hw;have n0_:Aside0 (Kd.S k48 48 w29 w.heap.size (fun k_=>some k_≠(v111:Value).ownBlock∧some k_≠(.slice Ao20 t116.length co20:Value).ownBlock∧k_≠gb121) (.slice (some ad115) x3_1.length co16) x3_1):=⟨(by rw [hw];exact (by (with_reducible repeat (first|apply Kd.S_alloc|apply Kd.S_drewN|apply Kd.S_drew));exact Kd.S_mono (Kd.S_far (p:=⟨gb121,2,none⟩) (Kd.S_mono HO_3.out (fun k_ hk=>(⟨hk,hk.2⟩:_∧k_≠gb121))) (fun _ hk=>hk.2) (.string t125)) (fun _ hk=>⟨hk.1.1.1.2,⟨hk.1.1.2,hk.1.2⟩⟩)))⟩;have n1_:Aside0 (Kd.R k57 57 w29 w.heap.size (fun k_=>some k_≠(.slice Ao20 t116.length co20:Value).ownBlock) v111 t110):=⟨(by rw [hw];exact (by (with_reducible repeat (first|apply Kd.R_alloc|apply Kd.R_drewN|apply Kd.R_drew));exact Kd.R_mono (Kd.R_far (p:=⟨gb121,2,none⟩) (Kd.R_types HO112.out BK121.out zbp) (fun _ hk=>hk.2) (.string t125)) (fun _ hk=>hk.1.2)))⟩;have n2_:Aside0 (Kd.R k57 57 w29 w.heap.size (fun k_=>some k_≠(.slice (some ad115) x3_1.length co16:Value).ownBlock∧some k_≠(v111:Value).ownBlock∧some k_≠(.slice Ao20 t116.length co20:Value).ownBlock) (.slice A115_3 ((rd_T48 x3_1 (ji10)).f3).length c115_3) ((rd_T48 x3_1 (ji10)).f3)):=⟨(by rw [hw];exact (by (with_reducible repeat (first|apply Kd.R_alloc|apply Kd.R_drewN|apply Kd.R_drew));exact Kd.R_mono (Kd.R_far (p:=⟨gb121,2,none⟩) (Kd.R_types HL115_3.out BK121.out zbp) (fun _ hk=>hk.2) (.string t125)) (fun _ hk=>⟨hk.1.1.2,⟨hk.1.1.1.2,hk.1.2⟩⟩)))⟩;have n3_:Aside0 (Kd.R k57 57 w29 w.heap.size (fun k_=>some k_≠(v111:Value).ownBlock∧some k_≠(.slice A115_3 ((rd_T48 x3_1 (ji10)).f3).length c115_3:Value).ownBlock) (.slice Ao20 t116.length co20) t116):=⟨(by rw [hw];exact (by (with_reducible repeat (first|apply Kd.R_alloc|apply Kd.R_drewN|apply Kd.R_drew));exact Kd.R_mono (Kd.R_far (p:=⟨gb121,2,none⟩) (Kd.R_types HO118.out BK121.out zbp) (fun _ hk=>hk.2) (.string t125)) (fun _ hk=>⟨hk.1.1.2,hk.1.2⟩)))⟩;have n4_:Aside0 (Kd.R Kd.string 9 w29 w.heap.size (fun _=>True) (.slice Ao26 y122.length co26) y122):=⟨(by rw [hw];exact (by (with_reducible repeat (first|apply Kd.R_alloc|apply Kd.R_drewN|apply Kd.R_drew));exact Kd.R_mono (Kd.R_far (p:=⟨gb121,2,none⟩) (Kd.R_types HO124.out BK121.out zbp) (fun _ hk=>hk.2) (.string t125)) (fun _ hk=>trivial)))⟩;have n5_:Aside0 (w29.heap[gb121]?=some (.cells #[.int .i64 (wrap64 ((x3_1.length:Int)+1)),.int .i64 t107,.string t125,.slice Ao20 t116.length co20] 48 (0,0))):=⟨(by rw [hw];exact (by (with_reducible repeat (first|refine blk_drewN ?_ _|refine blk_drew ?_|refine blk_alloc ?_ _));refine blk_put (cs:=#[.int .i64 (wrap64 ((x3_1.length:Int)+1)),.int .i64 t107,.string (⟨#[]⟩:ByteArray),.slice Ao20 t116.length co20]) ?_ 2 _ rfl;(with_reducible repeat (first|refine blk_drewN ?_ _|refine blk_drew ?_|refine blk_alloc ?_ _));exact BK121.out))⟩;have n6_:Aside0 (IsS82 w0 w29 g s0_0 t126 t127):=⟨(by rw [hw];exact zbs)⟩;have n7_:Aside0 (KeepBut w w29 g none):=⟨(by rw [hw];exact zat)⟩;have n8_:Aside0 (Below w0.heap.size w0 w29):=⟨(by rw [hw];exact zbl)⟩;clear hw;clear HO_3;clear HO112;clear HL115_3;clear HO118;clear HO124;clear BK121;clear HI0;clear HK;clear HB;have HO_3:=n0_;have HO112:=n1_;have HL115_3:=n2_;have HO118:=n3_;have HO124:=n4_;have BK121:=n5_;have HI0:=n6_;have HK:=n7_;have HB:=n8_;clear n0_ n1_ n2_ n3_ n4_ n5_ n6_ n7_ n8_;have hcz30_0:w29.cell? ⟨gb121,0,none⟩=some (.int .i64 (wrap64 ((x3_1.length:Int)+1))):=(blk_cell BK121.out 0).trans rfl;have hcz30_1:w29.cell? ⟨gb121,1,none⟩=some (.int .i64 t107):=(blk_cell BK121.out 1).trans rfl;have hcz30_2:w29.cell? ⟨gb121,2,none⟩=some (.string t125):=(blk_cell BK121.out 2).trans rfl;have hcz30_3:w29.cell? ⟨gb121,3,none⟩=some (.slice Ao20 t116.length co20):=(blk_cell BK121.out 3).trans rfl;have hfz30_0:=blk_frozen BK121.out 0;have hfz30_1:=blk_frozen BK121.out 1;have hfz30_2:=blk_frozen BK121.out 2;have hfz30_3:=blk_frozen BK121.out 3)|((with_reducible refine gate_builtin (b:=.append) (xs:=#[.tmp 43,.tmp 45]) rfl ?_);at_builtin;refine Kd.S_append k48 w.heap.size rfl (.tmp 43) (.tmp 45) 24 48 (.agg #[(.int .i64 0),(.int .i64 0),(.string ⟨#[]⟩),(.slice none 0 0)]) 56 rfl Tryd.underlying24 info48 rfl zbp zbn (.slice (some ad115) x3_1.length co16) x3_1 (⟨wrap64 ((x3_1.length:Int)+1),t107,t125,t116⟩:S48) [.int .i64 (wrap64 ((x3_1.length:Int)+1)),.int .i64 t107,.string t125,.slice Ao20 t116.length co20] (fun k_=>some k_≠(v111:Value).ownBlock∧k_≠gb121) (fun k_=>some k_=(.slice Ao20 t116.length co20:Value).ownBlock) rfl rfl ?aP (fun k_ hk_=>((Kd.R_mono (ok':=fun k_=>((fun k_=>some k_≠(v111:Value).ownBlock∧k_≠gb121)) k_∧some k_≠(.slice (some ad115) x3_1.length co16:Value).ownBlock) (Kd.R_types (Kd.R_apart' (HO118.out) (Kd.S_typed HO_3.out) zbp) BK121.out zbp) (fun k_ hk=>⟨⟨hk.1.1.1,hk.2⟩,hk.1.2⟩))).1 k_ hk_.symm) ?aF ?aO (Below.refl _ _) ?aS ?aL ?_;(case aP=>exact k48_mkM _ _ _ (⟨wrap64 ((x3_1.length:Int)+1),t107,t125,t116⟩:S48) (Kd.R_mono (Kd.R_tight rfl (Kd.R_mono (ok':=fun k_=>((fun k_=>some k_≠(v111:Value).ownBlock∧k_≠gb121)) k_∧some k_≠(.slice (some ad115) x3_1.length co16:Value).ownBlock) (Kd.R_types (Kd.R_apart' (HO118.out) (Kd.S_typed HO_3.out) zbp) BK121.out zbp) (fun k_ hk=>⟨⟨hk.1.1.1,hk.2⟩,hk.1.2⟩))) (fun _ h_=>h_)));(case aF=>exact (fun k_ hk=>⟨Kd.fresh' (Kd.R_lt zbq) k_ hk,Kd.freshB (g:=gb121) (o:=.cells #[.int .i64 (wrap64 ((x3_1.length:Int)+1)),.int .i64 t107,.string t125,.slice Ao20 t116.length co20] 48 (0,0)) (by (with_reducible repeat (first|refine blk_drewN ?_ _|refine blk_drew ?_|refine blk_alloc ?_ _));exact BK121.out) k_ hk⟩));(case aO=>exact (by (with_reducible repeat (first|apply Kd.S_alloc|apply Kd.S_drewN|apply Kd.S_drew));exact Kd.S_mono HO_3.out (fun k_ hk=>⟨⟨hk.1,hk.2.2⟩,fun e_=>hk.2.1 e_⟩)));(case aS=>exact (keep_size (w:=w) (g:=g) (row:=none) zat));(case aL=>have:=LMc15.out;omega);intro v129 w31 ho hb hg hat;rw [←Ny128.out] at ho;have n0_:=Aside0.mk (IsS82.grown zbs hg (IsS82.own_neS HI0.out HO_3.out zbp));have n1_:=Aside0.mk (Kd.R_over' zbq (Kd.S_typed zar) zbp hg);have n2_:=Aside0.mk (Kd.R_after (ok:=(fun k_=>some k_≠(v111:Value).ownBlock∧some k_≠(.slice Ao20 t116.length co20:Value).ownBlock)) (by (with_reducible repeat (first|apply Kd.R_alloc|apply Kd.R_drewN|apply Kd.R_drew));exact Kd.R_mono HL115_3.out (fun _ hk=>⟨⟨hk.2.1,hk.2.2⟩,hk.1⟩)) hg hat);have n3_:=Aside0.mk (blk_grown (g:=gb121) (o:=.cells #[.int .i64 (wrap64 ((x3_1.length:Int)+1)),.int .i64 t107,.string t125,.slice Ao20 t116.length co20] 48 (0,0)) (by (with_reducible repeat (first|refine blk_drewN ?_ _|refine blk_drew ?_|refine blk_alloc ?_ _));exact BK121.out) hg (Kd.S_away HO_3.out (fun _ hk=>hk.2.2)));have n4_:=Aside0.mk (Kd.R_over' (by (with_reducible repeat (first|apply Kd.R_alloc|apply Kd.R_drewN|apply Kd.R_drew));exact HO124.out) (Kd.S_typed zar) zbp hg);have n5_:=Aside0.mk (below_weaken zbl HL.out hb);have n6_:=Aside0.mk (KeepBut.trans zat (KeepBut.of_grown hg g) (Kd.S_base2 HO_3.out));have n7_:=Aside0.mk (ho);clear HI0;clear HO112;clear HL115_3;clear BK121;clear HO124;clear HB;clear HK;clear HO_3;clear HO118;have HI0:=n0_;have HO112:=n1_;have HL115_3:=n2_;have BK121:=n3_;have HO124:=n4_;have HB:=n5_;have HK:=n6_;have HO130:=n7_;clear n0_ n1_ n2_ n3_ n4_ n5_ n6_ n7_;clear ho hb hg hat))
        go_roundg k1
        case measure=>have:=HK1.out;omega
        case rel=>exact ⟨(y128),(wrap64 (x4_1 - 1)),(t126),(t127),zi,H',⟨zci⟩,⟨by (with_reducible repeat (first|apply Kd.S_alloc|apply Kd.S_drewN|apply Kd.S_drew));exact Kd.S_mono HO130.out (fun _ hk=>trivial)⟩,⟨zbs⟩,⟨zat⟩,⟨zbl⟩⟩
       ·rw [if_neg c15] at H
        exact absurd H zca
      ·rw [if_neg c12] at H
       exact absurd H zca
     ·rw [if_neg c11] at H
      exact absurd H zca
    ·rw [if_neg c9] at H
     have c9b0:decide (0<t107)=false:=decide_eq_false c9
     clear c9
     obtain ⟨y132,hy132⟩:∃y_:List ByteArray,y_=(([(⟨#[]⟩:ByteArray),(⟨#[110,101,119]⟩:ByteArray),(⟨#[97,32,98]⟩:ByteArray)]:List ByteArray)):=⟨_,rfl⟩
     replace H:((spec_l00Src_text.f s0_0 t113 t114 y132).bind fun bt135=>(if x3_1.length<2513169434916 then (spec_l27Draw.l0 k1 (x3_1++[(⟨wrap64 ((x3_1.length:Int)+1),t107,bt135.1,t110⟩:S48)]) (wrap64 (x4_1 - 1)) s0_0 bt135.2.1 bt135.2.2) else (none)))=some (r1,r2,r3):=by first|(rw [hy132];with_reducible exact H)|(have H2_:=(Option.bind_some _ _).symm.trans H;rw [hy132];with_reducible exact H2_)|(have H2_:=(Option.bind_some _ _).symm.trans H;with_reducible exact H2_)|with_reducible exact H|(rw [hy132];exact H)|exact H
     have Ny132:=Aside0.mk hy132
     clear hy132
     replace H:=Option.bind_eq_some_iff.mp H
     obtain ⟨⟨t135,t136,t137⟩,A320,H⟩:=H
     replace H:(if x3_1.length<2513169434916 then (spec_l27Draw.l0 k1 (x3_1++[(⟨wrap64 ((x3_1.length:Int)+1),t107,t135,t110⟩:S48)]) (wrap64 (x4_1 - 1)) s0_0 t136 t137) else (none))=some (r1,r2,r3):=H
     have A32:=Aside0.mk A320
     clear A320
     by_cases c33:x3_1.length<2513169434916
     ·rw [if_pos c33] at H
      have LMc33:=Aside0.mk c33
      clear c33
      obtain ⟨y138,hy138⟩:∃y_:List (S48),y_=(x3_1++[(⟨wrap64 ((x3_1.length:Int)+1),t107,t135,t110⟩:S48)]):=⟨_,rfl⟩
      replace H:(spec_l27Draw.l0 k1 y138 (wrap64 (x4_1 - 1)) s0_0 t136 t137)=some (r1,r2,r3):=by first|(rw [hy138];with_reducible exact H)|(have H2_:=(Option.bind_some _ _).symm.trans H;rw [hy138];with_reducible exact H2_)|(have H2_:=(Option.bind_some _ _).symm.trans H;with_reducible exact H2_)|with_reducible exact H|(rw [hy138];exact H)|exact H
      have Ny138:=Aside0.mk hy138
      clear hy138
      have H':=Aside0.mk H
      clear H
      obtain ⟨Ao34,co34,eo34⟩:=Kd.S_slice HO_3.out
      subst eo34
      go_wp2_with (first|((with_reducible refine gate_callee (f:=47) rfl ?_);refine goesL_ (some 21) rfl rfl Tryd.func47 zaq rfl #[.pointer (some ⟨g,0,none⟩),.int .i64 (wrap64 ((x3_1.length:Int)+1))] rfl zd ?_;(with_reducible refine (spec_l00Src_pick.calls g s0_0 x1001_1 x1002_1 (wrap64 ((x3_1.length:Int)+1)) t107 t108 t109 w0 _ ?side1 ?side2 A7.out).mono ?_);(case side1=>exact zg);(case side2=>exact zf);rintro e w35 ⟨rfl,hi,hb,hk⟩;refine ⟨_,rfl,?_⟩;replace HO_3:=Aside0.mk (Kd.S_mono (Kd.S_keep (IsS82.apartS (show IsS82 w0 _ g s0_0 x1001_1 x1002_1 from by repeat (first|(with_reducible first|exact HI0.out|apply IsS82.alloc|apply IsS82.drewN|apply IsS82.drew|apply IsS82.set_1|apply IsS82.set_2)|exact HI0.out)) zar zbp) hk (fun _ h=>h.2)) (fun _ h=>h.1));replace HK:=Aside0.mk (KeepBut.trans ze hk (.inl rfl));replace HB:=Aside0.mk (hb);replace HI0:=Aside0.mk (hi);(try clear hb);(try clear hb2);(try clear hk);(try clear hi))|((with_reducible refine gate_callee (f:=22) rfl ?_);refine goesL_ (some 23) rfl rfl Tryd.func22 zaq rfl #[.pointer (some ⟨g,0,none⟩)] rfl zd ?_;(with_reducible refine (spec_l27DrawState.calls k1 g s0_0 t108 t109 t110 t113 t114 w0 _ ?side1 ?side2 A8.out).mono ?_);(case side1=>exact zg);(case side2=>exact zf);rintro e w36 ⟨v111,rfl,ho0,hi,hb,hk⟩;refine ⟨_,rfl,?_⟩;replace HO_3:=Aside0.mk (Kd.S_mono (Kd.S_told (Kd.S_oldK (IsS82.apartS (show IsS82 w0 _ g s0_0 t108 t109 from by repeat (first|(with_reducible first|exact HI0.out|apply IsS82.alloc|apply IsS82.drewN|apply IsS82.drew|apply IsS82.set_1|apply IsS82.set_2)|exact HI0.out)) zar zbp) hk) (Kd.R_base ho0)) (fun _ h_=>h_.1));have HO112:=Aside0.mk (Kd.R_lower ho0 (keep_size (w:=w) (g:=g) (row:=none) ze));replace HK:=Aside0.mk (KeepBut.trans ze hk (.inl rfl));replace HB:=Aside0.mk (hb);replace HI0:=Aside0.mk (hi);(try clear hb);(try clear hb2);(try clear hk);(try clear hi);(try clear ho0);obtain ⟨Ao37,co37,eo37⟩:=Kd.R_slice HO112.out;subst eo37)|((with_reducible refine gate_dst (N:=8) rfl ?_);refine box_event ?hg (N:=8) ?hd (cs:=#[.int .i64 0,.int .i64 0,.string (⟨#[]⟩:ByteArray),.slice none 0 0]) (t:=48) ?hr ?_;(case hd=>rfl);(case hg=>rfl);(case hr=>exact zv);intro gb131 hg w38 hbox hb;have n0_:=Aside0.mk (Kd.S_below (Kd.S_elderB zar gb131 (Nat.le_of_eq hg.symm)) hb);have n1_:=Aside0.mk (Kd.R_below zbq hb);have n2_:=Aside0.mk (IsS82.below zg hb);have n3_:=Aside0.mk (KeepBut.trans ze (KeepBut.of_below hb g none) (.inl rfl));have n4_:=Aside0.mk (below_step zf hb);have n5_:=Aside0.mk (hbox);have n6_:=Aside0.mk ((by rw [hg];exact (keep_size (w:=w) (g:=g) (row:=none) ze):w.heap.size≤gb131));have n7_:=Aside0.mk ((Nat.le_trans HW0.out (by rw [hg];exact (keep_size (w:=w) (g:=g) (row:=none) ze):w.heap.size≤gb131):w0.heap.size≤gb131));have n8_:=Aside0.mk ((by rw [hg];exact Nat.ne_of_lt (IsS82.lt (show IsS82 w0 _ g s0_0 t113 t114 from by repeat (first|(with_reducible first|exact HI0.out|apply IsS82.alloc|apply IsS82.drewN|apply IsS82.drew|apply IsS82.set_1|apply IsS82.set_2)|exact HI0.out))):g≠gb131));have n9_:=Aside0.mk ((by rw [hg];exact Nat.ne_of_gt (IsS82.lt (show IsS82 w0 _ g s0_0 t113 t114 from by repeat (first|(with_reducible first|exact HI0.out|apply IsS82.alloc|apply IsS82.drewN|apply IsS82.drew|apply IsS82.set_1|apply IsS82.set_2)|exact HI0.out))):gb131≠g));clear HO_3;clear HO112;clear HI0;clear HK;clear HB;have HO_3:=n0_;have HO112:=n1_;have HI0:=n2_;have HK:=n3_;have HB:=n4_;have BK131:=n5_;have GW131:=n6_;have GE131:=n7_;have NB0_131:=n8_;have NB131_0:=n9_;clear n0_ n1_ n2_ n3_ n4_ n5_ n6_ n7_ n8_ n9_;clear hb hbox hg;have hnb39:=NB131_0.out;have hnc39:=NB0_131.out;have hcz40_0:w38.cell? ⟨gb131,0,none⟩=some (.int .i64 0):=(blk_cell BK131.out 0).trans rfl;have hcz40_1:w38.cell? ⟨gb131,1,none⟩=some (.int .i64 0):=(blk_cell BK131.out 1).trans rfl;have hcz40_2:w38.cell? ⟨gb131,2,none⟩=some (.string (⟨#[]⟩:ByteArray)):=(blk_cell BK131.out 2).trans rfl;have hcz40_3:w38.cell? ⟨gb131,3,none⟩=some (.slice none 0 0):=(blk_cell BK131.out 3).trans rfl;have hfz40_0:=blk_frozen BK131.out 0;have hfz40_1:=blk_frozen BK131.out 1;have hfz40_2:=blk_frozen BK131.out 2;have hfz40_3:=blk_frozen BK131.out 3)|((with_reducible refine gate_dst (N:=40) rfl ?_);refine Kd.R_lit Kd.string _ 9 ?hg (N:=40) ?hd (xs:=([(⟨#[]⟩:ByteArray),(⟨#[110,101,119]⟩:ByteArray),(⟨#[97,32,98]⟩:ByteArray)]:List ByteArray)) (inner:=[.string (⟨#[]⟩:ByteArray),.string (⟨#[110,101,119]⟩:ByteArray),.string (⟨#[97,32,98]⟩:ByteArray)]) (ok:=fun _=>True) (okp:=fun _=>True) ?hr ?hp (fun _ hk=>hk) trivial (Below.refl _ _) (Nat.le_refl _) zca ?_;(case hd=>rfl);(case hg=>rfl);(case hr=>exact zv);(case hp=>exact (Reps.one (show Kd.M Kd.string _ _ _ (⟨#[]⟩:ByteArray) [.string (⟨#[]⟩:ByteArray)] from rfl) (Reps.one (show Kd.M Kd.string _ _ _ (⟨#[110,101,119]⟩:ByteArray) [.string (⟨#[110,101,119]⟩:ByteArray)] from rfl) (Reps.one (show Kd.M Kd.string _ _ _ (⟨#[97,32,98]⟩:ByteArray) [.string (⟨#[97,32,98]⟩:ByteArray)] from rfl) (Reps.none _ _)))));intro v133 w41 ho42 hb hg_ hnew_;clear hg_ hnew_;(first|rw [←Ny132.out] at ho42|(simp only [Int.reduceToNat] at ho42;rw [←Ny132.out] at ho42));have n0_:=Aside0.mk (Kd.S_below (by (with_reducible repeat (first|apply Kd.S_alloc|apply Kd.S_drewN|apply Kd.S_drew));exact (Kd.S_mono (Kd.S_far (p:=⟨gb131,3,none⟩) (Kd.S_far (p:=⟨gb131,2,none⟩) (Kd.S_far (p:=⟨gb131,1,none⟩) (Kd.S_far (p:=⟨gb131,0,none⟩) (Kd.S_mono HO_3.out (fun k_ hk=>(⟨hk,hk.2⟩:_∧k_≠gb131))) (fun _ hk=>hk.2) (.int .i64 (wrap64 ((x3_1.length:Int)+1)))) (fun _ hk=>hk.2) (.int .i64 t107)) (fun _ hk=>hk.2) (.string (⟨#[]⟩:ByteArray))) (fun _ hk=>hk.2) (.slice Ao37 t110.length co37)) (fun _ h_=>h_.1))) hb);have n1_:=Aside0.mk (Kd.R_below (by (with_reducible repeat (first|apply Kd.R_alloc|apply Kd.R_drewN|apply Kd.R_drew));exact (Kd.R_mono (Kd.R_far (p:=⟨gb131,3,none⟩) (Kd.R_far (p:=⟨gb131,2,none⟩) (Kd.R_far (p:=⟨gb131,1,none⟩) (Kd.R_far (p:=⟨gb131,0,none⟩) (Kd.R_types HO112.out BK131.out zbp) (fun _ hk=>hk.2) (.int .i64 (wrap64 ((x3_1.length:Int)+1)))) (fun _ hk=>hk.2) (.int .i64 t107)) (fun _ hk=>hk.2) (.string (⟨#[]⟩:ByteArray))) (fun _ hk=>hk.2) (.slice Ao37 t110.length co37)) (fun _ h_=>h_.1))) hb);have n2_:=Aside0.mk (Kd.R_lower ho42 (keep_size (w:=w) (g:=g) (row:=none) zau));have n3_:=Aside0.mk (IsS82.below (show IsS82 w0 ((((w38.setCell ⟨gb131,0,none⟩ (.int .i64 (wrap64 ((x3_1.length:Int)+1)))).setCell ⟨gb131,1,none⟩ (.int .i64 t107)).setCell ⟨gb131,2,none⟩ (.string (⟨#[]⟩:ByteArray))).setCell ⟨gb131,3,none⟩ (.slice Ao37 t110.length co37)) g s0_0 t113 t114 from by repeat (first|(with_reducible first|exact HI0.out|apply IsS82.alloc|apply IsS82.drewN|apply IsS82.drew|apply IsS82.set_1|apply IsS82.set_2|refine IsS82.far ?_ NB0_131.out _)|exact HI0.out)) hb);have n4_:=Aside0.mk (blk_below (g:=gb131) (o:=.cells #[.int .i64 (wrap64 ((x3_1.length:Int)+1)),.int .i64 t107,.string (⟨#[]⟩:ByteArray),.slice Ao37 t110.length co37] 48 (0,0)) (by (with_reducible repeat (first|refine blk_drewN ?_ _|refine blk_drew ?_|refine blk_alloc ?_ _));refine blk_put (cs:=#[.int .i64 (wrap64 ((x3_1.length:Int)+1)),.int .i64 t107,.string (⟨#[]⟩:ByteArray),.slice none 0 0]) ?_ 3 _ rfl;(with_reducible repeat (first|refine blk_drewN ?_ _|refine blk_drew ?_|refine blk_alloc ?_ _));refine blk_put (cs:=#[.int .i64 (wrap64 ((x3_1.length:Int)+1)),.int .i64 t107,.string (⟨#[]⟩:ByteArray),.slice none 0 0]) ?_ 2 _ rfl;(with_reducible repeat (first|refine blk_drewN ?_ _|refine blk_drew ?_|refine blk_alloc ?_ _));refine blk_put (cs:=#[.int .i64 (wrap64 ((x3_1.length:Int)+1)),.int .i64 0,.string (⟨#[]⟩:ByteArray),.slice none 0 0]) ?_ 1 _ rfl;(with_reducible repeat (first|refine blk_drewN ?_ _|refine blk_drew ?_|refine blk_alloc ?_ _));refine blk_put (cs:=#[.int .i64 0,.int .i64 0,.string (⟨#[]⟩:ByteArray),.slice none 0 0]) ?_ 0 _ rfl;(with_reducible repeat (first|refine blk_drewN ?_ _|refine blk_drew ?_|refine blk_alloc ?_ _));exact BK131.out) hb);have n5_:=Aside0.mk (KeepBut.trans zau (KeepBut.of_below hb g none) (.inl rfl));have n6_:=Aside0.mk (below_step zbm hb);clear HO_3;clear HO112;clear HI0;clear BK131;clear HK;clear HB;have HO_3:=n0_;have HO112:=n1_;have HO134:=n2_;have HI0:=n3_;have BK131:=n4_;have HK:=n5_;have HB:=n6_;clear n0_ n1_ n2_ n3_ n4_ n5_ n6_;clear hb ho42;obtain ⟨Ao43,co43,eo43⟩:=Kd.R_slice HO134.out;subst eo43)|((with_reducible refine gate_callee (f:=48) rfl ?_);refine goesL_ (some 41) rfl rfl Tryd.func48 zaq rfl #[.pointer (some ⟨g,0,none⟩),.slice Ao43 y132.length co43] rfl zd ?_;(with_reducible refine (spec_l00Src_text.calls g s0_0 t113 t114 _ _ y132 t135 t136 t137 w0 _ ?side1 ?side2 ?side3 ?side4 ?side5 A32.out).mono ?_);(case side1=>exact zbt);(case side2=>exact zbm);(case side3=>repeat (first|exact (Kd.R_reads' HO134.out).2.2|(with_reducible refine Kd.C_alloc ?_ _)|(with_reducible refine Kd.C_drewN ?_ _)|(with_reducible refine Kd.C_drew ?_)));(case side4=>exact (Kd.R_reads' HO134.out).2.1);(case side5=>exact far_slice (IsS82.own_ne HI0.out HO134.out zbp));rintro e w44 ⟨rfl,hi,hb,hk⟩;refine ⟨_,rfl,?_⟩;replace HO_3:=Aside0.mk (Kd.S_mono (Kd.S_keep (IsS82.apartS (show IsS82 w0 _ g s0_0 t113 t114 from by repeat (first|(with_reducible first|exact HI0.out|apply IsS82.alloc|apply IsS82.drewN|apply IsS82.drew|apply IsS82.set_1|apply IsS82.set_2|refine IsS82.far ?_ NB0_131.out _)|exact HI0.out)) zar zbp) hk (fun _ h=>h.2)) (fun _ h=>h.1));replace HO112:=Aside0.mk (Kd.R_mono (Kd.R_keep (IsS82.apart (show IsS82 w0 _ g s0_0 t113 t114 from by repeat (first|(with_reducible first|exact HI0.out|apply IsS82.alloc|apply IsS82.drewN|apply IsS82.drew|apply IsS82.set_1|apply IsS82.set_2|refine IsS82.far ?_ NB0_131.out _)|exact HI0.out)) zbq zbp) hk (fun _ h=>h.2)) (fun _ h=>h.1));replace BK131:=Aside0.mk (KeepBut.blk hk (g':=gb131) (o:=.cells #[.int .i64 (wrap64 ((x3_1.length:Int)+1)),.int .i64 t107,.string (⟨#[]⟩:ByteArray),.slice Ao37 t110.length co37] 48 (0,0)) (by (with_reducible repeat (first|refine blk_drewN ?_ _|refine blk_drew ?_|refine blk_alloc ?_ _));exact BK131.out) NB131_0.out zca);replace HO134:=Aside0.mk (Kd.R_mono (Kd.R_keep (IsS82.apart (show IsS82 w0 _ g s0_0 t113 t114 from by repeat (first|(with_reducible first|exact HI0.out|apply IsS82.alloc|apply IsS82.drewN|apply IsS82.drew|apply IsS82.set_1|apply IsS82.set_2|refine IsS82.far ?_ NB0_131.out _)|exact HI0.out)) (by (with_reducible repeat (first|apply Kd.R_alloc|apply Kd.R_drewN|apply Kd.R_drew));exact HO134.out) zbp) hk (fun _ h=>h.2)) (fun _ h=>h.1));replace HK:=Aside0.mk (KeepBut.trans zau hk (.inl rfl));replace HB:=Aside0.mk (hb);replace HI0:=Aside0.mk (hi);(try clear hb);(try clear hb2);(try clear hk);(try clear hi);have hcz45_0:w44.cell? ⟨gb131,0,none⟩=some (.int .i64 (wrap64 ((x3_1.length:Int)+1))):=(blk_cell BK131.out 0).trans rfl;have hcz45_1:w44.cell? ⟨gb131,1,none⟩=some (.int .i64 t107):=(blk_cell BK131.out 1).trans rfl;have hcz45_2:w44.cell? ⟨gb131,2,none⟩=some (.string (⟨#[]⟩:ByteArray)):=(blk_cell BK131.out 2).trans rfl;have hcz45_3:w44.cell? ⟨gb131,3,none⟩=some (.slice Ao37 t110.length co37):=(blk_cell BK131.out 3).trans rfl;have hfz45_0:=blk_frozen BK131.out 0;have hfz45_1:=blk_frozen BK131.out 1;have hfz45_2:=blk_frozen BK131.out 2;have hfz45_3:=blk_frozen BK131.out 3)|((with_reducible refine gate_store (t:=9) (p:=42) rfl ?_);refine store_event (t:=9) (p:=42) (v:=?vo_w46) (w1:=(w44.setCell ⟨gb131,2,none⟩ (.string t135))) ?hg ?ho ?hn ?hr ?_;(case ho=>rfl);(case hg=>rfl);(case hn=>rfl);(case hr=>exact zv);intro w46 hw;have n0_:Aside0 (Kd.S k48 48 w46 w.heap.size (fun k_=>some k_≠(.slice Ao37 t110.length co37:Value).ownBlock∧k_≠gb131) (.slice Ao34 x3_1.length co34) x3_1):=⟨(by rw [hw];exact (by (with_reducible repeat (first|apply Kd.S_alloc|apply Kd.S_drewN|apply Kd.S_drew));exact Kd.S_mono (Kd.S_far (p:=⟨gb131,2,none⟩) (Kd.S_mono HO_3.out (fun k_ hk=>(⟨hk,hk.2⟩:_∧k_≠gb131))) (fun _ hk=>hk.2) (.string t135)) (fun _ hk=>⟨hk.1.1.2,hk.1.2⟩)))⟩;have n1_:Aside0 (Kd.R k57 57 w46 w.heap.size (fun _=>True) (.slice Ao37 t110.length co37) t110):=⟨(by rw [hw];exact (by (with_reducible repeat (first|apply Kd.R_alloc|apply Kd.R_drewN|apply Kd.R_drew));exact Kd.R_mono (Kd.R_far (p:=⟨gb131,2,none⟩) (Kd.R_types HO112.out BK131.out zbp) (fun _ hk=>hk.2) (.string t135)) (fun _ hk=>trivial)))⟩;have n2_:Aside0 (Kd.R Kd.string 9 w46 w.heap.size (fun _=>True) (.slice Ao43 y132.length co43) y132):=⟨(by rw [hw];exact (by (with_reducible repeat (first|apply Kd.R_alloc|apply Kd.R_drewN|apply Kd.R_drew));exact Kd.R_mono (Kd.R_far (p:=⟨gb131,2,none⟩) (Kd.R_types HO134.out BK131.out zbp) (fun _ hk=>hk.2) (.string t135)) (fun _ hk=>trivial)))⟩;have n3_:Aside0 (w46.heap[gb131]?=some (.cells #[.int .i64 (wrap64 ((x3_1.length:Int)+1)),.int .i64 t107,.string t135,.slice Ao37 t110.length co37] 48 (0,0))):=⟨(by rw [hw];exact (by (with_reducible repeat (first|refine blk_drewN ?_ _|refine blk_drew ?_|refine blk_alloc ?_ _));refine blk_put (cs:=#[.int .i64 (wrap64 ((x3_1.length:Int)+1)),.int .i64 t107,.string (⟨#[]⟩:ByteArray),.slice Ao37 t110.length co37]) ?_ 2 _ rfl;(with_reducible repeat (first|refine blk_drewN ?_ _|refine blk_drew ?_|refine blk_alloc ?_ _));exact BK131.out))⟩;have n4_:Aside0 (IsS82 w0 w46 g s0_0 t136 t137):=⟨(by rw [hw];exact zbt)⟩;have n5_:Aside0 (KeepBut w w46 g none):=⟨(by rw [hw];exact zau)⟩;have n6_:Aside0 (Below w0.heap.size w0 w46):=⟨(by rw [hw];exact zbm)⟩;clear hw;clear HO_3;clear HO112;clear HO134;clear BK131;clear HI0;clear HK;clear HB;have HO_3:=n0_;have HO112:=n1_;have HO134:=n2_;have BK131:=n3_;have HI0:=n4_;have HK:=n5_;have HB:=n6_;clear n0_ n1_ n2_ n3_ n4_ n5_ n6_;have hcz47_0:w46.cell? ⟨gb131,0,none⟩=some (.int .i64 (wrap64 ((x3_1.length:Int)+1))):=(blk_cell BK131.out 0).trans rfl;have hcz47_1:w46.cell? ⟨gb131,1,none⟩=some (.int .i64 t107):=(blk_cell BK131.out 1).trans rfl;have hcz47_2:w46.cell? ⟨gb131,2,none⟩=some (.string t135):=(blk_cell BK131.out 2).trans rfl;have hcz47_3:w46.cell? ⟨gb131,3,none⟩=some (.slice Ao37 t110.length co37):=(blk_cell BK131.out 3).trans rfl;have hfz47_0:=blk_frozen BK131.out 0;have hfz47_1:=blk_frozen BK131.out 1;have hfz47_2:=blk_frozen BK131.out 2;have hfz47_3:=blk_frozen BK131.out 3)|((with_reducible refine gate_builtin (b:=.append) (xs:=#[.tmp 43,.tmp 45]) rfl ?_);at_builtin;refine Kd.S_append k48 w.heap.size rfl (.tmp 43) (.tmp 45) 24 48 (.agg #[(.int .i64 0),(.int .i64 0),(.string ⟨#[]⟩),(.slice none 0 0)]) 56 rfl Tryd.underlying24 info48 rfl zbp zbn (.slice Ao34 x3_1.length co34) x3_1 (⟨wrap64 ((x3_1.length:Int)+1),t107,t135,t110⟩:S48) [.int .i64 (wrap64 ((x3_1.length:Int)+1)),.int .i64 t107,.string t135,.slice Ao37 t110.length co37] (fun k_=>k_≠gb131) (fun k_=>some k_=(.slice Ao37 t110.length co37:Value).ownBlock) rfl rfl ?aP (fun k_ hk_=>((Kd.R_mono (ok':=fun k_=>((fun k_=>k_≠gb131)) k_∧some k_≠(.slice Ao34 x3_1.length co34:Value).ownBlock) (Kd.R_types (Kd.R_apart' (HO112.out) (Kd.S_typed HO_3.out) zbp) BK131.out zbp) (fun k_ hk=>⟨hk.2,hk.1.2⟩))).1 k_ hk_.symm) ?aF ?aO (Below.refl _ _) ?aS ?aL ?_;(case aP=>exact k48_mkM _ _ _ (⟨wrap64 ((x3_1.length:Int)+1),t107,t135,t110⟩:S48) (Kd.R_mono (Kd.R_tight rfl (Kd.R_mono (ok':=fun k_=>((fun k_=>k_≠gb131)) k_∧some k_≠(.slice Ao34 x3_1.length co34:Value).ownBlock) (Kd.R_types (Kd.R_apart' (HO112.out) (Kd.S_typed HO_3.out) zbp) BK131.out zbp) (fun k_ hk=>⟨hk.2,hk.1.2⟩))) (fun _ h_=>h_)));(case aF=>exact (fun k_ hk=>Kd.freshB (g:=gb131) (o:=.cells #[.int .i64 (wrap64 ((x3_1.length:Int)+1)),.int .i64 t107,.string t135,.slice Ao37 t110.length co37] 48 (0,0)) (by (with_reducible repeat (first|refine blk_drewN ?_ _|refine blk_drew ?_|refine blk_alloc ?_ _));exact BK131.out) k_ hk));(case aO=>exact (by (with_reducible repeat (first|apply Kd.S_alloc|apply Kd.S_drewN|apply Kd.S_drew));exact Kd.S_mono HO_3.out (fun k_ hk=>⟨hk.2,fun e_=>hk.1 e_⟩)));(case aS=>exact (keep_size (w:=w) (g:=g) (row:=none) zau));(case aL=>have:=LMc33.out;omega);intro v139 w48 ho hb hg hat;rw [←Ny138.out] at ho;have n0_:=Aside0.mk (IsS82.grown zbt hg (IsS82.own_neS HI0.out HO_3.out zbp));have n1_:=Aside0.mk (blk_grown (g:=gb131) (o:=.cells #[.int .i64 (wrap64 ((x3_1.length:Int)+1)),.int .i64 t107,.string t135,.slice Ao37 t110.length co37] 48 (0,0)) (by (with_reducible repeat (first|refine blk_drewN ?_ _|refine blk_drew ?_|refine blk_alloc ?_ _));exact BK131.out) hg (Kd.S_away HO_3.out (fun _ hk=>hk.2)));have n2_:=Aside0.mk (Kd.R_over' (by (with_reducible repeat (first|apply Kd.R_alloc|apply Kd.R_drewN|apply Kd.R_drew));exact HO134.out) (Kd.S_typed zar) zbp hg);have n3_:=Aside0.mk (below_weaken zbm HL.out hb);have n4_:=Aside0.mk (KeepBut.trans zau (KeepBut.of_grown hg g) (Kd.S_base2 HO_3.out));have n5_:=Aside0.mk (ho);clear HI0;clear BK131;clear HO134;clear HB;clear HK;clear HO_3;clear HO112;have HI0:=n0_;have BK131:=n1_;have HO134:=n2_;have HB:=n3_;have HK:=n4_;have HO140:=n5_;clear n0_ n1_ n2_ n3_ n4_ n5_;clear ho hb hg hat))
      go_roundg k1
      case measure=>have:=HK1.out;omega
      case rel=>exact ⟨(y138),(wrap64 (x4_1 - 1)),(t136),(t137),zi,H',⟨zci⟩,⟨by (with_reducible repeat (first|apply Kd.S_alloc|apply Kd.S_drewN|apply Kd.S_drew));exact Kd.S_mono HO140.out (fun _ hk=>trivial)⟩,⟨zbt⟩,⟨zau⟩,⟨zbm⟩⟩
     ·rw [if_neg c33] at H
      exact absurd H zca
   ·rw [if_neg c6] at H
    have c6b0:decide (0<x4_1)=false:=decide_eq_false c6
    clear c6
    simp only [Option.some.injEq,Prod.mk.injEq] at H
    obtain ⟨rfl,rfl,rfl⟩:=H
    go_wp2
    go_ret
    exact ⟨_,zj,zar,zg,zf,ze⟩

def spec_R8History.f (k:Nat) (l0:List Int):Option ((List (S48))):=(spec_l00From.f l0).bind fun bt101=>((spec_l27Draw.f k bt101.1 bt101.2.1 bt101.2.2).bind fun bt105=>(some bt105.1))
set_option maxHeartbeats 8000000 in
set_option maxRecDepth 100000 in
theorem spec_R8History.calls (k:Nat) (A0:Option Addr) (c0:Nat) (l0:List Int) (r:List (S48)) (w:World) (hr0:Kd.C (Kd.int .u8) w A0 l0.length l0) (hc0:l0.length≤c0) (h:spec_R8History.f k l0=some r) :
 Calls Tryd.prog 5 #[.slice A0 l0.length c0] w fun e w'=>∃v0_:Value,e = .returned (v0_)∧Kd.S k48 48 w' w.heap.size (fun _=>True) v0_ r∧Below w.heap.size w w':=by
 have HR0:=Aside0.mk hr0
 have HC0:=Aside0.mk hc0
 clear hr0 hc0
 have HB:=Aside0.mk (Below.refl w.heap.size w)
 have H:((spec_l00From.f l0).bind fun bt101=>((spec_l27Draw.f k bt101.1 bt101.2.1 bt101.2.2).bind fun bt105=>(some bt105.1)))=some r:=h
 clear h
 replace H:=Option.bind_eq_some_iff.mp H
 obtain ⟨⟨t101,t102,t103⟩,A20,H⟩:=H
 replace H:((spec_l27Draw.f k t101 t102 t103).bind fun bt105=>(some bt105.1))=some r:=H
 have A2:=Aside0.mk A20
 clear A20
 replace H:=Option.bind_eq_some_iff.mp H
 obtain ⟨⟨t105,t108,t109⟩,A30,H⟩:=H
 replace H:(some t105)=some r:=H
 have A3:=Aside0.mk A30
 clear A30
 obtain rfl:=Option.some.inj H
 go_enter Tryd.func5,Tryd.ntmps5
 go_wp2_with (first|((with_reducible refine gate_callee (f:=20) rfl ?_);refine goesL_ (some 5) rfl rfl Tryd.func20 zaq rfl #[.slice A0 l0.length c0] rfl zd ?_;(with_reducible refine (spec_l00From.calls _ _ l0 t101 t102 t103 w _ ?side1 ?side2 ?side3 A2.out).mono ?_);(case side1=>exact za);(case side2=>exact HR0.out);(case side3=>exact HC0.out);rintro e w4 ⟨g104,rfl,hi,hb,hb2⟩;refine ⟨_,rfl,?_⟩;replace HB:=Aside0.mk (hb);have HI104:=Aside0.mk (hi);(try clear hb);(try clear hb2);(try clear hk);(try clear hi))|((with_reducible refine gate_callee (f:=21) rfl ?_);refine goesL_ (some 7) rfl rfl Tryd.func21 zaq rfl #[.pointer (some ⟨g104,0,none⟩)] rfl zd ?_;(with_reducible refine (spec_l27Draw.calls k g104 t101 t102 t103 t105 t108 t109 w _ ?side1 ?side2 A3.out).mono ?_);(case side1=>exact zck);(case side2=>exact zal);rintro e w5 ⟨v106,rfl,ho0,hi,hb,hk⟩;refine ⟨_,rfl,?_⟩;have HO107:=Aside0.mk (Kd.S_lower ho0 (below_size zal));replace HB:=Aside0.mk (hb);replace HI104:=Aside0.mk (hi);(try clear hb);(try clear hb2);(try clear hk);(try clear hi);(try clear ho0)))
 go_ret
 exact ⟨_,zj,by (with_reducible repeat (first|apply Kd.S_alloc|apply Kd.S_drewN|apply Kd.S_drew));exact HO107.out,zal⟩

def spec_R8State.f (k:Nat) (l0:List Int):Option ((List (S57))):=(spec_l00From.f l0).bind fun bt101=>((spec_l27DrawState.f k bt101.1 bt101.2.1 bt101.2.2).bind fun bt105=>(some bt105.1))
set_option maxHeartbeats 8000000 in
set_option maxRecDepth 100000 in
theorem spec_R8State.calls (k:Nat) (A0:Option Addr) (c0:Nat) (l0:List Int) (r:List (S57)) (w:World) (hr0:Kd.C (Kd.int .u8) w A0 l0.length l0) (hc0:l0.length≤c0) (h:spec_R8State.f k l0=some r) :
 Calls Tryd.prog 6 #[.slice A0 l0.length c0] w fun e w'=>∃v0_:Value,e = .returned (v0_)∧Kd.R k57 57 w' w.heap.size (fun _=>True) v0_ r∧Below w.heap.size w w':=by
 have HR0:=Aside0.mk hr0
 have HC0:=Aside0.mk hc0
 clear hr0 hc0
 have HB:=Aside0.mk (Below.refl w.heap.size w)
 have H:((spec_l00From.f l0).bind fun bt101=>((spec_l27DrawState.f k bt101.1 bt101.2.1 bt101.2.2).bind fun bt105=>(some bt105.1)))=some r:=h
 clear h
 replace H:=Option.bind_eq_some_iff.mp H
 obtain ⟨⟨t101,t102,t103⟩,A20,H⟩:=H
 replace H:((spec_l27DrawState.f k t101 t102 t103).bind fun bt105=>(some bt105.1))=some r:=H
 have A2:=Aside0.mk A20
 clear A20
 replace H:=Option.bind_eq_some_iff.mp H
 obtain ⟨⟨t105,t108,t109⟩,A30,H⟩:=H
 replace H:(some t105)=some r:=H
 have A3:=Aside0.mk A30
 clear A30
 obtain rfl:=Option.some.inj H
 go_enter Tryd.func6,Tryd.ntmps6
 go_wp2_with (first|((with_reducible refine gate_callee (f:=20) rfl ?_);refine goesL_ (some 5) rfl rfl Tryd.func20 zaq rfl #[.slice A0 l0.length c0] rfl zd ?_;(with_reducible refine (spec_l00From.calls _ _ l0 t101 t102 t103 w _ ?side1 ?side2 ?side3 A2.out).mono ?_);(case side1=>exact za);(case side2=>exact HR0.out);(case side3=>exact HC0.out);rintro e w4 ⟨g104,rfl,hi,hb,hb2⟩;refine ⟨_,rfl,?_⟩;replace HB:=Aside0.mk (hb);have HI104:=Aside0.mk (hi);(try clear hb);(try clear hb2);(try clear hk);(try clear hi))|((with_reducible refine gate_callee (f:=22) rfl ?_);refine goesL_ (some 7) rfl rfl Tryd.func22 zaq rfl #[.pointer (some ⟨g104,0,none⟩)] rfl zd ?_;(with_reducible refine (spec_l27DrawState.calls k g104 t101 t102 t103 t105 t108 t109 w _ ?side1 ?side2 A3.out).mono ?_);(case side1=>exact zck);(case side2=>exact zal);rintro e w5 ⟨v106,rfl,ho0,hi,hb,hk⟩;refine ⟨_,rfl,?_⟩;have HO107:=Aside0.mk (Kd.R_lower ho0 (below_size zal));replace HB:=Aside0.mk (hb);replace HI104:=Aside0.mk (hi);(try clear hb);(try clear hb2);(try clear hk);(try clear hi);(try clear ho0)))
 go_ret
 exact ⟨_,zj,zak,zal⟩

def spec_R8Changed.f (k:Nat) (l0:List Int) (l1:List (S57)):Option ((List (S57))):=(spec_l00From.f l0).bind fun bt101=>((spec_l27Changed.f k bt101.1 bt101.2.1 bt101.2.2 l1).bind fun bt105=>(some bt105.1))
set_option maxHeartbeats 8000000 in
set_option maxRecDepth 100000 in
theorem spec_R8Changed.calls (k:Nat) (A0:Option Addr) (c0:Nat) (l0:List Int) (A1:Option Addr) (c1:Nat) (l1:List (S57)) (r:List (S57)) (w:World) (hr0:Kd.C (Kd.int .u8) w A0 l0.length l0) (hc0:l0.length≤c0) (hr1:Kd.C k57 w A1 l1.length l1) (hc1:l1.length≤c1) (h:spec_R8Changed.f k l0 l1=some r) :
 Calls Tryd.prog 7 #[.slice A0 l0.length c0,.slice A1 l1.length c1] w fun e w'=>∃v0_:Value,e = .returned (v0_)∧Kd.R k57 57 w' w.heap.size (fun _=>True) v0_ r∧Below w.heap.size w w':=by
 have HR0:=Aside0.mk hr0
 have HC0:=Aside0.mk hc0
 clear hr0 hc0
 have HR1:=Aside0.mk hr1
 have HC1:=Aside0.mk hc1
 clear hr1 hc1
 have HB:=Aside0.mk (Below.refl w.heap.size w)
 have H:((spec_l00From.f l0).bind fun bt101=>((spec_l27Changed.f k bt101.1 bt101.2.1 bt101.2.2 l1).bind fun bt105=>(some bt105.1)))=some r:=h
 clear h
 replace H:=Option.bind_eq_some_iff.mp H
 obtain ⟨⟨t101,t102,t103⟩,A30,H⟩:=H
 replace H:((spec_l27Changed.f k t101 t102 t103 l1).bind fun bt105=>(some bt105.1))=some r:=H
 have A3:=Aside0.mk A30
 clear A30
 replace H:=Option.bind_eq_some_iff.mp H
 obtain ⟨⟨t105,t108,t109⟩,A40,H⟩:=H
 replace H:(some t105)=some r:=H
 have A4:=Aside0.mk A40
 clear A40
 obtain rfl:=Option.some.inj H
 go_enter Tryd.func7,Tryd.ntmps7
 go_wp2_with (first|((with_reducible refine gate_callee (f:=20) rfl ?_);refine goesL_ (some 7) rfl rfl Tryd.func20 zaq rfl #[.slice A0 l0.length c0] rfl zd ?_;(with_reducible refine (spec_l00From.calls _ _ l0 t101 t102 t103 w _ ?side1 ?side2 ?side3 A3.out).mono ?_);(case side1=>exact za);(case side2=>exact HR0.out);(case side3=>exact HC0.out);rintro e w5 ⟨g104,rfl,hi,hb,hb2⟩;refine ⟨_,rfl,?_⟩;replace HB:=Aside0.mk (hb);have HI104:=Aside0.mk (hi);(try clear hb);(try clear hb2);(try clear hk);(try clear hi))|((with_reducible refine gate_callee (f:=23) rfl ?_);refine goesL_ (some 10) rfl rfl Tryd.func23 zaq rfl #[.pointer (some ⟨g104,0,none⟩),.slice A1 l1.length c1] rfl zd ?_;(with_reducible refine (spec_l27Changed.calls k g104 t101 t102 t103 _ _ l1 t105 t108 t109 w _ ?side1 ?side2 ?side3 ?side4 A4.out).mono ?_);(case side1=>exact zck);(case side2=>exact zal);(case side3=>exact Kd.C_foot_came k57_heap HR1.out zal (IsS82.ge HI104.out));(case side4=>exact HC1.out);rintro e w6 ⟨v106,rfl,ho0,hi,hb,hk⟩;refine ⟨_,rfl,?_⟩;have HO107:=Aside0.mk (Kd.R_lower ho0 (below_size zal));replace HB:=Aside0.mk (hb);replace HI104:=Aside0.mk (hi);(try clear hb);(try clear hb2);(try clear hk);(try clear hi);(try clear ho0)))
 go_ret
 exact ⟨_,zj,zak,zal⟩

def impl_within.f (a0:Int) (a1:Int) (a2:Int):Option (Bool):=if a0≥a1 then (some (decide (a0≤a2))) else (some false)
set_option maxHeartbeats 8000000 in
set_option maxRecDepth 100000 in
theorem impl_within.calls (a0:Int) (a1:Int) (a2:Int) (r:Bool) (w:World) (h:impl_within.f a0 a1 a2=some r) :
 Calls Tryd.prog 37 #[.int .i64 a0,.int .i64 a1,.int .i64 a2] w fun e w'=>e = .returned (.bool r)∧Drawn0 w w':=by
 have H:(if a0≥a1 then (some (decide (a0≤a2))) else (some false))=some r:=h
 clear h
 by_cases c4:a0≥a1
 ·rw [if_pos c4] at H
  have c4b0:decide (a1≤a0)=true:=decide_eq_true c4
  clear c4
  obtain rfl:=Option.some.inj H
  go_enter Tryd.func37,Tryd.ntmps37
  go_wp2
  go_ret
  exact ⟨zi,zn⟩
 ·rw [if_neg c4] at H
  have c4b0:decide (a1≤a0)=false:=decide_eq_false c4
  clear c4
  obtain rfl:=Option.some.inj H
  go_enter Tryd.func37,Tryd.ntmps37
  go_wp2
  go_ret
  exact ⟨zi,zn⟩

def impl_onlyNameBytes.l0:Nat→ByteArray→Int→Int→Option (Bool)
 | 0,_,_,_=>none
 | k+1,x0,x6,x7=>if x7<x6 then (if 0≤x7 then (if x7<(x0.size:Int) then (if (bt x0 x7)<97 then (if (bt x0 x7)<48 then (some false) else (if (bt x0 x7) > 57 then (some false) else (impl_onlyNameBytes.l0 k x0 x6 (wrap64 (x7+1))))) else (if (bt x0 x7) > 122 then (if (bt x0 x7)<48 then (some false) else (if (bt x0 x7) > 57 then (some false) else (impl_onlyNameBytes.l0 k x0 x6 (wrap64 (x7+1))))) else (impl_onlyNameBytes.l0 k x0 x6 (wrap64 (x7+1))))) else (none)) else (none)) else (some true)
def impl_onlyNameBytes.f (k:Nat) (a0:ByteArray):Option (Bool):=impl_onlyNameBytes.l0 k a0 (a0.size:Int) 0
set_option maxHeartbeats 8000000 in
set_option maxRecDepth 100000 in
theorem impl_onlyNameBytes.calls (k:Nat) (a0:ByteArray) (r:Bool) (w:World) (h:impl_onlyNameBytes.f k a0=some r) :
 Calls Tryd.prog 67 #[.string a0] w fun e w'=>e = .returned (.bool r)∧Drawn0 w w':=by
 have H:(impl_onlyNameBytes.l0 k a0 (a0.size:Int) 0)=some r:=h
 clear h
 have H':=Aside0.mk H
 clear H
 go_enter Tryd.func67,Tryd.ntmps67
 go_wp2
 go_loopg [7] k (fun kq v7 w'=>∃(x7_1:Int),v7 = .int .i64 x7_1∧Aside0 (impl_onlyNameBytes.l0 kq a0 (a0.size:Int) x7_1=some r)∧Aside0 (kq≤k)∧Drawn0 w w')
 case atStart=>exact ⟨(0),zi,H',⟨Nat.le_refl _⟩,zn⟩
 case round=>
  clear H'
  obtain ⟨x7_1,rfl,HA,HK1,⟨m1,rfl⟩⟩:=hrel
  cases gk with
  | zero=>exact absurd HA.out (by simp [impl_onlyNameBytes.l0])
  | succ k1=>
   have H:=HA.out
   clear HA
   simp only [impl_onlyNameBytes.l0] at H
   by_cases c2:x7_1<(a0.size:Int)
   ·rw [if_pos c2] at H
    have c2b0:decide (x7_1<(a0.size:Int))=true:=decide_eq_true c2
    clear c2
    by_cases c3:0≤x7_1
    ·rw [if_pos c3] at H
     have c3b0:decide (0≤x7_1)=true:=decide_eq_true c3
     clear c3
     by_cases c4:x7_1<(a0.size:Int)
     ·rw [if_pos c4] at H
      have c4b0:decide (x7_1<(a0.size:Int))=true:=decide_eq_true c4
      clear c4
      by_cases c6:(bt a0 x7_1)<97
      ·rw [if_pos c6] at H
       have c6b0:decide ((bt a0 x7_1)<97)=true:=decide_eq_true c6
       clear c6
       by_cases c7:(bt a0 x7_1)<48
       ·rw [if_pos c7] at H
        have c7b0:decide ((bt a0 x7_1)<48)=true:=decide_eq_true c7
        clear c7
        obtain rfl:=Option.some.inj H
        have p5:0≤(x7_1:Int):=of_decide_eq_true zb
        have q5:x7_1<(a0.size:Int):=of_decide_eq_true zb
        have hx5:=bt_at a0 x7_1
        replace p5:=eq_true p5
        replace q5:=eq_true q5
        go_wp2
        go_ret
        exact ⟨zi,zn⟩
       ·rw [if_neg c7] at H
        have c7b0:decide ((bt a0 x7_1)<48)=false:=decide_eq_false c7
        clear c7
        by_cases c8:(bt a0 x7_1) > 57
        ·rw [if_pos c8] at H
         have c8b0:decide (57<(bt a0 x7_1))=true:=decide_eq_true c8
         clear c8
         obtain rfl:=Option.some.inj H
         have p5:0≤(x7_1:Int):=of_decide_eq_true zb
         have q5:x7_1<(a0.size:Int):=of_decide_eq_true zb
         have hx5:=bt_at a0 x7_1
         replace p5:=eq_true p5
         replace q5:=eq_true q5
         go_wp2
         go_ret
         exact ⟨zi,zn⟩
        ·rw [if_neg c8] at H
         have c8b0:decide (57<(bt a0 x7_1))=false:=decide_eq_false c8
         clear c8
         have H':=Aside0.mk H
         clear H
         have p5:0≤(x7_1:Int):=of_decide_eq_true zb
         have q5:x7_1<(a0.size:Int):=of_decide_eq_true zb
         have hx5:=bt_at a0 x7_1
         replace p5:=eq_true p5
         replace q5:=eq_true q5
         go_wp2
         go_roundg k1
         case measure=>have:=HK1.out;omega
         case rel=>exact ⟨(wrap64 (x7_1+1)),zi,H',⟨zci⟩,zn⟩
      ·rw [if_neg c6] at H
       have c6b0:decide ((bt a0 x7_1)<97)=false:=decide_eq_false c6
       clear c6
       by_cases c9:(bt a0 x7_1) > 122
       ·rw [if_pos c9] at H
        have c9b0:decide (122<(bt a0 x7_1))=true:=decide_eq_true c9
        clear c9
        by_cases c10:(bt a0 x7_1)<48
        ·rw [if_pos c10] at H
         have c10b0:decide ((bt a0 x7_1)<48)=true:=decide_eq_true c10
         clear c10
         obtain rfl:=Option.some.inj H
         have p5:0≤(x7_1:Int):=of_decide_eq_true zb
         have q5:x7_1<(a0.size:Int):=of_decide_eq_true zb
         have hx5:=bt_at a0 x7_1
         replace p5:=eq_true p5
         replace q5:=eq_true q5
         go_wp2
         go_ret
         exact ⟨zi,zn⟩
        ·rw [if_neg c10] at H
         have c10b0:decide ((bt a0 x7_1)<48)=false:=decide_eq_false c10
         clear c10
         by_cases c11:(bt a0 x7_1) > 57
         ·rw [if_pos c11] at H
          have c11b0:decide (57<(bt a0 x7_1))=true:=decide_eq_true c11
          clear c11
          obtain rfl:=Option.some.inj H
          have p5:0≤(x7_1:Int):=of_decide_eq_true zb
          have q5:x7_1<(a0.size:Int):=of_decide_eq_true zb
          have hx5:=bt_at a0 x7_1
          replace p5:=eq_true p5
          replace q5:=eq_true q5
          go_wp2
          go_ret
          exact ⟨zi,zn⟩
         ·rw [if_neg c11] at H
          have c11b0:decide (57<(bt a0 x7_1))=false:=decide_eq_false c11
          clear c11
          have H':=Aside0.mk H
          clear H
          have p5:0≤(x7_1:Int):=of_decide_eq_true zb
          have q5:x7_1<(a0.size:Int):=of_decide_eq_true zb
          have hx5:=bt_at a0 x7_1
          replace p5:=eq_true p5
          replace q5:=eq_true q5
          go_wp2
          go_roundg k1
          case measure=>have:=HK1.out;omega
          case rel=>exact ⟨(wrap64 (x7_1+1)),zi,H',⟨zci⟩,zn⟩
       ·rw [if_neg c9] at H
        have c9b0:decide (122<(bt a0 x7_1))=false:=decide_eq_false c9
        clear c9
        have H':=Aside0.mk H
        clear H
        have p5:0≤(x7_1:Int):=of_decide_eq_true zb
        have q5:x7_1<(a0.size:Int):=of_decide_eq_true zb
        have hx5:=bt_at a0 x7_1
        replace p5:=eq_true p5
        replace q5:=eq_true q5
        go_wp2
        go_roundg k1
        case measure=>have:=HK1.out;omega
        case rel=>exact ⟨(wrap64 (x7_1+1)),zi,H',⟨zci⟩,zn⟩
     ·rw [if_neg c4] at H
      exact absurd H zca
    ·rw [if_neg c3] at H
     exact absurd H zca
   ·rw [if_neg c2] at H
    have c2b0:decide (x7_1<(a0.size:Int))=false:=decide_eq_false c2
    clear c2
    obtain rfl:=Option.some.inj H
    go_wp2
    go_ret
    exact ⟨zi,zn⟩

def impl_IsName.f (k:Nat) (a0:ByteArray):Option (Bool):=if (a0.size:Int)<1 then (some false) else (if (a0.size:Int) > 10 then (some false) else (if 0<(a0.size:Int) then (if (bt a0 0)<97 then (some false) else (if (bt a0 0) > 122 then (some false) else ((impl_onlyNameBytes.f k a0).bind fun t101=>(some t101)))) else (none)))
set_option maxHeartbeats 8000000 in
set_option maxRecDepth 100000 in
theorem impl_IsName.calls (k:Nat) (a0:ByteArray) (r:Bool) (w:World) (h:impl_IsName.f k a0=some r) :
 Calls Tryd.prog 52 #[.string a0] w fun e w'=>e = .returned (.bool r)∧Drawn0 w w':=by
 have H:(if (a0.size:Int)<1 then (some false) else (if (a0.size:Int) > 10 then (some false) else (if 0<(a0.size:Int) then (if (bt a0 0)<97 then (some false) else (if (bt a0 0) > 122 then (some false) else ((impl_onlyNameBytes.f k a0).bind fun t101=>(some t101)))) else (none))))=some r:=h
 clear h
 by_cases c2:(a0.size:Int)<1
 ·rw [if_pos c2] at H
  have c2b0:decide ((a0.size:Int)<1)=true:=decide_eq_true c2
  have c2b1:decide (a0.size<1)=true:=decide_eq_true zbn
  clear c2
  obtain rfl:=Option.some.inj H
  go_enter Tryd.func52,Tryd.ntmps52
  go_wp2
  go_ret
  exact ⟨zi,zn⟩
 ·rw [if_neg c2] at H
  have c2b0:decide ((a0.size:Int)<1)=false:=decide_eq_false c2
  have c2b1:decide (a0.size<1)=false:=decide_eq_false zbn
  clear c2
  by_cases c3:(a0.size:Int) > 10
  ·rw [if_pos c3] at H
   have c3b0:decide (10<(a0.size:Int))=true:=decide_eq_true c3
   have c3b1:decide (10<a0.size)=true:=decide_eq_true zbn
   clear c3
   obtain rfl:=Option.some.inj H
   go_enter Tryd.func52,Tryd.ntmps52
   go_wp2
   go_ret
   exact ⟨zi,zn⟩
  ·rw [if_neg c3] at H
   have c3b0:decide (10<(a0.size:Int))=false:=decide_eq_false c3
   have c3b1:decide (10<a0.size)=false:=decide_eq_false zbn
   clear c3
   by_cases c4:0<(a0.size:Int)
   ·rw [if_pos c4] at H
    have c4b0:decide (0<(a0.size:Int))=true:=decide_eq_true c4
    have c4b1:decide (0<a0.size)=true:=decide_eq_true zbn
    clear c4
    by_cases c6:(bt a0 0)<97
    ·rw [if_pos c6] at H
     have c6b0:decide ((bt a0 0)<97)=true:=decide_eq_true c6
     clear c6
     obtain rfl:=Option.some.inj H
     have p5:0≤(0:Int):=zbn
     have q5:0<a0.size:=(by have:(0:Int)<(a0.size:Int):=of_decide_eq_true zb;omega)
     have hx5:∀h:0<a0.size,((a0[0]'h).toNat:Int)=bt a0 0:=bt_at a0 0
     clear p5
     have qi5:(0<(a0.size:Int))=True:=eq_true (of_decide_eq_true zb)
     replace q5:=eq_true q5
     go_enter Tryd.func52,Tryd.ntmps52
     go_wp2
     go_ret
     exact ⟨zi,zn⟩
    ·rw [if_neg c6] at H
     have c6b0:decide ((bt a0 0)<97)=false:=decide_eq_false c6
     clear c6
     by_cases c8:(bt a0 0) > 122
     ·rw [if_pos c8] at H
      have c8b0:decide (122<(bt a0 0))=true:=decide_eq_true c8
      clear c8
      obtain rfl:=Option.some.inj H
      have p5:0≤(0:Int):=zbn
      have q5:0<a0.size:=(by have:(0:Int)<(a0.size:Int):=of_decide_eq_true zb;omega)
      have hx5:∀h:0<a0.size,((a0[0]'h).toNat:Int)=bt a0 0:=bt_at a0 0
      clear p5
      have qi5:(0<(a0.size:Int))=True:=eq_true (of_decide_eq_true zb)
      replace q5:=eq_true q5
      have p7:0≤(0:Int):=zbn
      have q7:0<a0.size:=(by have:(0:Int)<(a0.size:Int):=of_decide_eq_true zb;omega)
      have hx7:∀h:0<a0.size,((a0[0]'h).toNat:Int)=bt a0 0:=bt_at a0 0
      clear p7
      have qi7:(0<(a0.size:Int))=True:=eq_true (of_decide_eq_true zb)
      replace q7:=eq_true q7
      go_enter Tryd.func52,Tryd.ntmps52
      go_wp2
      go_ret
      exact ⟨zi,zn⟩
     ·rw [if_neg c8] at H
      have c8b0:decide (122<(bt a0 0))=false:=decide_eq_false c8
      clear c8
      replace H:=Option.bind_eq_some_iff.mp H
      obtain ⟨t101,A90,H⟩:=H
      replace H:(some t101)=some r:=H
      have A9:=Aside0.mk A90
      clear A90
      obtain rfl:=Option.some.inj H
      have p5:0≤(0:Int):=zbn
      have q5:0<a0.size:=(by have:(0:Int)<(a0.size:Int):=of_decide_eq_true zb;omega)
      have hx5:∀h:0<a0.size,((a0[0]'h).toNat:Int)=bt a0 0:=bt_at a0 0
      clear p5
      have qi5:(0<(a0.size:Int))=True:=eq_true (of_decide_eq_true zb)
      replace q5:=eq_true q5
      have p7:0≤(0:Int):=zbn
      have q7:0<a0.size:=(by have:(0:Int)<(a0.size:Int):=of_decide_eq_true zb;omega)
      have hx7:∀h:0<a0.size,((a0[0]'h).toNat:Int)=bt a0 0:=bt_at a0 0
      clear p7
      have qi7:(0<(a0.size:Int))=True:=eq_true (of_decide_eq_true zb)
      replace q7:=eq_true q7
      go_enter Tryd.func52,Tryd.ntmps52
      go_wp2_with (first|((with_reducible refine gate_callee (f:=67) rfl ?_);refine goesL_ (some 22) rfl rfl Tryd.func67 zaq rfl #[.string a0] rfl zd ?_;(with_reducible refine (impl_onlyNameBytes.calls k a0 t101 _ A9.out).mono ?_);rintro e w' ⟨rfl,⟨nd,rfl⟩⟩;refine ⟨_,rfl,?_⟩))
      go_ret
      exact ⟨zi,zn⟩
   ·rw [if_neg c4] at H
    exact absurd H zca

def impl_Setting_valid.f (k:Nat) (a0_0:ByteArray) (a0_1:Int):Option (Bool):=(impl_IsName.f k a0_0).bind fun t102=>(if t102=true then ((impl_within.f a0_1 0 1000).bind fun t103=>(some t103)) else (some false))
set_option maxHeartbeats 8000000 in
set_option maxRecDepth 100000 in
theorem impl_Setting_valid.calls (k:Nat) (a0_0:ByteArray) (a0_1:Int) (r:Bool) (w:World) (h:impl_Setting_valid.f k a0_0 a0_1=some r) :
 Calls Tryd.prog 27 #[.agg #[.string a0_0,.int .i64 a0_1]] w fun e w'=>e = .returned (.bool r)∧Below w.heap.size w w':=by
 have hu57:=Tryd.underlying57
 have HB:=Aside0.mk (Below.refl w.heap.size w)
 have H:((impl_IsName.f k a0_0).bind fun t102=>(if t102=true then ((impl_within.f a0_1 0 1000).bind fun t103=>(some t103)) else (some false)))=some r:=h
 clear h
 replace H:=Option.bind_eq_some_iff.mp H
 obtain ⟨t102,A20,H⟩:=H
 replace H:(if t102=true then ((impl_within.f a0_1 0 1000).bind fun t103=>(some t103)) else (some false))=some r:=H
 have A2:=Aside0.mk A20
 clear A20
 by_cases c3:t102=true
 ·subst c3
  have H1:((impl_within.f a0_1 0 1000).bind fun t103=>(some t103))=some r:=by rw [if_pos rfl] at H;exact H
  clear H
  have H:=H1
  clear H1
  replace H:=Option.bind_eq_some_iff.mp H
  obtain ⟨t103,A40,H⟩:=H
  replace H:(some t103)=some r:=H
  have A4:=Aside0.mk A40
  clear A40
  obtain rfl:=Option.some.inj H
  go_enter Tryd.func27,Tryd.ntmps27
  go_wp2_with (first|((with_reducible refine gate_dst (N:=1) rfl ?_);refine box_event ?hg (N:=1) ?hd (cs:=#[.string a0_0,.int .i64 a0_1]) (t:=57) ?hr ?_;(case hd=>rfl);(case hg=>rfl);(case hr=>exact zv);intro gb101 hg w5 hbox hb;have n0_:=Aside0.mk (below_step za hb);have n1_:=Aside0.mk (hbox);have n2_:=Aside0.mk ((by rw [hg];exact (below_size za):w.heap.size≤gb101));have n3_:=Aside0.mk ((by rw [hg];exact (below_size za):w.heap.size≤gb101));clear HB;have HB:=n0_;have BK101:=n1_;have GW101:=n2_;have GE101:=n3_;clear n0_ n1_ n2_ n3_;clear hb hbox hg;have hcz6_0:w5.cell? ⟨gb101,0,none⟩=some (.string a0_0):=(blk_cell BK101.out 0).trans rfl;have hcz6_1:w5.cell? ⟨gb101,1,none⟩=some (.int .i64 a0_1):=(blk_cell BK101.out 1).trans rfl;have hfz6_0:=blk_frozen BK101.out 0;have hfz6_1:=blk_frozen BK101.out 1)|((with_reducible refine gate_callee (f:=52) rfl ?_);refine goesL_ (some 5) rfl rfl Tryd.func52 zaq rfl #[.string a0_0] rfl zd ?_;(with_reducible refine (impl_IsName.calls k a0_0 true _ A2.out).mono ?_);rintro e w' ⟨rfl,⟨nd,rfl⟩⟩;refine ⟨_,rfl,?_⟩)|(go_at_call 37;(with_reducible refine (impl_within.calls a0_1 0 1000 t103 _ A4.out).mono ?_);rintro e w' ⟨rfl,⟨nd,rfl⟩⟩))
  go_ret
  exact ⟨zj,zc⟩
 ·replace c3:=Bool.eq_false_iff.mpr c3
  subst c3
  have H1:(some false)=some r:=by rw [if_neg (show ¬ (false=true) by decide)] at H;exact H
  clear H
  have H:=H1
  clear H1
  obtain rfl:=Option.some.inj H
  go_enter Tryd.func27,Tryd.ntmps27
  go_wp2_with (first|((with_reducible refine gate_dst (N:=1) rfl ?_);refine box_event ?hg (N:=1) ?hd (cs:=#[.string a0_0,.int .i64 a0_1]) (t:=57) ?hr ?_;(case hd=>rfl);(case hg=>rfl);(case hr=>exact zv);intro gb101 hg w7 hbox hb;have n0_:=Aside0.mk (below_step za hb);have n1_:=Aside0.mk (hbox);have n2_:=Aside0.mk ((by rw [hg];exact (below_size za):w.heap.size≤gb101));have n3_:=Aside0.mk ((by rw [hg];exact (below_size za):w.heap.size≤gb101));clear HB;have HB:=n0_;have BK101:=n1_;have GW101:=n2_;have GE101:=n3_;clear n0_ n1_ n2_ n3_;clear hb hbox hg;have hcz8_0:w7.cell? ⟨gb101,0,none⟩=some (.string a0_0):=(blk_cell BK101.out 0).trans rfl;have hcz8_1:w7.cell? ⟨gb101,1,none⟩=some (.int .i64 a0_1):=(blk_cell BK101.out 1).trans rfl;have hfz8_0:=blk_frozen BK101.out 0;have hfz8_1:=blk_frozen BK101.out 1)|((with_reducible refine gate_callee (f:=52) rfl ?_);refine goesL_ (some 5) rfl rfl Tryd.func52 zaq rfl #[.string a0_0] rfl zd ?_;(with_reducible refine (impl_IsName.calls k a0_0 false _ A2.out).mono ?_);rintro e w' ⟨rfl,⟨nd,rfl⟩⟩;refine ⟨_,rfl,?_⟩))
  go_ret
  exact ⟨zj,zc⟩

def impl_ValidState.l0:Nat→List (S57)→List (S57)→Int→Int→Option (Bool)
 | 0,_,_,_,_=>none
 | k+1,x0,x8,x9,x10=>if x10<x9 then (if 0≤x10 then (if x10<(x8.length:Int) then ((impl_Setting_valid.f k ((rd_T57 x8 x10).f0) ((rd_T57 x8 x10).f1)).bind fun t103=>(if t103=true then (if x10 > 0 then (if 0≤(wrap64 (x10 - 1)) then (if (wrap64 (x10 - 1))<(x0.length:Int) then (if ((Op.bytesLess (((rd_T57 x0 (wrap64 (x10 - 1))).f0).toList) (((rd_T57 x8 x10).f0).toList))=true) then (impl_ValidState.l0 k x0 x8 x9 (wrap64 (x10+1))) else (some false)) else (none)) else (none)) else (impl_ValidState.l0 k x0 x8 x9 (wrap64 (x10+1)))) else (some false))) else (none)) else (none)) else (some true)
def impl_ValidState.f (k:Nat) (l0:List (S57)):Option (Bool):=if (l0.length:Int) > 24 then (some false) else (impl_ValidState.l0 k l0 l0 (l0.length:Int) 0)
def impl_ValidState.T6:Bool × List (List Nat × List Nat):=(true,[([],[]),([0],[0]),([1],[1]),([2,1],[2]),([3],[3]),([4,3],[3,4]),([5,3,3],[3,5]),([6],[6]),([7,6],[6,7]),([6],[6]),([6],[6]),([10,6],[6,10]),([9,11,6],[6,9,11]),([12,6],[6,12]),([13,6],[6,13]),([8,14,6],[6,8,14]),([6,15,3],[3,6,15]),([3,16],[3,16])])
def impl_ValidState.B6:List Nat:=[0,1,3,7,15,31,63,127,255,127,127,1151,3711,7807,15999,32767,65535,131071]
theorem impl_ValidState.tab6:rtab .any (opsOf Tryd.f24 6)=impl_ValidState.T6:=by kernel_rfl
theorem impl_ValidState.bits6:waitsOk impl_ValidState.T6.2 impl_ValidState.B6=true:=by kernel_rfl
set_option maxHeartbeats 8000000 in
set_option maxRecDepth 100000 in
theorem impl_ValidState.calls (k:Nat) (A0:Option Addr) (c0:Nat) (l0:List (S57)) (r:Bool) (w:World) (hr0:Kd.C k57 w A0 l0.length l0) (hc0:l0.length≤c0) (h:impl_ValidState.f k l0=some r) :
 Calls Tryd.prog 24 #[.slice A0 l0.length c0] w fun e w'=>e = .returned (.bool r)∧Below w.heap.size w w':=by
 have hu57:=Tryd.underlying57
 have HR0:=Aside0.mk hr0
 have HC0:=Aside0.mk hc0
 clear hr0 hc0
 have HB:=Aside0.mk (Below.refl w.heap.size w)
 have H:(if (l0.length:Int) > 24 then (some false) else (impl_ValidState.l0 k l0 l0 (l0.length:Int) 0))=some r:=h
 clear h
 by_cases c2:(l0.length:Int) > 24
 ·rw [if_pos c2] at H
  have c2b0:decide (24<(l0.length:Int))=true:=decide_eq_true c2
  have c2b1:decide (24<l0.length)=true:=decide_eq_true zbn
  clear c2
  obtain rfl:=Option.some.inj H
  go_enter Tryd.func24,Tryd.ntmps24
  go_wp2
  go_ret
  exact ⟨zj,za⟩
 ·rw [if_neg c2] at H
  have c2b0:decide (24<(l0.length:Int))=false:=decide_eq_false c2
  have c2b1:decide (24<l0.length)=false:=decide_eq_false zbn
  clear c2
  have H':=Aside0.mk H
  clear H
  go_enter Tryd.func24,Tryd.ntmps24
  go_wp2
  go_loopg [10] k (fun kq v10 w'=>∃(x10_1:Int),v10 = .int .i64 x10_1∧Aside0 (impl_ValidState.l0 kq l0 l0 (l0.length:Int) x10_1=some r)∧Aside0 (kq≤k)∧Aside0 (Below w.heap.size w w'))
  case atStart=>exact ⟨(0),zi,H',⟨Nat.le_refl _⟩,⟨za⟩⟩
  case round=>
   clear H'
   try clear c2
   try clear c2b0
   try clear c2b1
   try clear p2
   obtain ⟨x10_1,rfl,HA,HK1,HB⟩:=hrel
   cases gk with
   | zero=>exact absurd HA.out (by simp [impl_ValidState.l0])
   | succ k1=>
    have H:=HA.out
    clear HA
    simp only [impl_ValidState.l0] at H
    by_cases c3:x10_1<(l0.length:Int)
    ·rw [if_pos c3] at H
     have c3b0:decide (x10_1<(l0.length:Int))=true:=decide_eq_true c3
     clear c3
     by_cases c4:0≤x10_1
     ·rw [if_pos c4] at H
      have c4b0:decide (0≤x10_1)=true:=decide_eq_true c4
      clear c4
      by_cases c5:x10_1<(l0.length:Int)
      ·rw [if_pos c5] at H
       have c5b0:decide (x10_1<(l0.length:Int))=true:=decide_eq_true c5
       clear c5
       replace H:=Option.bind_eq_some_iff.mp H
       obtain ⟨t103,A60,H⟩:=H
       replace H:(if t103=true then (if x10_1 > 0 then (if 0≤(wrap64 (x10_1 - 1)) then (if (wrap64 (x10_1 - 1))<(l0.length:Int) then (if ((Op.bytesLess (((rd_T57 l0 (wrap64 (x10_1 - 1))).f0).toList) (((rd_T57 l0 x10_1).f0).toList))=true) then (impl_ValidState.l0 k1 l0 l0 (l0.length:Int) (wrap64 (x10_1+1))) else (some false)) else (none)) else (none)) else (impl_ValidState.l0 k1 l0 l0 (l0.length:Int) (wrap64 (x10_1+1)))) else (some false))=some r:=H
       have A6:=Aside0.mk A60
       clear A60
       by_cases c7:t103=true
       ·subst c7
        have H1:(if x10_1 > 0 then (if 0≤(wrap64 (x10_1 - 1)) then (if (wrap64 (x10_1 - 1))<(l0.length:Int) then (if ((Op.bytesLess (((rd_T57 l0 (wrap64 (x10_1 - 1))).f0).toList) (((rd_T57 l0 x10_1).f0).toList))=true) then (impl_ValidState.l0 k1 l0 l0 (l0.length:Int) (wrap64 (x10_1+1))) else (some false)) else (none)) else (none)) else (impl_ValidState.l0 k1 l0 l0 (l0.length:Int) (wrap64 (x10_1+1))))=some r:=by rw [if_pos rfl] at H;exact H
        clear H
        have H:=H1
        clear H1
        by_cases c8:x10_1 > 0
        ·rw [if_pos c8] at H
         have c8b0:decide (0<x10_1)=true:=decide_eq_true c8
         clear c8
         obtain ⟨ji9,hji9⟩:∃j_:Int,(wrap64 (x10_1 - 1))=j_:=⟨_,rfl⟩
         replace H:(if 0≤(ji9) then (if (ji9)<(l0.length:Int) then (if ((Op.bytesLess (((rd_T57 l0 (ji9)).f0).toList) (((rd_T57 l0 x10_1).f0).toList))=true) then (impl_ValidState.l0 k1 l0 l0 (l0.length:Int) (wrap64 (x10_1+1))) else (some false)) else (none)) else (none))=some r:=by first|(rw [hji9] at H;exact H)|(simp only [hji9] at H ⊢;exact H)
         (try rw [hji9] at A6)
         have hji9w:(IntKind.i64.wrap (x10_1 - 1))=ji9:=(i64_w _).trans hji9
         by_cases c10:0≤(ji9)
         ·rw [if_pos c10] at H
          have c10b0:decide (0≤(ji9))=true:=decide_eq_true c10
          clear c10
          by_cases c11:(ji9)<(l0.length:Int)
          ·rw [if_pos c11] at H
           have c11b0:decide ((ji9)<(l0.length:Int))=true:=decide_eq_true c11
           clear c11
           by_cases c12:((Op.bytesLess (((rd_T57 l0 (ji9)).f0).toList) (((rd_T57 l0 x10_1).f0).toList))=true)
           ·rw [if_pos c12] at H
            have c12b0:(Op.bytesLess (((rd_T57 l0 (ji9)).f0).toList) (((rd_T57 l0 x10_1).f0).toList))=true:=c12
            clear c12
            have H':=Aside0.mk H
            clear H
            have p101:0≤(x10_1:Int):=of_decide_eq_true zb
            have q101:x10_1<(l0.length:Int):=of_decide_eq_true zb
            obtain ⟨ad101,e101,hx101_0,hx101_1⟩:=at_T57 HR0.out x10_1 p101 q101
            cases e101
            replace hx101_0:=(HB.out.cell (World.block_lt_of_cell? w _ hx101_0)).trans hx101_0
            replace hx101_1:=(HB.out.cell (World.block_lt_of_cell? w _ hx101_1)).trans hx101_1
            replace p101:=eq_true p101
            replace q101:=eq_true q101
            try go_wp2_with (first|((with_reducible refine gate_dst (N:=4) rfl ?_);refine box_event ?hg (N:=4) ?hd (cs:=#[.string (⟨#[]⟩:ByteArray),.int .i64 0]) (t:=57) ?hr ?_;(case hd=>rfl);(case hg=>rfl);(case hr=>exact zv);intro gb102 hg w13 hbox hb;have n0_:=Aside0.mk (below_step za hb);have n1_:=Aside0.mk (hbox);have n2_:=Aside0.mk ((by rw [hg];exact (below_size za):w.heap.size≤gb102));have n3_:=Aside0.mk ((by rw [hg];exact (below_size za):w.heap.size≤gb102));clear HB;have HB:=n0_;have BK102:=n1_;have GW102:=n2_;have GE102:=n3_;clear n0_ n1_ n2_ n3_;clear hb hbox hg;have hcz14_0:w13.cell? ⟨gb102,0,none⟩=some (.string (⟨#[]⟩:ByteArray)):=(blk_cell BK102.out 0).trans rfl;have hcz14_1:w13.cell? ⟨gb102,1,none⟩=some (.int .i64 0):=(blk_cell BK102.out 1).trans rfl;have hfz14_0:=blk_frozen BK102.out 0;have hfz14_1:=blk_frozen BK102.out 1))
            have n0_:Aside0 (((w13.setCell ⟨gb102,0,none⟩ (.string ((rd_T57 l0 x10_1).f0))).setCell ⟨gb102,1,none⟩ (.int .i64 ((rd_T57 l0 x10_1).f1))).heap[gb102]?=some (.cells #[.string ((rd_T57 l0 x10_1).f0),.int .i64 ((rd_T57 l0 x10_1).f1)] 57 (0,0))):=⟨zag⟩
            have n1_:Aside0 (Below w.heap.size w ((w13.setCell ⟨gb102,0,none⟩ (.string ((rd_T57 l0 x10_1).f0))).setCell ⟨gb102,1,none⟩ (.int .i64 ((rd_T57 l0 x10_1).f1)))):=⟨zk⟩
            (try clear BK102)
            (try clear HB)
            generalize ((w13.setCell ⟨gb102,0,none⟩ (.string ((rd_T57 l0 x10_1).f0))).setCell ⟨gb102,1,none⟩ (.int .i64 ((rd_T57 l0 x10_1).f1)))=w15 at n0_ n1_ ⊢
            have BK102:=n0_
            have HB:=n1_
            clear n0_ n1_
            replace BK102:=Aside0.mk (blk_drew BK102.out)
            replace HB:=Aside0.mk (below_drew1 HB.out)
            have p104:0≤((ji9):Int):=of_decide_eq_true zb
            have q104:(ji9)<(l0.length:Int):=of_decide_eq_true zb
            obtain ⟨ad104,e104,hx104_0,hx104_1⟩:=at_T57 HR0.out (ji9) p104 q104
            have hw104_1:=hx104_1
            have hw104_0:=hx104_0
            obtain rfl:ad101=ad104:=(by injection e104)
            replace hx104_0:=(HB.out.cell (World.block_lt_of_cell? w _ hx104_0)).trans hx104_0
            replace hx104_1:=(HB.out.cell (World.block_lt_of_cell? w _ hx104_1)).trans hx104_1
            replace p104:=eq_true p104
            replace q104:=eq_true q104
            refine start_ (n:=18) (S:=fun w'=>w'.cell? ⟨gb102,0,none⟩=some (.string ((rd_T57 l0 x10_1).f0))∧w'.cell? ⟨gb102,1,none⟩=some (.int .i64 ((rd_T57 l0 x10_1).f1))∧w'.cell? (ad101.add (((ji9)).toNat*2))=some (.string ((rd_T57 l0 (ji9)).f0))∧w'.cell? ⟨(ad101.add (((ji9)).toNat*2)).block,(ad101.add (((ji9)).toNat*2)).off+1,none⟩=some (.int .i64 ((rd_T57 l0 (ji9)).f1))) (ds:=[]) #[false,false,false,false,false,false,false,false,false,false,false,false,false,false,false,false,false,false] zaq rfl rfl ⟨(blk_cell BK102.out 0).trans rfl,(blk_cell BK102.out 1).trans rfl,((HB.out.cell (World.block_lt_of_cell? w _ hw104_0)).trans hw104_0),((HB.out.cell (World.block_lt_of_cell? w _ hw104_1)).trans hw104_1)⟩ (fun hHeld=>?_);refine with_tabW impl_ValidState.tab6 impl_ValidState.bits6 (fun HT_ HW_=>?_)
            generalize w15.drew=w16 at BK102 HB hx104_0 hx104_1 hHeld ⊢
            refine pT 0 15 rfl zbr ?_
            refine one_ (i:=1) (N:=some 16) #[true,true,false,false,false,false,false,false,false,false,false,false,false,false,false,false,false,false] rfl rfl (one_of HT_.out zaq) zbp (fun K hK=>?_)
            refine goes_ Tryd.func27 zaq rfl #[.agg #[.string ((rd_T57 l0 x10_1).f0),.int .i64 ((rd_T57 l0 x10_1).f1)]] (by rfl) rfl rfl zd ?_
            with_reducible refine (impl_Setting_valid.calls k1 ((rd_T57 l0 x10_1).f0) ((rd_T57 l0 x10_1).f1) true _ A6.out).mono ?_
            rintro e w17 ⟨rfl,hb⟩
            refine ⟨_,rfl,?_⟩
            replace BK102:=Aside0.mk (blk_below (g:=gb102) (o:=.cells #[.string ((rd_T57 l0 x10_1).f0),.int .i64 ((rd_T57 l0 x10_1).f1)] 57 (0,0)) zcs hb)
            replace HB:=Aside0.mk (below_step zk hb)
            (try clear hb)
            (try clear hb2)
            (try clear hk)
            (try clear hi)
            refine hK.out _ _ ⟨(blk_cell BK102.out 0).trans rfl,(blk_cell BK102.out 1).trans rfl,((HB.out.cell (World.block_lt_of_cell? w _ hw104_0)).trans hw104_0),((HB.out.cell (World.block_lt_of_cell? w _ hw104_1)).trans hw104_1)⟩ (fun hHeld=>?_)
            clear hK K
            refine pN 16 ?_
            refine pA 2 17 ?_
            refine pA 3 18 ?_
            refine pA 4 19 ?_
            refine pA 5 20 ?_
            refine pA 6 21 ?_
            refine pA 7 22 ?_
            refine pA 9 24 ?_
            refine pA 10 25 ?_
            refine pA 11 26 ?_
            refine pA 12 27 ?_
            refine pA 13 28 ?_
            refine pT 8 23 rfl zbr ?_
            refine pT 14 29 rfl zbr ?_
            refine pA 15 30 ?_
            refine pA 16 31 ?_
            refine pA 17 32 ?_
            refine done_ (done_of HT_.out zaq) ?_
            try go_wp2
            go_roundg k1
            case measure=>have:=HK1.out;omega
            case rel=>exact ⟨(wrap64 (x10_1+1)),zi,H',⟨zci⟩,⟨zk⟩⟩
           ·rw [if_neg c12] at H
            have c12b0:(Op.bytesLess (((rd_T57 l0 (ji9)).f0).toList) (((rd_T57 l0 x10_1).f0).toList))=false:=by simpa using c12
            clear c12
            obtain rfl:=Option.some.inj H
            have p101:0≤(x10_1:Int):=of_decide_eq_true zb
            have q101:x10_1<(l0.length:Int):=of_decide_eq_true zb
            obtain ⟨ad101,e101,hx101_0,hx101_1⟩:=at_T57 HR0.out x10_1 p101 q101
            cases e101
            replace hx101_0:=(HB.out.cell (World.block_lt_of_cell? w _ hx101_0)).trans hx101_0
            replace hx101_1:=(HB.out.cell (World.block_lt_of_cell? w _ hx101_1)).trans hx101_1
            replace p101:=eq_true p101
            replace q101:=eq_true q101
            try go_wp2_with (first|((with_reducible refine gate_dst (N:=4) rfl ?_);refine box_event ?hg (N:=4) ?hd (cs:=#[.string (⟨#[]⟩:ByteArray),.int .i64 0]) (t:=57) ?hr ?_;(case hd=>rfl);(case hg=>rfl);(case hr=>exact zv);intro gb102 hg w18 hbox hb;have n0_:=Aside0.mk (below_step za hb);have n1_:=Aside0.mk (hbox);have n2_:=Aside0.mk ((by rw [hg];exact (below_size za):w.heap.size≤gb102));have n3_:=Aside0.mk ((by rw [hg];exact (below_size za):w.heap.size≤gb102));clear HB;have HB:=n0_;have BK102:=n1_;have GW102:=n2_;have GE102:=n3_;clear n0_ n1_ n2_ n3_;clear hb hbox hg;have hcz19_0:w18.cell? ⟨gb102,0,none⟩=some (.string (⟨#[]⟩:ByteArray)):=(blk_cell BK102.out 0).trans rfl;have hcz19_1:w18.cell? ⟨gb102,1,none⟩=some (.int .i64 0):=(blk_cell BK102.out 1).trans rfl;have hfz19_0:=blk_frozen BK102.out 0;have hfz19_1:=blk_frozen BK102.out 1))
            have n0_:Aside0 (((w18.setCell ⟨gb102,0,none⟩ (.string ((rd_T57 l0 x10_1).f0))).setCell ⟨gb102,1,none⟩ (.int .i64 ((rd_T57 l0 x10_1).f1))).heap[gb102]?=some (.cells #[.string ((rd_T57 l0 x10_1).f0),.int .i64 ((rd_T57 l0 x10_1).f1)] 57 (0,0))):=⟨zag⟩
            have n1_:Aside0 (Below w.heap.size w ((w18.setCell ⟨gb102,0,none⟩ (.string ((rd_T57 l0 x10_1).f0))).setCell ⟨gb102,1,none⟩ (.int .i64 ((rd_T57 l0 x10_1).f1)))):=⟨zk⟩
            (try clear BK102)
            (try clear HB)
            generalize ((w18.setCell ⟨gb102,0,none⟩ (.string ((rd_T57 l0 x10_1).f0))).setCell ⟨gb102,1,none⟩ (.int .i64 ((rd_T57 l0 x10_1).f1)))=w20 at n0_ n1_ ⊢
            have BK102:=n0_
            have HB:=n1_
            clear n0_ n1_
            replace BK102:=Aside0.mk (blk_drew BK102.out)
            replace HB:=Aside0.mk (below_drew1 HB.out)
            have p104:0≤((ji9):Int):=of_decide_eq_true zb
            have q104:(ji9)<(l0.length:Int):=of_decide_eq_true zb
            obtain ⟨ad104,e104,hx104_0,hx104_1⟩:=at_T57 HR0.out (ji9) p104 q104
            have hw104_1:=hx104_1
            have hw104_0:=hx104_0
            obtain rfl:ad101=ad104:=(by injection e104)
            replace hx104_0:=(HB.out.cell (World.block_lt_of_cell? w _ hx104_0)).trans hx104_0
            replace hx104_1:=(HB.out.cell (World.block_lt_of_cell? w _ hx104_1)).trans hx104_1
            replace p104:=eq_true p104
            replace q104:=eq_true q104
            refine start_ (n:=18) (S:=fun w'=>w'.cell? ⟨gb102,0,none⟩=some (.string ((rd_T57 l0 x10_1).f0))∧w'.cell? ⟨gb102,1,none⟩=some (.int .i64 ((rd_T57 l0 x10_1).f1))∧w'.cell? (ad101.add (((ji9)).toNat*2))=some (.string ((rd_T57 l0 (ji9)).f0))∧w'.cell? ⟨(ad101.add (((ji9)).toNat*2)).block,(ad101.add (((ji9)).toNat*2)).off+1,none⟩=some (.int .i64 ((rd_T57 l0 (ji9)).f1))) (ds:=[]) #[false,false,false,false,false,false,false,false,false,false,false,false,false,false,false,false,false,false] zaq rfl rfl ⟨(blk_cell BK102.out 0).trans rfl,(blk_cell BK102.out 1).trans rfl,((HB.out.cell (World.block_lt_of_cell? w _ hw104_0)).trans hw104_0),((HB.out.cell (World.block_lt_of_cell? w _ hw104_1)).trans hw104_1)⟩ (fun hHeld=>?_);refine with_tabW impl_ValidState.tab6 impl_ValidState.bits6 (fun HT_ HW_=>?_)
            generalize w20.drew=w21 at BK102 HB hx104_0 hx104_1 hHeld ⊢
            refine pT 0 15 rfl zbr ?_
            refine one_ (i:=1) (N:=some 16) #[true,true,false,false,false,false,false,false,false,false,false,false,false,false,false,false,false,false] rfl rfl (one_of HT_.out zaq) zbp (fun K hK=>?_)
            refine goes_ Tryd.func27 zaq rfl #[.agg #[.string ((rd_T57 l0 x10_1).f0),.int .i64 ((rd_T57 l0 x10_1).f1)]] (by rfl) rfl rfl zd ?_
            with_reducible refine (impl_Setting_valid.calls k1 ((rd_T57 l0 x10_1).f0) ((rd_T57 l0 x10_1).f1) true _ A6.out).mono ?_
            rintro e w22 ⟨rfl,hb⟩
            refine ⟨_,rfl,?_⟩
            replace BK102:=Aside0.mk (blk_below (g:=gb102) (o:=.cells #[.string ((rd_T57 l0 x10_1).f0),.int .i64 ((rd_T57 l0 x10_1).f1)] 57 (0,0)) zcs hb)
            replace HB:=Aside0.mk (below_step zk hb)
            (try clear hb)
            (try clear hb2)
            (try clear hk)
            (try clear hi)
            refine hK.out _ _ ⟨(blk_cell BK102.out 0).trans rfl,(blk_cell BK102.out 1).trans rfl,((HB.out.cell (World.block_lt_of_cell? w _ hw104_0)).trans hw104_0),((HB.out.cell (World.block_lt_of_cell? w _ hw104_1)).trans hw104_1)⟩ (fun hHeld=>?_)
            clear hK K
            refine pN 16 ?_
            refine pA 2 17 ?_
            refine pA 3 18 ?_
            refine pA 4 19 ?_
            refine pA 5 20 ?_
            refine pA 6 21 ?_
            refine pA 7 22 ?_
            refine pA 9 24 ?_
            refine pA 10 25 ?_
            refine pA 11 26 ?_
            refine pA 12 27 ?_
            refine pA 13 28 ?_
            refine pT 8 23 rfl zbr ?_
            refine pT 14 29 rfl zbr ?_
            refine pA 15 30 ?_
            refine pA 16 31 ?_
            refine pA 17 32 ?_
            refine done_ (done_of HT_.out zaq) ?_
            try go_wp2
            go_ret
            exact ⟨by first|rfl|(simp [errW_none,errW_some]<;>rfl)|(simp only [←hji9];first|rfl|(simp [errW_none,errW_some]<;>rfl))|(simp [*,errW_none,errW_some]<;>rfl),zk⟩
          ·rw [if_neg c11] at H
           exact absurd H zca
         ·rw [if_neg c10] at H
          exact absurd H zca
        ·rw [if_neg c8] at H
         have c8b0:decide (0<x10_1)=false:=decide_eq_false c8
         clear c8
         have H':=Aside0.mk H
         clear H
         have p101:0≤(x10_1:Int):=of_decide_eq_true zb
         have q101:x10_1<(l0.length:Int):=of_decide_eq_true zb
         obtain ⟨ad101,e101,hx101_0,hx101_1⟩:=at_T57 HR0.out x10_1 p101 q101
         cases e101
         replace hx101_0:=(HB.out.cell (World.block_lt_of_cell? w _ hx101_0)).trans hx101_0
         replace hx101_1:=(HB.out.cell (World.block_lt_of_cell? w _ hx101_1)).trans hx101_1
         replace p101:=eq_true p101
         replace q101:=eq_true q101
         try go_wp2_with (first|((with_reducible refine gate_dst (N:=4) rfl ?_);refine box_event ?hg (N:=4) ?hd (cs:=#[.string (⟨#[]⟩:ByteArray),.int .i64 0]) (t:=57) ?hr ?_;(case hd=>rfl);(case hg=>rfl);(case hr=>exact zv);intro gb102 hg w23 hbox hb;have n0_:=Aside0.mk (below_step za hb);have n1_:=Aside0.mk (hbox);have n2_:=Aside0.mk ((by rw [hg];exact (below_size za):w.heap.size≤gb102));have n3_:=Aside0.mk ((by rw [hg];exact (below_size za):w.heap.size≤gb102));clear HB;have HB:=n0_;have BK102:=n1_;have GW102:=n2_;have GE102:=n3_;clear n0_ n1_ n2_ n3_;clear hb hbox hg;have hcz24_0:w23.cell? ⟨gb102,0,none⟩=some (.string (⟨#[]⟩:ByteArray)):=(blk_cell BK102.out 0).trans rfl;have hcz24_1:w23.cell? ⟨gb102,1,none⟩=some (.int .i64 0):=(blk_cell BK102.out 1).trans rfl;have hfz24_0:=blk_frozen BK102.out 0;have hfz24_1:=blk_frozen BK102.out 1))
         have n0_:Aside0 (((w23.setCell ⟨gb102,0,none⟩ (.string ((rd_T57 l0 x10_1).f0))).setCell ⟨gb102,1,none⟩ (.int .i64 ((rd_T57 l0 x10_1).f1))).heap[gb102]?=some (.cells #[.string ((rd_T57 l0 x10_1).f0),.int .i64 ((rd_T57 l0 x10_1).f1)] 57 (0,0))):=⟨zag⟩
         have n1_:Aside0 (Below w.heap.size w ((w23.setCell ⟨gb102,0,none⟩ (.string ((rd_T57 l0 x10_1).f0))).setCell ⟨gb102,1,none⟩ (.int .i64 ((rd_T57 l0 x10_1).f1)))):=⟨zk⟩
         (try clear BK102)
         (try clear HB)
         generalize ((w23.setCell ⟨gb102,0,none⟩ (.string ((rd_T57 l0 x10_1).f0))).setCell ⟨gb102,1,none⟩ (.int .i64 ((rd_T57 l0 x10_1).f1)))=w25 at n0_ n1_ ⊢
         have BK102:=n0_
         have HB:=n1_
         clear n0_ n1_
         replace BK102:=Aside0.mk (blk_drew BK102.out)
         replace HB:=Aside0.mk (below_drew1 HB.out)
         refine start_ (n:=18) (S:=fun w'=>w'.cell? ⟨gb102,0,none⟩=some (.string ((rd_T57 l0 x10_1).f0))∧w'.cell? ⟨gb102,1,none⟩=some (.int .i64 ((rd_T57 l0 x10_1).f1))) (ds:=[]) #[false,false,false,false,false,false,false,false,false,false,false,false,false,false,false,false,false,false] zaq rfl rfl ⟨(blk_cell BK102.out 0).trans rfl,(blk_cell BK102.out 1).trans rfl⟩ (fun hHeld=>?_);refine with_tabW impl_ValidState.tab6 impl_ValidState.bits6 (fun HT_ HW_=>?_)
         generalize w25.drew=w26 at BK102 HB hHeld ⊢
         refine pT 0 15 rfl (by rintro w' ⟨s0,s1⟩;go_simp;with_reducible rfl) ?_
         refine one_ (i:=1) (N:=some 16) #[true,true,false,false,false,false,false,false,false,false,false,false,false,false,false,false,false,false] rfl rfl (one_of HT_.out zaq) zbp (fun K hK=>?_)
         refine goes_ Tryd.func27 zaq rfl #[.agg #[.string ((rd_T57 l0 x10_1).f0),.int .i64 ((rd_T57 l0 x10_1).f1)]] (by rfl) rfl rfl zd ?_
         with_reducible refine (impl_Setting_valid.calls k1 ((rd_T57 l0 x10_1).f0) ((rd_T57 l0 x10_1).f1) true _ A6.out).mono ?_
         rintro e w27 ⟨rfl,hb⟩
         refine ⟨_,rfl,?_⟩
         replace BK102:=Aside0.mk (blk_below (g:=gb102) (o:=.cells #[.string ((rd_T57 l0 x10_1).f0),.int .i64 ((rd_T57 l0 x10_1).f1)] 57 (0,0)) zcs hb)
         replace HB:=Aside0.mk (below_step zk hb)
         (try clear hb)
         (try clear hb2)
         (try clear hk)
         (try clear hi)
         refine hK.out _ _ ⟨(blk_cell BK102.out 0).trans rfl,(blk_cell BK102.out 1).trans rfl⟩ (fun hHeld=>?_)
         clear hK K
         refine pN 16 ?_
         refine pA 2 17 ?_
         refine pA 3 18 ?_
         refine pA 4 19 ?_
         refine pA 5 20 ?_
         refine pA 6 21 ?_
         refine pU 7 22 ?_
         refine pU 8 23 ?_
         refine pU 9 24 ?_
         refine pU 10 25 ?_
         refine pU 11 26 ?_
         refine pU 12 27 ?_
         refine pU 13 28 ?_
         refine pU 14 29 ?_
         refine pU 15 30 ?_
         refine pA 16 31 ?_
         refine pA 17 32 ?_
         refine done_ (done_of HT_.out zaq) ?_
         try go_wp2
         go_roundg k1
         case measure=>have:=HK1.out;omega
         case rel=>exact ⟨(wrap64 (x10_1+1)),zi,H',⟨zci⟩,⟨zk⟩⟩
       ·replace c7:=Bool.eq_false_iff.mpr c7
        subst c7
        have H1:(some false)=some r:=by rw [if_neg (show ¬ (false=true) by decide)] at H;exact H
        clear H
        have H:=H1
        clear H1
        obtain rfl:=Option.some.inj H
        have p101:0≤(x10_1:Int):=of_decide_eq_true zb
        have q101:x10_1<(l0.length:Int):=of_decide_eq_true zb
        obtain ⟨ad101,e101,hx101_0,hx101_1⟩:=at_T57 HR0.out x10_1 p101 q101
        cases e101
        replace hx101_0:=(HB.out.cell (World.block_lt_of_cell? w _ hx101_0)).trans hx101_0
        replace hx101_1:=(HB.out.cell (World.block_lt_of_cell? w _ hx101_1)).trans hx101_1
        replace p101:=eq_true p101
        replace q101:=eq_true q101
        try go_wp2_with (first|((with_reducible refine gate_dst (N:=4) rfl ?_);refine box_event ?hg (N:=4) ?hd (cs:=#[.string (⟨#[]⟩:ByteArray),.int .i64 0]) (t:=57) ?hr ?_;(case hd=>rfl);(case hg=>rfl);(case hr=>exact zv);intro gb102 hg w28 hbox hb;have n0_:=Aside0.mk (below_step za hb);have n1_:=Aside0.mk (hbox);have n2_:=Aside0.mk ((by rw [hg];exact (below_size za):w.heap.size≤gb102));have n3_:=Aside0.mk ((by rw [hg];exact (below_size za):w.heap.size≤gb102));clear HB;have HB:=n0_;have BK102:=n1_;have GW102:=n2_;have GE102:=n3_;clear n0_ n1_ n2_ n3_;clear hb hbox hg;have hcz29_0:w28.cell? ⟨gb102,0,none⟩=some (.string (⟨#[]⟩:ByteArray)):=(blk_cell BK102.out 0).trans rfl;have hcz29_1:w28.cell? ⟨gb102,1,none⟩=some (.int .i64 0):=(blk_cell BK102.out 1).trans rfl;have hfz29_0:=blk_frozen BK102.out 0;have hfz29_1:=blk_frozen BK102.out 1))
        have n0_:Aside0 (((w28.setCell ⟨gb102,0,none⟩ (.string ((rd_T57 l0 x10_1).f0))).setCell ⟨gb102,1,none⟩ (.int .i64 ((rd_T57 l0 x10_1).f1))).heap[gb102]?=some (.cells #[.string ((rd_T57 l0 x10_1).f0),.int .i64 ((rd_T57 l0 x10_1).f1)] 57 (0,0))):=⟨zag⟩
        have n1_:Aside0 (Below w.heap.size w ((w28.setCell ⟨gb102,0,none⟩ (.string ((rd_T57 l0 x10_1).f0))).setCell ⟨gb102,1,none⟩ (.int .i64 ((rd_T57 l0 x10_1).f1)))):=⟨zk⟩
        (try clear BK102)
        (try clear HB)
        generalize ((w28.setCell ⟨gb102,0,none⟩ (.string ((rd_T57 l0 x10_1).f0))).setCell ⟨gb102,1,none⟩ (.int .i64 ((rd_T57 l0 x10_1).f1)))=w30 at n0_ n1_ ⊢
        have BK102:=n0_
        have HB:=n1_
        clear n0_ n1_
        replace BK102:=Aside0.mk (blk_drew BK102.out)
        replace HB:=Aside0.mk (below_drew1 HB.out)
        refine start_ (n:=18) (S:=fun w'=>w'.cell? ⟨gb102,0,none⟩=some (.string ((rd_T57 l0 x10_1).f0))∧w'.cell? ⟨gb102,1,none⟩=some (.int .i64 ((rd_T57 l0 x10_1).f1))) (ds:=[]) #[false,false,false,false,false,false,false,false,false,false,false,false,false,false,false,false,false,false] zaq rfl rfl ⟨(blk_cell BK102.out 0).trans rfl,(blk_cell BK102.out 1).trans rfl⟩ (fun hHeld=>?_);refine with_tabW impl_ValidState.tab6 impl_ValidState.bits6 (fun HT_ HW_=>?_)
        generalize w30.drew=w31 at BK102 HB hHeld ⊢
        refine pT 0 15 rfl (by rintro w' ⟨s0,s1⟩;go_simp;with_reducible rfl) ?_
        refine one_ (i:=1) (N:=some 16) #[true,true,false,false,false,false,false,false,false,false,false,false,false,false,false,false,false,false] rfl rfl (one_of HT_.out zaq) zbp (fun K hK=>?_)
        refine goes_ Tryd.func27 zaq rfl #[.agg #[.string ((rd_T57 l0 x10_1).f0),.int .i64 ((rd_T57 l0 x10_1).f1)]] (by rfl) rfl rfl zd ?_
        with_reducible refine (impl_Setting_valid.calls k1 ((rd_T57 l0 x10_1).f0) ((rd_T57 l0 x10_1).f1) false _ A6.out).mono ?_
        rintro e w32 ⟨rfl,hb⟩
        refine ⟨_,rfl,?_⟩
        replace BK102:=Aside0.mk (blk_below (g:=gb102) (o:=.cells #[.string ((rd_T57 l0 x10_1).f0),.int .i64 ((rd_T57 l0 x10_1).f1)] 57 (0,0)) zcs hb)
        replace HB:=Aside0.mk (below_step zk hb)
        (try clear hb)
        (try clear hb2)
        (try clear hk)
        (try clear hi)
        refine hK.out _ _ ⟨(blk_cell BK102.out 0).trans rfl,(blk_cell BK102.out 1).trans rfl⟩ (fun hHeld=>?_)
        clear hK K
        refine pN 16 ?_
        refine pA 2 17 ?_
        refine pA 3 18 ?_
        refine pU 4 19 ?_
        refine pU 5 20 ?_
        refine pU 6 21 ?_
        refine pU 7 22 ?_
        refine pU 8 23 ?_
        refine pU 9 24 ?_
        refine pU 10 25 ?_
        refine pU 11 26 ?_
        refine pU 12 27 ?_
        refine pU 13 28 ?_
        refine pU 14 29 ?_
        refine pU 15 30 ?_
        refine pU 16 31 ?_
        refine pA 17 32 ?_
        refine done_ (done_of HT_.out zaq) ?_
        try go_wp2
        go_ret
        exact ⟨zj,zk⟩
      ·rw [if_neg c5] at H
       exact absurd H zca
     ·rw [if_neg c4] at H
      exact absurd H zca
    ·rw [if_neg c3] at H
     have c3b0:decide (x10_1<(l0.length:Int))=false:=decide_eq_false c3
     clear c3
     obtain rfl:=Option.some.inj H
     go_wp2
     go_ret
     exact ⟨zj,za⟩
end Go.Proofs.YtocegmkifmdlcaaDoor.P
