/- Part a of what FnExactReadBars stands on: functions of the program as Lean functions with their walks, and plain lemmas. -/
import Derived.Handed
import Derived.HandedShaped
import Derived.LaidMore
import Derived.Lay
import Derived.Stop.Joined
import Derived.Stop.LaidErr
import Derived.Shelf.Vars
import Derived.Lib.LaidTab
import Derived.Lib.ItoaNum
import Derived.Test.YtmoamoopoifnlaaGreatDoorK
namespace Go.Proofs.YtmoamoopoifnlaaGreatDoorD
open Go
variable {H : Type} {enc : TypeId × Value → H}
theorem handed {a : Assume} {C : Checked} {os : Os} {f : FuncId} {fn : Func} {s : ChangeSpec} {conds : List PathCond} {apart fresh handsOn again : Bool} {X : World → Array Value → Prop}
    (hX : ∀ (w w' : World) (args : Array Value), w.heap = w'.heap → X w args → X w' args)
    (own : ownKnob C.prog.godebug = none) (started : os.Started) (noInit : C.prog.inits.idxOf? f = none) (hfn : C.prog.funcs[f]? = some fn)
    (witness : ∃ (w : World) (tape : Tape) (i : Input), w.os = os ∧ (w.forCall tape i).Shaped C.prog ∧ i.vars = [] ∧ Input.okWide C.prog (w.forCall tape i) .any w.heap.size f i ∧
      ((s.pre enc C.prog fn conds apart (w.forCall tape i).memory i.args ∧ X (w.forCall tape i).memory i.args) ∧ sizedMet enc C.prog fn (OpenSpec.ofChange s) apart (w.forCall tape i).memory i.args) ∧ a.holds C.prog (lone (Frame.enter C.prog f i.args .normal) [] (w.forCall tape i)))
    (contract : ∀ (W : World) (base : Nat) (args : Array Value) (ds gs : List (DataW H)) (before : List MemPlace),
      (∀ (j : Nat) t v, fn.params[j]? = some t → args[j]? = some v → Value.okWide C.prog W .any base t v) →
      DataW.Whole enc C.prog fn.params.toList s.vars apart W args.toList ds gs before →
      conds.all (PathCond.test C.prog ⟨fn.params.toList, ds, s.plain.varTypes C.prog, gs⟩) = true →
      (DataW.weightsEach C.prog (fn.params.toList ++ s.plain.varTypes C.prog) (ds ++ gs)).all (· ≤ reachBytes) = true → X W args → W.ShapedOpen C.prog →
      a.holds C.prog (lone (Frame.enter C.prog f args .normal) [] W) →
      Calls C.prog f args W fun e W' => ∃ v, e = .returned v ∧ s.post enc C.prog fn apart fresh handsOn again W args v W') :
    ReturnsInHanded a C os f .any (fun w args => (s.pre enc C.prog fn conds apart w args ∧ X w args) ∧ sizedMet enc C.prog fn (OpenSpec.ofChange s) apart w args) (s.post enc C.prog fn apart fresh handsOn again) := by
  refine returnsInHanded_of_calls own started noInit witness ?_
  intro w tape i _ hsh _ hok hpre hholds
  obtain ⟨_, _, _, fn', hfn', _, _, _, _, hval⟩ := hok
  have e : fn' = fn := Option.some.inj (hfn'.symm.trans hfn)
  subst e
  obtain ⟨⟨⟨ds, gs, before, hw, hc⟩, hx⟩, hz⟩ := hpre
  have hw' := DataW.Whole.of_heap (w' := w.forCall tape i) (by rfl) hw
  refine (contract (w.forCall tape i) w.heap.size i.args ds gs before hval hw' hc (hz.weights hw) (hX _ _ _ (by rfl) hx) hsh hholds).mono fun e W' ⟨v, he, hp⟩ => ?_
  subst he
  exact ChangeSpec.post_blind hp
theorem star : "*" ++ "errors.errorString" = "*errors.errorString" := by decide
end Go.Proofs.YtmoamoopoifnlaaGreatDoorD

/- Default proofs: tactic blocks that stand often in the walks, once each. -/
namespace Go.Proofs.YtmoamoopoifnlaaGreatDoor.P
open Go.RowKit Go.Proofs.YtmoamoopoifnlaaGreatDoorW.PrintWords Go.Proofs.YtmoamoopoifnlaaGreatDoorW.PrintLast Go.Proofs.YtmoamoopoifnlaaGreatDoorW.PrintMore
set_option linter.unusedVariables false
section
variable {P:Program} {ops:Array Oper} {Q:Exit→Act→World→Prop} {md:Region.Mode} {S:World→Prop} {ds:List Nat}
theorem pA (i N:Nat) {oi:Oper} {v:Value} {fuel:Nat} {l l':Array Bool} {a a':Act} {w:World} (h:wpAnyLast P md ops Q S ds fuel l' a' w) (hl:l.setIfInBounds i true=l':=by simp only [List.setIfInBounds_toArray,List.set_cons_zero,List.set_cons_succ];rfl) (hi:ops[i]?=some oi:=by exact rfl) (hN:oi.dst=some N:=by exact rfl) (hc:anyB md ops l l' i=true:=by first|exact any_of HT_.out (by kernel_rfl)|kernel_rfl) (hQ:∀c a w,Q (.panic c) (a.put oi.dst v) w→Q (.panic c) a w:=by exact fun _ _ _ h=>h) (hw:Region.wanted oi (yielded ops a.tmps)=true:=by rfl) (hy:∀w',(execOp a.eval oi).run P w' = .ok (.value v) w':=by intro w';go_simp;with_reducible rfl) (ha:a.put (some N) v=a':=by simp only [Act.put,List.setIfInBounds_toArray,List.set_cons_zero,List.set_cons_succ,i64_w,i32_w];rfl):wpAnyLast P md ops Q S ds (fuel+1) l a w:=pure_ l' hi hN hc hQ (Or.inl ⟨hw,hy⟩) ha h
theorem pU (i N:Nat) {oi:Oper} {fuel:Nat} {l l':Array Bool} {a a':Act} {w:World} (h:wpAnyLast P md ops Q S ds fuel l' a' w) (hl:l.setIfInBounds i true=l':=by simp only [List.setIfInBounds_toArray,List.set_cons_zero,List.set_cons_succ];rfl) (hi:ops[i]?=some oi:=by exact rfl) (hN:oi.dst=some N:=by exact rfl) (hc:anyB md ops l l' i=true:=by first|exact any_of HT_.out (by kernel_rfl)|kernel_rfl) (hQ:∀c a w,Q (.panic c) (a.put oi.dst undef) w→Q (.panic c) a w:=by exact fun _ _ _ h=>h) (hw:Region.wanted oi (yielded ops a.tmps)=false:=by rfl) (ha:a.put (some N) undef=a':=by simp only [Act.put,List.setIfInBounds_toArray,List.set_cons_zero,List.set_cons_succ,i64_w,i32_w];rfl):wpAnyLast P md ops Q S ds (fuel+1) l a w:=pure_ (v:=undef) l' hi hN hc hQ (Or.inr ⟨hw,rfl⟩) ha h
theorem pT (i N:Nat) {oi:Oper} {v:Value} {fuel:Nat} {l l':Array Bool} {a a':Act} {w:World} (hi:ops[i]?=some oi) (hy:∀w',S w'→(execOp a.eval oi).run P w' = .ok (.value v) w') (h:wpAnyLast P md ops Q S ds fuel l' a' w) (hS:S w:=by exact hHeld) (hl:l.setIfInBounds i true=l':=by simp only [List.setIfInBounds_toArray,List.set_cons_zero,List.set_cons_succ];rfl) (hN:oi.dst=some N:=by exact rfl) (hc:takeB md ops ds l l' i=true:=by first|exact take_ofW HT_.out HW_.out (by kernel_rfl)|kernel_rfl) (hQ:∀c a w,Q (.panic c) (a.put oi.dst v) w→Q (.panic c) a w:=by exact fun _ _ _ h=>h) (hw:Region.wanted oi (yielded ops a.tmps)=true:=by rfl) (ha:a.put (some N) v=a':=by simp only [Act.put,List.setIfInBounds_toArray,List.set_cons_zero,List.set_cons_succ,i64_w,i32_w];rfl):wpAnyLast P md ops Q S ds (fuel+1) l a w:=take_ l' hi hN hc hQ (Or.inl ⟨hw,hy⟩) hS ha h
theorem pN (N:Nat) {fuel:Nat} {l:Array Bool} {a a':Act} {v:Value} {w:World} (h:wpAnyLast P md ops Q S ds fuel l a' w) (ha:a.put (some N) v=a':=by simp only [Act.put,List.setIfInBounds_toArray,List.set_cons_zero,List.set_cons_succ,i64_w,i32_w];rfl):wpAnyLast P md ops Q S ds fuel l (a.put (some N) v) w:=norm_ ha h
end
theorem za {P:Prop} (h:P:=by repeat (first|(with_reducible first|exact HB.out|apply below_alloc|apply pw_below_drewN|apply below_drew1)|exact HB.out)):P:=h
theorem zb {P:Prop} (h:P:=by repeat (first|(with_reducible first|exact HB.out|apply below_alloc|apply pw_below_drewN|apply below_drew1|refine below_set ?_ GE101.out)|exact HB.out)):P:=h
theorem zc {P:Prop} (h:P:=by (try simp only [List.map_toArray,List.map_cons,List.map_nil]);first|done|rfl|(simp only [List.length_drop,List.length_take];rfl)):P:=h
theorem zd {P:Prop} (h:P:=by (with_reducible repeat (first|refine blk_drewN ?_ _|refine blk_drew ?_|refine blk_alloc ?_ _));exact BK101.out):P:=h
theorem ze {P:Prop} (h:P:=by first|(with_reducible assumption)|assumption):P:=h
theorem zf {P:Prop} (h:P:=by first|rfl|(simp;done)|(simp [*];done)):P:=h
theorem zg {P:Prop} (h:P:=by first|rfl|(simp [errW_none,errW_some]<;>rfl)|(simp [*,errW_none,errW_some]<;>rfl)):P:=h
theorem zh {P:Prop} (h:P:=by repeat (first|(with_reducible first|exact HB.out|apply below_alloc|apply pw_below_drewN|apply below_drew1|refine below_set ?_ GE101.out|refine below_set ?_ GE107.out)|exact HB.out)):P:=h
theorem zi {P:Prop} (h:P:=by repeat (first|(with_reducible first|exact HB.out|apply below_alloc|apply pw_below_drewN|apply below_drew1|refine below_set ?_ GE101.out|refine below_set ?_ GE121.out)|exact HB.out)):P:=h
theorem zj {P:Prop} (h:P:=by first|(with_reducible assumption)|assumption|decide|exact decide_eq_true (by simp)|exact decide_eq_true (by omega)):P:=h
theorem zk {P:Prop} (h:P:=by repeat (first|exact Drawn0.refl _|apply Drawn0.step)):P:=h
theorem zl {P:Prop} (h:P:=by first|exact Kd.R_nil _ _ _ _ _|exact Kd.N_nil _ _ _ _ _|exact Kd.V_nil _ _ _ _ _|exact Kd.Q_nil _ _ _ _ _|exact Kd.S_nil _ _ _ _ _):P:=h
theorem zm {P:Prop} (h:P:=by repeat (first|exact (Kd.C_below HR1_1.out HB.out)|(with_reducible refine Kd.C_alloc ?_ _)|(with_reducible refine Kd.C_drewN ?_ _)|(with_reducible refine Kd.C_drew ?_))):P:=h
theorem zn {P:Prop} (h:P:=by repeat (first|exact (Kd.C_below HR1_2.out HB.out)|(with_reducible refine Kd.C_alloc ?_ _)|(with_reducible refine Kd.C_drewN ?_ _)|(with_reducible refine Kd.C_drew ?_))):P:=h
theorem zo {P:Prop} (h:P:=by first|(go_simp;done)|(go_simp;rfl)):P:=h
theorem zp {P:Prop} (h:P:=by (with_reducible repeat (first|refine blk_drewN ?_ _|refine blk_drew ?_|refine blk_alloc ?_ _));refine blk_far ?_ NB101_107.out _;(with_reducible repeat (first|refine blk_drewN ?_ _|refine blk_drew ?_|refine blk_alloc ?_ _));refine blk_far ?_ NB101_107.out _;(with_reducible repeat (first|refine blk_drewN ?_ _|refine blk_drew ?_|refine blk_alloc ?_ _));refine blk_far ?_ NB101_107.out _;(with_reducible repeat (first|refine blk_drewN ?_ _|refine blk_drew ?_|refine blk_alloc ?_ _));refine blk_far ?_ NB101_107.out _;(with_reducible repeat (first|refine blk_drewN ?_ _|refine blk_drew ?_|refine blk_alloc ?_ _));exact BK101.out):P:=h
theorem zq {P:Prop} (h:P:=by (with_reducible repeat (first|apply Kd.R_alloc|apply Kd.R_drewN|apply Kd.R_drew));exact HO_8.out):P:=h
theorem zr {P:Prop} (h:P:=by (with_reducible repeat (first|apply Kd.R_alloc|apply Kd.R_drewN|apply Kd.R_drew));exact HO_4.out):P:=h
theorem zt {P:Prop} (h:P:=by repeat (first|(with_reducible first|exact HB.out|apply below_alloc|apply pw_below_drewN|apply below_drew1|refine below_set ?_ GE101.out|refine below_set ?_ GE102.out)|exact HB.out)):P:=h
theorem zu {P:Prop} (h:P:=by kernel_rfl):P:=h
theorem zv {P:Prop} (h:P:=by (with_reducible repeat (first|refine blk_drewN ?_ _|refine blk_drew ?_|refine blk_alloc ?_ _));refine blk_far ?_ NB101_116.out _;(with_reducible repeat (first|refine blk_drewN ?_ _|refine blk_drew ?_|refine blk_alloc ?_ _));refine blk_far ?_ NB101_116.out _;(with_reducible repeat (first|refine blk_drewN ?_ _|refine blk_drew ?_|refine blk_alloc ?_ _));refine blk_far ?_ NB101_116.out _;(with_reducible repeat (first|refine blk_drewN ?_ _|refine blk_drew ?_|refine blk_alloc ?_ _));refine blk_far ?_ NB101_116.out _;(with_reducible repeat (first|refine blk_drewN ?_ _|refine blk_drew ?_|refine blk_alloc ?_ _));exact BK101.out):P:=h
theorem zw {P:Prop} (h:P:=by (with_reducible repeat (first|refine blk_drewN ?_ _|refine blk_drew ?_|refine blk_alloc ?_ _));exact BK121.out):P:=h
theorem zx {P:Prop} (h:P:=by repeat (first|exact HR0.out|(with_reducible refine Kd.C_alloc ?_ _)|(with_reducible refine Kd.C_drewN ?_ _)|(with_reducible refine Kd.C_drew ?_))):P:=h
theorem zy {P:Prop} (h:P:=by repeat (first|exact (Kd.C_below HR1.out (by repeat (first|(with_reducible first|exact HB.out|apply below_alloc|apply pw_below_drewN|apply below_drew1)|exact HB.out)))|(with_reducible refine Kd.C_alloc ?_ _)|(with_reducible refine Kd.C_drewN ?_ _)|(with_reducible refine Kd.C_drew ?_))):P:=h
theorem zz {P:Prop} (h:P:=by exact (below_size (by repeat (first|(with_reducible first|exact HB.out|apply below_alloc|apply pw_below_drewN|apply below_drew1|refine below_set ?_ GE101.out|refine below_set ?_ GE107.out)|exact HB.out)))):P:=h
theorem zaa {P:Prop} (h:P:=by (with_reducible repeat (first|apply Kd.R_alloc|apply Kd.R_drewN|apply Kd.R_drew));exact HO_9.out):P:=h
theorem zab {P:Prop} (h:P:=by (with_reducible repeat (first|apply Kd.R_alloc|apply Kd.R_drewN|apply Kd.R_drew));exact HO106.out):P:=h
theorem zac {P:Prop} (h:P:=by rintro w' ⟨s0,s1,s2,s3,s4,s5⟩;go_simp;with_reducible rfl):P:=h
theorem zad {P:Prop} (h:P:=by (with_reducible repeat (first|apply Kd.R_alloc|apply Kd.R_drewN|apply Kd.R_drew));exact HO_7.out):P:=h
theorem zae {P:Prop} (h:P:=by exact box_C (ca:=#[.string a1_0,.slice A1_1 l1_1.length c1_1,.slice A1_2 l1_2.length c1_2]) (t:=50) (by (with_reducible repeat (first|refine blk_drewN ?_ _|refine blk_drew ?_|refine blk_alloc ?_ _));exact BK101.out) rfl _ (k50_mk _ _ (by exact HC1_1.out) (by repeat (first|exact (Kd.C_below HR1_1.out HB.out)|(with_reducible refine Kd.C_alloc ?_ _)|(with_reducible refine Kd.C_drewN ?_ _)|(with_reducible refine Kd.C_drew ?_))) (by exact HC1_2.out) (by repeat (first|exact (Kd.C_below HR1_2.out HB.out)|(with_reducible refine Kd.C_alloc ?_ _)|(with_reducible refine Kd.C_drewN ?_ _)|(with_reducible refine Kd.C_drew ?_))))):P:=h
theorem zaf {P:Prop} (h:P:=by repeat (first|exact (Kd.C_below HR0_1.out HB.out)|(with_reducible refine Kd.C_alloc ?_ _)|(with_reducible refine Kd.C_drewN ?_ _)|(with_reducible refine Kd.C_drew ?_))):P:=h
theorem zag {P:Prop} (h:P:=by (with_reducible repeat (first|apply Kd.R_alloc|apply Kd.R_drewN|apply Kd.R_drew));exact HO_20.out):P:=h
theorem zah {P:Prop} (h:P:=by (with_reducible repeat (first|refine blk_drewN ?_ _|refine blk_drew ?_|refine blk_alloc ?_ _));exact BK107.out):P:=h
theorem zai {P:Prop} (h:P:=by (with_reducible repeat (first|apply Kd.R_alloc|apply Kd.R_drewN|apply Kd.R_drew));exact HO_5.out):P:=h
theorem zaj {P:Prop} (h:P:=by (with_reducible repeat (first|apply Kd.R_alloc|apply Kd.R_drewN|apply Kd.R_drew));exact HO_6.out):P:=h
theorem zak {P:Prop} (h:P:=by (with_reducible repeat (first|refine blk_drewN ?_ _|refine blk_drew ?_|refine blk_alloc ?_ _));refine blk_put (cs:=#[.int .i64 t121,.int .i64 0]) ?_ 1 _ rfl;(with_reducible repeat (first|refine blk_drewN ?_ _|refine blk_drew ?_|refine blk_alloc ?_ _));refine blk_put (cs:=#[.int .i64 0,.int .i64 0]) ?_ 0 _ rfl;(with_reducible repeat (first|refine blk_drewN ?_ _|refine blk_drew ?_|refine blk_alloc ?_ _));exact BK124.out):P:=h
theorem zal {P:Prop} (h:P:=by (with_reducible repeat (first|refine blk_drewN ?_ _|refine blk_drew ?_|refine blk_alloc ?_ _));refine blk_put (cs:=#[.int .i64 0,.int .i64 0]) ?_ 1 _ rfl;(with_reducible repeat (first|refine blk_drewN ?_ _|refine blk_drew ?_|refine blk_alloc ?_ _));refine blk_put (cs:=#[.int .i64 0,.int .i64 0]) ?_ 0 _ rfl;(with_reducible repeat (first|refine blk_drewN ?_ _|refine blk_drew ?_|refine blk_alloc ?_ _));exact BK101.out):P:=h
theorem zam {P:Prop} (h:P:=by repeat (first|exact (Kd.R_reads' HO106.out).2.2|(with_reducible refine Kd.C_alloc ?_ _)|(with_reducible refine Kd.C_drewN ?_ _)|(with_reducible refine Kd.C_drew ?_))):P:=h
theorem zan {P:Prop} (h:P:=by (with_reducible repeat (first|apply Kd.R_alloc|apply Kd.R_drewN|apply Kd.R_drew));exact HO_122001.out):P:=h
theorem zao {P:Prop} (h:P:=by (with_reducible repeat (first|apply Kd.R_alloc|apply Kd.R_drewN|apply Kd.R_drew));exact HO_122002.out):P:=h
theorem zap {P:Prop} (h:P:=by repeat (first|exact (Kd.C_below HR0_1.out (by repeat (first|(with_reducible first|exact HB.out|apply below_alloc|apply pw_below_drewN|apply below_drew1|refine below_set ?_ GE101.out)|exact HB.out)))|(with_reducible refine Kd.C_alloc ?_ _)|(with_reducible refine Kd.C_drewN ?_ _)|(with_reducible refine Kd.C_drew ?_))):P:=h
theorem zaq {P:Prop} (h:P:=by (with_reducible repeat (first|apply Kd.R_alloc|apply Kd.R_drewN|apply Kd.R_drew));exact HO_14.out):P:=h
theorem zar {P:Prop} (h:P:=by (with_reducible repeat (first|apply Kd.S_alloc|apply Kd.S_drewN|apply Kd.S_drew));exact HO_7.out):P:=h
theorem zas {P:Prop} (h:P:=by repeat (first|(with_reducible first|exact HB.out|apply below_alloc|apply pw_below_drewN|apply below_drew1|refine below_set ?_ GE124.out)|exact HB.out)):P:=h
theorem zat {P:Prop} (h:P:=by repeat (first|(with_reducible first|exact HB.out|apply below_alloc|apply pw_below_drewN|apply below_drew1|refine below_set ?_ GE101.out|refine below_set ?_ GE102.out|refine below_set ?_ GE103.out)|exact HB.out)):P:=h
theorem zau {P:Prop} (h:P:=by repeat (first|(with_reducible first|exact HB.out|apply below_alloc|apply pw_below_drewN|apply below_drew1|refine below_set ?_ GE101.out|refine below_set ?_ GE116.out)|exact HB.out)):P:=h
theorem zav {P:Prop} (h:P:=by repeat (first|(with_reducible first|exact HB.out|apply below_alloc|apply pw_below_drewN|apply below_drew1|refine below_set ?_ GE101.out|refine below_set ?_ GE103.out)|exact HB.out)):P:=h
theorem zaw {P:Prop} (h:P:=by exact (below_size (by repeat (first|(with_reducible first|exact HB.out|apply below_alloc|apply pw_below_drewN|apply below_drew1)|exact HB.out)))):P:=h
theorem zax {P:Prop} (h:P:=by (with_reducible repeat (first|apply Kd.R_alloc|apply Kd.R_drewN|apply Kd.R_drew));exact HO_10.out):P:=h
theorem zay {P:Prop} (h:P:=by (with_reducible repeat (first|apply Kd.R_alloc|apply Kd.R_drewN|apply Kd.R_drew));exact HO_11.out):P:=h
theorem zaz {P:Prop} (h:P:=by repeat (first|exact (Kd.R_reads' HO_11.out).2.2|(with_reducible refine Kd.C_alloc ?_ _)|(with_reducible refine Kd.C_drewN ?_ _)|(with_reducible refine Kd.C_drew ?_))):P:=h
theorem zba {P:Prop} (h:P:=by (with_reducible repeat (first|apply Kd.R_alloc|apply Kd.R_drewN|apply Kd.R_drew));exact HO_3.out):P:=h
theorem zbb {P:Prop} (h:P:=by exact Door1.at HD.out (by repeat (first|(with_reducible first|exact HB.out|apply below_alloc|apply pw_below_drewN|apply below_drew1|refine below_set ?_ GE101.out|refine below_set ?_ GE107.out)|exact HB.out))):P:=h
theorem zbc {P:Prop} (h:P:=by (with_reducible repeat (first|apply Kd.R_alloc|apply Kd.R_drewN|apply Kd.R_drew));exact Kd.R_mono (Kd.R_far (p:=⟨gb124,1,none⟩) (Kd.R_far (p:=⟨gb124,0,none⟩) (Kd.R_mono HO_5.out (fun k_ hk=>(⟨hk,hk.2⟩:_∧k_≠gb124))) (fun _ hk=>hk.2) (.int .i64 t121)) (fun _ hk=>hk.2) (.int .i64 t122)) (fun _ hk=>hk.1.2)):P:=h
theorem zbd {P:Prop} (h:P:=by omega):P:=h
theorem zbe {P:Prop} (h:P:=by repeat (first|(with_reducible first|exact HB.out|apply below_alloc|apply pw_below_drewN|apply below_drew1|refine below_set ?_ GE104.out)|exact HB.out)):P:=h
theorem zbf {P:Prop} (h:P:=by repeat (first|(with_reducible first|exact HK.out|apply Kept.alloc|apply Kept.drewN|apply Kept.drew)|exact HK.out)):P:=h
theorem zbg {P:Prop} (h:P:=by (with_reducible repeat (first|apply Kd.R_alloc|apply Kd.R_drewN|apply Kd.R_drew));exact Kd.R_mono (Kd.R_far (p:=⟨gb124,1,none⟩) (Kd.R_far (p:=⟨gb124,0,none⟩) (Kd.R_types HO_6.out BK124.out (by decide)) (fun _ hk=>hk.2) (.int .i64 t121)) (fun _ hk=>hk.2) (.int .i64 t122)) (fun _ hk=>trivial)):P:=h
theorem zbh {P:Prop} (h:P:=by (with_reducible repeat (first|apply Kd.R_alloc|apply Kd.R_drewN|apply Kd.R_drew));exact Kd.R_mono (Kd.R_far (p:=⟨gb124,1,none⟩) (Kd.R_far (p:=⟨gb124,0,none⟩) (Kd.R_types HO_7.out BK124.out (by decide)) (fun _ hk=>hk.2) (.int .i64 t121)) (fun _ hk=>hk.2) (.int .i64 t122)) (fun _ hk=>trivial)):P:=h
theorem zbi {P:Prop} (h:P:=by repeat (first|exact (Kd.R_reads' HO_10.out).2.2|(with_reducible refine Kd.C_alloc ?_ _)|(with_reducible refine Kd.C_drewN ?_ _)|(with_reducible refine Kd.C_drew ?_))):P:=h
theorem zbj {P:Prop} (h:P:=by exact Door2.at HD.out (by repeat (first|(with_reducible first|exact HB.out|apply below_alloc|apply pw_below_drewN|apply below_drew1|refine below_set ?_ GE101.out)|exact HB.out))):P:=h
theorem zbk {P:Prop} (h:P:=by (with_reducible repeat (first|apply Kd.R_alloc|apply Kd.R_drewN|apply Kd.R_drew));exact HO_17.out):P:=h
theorem zbl {P:Prop} (h:P:=by rw [←hq_];exact (by repeat (first|(with_reducible first|exact HB.out|apply below_alloc|apply pw_below_drewN|apply below_drew1|refine below_set ?_ GE101.out)|exact HB.out))):P:=h
theorem zbm {P:Prop} (h:P:=by decide):P:=h
theorem zbn {P:Prop} (h:P:=by (with_reducible repeat (first|apply Kd.R_alloc|apply Kd.R_drewN|apply Kd.R_drew));exact HO103.out):P:=h
theorem zbo {P:Prop} (h:P:=by (with_reducible repeat (first|apply Kd.R_alloc|apply Kd.R_drewN|apply Kd.R_drew));exact HO108.out):P:=h
theorem zbp {P:Prop} (h:P:=by (with_reducible repeat (first|apply Kd.R_alloc|apply Kd.R_drewN|apply Kd.R_drew));exact HO_25.out):P:=h
theorem zbq {P:Prop} (h:P:=by repeat (first|exact (Kd.C_below HR1.out HB.out)|(with_reducible refine Kd.C_alloc ?_ _)|(with_reducible refine Kd.C_drewN ?_ _)|(with_reducible refine Kd.C_drew ?_))):P:=h
theorem zbr {P:Prop} (h:P:=by simp):P:=h
theorem zbs {P:Prop} (h:P:=by (with_reducible repeat (first|refine blk_drewN ?_ _|refine blk_drew ?_|refine blk_alloc ?_ _));refine blk_far ?_ (by have h_:=Kd.R_ne HO_6.out BK124.out (by decide);intro e_;exact h_ (by rw [e_];rfl)) _;(with_reducible repeat (first|refine blk_drewN ?_ _|refine blk_drew ?_|refine blk_alloc ?_ _));exact BK124.out):P:=h
theorem zbt {P:Prop} (h:P:=by repeat (first|(with_reducible exact HR107_0.out)|(with_reducible refine Kd.C_alloc ?_ _)|(with_reducible refine Kd.C_drewN ?_ _)|(with_reducible refine Kd.C_drew ?_)|exact HR107_0.out)):P:=h
theorem zbu {P:Prop} (h:P:=by repeat (first|(with_reducible exact HR109_0.out)|(with_reducible refine Kd.C_alloc ?_ _)|(with_reducible refine Kd.C_drewN ?_ _)|(with_reducible refine Kd.C_drew ?_)|exact HR109_0.out)):P:=h
theorem zbv {P:Prop} (h:P:=by (with_reducible repeat (first|apply Kd.R_alloc|apply Kd.R_drewN|apply Kd.R_drew));exact HO109.out):P:=h
theorem zbw {P:Prop} (h:P:=by (with_reducible repeat (first|apply Kd.R_alloc|apply Kd.R_drewN|apply Kd.R_drew));exact HO112.out):P:=h
theorem zbx {P:Prop} (h:P:=by (with_reducible repeat (first|apply Kd.R_alloc|apply Kd.R_drewN|apply Kd.R_drew));exact HO118.out):P:=h
theorem zby {P:Prop} (h:P:=by (with_reducible repeat (first|apply Kd.R_alloc|apply Kd.R_drewN|apply Kd.R_drew));exact HO129.out):P:=h
theorem zbz {P:Prop} (h:P:=by rw [←hq_];exact (by (with_reducible repeat (first|refine blk_drewN ?_ _|refine blk_drew ?_|refine blk_alloc ?_ _));exact BK101.out)):P:=h
theorem zca {P:Prop} (h:P:=by (with_reducible repeat (first|apply Kd.R_alloc|apply Kd.R_drewN|apply Kd.R_drew));exact Kd.R_mono HO_20.out (fun _ hk=>trivial)):P:=h
theorem zcb {P:Prop} (h:P:=by (with_reducible repeat (first|apply Kd.R_alloc|apply Kd.R_drewN|apply Kd.R_drew));exact Kd.R_mono HO_8.out (fun _ hk=>trivial)):P:=h
theorem zcc {P:Prop} (h:P:=by have:=HK1.out;first|omega|exact Nat.le_refl _):P:=h
theorem zcd {P:Prop} (h:P:=by repeat (first|exact (Kd.C_below HR0_2.out HB.out)|(with_reducible refine Kd.C_alloc ?_ _)|(with_reducible refine Kd.C_drewN ?_ _)|(with_reducible refine Kd.C_drew ?_))):P:=h
theorem zce {P:Prop} (h:P:=by repeat (first|exact (Kd.C_below HR0.out HB.out)|(with_reducible refine Kd.C_alloc ?_ _)|(with_reducible refine Kd.C_drewN ?_ _)|(with_reducible refine Kd.C_drew ?_))):P:=h
theorem zcf {P:Prop} (h:P:=by repeat (first|exact (Kd.R_reads' HO_8.out).2.2|(with_reducible refine Kd.C_alloc ?_ _)|(with_reducible refine Kd.C_drewN ?_ _)|(with_reducible refine Kd.C_drew ?_))):P:=h
theorem zcg {P:Prop} (h:P:=by (try simp only [List.map_toArray,List.map_cons,List.map_nil]);first|done|(rw [show t140.length=t122.length from (Kd.R_reads' HO_11.out).1.symm]<;>rfl)|rfl|(simp only [List.length_drop,List.length_take];rfl)):P:=h
theorem zch {P:Prop} (h:P:=by rintro w' ⟨s0,s1,s2,s3⟩;go_simp;with_reducible rfl):P:=h
theorem zci {P:Prop} (h:P:=by exact (fun _ _=>trivial)):P:=h
theorem zcj {P:Prop} (h:P:=by (with_reducible repeat (first|apply Kd.R_alloc|apply Kd.R_drewN|apply Kd.R_drew));exact HO_0.out):P:=h
theorem zck {P:Prop} (h:P:=by exact Door2.one (Door2.at HD.out (by repeat (first|(with_reducible first|exact HB.out|apply below_alloc|apply pw_below_drewN|apply below_drew1|refine below_set ?_ GE101.out)|exact HB.out)))):P:=h
theorem zcl {P:Prop} (h:P:=by repeat (first|(with_reducible first|exact HB.out|apply below_alloc|apply pw_below_drewN|apply below_drew1|refine below_set ?_ GB58.out|refine below_set ?_ GE124.out)|exact HB.out)):P:=h
theorem zcm {P:Prop} (h:P:=by repeat (first|(with_reducible exact HR111_0.out)|(with_reducible refine Kd.C_alloc ?_ _)|(with_reducible refine Kd.C_drewN ?_ _)|(with_reducible refine Kd.C_drew ?_)|exact HR111_0.out)):P:=h
theorem zcn {P:Prop} (h:P:=by repeat (first|(with_reducible exact HR114_0.out)|(with_reducible refine Kd.C_alloc ?_ _)|(with_reducible refine Kd.C_drewN ?_ _)|(with_reducible refine Kd.C_drew ?_)|exact HR114_0.out)):P:=h
theorem zco {P:Prop} (h:P:=by repeat (first|(with_reducible exact HR122_0.out)|(with_reducible refine Kd.C_alloc ?_ _)|(with_reducible refine Kd.C_drewN ?_ _)|(with_reducible refine Kd.C_drew ?_)|exact HR122_0.out)):P:=h
theorem zcp {P:Prop} (h:P:=by repeat (first|(with_reducible exact HR125_0.out)|(with_reducible refine Kd.C_alloc ?_ _)|(with_reducible refine Kd.C_drewN ?_ _)|(with_reducible refine Kd.C_drew ?_)|exact HR125_0.out)):P:=h
theorem zcq {P:Prop} (h:P:=by have:=HK1.out;omega):P:=h
theorem zcr {P:Prop} (h:P:=by first|omega|exact Nat.le_refl _):P:=h
theorem zcs {P:Prop} (h:P:=by repeat (first|(with_reducible first|exact HK.out|apply Kept.alloc|apply Kept.drewN|apply Kept.drew|refine Kept.setCell ?_ (.inr GW101.out) _)|exact HK.out)):P:=h
theorem zct {P:Prop} (h:P:=by repeat (first|(with_reducible first|exact HB.out|apply below_alloc|apply pw_below_drewN|apply below_drew1|refine below_set ?_ GE102.out)|exact HB.out)):P:=h
theorem zcu {P:Prop} (h:P:=by exact Door2.at HD.out (by repeat (first|(with_reducible first|exact HB.out|apply below_alloc|apply pw_below_drewN|apply below_drew1)|exact HB.out))):P:=h
theorem zcv {P:Prop} (h:P:=by (with_reducible repeat (first|refine blk_drewN ?_ _|refine blk_drew ?_|refine blk_alloc ?_ _));exact BK124.out):P:=h
theorem zcw {P:Prop} (h:P:=by (with_reducible repeat (first|refine blk_drewN ?_ _|refine blk_drew ?_|refine blk_alloc ?_ _));exact BK103.out):P:=h
theorem zcx {P:Prop} (h:P:=by repeat (first|exact HR1.out|(with_reducible refine Kd.C_alloc ?_ _)|(with_reducible refine Kd.C_drewN ?_ _)|(with_reducible refine Kd.C_drew ?_))):P:=h
theorem zcy {P:Prop} (h:P:=by have:=HK1.out;have:=HJ15.out;have:=HJ22.out;have:=HJ30.out;first|omega|exact Nat.le_refl _):P:=h
theorem zcz {P:Prop} (h:P:=by (with_reducible repeat (first|apply Kd.R_alloc|apply Kd.R_drewN|apply Kd.R_drew));exact HO117.out):P:=h
theorem zda {P:Prop} (h:P:=by (with_reducible repeat (first|apply Kd.R_alloc|apply Kd.R_drewN|apply Kd.R_drew));exact HO104.out):P:=h
theorem zdb {P:Prop} (h:P:=by (with_reducible repeat (first|apply Kd.R_alloc|apply Kd.R_drewN|apply Kd.R_drew));exact HO130.out):P:=h
theorem zdc {P:Prop} (h:P:=by (with_reducible repeat (first|apply Kd.R_alloc|apply Kd.R_drewN|apply Kd.R_drew));exact HO133.out):P:=h
theorem zdd {P:Prop} (h:P:=by exact (Kd.R_reads' HO106.out).2.1):P:=h
end Go.Proofs.YtmoamoopoifnlaaGreatDoor.P

namespace Go.Proofs.YtmoamoopoifnlaaGreatDoor.P
open Go.RowKit Go.Proofs.YtmoamoopoifnlaaGreatDoorW.PrintWords Go.Proofs.YtmoamoopoifnlaaGreatDoorW.PrintLast Go.Proofs.YtmoamoopoifnlaaGreatDoorW.PrintMore
attribute [local go_sem] max2_int min2_int max_two min_two max_three min_three max_four min_four str_leq str_gtr str_geq
set_option linter.unusedVariables false
set_option linter.unusedSimpArgs false
def laws_szInt64S.f (l0:List Int) (a1:Int):Option (Int):=if (wrap64 (a1 - (l0.length:Int)))<0 then (some (-1)) else (some (wrap64 (a1 - (l0.length:Int))))
set_option maxHeartbeats 8000000 in
set_option maxRecDepth 100000 in
theorem laws_szInt64S.calls (A0:Option Addr) (c0:Nat) (l0:List Int) (a1:Int) (r:Int) (w:World) (hr0:Kd.C (Kd.int .i64) w A0 l0.length l0) (hc0:l0.length≤c0) (h:laws_szInt64S.f l0 a1=some r) :
 Calls Tryz.prog 65 #[.slice A0 l0.length c0,.int .i64 a1] w fun e w'=>e = .returned (.int .i64 r)∧Drawn0 w w':=by
 have HR0:=Aside0.mk hr0
 have HC0:=Aside0.mk hc0
 clear hr0 hc0
 have H:(if (wrap64 (a1 - (l0.length:Int)))<0 then (some (-1)) else (some (wrap64 (a1 - (l0.length:Int)))))=some r:=h
 clear h
 by_cases c3:(wrap64 (a1 - (l0.length:Int)))<0
 ·rw [if_pos c3] at H
  have c3b0:decide ((wrap64 (a1 - (l0.length:Int)))<0)=true:=decide_eq_true c3
  clear c3
  obtain rfl:=Option.some.inj H
  go_enter Tryz.func65,Tryz.ntmps65
  go_wp2
  go_ret
  exact ⟨zf,zk⟩
 ·rw [if_neg c3] at H
  have c3b0:decide ((wrap64 (a1 - (l0.length:Int)))<0)=false:=decide_eq_false c3
  clear c3
  obtain rfl:=Option.some.inj H
  go_enter Tryz.func65,Tryz.ntmps65
  go_wp2
  go_ret
  exact ⟨zf,zk⟩

def laws_szTala.f (a0_0:ByteArray) (l0_1:List Int) (l0_2:List Int) (a1:Int):Option (Int):=if (wrap64 (a1 - (a0_0.size:Int)))<0 then (some (-1)) else ((laws_szInt64S.f l0_1 (wrap64 (a1 - (a0_0.size:Int)))).bind fun t102=>(if t102<0 then (some (-1)) else ((laws_szInt64S.f l0_2 t102).bind fun t103=>(if t103<0 then (some (-1)) else (some t103)))))
set_option maxHeartbeats 8000000 in
set_option maxRecDepth 100000 in
theorem laws_szTala.calls (a0_0:ByteArray) (A0_1:Option Addr) (c0_1:Nat) (l0_1:List Int) (A0_2:Option Addr) (c0_2:Nat) (l0_2:List Int) (a1:Int) (r:Int) (w:World) (hr0_1:Kd.C (Kd.int .i64) w A0_1 l0_1.length l0_1) (hc0_1:l0_1.length≤c0_1) (hr0_2:Kd.C (Kd.int .i64) w A0_2 l0_2.length l0_2) (hc0_2:l0_2.length≤c0_2) (h:laws_szTala.f a0_0 l0_1 l0_2 a1=some r) :
 Calls Tryz.prog 25 #[.agg #[.string a0_0,.slice A0_1 l0_1.length c0_1,.slice A0_2 l0_2.length c0_2],.int .i64 a1] w fun e w'=>e = .returned (.int .i64 r)∧Below w.heap.size w w':=by
 have hu46:=Tryz.underlying46
 have HR0_1:=Aside0.mk hr0_1
 have HC0_1:=Aside0.mk hc0_1
 clear hr0_1 hc0_1
 have HR0_2:=Aside0.mk hr0_2
 have HC0_2:=Aside0.mk hc0_2
 clear hr0_2 hc0_2
 have HB:=Aside0.mk (Below.refl w.heap.size w)
 have H:(if (wrap64 (a1 - (a0_0.size:Int)))<0 then (some (-1)) else ((laws_szInt64S.f l0_1 (wrap64 (a1 - (a0_0.size:Int)))).bind fun t102=>(if t102<0 then (some (-1)) else ((laws_szInt64S.f l0_2 t102).bind fun t103=>(if t103<0 then (some (-1)) else (some t103))))))=some r:=h
 clear h
 by_cases c3:(wrap64 (a1 - (a0_0.size:Int)))<0
 ·rw [if_pos c3] at H
  have c3b0:decide ((wrap64 (a1 - (a0_0.size:Int)))<0)=true:=decide_eq_true c3
  clear c3
  obtain rfl:=Option.some.inj H
  go_enter Tryz.func25,Tryz.ntmps25
  go_wp2_with (first|((with_reducible refine gate_dst (N:=2) rfl ?_);refine box_event ?hg (N:=2) ?hd (cs:=#[.string a0_0,.slice A0_1 l0_1.length c0_1,.slice A0_2 l0_2.length c0_2]) (t:=46) ?hr ?_;(case hd=>rfl);(case hg=>rfl);(case hr=>exact zo);intro gb101 hg w4 hbox hb;have n0_:=Aside0.mk (below_step za hb);have n1_:=Aside0.mk (hbox);have n2_:=Aside0.mk ((by rw [hg];exact (below_size za):w.heap.size≤gb101));have n3_:=Aside0.mk ((by rw [hg];exact (below_size za):w.heap.size≤gb101));clear HB;have HB:=n0_;have BK101:=n1_;have GW101:=n2_;have GE101:=n3_;clear n0_ n1_ n2_ n3_;clear hb hbox hg;have hcz5_0:w4.cell? ⟨gb101,0,none⟩=some (.string a0_0):=(blk_cell BK101.out 0).trans rfl;have hcz5_1:w4.cell? ⟨gb101,1,none⟩=some (.slice A0_1 l0_1.length c0_1):=(blk_cell BK101.out 1).trans rfl;have hcz5_2:w4.cell? ⟨gb101,2,none⟩=some (.slice A0_2 l0_2.length c0_2):=(blk_cell BK101.out 2).trans rfl;have hfz5_0:=blk_frozen BK101.out 0;have hfz5_1:=blk_frozen BK101.out 1;have hfz5_2:=blk_frozen BK101.out 2))
  go_ret
  exact ⟨zg,zb⟩
 ·rw [if_neg c3] at H
  have c3b0:decide ((wrap64 (a1 - (a0_0.size:Int)))<0)=false:=decide_eq_false c3
  clear c3
  replace H:=Option.bind_eq_some_iff.mp H
  obtain ⟨t102,A60,H⟩:=H
  replace H:(if t102<0 then (some (-1)) else ((laws_szInt64S.f l0_2 t102).bind fun t103=>(if t103<0 then (some (-1)) else (some t103))))=some r:=H
  have A6:=Aside0.mk A60
  clear A60
  by_cases c7:t102<0
  ·rw [if_pos c7] at H
   have c7b0:decide (t102<0)=true:=decide_eq_true c7
   clear c7
   obtain rfl:=Option.some.inj H
   go_enter Tryz.func25,Tryz.ntmps25
   go_wp2_with (first|((with_reducible refine gate_dst (N:=2) rfl ?_);refine box_event ?hg (N:=2) ?hd (cs:=#[.string a0_0,.slice A0_1 l0_1.length c0_1,.slice A0_2 l0_2.length c0_2]) (t:=46) ?hr ?_;(case hd=>rfl);(case hg=>rfl);(case hr=>exact zo);intro gb101 hg w8 hbox hb;have n0_:=Aside0.mk (below_step za hb);have n1_:=Aside0.mk (hbox);have n2_:=Aside0.mk ((by rw [hg];exact (below_size za):w.heap.size≤gb101));have n3_:=Aside0.mk ((by rw [hg];exact (below_size za):w.heap.size≤gb101));clear HB;have HB:=n0_;have BK101:=n1_;have GW101:=n2_;have GE101:=n3_;clear n0_ n1_ n2_ n3_;clear hb hbox hg;have hcz9_0:w8.cell? ⟨gb101,0,none⟩=some (.string a0_0):=(blk_cell BK101.out 0).trans rfl;have hcz9_1:w8.cell? ⟨gb101,1,none⟩=some (.slice A0_1 l0_1.length c0_1):=(blk_cell BK101.out 1).trans rfl;have hcz9_2:w8.cell? ⟨gb101,2,none⟩=some (.slice A0_2 l0_2.length c0_2):=(blk_cell BK101.out 2).trans rfl;have hfz9_0:=blk_frozen BK101.out 0;have hfz9_1:=blk_frozen BK101.out 1;have hfz9_2:=blk_frozen BK101.out 2)|((with_reducible refine gate_callee (f:=65) rfl ?_);refine goesL_ (some 15) rfl rfl Tryz.func65 zu rfl #[.slice A0_1 l0_1.length c0_1,.int .i64 (wrap64 (a1 - (a0_0.size:Int)))] rfl zc ?_;(with_reducible refine (laws_szInt64S.calls _ _ l0_1 (wrap64 (a1 - (a0_0.size:Int))) t102 _ ?side1 ?side2 A6.out).mono ?_);(case side1=>exact zaf);(case side2=>exact HC0_1.out);rintro e w' ⟨rfl,⟨nd,rfl⟩⟩;refine ⟨_,rfl,?_⟩))
   go_ret
   exact ⟨zg,zb⟩
  ·rw [if_neg c7] at H
   have c7b0:decide (t102<0)=false:=decide_eq_false c7
   clear c7
   replace H:=Option.bind_eq_some_iff.mp H
   obtain ⟨t103,A100,H⟩:=H
   replace H:(if t103<0 then (some (-1)) else (some t103))=some r:=H
   have A10:=Aside0.mk A100
   clear A100
   by_cases c11:t103<0
   ·rw [if_pos c11] at H
    have c11b0:decide (t103<0)=true:=decide_eq_true c11
    clear c11
    obtain rfl:=Option.some.inj H
    go_enter Tryz.func25,Tryz.ntmps25
    go_wp2_with (first|((with_reducible refine gate_dst (N:=2) rfl ?_);refine box_event ?hg (N:=2) ?hd (cs:=#[.string a0_0,.slice A0_1 l0_1.length c0_1,.slice A0_2 l0_2.length c0_2]) (t:=46) ?hr ?_;(case hd=>rfl);(case hg=>rfl);(case hr=>exact zo);intro gb101 hg w12 hbox hb;have n0_:=Aside0.mk (below_step za hb);have n1_:=Aside0.mk (hbox);have n2_:=Aside0.mk ((by rw [hg];exact (below_size za):w.heap.size≤gb101));have n3_:=Aside0.mk ((by rw [hg];exact (below_size za):w.heap.size≤gb101));clear HB;have HB:=n0_;have BK101:=n1_;have GW101:=n2_;have GE101:=n3_;clear n0_ n1_ n2_ n3_;clear hb hbox hg;have hcz13_0:w12.cell? ⟨gb101,0,none⟩=some (.string a0_0):=(blk_cell BK101.out 0).trans rfl;have hcz13_1:w12.cell? ⟨gb101,1,none⟩=some (.slice A0_1 l0_1.length c0_1):=(blk_cell BK101.out 1).trans rfl;have hcz13_2:w12.cell? ⟨gb101,2,none⟩=some (.slice A0_2 l0_2.length c0_2):=(blk_cell BK101.out 2).trans rfl;have hfz13_0:=blk_frozen BK101.out 0;have hfz13_1:=blk_frozen BK101.out 1;have hfz13_2:=blk_frozen BK101.out 2)|((with_reducible refine gate_callee (f:=65) rfl ?_);refine goesL_ (some 15) rfl rfl Tryz.func65 zu rfl #[.slice A0_1 l0_1.length c0_1,.int .i64 (wrap64 (a1 - (a0_0.size:Int)))] rfl zc ?_;(with_reducible refine (laws_szInt64S.calls _ _ l0_1 (wrap64 (a1 - (a0_0.size:Int))) t102 _ ?side1 ?side2 A6.out).mono ?_);(case side1=>exact zaf);(case side2=>exact HC0_1.out);rintro e w' ⟨rfl,⟨nd,rfl⟩⟩;refine ⟨_,rfl,?_⟩)|((with_reducible refine gate_callee (f:=65) rfl ?_);refine goesL_ (some 21) rfl rfl Tryz.func65 zu rfl #[.slice A0_2 l0_2.length c0_2,.int .i64 t102] rfl zc ?_;(with_reducible refine (laws_szInt64S.calls _ _ l0_2 t102 t103 _ ?side1 ?side2 A10.out).mono ?_);(case side1=>repeat (first|exact (Kd.C_below HR0_2.out zb)|(with_reducible refine Kd.C_alloc ?_ _)|(with_reducible refine Kd.C_drewN ?_ _)|(with_reducible refine Kd.C_drew ?_)));(case side2=>exact HC0_2.out);rintro e w' ⟨rfl,⟨nd,rfl⟩⟩;refine ⟨_,rfl,?_⟩))
    go_ret
    exact ⟨zg,zb⟩
   ·rw [if_neg c11] at H
    have c11b0:decide (t103<0)=false:=decide_eq_false c11
    clear c11
    obtain rfl:=Option.some.inj H
    go_enter Tryz.func25,Tryz.ntmps25
    go_wp2_with (first|((with_reducible refine gate_dst (N:=2) rfl ?_);refine box_event ?hg (N:=2) ?hd (cs:=#[.string a0_0,.slice A0_1 l0_1.length c0_1,.slice A0_2 l0_2.length c0_2]) (t:=46) ?hr ?_;(case hd=>rfl);(case hg=>rfl);(case hr=>exact zo);intro gb101 hg w14 hbox hb;have n0_:=Aside0.mk (below_step za hb);have n1_:=Aside0.mk (hbox);have n2_:=Aside0.mk ((by rw [hg];exact (below_size za):w.heap.size≤gb101));have n3_:=Aside0.mk ((by rw [hg];exact (below_size za):w.heap.size≤gb101));clear HB;have HB:=n0_;have BK101:=n1_;have GW101:=n2_;have GE101:=n3_;clear n0_ n1_ n2_ n3_;clear hb hbox hg;have hcz15_0:w14.cell? ⟨gb101,0,none⟩=some (.string a0_0):=(blk_cell BK101.out 0).trans rfl;have hcz15_1:w14.cell? ⟨gb101,1,none⟩=some (.slice A0_1 l0_1.length c0_1):=(blk_cell BK101.out 1).trans rfl;have hcz15_2:w14.cell? ⟨gb101,2,none⟩=some (.slice A0_2 l0_2.length c0_2):=(blk_cell BK101.out 2).trans rfl;have hfz15_0:=blk_frozen BK101.out 0;have hfz15_1:=blk_frozen BK101.out 1;have hfz15_2:=blk_frozen BK101.out 2)|((with_reducible refine gate_callee (f:=65) rfl ?_);refine goesL_ (some 15) rfl rfl Tryz.func65 zu rfl #[.slice A0_1 l0_1.length c0_1,.int .i64 (wrap64 (a1 - (a0_0.size:Int)))] rfl zc ?_;(with_reducible refine (laws_szInt64S.calls _ _ l0_1 (wrap64 (a1 - (a0_0.size:Int))) t102 _ ?side1 ?side2 A6.out).mono ?_);(case side1=>exact zaf);(case side2=>exact HC0_1.out);rintro e w' ⟨rfl,⟨nd,rfl⟩⟩;refine ⟨_,rfl,?_⟩)|((with_reducible refine gate_callee (f:=65) rfl ?_);refine goesL_ (some 21) rfl rfl Tryz.func65 zu rfl #[.slice A0_2 l0_2.length c0_2,.int .i64 t102] rfl zc ?_;(with_reducible refine (laws_szInt64S.calls _ _ l0_2 t102 t103 _ ?side1 ?side2 A10.out).mono ?_);(case side1=>repeat (first|exact (Kd.C_below HR0_2.out zb)|(with_reducible refine Kd.C_alloc ?_ _)|(with_reducible refine Kd.C_drewN ?_ _)|(with_reducible refine Kd.C_drew ?_)));(case side2=>exact HC0_2.out);rintro e w' ⟨rfl,⟨nd,rfl⟩⟩;refine ⟨_,rfl,?_⟩))
    go_ret
    exact ⟨zg,zb⟩

def laws_toInt64S.l0:Nat→List Int→List Int→Int→Option (List Int)
 | 0,_,_,_=>none
 | k+1,x0,x3,x4=>if x4<(x0.length:Int) then (if 0≤x4 then (if x4<(x3.length:Int) then (laws_toInt64S.l0 k x0 (x3.set (x4:Int).toNat (rd x0 x4)) (wrap64 (x4+1))) else (none)) else (none)) else (some x3)
def laws_toInt64S.f (k:Nat) (l0:List Int):Option (List Int):=if 0≤(l0.length:Int) then (if ((l0.length:Int):Int).toNat≤35184372088832 then (laws_toInt64S.l0 k l0 (List.replicate ((l0.length:Int):Int).toNat 0) 0) else (none)) else (none)
set_option maxHeartbeats 8000000 in
set_option maxRecDepth 100000 in
theorem laws_toInt64S.calls (k:Nat) (A0:Option Addr) (c0:Nat) (l0:List Int) (r:List Int) (w:World) (hr0:Kd.C (Kd.int .i64) w A0 l0.length l0) (hc0:l0.length≤c0) (h:laws_toInt64S.f k l0=some r) :
 Calls Tryz.prog 67 #[.slice A0 l0.length c0] w fun e w'=>∃v0_:Value,e = .returned (v0_)∧Kd.R (Kd.int .i64) 2 w' w.heap.size (fun _=>True) v0_ r∧Below w.heap.size w w':=by
 have HR0:=Aside0.mk hr0
 have HC0:=Aside0.mk hc0
 clear hr0 hc0
 have HB:=Aside0.mk (Below.refl w.heap.size w)
 have H:(if 0≤(l0.length:Int) then (if ((l0.length:Int):Int).toNat≤35184372088832 then (laws_toInt64S.l0 k l0 (List.replicate ((l0.length:Int):Int).toNat 0) 0) else (none)) else (none))=some r:=h
 clear h
 by_cases c2:0≤(l0.length:Int)
 ·rw [if_pos c2] at H
  have c2b0:=eq_true c2
  have c2b1:decide (0≤(l0.length:Int))=true:=decide_eq_true c2
  clear c2
  by_cases c3:((l0.length:Int):Int).toNat≤35184372088832
  ·rw [if_pos c3] at H
   have c3b0:=eq_true c3
   have c3b1:decide (((l0.length:Int):Int).toNat≤35184372088832)=true:=decide_eq_true c3
   clear c3
   obtain ⟨y101,hy101⟩:∃y_:List Int,y_=(List.replicate ((l0.length:Int):Int).toNat 0):=⟨_,rfl⟩
   replace H:(laws_toInt64S.l0 k l0 y101 0)=some r:=by first|(rw [hy101];with_reducible exact H)|(have H2_:=(Option.bind_some _ _).symm.trans H;rw [hy101];with_reducible exact H2_)|(have H2_:=(Option.bind_some _ _).symm.trans H;with_reducible exact H2_)|with_reducible exact H|(rw [hy101];exact H)|exact H
   have Ny101:=Aside0.mk hy101
   clear hy101
   have H':=Aside0.mk H
   clear H
   go_enter Tryz.func67,Tryz.ntmps67
   go_wp2_with (first|((with_reducible refine gate_dst (N:=7) rfl ?_);refine Kd.R_make (Kd.int .i64) _ 2 rfl (N:=7) rfl 37 _ _ rfl (l0.length:Int) rfl rfl Tryz.underlying37 (.int .i64 0) 8 info2 rfl zbm zbd 0 (ok:=fun _=>True) (okp:=fun _=>True) rfl (fun _ hk=>hk) trivial (of_decide_eq_true ze) (Nat.le_trans (Nat.mul_le_mul_right _ (of_decide_eq_true ze:(l0.length:Int).toNat≤35184372088832)) zbd) (Below.refl _ _) (Nat.le_refl _) ?_;intro v102 w4 ho5 hb hg_ hnew_;clear hg_ hnew_;(first|rw [←Ny101.out] at ho5|(simp only [Int.reduceToNat] at ho5;rw [←Ny101.out] at ho5));have HO103:=Aside0.mk (Kd.R_lower ho5 (below_size za));replace HB:=Aside0.mk (below_step za hb);clear hb ho5))
   go_loopg [4] k (fun kq v4 w'=>∃(x3_1:List Int) (x4_1:Int),v4 = .int .i64 x4_1∧Aside0 (laws_toInt64S.l0 kq l0 x3_1 x4_1=some r)∧Aside0 (kq≤k)∧Aside0 (Kd.R (Kd.int .i64) 2 w' w.heap.size (fun _=>True) v102 x3_1)∧Aside0 (Below w.heap.size w w'))
   case atStart=>exact ⟨(y101),(0),zf,H',⟨Nat.le_refl _⟩,⟨zbn⟩,⟨za⟩⟩
   case round=>
    clear H'
    try clear c2
    try clear c2b0
    try clear c2b1
    try clear p2
    try clear c3
    try clear c3b0
    try clear c3b1
    obtain ⟨x3_1,x4_1,rfl,HA,HK1,HO_3,HB⟩:=hrel
    cases gk with
    | zero=>exact absurd HA.out (by simp [laws_toInt64S.l0])
    | succ k1=>
     have H:=HA.out
     clear HA
     simp only [laws_toInt64S.l0] at H
     by_cases c6:x4_1<(l0.length:Int)
     ·rw [if_pos c6] at H
      have c6b0:decide (x4_1<(l0.length:Int))=true:=decide_eq_true c6
      clear c6
      by_cases c7:0≤x4_1
      ·rw [if_pos c7] at H
       have c7b0:decide (0≤x4_1)=true:=decide_eq_true c7
       clear c7
       by_cases c8:x4_1<(x3_1.length:Int)
       ·rw [if_pos c8] at H
        have c8b0:decide (x4_1<(x3_1.length:Int))=true:=decide_eq_true c8
        clear c8
        obtain ⟨y105,hy105⟩:∃y_:List Int,y_=(x3_1.set (x4_1:Int).toNat (rd l0 x4_1)):=⟨_,rfl⟩
        replace H:(laws_toInt64S.l0 k1 l0 y105 (wrap64 (x4_1+1)))=some r:=by first|(rw [hy105];with_reducible exact H)|(have H2_:=(Option.bind_some _ _).symm.trans H;rw [hy105];with_reducible exact H2_)|(have H2_:=(Option.bind_some _ _).symm.trans H;with_reducible exact H2_)|with_reducible exact H|(rw [hy105];exact H)|exact H
        have Ny105:=Aside0.mk hy105
        clear hy105
        have H':=Aside0.mk H
        clear H
        have p104:0≤(x4_1:Int):=of_decide_eq_true ze
        have q104:x4_1<(l0.length:Int):=of_decide_eq_true ze
        obtain ⟨ad104,e104,hx104_0⟩:=Kd.at_int HR0.out x4_1 p104 q104
        cases e104
        replace hx104_0:=(HB.out.cell (World.block_lt_of_cell? w _ hx104_0)).trans hx104_0
        replace p104:=eq_true p104
        replace q104:=eq_true q104
        have p9:0≤(x4_1:Int):=of_decide_eq_true ze
        have q9:(x4_1:Int)<((x3_1.length:Int):Int):=of_decide_eq_true ze
        obtain ⟨go9,co9,eo9,gb9,gl9,cl9,HG9⟩:=Kd.R_form HO_3.out zbd
        (first|cases eo9|(injection eo9 with ea_ en_ ec_;(first|subst ea_|(injection ea_ with ea_;subst ea_));subst ec_;clear en_))
        have GB9:=Aside0.mk gb9
        have GG9:=Aside0.mk HG9
        clear gb9 gl9 HG9
        obtain ⟨hx9_0,hf9_0⟩:=Kd.R_celln 0 HO_3.out (x4_1:Int) p9 q9
        replace p9:=eq_true p9
        replace q9:=eq_true q9
        have HP10:=Kd.R_putg HO_3.out (x4_1:Int) (rd l0 x4_1)
        go_wp2_with (first|((with_reducible refine gate_store (t:=2) (p:=20) rfl ?_);refine store_event (t:=2) (p:=20) (v:=?vo_w11) (w1:=(wr.setCell ⟨go9,(x4_1:Int).toNat,none⟩ (.int .i64 (rd l0 x4_1)))) ?hg ?ho ?hn ?hr ?_;(case ho=>rfl);(case hg=>rfl);(case hn=>rfl);(case hr=>exact zo);intro w11 hw;have hg:wr.grownBy w11 (some go9):=(by rw [hw];exact HP10.2);have hp_:Kd.R (Kd.int .i64) 2 w11 w.heap.size (fun _=>True) (.slice (some ⟨go9,0,none⟩) x3_1.length co9) y105:=(by rw [hw,Ny105.out];exact HP10.1);clear HP10;replace HO_3:=Aside0.mk (hp_);replace HB:=Aside0.mk ((by rw [hw];exact below_set (HB.out) GB9.out:Below w.heap.size w w11));clear hg hw hp_))
        go_roundg k1
        case measure=>have:=HK1.out;omega
        case rel=>exact ⟨(y105),(wrap64 (x4_1+1)),zf,H',⟨zcq⟩,⟨zba⟩,⟨za⟩⟩
       ·rw [if_neg c8] at H
        exact absurd H zbr
      ·rw [if_neg c7] at H
       exact absurd H zbr
     ·rw [if_neg c6] at H
      have c6b0:decide (x4_1<(l0.length:Int))=false:=decide_eq_false c6
      clear c6
      obtain rfl:=Option.some.inj H
      go_wp2
      go_ret
      exact ⟨_,zg,zba,za⟩
  ·rw [if_neg c3] at H
   exact absurd H zbr
 ·rw [if_neg c2] at H
  exact absurd H zbr

def laws_toTala.f (k:Nat) (a0_0:ByteArray) (l0_1:List Int) (l0_2:List Int):Option (ByteArray × List Int × List Int):=(laws_toInt64S.f k l0_1).bind fun t104=>((laws_toInt64S.f k l0_2).bind fun t107=>(some (a0_0,t104,t107)))
set_option maxHeartbeats 8000000 in
set_option maxRecDepth 100000 in
theorem laws_toTala.calls (k:Nat) (a0_0:ByteArray) (A0_1:Option Addr) (c0_1:Nat) (l0_1:List Int) (A0_2:Option Addr) (c0_2:Nat) (l0_2:List Int) (r1:ByteArray) (r2:List Int) (r3:List Int) (w:World) (hr0_1:Kd.C (Kd.int .i64) w A0_1 l0_1.length l0_1) (hc0_1:l0_1.length≤c0_1) (hr0_2:Kd.C (Kd.int .i64) w A0_2 l0_2.length l0_2) (hc0_2:l0_2.length≤c0_2) (h:laws_toTala.f k a0_0 l0_1 l0_2=some (r1,r2,r3)) :
 Calls Tryz.prog 27 #[.agg #[.string a0_0,.slice A0_1 l0_1.length c0_1,.slice A0_2 l0_2.length c0_2]] w fun e w'=>∃v1_ v2_:Value,e = .returned (.agg #[.string r1,v1_,v2_])∧Kd.R (Kd.int .i64) 2 w' w.heap.size (fun k_=>some k_≠(v2_:Value).ownBlock) v1_ r2∧Kd.R (Kd.int .i64) 2 w' w.heap.size (fun k_=>some k_≠(v1_:Value).ownBlock) v2_ r3∧Below w.heap.size w w':=by
 have hu46:=Tryz.underlying46
 have hu50:=Tryz.underlying50
 have HR0_1:=Aside0.mk hr0_1
 have HC0_1:=Aside0.mk hc0_1
 clear hr0_1 hc0_1
 have HR0_2:=Aside0.mk hr0_2
 have HC0_2:=Aside0.mk hc0_2
 clear hr0_2 hc0_2
 have HB:=Aside0.mk (Below.refl w.heap.size w)
 have H:((laws_toInt64S.f k l0_1).bind fun t104=>((laws_toInt64S.f k l0_2).bind fun t107=>(some (a0_0,t104,t107))))=some (r1,r2,r3):=h
 clear h
 replace H:=Option.bind_eq_some_iff.mp H
 obtain ⟨t104,A20,H⟩:=H
 replace H:((laws_toInt64S.f k l0_2).bind fun t107=>(some (a0_0,t104,t107)))=some (r1,r2,r3):=H
 have A2:=Aside0.mk A20
 clear A20
 replace H:=Option.bind_eq_some_iff.mp H
 obtain ⟨t107,A30,H⟩:=H
 replace H:(some (a0_0,t104,t107))=some (r1,r2,r3):=H
 have A3:=Aside0.mk A30
 clear A30
 simp only [Option.some.injEq,Prod.mk.injEq] at H
 obtain ⟨rfl,rfl,rfl⟩:=H
 go_enter Tryz.func27,Tryz.ntmps27
 go_wp2_with (first|((with_reducible refine gate_dst (N:=1) rfl ?_);refine box_event ?hg (N:=1) ?hd (cs:=#[.string a0_0,.slice A0_1 l0_1.length c0_1,.slice A0_2 l0_2.length c0_2]) (t:=46) ?hr ?_;(case hd=>rfl);(case hg=>rfl);(case hr=>exact zo);intro gb101 hg w4 hbox hb;have n0_:=Aside0.mk (below_step za hb);have n1_:=Aside0.mk (hbox);have n2_:=Aside0.mk ((by rw [hg];exact (below_size za):w.heap.size≤gb101));have n3_:=Aside0.mk ((by rw [hg];exact (below_size za):w.heap.size≤gb101));clear HB;have HB:=n0_;have BK101:=n1_;have GW101:=n2_;have GE101:=n3_;clear n0_ n1_ n2_ n3_;clear hb hbox hg)|((with_reducible refine gate_dst (N:=2) rfl ?_);refine box_event ?hg (N:=2) ?hd (cs:=#[.string (⟨#[]⟩:ByteArray),.slice none 0 0,.slice none 0 0]) (t:=50) ?hr ?_;(case hd=>rfl);(case hg=>rfl);(case hr=>exact zo);intro gb102 hg w5 hbox hb;have n0_:=Aside0.mk (blk_below (g:=gb101) (o:=.cells #[.string a0_0,.slice A0_1 l0_1.length c0_1,.slice A0_2 l0_2.length c0_2] 46 (0,0)) zd hb);have n1_:=Aside0.mk (below_step zb hb);have n2_:=Aside0.mk (hbox);have n3_:=Aside0.mk ((by rw [hg];exact (below_size zb):w.heap.size≤gb102));have n4_:=Aside0.mk ((by rw [hg];exact (below_size zb):w.heap.size≤gb102));have n5_:=Aside0.mk ((by rw [hg];exact Nat.ne_of_lt (blk_lt (g:=gb101) (o:=.cells #[.string a0_0,.slice A0_1 l0_1.length c0_1,.slice A0_2 l0_2.length c0_2] 46 (0,0)) zd):gb101≠gb102));have n6_:=Aside0.mk ((by rw [hg];exact Nat.ne_of_gt (blk_lt (g:=gb101) (o:=.cells #[.string a0_0,.slice A0_1 l0_1.length c0_1,.slice A0_2 l0_2.length c0_2] 46 (0,0)) zd):gb102≠gb101));clear BK101;clear HB;have BK101:=n0_;have HB:=n1_;have BK102:=n2_;have GW102:=n3_;have GE102:=n4_;have NB101_102:=n5_;have NB102_101:=n6_;clear n0_ n1_ n2_ n3_ n4_ n5_ n6_;clear hb hbox hg)|((with_reducible refine gate_dst (N:=3) rfl ?_);refine box_event ?hg (N:=3) ?hd (cs:=#[.string (⟨#[]⟩:ByteArray),.slice none 0 0,.slice none 0 0]) (t:=50) ?hr ?_;(case hd=>rfl);(case hg=>rfl);(case hr=>exact zo);intro gb103 hg w6 hbox hb;have n0_:=Aside0.mk (blk_below (g:=gb101) (o:=.cells #[.string a0_0,.slice A0_1 l0_1.length c0_1,.slice A0_2 l0_2.length c0_2] 46 (0,0)) zd hb);have n1_:=Aside0.mk (blk_below (g:=gb102) (o:=.cells #[.string (⟨#[]⟩:ByteArray),.slice none 0 0,.slice none 0 0] 50 (0,0)) (by (with_reducible repeat (first|refine blk_drewN ?_ _|refine blk_drew ?_|refine blk_alloc ?_ _));exact BK102.out) hb);have n2_:=Aside0.mk (below_step zt hb);have n3_:=Aside0.mk (hbox);have n4_:=Aside0.mk ((by rw [hg];exact (below_size zt):w.heap.size≤gb103));have n5_:=Aside0.mk ((by rw [hg];exact (below_size zt):w.heap.size≤gb103));have n6_:=Aside0.mk ((by rw [hg];exact Nat.ne_of_lt (blk_lt (g:=gb101) (o:=.cells #[.string a0_0,.slice A0_1 l0_1.length c0_1,.slice A0_2 l0_2.length c0_2] 46 (0,0)) zd):gb101≠gb103));have n7_:=Aside0.mk ((by rw [hg];exact Nat.ne_of_gt (blk_lt (g:=gb101) (o:=.cells #[.string a0_0,.slice A0_1 l0_1.length c0_1,.slice A0_2 l0_2.length c0_2] 46 (0,0)) zd):gb103≠gb101));have n8_:=Aside0.mk ((by rw [hg];exact Nat.ne_of_lt (blk_lt (g:=gb102) (o:=.cells #[.string (⟨#[]⟩:ByteArray),.slice none 0 0,.slice none 0 0] 50 (0,0)) (by (with_reducible repeat (first|refine blk_drewN ?_ _|refine blk_drew ?_|refine blk_alloc ?_ _));exact BK102.out)):gb102≠gb103));have n9_:=Aside0.mk ((by rw [hg];exact Nat.ne_of_gt (blk_lt (g:=gb102) (o:=.cells #[.string (⟨#[]⟩:ByteArray),.slice none 0 0,.slice none 0 0] 50 (0,0)) (by (with_reducible repeat (first|refine blk_drewN ?_ _|refine blk_drew ?_|refine blk_alloc ?_ _));exact BK102.out)):gb103≠gb102));clear BK101;clear BK102;clear HB;have BK101:=n0_;have BK102:=n1_;have HB:=n2_;have BK103:=n3_;have GW103:=n4_;have GE103:=n5_;have NB101_103:=n6_;have NB103_101:=n7_;have NB102_103:=n8_;have NB103_102:=n9_;clear n0_ n1_ n2_ n3_ n4_ n5_ n6_ n7_ n8_ n9_;clear hb hbox hg;have hnb7:=NB101_102.out;have hnc7:=NB102_101.out;have hnb8:=NB101_103.out;have hnc8:=NB103_101.out;have hcz9_0:w6.cell? ⟨gb101,0,none⟩=some (.string a0_0):=(blk_cell BK101.out 0).trans rfl;have hcz9_1:w6.cell? ⟨gb101,1,none⟩=some (.slice A0_1 l0_1.length c0_1):=(blk_cell BK101.out 1).trans rfl;have hcz9_2:w6.cell? ⟨gb101,2,none⟩=some (.slice A0_2 l0_2.length c0_2):=(blk_cell BK101.out 2).trans rfl;have hfz9_0:=blk_frozen BK101.out 0;have hfz9_1:=blk_frozen BK101.out 1;have hfz9_2:=blk_frozen BK101.out 2;have hnb10:=NB103_102.out;have hnc10:=NB102_103.out;have hcz11_0:w6.cell? ⟨gb103,0,none⟩=some (.string (⟨#[]⟩:ByteArray)):=(blk_cell BK103.out 0).trans rfl;have hcz11_1:w6.cell? ⟨gb103,1,none⟩=some (.slice none 0 0):=(blk_cell BK103.out 1).trans rfl;have hcz11_2:w6.cell? ⟨gb103,2,none⟩=some (.slice none 0 0):=(blk_cell BK103.out 2).trans rfl;have hfz11_0:=blk_frozen BK103.out 0;have hfz11_1:=blk_frozen BK103.out 1;have hfz11_2:=blk_frozen BK103.out 2)|((with_reducible refine gate_callee (f:=67) rfl ?_);refine goesL_ (some 9) rfl rfl Tryz.func67 zu rfl #[.slice A0_1 l0_1.length c0_1] rfl zc ?_;(with_reducible refine (laws_toInt64S.calls k _ _ l0_1 t104 _ ?side1 ?side2 A2.out).mono ?_);(case side1=>exact Kd.C_below HR0_1.out zat);(case side2=>exact HC0_1.out);rintro e w12 ⟨v105,rfl,ho0,hb⟩;refine ⟨_,rfl,?_⟩;have HO106:=Aside0.mk (Kd.R_lower ho0 (below_size zat));replace BK101:=Aside0.mk (blk_below (g:=gb101) (o:=.cells #[.string a0_0,.slice A0_1 l0_1.length c0_1,.slice A0_2 l0_2.length c0_2] 46 (0,0)) (by (with_reducible repeat (first|refine blk_drewN ?_ _|refine blk_drew ?_|refine blk_alloc ?_ _));refine blk_far ?_ NB101_103.out _;(with_reducible repeat (first|refine blk_drewN ?_ _|refine blk_drew ?_|refine blk_alloc ?_ _));exact BK101.out) hb);replace BK102:=Aside0.mk (blk_below (g:=gb102) (o:=.cells #[.string (⟨#[]⟩:ByteArray),.slice none 0 0,.slice none 0 0] 50 (0,0)) (by (with_reducible repeat (first|refine blk_drewN ?_ _|refine blk_drew ?_|refine blk_alloc ?_ _));refine blk_far ?_ NB102_103.out _;(with_reducible repeat (first|refine blk_drewN ?_ _|refine blk_drew ?_|refine blk_alloc ?_ _));exact BK102.out) hb);replace BK103:=Aside0.mk (blk_below (g:=gb103) (o:=.cells #[.string a0_0,.slice none 0 0,.slice none 0 0] 50 (0,0)) (by (with_reducible repeat (first|refine blk_drewN ?_ _|refine blk_drew ?_|refine blk_alloc ?_ _));refine blk_put (cs:=#[.string (⟨#[]⟩:ByteArray),.slice none 0 0,.slice none 0 0]) ?_ 0 _ rfl;(with_reducible repeat (first|refine blk_drewN ?_ _|refine blk_drew ?_|refine blk_alloc ?_ _));exact BK103.out) hb);replace HB:=Aside0.mk (below_step zat hb);(try clear hb);(try clear hb2);(try clear hk);(try clear hi);(try clear ho0);obtain ⟨Ao13,co13,eo13⟩:=Kd.R_slice HO106.out;subst eo13;have hcz14_0:w12.cell? ⟨gb103,0,none⟩=some (.string a0_0):=(blk_cell BK103.out 0).trans rfl;have hcz14_1:w12.cell? ⟨gb103,1,none⟩=some (.slice none 0 0):=(blk_cell BK103.out 1).trans rfl;have hcz14_2:w12.cell? ⟨gb103,2,none⟩=some (.slice none 0 0):=(blk_cell BK103.out 2).trans rfl;have hfz14_0:=blk_frozen BK103.out 0;have hfz14_1:=blk_frozen BK103.out 1;have hfz14_2:=blk_frozen BK103.out 2;have hcz15_0:w12.cell? ⟨gb101,0,none⟩=some (.string a0_0):=(blk_cell BK101.out 0).trans rfl;have hcz15_1:w12.cell? ⟨gb101,1,none⟩=some (.slice A0_1 l0_1.length c0_1):=(blk_cell BK101.out 1).trans rfl;have hcz15_2:w12.cell? ⟨gb101,2,none⟩=some (.slice A0_2 l0_2.length c0_2):=(blk_cell BK101.out 2).trans rfl;have hfz15_0:=blk_frozen BK101.out 0;have hfz15_1:=blk_frozen BK101.out 1;have hfz15_2:=blk_frozen BK101.out 2)|((with_reducible refine gate_callee (f:=67) rfl ?_);refine goesL_ (some 13) rfl rfl Tryz.func67 zu rfl #[.slice A0_2 l0_2.length c0_2] rfl zc ?_;(with_reducible refine (laws_toInt64S.calls k _ _ l0_2 t107 _ ?side1 ?side2 A3.out).mono ?_);(case side1=>exact Kd.C_below HR0_2.out zat);(case side2=>exact HC0_2.out);rintro e w16 ⟨v108,rfl,ho0,hb⟩;refine ⟨_,rfl,?_⟩;have n0_:=Aside0.mk (Kd.R_elder' (by (with_reducible repeat (first|apply Kd.R_alloc|apply Kd.R_drewN|apply Kd.R_drew));exact (Kd.R_mono (Kd.R_far (p:=⟨gb103,1,none⟩) (Kd.R_types HO106.out BK103.out zbm) (fun _ hk=>hk.2) (.slice Ao13 t104.length co13)) (fun _ h_=>h_.1))) (Kd.R_base ho0) hb);have n1_:=Aside0.mk (Kd.R_lower (Kd.R_new' ho0 (Kd.R_lt (by (with_reducible repeat (first|apply Kd.R_alloc|apply Kd.R_drewN|apply Kd.R_drew));exact (Kd.R_mono (Kd.R_far (p:=⟨gb103,1,none⟩) (Kd.R_types HO106.out BK103.out zbm) (fun _ hk=>hk.2) (.slice Ao13 t104.length co13)) (fun _ h_=>h_.1))))) (below_size zat));have n2_:=Aside0.mk (blk_below (g:=gb101) (o:=.cells #[.string a0_0,.slice A0_1 l0_1.length c0_1,.slice A0_2 l0_2.length c0_2] 46 (0,0)) (by (with_reducible repeat (first|refine blk_drewN ?_ _|refine blk_drew ?_|refine blk_alloc ?_ _));refine blk_far ?_ NB101_103.out _;(with_reducible repeat (first|refine blk_drewN ?_ _|refine blk_drew ?_|refine blk_alloc ?_ _));exact BK101.out) hb);have n3_:=Aside0.mk (blk_below (g:=gb102) (o:=.cells #[.string (⟨#[]⟩:ByteArray),.slice none 0 0,.slice none 0 0] 50 (0,0)) (by (with_reducible repeat (first|refine blk_drewN ?_ _|refine blk_drew ?_|refine blk_alloc ?_ _));refine blk_far ?_ NB102_103.out _;(with_reducible repeat (first|refine blk_drewN ?_ _|refine blk_drew ?_|refine blk_alloc ?_ _));exact BK102.out) hb);have n4_:=Aside0.mk (blk_below (g:=gb103) (o:=.cells #[.string a0_0,.slice Ao13 t104.length co13,.slice none 0 0] 50 (0,0)) (by (with_reducible repeat (first|refine blk_drewN ?_ _|refine blk_drew ?_|refine blk_alloc ?_ _));refine blk_put (cs:=#[.string a0_0,.slice none 0 0,.slice none 0 0]) ?_ 1 _ rfl;(with_reducible repeat (first|refine blk_drewN ?_ _|refine blk_drew ?_|refine blk_alloc ?_ _));exact BK103.out) hb);have n5_:=Aside0.mk (below_step zat hb);clear HO106;clear BK101;clear BK102;clear BK103;clear HB;have HO106:=n0_;have HO109:=n1_;have BK101:=n2_;have BK102:=n3_;have BK103:=n4_;have HB:=n5_;clear n0_ n1_ n2_ n3_ n4_ n5_;(try clear hb);(try clear hb2);(try clear hk);(try clear hi);(try clear ho0);obtain ⟨Ao17,co17,eo17⟩:=Kd.R_slice HO109.out;subst eo17;have hcz18_0:w16.cell? ⟨gb103,0,none⟩=some (.string a0_0):=(blk_cell BK103.out 0).trans rfl;have hcz18_1:w16.cell? ⟨gb103,1,none⟩=some (.slice Ao13 t104.length co13):=(blk_cell BK103.out 1).trans rfl;have hcz18_2:w16.cell? ⟨gb103,2,none⟩=some (.slice none 0 0):=(blk_cell BK103.out 2).trans rfl;have hfz18_0:=blk_frozen BK103.out 0;have hfz18_1:=blk_frozen BK103.out 1;have hfz18_2:=blk_frozen BK103.out 2;have hcz19_0:w16.cell? ⟨gb102,0,none⟩=some (.string (⟨#[]⟩:ByteArray)):=(blk_cell BK102.out 0).trans rfl;have hcz19_1:w16.cell? ⟨gb102,1,none⟩=some (.slice none 0 0):=(blk_cell BK102.out 1).trans rfl;have hcz19_2:w16.cell? ⟨gb102,2,none⟩=some (.slice none 0 0):=(blk_cell BK102.out 2).trans rfl;have hfz19_0:=blk_frozen BK102.out 0;have hfz19_1:=blk_frozen BK102.out 1;have hfz19_2:=blk_frozen BK102.out 2))
 refine bodyPost_ret (results_cell_row rfl _ _ gb102 50 #[.string a0_0,.slice Ao13 t104.length co13,.slice Ao17 t107.length co17] (0,0) _ rfl (by (with_reducible repeat (first|refine blk_drewN ?_ _|refine blk_drew ?_|refine blk_alloc ?_ _));refine blk_put (cs:=#[.string a0_0,.slice Ao13 t104.length co13,.slice none 0 0]) ?_ 2 _ rfl;(with_reducible repeat (first|refine blk_drewN ?_ _|refine blk_drew ?_|refine blk_alloc ?_ _));refine blk_put (cs:=#[.string a0_0,.slice none 0 0,.slice none 0 0]) ?_ 1 _ rfl;(with_reducible repeat (first|refine blk_drewN ?_ _|refine blk_drew ?_|refine blk_alloc ?_ _));refine blk_put (cs:=#[.string (⟨#[]⟩:ByteArray),.slice none 0 0,.slice none 0 0]) ?_ 0 _ rfl;(with_reducible repeat (first|refine blk_drewN ?_ _|refine blk_drew ?_|refine blk_alloc ?_ _));refine blk_far ?_ NB102_103.out _;(with_reducible repeat (first|refine blk_drewN ?_ _|refine blk_drew ?_|refine blk_alloc ?_ _));exact BK102.out) Tryz.underlying50 rfl zu) rfl ?_
 exact ⟨_,_,zg,by (with_reducible repeat (first|apply Kd.R_alloc|apply Kd.R_drewN|apply Kd.R_drew));exact Kd.R_mono (Kd.R_far (p:=⟨gb102,2,none⟩) (Kd.R_far (p:=⟨gb102,1,none⟩) (Kd.R_far (p:=⟨gb102,0,none⟩) (Kd.R_far (p:=⟨gb103,2,none⟩) (Kd.R_types (Kd.R_types HO106.out BK103.out zbm) BK102.out zbm) (fun _ hk=>hk.1.2) (.slice Ao17 t107.length co17)) (fun _ hk=>hk.2) (.string a0_0)) (fun _ hk=>hk.2) (.slice Ao13 t104.length co13)) (fun _ hk=>hk.2) (.slice Ao17 t107.length co17)) (fun _ hk=>hk.1.1.2),by (with_reducible repeat (first|apply Kd.R_alloc|apply Kd.R_drewN|apply Kd.R_drew));exact Kd.R_mono (Kd.R_far (p:=⟨gb102,2,none⟩) (Kd.R_far (p:=⟨gb102,1,none⟩) (Kd.R_far (p:=⟨gb102,0,none⟩) (Kd.R_far (p:=⟨gb103,2,none⟩) (Kd.R_types (Kd.R_types HO109.out BK103.out zbm) BK102.out zbm) (fun _ hk=>hk.1.2) (.slice Ao17 t107.length co17)) (fun _ hk=>hk.2) (.string a0_0)) (fun _ hk=>hk.2) (.slice Ao13 t104.length co13)) (fun _ hk=>hk.2) (.slice Ao17 t107.length co17)) (fun _ hk=>hk.1.1.2),zat⟩

def laws_eqInt64S.l0:Nat→List Int→List Int→Int→Option (Bool)
 | 0,_,_,_=>none
 | k+1,x0,x1,x5=>if x5<(x0.length:Int) then (if 0≤x5 then (if x5<(x1.length:Int) then (if (rd x0 x5)=(rd x1 x5) then (laws_eqInt64S.l0 k x0 x1 (wrap64 (x5+1))) else (some false)) else (none)) else (none)) else (some true)
def laws_eqInt64S.f (k:Nat) (l0:List Int) (l1:List Int):Option (Bool):=if (l0.length:Int)=(l1.length:Int) then (laws_eqInt64S.l0 k l0 l1 0) else (some false)
set_option maxHeartbeats 8000000 in
set_option maxRecDepth 100000 in
theorem laws_eqInt64S.calls (k:Nat) (A0:Option Addr) (c0:Nat) (l0:List Int) (A1:Option Addr) (c1:Nat) (l1:List Int) (r:Bool) (w:World) (hr0:Kd.C (Kd.int .i64) w A0 l0.length l0) (hc0:l0.length≤c0) (hr1:Kd.C (Kd.int .i64) w A1 l1.length l1) (hc1:l1.length≤c1) (h:laws_eqInt64S.f k l0 l1=some r) :
 Calls Tryz.prog 22 #[.slice A0 l0.length c0,.slice A1 l1.length c1] w fun e w'=>e = .returned (.bool r)∧Drawn0 w w':=by
 have HR0:=Aside0.mk hr0
 have HC0:=Aside0.mk hc0
 clear hr0 hc0
 have HR1:=Aside0.mk hr1
 have HC1:=Aside0.mk hc1
 clear hr1 hc1
 have H:(if (l0.length:Int)=(l1.length:Int) then (laws_eqInt64S.l0 k l0 l1 0) else (some false))=some r:=h
 clear h
 by_cases c3:(l0.length:Int)=(l1.length:Int)
 ·rw [if_pos c3] at H
  have c3b0:((l0.length:Int) == (l1.length:Int))=true:=beq_iff_eq.mpr c3
  have c3b1:((l0.length:Int) != (l1.length:Int))=false:=bne_eq_false_iff_eq.mpr c3
  have c3b2:(l0.length == l1.length)=true:=by first|simpa using c3|(simp at c3 ⊢;omega)
  clear c3
  have H':=Aside0.mk H
  clear H
  go_enter Tryz.func22,Tryz.ntmps22
  go_wp2
  repeat (go_quiet (fail);try go_wp2)
  go_loopg [5] k (fun kq v5 w'=>∃(x5_1:Int),v5 = .int .i64 x5_1∧Aside0 (laws_eqInt64S.l0 kq l0 l1 x5_1=some r)∧Aside0 (kq≤k)∧Drawn0 w w')
  case atStart=>exact ⟨(0),zf,H',⟨Nat.le_refl _⟩,zk⟩
  case round=>
   clear H'
   try clear c1
   try clear c2
   try clear p2
   try clear c3
   try clear c3b0
   try clear c3b1
   try clear c3b2
   obtain ⟨x5_1,rfl,HA,HK1,⟨m1,rfl⟩⟩:=hrel
   cases gk with
   | zero=>exact absurd HA.out (by simp [laws_eqInt64S.l0])
   | succ k1=>
    have H:=HA.out
    clear HA
    simp only [laws_eqInt64S.l0] at H
    by_cases c4:x5_1<(l0.length:Int)
    ·rw [if_pos c4] at H
     have c4b0:decide (x5_1<(l0.length:Int))=true:=decide_eq_true c4
     clear c4
     by_cases c5:0≤x5_1
     ·rw [if_pos c5] at H
      have c5b0:decide (0≤x5_1)=true:=decide_eq_true c5
      clear c5
      by_cases c6:x5_1<(l1.length:Int)
      ·rw [if_pos c6] at H
       have c6b0:decide (x5_1<(l1.length:Int))=true:=decide_eq_true c6
       clear c6
       by_cases c7:(rd l0 x5_1)=(rd l1 x5_1)
       ·rw [if_pos c7] at H
        have c7b0:((rd l0 x5_1) == (rd l1 x5_1))=true:=beq_iff_eq.mpr c7
        have c7b1:((rd l0 x5_1) != (rd l1 x5_1))=false:=bne_eq_false_iff_eq.mpr c7
        clear c7
        have H':=Aside0.mk H
        clear H
        have p101:0≤(x5_1:Int):=of_decide_eq_true ze
        have q101:x5_1<(l0.length:Int):=of_decide_eq_true ze
        obtain ⟨ad101,e101,hx101_0⟩:=Kd.at_int HR0.out x5_1 p101 q101
        cases e101
        replace p101:=eq_true p101
        replace q101:=eq_true q101
        have p102:0≤(x5_1:Int):=of_decide_eq_true ze
        have q102:x5_1<(l1.length:Int):=of_decide_eq_true ze
        obtain ⟨ad102,e102,hx102_0⟩:=Kd.at_int HR1.out x5_1 p102 q102
        cases e102
        replace p102:=eq_true p102
        replace q102:=eq_true q102
        go_wp2
        repeat (go_quiet (fail);try go_wp2)
        go_roundg k1
        case measure=>have:=HK1.out;omega
        case rel=>exact ⟨(wrap64 (x5_1+1)),zf,H',⟨zcq⟩,zk⟩
       ·rw [if_neg c7] at H
        have c7b0:((rd l0 x5_1) == (rd l1 x5_1))=false:=beq_eq_false_iff_ne.mpr c7
        have c7b1:((rd l0 x5_1) != (rd l1 x5_1))=true:=bne_iff_ne.mpr c7
        obtain rfl:=Option.some.inj H
        have p101:0≤(x5_1:Int):=of_decide_eq_true ze
        have q101:x5_1<(l0.length:Int):=of_decide_eq_true ze
        obtain ⟨ad101,e101,hx101_0⟩:=Kd.at_int HR0.out x5_1 p101 q101
        cases e101
        replace p101:=eq_true p101
        replace q101:=eq_true q101
        have p102:0≤(x5_1:Int):=of_decide_eq_true ze
        have q102:x5_1<(l1.length:Int):=of_decide_eq_true ze
        obtain ⟨ad102,e102,hx102_0⟩:=Kd.at_int HR1.out x5_1 p102 q102
        cases e102
        replace p102:=eq_true p102
        replace q102:=eq_true q102
        go_wp2
        repeat (go_quiet (fail);try go_wp2)
        go_ret
        exact ⟨zf,zk⟩
      ·rw [if_neg c6] at H
       exact absurd H zbr
     ·rw [if_neg c5] at H
      exact absurd H zbr
    ·rw [if_neg c4] at H
     have c4b0:decide (x5_1<(l0.length:Int))=false:=decide_eq_false c4
     clear c4
     obtain rfl:=Option.some.inj H
     go_wp2
     repeat (go_quiet (fail);try go_wp2)
     go_ret
     exact ⟨zf,zk⟩
 ·rw [if_neg c3] at H
  have c3b0:((l0.length:Int) == (l1.length:Int))=false:=beq_eq_false_iff_ne.mpr c3
  have c3b1:((l0.length:Int) != (l1.length:Int))=true:=bne_iff_ne.mpr c3
  have c3b2:(l0.length == l1.length)=false:=by first|simpa using c3|(simp at c3 ⊢;omega)
  obtain rfl:=Option.some.inj H
  go_enter Tryz.func22,Tryz.ntmps22
  go_wp2
  repeat (go_quiet (fail);try go_wp2)
  go_ret
  exact ⟨zf,zk⟩

def laws_eqTala.f (k:Nat) (a0_0:ByteArray) (l0_1:List Int) (l0_2:List Int) (a1_0:ByteArray) (l1_1:List Int) (l1_2:List Int):Option (Bool):=if a0_0.toList=a1_0.toList then ((laws_eqInt64S.f k l0_1 l1_1).bind fun t103=>(if t103=true then ((laws_eqInt64S.f k l0_2 l1_2).bind fun t104=>(if t104=true then (some true) else (some false))) else (some false))) else (some false)
set_option maxHeartbeats 8000000 in
set_option maxRecDepth 100000 in
theorem laws_eqTala.calls (k:Nat) (a0_0:ByteArray) (A0_1:Option Addr) (c0_1:Nat) (l0_1:List Int) (A0_2:Option Addr) (c0_2:Nat) (l0_2:List Int) (a1_0:ByteArray) (A1_1:Option Addr) (c1_1:Nat) (l1_1:List Int) (A1_2:Option Addr) (c1_2:Nat) (l1_2:List Int) (r:Bool) (w:World) (hr0_1:Kd.C (Kd.int .i64) w A0_1 l0_1.length l0_1) (hc0_1:l0_1.length≤c0_1) (hr0_2:Kd.C (Kd.int .i64) w A0_2 l0_2.length l0_2) (hc0_2:l0_2.length≤c0_2) (hr1_1:Kd.C (Kd.int .i64) w A1_1 l1_1.length l1_1) (hc1_1:l1_1.length≤c1_1) (hr1_2:Kd.C (Kd.int .i64) w A1_2 l1_2.length l1_2) (hc1_2:l1_2.length≤c1_2) (h:laws_eqTala.f k a0_0 l0_1 l0_2 a1_0 l1_1 l1_2=some r) :
 Calls Tryz.prog 29 #[.agg #[.string a0_0,.slice A0_1 l0_1.length c0_1,.slice A0_2 l0_2.length c0_2],.agg #[.string a1_0,.slice A1_1 l1_1.length c1_1,.slice A1_2 l1_2.length c1_2]] w fun e w'=>e = .returned (.bool r)∧Below w.heap.size w w':=by
 have hu50:=Tryz.underlying50
 have HR0_1:=Aside0.mk hr0_1
 have HC0_1:=Aside0.mk hc0_1
 clear hr0_1 hc0_1
 have HR0_2:=Aside0.mk hr0_2
 have HC0_2:=Aside0.mk hc0_2
 clear hr0_2 hc0_2
 have HR1_1:=Aside0.mk hr1_1
 have HC1_1:=Aside0.mk hc1_1
 clear hr1_1 hc1_1
 have HR1_2:=Aside0.mk hr1_2
 have HC1_2:=Aside0.mk hc1_2
 clear hr1_2 hc1_2
 have HB:=Aside0.mk (Below.refl w.heap.size w)
 have H:(if a0_0.toList=a1_0.toList then ((laws_eqInt64S.f k l0_1 l1_1).bind fun t103=>(if t103=true then ((laws_eqInt64S.f k l0_2 l1_2).bind fun t104=>(if t104=true then (some true) else (some false))) else (some false))) else (some false))=some r:=h
 clear h
 by_cases c3:a0_0.toList=a1_0.toList
 ·rw [if_pos c3] at H
  have c3b0:(a0_0.toList == a1_0.toList)=true:=beq_iff_eq.mpr c3
  have c3b1:(a0_0.toList != a1_0.toList)=false:=bne_eq_false_iff_eq.mpr c3
  clear c3
  replace H:=Option.bind_eq_some_iff.mp H
  obtain ⟨t103,A40,H⟩:=H
  replace H:(if t103=true then ((laws_eqInt64S.f k l0_2 l1_2).bind fun t104=>(if t104=true then (some true) else (some false))) else (some false))=some r:=H
  have A4:=Aside0.mk A40
  clear A40
  by_cases c5:t103=true
  ·subst c5
   have H1:((laws_eqInt64S.f k l0_2 l1_2).bind fun t104=>(if t104=true then (some true) else (some false)))=some r:=by rw [if_pos rfl] at H;exact H
   clear H
   have H:=H1
   clear H1
   replace H:=Option.bind_eq_some_iff.mp H
   obtain ⟨t104,A60,H⟩:=H
   replace H:(if t104=true then (some true) else (some false))=some r:=H
   have A6:=Aside0.mk A60
   clear A60
   by_cases c7:t104=true
   ·subst c7
    have H1:(some true)=some r:=by rw [if_pos rfl] at H;exact H
    clear H
    have H:=H1
    clear H1
    obtain rfl:=Option.some.inj H
    go_enter Tryz.func29,Tryz.ntmps29
    go_wp2_with (first|((with_reducible refine gate_dst (N:=2) rfl ?_);refine box_event ?hg (N:=2) ?hd (cs:=#[.string a0_0,.slice A0_1 l0_1.length c0_1,.slice A0_2 l0_2.length c0_2]) (t:=50) ?hr ?_;(case hd=>rfl);(case hg=>rfl);(case hr=>exact zo);intro gb101 hg w8 hbox hb;have n0_:=Aside0.mk (below_step za hb);have n1_:=Aside0.mk (hbox);have n2_:=Aside0.mk ((by rw [hg];exact (below_size za):w.heap.size≤gb101));have n3_:=Aside0.mk ((by rw [hg];exact (below_size za):w.heap.size≤gb101));clear HB;have HB:=n0_;have BK101:=n1_;have GW101:=n2_;have GE101:=n3_;clear n0_ n1_ n2_ n3_;clear hb hbox hg)|((with_reducible refine gate_dst (N:=3) rfl ?_);refine box_event ?hg (N:=3) ?hd (cs:=#[.string a1_0,.slice A1_1 l1_1.length c1_1,.slice A1_2 l1_2.length c1_2]) (t:=50) ?hr ?_;(case hd=>rfl);(case hg=>rfl);(case hr=>exact zo);intro gb102 hg w9 hbox hb;have n0_:=Aside0.mk (blk_below (g:=gb101) (o:=.cells #[.string a0_0,.slice A0_1 l0_1.length c0_1,.slice A0_2 l0_2.length c0_2] 50 (0,0)) zd hb);have n1_:=Aside0.mk (below_step zb hb);have n2_:=Aside0.mk (hbox);have n3_:=Aside0.mk ((by rw [hg];exact (below_size zb):w.heap.size≤gb102));have n4_:=Aside0.mk ((by rw [hg];exact (below_size zb):w.heap.size≤gb102));have n5_:=Aside0.mk ((by rw [hg];exact Nat.ne_of_lt (blk_lt (g:=gb101) (o:=.cells #[.string a0_0,.slice A0_1 l0_1.length c0_1,.slice A0_2 l0_2.length c0_2] 50 (0,0)) zd):gb101≠gb102));have n6_:=Aside0.mk ((by rw [hg];exact Nat.ne_of_gt (blk_lt (g:=gb101) (o:=.cells #[.string a0_0,.slice A0_1 l0_1.length c0_1,.slice A0_2 l0_2.length c0_2] 50 (0,0)) zd):gb102≠gb101));clear BK101;clear HB;have BK101:=n0_;have HB:=n1_;have BK102:=n2_;have GW102:=n3_;have GE102:=n4_;have NB101_102:=n5_;have NB102_101:=n6_;clear n0_ n1_ n2_ n3_ n4_ n5_ n6_;clear hb hbox hg;have hnb10:=NB101_102.out;have hnc10:=NB102_101.out;have hcz11_0:w9.cell? ⟨gb101,0,none⟩=some (.string a0_0):=(blk_cell BK101.out 0).trans rfl;have hcz11_1:w9.cell? ⟨gb101,1,none⟩=some (.slice A0_1 l0_1.length c0_1):=(blk_cell BK101.out 1).trans rfl;have hcz11_2:w9.cell? ⟨gb101,2,none⟩=some (.slice A0_2 l0_2.length c0_2):=(blk_cell BK101.out 2).trans rfl;have hfz11_0:=blk_frozen BK101.out 0;have hfz11_1:=blk_frozen BK101.out 1;have hfz11_2:=blk_frozen BK101.out 2;have hcz12_0:w9.cell? ⟨gb102,0,none⟩=some (.string a1_0):=(blk_cell BK102.out 0).trans rfl;have hcz12_1:w9.cell? ⟨gb102,1,none⟩=some (.slice A1_1 l1_1.length c1_1):=(blk_cell BK102.out 1).trans rfl;have hcz12_2:w9.cell? ⟨gb102,2,none⟩=some (.slice A1_2 l1_2.length c1_2):=(blk_cell BK102.out 2).trans rfl;have hfz12_0:=blk_frozen BK102.out 0;have hfz12_1:=blk_frozen BK102.out 1;have hfz12_2:=blk_frozen BK102.out 2)|((with_reducible refine gate_callee (f:=22) rfl ?_);refine goesL_ (some 14) rfl rfl Tryz.func22 zu rfl #[.slice A0_1 l0_1.length c0_1,.slice A1_1 l1_1.length c1_1] rfl zc ?_;(with_reducible refine (laws_eqInt64S.calls k _ _ l0_1 _ _ l1_1 true _ ?side1 ?side2 ?side3 ?side4 A4.out).mono ?_);(case side1=>exact zaf);(case side2=>exact HC0_1.out);(case side3=>exact zm);(case side4=>exact HC1_1.out);rintro e w' ⟨rfl,⟨nd,rfl⟩⟩;refine ⟨_,rfl,?_⟩)|((with_reducible refine gate_callee (f:=22) rfl ?_);refine goesL_ (some 20) rfl rfl Tryz.func22 zu rfl #[.slice A0_2 l0_2.length c0_2,.slice A1_2 l1_2.length c1_2] rfl zc ?_;(with_reducible refine (laws_eqInt64S.calls k _ _ l0_2 _ _ l1_2 true _ ?side1 ?side2 ?side3 ?side4 A6.out).mono ?_);(case side1=>repeat (first|exact (Kd.C_below HR0_2.out zt)|(with_reducible refine Kd.C_alloc ?_ _)|(with_reducible refine Kd.C_drewN ?_ _)|(with_reducible refine Kd.C_drew ?_)));(case side2=>exact HC0_2.out);(case side3=>repeat (first|exact (Kd.C_below HR1_2.out zt)|(with_reducible refine Kd.C_alloc ?_ _)|(with_reducible refine Kd.C_drewN ?_ _)|(with_reducible refine Kd.C_drew ?_)));(case side4=>exact HC1_2.out);rintro e w' ⟨rfl,⟨nd,rfl⟩⟩;refine ⟨_,rfl,?_⟩))
    go_ret
    exact ⟨zg,zt⟩
   ·replace c7:=Bool.eq_false_iff.mpr c7
    subst c7
    have H1:(some false)=some r:=by rw [if_neg (show ¬ (false=true) by decide)] at H;exact H
    clear H
    have H:=H1
    clear H1
    obtain rfl:=Option.some.inj H
    go_enter Tryz.func29,Tryz.ntmps29
    go_wp2_with (first|((with_reducible refine gate_dst (N:=2) rfl ?_);refine box_event ?hg (N:=2) ?hd (cs:=#[.string a0_0,.slice A0_1 l0_1.length c0_1,.slice A0_2 l0_2.length c0_2]) (t:=50) ?hr ?_;(case hd=>rfl);(case hg=>rfl);(case hr=>exact zo);intro gb101 hg w13 hbox hb;have n0_:=Aside0.mk (below_step za hb);have n1_:=Aside0.mk (hbox);have n2_:=Aside0.mk ((by rw [hg];exact (below_size za):w.heap.size≤gb101));have n3_:=Aside0.mk ((by rw [hg];exact (below_size za):w.heap.size≤gb101));clear HB;have HB:=n0_;have BK101:=n1_;have GW101:=n2_;have GE101:=n3_;clear n0_ n1_ n2_ n3_;clear hb hbox hg)|((with_reducible refine gate_dst (N:=3) rfl ?_);refine box_event ?hg (N:=3) ?hd (cs:=#[.string a1_0,.slice A1_1 l1_1.length c1_1,.slice A1_2 l1_2.length c1_2]) (t:=50) ?hr ?_;(case hd=>rfl);(case hg=>rfl);(case hr=>exact zo);intro gb102 hg w14 hbox hb;have n0_:=Aside0.mk (blk_below (g:=gb101) (o:=.cells #[.string a0_0,.slice A0_1 l0_1.length c0_1,.slice A0_2 l0_2.length c0_2] 50 (0,0)) zd hb);have n1_:=Aside0.mk (below_step zb hb);have n2_:=Aside0.mk (hbox);have n3_:=Aside0.mk ((by rw [hg];exact (below_size zb):w.heap.size≤gb102));have n4_:=Aside0.mk ((by rw [hg];exact (below_size zb):w.heap.size≤gb102));have n5_:=Aside0.mk ((by rw [hg];exact Nat.ne_of_lt (blk_lt (g:=gb101) (o:=.cells #[.string a0_0,.slice A0_1 l0_1.length c0_1,.slice A0_2 l0_2.length c0_2] 50 (0,0)) zd):gb101≠gb102));have n6_:=Aside0.mk ((by rw [hg];exact Nat.ne_of_gt (blk_lt (g:=gb101) (o:=.cells #[.string a0_0,.slice A0_1 l0_1.length c0_1,.slice A0_2 l0_2.length c0_2] 50 (0,0)) zd):gb102≠gb101));clear BK101;clear HB;have BK101:=n0_;have HB:=n1_;have BK102:=n2_;have GW102:=n3_;have GE102:=n4_;have NB101_102:=n5_;have NB102_101:=n6_;clear n0_ n1_ n2_ n3_ n4_ n5_ n6_;clear hb hbox hg;have hnb15:=NB101_102.out;have hnc15:=NB102_101.out;have hcz16_0:w14.cell? ⟨gb101,0,none⟩=some (.string a0_0):=(blk_cell BK101.out 0).trans rfl;have hcz16_1:w14.cell? ⟨gb101,1,none⟩=some (.slice A0_1 l0_1.length c0_1):=(blk_cell BK101.out 1).trans rfl;have hcz16_2:w14.cell? ⟨gb101,2,none⟩=some (.slice A0_2 l0_2.length c0_2):=(blk_cell BK101.out 2).trans rfl;have hfz16_0:=blk_frozen BK101.out 0;have hfz16_1:=blk_frozen BK101.out 1;have hfz16_2:=blk_frozen BK101.out 2;have hcz17_0:w14.cell? ⟨gb102,0,none⟩=some (.string a1_0):=(blk_cell BK102.out 0).trans rfl;have hcz17_1:w14.cell? ⟨gb102,1,none⟩=some (.slice A1_1 l1_1.length c1_1):=(blk_cell BK102.out 1).trans rfl;have hcz17_2:w14.cell? ⟨gb102,2,none⟩=some (.slice A1_2 l1_2.length c1_2):=(blk_cell BK102.out 2).trans rfl;have hfz17_0:=blk_frozen BK102.out 0;have hfz17_1:=blk_frozen BK102.out 1;have hfz17_2:=blk_frozen BK102.out 2)|((with_reducible refine gate_callee (f:=22) rfl ?_);refine goesL_ (some 14) rfl rfl Tryz.func22 zu rfl #[.slice A0_1 l0_1.length c0_1,.slice A1_1 l1_1.length c1_1] rfl zc ?_;(with_reducible refine (laws_eqInt64S.calls k _ _ l0_1 _ _ l1_1 true _ ?side1 ?side2 ?side3 ?side4 A4.out).mono ?_);(case side1=>exact zaf);(case side2=>exact HC0_1.out);(case side3=>exact zm);(case side4=>exact HC1_1.out);rintro e w' ⟨rfl,⟨nd,rfl⟩⟩;refine ⟨_,rfl,?_⟩)|((with_reducible refine gate_callee (f:=22) rfl ?_);refine goesL_ (some 20) rfl rfl Tryz.func22 zu rfl #[.slice A0_2 l0_2.length c0_2,.slice A1_2 l1_2.length c1_2] rfl zc ?_;(with_reducible refine (laws_eqInt64S.calls k _ _ l0_2 _ _ l1_2 false _ ?side1 ?side2 ?side3 ?side4 A6.out).mono ?_);(case side1=>repeat (first|exact (Kd.C_below HR0_2.out zt)|(with_reducible refine Kd.C_alloc ?_ _)|(with_reducible refine Kd.C_drewN ?_ _)|(with_reducible refine Kd.C_drew ?_)));(case side2=>exact HC0_2.out);(case side3=>repeat (first|exact (Kd.C_below HR1_2.out zt)|(with_reducible refine Kd.C_alloc ?_ _)|(with_reducible refine Kd.C_drewN ?_ _)|(with_reducible refine Kd.C_drew ?_)));(case side4=>exact HC1_2.out);rintro e w' ⟨rfl,⟨nd,rfl⟩⟩;refine ⟨_,rfl,?_⟩))
    go_ret
    exact ⟨zg,zt⟩
  ·replace c5:=Bool.eq_false_iff.mpr c5
   subst c5
   have H1:(some false)=some r:=by rw [if_neg (show ¬ (false=true) by decide)] at H;exact H
   clear H
   have H:=H1
   clear H1
   obtain rfl:=Option.some.inj H
   go_enter Tryz.func29,Tryz.ntmps29
   go_wp2_with (first|((with_reducible refine gate_dst (N:=2) rfl ?_);refine box_event ?hg (N:=2) ?hd (cs:=#[.string a0_0,.slice A0_1 l0_1.length c0_1,.slice A0_2 l0_2.length c0_2]) (t:=50) ?hr ?_;(case hd=>rfl);(case hg=>rfl);(case hr=>exact zo);intro gb101 hg w18 hbox hb;have n0_:=Aside0.mk (below_step za hb);have n1_:=Aside0.mk (hbox);have n2_:=Aside0.mk ((by rw [hg];exact (below_size za):w.heap.size≤gb101));have n3_:=Aside0.mk ((by rw [hg];exact (below_size za):w.heap.size≤gb101));clear HB;have HB:=n0_;have BK101:=n1_;have GW101:=n2_;have GE101:=n3_;clear n0_ n1_ n2_ n3_;clear hb hbox hg)|((with_reducible refine gate_dst (N:=3) rfl ?_);refine box_event ?hg (N:=3) ?hd (cs:=#[.string a1_0,.slice A1_1 l1_1.length c1_1,.slice A1_2 l1_2.length c1_2]) (t:=50) ?hr ?_;(case hd=>rfl);(case hg=>rfl);(case hr=>exact zo);intro gb102 hg w19 hbox hb;have n0_:=Aside0.mk (blk_below (g:=gb101) (o:=.cells #[.string a0_0,.slice A0_1 l0_1.length c0_1,.slice A0_2 l0_2.length c0_2] 50 (0,0)) zd hb);have n1_:=Aside0.mk (below_step zb hb);have n2_:=Aside0.mk (hbox);have n3_:=Aside0.mk ((by rw [hg];exact (below_size zb):w.heap.size≤gb102));have n4_:=Aside0.mk ((by rw [hg];exact (below_size zb):w.heap.size≤gb102));have n5_:=Aside0.mk ((by rw [hg];exact Nat.ne_of_lt (blk_lt (g:=gb101) (o:=.cells #[.string a0_0,.slice A0_1 l0_1.length c0_1,.slice A0_2 l0_2.length c0_2] 50 (0,0)) zd):gb101≠gb102));have n6_:=Aside0.mk ((by rw [hg];exact Nat.ne_of_gt (blk_lt (g:=gb101) (o:=.cells #[.string a0_0,.slice A0_1 l0_1.length c0_1,.slice A0_2 l0_2.length c0_2] 50 (0,0)) zd):gb102≠gb101));clear BK101;clear HB;have BK101:=n0_;have HB:=n1_;have BK102:=n2_;have GW102:=n3_;have GE102:=n4_;have NB101_102:=n5_;have NB102_101:=n6_;clear n0_ n1_ n2_ n3_ n4_ n5_ n6_;clear hb hbox hg;have hnb20:=NB101_102.out;have hnc20:=NB102_101.out;have hcz21_0:w19.cell? ⟨gb101,0,none⟩=some (.string a0_0):=(blk_cell BK101.out 0).trans rfl;have hcz21_1:w19.cell? ⟨gb101,1,none⟩=some (.slice A0_1 l0_1.length c0_1):=(blk_cell BK101.out 1).trans rfl;have hcz21_2:w19.cell? ⟨gb101,2,none⟩=some (.slice A0_2 l0_2.length c0_2):=(blk_cell BK101.out 2).trans rfl;have hfz21_0:=blk_frozen BK101.out 0;have hfz21_1:=blk_frozen BK101.out 1;have hfz21_2:=blk_frozen BK101.out 2;have hcz22_0:w19.cell? ⟨gb102,0,none⟩=some (.string a1_0):=(blk_cell BK102.out 0).trans rfl;have hcz22_1:w19.cell? ⟨gb102,1,none⟩=some (.slice A1_1 l1_1.length c1_1):=(blk_cell BK102.out 1).trans rfl;have hcz22_2:w19.cell? ⟨gb102,2,none⟩=some (.slice A1_2 l1_2.length c1_2):=(blk_cell BK102.out 2).trans rfl;have hfz22_0:=blk_frozen BK102.out 0;have hfz22_1:=blk_frozen BK102.out 1;have hfz22_2:=blk_frozen BK102.out 2)|((with_reducible refine gate_callee (f:=22) rfl ?_);refine goesL_ (some 14) rfl rfl Tryz.func22 zu rfl #[.slice A0_1 l0_1.length c0_1,.slice A1_1 l1_1.length c1_1] rfl zc ?_;(with_reducible refine (laws_eqInt64S.calls k _ _ l0_1 _ _ l1_1 false _ ?side1 ?side2 ?side3 ?side4 A4.out).mono ?_);(case side1=>exact zaf);(case side2=>exact HC0_1.out);(case side3=>exact zm);(case side4=>exact HC1_1.out);rintro e w' ⟨rfl,⟨nd,rfl⟩⟩;refine ⟨_,rfl,?_⟩))
   go_ret
   exact ⟨zg,zt⟩
 ·rw [if_neg c3] at H
  have c3b0:(a0_0.toList == a1_0.toList)=false:=beq_eq_false_iff_ne.mpr c3
  have c3b1:(a0_0.toList != a1_0.toList)=true:=bne_iff_ne.mpr c3
  obtain rfl:=Option.some.inj H
  go_enter Tryz.func29,Tryz.ntmps29
  go_wp2_with (first|((with_reducible refine gate_dst (N:=2) rfl ?_);refine box_event ?hg (N:=2) ?hd (cs:=#[.string a0_0,.slice A0_1 l0_1.length c0_1,.slice A0_2 l0_2.length c0_2]) (t:=50) ?hr ?_;(case hd=>rfl);(case hg=>rfl);(case hr=>exact zo);intro gb101 hg w23 hbox hb;have n0_:=Aside0.mk (below_step za hb);have n1_:=Aside0.mk (hbox);have n2_:=Aside0.mk ((by rw [hg];exact (below_size za):w.heap.size≤gb101));have n3_:=Aside0.mk ((by rw [hg];exact (below_size za):w.heap.size≤gb101));clear HB;have HB:=n0_;have BK101:=n1_;have GW101:=n2_;have GE101:=n3_;clear n0_ n1_ n2_ n3_;clear hb hbox hg)|((with_reducible refine gate_dst (N:=3) rfl ?_);refine box_event ?hg (N:=3) ?hd (cs:=#[.string a1_0,.slice A1_1 l1_1.length c1_1,.slice A1_2 l1_2.length c1_2]) (t:=50) ?hr ?_;(case hd=>rfl);(case hg=>rfl);(case hr=>exact zo);intro gb102 hg w24 hbox hb;have n0_:=Aside0.mk (blk_below (g:=gb101) (o:=.cells #[.string a0_0,.slice A0_1 l0_1.length c0_1,.slice A0_2 l0_2.length c0_2] 50 (0,0)) zd hb);have n1_:=Aside0.mk (below_step zb hb);have n2_:=Aside0.mk (hbox);have n3_:=Aside0.mk ((by rw [hg];exact (below_size zb):w.heap.size≤gb102));have n4_:=Aside0.mk ((by rw [hg];exact (below_size zb):w.heap.size≤gb102));have n5_:=Aside0.mk ((by rw [hg];exact Nat.ne_of_lt (blk_lt (g:=gb101) (o:=.cells #[.string a0_0,.slice A0_1 l0_1.length c0_1,.slice A0_2 l0_2.length c0_2] 50 (0,0)) zd):gb101≠gb102));have n6_:=Aside0.mk ((by rw [hg];exact Nat.ne_of_gt (blk_lt (g:=gb101) (o:=.cells #[.string a0_0,.slice A0_1 l0_1.length c0_1,.slice A0_2 l0_2.length c0_2] 50 (0,0)) zd):gb102≠gb101));clear BK101;clear HB;have BK101:=n0_;have HB:=n1_;have BK102:=n2_;have GW102:=n3_;have GE102:=n4_;have NB101_102:=n5_;have NB102_101:=n6_;clear n0_ n1_ n2_ n3_ n4_ n5_ n6_;clear hb hbox hg;have hnb25:=NB101_102.out;have hnc25:=NB102_101.out;have hcz26_0:w24.cell? ⟨gb101,0,none⟩=some (.string a0_0):=(blk_cell BK101.out 0).trans rfl;have hcz26_1:w24.cell? ⟨gb101,1,none⟩=some (.slice A0_1 l0_1.length c0_1):=(blk_cell BK101.out 1).trans rfl;have hcz26_2:w24.cell? ⟨gb101,2,none⟩=some (.slice A0_2 l0_2.length c0_2):=(blk_cell BK101.out 2).trans rfl;have hfz26_0:=blk_frozen BK101.out 0;have hfz26_1:=blk_frozen BK101.out 1;have hfz26_2:=blk_frozen BK101.out 2;have hcz27_0:w24.cell? ⟨gb102,0,none⟩=some (.string a1_0):=(blk_cell BK102.out 0).trans rfl;have hcz27_1:w24.cell? ⟨gb102,1,none⟩=some (.slice A1_1 l1_1.length c1_1):=(blk_cell BK102.out 1).trans rfl;have hcz27_2:w24.cell? ⟨gb102,2,none⟩=some (.slice A1_2 l1_2.length c1_2):=(blk_cell BK102.out 2).trans rfl;have hfz27_0:=blk_frozen BK102.out 0;have hfz27_1:=blk_frozen BK102.out 1;have hfz27_2:=blk_frozen BK102.out 2))
  go_ret
  exact ⟨zg,zt⟩

def spec_l00In.f (a0:Int) (a1:Int) (a2:Int):Option (Bool):=if a0≥a1 then (some (decide (a0≤a2))) else (some false)
set_option maxHeartbeats 8000000 in
set_option maxRecDepth 100000 in
theorem spec_l00In.calls (a0:Int) (a1:Int) (a2:Int) (r:Bool) (w:World) (h:spec_l00In.f a0 a1 a2=some r) :
 Calls Tryz.prog 77 #[.int .i64 a0,.int .i64 a1,.int .i64 a2] w fun e w'=>e = .returned (.bool r)∧Drawn0 w w':=by
 have H:(if a0≥a1 then (some (decide (a0≤a2))) else (some false))=some r:=h
 clear h
 by_cases c4:a0≥a1
 ·rw [if_pos c4] at H
  have c4b0:decide (a1≤a0)=true:=decide_eq_true c4
  clear c4
  obtain rfl:=Option.some.inj H
  go_enter Tryz.func77,Tryz.ntmps77
  go_wp2
  go_ret
  exact ⟨zf,zk⟩
 ·rw [if_neg c4] at H
  have c4b0:decide (a1≤a0)=false:=decide_eq_false c4
  clear c4
  obtain rfl:=Option.some.inj H
  go_enter Tryz.func77,Tryz.ntmps77
  go_wp2
  go_ret
  exact ⟨zf,zk⟩

def spec_l03Pitch.f (a0:Int):Option (Bool):=(spec_l00In.f a0 (-12) 23).bind fun t101=>(some t101)
set_option maxHeartbeats 8000000 in
set_option maxRecDepth 100000 in
theorem spec_l03Pitch.calls (a0:Int) (r:Bool) (w:World) (h:spec_l03Pitch.f a0=some r) :
 Calls Tryz.prog 44 #[.int .i64 a0] w fun e w'=>e = .returned (.bool r)∧Drawn0 w w':=by
 have H:((spec_l00In.f a0 (-12) 23).bind fun t101=>(some t101))=some r:=h
 clear h
 replace H:=Option.bind_eq_some_iff.mp H
 obtain ⟨t101,A20,H⟩:=H
 replace H:(some t101)=some r:=H
 have A2:=Aside0.mk A20
 clear A20
 obtain rfl:=Option.some.inj H
 go_enter Tryz.func44,Tryz.ntmps44
 go_wp2_with (first|((with_reducible refine gate_callee (f:=77) rfl ?_);refine goesL_ (some 4) rfl rfl Tryz.func77 zu rfl #[.int .i64 a0,.int .i64 (-12),.int .i64 23] rfl zc ?_;(with_reducible refine (spec_l00In.calls a0 (-12) 23 t101 _ A2.out).mono ?_);rintro e w' ⟨rfl,⟨nd,rfl⟩⟩;refine ⟨_,rfl,?_⟩))
 go_ret
 exact ⟨zf,zk⟩

def spec_l09Length.f (a0:Int):Option (Bool):=(spec_l00In.f a0 1 64).bind fun t101=>(some t101)
set_option maxHeartbeats 8000000 in
set_option maxRecDepth 100000 in
theorem spec_l09Length.calls (a0:Int) (r:Bool) (w:World) (h:spec_l09Length.f a0=some r) :
 Calls Tryz.prog 111 #[.int .i64 a0] w fun e w'=>e = .returned (.bool r)∧Drawn0 w w':=by
 have H:((spec_l00In.f a0 1 64).bind fun t101=>(some t101))=some r:=h
 clear h
 replace H:=Option.bind_eq_some_iff.mp H
 obtain ⟨t101,A20,H⟩:=H
 replace H:(some t101)=some r:=H
 have A2:=Aside0.mk A20
 clear A20
 obtain rfl:=Option.some.inj H
 go_enter Tryz.func111,Tryz.ntmps111
 go_wp2_with (first|((with_reducible refine gate_callee (f:=77) rfl ?_);refine goesL_ (some 4) rfl rfl Tryz.func77 zu rfl #[.int .i64 a0,.int .i64 1,.int .i64 64] rfl zc ?_;(with_reducible refine (spec_l00In.calls a0 1 64 t101 _ A2.out).mono ?_);rintro e w' ⟨rfl,⟨nd,rfl⟩⟩;refine ⟨_,rfl,?_⟩))
 go_ret
 exact ⟨zf,zk⟩

def spec_l09Ok.l0:Nat→List (S67)→Int→Option (Bool)
 | 0,_,_=>none
 | k+1,x0,x3=>if x3<(x0.length:Int) then (if 0≤x3 then ((spec_l03Pitch.f ((rd_T67 x0 x3).f0)).bind fun t102=>(if t102=true then ((spec_l09Length.f ((rd_T67 x0 x3).f1)).bind fun t104=>(if t104=true then (spec_l09Ok.l0 k x0 (wrap64 (x3+1))) else (some false))) else (some false))) else (none)) else (some (decide ((x0.length:Int)≤48)))
def spec_l09Ok.f (k:Nat) (l0:List (S67)):Option (Bool):=spec_l09Ok.l0 k l0 0
set_option maxHeartbeats 8000000 in
set_option maxRecDepth 100000 in
theorem spec_l09Ok.calls (k:Nat) (A0:Option Addr) (c0:Nat) (l0:List (S67)) (r:Bool) (w:World) (hr0:Kd.C k67 w A0 l0.length l0) (hc0:l0.length≤c0) (h:spec_l09Ok.f k l0=some r) :
 Calls Tryz.prog 75 #[.slice A0 l0.length c0] w fun e w'=>e = .returned (.bool r)∧Drawn0 w w':=by
 have HR0:=Aside0.mk hr0
 have HC0:=Aside0.mk hc0
 clear hr0 hc0
 have H:(spec_l09Ok.l0 k l0 0)=some r:=h
 clear h
 have H':=Aside0.mk H
 clear H
 go_enter Tryz.func75,Tryz.ntmps75
 go_wp2
 go_loopg [3] k (fun kq v3 w'=>∃(x3_1:Int),v3 = .int .i64 x3_1∧Aside0 (spec_l09Ok.l0 kq l0 x3_1=some r)∧Aside0 (kq≤k)∧Drawn0 w w')
 case atStart=>exact ⟨(0),zf,H',⟨Nat.le_refl _⟩,zk⟩
 case round=>
  clear H'
  obtain ⟨x3_1,rfl,HA,HK1,⟨m1,rfl⟩⟩:=hrel
  cases gk with
  | zero=>exact absurd HA.out (by simp [spec_l09Ok.l0])
  | succ k1=>
   have H:=HA.out
   clear HA
   simp only [spec_l09Ok.l0] at H
   by_cases c2:x3_1<(l0.length:Int)
   ·rw [if_pos c2] at H
    have c2b0:decide (x3_1<(l0.length:Int))=true:=decide_eq_true c2
    clear c2
    by_cases c3:0≤x3_1
    ·rw [if_pos c3] at H
     have c3b0:decide (0≤x3_1)=true:=decide_eq_true c3
     clear c3
     replace H:=Option.bind_eq_some_iff.mp H
     obtain ⟨t102,A40,H⟩:=H
     replace H:(if t102=true then ((spec_l09Length.f ((rd_T67 l0 x3_1).f1)).bind fun t104=>(if t104=true then (spec_l09Ok.l0 k1 l0 (wrap64 (x3_1+1))) else (some false))) else (some false))=some r:=H
     have A4:=Aside0.mk A40
     clear A40
     by_cases c5:t102=true
     ·subst c5
      have H1:((spec_l09Length.f ((rd_T67 l0 x3_1).f1)).bind fun t104=>(if t104=true then (spec_l09Ok.l0 k1 l0 (wrap64 (x3_1+1))) else (some false)))=some r:=by rw [if_pos rfl] at H;exact H
      clear H
      have H:=H1
      clear H1
      replace H:=Option.bind_eq_some_iff.mp H
      obtain ⟨t104,A60,H⟩:=H
      replace H:(if t104=true then (spec_l09Ok.l0 k1 l0 (wrap64 (x3_1+1))) else (some false))=some r:=H
      have A6:=Aside0.mk A60
      clear A60
      by_cases c7:t104=true
      ·subst c7
       have H1:(spec_l09Ok.l0 k1 l0 (wrap64 (x3_1+1)))=some r:=by rw [if_pos rfl] at H;exact H
       clear H
       have H:=H1
       clear H1
       have H':=Aside0.mk H
       clear H
       have p101:0≤(x3_1:Int):=of_decide_eq_true ze
       have q101:x3_1<(l0.length:Int):=of_decide_eq_true ze
       obtain ⟨ad101,e101,hx101_0,hx101_1⟩:=at_T67 HR0.out x3_1 p101 q101
       cases e101
       replace p101:=eq_true p101
       replace q101:=eq_true q101
       go_wp2_with (first|((with_reducible refine gate_callee (f:=44) rfl ?_);refine goesL_ (some 15) rfl rfl Tryz.func44 zu rfl #[.int .i64 ((rd_T67 l0 x3_1).f0)] rfl zc ?_;(with_reducible refine (spec_l03Pitch.calls ((rd_T67 l0 x3_1).f0) true _ A4.out).mono ?_);rintro e w' ⟨rfl,⟨nd,rfl⟩⟩;refine ⟨_,rfl,?_⟩;have p103:0≤(x3_1:Int):=of_decide_eq_true ze;have q103:x3_1<(l0.length:Int):=of_decide_eq_true ze;obtain ⟨ad103,e103,hx103_0,hx103_1⟩:=at_T67 HR0.out x3_1 p103 q103;obtain rfl:ad101=ad103:=(by injection e103);replace p103:=eq_true p103;replace q103:=eq_true q103)|(go_at_call 111;(with_reducible refine (spec_l09Length.calls ((rd_T67 l0 x3_1).f1) true _ A6.out).mono ?_);rintro e w' ⟨rfl,⟨nd,rfl⟩⟩))
       go_roundg k1
       case measure=>have:=HK1.out;omega
       case rel=>exact ⟨(wrap64 (x3_1+1)),zf,H',⟨zcq⟩,zk⟩
      ·replace c7:=Bool.eq_false_iff.mpr c7
       subst c7
       have H1:(some false)=some r:=by rw [if_neg (show ¬ (false=true) by decide)] at H;exact H
       clear H
       have H:=H1
       clear H1
       obtain rfl:=Option.some.inj H
       have p101:0≤(x3_1:Int):=of_decide_eq_true ze
       have q101:x3_1<(l0.length:Int):=of_decide_eq_true ze
       obtain ⟨ad101,e101,hx101_0,hx101_1⟩:=at_T67 HR0.out x3_1 p101 q101
       cases e101
       replace p101:=eq_true p101
       replace q101:=eq_true q101
       go_wp2_with (first|((with_reducible refine gate_callee (f:=44) rfl ?_);refine goesL_ (some 15) rfl rfl Tryz.func44 zu rfl #[.int .i64 ((rd_T67 l0 x3_1).f0)] rfl zc ?_;(with_reducible refine (spec_l03Pitch.calls ((rd_T67 l0 x3_1).f0) true _ A4.out).mono ?_);rintro e w' ⟨rfl,⟨nd,rfl⟩⟩;refine ⟨_,rfl,?_⟩;have p103:0≤(x3_1:Int):=of_decide_eq_true ze;have q103:x3_1<(l0.length:Int):=of_decide_eq_true ze;obtain ⟨ad103,e103,hx103_0,hx103_1⟩:=at_T67 HR0.out x3_1 p103 q103;obtain rfl:ad101=ad103:=(by injection e103);replace p103:=eq_true p103;replace q103:=eq_true q103)|(go_at_call 111;(with_reducible refine (spec_l09Length.calls ((rd_T67 l0 x3_1).f1) false _ A6.out).mono ?_);rintro e w' ⟨rfl,⟨nd,rfl⟩⟩))
       go_ret
       exact ⟨zf,zk⟩
     ·replace c5:=Bool.eq_false_iff.mpr c5
      subst c5
      have H1:(some false)=some r:=by rw [if_neg (show ¬ (false=true) by decide)] at H;exact H
      clear H
      have H:=H1
      clear H1
      obtain rfl:=Option.some.inj H
      have p101:0≤(x3_1:Int):=of_decide_eq_true ze
      have q101:x3_1<(l0.length:Int):=of_decide_eq_true ze
      obtain ⟨ad101,e101,hx101_0,hx101_1⟩:=at_T67 HR0.out x3_1 p101 q101
      cases e101
      replace p101:=eq_true p101
      replace q101:=eq_true q101
      go_wp2_with (first|((with_reducible refine gate_callee (f:=44) rfl ?_);refine goesL_ (some 15) rfl rfl Tryz.func44 zu rfl #[.int .i64 ((rd_T67 l0 x3_1).f0)] rfl zc ?_;(with_reducible refine (spec_l03Pitch.calls ((rd_T67 l0 x3_1).f0) false _ A4.out).mono ?_);rintro e w' ⟨rfl,⟨nd,rfl⟩⟩;refine ⟨_,rfl,?_⟩))
      go_ret
      exact ⟨zf,zk⟩
    ·rw [if_neg c3] at H
     exact absurd H zbr
   ·rw [if_neg c2] at H
    have c2b0:decide (x3_1<(l0.length:Int))=false:=decide_eq_false c2
    clear c2
    obtain rfl:=Option.some.inj H
    go_wp2
    go_ret
    exact ⟨zf,zk⟩

def spec_l01Digit.f (a0:Int):Option (Bool):=if a0≥48 then (some (decide (a0≤57))) else (some false)
set_option maxHeartbeats 8000000 in
set_option maxRecDepth 100000 in
theorem spec_l01Digit.calls (a0:Int) (r:Bool) (w:World) (h:spec_l01Digit.f a0=some r) :
 Calls Tryz.prog 112 #[.int .u8 a0] w fun e w'=>e = .returned (.bool r)∧Drawn0 w w':=by
 have H:(if a0≥48 then (some (decide (a0≤57))) else (some false))=some r:=h
 clear h
 by_cases c2:a0≥48
 ·rw [if_pos c2] at H
  have c2b0:decide (48≤a0)=true:=decide_eq_true c2
  clear c2
  obtain rfl:=Option.some.inj H
  go_enter Tryz.func112,Tryz.ntmps112
  go_wp2
  go_ret
  exact ⟨zf,zk⟩
 ·rw [if_neg c2] at H
  have c2b0:decide (48≤a0)=false:=decide_eq_false c2
  clear c2
  obtain rfl:=Option.some.inj H
  go_enter Tryz.func112,Tryz.ntmps112
  go_wp2
  go_ret
  exact ⟨zf,zk⟩

def spec_l01Small.f (a0:Int):Option (Bool):=if a0≥97 then (some (decide (a0≤122))) else (some false)
set_option maxHeartbeats 8000000 in
set_option maxRecDepth 100000 in
theorem spec_l01Small.calls (a0:Int) (r:Bool) (w:World) (h:spec_l01Small.f a0=some r) :
 Calls Tryz.prog 192 #[.int .u8 a0] w fun e w'=>e = .returned (.bool r)∧Drawn0 w w':=by
 have H:(if a0≥97 then (some (decide (a0≤122))) else (some false))=some r:=h
 clear h
 by_cases c2:a0≥97
 ·rw [if_pos c2] at H
  have c2b0:decide (97≤a0)=true:=decide_eq_true c2
  clear c2
  obtain rfl:=Option.some.inj H
  go_enter Tryz.func192,Tryz.ntmps192
  go_wp2
  go_ret
  exact ⟨zf,zk⟩
 ·rw [if_neg c2] at H
  have c2b0:decide (97≤a0)=false:=decide_eq_false c2
  clear c2
  obtain rfl:=Option.some.inj H
  go_enter Tryz.func192,Tryz.ntmps192
  go_wp2
  go_ret
  exact ⟨zf,zk⟩

mutual
def spec_l01Name.j0:Nat→ByteArray→Bool→Option (Bool)
 | 0,_,_=>none
 | k+1,x0,x16=>if x16=true then (some false) else (spec_l01Name.l0 k x0 0)
def spec_l01Name.l0:Nat→ByteArray→Int→Option (Bool)
 | 0,_,_=>none
 | k+1,x0,x3=>if x3<(x0.size:Int) then (if 0≤x3 then ((spec_l01Small.f (bt x0 x3)).bind fun t102=>(if t102=true then (spec_l01Name.l0 k x0 (wrap64 (x3+1))) else ((spec_l01Digit.f (bt x0 x3)).bind fun t103=>(if t103=true then (spec_l01Name.l0 k x0 (wrap64 (x3+1))) else (some false))))) else (none)) else (some true)
end
def spec_l01Name.f (k:Nat) (a0:ByteArray):Option (Bool):=if a0.toList=([]:List UInt8) then (spec_l01Name.j0 k a0 true) else (if (a0.size:Int) > 10 then (spec_l01Name.j0 k a0 true) else (if 0<(a0.size:Int) then ((spec_l01Small.f (bt a0 0)).bind fun t101=>(spec_l01Name.j0 k a0 (!t101))) else (none)))
set_option maxHeartbeats 8000000 in
set_option maxRecDepth 100000 in
theorem spec_l01Name.calls (k:Nat) (a0:ByteArray) (r:Bool) (w:World) (h:spec_l01Name.f k a0=some r) :
 Calls Tryz.prog 161 #[.string a0] w fun e w'=>e = .returned (.bool r)∧Drawn0 w w':=by
 have H:(if a0.toList=([]:List UInt8) then (spec_l01Name.j0 k a0 true) else (if (a0.size:Int) > 10 then (spec_l01Name.j0 k a0 true) else (if 0<(a0.size:Int) then ((spec_l01Small.f (bt a0 0)).bind fun t101=>(spec_l01Name.j0 k a0 (!t101))) else (none))))=some r:=h
 clear h
 have HC2:=Aside0.mk H
 clear H
 go_enter Tryz.func161,Tryz.ntmps161
 go_upto_region 1 with (fail)
 go_cut [16] (fun v16 wc=>∃(kq:Nat) (x16_1:Bool),v16 = .bool x16_1∧Aside0 (spec_l01Name.j0 kq a0 x16_1=some r)∧Aside0 (kq≤k)∧Drawn0 w wc)
 case first=>
  have H:=HC2.out
  clear HC2
  by_cases c3:a0.toList=([]:List UInt8)
  ·rw [if_pos c3] at H
   have c3b0:(a0.toList == ([]:List UInt8))=true:=beq_iff_eq.mpr c3
   have c3b1:(a0.toList != ([]:List UInt8))=false:=bne_eq_false_iff_eq.mpr c3
   clear c3
   (first|rw [c3b0]|(simp only [i64_w,i32_w];rw [c3b0])|skip)
   have H':=Aside0.mk H
   clear H
   go_wp2
   go_meet
   case rel=>exact ⟨_,(true),zf,H',⟨zcr⟩,zk⟩
  ·rw [if_neg c3] at H
   have c3b0:(a0.toList == ([]:List UInt8))=false:=beq_eq_false_iff_ne.mpr c3
   have c3b1:(a0.toList != ([]:List UInt8))=true:=bne_iff_ne.mpr c3
   (first|rw [c3b0]|(simp only [i64_w,i32_w];rw [c3b0])|skip)
   by_cases c4:(a0.size:Int) > 10
   ·rw [if_pos c4] at H
    have c4b0:decide (10<(a0.size:Int))=true:=decide_eq_true c4
    have c4b1:decide (10<a0.size)=true:=decide_eq_true zbd
    clear c4
    have H':=Aside0.mk H
    clear H
    go_wp2
    go_meet
    case rel=>exact ⟨_,(true),zf,H',⟨zcr⟩,zk⟩
   ·rw [if_neg c4] at H
    have c4b0:decide (10<(a0.size:Int))=false:=decide_eq_false c4
    have c4b1:decide (10<a0.size)=false:=decide_eq_false zbd
    clear c4
    by_cases c5:0<(a0.size:Int)
    ·rw [if_pos c5] at H
     have c5b0:decide (0<(a0.size:Int))=true:=decide_eq_true c5
     have c5b1:decide (0<a0.size)=true:=decide_eq_true zbd
     clear c5
     replace H:=Option.bind_eq_some_iff.mp H
     obtain ⟨t101,A70,H⟩:=H
     replace H:(spec_l01Name.j0 k a0 (!t101))=some r:=H
     have A7:=Aside0.mk A70
     clear A70
     have H':=Aside0.mk H
     clear H
     have p6:0≤(0:Int):=zbd
     have q6:0<a0.size:=(by have:(0:Int)<(a0.size:Int):=of_decide_eq_true ze;omega)
     have hx6:∀h:0<a0.size,((a0[0]'h).toNat:Int)=bt a0 0:=bt_at a0 0
     clear p6
     have qi6:(0<(a0.size:Int))=True:=eq_true (of_decide_eq_true ze)
     replace q6:=eq_true q6
     go_wp2_with (first|(go_at_call 192;(with_reducible refine (spec_l01Small.calls (bt a0 0) t101 _ A7.out).mono ?_);rintro e w' ⟨rfl,⟨nd,rfl⟩⟩))
     go_meet
     case rel=>exact ⟨_,(!t101),zf,H',⟨zcr⟩,zk⟩
    ·rw [if_neg c5] at H
     exact absurd H zbr
 case rest=>
  clear HC2
  try clear c1
  try clear p2
  try clear c3
  try clear c3b0
  try clear c3b1
  try clear c4
  try clear c4b0
  try clear c4b1
  try clear c5
  try clear c5b0
  try clear c5b1
  try clear p6
  try clear q6
  try clear hx6
  try clear qi6
  try clear p6
  try clear q6
  obtain ⟨kq,x16_1,rfl,HA,HJ1,⟨mc1,rfl⟩⟩:=hcut
  cases kq with
  | zero=>exact absurd HA.out (by simp [spec_l01Name.j0])
  | succ kj1=>
   have H:=HA.out
   clear HA
   simp only [spec_l01Name.j0] at H
   by_cases c8:x16_1=true
   ·subst c8
    have H1:(some false)=some r:=by rw [if_pos rfl] at H;exact H
    clear H
    have H:=H1
    clear H1
    obtain rfl:=Option.some.inj H
    go_wp2
    go_ret
    exact ⟨zf,zk⟩
   ·replace c8:=Bool.eq_false_iff.mpr c8
    subst c8
    have H1:(spec_l01Name.l0 kj1 a0 0)=some r:=by rw [if_neg (show ¬ (false=true) by decide)] at H;exact H
    clear H
    have H:=H1
    clear H1
    have H':=Aside0.mk H
    clear H
    go_wp2
    go_loopg [3] kj1 (fun kq v3 w'=>∃(x3_2:Int),v3 = .int .i64 x3_2∧Aside0 (spec_l01Name.l0 kq a0 x3_2=some r)∧Aside0 (kq≤kj1)∧Drawn0 w w')
    case atStart=>exact ⟨(0),zf,H',⟨Nat.le_refl _⟩,zk⟩
    case round=>
     clear H'
     try clear c1
     try clear p2
     try clear c3
     try clear c3b0
     try clear c3b1
     try clear c4
     try clear c4b0
     try clear c4b1
     try clear c5
     try clear c5b0
     try clear c5b1
     try clear p6
     try clear q6
     try clear hx6
     try clear qi6
     try clear c8
     try clear p2
     try clear p6
     try clear q6
     obtain ⟨x3_2,rfl,HA,HK2,⟨m2,rfl⟩⟩:=hrel
     cases gk with
     | zero=>exact absurd HA.out (by simp [spec_l01Name.l0])
     | succ k2=>
      have H:=HA.out
      clear HA
      simp only [spec_l01Name.l0] at H
      by_cases c9:x3_2<(a0.size:Int)
      ·rw [if_pos c9] at H
       have c9b0:decide (x3_2<(a0.size:Int))=true:=decide_eq_true c9
       clear c9
       by_cases c10:0≤x3_2
       ·rw [if_pos c10] at H
        have c10b0:decide (0≤x3_2)=true:=decide_eq_true c10
        clear c10
        replace H:=Option.bind_eq_some_iff.mp H
        obtain ⟨t102,A120,H⟩:=H
        replace H:(if t102=true then (spec_l01Name.l0 k2 a0 (wrap64 (x3_2+1))) else ((spec_l01Digit.f (bt a0 x3_2)).bind fun t103=>(if t103=true then (spec_l01Name.l0 k2 a0 (wrap64 (x3_2+1))) else (some false))))=some r:=H
        have A12:=Aside0.mk A120
        clear A120
        by_cases c13:t102=true
        ·subst c13
         have H1:(spec_l01Name.l0 k2 a0 (wrap64 (x3_2+1)))=some r:=by rw [if_pos rfl] at H;exact H
         clear H
         have H:=H1
         clear H1
         have H':=Aside0.mk H
         clear H
         have p11:0≤(x3_2:Int):=of_decide_eq_true ze
         have q11:x3_2<(a0.size:Int):=of_decide_eq_true ze
         have hx11:=bt_at a0 x3_2
         replace p11:=eq_true p11
         replace q11:=eq_true q11
         go_wp2_with (first|((with_reducible refine gate_callee (f:=192) rfl ?_);refine goesL_ (some 26) rfl rfl Tryz.func192 zu rfl #[.int .u8 (bt a0 x3_2)] rfl zc ?_;(with_reducible refine (spec_l01Small.calls (bt a0 x3_2) true _ A12.out).mono ?_);rintro e w' ⟨rfl,⟨nd,rfl⟩⟩;refine ⟨_,rfl,?_⟩))
         go_roundg k2
         case measure=>have:=HJ1.out;have:=HK2.out;omega
         case rel=>exact ⟨(wrap64 (x3_2+1)),zf,H',⟨by have:=HJ1.out;have:=HK2.out;omega⟩,zk⟩
        ·replace c13:=Bool.eq_false_iff.mpr c13
         subst c13
         have H1:((spec_l01Digit.f (bt a0 x3_2)).bind fun t103=>(if t103=true then (spec_l01Name.l0 k2 a0 (wrap64 (x3_2+1))) else (some false)))=some r:=by rw [if_neg (show ¬ (false=true) by decide)] at H;exact H
         clear H
         have H:=H1
         clear H1
         replace H:=Option.bind_eq_some_iff.mp H
         obtain ⟨t103,A150,H⟩:=H
         replace H:(if t103=true then (spec_l01Name.l0 k2 a0 (wrap64 (x3_2+1))) else (some false))=some r:=H
         have A15:=Aside0.mk A150
         clear A150
         by_cases c16:t103=true
         ·subst c16
          have H1:(spec_l01Name.l0 k2 a0 (wrap64 (x3_2+1)))=some r:=by rw [if_pos rfl] at H;exact H
          clear H
          have H:=H1
          clear H1
          have H':=Aside0.mk H
          clear H
          have p11:0≤(x3_2:Int):=of_decide_eq_true ze
          have q11:x3_2<(a0.size:Int):=of_decide_eq_true ze
          have hx11:=bt_at a0 x3_2
          replace p11:=eq_true p11
          replace q11:=eq_true q11
          go_wp2_with (first|((with_reducible refine gate_callee (f:=192) rfl ?_);refine goesL_ (some 26) rfl rfl Tryz.func192 zu rfl #[.int .u8 (bt a0 x3_2)] rfl zc ?_;(with_reducible refine (spec_l01Small.calls (bt a0 x3_2) false _ A12.out).mono ?_);rintro e w' ⟨rfl,⟨nd,rfl⟩⟩;refine ⟨_,rfl,?_⟩;have p14:0≤(x3_2:Int):=of_decide_eq_true ze;have q14:x3_2<(a0.size:Int):=of_decide_eq_true ze;have hx14:=bt_at a0 x3_2;replace p14:=eq_true p14;replace q14:=eq_true q14)|(go_at_call 112;(with_reducible refine (spec_l01Digit.calls (bt a0 x3_2) true _ A15.out).mono ?_);rintro e w' ⟨rfl,⟨nd,rfl⟩⟩))
          go_roundg k2
          case measure=>have:=HJ1.out;have:=HK2.out;omega
          case rel=>exact ⟨(wrap64 (x3_2+1)),zf,H',⟨by have:=HJ1.out;have:=HK2.out;omega⟩,zk⟩
         ·replace c16:=Bool.eq_false_iff.mpr c16
          subst c16
          have H1:(some false)=some r:=by rw [if_neg (show ¬ (false=true) by decide)] at H;exact H
          clear H
          have H:=H1
          clear H1
          obtain rfl:=Option.some.inj H
          have p11:0≤(x3_2:Int):=of_decide_eq_true ze
          have q11:x3_2<(a0.size:Int):=of_decide_eq_true ze
          have hx11:=bt_at a0 x3_2
          replace p11:=eq_true p11
          replace q11:=eq_true q11
          go_wp2_with (first|((with_reducible refine gate_callee (f:=192) rfl ?_);refine goesL_ (some 26) rfl rfl Tryz.func192 zu rfl #[.int .u8 (bt a0 x3_2)] rfl zc ?_;(with_reducible refine (spec_l01Small.calls (bt a0 x3_2) false _ A12.out).mono ?_);rintro e w' ⟨rfl,⟨nd,rfl⟩⟩;refine ⟨_,rfl,?_⟩;have p14:0≤(x3_2:Int):=of_decide_eq_true ze;have q14:x3_2<(a0.size:Int):=of_decide_eq_true ze;have hx14:=bt_at a0 x3_2;replace p14:=eq_true p14;replace q14:=eq_true q14)|(go_at_call 112;(with_reducible refine (spec_l01Digit.calls (bt a0 x3_2) false _ A15.out).mono ?_);rintro e w' ⟨rfl,⟨nd,rfl⟩⟩))
          go_ret
          exact ⟨zf,zk⟩
       ·rw [if_neg c10] at H
        exact absurd H zbr
      ·rw [if_neg c9] at H
       have c9b0:decide (x3_2<(a0.size:Int))=false:=decide_eq_false c9
       clear c9
       obtain rfl:=Option.some.inj H
       go_wp2
       go_ret
       exact ⟨zf,zk⟩

def spec_l17Sum.l0:Nat→List Int→Int→Int→Option (Int)
 | 0,_,_,_=>none
 | k+1,x0,x3,x4=>if x4<(x0.length:Int) then (if 0≤x4 then (spec_l17Sum.l0 k x0 (wrap64 (x3+(rd x0 x4))) (wrap64 (x4+1))) else (none)) else (some x3)
def spec_l17Sum.f (k:Nat) (l0:List Int):Option (Int):=spec_l17Sum.l0 k l0 0 0
set_option maxHeartbeats 8000000 in
set_option maxRecDepth 100000 in
theorem spec_l17Sum.calls (k:Nat) (A0:Option Addr) (c0:Nat) (l0:List Int) (r:Int) (w:World) (hr0:Kd.C (Kd.int .i64) w A0 l0.length l0) (hc0:l0.length≤c0) (h:spec_l17Sum.f k l0=some r) :
 Calls Tryz.prog 162 #[.slice A0 l0.length c0] w fun e w'=>e = .returned (.int .i64 r)∧Drawn0 w w':=by
 have HR0:=Aside0.mk hr0
 have HC0:=Aside0.mk hc0
 clear hr0 hc0
 have H:(spec_l17Sum.l0 k l0 0 0)=some r:=h
 clear h
 have H':=Aside0.mk H
 clear H
 go_enter Tryz.func162,Tryz.ntmps162
 go_wp2
 go_loopg [3,4] k (fun kq v3 v4 w'=>∃(x3_1:Int) (x4_1:Int),v3 = .int .i64 x3_1∧v4 = .int .i64 x4_1∧Aside0 (spec_l17Sum.l0 kq l0 x3_1 x4_1=some r)∧Aside0 (kq≤k)∧Drawn0 w w')
 case atStart=>exact ⟨(0),(0),zf,zf,H',⟨Nat.le_refl _⟩,zk⟩
 case round=>
  clear H'
  try clear c1
  obtain ⟨x3_1,x4_1,rfl,rfl,HA,HK1,⟨m1,rfl⟩⟩:=hrel
  cases gk with
  | zero=>exact absurd HA.out (by simp [spec_l17Sum.l0])
  | succ k1=>
   have H:=HA.out
   clear HA
   simp only [spec_l17Sum.l0] at H
   by_cases c2:x4_1<(l0.length:Int)
   ·rw [if_pos c2] at H
    have c2b0:decide (x4_1<(l0.length:Int))=true:=decide_eq_true c2
    clear c2
    by_cases c3:0≤x4_1
    ·rw [if_pos c3] at H
     have c3b0:decide (0≤x4_1)=true:=decide_eq_true c3
     clear c3
     have H':=Aside0.mk H
     clear H
     have p101:0≤(x4_1:Int):=of_decide_eq_true ze
     have q101:x4_1<(l0.length:Int):=of_decide_eq_true ze
     obtain ⟨ad101,e101,hx101_0⟩:=Kd.at_int HR0.out x4_1 p101 q101
     cases e101
     replace p101:=eq_true p101
     replace q101:=eq_true q101
     go_wp2
     go_roundg k1
     case measure=>have:=HK1.out;omega
     case rel=>exact ⟨(wrap64 (x3_1+(rd l0 x4_1))),(wrap64 (x4_1+1)),zf,zf,H',⟨zcq⟩,zk⟩
    ·rw [if_neg c3] at H
     exact absurd H zbr
   ·rw [if_neg c2] at H
    have c2b0:decide (x4_1<(l0.length:Int))=false:=decide_eq_false c2
    clear c2
    obtain rfl:=Option.some.inj H
    go_wp2
    go_ret
    exact ⟨zf,zk⟩

mutual
def spec_l17Ok_e.j0:Nat→Int→Bool→List (S50)→Int→Option (Bool)
 | 0,_,_,_,_=>none
 | k+1,x3,x29,x500,x501=>if x29=true then (some false) else (spec_l17Ok_e.l0 k x3 0 x500 x501)
def spec_l17Ok_e.l0:Nat→Int→Int→List (S50)→Int→Option (Bool)
 | 0,_,_,_,_=>none
 | k+1,x3,x4,x500,x501=>if x4<x3 then (if 0≤x4 then (if x4<(((rd_T50 x500 x501).f1).length:Int) then ((spec_l00In.f (rd ((rd_T50 x500 x501).f1) x4) 1 16).bind fun t110=>(if t110=true then (if x4=0 then (if x4<(((rd_T50 x500 x501).f2).length:Int) then (if (rd ((rd_T50 x500 x501).f2) x4)=1 then (if x4 > 0 then ((spec_l00In.f (rd ((rd_T50 x500 x501).f2) x4) 2 3).bind fun t115=>(if t115=true then (spec_l17Ok_e.l0 k x3 (wrap64 (x4+1)) x500 x501) else (some false))) else (spec_l17Ok_e.l0 k x3 (wrap64 (x4+1)) x500 x501)) else (some false)) else (none)) else (if x4 > 0 then (if x4<(((rd_T50 x500 x501).f2).length:Int) then ((spec_l00In.f (rd ((rd_T50 x500 x501).f2) x4) 2 3).bind fun t118=>(if t118=true then (spec_l17Ok_e.l0 k x3 (wrap64 (x4+1)) x500 x501) else (some false))) else (none)) else (spec_l17Ok_e.l0 k x3 (wrap64 (x4+1)) x500 x501))) else (some false))) else (none)) else (none)) else ((spec_l17Sum.f k ((rd_T50 x500 x501).f1)).bind fun t107=>(some (decide (t107≤32))))
end
def spec_l17Ok_e.f (k:Nat) (l0:List (S50)) (a0i:Int):Option (Bool):=(spec_l01Name.f k ((rd_T50 l0 a0i).f0)).bind fun t103=>(if t103=true then ((spec_l00In.f (((rd_T50 l0 a0i).f1).length:Int) 1 8).bind fun t104=>(if t104=true then (spec_l17Ok_e.j0 k (((rd_T50 l0 a0i).f1).length:Int) ((((rd_T50 l0 a0i).f2).length:Int) != (((rd_T50 l0 a0i).f1).length:Int)) l0 a0i) else (spec_l17Ok_e.j0 k (((rd_T50 l0 a0i).f1).length:Int) true l0 a0i))) else (spec_l17Ok_e.j0 k (((rd_T50 l0 a0i).f1).length:Int) true l0 a0i))
set_option maxHeartbeats 8000000 in
set_option maxRecDepth 100000 in
theorem spec_l17Ok_e.calls (k:Nat) (ad0:Addr) (l0:List (S50)) (a0i:Int) (r:Bool) (w:World) (hr0:Kd.C k50 w (some ad0) l0.length l0) (hp0:decide (0≤a0i)=true) (hq0:decide (a0i<(l0.length:Int))=true) (h:spec_l17Ok_e.f k l0 a0i=some r) :
 Calls Tryz.prog 135 #[.pointer (some (ad0.add (a0i.toNat*3)))] w fun e w'=>e = .returned (.bool r)∧Drawn0 w w':=by
 have HR0:=Aside0.mk hr0
 clear hr0
 have H:((spec_l01Name.f k ((rd_T50 l0 a0i).f0)).bind fun t103=>(if t103=true then ((spec_l00In.f (((rd_T50 l0 a0i).f1).length:Int) 1 8).bind fun t104=>(if t104=true then (spec_l17Ok_e.j0 k (((rd_T50 l0 a0i).f1).length:Int) ((((rd_T50 l0 a0i).f2).length:Int) != (((rd_T50 l0 a0i).f1).length:Int)) l0 a0i) else (spec_l17Ok_e.j0 k (((rd_T50 l0 a0i).f1).length:Int) true l0 a0i))) else (spec_l17Ok_e.j0 k (((rd_T50 l0 a0i).f1).length:Int) true l0 a0i)))=some r:=h
 clear h
 have HC2:=Aside0.mk H
 clear H
 have p101:0≤(a0i:Int):=of_decide_eq_true ze
 have q101:a0i<(l0.length:Int):=of_decide_eq_true ze
 obtain ⟨ad101,A101_1,c101_1,A101_2,c101_2,e101,hx101_0,hx101_1,hx101_2,hl101_1,hi101_1,hl101_2,hi101_2⟩:=at_T50 HR0.out a0i p101 q101
 obtain rfl:ad0=ad101:=(by injection e101)
 have HR101_1:=Aside0.mk hi101_1
 have HC101_1:=Aside0.mk hl101_1
 clear hi101_1 hl101_1
 have HR101_2:=Aside0.mk hi101_2
 have HC101_2:=Aside0.mk hl101_2
 clear hi101_2 hl101_2
 replace p101:=eq_true p101
 replace q101:=eq_true q101
 go_enter Tryz.func135,Tryz.ntmps135
 go_upto_region 2 with (fail)
 go_cut [29] (fun v29 wc=>∃(kq:Nat) (x29_1:Bool),v29 = .bool x29_1∧Aside0 (spec_l17Ok_e.j0 kq (((rd_T50 l0 a0i).f1).length:Int) x29_1 l0 a0i=some r)∧Aside0 (kq≤k)∧Drawn0 w wc)
 case first=>
  have H:=HC2.out
  clear HC2
  replace H:=Option.bind_eq_some_iff.mp H
  obtain ⟨t103,A30,H⟩:=H
  replace H:(if t103=true then ((spec_l00In.f (((rd_T50 l0 a0i).f1).length:Int) 1 8).bind fun t104=>(if t104=true then (spec_l17Ok_e.j0 k (((rd_T50 l0 a0i).f1).length:Int) ((((rd_T50 l0 a0i).f2).length:Int) != (((rd_T50 l0 a0i).f1).length:Int)) l0 a0i) else (spec_l17Ok_e.j0 k (((rd_T50 l0 a0i).f1).length:Int) true l0 a0i))) else (spec_l17Ok_e.j0 k (((rd_T50 l0 a0i).f1).length:Int) true l0 a0i))=some r:=H
  have A3:=Aside0.mk A30
  clear A30
  by_cases c4:t103=true
  ·subst c4
   have H1:((spec_l00In.f (((rd_T50 l0 a0i).f1).length:Int) 1 8).bind fun t104=>(if t104=true then (spec_l17Ok_e.j0 k (((rd_T50 l0 a0i).f1).length:Int) ((((rd_T50 l0 a0i).f2).length:Int) != (((rd_T50 l0 a0i).f1).length:Int)) l0 a0i) else (spec_l17Ok_e.j0 k (((rd_T50 l0 a0i).f1).length:Int) true l0 a0i)))=some r:=by rw [if_pos rfl] at H;exact H
   clear H
   have H:=H1
   clear H1
   replace H:=Option.bind_eq_some_iff.mp H
   obtain ⟨t104,A50,H⟩:=H
   replace H:(if t104=true then (spec_l17Ok_e.j0 k (((rd_T50 l0 a0i).f1).length:Int) ((((rd_T50 l0 a0i).f2).length:Int) != (((rd_T50 l0 a0i).f1).length:Int)) l0 a0i) else (spec_l17Ok_e.j0 k (((rd_T50 l0 a0i).f1).length:Int) true l0 a0i))=some r:=H
   have A5:=Aside0.mk A50
   clear A50
   by_cases c6:t104=true
   ·subst c6
    have H1:(spec_l17Ok_e.j0 k (((rd_T50 l0 a0i).f1).length:Int) ((((rd_T50 l0 a0i).f2).length:Int) != (((rd_T50 l0 a0i).f1).length:Int)) l0 a0i)=some r:=by rw [if_pos rfl] at H;exact H
    clear H
    have H:=H1
    clear H1
    have H':=Aside0.mk H
    clear H
    have p102:0≤(a0i:Int):=of_decide_eq_true ze
    have q102:a0i<(l0.length:Int):=of_decide_eq_true ze
    obtain ⟨ad102,A102_1,c102_1,A102_2,c102_2,e102,hx102_0,hx102_1,hx102_2,hl102_1,hi102_1,hl102_2,hi102_2⟩:=at_T50 HR0.out a0i p102 q102
    obtain rfl:ad0=ad102:=(by injection e102)
    have HR102_1:=Aside0.mk hi102_1
    have HC102_1:=Aside0.mk hl102_1
    clear hi102_1 hl102_1
    have HR102_2:=Aside0.mk hi102_2
    have HC102_2:=Aside0.mk hl102_2
    clear hi102_2 hl102_2
    replace p102:=eq_true p102
    replace q102:=eq_true q102
    go_wp2_with (first|((with_reducible refine gate_callee (f:=161) rfl ?_);refine goesL_ (some 14) rfl rfl Tryz.func161 zu rfl #[.string ((rd_T50 l0 a0i).f0)] rfl zc ?_;(with_reducible refine (spec_l01Name.calls k ((rd_T50 l0 a0i).f0) true _ A3.out).mono ?_);rintro e w' ⟨rfl,⟨nd,rfl⟩⟩;refine ⟨_,rfl,?_⟩)|(go_at_call 77;(with_reducible refine (spec_l00In.calls (((rd_T50 l0 a0i).f1).length:Int) 1 8 true _ A5.out).mono ?_);rintro e w' ⟨rfl,⟨nd,rfl⟩⟩;have p105:0≤(a0i:Int):=of_decide_eq_true ze;have q105:a0i<(l0.length:Int):=of_decide_eq_true ze;obtain ⟨ad105,A105_1,c105_1,A105_2,c105_2,e105,hx105_0,hx105_1,hx105_2,hl105_1,hi105_1,hl105_2,hi105_2⟩:=at_T50 HR0.out a0i p105 q105;obtain rfl:ad0=ad105:=(by injection e105);have HR105_1:=Aside0.mk hi105_1;have HC105_1:=Aside0.mk hl105_1;clear hi105_1 hl105_1;have HR105_2:=Aside0.mk hi105_2;have HC105_2:=Aside0.mk hl105_2;clear hi105_2 hl105_2;replace p105:=eq_true p105;replace q105:=eq_true q105;have ea_:=Option.some.inj (hx102_1.symm.trans hx105_1);injection ea_ with ea_ en_ ec_;subst ea_;subst ec_;clear en_;have ea_:=Option.some.inj (hx102_2.symm.trans hx105_2);injection ea_ with ea_ en_ ec_;subst ea_;subst ec_;clear en_))
    go_meet
    case rel=>exact ⟨_,(((((rd_T50 l0 a0i).f2).length:Int) != (((rd_T50 l0 a0i).f1).length:Int))),zf,H',⟨zcr⟩,zk⟩
   ·replace c6:=Bool.eq_false_iff.mpr c6
    subst c6
    have H1:(spec_l17Ok_e.j0 k (((rd_T50 l0 a0i).f1).length:Int) true l0 a0i)=some r:=by rw [if_neg (show ¬ (false=true) by decide)] at H;exact H
    clear H
    have H:=H1
    clear H1
    have H':=Aside0.mk H
    clear H
    have p102:0≤(a0i:Int):=of_decide_eq_true ze
    have q102:a0i<(l0.length:Int):=of_decide_eq_true ze
    obtain ⟨ad102,A102_1,c102_1,A102_2,c102_2,e102,hx102_0,hx102_1,hx102_2,hl102_1,hi102_1,hl102_2,hi102_2⟩:=at_T50 HR0.out a0i p102 q102
    obtain rfl:ad0=ad102:=(by injection e102)
    have HR102_1:=Aside0.mk hi102_1
    have HC102_1:=Aside0.mk hl102_1
    clear hi102_1 hl102_1
    have HR102_2:=Aside0.mk hi102_2
    have HC102_2:=Aside0.mk hl102_2
    clear hi102_2 hl102_2
    replace p102:=eq_true p102
    replace q102:=eq_true q102
    go_wp2_with (first|((with_reducible refine gate_callee (f:=161) rfl ?_);refine goesL_ (some 14) rfl rfl Tryz.func161 zu rfl #[.string ((rd_T50 l0 a0i).f0)] rfl zc ?_;(with_reducible refine (spec_l01Name.calls k ((rd_T50 l0 a0i).f0) true _ A3.out).mono ?_);rintro e w' ⟨rfl,⟨nd,rfl⟩⟩;refine ⟨_,rfl,?_⟩)|(go_at_call 77;(with_reducible refine (spec_l00In.calls (((rd_T50 l0 a0i).f1).length:Int) 1 8 false _ A5.out).mono ?_);rintro e w' ⟨rfl,⟨nd,rfl⟩⟩))
    go_meet
    case rel=>exact ⟨_,(true),zf,H',⟨zcr⟩,zk⟩
  ·replace c4:=Bool.eq_false_iff.mpr c4
   subst c4
   have H1:(spec_l17Ok_e.j0 k (((rd_T50 l0 a0i).f1).length:Int) true l0 a0i)=some r:=by rw [if_neg (show ¬ (false=true) by decide)] at H;exact H
   clear H
   have H:=H1
   clear H1
   have H':=Aside0.mk H
   clear H
   have p102:0≤(a0i:Int):=of_decide_eq_true ze
   have q102:a0i<(l0.length:Int):=of_decide_eq_true ze
   obtain ⟨ad102,A102_1,c102_1,A102_2,c102_2,e102,hx102_0,hx102_1,hx102_2,hl102_1,hi102_1,hl102_2,hi102_2⟩:=at_T50 HR0.out a0i p102 q102
   obtain rfl:ad0=ad102:=(by injection e102)
   have HR102_1:=Aside0.mk hi102_1
   have HC102_1:=Aside0.mk hl102_1
   clear hi102_1 hl102_1
   have HR102_2:=Aside0.mk hi102_2
   have HC102_2:=Aside0.mk hl102_2
   clear hi102_2 hl102_2
   replace p102:=eq_true p102
   replace q102:=eq_true q102
   go_wp2_with (first|((with_reducible refine gate_callee (f:=161) rfl ?_);refine goesL_ (some 14) rfl rfl Tryz.func161 zu rfl #[.string ((rd_T50 l0 a0i).f0)] rfl zc ?_;(with_reducible refine (spec_l01Name.calls k ((rd_T50 l0 a0i).f0) false _ A3.out).mono ?_);rintro e w' ⟨rfl,⟨nd,rfl⟩⟩;refine ⟨_,rfl,?_⟩))
   go_meet
   case rel=>exact ⟨_,(true),zf,H',⟨zcr⟩,zk⟩
 case rest=>
  clear HC2
  try clear c1
  try clear p1
  try clear q1
  try clear hx1
  try clear p2
  try clear c4
  try clear c6
  try clear hx101_0
  try clear hx101_1
  try clear hx101_2
  try clear hx102_0
  try clear hx102_1
  try clear hx102_2
  try clear hx105_0
  try clear hx105_1
  try clear hx105_2
  try clear p101
  try clear p102
  try clear p105
  try clear q101
  try clear q102
  try clear q105
  obtain ⟨kq,x29_1,rfl,HA,HJ1,⟨mc1,rfl⟩⟩:=hcut
  cases kq with
  | zero=>exact absurd HA.out (by simp [spec_l17Ok_e.j0])
  | succ kj1=>
   have H:=HA.out
   clear HA
   simp only [spec_l17Ok_e.j0] at H
   by_cases c7:x29_1=true
   ·subst c7
    have H1:(some false)=some r:=by rw [if_pos rfl] at H;exact H
    clear H
    have H:=H1
    clear H1
    obtain rfl:=Option.some.inj H
    go_wp2
    go_ret
    exact ⟨zf,zk⟩
   ·replace c7:=Bool.eq_false_iff.mpr c7
    subst c7
    have H1:(spec_l17Ok_e.l0 kj1 (((rd_T50 l0 a0i).f1).length:Int) 0 l0 a0i)=some r:=by rw [if_neg (show ¬ (false=true) by decide)] at H;exact H
    clear H
    have H:=H1
    clear H1
    have H':=Aside0.mk H
    clear H
    go_wp2
    go_loopg [4] kj1 (fun kq v4 w'=>∃(x4_2:Int),v4 = .int .i64 x4_2∧Aside0 (spec_l17Ok_e.l0 kq (((rd_T50 l0 a0i).f1).length:Int) x4_2 l0 a0i=some r)∧Aside0 (kq≤kj1)∧Drawn0 w w')
    case atStart=>exact ⟨(0),zf,H',⟨Nat.le_refl _⟩,zk⟩
    case round=>
     clear H'
     try clear c1
     try clear p1
     try clear q1
     try clear hx1
     try clear p2
     try clear c4
     try clear c6
     try clear c7
     try clear hx101_0
     try clear hx101_1
     try clear hx101_2
     try clear hx102_0
     try clear hx102_1
     try clear hx102_2
     try clear hx105_0
     try clear hx105_1
     try clear hx105_2
     try clear p1
     try clear p101
     try clear p102
     try clear p105
     try clear p2
     try clear q1
     try clear q101
     try clear q102
     try clear q105
     obtain ⟨x4_2,rfl,HA,HK2,⟨m2,rfl⟩⟩:=hrel
     cases gk with
     | zero=>exact absurd HA.out (by simp [spec_l17Ok_e.l0])
     | succ k2=>
      have H:=HA.out
      clear HA
      simp only [spec_l17Ok_e.l0] at H
      by_cases c8:x4_2<(((rd_T50 l0 a0i).f1).length:Int)
      ·rw [if_pos c8] at H
       have c8b0:decide (x4_2<(((rd_T50 l0 a0i).f1).length:Int))=true:=decide_eq_true c8
       clear c8
       by_cases c9:0≤x4_2
       ·rw [if_pos c9] at H
        have c9b0:decide (0≤x4_2)=true:=decide_eq_true c9
        clear c9
        by_cases c10:x4_2<(((rd_T50 l0 a0i).f1).length:Int)
        ·rw [if_pos c10] at H
         have c10b0:decide (x4_2<(((rd_T50 l0 a0i).f1).length:Int))=true:=decide_eq_true c10
         clear c10
         replace H:=Option.bind_eq_some_iff.mp H
         obtain ⟨t110,A110,H⟩:=H
         replace H:(if t110=true then (if x4_2=0 then (if x4_2<(((rd_T50 l0 a0i).f2).length:Int) then (if (rd ((rd_T50 l0 a0i).f2) x4_2)=1 then (if x4_2 > 0 then ((spec_l00In.f (rd ((rd_T50 l0 a0i).f2) x4_2) 2 3).bind fun t115=>(if t115=true then (spec_l17Ok_e.l0 k2 (((rd_T50 l0 a0i).f1).length:Int) (wrap64 (x4_2+1)) l0 a0i) else (some false))) else (spec_l17Ok_e.l0 k2 (((rd_T50 l0 a0i).f1).length:Int) (wrap64 (x4_2+1)) l0 a0i)) else (some false)) else (none)) else (if x4_2 > 0 then (if x4_2<(((rd_T50 l0 a0i).f2).length:Int) then ((spec_l00In.f (rd ((rd_T50 l0 a0i).f2) x4_2) 2 3).bind fun t118=>(if t118=true then (spec_l17Ok_e.l0 k2 (((rd_T50 l0 a0i).f1).length:Int) (wrap64 (x4_2+1)) l0 a0i) else (some false))) else (none)) else (spec_l17Ok_e.l0 k2 (((rd_T50 l0 a0i).f1).length:Int) (wrap64 (x4_2+1)) l0 a0i))) else (some false))=some r:=H
         have A11:=Aside0.mk A110
         clear A110
         by_cases c12:t110=true
         ·subst c12
          have H1:(if x4_2=0 then (if x4_2<(((rd_T50 l0 a0i).f2).length:Int) then (if (rd ((rd_T50 l0 a0i).f2) x4_2)=1 then (if x4_2 > 0 then ((spec_l00In.f (rd ((rd_T50 l0 a0i).f2) x4_2) 2 3).bind fun t115=>(if t115=true then (spec_l17Ok_e.l0 k2 (((rd_T50 l0 a0i).f1).length:Int) (wrap64 (x4_2+1)) l0 a0i) else (some false))) else (spec_l17Ok_e.l0 k2 (((rd_T50 l0 a0i).f1).length:Int) (wrap64 (x4_2+1)) l0 a0i)) else (some false)) else (none)) else (if x4_2 > 0 then (if x4_2<(((rd_T50 l0 a0i).f2).length:Int) then ((spec_l00In.f (rd ((rd_T50 l0 a0i).f2) x4_2) 2 3).bind fun t118=>(if t118=true then (spec_l17Ok_e.l0 k2 (((rd_T50 l0 a0i).f1).length:Int) (wrap64 (x4_2+1)) l0 a0i) else (some false))) else (none)) else (spec_l17Ok_e.l0 k2 (((rd_T50 l0 a0i).f1).length:Int) (wrap64 (x4_2+1)) l0 a0i)))=some r:=by rw [if_pos rfl] at H;exact H
          clear H
          have H:=H1
          clear H1
          by_cases c13:x4_2=0
          ·rw [if_pos c13] at H
           have c13b0:(x4_2 == 0)=true:=beq_iff_eq.mpr c13
           have c13b1:(x4_2 != 0)=false:=bne_eq_false_iff_eq.mpr c13
           clear c13
           by_cases c14:x4_2<(((rd_T50 l0 a0i).f2).length:Int)
           ·rw [if_pos c14] at H
            have c14b0:decide (x4_2<(((rd_T50 l0 a0i).f2).length:Int))=true:=decide_eq_true c14
            clear c14
            by_cases c15:(rd ((rd_T50 l0 a0i).f2) x4_2)=1
            ·rw [if_pos c15] at H
             have c15b0:((rd ((rd_T50 l0 a0i).f2) x4_2) == 1)=true:=beq_iff_eq.mpr c15
             have c15b1:((rd ((rd_T50 l0 a0i).f2) x4_2) != 1)=false:=bne_eq_false_iff_eq.mpr c15
             clear c15
             by_cases c16:x4_2 > 0
             ·rw [if_pos c16] at H
              have c16b0:decide (0<x4_2)=true:=decide_eq_true c16
              clear c16
              replace H:=Option.bind_eq_some_iff.mp H
              obtain ⟨t115,A170,H⟩:=H
              replace H:(if t115=true then (spec_l17Ok_e.l0 k2 (((rd_T50 l0 a0i).f1).length:Int) (wrap64 (x4_2+1)) l0 a0i) else (some false))=some r:=H
              have A17:=Aside0.mk A170
              clear A170
              by_cases c18:t115=true
              ·subst c18
               have H1:(spec_l17Ok_e.l0 k2 (((rd_T50 l0 a0i).f1).length:Int) (wrap64 (x4_2+1)) l0 a0i)=some r:=by rw [if_pos rfl] at H;exact H
               clear H
               have H:=H1
               clear H1
               have H':=Aside0.mk H
               clear H
               have p108:0≤(a0i:Int):=of_decide_eq_true ze
               have q108:a0i<(l0.length:Int):=of_decide_eq_true ze
               obtain ⟨ad108,A108_1,c108_1,A108_2,c108_2,e108,hx108_0,hx108_1,hx108_2,hl108_1,hi108_1,hl108_2,hi108_2⟩:=at_T50 HR0.out a0i p108 q108
               obtain rfl:ad0=ad108:=(by injection e108)
               have HR108_1:=Aside0.mk hi108_1
               have HC108_1:=Aside0.mk hl108_1
               clear hi108_1 hl108_1
               have HR108_2:=Aside0.mk hi108_2
               have HC108_2:=Aside0.mk hl108_2
               clear hi108_2 hl108_2
               replace p108:=eq_true p108
               replace q108:=eq_true q108
               have p109:0≤(x4_2:Int):=of_decide_eq_true ze
               have q109:x4_2<(((rd_T50 l0 a0i).f1).length:Int):=of_decide_eq_true ze
               obtain ⟨ad109,e109,hx109_0⟩:=Kd.at_int HR108_1.out x4_2 p109 q109
               cases e109
               replace p109:=eq_true p109
               replace q109:=eq_true q109
               go_wp2_with (first|((with_reducible refine gate_callee (f:=77) rfl ?_);refine goesL_ (some 42) rfl rfl Tryz.func77 zu rfl #[.int .i64 (rd ((rd_T50 l0 a0i).f1) x4_2),.int .i64 1,.int .i64 16] rfl zc ?_;(with_reducible refine (spec_l00In.calls (rd ((rd_T50 l0 a0i).f1) x4_2) 1 16 true _ A11.out).mono ?_);rintro e w' ⟨rfl,⟨nd,rfl⟩⟩;refine ⟨_,rfl,?_⟩;have p111:0≤(a0i:Int):=of_decide_eq_true ze;have q111:a0i<(l0.length:Int):=of_decide_eq_true ze;obtain ⟨ad111,A111_1,c111_1,A111_2,c111_2,e111,hx111_0,hx111_1,hx111_2,hl111_1,hi111_1,hl111_2,hi111_2⟩:=at_T50 HR0.out a0i p111 q111;obtain rfl:ad0=ad111:=(by injection e111);have HR111_1:=Aside0.mk hi111_1;have HC111_1:=Aside0.mk hl111_1;clear hi111_1 hl111_1;have HR111_2:=Aside0.mk hi111_2;have HC111_2:=Aside0.mk hl111_2;clear hi111_2 hl111_2;replace p111:=eq_true p111;replace q111:=eq_true q111;have ea_:=Option.some.inj (hx108_1.symm.trans hx111_1);injection ea_ with ea_ en_ ec_;subst ea_;subst ec_;clear en_;have ea_:=Option.some.inj (hx108_2.symm.trans hx111_2);injection ea_ with ea_ en_ ec_;subst ea_;subst ec_;clear en_;have p112:0≤(x4_2:Int):=of_decide_eq_true ze;have q112:x4_2<(((rd_T50 l0 a0i).f2).length:Int):=of_decide_eq_true ze;obtain ⟨ad112,e112,hx112_0⟩:=Kd.at_int HR111_2.out x4_2 p112 q112;cases e112;replace p112:=eq_true p112;replace q112:=eq_true q112;have p113:0≤(a0i:Int):=of_decide_eq_true ze;have q113:a0i<(l0.length:Int):=of_decide_eq_true ze;obtain ⟨ad113,A113_1,c113_1,A113_2,c113_2,e113,hx113_0,hx113_1,hx113_2,hl113_1,hi113_1,hl113_2,hi113_2⟩:=at_T50 HR0.out a0i p113 q113;obtain rfl:ad0=ad113:=(by injection e113);have HR113_1:=Aside0.mk hi113_1;have HC113_1:=Aside0.mk hl113_1;clear hi113_1 hl113_1;have HR113_2:=Aside0.mk hi113_2;have HC113_2:=Aside0.mk hl113_2;clear hi113_2 hl113_2;replace p113:=eq_true p113;replace q113:=eq_true q113;have ea_:=Option.some.inj (hx108_1.symm.trans hx113_1);injection ea_ with ea_ en_ ec_;subst ea_;subst ec_;clear en_;have ea_:=Option.some.inj (hx108_2.symm.trans hx113_2);injection ea_ with ea_ en_ ec_;subst ea_;subst ec_;clear en_;have p114:0≤(x4_2:Int):=of_decide_eq_true ze;have q114:x4_2<(((rd_T50 l0 a0i).f2).length:Int):=of_decide_eq_true ze;obtain ⟨ad114,e114,hx114_0⟩:=Kd.at_int HR113_2.out x4_2 p114 q114;cases e114;replace p114:=eq_true p114;replace q114:=eq_true q114)|(go_at_call 77;(with_reducible refine (spec_l00In.calls (rd ((rd_T50 l0 a0i).f2) x4_2) 2 3 true _ A17.out).mono ?_);rintro e w' ⟨rfl,⟨nd,rfl⟩⟩))
               go_roundg k2
               case measure=>have:=HJ1.out;have:=HK2.out;omega
               case rel=>exact ⟨(wrap64 (x4_2+1)),zf,H',⟨by have:=HJ1.out;have:=HK2.out;omega⟩,zk⟩
              ·replace c18:=Bool.eq_false_iff.mpr c18
               subst c18
               have H1:(some false)=some r:=by rw [if_neg (show ¬ (false=true) by decide)] at H;exact H
               clear H
               have H:=H1
               clear H1
               obtain rfl:=Option.some.inj H
               have p108:0≤(a0i:Int):=of_decide_eq_true ze
               have q108:a0i<(l0.length:Int):=of_decide_eq_true ze
               obtain ⟨ad108,A108_1,c108_1,A108_2,c108_2,e108,hx108_0,hx108_1,hx108_2,hl108_1,hi108_1,hl108_2,hi108_2⟩:=at_T50 HR0.out a0i p108 q108
               obtain rfl:ad0=ad108:=(by injection e108)
               have HR108_1:=Aside0.mk hi108_1
               have HC108_1:=Aside0.mk hl108_1
               clear hi108_1 hl108_1
               have HR108_2:=Aside0.mk hi108_2
               have HC108_2:=Aside0.mk hl108_2
               clear hi108_2 hl108_2
               replace p108:=eq_true p108
               replace q108:=eq_true q108
               have p109:0≤(x4_2:Int):=of_decide_eq_true ze
               have q109:x4_2<(((rd_T50 l0 a0i).f1).length:Int):=of_decide_eq_true ze
               obtain ⟨ad109,e109,hx109_0⟩:=Kd.at_int HR108_1.out x4_2 p109 q109
               cases e109
               replace p109:=eq_true p109
               replace q109:=eq_true q109
               go_wp2_with (first|((with_reducible refine gate_callee (f:=77) rfl ?_);refine goesL_ (some 42) rfl rfl Tryz.func77 zu rfl #[.int .i64 (rd ((rd_T50 l0 a0i).f1) x4_2),.int .i64 1,.int .i64 16] rfl zc ?_;(with_reducible refine (spec_l00In.calls (rd ((rd_T50 l0 a0i).f1) x4_2) 1 16 true _ A11.out).mono ?_);rintro e w' ⟨rfl,⟨nd,rfl⟩⟩;refine ⟨_,rfl,?_⟩;have p111:0≤(a0i:Int):=of_decide_eq_true ze;have q111:a0i<(l0.length:Int):=of_decide_eq_true ze;obtain ⟨ad111,A111_1,c111_1,A111_2,c111_2,e111,hx111_0,hx111_1,hx111_2,hl111_1,hi111_1,hl111_2,hi111_2⟩:=at_T50 HR0.out a0i p111 q111;obtain rfl:ad0=ad111:=(by injection e111);have HR111_1:=Aside0.mk hi111_1;have HC111_1:=Aside0.mk hl111_1;clear hi111_1 hl111_1;have HR111_2:=Aside0.mk hi111_2;have HC111_2:=Aside0.mk hl111_2;clear hi111_2 hl111_2;replace p111:=eq_true p111;replace q111:=eq_true q111;have ea_:=Option.some.inj (hx108_1.symm.trans hx111_1);injection ea_ with ea_ en_ ec_;subst ea_;subst ec_;clear en_;have ea_:=Option.some.inj (hx108_2.symm.trans hx111_2);injection ea_ with ea_ en_ ec_;subst ea_;subst ec_;clear en_;have p112:0≤(x4_2:Int):=of_decide_eq_true ze;have q112:x4_2<(((rd_T50 l0 a0i).f2).length:Int):=of_decide_eq_true ze;obtain ⟨ad112,e112,hx112_0⟩:=Kd.at_int HR111_2.out x4_2 p112 q112;cases e112;replace p112:=eq_true p112;replace q112:=eq_true q112;have p113:0≤(a0i:Int):=of_decide_eq_true ze;have q113:a0i<(l0.length:Int):=of_decide_eq_true ze;obtain ⟨ad113,A113_1,c113_1,A113_2,c113_2,e113,hx113_0,hx113_1,hx113_2,hl113_1,hi113_1,hl113_2,hi113_2⟩:=at_T50 HR0.out a0i p113 q113;obtain rfl:ad0=ad113:=(by injection e113);have HR113_1:=Aside0.mk hi113_1;have HC113_1:=Aside0.mk hl113_1;clear hi113_1 hl113_1;have HR113_2:=Aside0.mk hi113_2;have HC113_2:=Aside0.mk hl113_2;clear hi113_2 hl113_2;replace p113:=eq_true p113;replace q113:=eq_true q113;have ea_:=Option.some.inj (hx108_1.symm.trans hx113_1);injection ea_ with ea_ en_ ec_;subst ea_;subst ec_;clear en_;have ea_:=Option.some.inj (hx108_2.symm.trans hx113_2);injection ea_ with ea_ en_ ec_;subst ea_;subst ec_;clear en_;have p114:0≤(x4_2:Int):=of_decide_eq_true ze;have q114:x4_2<(((rd_T50 l0 a0i).f2).length:Int):=of_decide_eq_true ze;obtain ⟨ad114,e114,hx114_0⟩:=Kd.at_int HR113_2.out x4_2 p114 q114;cases e114;replace p114:=eq_true p114;replace q114:=eq_true q114)|(go_at_call 77;(with_reducible refine (spec_l00In.calls (rd ((rd_T50 l0 a0i).f2) x4_2) 2 3 false _ A17.out).mono ?_);rintro e w' ⟨rfl,⟨nd,rfl⟩⟩))
               go_ret
               exact ⟨zf,zk⟩
             ·rw [if_neg c16] at H
              have c16b0:decide (0<x4_2)=false:=decide_eq_false c16
              clear c16
              have H':=Aside0.mk H
              clear H
              have p108:0≤(a0i:Int):=of_decide_eq_true ze
              have q108:a0i<(l0.length:Int):=of_decide_eq_true ze
              obtain ⟨ad108,A108_1,c108_1,A108_2,c108_2,e108,hx108_0,hx108_1,hx108_2,hl108_1,hi108_1,hl108_2,hi108_2⟩:=at_T50 HR0.out a0i p108 q108
              obtain rfl:ad0=ad108:=(by injection e108)
              have HR108_1:=Aside0.mk hi108_1
              have HC108_1:=Aside0.mk hl108_1
              clear hi108_1 hl108_1
              have HR108_2:=Aside0.mk hi108_2
              have HC108_2:=Aside0.mk hl108_2
              clear hi108_2 hl108_2
              replace p108:=eq_true p108
              replace q108:=eq_true q108
              have p109:0≤(x4_2:Int):=of_decide_eq_true ze
              have q109:x4_2<(((rd_T50 l0 a0i).f1).length:Int):=of_decide_eq_true ze
              obtain ⟨ad109,e109,hx109_0⟩:=Kd.at_int HR108_1.out x4_2 p109 q109
              cases e109
              replace p109:=eq_true p109
              replace q109:=eq_true q109
              go_wp2_with (first|((with_reducible refine gate_callee (f:=77) rfl ?_);refine goesL_ (some 42) rfl rfl Tryz.func77 zu rfl #[.int .i64 (rd ((rd_T50 l0 a0i).f1) x4_2),.int .i64 1,.int .i64 16] rfl zc ?_;(with_reducible refine (spec_l00In.calls (rd ((rd_T50 l0 a0i).f1) x4_2) 1 16 true _ A11.out).mono ?_);rintro e w' ⟨rfl,⟨nd,rfl⟩⟩;refine ⟨_,rfl,?_⟩;have p111:0≤(a0i:Int):=of_decide_eq_true ze;have q111:a0i<(l0.length:Int):=of_decide_eq_true ze;obtain ⟨ad111,A111_1,c111_1,A111_2,c111_2,e111,hx111_0,hx111_1,hx111_2,hl111_1,hi111_1,hl111_2,hi111_2⟩:=at_T50 HR0.out a0i p111 q111;obtain rfl:ad0=ad111:=(by injection e111);have HR111_1:=Aside0.mk hi111_1;have HC111_1:=Aside0.mk hl111_1;clear hi111_1 hl111_1;have HR111_2:=Aside0.mk hi111_2;have HC111_2:=Aside0.mk hl111_2;clear hi111_2 hl111_2;replace p111:=eq_true p111;replace q111:=eq_true q111;have ea_:=Option.some.inj (hx108_1.symm.trans hx111_1);injection ea_ with ea_ en_ ec_;subst ea_;subst ec_;clear en_;have ea_:=Option.some.inj (hx108_2.symm.trans hx111_2);injection ea_ with ea_ en_ ec_;subst ea_;subst ec_;clear en_;have p112:0≤(x4_2:Int):=of_decide_eq_true ze;have q112:x4_2<(((rd_T50 l0 a0i).f2).length:Int):=of_decide_eq_true ze;obtain ⟨ad112,e112,hx112_0⟩:=Kd.at_int HR111_2.out x4_2 p112 q112;cases e112;replace p112:=eq_true p112;replace q112:=eq_true q112))
              go_roundg k2
              case measure=>have:=HJ1.out;have:=HK2.out;omega
              case rel=>exact ⟨(wrap64 (x4_2+1)),zf,H',⟨by have:=HJ1.out;have:=HK2.out;omega⟩,zk⟩
            ·rw [if_neg c15] at H
             have c15b0:((rd ((rd_T50 l0 a0i).f2) x4_2) == 1)=false:=beq_eq_false_iff_ne.mpr c15
             have c15b1:((rd ((rd_T50 l0 a0i).f2) x4_2) != 1)=true:=bne_iff_ne.mpr c15
             obtain rfl:=Option.some.inj H
             have p108:0≤(a0i:Int):=of_decide_eq_true ze
             have q108:a0i<(l0.length:Int):=of_decide_eq_true ze
             obtain ⟨ad108,A108_1,c108_1,A108_2,c108_2,e108,hx108_0,hx108_1,hx108_2,hl108_1,hi108_1,hl108_2,hi108_2⟩:=at_T50 HR0.out a0i p108 q108
             obtain rfl:ad0=ad108:=(by injection e108)
             have HR108_1:=Aside0.mk hi108_1
             have HC108_1:=Aside0.mk hl108_1
             clear hi108_1 hl108_1
             have HR108_2:=Aside0.mk hi108_2
             have HC108_2:=Aside0.mk hl108_2
             clear hi108_2 hl108_2
             replace p108:=eq_true p108
             replace q108:=eq_true q108
             have p109:0≤(x4_2:Int):=of_decide_eq_true ze
             have q109:x4_2<(((rd_T50 l0 a0i).f1).length:Int):=of_decide_eq_true ze
             obtain ⟨ad109,e109,hx109_0⟩:=Kd.at_int HR108_1.out x4_2 p109 q109
             cases e109
             replace p109:=eq_true p109
             replace q109:=eq_true q109
             go_wp2_with (first|((with_reducible refine gate_callee (f:=77) rfl ?_);refine goesL_ (some 42) rfl rfl Tryz.func77 zu rfl #[.int .i64 (rd ((rd_T50 l0 a0i).f1) x4_2),.int .i64 1,.int .i64 16] rfl zc ?_;(with_reducible refine (spec_l00In.calls (rd ((rd_T50 l0 a0i).f1) x4_2) 1 16 true _ A11.out).mono ?_);rintro e w' ⟨rfl,⟨nd,rfl⟩⟩;refine ⟨_,rfl,?_⟩;have p111:0≤(a0i:Int):=of_decide_eq_true ze;have q111:a0i<(l0.length:Int):=of_decide_eq_true ze;obtain ⟨ad111,A111_1,c111_1,A111_2,c111_2,e111,hx111_0,hx111_1,hx111_2,hl111_1,hi111_1,hl111_2,hi111_2⟩:=at_T50 HR0.out a0i p111 q111;obtain rfl:ad0=ad111:=(by injection e111);have HR111_1:=Aside0.mk hi111_1;have HC111_1:=Aside0.mk hl111_1;clear hi111_1 hl111_1;have HR111_2:=Aside0.mk hi111_2;have HC111_2:=Aside0.mk hl111_2;clear hi111_2 hl111_2;replace p111:=eq_true p111;replace q111:=eq_true q111;have ea_:=Option.some.inj (hx108_1.symm.trans hx111_1);injection ea_ with ea_ en_ ec_;subst ea_;subst ec_;clear en_;have ea_:=Option.some.inj (hx108_2.symm.trans hx111_2);injection ea_ with ea_ en_ ec_;subst ea_;subst ec_;clear en_;have p112:0≤(x4_2:Int):=of_decide_eq_true ze;have q112:x4_2<(((rd_T50 l0 a0i).f2).length:Int):=of_decide_eq_true ze;obtain ⟨ad112,e112,hx112_0⟩:=Kd.at_int HR111_2.out x4_2 p112 q112;cases e112;replace p112:=eq_true p112;replace q112:=eq_true q112))
             go_ret
             exact ⟨zf,zk⟩
           ·rw [if_neg c14] at H
            exact absurd H zbr
          ·rw [if_neg c13] at H
           have c13b0:(x4_2 == 0)=false:=beq_eq_false_iff_ne.mpr c13
           have c13b1:(x4_2 != 0)=true:=bne_iff_ne.mpr c13
           by_cases c19:x4_2 > 0
           ·rw [if_pos c19] at H
            have c19b0:decide (0<x4_2)=true:=decide_eq_true c19
            clear c19
            by_cases c20:x4_2<(((rd_T50 l0 a0i).f2).length:Int)
            ·rw [if_pos c20] at H
             have c20b0:decide (x4_2<(((rd_T50 l0 a0i).f2).length:Int))=true:=decide_eq_true c20
             clear c20
             replace H:=Option.bind_eq_some_iff.mp H
             obtain ⟨t118,A210,H⟩:=H
             replace H:(if t118=true then (spec_l17Ok_e.l0 k2 (((rd_T50 l0 a0i).f1).length:Int) (wrap64 (x4_2+1)) l0 a0i) else (some false))=some r:=H
             have A21:=Aside0.mk A210
             clear A210
             by_cases c22:t118=true
             ·subst c22
              have H1:(spec_l17Ok_e.l0 k2 (((rd_T50 l0 a0i).f1).length:Int) (wrap64 (x4_2+1)) l0 a0i)=some r:=by rw [if_pos rfl] at H;exact H
              clear H
              have H:=H1
              clear H1
              have H':=Aside0.mk H
              clear H
              have p108:0≤(a0i:Int):=of_decide_eq_true ze
              have q108:a0i<(l0.length:Int):=of_decide_eq_true ze
              obtain ⟨ad108,A108_1,c108_1,A108_2,c108_2,e108,hx108_0,hx108_1,hx108_2,hl108_1,hi108_1,hl108_2,hi108_2⟩:=at_T50 HR0.out a0i p108 q108
              obtain rfl:ad0=ad108:=(by injection e108)
              have HR108_1:=Aside0.mk hi108_1
              have HC108_1:=Aside0.mk hl108_1
              clear hi108_1 hl108_1
              have HR108_2:=Aside0.mk hi108_2
              have HC108_2:=Aside0.mk hl108_2
              clear hi108_2 hl108_2
              replace p108:=eq_true p108
              replace q108:=eq_true q108
              have p109:0≤(x4_2:Int):=of_decide_eq_true ze
              have q109:x4_2<(((rd_T50 l0 a0i).f1).length:Int):=of_decide_eq_true ze
              obtain ⟨ad109,e109,hx109_0⟩:=Kd.at_int HR108_1.out x4_2 p109 q109
              cases e109
              replace p109:=eq_true p109
              replace q109:=eq_true q109
              go_wp2_with (first|((with_reducible refine gate_callee (f:=77) rfl ?_);refine goesL_ (some 42) rfl rfl Tryz.func77 zu rfl #[.int .i64 (rd ((rd_T50 l0 a0i).f1) x4_2),.int .i64 1,.int .i64 16] rfl zc ?_;(with_reducible refine (spec_l00In.calls (rd ((rd_T50 l0 a0i).f1) x4_2) 1 16 true _ A11.out).mono ?_);rintro e w' ⟨rfl,⟨nd,rfl⟩⟩;refine ⟨_,rfl,?_⟩;have p116:0≤(a0i:Int):=of_decide_eq_true ze;have q116:a0i<(l0.length:Int):=of_decide_eq_true ze;obtain ⟨ad116,A116_1,c116_1,A116_2,c116_2,e116,hx116_0,hx116_1,hx116_2,hl116_1,hi116_1,hl116_2,hi116_2⟩:=at_T50 HR0.out a0i p116 q116;obtain rfl:ad0=ad116:=(by injection e116);have HR116_1:=Aside0.mk hi116_1;have HC116_1:=Aside0.mk hl116_1;clear hi116_1 hl116_1;have HR116_2:=Aside0.mk hi116_2;have HC116_2:=Aside0.mk hl116_2;clear hi116_2 hl116_2;replace p116:=eq_true p116;replace q116:=eq_true q116;have ea_:=Option.some.inj (hx108_1.symm.trans hx116_1);injection ea_ with ea_ en_ ec_;subst ea_;subst ec_;clear en_;have ea_:=Option.some.inj (hx108_2.symm.trans hx116_2);injection ea_ with ea_ en_ ec_;subst ea_;subst ec_;clear en_;have p117:0≤(x4_2:Int):=of_decide_eq_true ze;have q117:x4_2<(((rd_T50 l0 a0i).f2).length:Int):=of_decide_eq_true ze;obtain ⟨ad117,e117,hx117_0⟩:=Kd.at_int HR116_2.out x4_2 p117 q117;cases e117;replace p117:=eq_true p117;replace q117:=eq_true q117)|(go_at_call 77;(with_reducible refine (spec_l00In.calls (rd ((rd_T50 l0 a0i).f2) x4_2) 2 3 true _ A21.out).mono ?_);rintro e w' ⟨rfl,⟨nd,rfl⟩⟩))
              go_roundg k2
              case measure=>have:=HJ1.out;have:=HK2.out;omega
              case rel=>exact ⟨(wrap64 (x4_2+1)),zf,H',⟨by have:=HJ1.out;have:=HK2.out;omega⟩,zk⟩
             ·replace c22:=Bool.eq_false_iff.mpr c22
              subst c22
              have H1:(some false)=some r:=by rw [if_neg (show ¬ (false=true) by decide)] at H;exact H
              clear H
              have H:=H1
              clear H1
              obtain rfl:=Option.some.inj H
              have p108:0≤(a0i:Int):=of_decide_eq_true ze
              have q108:a0i<(l0.length:Int):=of_decide_eq_true ze
              obtain ⟨ad108,A108_1,c108_1,A108_2,c108_2,e108,hx108_0,hx108_1,hx108_2,hl108_1,hi108_1,hl108_2,hi108_2⟩:=at_T50 HR0.out a0i p108 q108
              obtain rfl:ad0=ad108:=(by injection e108)
              have HR108_1:=Aside0.mk hi108_1
              have HC108_1:=Aside0.mk hl108_1
              clear hi108_1 hl108_1
              have HR108_2:=Aside0.mk hi108_2
              have HC108_2:=Aside0.mk hl108_2
              clear hi108_2 hl108_2
              replace p108:=eq_true p108
              replace q108:=eq_true q108
              have p109:0≤(x4_2:Int):=of_decide_eq_true ze
              have q109:x4_2<(((rd_T50 l0 a0i).f1).length:Int):=of_decide_eq_true ze
              obtain ⟨ad109,e109,hx109_0⟩:=Kd.at_int HR108_1.out x4_2 p109 q109
              cases e109
              replace p109:=eq_true p109
              replace q109:=eq_true q109
              go_wp2_with (first|((with_reducible refine gate_callee (f:=77) rfl ?_);refine goesL_ (some 42) rfl rfl Tryz.func77 zu rfl #[.int .i64 (rd ((rd_T50 l0 a0i).f1) x4_2),.int .i64 1,.int .i64 16] rfl zc ?_;(with_reducible refine (spec_l00In.calls (rd ((rd_T50 l0 a0i).f1) x4_2) 1 16 true _ A11.out).mono ?_);rintro e w' ⟨rfl,⟨nd,rfl⟩⟩;refine ⟨_,rfl,?_⟩;have p116:0≤(a0i:Int):=of_decide_eq_true ze;have q116:a0i<(l0.length:Int):=of_decide_eq_true ze;obtain ⟨ad116,A116_1,c116_1,A116_2,c116_2,e116,hx116_0,hx116_1,hx116_2,hl116_1,hi116_1,hl116_2,hi116_2⟩:=at_T50 HR0.out a0i p116 q116;obtain rfl:ad0=ad116:=(by injection e116);have HR116_1:=Aside0.mk hi116_1;have HC116_1:=Aside0.mk hl116_1;clear hi116_1 hl116_1;have HR116_2:=Aside0.mk hi116_2;have HC116_2:=Aside0.mk hl116_2;clear hi116_2 hl116_2;replace p116:=eq_true p116;replace q116:=eq_true q116;have ea_:=Option.some.inj (hx108_1.symm.trans hx116_1);injection ea_ with ea_ en_ ec_;subst ea_;subst ec_;clear en_;have ea_:=Option.some.inj (hx108_2.symm.trans hx116_2);injection ea_ with ea_ en_ ec_;subst ea_;subst ec_;clear en_;have p117:0≤(x4_2:Int):=of_decide_eq_true ze;have q117:x4_2<(((rd_T50 l0 a0i).f2).length:Int):=of_decide_eq_true ze;obtain ⟨ad117,e117,hx117_0⟩:=Kd.at_int HR116_2.out x4_2 p117 q117;cases e117;replace p117:=eq_true p117;replace q117:=eq_true q117)|(go_at_call 77;(with_reducible refine (spec_l00In.calls (rd ((rd_T50 l0 a0i).f2) x4_2) 2 3 false _ A21.out).mono ?_);rintro e w' ⟨rfl,⟨nd,rfl⟩⟩))
              go_ret
              exact ⟨zf,zk⟩
            ·rw [if_neg c20] at H
             exact absurd H zbr
           ·rw [if_neg c19] at H
            have c19b0:decide (0<x4_2)=false:=decide_eq_false c19
            clear c19
            have H':=Aside0.mk H
            clear H
            have p108:0≤(a0i:Int):=of_decide_eq_true ze
            have q108:a0i<(l0.length:Int):=of_decide_eq_true ze
            obtain ⟨ad108,A108_1,c108_1,A108_2,c108_2,e108,hx108_0,hx108_1,hx108_2,hl108_1,hi108_1,hl108_2,hi108_2⟩:=at_T50 HR0.out a0i p108 q108
            obtain rfl:ad0=ad108:=(by injection e108)
            have HR108_1:=Aside0.mk hi108_1
            have HC108_1:=Aside0.mk hl108_1
            clear hi108_1 hl108_1
            have HR108_2:=Aside0.mk hi108_2
            have HC108_2:=Aside0.mk hl108_2
            clear hi108_2 hl108_2
            replace p108:=eq_true p108
            replace q108:=eq_true q108
            have p109:0≤(x4_2:Int):=of_decide_eq_true ze
            have q109:x4_2<(((rd_T50 l0 a0i).f1).length:Int):=of_decide_eq_true ze
            obtain ⟨ad109,e109,hx109_0⟩:=Kd.at_int HR108_1.out x4_2 p109 q109
            cases e109
            replace p109:=eq_true p109
            replace q109:=eq_true q109
            go_wp2_with (first|((with_reducible refine gate_callee (f:=77) rfl ?_);refine goesL_ (some 42) rfl rfl Tryz.func77 zu rfl #[.int .i64 (rd ((rd_T50 l0 a0i).f1) x4_2),.int .i64 1,.int .i64 16] rfl zc ?_;(with_reducible refine (spec_l00In.calls (rd ((rd_T50 l0 a0i).f1) x4_2) 1 16 true _ A11.out).mono ?_);rintro e w' ⟨rfl,⟨nd,rfl⟩⟩;refine ⟨_,rfl,?_⟩))
            go_roundg k2
            case measure=>have:=HJ1.out;have:=HK2.out;omega
            case rel=>exact ⟨(wrap64 (x4_2+1)),zf,H',⟨by have:=HJ1.out;have:=HK2.out;omega⟩,zk⟩
         ·replace c12:=Bool.eq_false_iff.mpr c12
          subst c12
          have H1:(some false)=some r:=by rw [if_neg (show ¬ (false=true) by decide)] at H;exact H
          clear H
          have H:=H1
          clear H1
          obtain rfl:=Option.some.inj H
          have p108:0≤(a0i:Int):=of_decide_eq_true ze
          have q108:a0i<(l0.length:Int):=of_decide_eq_true ze
          obtain ⟨ad108,A108_1,c108_1,A108_2,c108_2,e108,hx108_0,hx108_1,hx108_2,hl108_1,hi108_1,hl108_2,hi108_2⟩:=at_T50 HR0.out a0i p108 q108
          obtain rfl:ad0=ad108:=(by injection e108)
          have HR108_1:=Aside0.mk hi108_1
          have HC108_1:=Aside0.mk hl108_1
          clear hi108_1 hl108_1
          have HR108_2:=Aside0.mk hi108_2
          have HC108_2:=Aside0.mk hl108_2
          clear hi108_2 hl108_2
          replace p108:=eq_true p108
          replace q108:=eq_true q108
          have p109:0≤(x4_2:Int):=of_decide_eq_true ze
          have q109:x4_2<(((rd_T50 l0 a0i).f1).length:Int):=of_decide_eq_true ze
          obtain ⟨ad109,e109,hx109_0⟩:=Kd.at_int HR108_1.out x4_2 p109 q109
          cases e109
          replace p109:=eq_true p109
          replace q109:=eq_true q109
          go_wp2_with (first|((with_reducible refine gate_callee (f:=77) rfl ?_);refine goesL_ (some 42) rfl rfl Tryz.func77 zu rfl #[.int .i64 (rd ((rd_T50 l0 a0i).f1) x4_2),.int .i64 1,.int .i64 16] rfl zc ?_;(with_reducible refine (spec_l00In.calls (rd ((rd_T50 l0 a0i).f1) x4_2) 1 16 false _ A11.out).mono ?_);rintro e w' ⟨rfl,⟨nd,rfl⟩⟩;refine ⟨_,rfl,?_⟩))
          go_ret
          exact ⟨zf,zk⟩
        ·rw [if_neg c10] at H
         exact absurd H zbr
       ·rw [if_neg c9] at H
        exact absurd H zbr
      ·rw [if_neg c8] at H
       have c8b0:decide (x4_2<(((rd_T50 l0 a0i).f1).length:Int))=false:=decide_eq_false c8
       clear c8
       replace H:=Option.bind_eq_some_iff.mp H
       obtain ⟨t107,A230,H⟩:=H
       replace H:(some (decide (t107≤32)))=some r:=H
       have A23:=Aside0.mk A230
       clear A230
       obtain rfl:=Option.some.inj H
       have p106:0≤(a0i:Int):=of_decide_eq_true ze
       have q106:a0i<(l0.length:Int):=of_decide_eq_true ze
       obtain ⟨ad106,A106_1,c106_1,A106_2,c106_2,e106,hx106_0,hx106_1,hx106_2,hl106_1,hi106_1,hl106_2,hi106_2⟩:=at_T50 HR0.out a0i p106 q106
       obtain rfl:ad0=ad106:=(by injection e106)
       have HR106_1:=Aside0.mk hi106_1
       have HC106_1:=Aside0.mk hl106_1
       clear hi106_1 hl106_1
       have HR106_2:=Aside0.mk hi106_2
       have HC106_2:=Aside0.mk hl106_2
       clear hi106_2 hl106_2
       replace p106:=eq_true p106
       replace q106:=eq_true q106
       go_wp2_with (first|((with_reducible refine gate_callee (f:=162) rfl ?_);refine goesL_ (some 75) rfl rfl Tryz.func162 zu rfl #[.slice A106_1 ((rd_T50 l0 a0i).f1).length c106_1] rfl zc ?_;(with_reducible refine (spec_l17Sum.calls k2 _ _ ((rd_T50 l0 a0i).f1) t107 _ ?side1 ?side2 A23.out).mono ?_);(case side1=>repeat (first|exact HR106_1.out|(with_reducible refine Kd.C_alloc ?_ _)|(with_reducible refine Kd.C_drewN ?_ _)|(with_reducible refine Kd.C_drew ?_)));(case side2=>exact HC106_1.out);rintro e w' ⟨rfl,⟨nd,rfl⟩⟩;refine ⟨_,rfl,?_⟩))
       go_ret
       exact ⟨zf,zk⟩

def spec_l25Ask_e.j0:Nat→Int→Bool→Option (Int)
 | 0,_,_=>none
 | k+1,x2,x14=>if x14=true then (some 1) else ((spec_l00In.f x2 1 8).bind fun t103=>(if t103=true then (some 0) else (some 2)))
def spec_l25Ask_e.f (k:Nat) (l0:List (S67)) (l1:List (S50)) (a1i:Int) (a2:Int):Option (Int):=(spec_l09Ok.f k l0).bind fun t101=>(if t101=true then ((spec_l17Ok_e.f k l1 a1i).bind fun t102=>(spec_l25Ask_e.j0 k a2 (!t102))) else (spec_l25Ask_e.j0 k a2 true))
set_option maxHeartbeats 8000000 in
set_option maxRecDepth 100000 in
theorem spec_l25Ask_e.calls (k:Nat) (A0:Option Addr) (c0:Nat) (l0:List (S67)) (ad1:Addr) (l1:List (S50)) (a1i:Int) (a2:Int) (r:Int) (w:World) (hr0:Kd.C k67 w A0 l0.length l0) (hc0:l0.length≤c0) (hr1:Kd.C k50 w (some ad1) l1.length l1) (hp1:decide (0≤a1i)=true) (hq1:decide (a1i<(l1.length:Int))=true) (h:spec_l25Ask_e.f k l0 l1 a1i a2=some r) :
 Calls Tryz.prog 104 #[.slice A0 l0.length c0,.pointer (some (ad1.add (a1i.toNat*3))),.int .i64 a2] w fun e w'=>e = .returned (.int .i64 r)∧Drawn0 w w':=by
 have HR0:=Aside0.mk hr0
 have HC0:=Aside0.mk hc0
 clear hr0 hc0
 have HR1:=Aside0.mk hr1
 clear hr1
 have H:((spec_l09Ok.f k l0).bind fun t101=>(if t101=true then ((spec_l17Ok_e.f k l1 a1i).bind fun t102=>(spec_l25Ask_e.j0 k a2 (!t102))) else (spec_l25Ask_e.j0 k a2 true)))=some r:=h
 clear h
 have HC4:=Aside0.mk H
 clear H
 go_enter Tryz.func104,Tryz.ntmps104
 go_upto_region 1 with (fail)
 go_cut [14] (fun v14 wc=>∃(kq:Nat) (x14_3:Bool),v14 = .bool x14_3∧Aside0 (spec_l25Ask_e.j0 kq a2 x14_3=some r)∧Aside0 (kq≤k)∧Drawn0 w wc)
 case first=>
  have H:=HC4.out
  clear HC4
  replace H:=Option.bind_eq_some_iff.mp H
  obtain ⟨t101,A50,H⟩:=H
  replace H:(if t101=true then ((spec_l17Ok_e.f k l1 a1i).bind fun t102=>(spec_l25Ask_e.j0 k a2 (!t102))) else (spec_l25Ask_e.j0 k a2 true))=some r:=H
  have A5:=Aside0.mk A50
  clear A50
  by_cases c6:t101=true
  ·subst c6
   have H1:((spec_l17Ok_e.f k l1 a1i).bind fun t102=>(spec_l25Ask_e.j0 k a2 (!t102)))=some r:=by rw [if_pos rfl] at H;exact H
   clear H
   have H:=H1
   clear H1
   replace H:=Option.bind_eq_some_iff.mp H
   obtain ⟨t102,A70,H⟩:=H
   replace H:(spec_l25Ask_e.j0 k a2 (!t102))=some r:=H
   have A7:=Aside0.mk A70
   clear A70
   have H':=Aside0.mk H
   clear H
   go_wp2_with (first|((with_reducible refine gate_callee (f:=75) rfl ?_);refine goesL_ (some 8) rfl rfl Tryz.func75 zu rfl #[.slice A0 l0.length c0] rfl zc ?_;(with_reducible refine (spec_l09Ok.calls k _ _ l0 true _ ?side1 ?side2 A5.out).mono ?_);(case side1=>exact zx);(case side2=>exact HC0.out);rintro e w' ⟨rfl,⟨nd,rfl⟩⟩;refine ⟨_,rfl,?_⟩)|(go_at_call 135;(with_reducible refine (spec_l17Ok_e.calls k _ l1 a1i t102 _ ?side1 ?side2 ?side3 A7.out).mono ?_);(case side1=>exact zcx);(case side2=>first|(with_reducible assumption)|assumption|decide|exact decide_eq_true zbr|exact decide_eq_true zbd);(case side3=>first|(with_reducible assumption)|assumption|decide|exact decide_eq_true zbr|exact decide_eq_true zbd);rintro e w' ⟨rfl,⟨nd,rfl⟩⟩))
   go_meet
   case rel=>exact ⟨_,(!t102),zf,H',⟨zcr⟩,zk⟩
  ·replace c6:=Bool.eq_false_iff.mpr c6
   subst c6
   have H1:(spec_l25Ask_e.j0 k a2 true)=some r:=by rw [if_neg (show ¬ (false=true) by decide)] at H;exact H
   clear H
   have H:=H1
   clear H1
   have H':=Aside0.mk H
   clear H
   go_wp2_with (first|((with_reducible refine gate_callee (f:=75) rfl ?_);refine goesL_ (some 8) rfl rfl Tryz.func75 zu rfl #[.slice A0 l0.length c0] rfl zc ?_;(with_reducible refine (spec_l09Ok.calls k _ _ l0 false _ ?side1 ?side2 A5.out).mono ?_);(case side1=>exact zx);(case side2=>exact HC0.out);rintro e w' ⟨rfl,⟨nd,rfl⟩⟩;refine ⟨_,rfl,?_⟩))
   go_meet
   case rel=>exact ⟨_,(true),zf,H',⟨zcr⟩,zk⟩
 case rest=>
  clear HC4
  try clear c1
  try clear p2
  try clear c6
  try clear c7
  obtain ⟨kq,x14_3,rfl,HA,HJ3,⟨mc3,rfl⟩⟩:=hcut
  cases kq with
  | zero=>exact absurd HA.out (by simp [spec_l25Ask_e.j0])
  | succ kj3=>
   have H:=HA.out
   clear HA
   simp only [spec_l25Ask_e.j0] at H
   by_cases c8:x14_3=true
   ·subst c8
    have H1:(some 1)=some r:=by rw [if_pos rfl] at H;exact H
    clear H
    have H:=H1
    clear H1
    obtain rfl:=Option.some.inj H
    go_wp2
    go_ret
    exact ⟨zf,zk⟩
   ·replace c8:=Bool.eq_false_iff.mpr c8
    subst c8
    have H1:((spec_l00In.f a2 1 8).bind fun t103=>(if t103=true then (some 0) else (some 2)))=some r:=by rw [if_neg (show ¬ (false=true) by decide)] at H;exact H
    clear H
    have H:=H1
    clear H1
    replace H:=Option.bind_eq_some_iff.mp H
    obtain ⟨t103,A90,H⟩:=H
    replace H:(if t103=true then (some 0) else (some 2))=some r:=H
    have A9:=Aside0.mk A90
    clear A90
    by_cases c10:t103=true
    ·subst c10
     have H1:(some 0)=some r:=by rw [if_pos rfl] at H;exact H
     clear H
     have H:=H1
     clear H1
     obtain rfl:=Option.some.inj H
     go_wp2_with (first|((with_reducible refine gate_callee (f:=77) rfl ?_);refine goesL_ (some 16) rfl rfl Tryz.func77 zu rfl #[.int .i64 a2,.int .i64 1,.int .i64 8] rfl zc ?_;(with_reducible refine (spec_l00In.calls a2 1 8 true _ A9.out).mono ?_);rintro e w' ⟨rfl,⟨nd,rfl⟩⟩;refine ⟨_,rfl,?_⟩))
     go_ret
     exact ⟨zf,zk⟩
    ·replace c10:=Bool.eq_false_iff.mpr c10
     subst c10
     have H1:(some 2)=some r:=by rw [if_neg (show ¬ (false=true) by decide)] at H;exact H
     clear H
     have H:=H1
     clear H1
     obtain rfl:=Option.some.inj H
     go_wp2_with (first|((with_reducible refine gate_callee (f:=77) rfl ?_);refine goesL_ (some 16) rfl rfl Tryz.func77 zu rfl #[.int .i64 a2,.int .i64 1,.int .i64 8] rfl zc ?_;(with_reducible refine (spec_l00In.calls a2 1 8 false _ A9.out).mono ?_);rintro e w' ⟨rfl,⟨nd,rfl⟩⟩;refine ⟨_,rfl,?_⟩))
     go_ret
     exact ⟨zf,zk⟩

def spec_l25Tala_e.f (k:Nat) (l0:List (S50)) (a0i:Int) (a1:Int):Option (Int):=(spec_l25Ask_e.f k (([]:List (S67))) l0 a0i a1).bind fun t104=>(some t104)
set_option maxHeartbeats 8000000 in
set_option maxRecDepth 100000 in
theorem spec_l25Tala_e.calls (k:Nat) (ad0:Addr) (l0:List (S50)) (a0i:Int) (a1:Int) (r:Int) (w:World) (hr0:Kd.C k50 w (some ad0) l0.length l0) (hp0:decide (0≤a0i)=true) (hq0:decide (a0i<(l0.length:Int))=true) (h:spec_l25Tala_e.f k l0 a0i a1=some r) :
 Calls Tryz.prog 66 #[.pointer (some (ad0.add (a0i.toNat*3))),.int .i64 a1] w fun e w'=>e = .returned (.int .i64 r)∧Below w.heap.size w w':=by
 have HR0:=Aside0.mk hr0
 clear hr0
 have HB:=Aside0.mk (Below.refl w.heap.size w)
 have H:((spec_l25Ask_e.f k (([]:List (S67))) l0 a0i a1).bind fun t104=>(some t104))=some r:=h
 clear h
 obtain ⟨y101,hy101⟩:∃y_:List (S67),y_=(([]:List (S67))):=⟨_,rfl⟩
 replace H:((spec_l25Ask_e.f k y101 l0 a0i a1).bind fun t104=>(some t104))=some r:=by first|(rw [hy101];with_reducible exact H)|(have H2_:=(Option.bind_some _ _).symm.trans H;rw [hy101];with_reducible exact H2_)|(have H2_:=(Option.bind_some _ _).symm.trans H;with_reducible exact H2_)|with_reducible exact H|(rw [hy101];exact H)|exact H
 have Ny101:=Aside0.mk hy101
 clear hy101
 replace H:=Option.bind_eq_some_iff.mp H
 obtain ⟨t104,A30,H⟩:=H
 replace H:(some t104)=some r:=H
 have A3:=Aside0.mk A30
 clear A30
 obtain rfl:=Option.some.inj H
 go_enter Tryz.func66,Tryz.ntmps66
 go_wp2_with (first|((with_reducible refine gate_dst (N:=5) rfl ?_);refine Kd.R_lit k67 _ 67 ?hg (N:=5) ?hd (xs:=([]:List (S67))) (inner:=[]) (ok:=fun _=>True) (okp:=fun _=>True) ?hr ?hp (fun _ hk=>hk) trivial (Below.refl _ _) (Nat.le_refl _) zbr ?_;(case hd=>rfl);(case hg=>rfl);(case hr=>exact zo);(case hp=>exact (Reps.none _ _));intro v102 w4 ho5 hb hg_ hnew_;clear hg_ hnew_;(first|rw [←Ny101.out] at ho5|(simp only [Int.reduceToNat] at ho5;rw [←Ny101.out] at ho5));have HO103:=Aside0.mk (Kd.R_lower ho5 (below_size za));replace HB:=Aside0.mk (below_step za hb);clear hb ho5;obtain ⟨Ao6,co6,eo6⟩:=Kd.R_slice HO103.out;subst eo6)|((with_reducible refine gate_callee (f:=104) rfl ?_);refine goesL_ (some 8) rfl rfl Tryz.func104 zu rfl #[.slice Ao6 y101.length co6,.pointer (some (ad0.add ((a0i:Int).toNat*3))),.int .i64 a1] rfl zc ?_;(with_reducible refine (spec_l25Ask_e.calls k _ _ y101 _ l0 a0i a1 t104 _ ?side1 ?side2 ?side3 ?side4 ?side5 A3.out).mono ?_);(case side1=>repeat (first|exact (Kd.R_reads' HO103.out).2.2|(with_reducible refine Kd.C_alloc ?_ _)|(with_reducible refine Kd.C_drewN ?_ _)|(with_reducible refine Kd.C_drew ?_)));(case side2=>exact (Kd.R_reads' HO103.out).2.1);(case side3=>exact zce);(case side4=>first|(with_reducible assumption)|assumption|decide|exact decide_eq_true zbr|exact decide_eq_true zbd);(case side5=>first|(with_reducible assumption)|assumption|decide|exact decide_eq_true zbr|exact decide_eq_true zbd);rintro e w' ⟨rfl,⟨nd,rfl⟩⟩;refine ⟨_,rfl,?_⟩))
 go_ret
 exact ⟨zg,za⟩

def spec_l25Long.f (a0:ByteArray):Option (Int):=if (a0.size:Int) > 2000 then (some 5) else (some 0)
set_option maxHeartbeats 8000000 in
set_option maxRecDepth 100000 in
theorem spec_l25Long.calls (a0:ByteArray) (r:Int) (w:World) (h:spec_l25Long.f a0=some r) :
 Calls Tryz.prog 61 #[.string a0] w fun e w'=>e = .returned (.int .i64 r)∧Drawn0 w w':=by
 have H:(if (a0.size:Int) > 2000 then (some 5) else (some 0))=some r:=h
 clear h
 by_cases c2:(a0.size:Int) > 2000
 ·rw [if_pos c2] at H
  have c2b0:decide (2000<(a0.size:Int))=true:=decide_eq_true c2
  have c2b1:decide (2000<a0.size)=true:=decide_eq_true zbd
  clear c2
  obtain rfl:=Option.some.inj H
  go_enter Tryz.func61,Tryz.ntmps61
  go_wp2
  go_ret
  exact ⟨zf,zk⟩
 ·rw [if_neg c2] at H
  have c2b0:decide (2000<(a0.size:Int))=false:=decide_eq_false c2
  have c2b1:decide (2000<a0.size)=false:=decide_eq_false zbd
  clear c2
  obtain rfl:=Option.some.inj H
  go_enter Tryz.func61,Tryz.ntmps61
  go_wp2
  go_ret
  exact ⟨zf,zk⟩

def spec_l01Split.l0:Nat→ByteArray→Int→List ByteArray→Int→Int→Option (List ByteArray)
 | 0,_,_,_,_,_=>none
 | k+1,x0,x1,x5,x6,x7=>if x7<(x0.size:Int) then (if 0≤x7 then (if (bt x0 x7)=x1 then (if 0≤x6 then (if x6≤x7 then (if x7≤(x0.size:Int) then (if x5.length<8796093022208 then (spec_l01Split.l0 k x0 x1 (x5++[x0.extract (x6:Int).toNat (x7:Int).toNat]) (wrap64 (x7+1)) (wrap64 (x7+1))) else (none)) else (none)) else (none)) else (none)) else (spec_l01Split.l0 k x0 x1 x5 x6 (wrap64 (x7+1)))) else (none)) else (if 0≤x6 then (if x6≤(x0.size:Int) then (if x5.length<8796093022208 then (some (x5++[x0.extract (x6:Int).toNat x0.size])) else (none)) else (none)) else (none))
def spec_l01Split.f (k:Nat) (a0:ByteArray) (a1:Int):Option (List ByteArray):=spec_l01Split.l0 k a0 a1 (([]:List ByteArray)) 0 0
set_option maxHeartbeats 8000000 in
set_option maxRecDepth 100000 in
theorem spec_l01Split.calls (k:Nat) (a0:ByteArray) (a1:Int) (r:List ByteArray) (w:World) (h:spec_l01Split.f k a0 a1=some r) :
 Calls Tryz.prog 78 #[.string a0,.int .u8 a1] w fun e w'=>∃v0_:Value,e = .returned (v0_)∧Kd.R Kd.string 9 w' w.heap.size (fun _=>True) v0_ r∧Below w.heap.size w w':=by
 have HB:=Aside0.mk (Below.refl w.heap.size w)
 have H:(spec_l01Split.l0 k a0 a1 (([]:List ByteArray)) 0 0)=some r:=h
 clear h
 obtain ⟨y101,hy101⟩:∃y_:List ByteArray,y_=(([]:List ByteArray)):=⟨_,rfl⟩
 replace H:(spec_l01Split.l0 k a0 a1 y101 0 0)=some r:=by first|(rw [hy101];with_reducible exact H)|(have H2_:=(Option.bind_some _ _).symm.trans H;rw [hy101];with_reducible exact H2_)|(have H2_:=(Option.bind_some _ _).symm.trans H;with_reducible exact H2_)|with_reducible exact H|(rw [hy101];exact H)|exact H
 have Ny101:=Aside0.mk hy101
 clear hy101
 have H':=Aside0.mk H
 clear H
 go_enter Tryz.func78,Tryz.ntmps78
 go_wp2_with (first|((with_reducible refine gate_dst (N:=8) rfl ?_);refine Kd.R_lit Kd.string _ 9 ?hg (N:=8) ?hd (xs:=([]:List ByteArray)) (inner:=[]) (ok:=fun _=>True) (okp:=fun _=>True) ?hr ?hp (fun _ hk=>hk) trivial (Below.refl _ _) (Nat.le_refl _) zbr ?_;(case hd=>rfl);(case hg=>rfl);(case hr=>exact zo);(case hp=>exact (Reps.none _ _));intro v102 w3 ho4 hb hg_ hnew_;clear hg_ hnew_;(first|rw [←Ny101.out] at ho4|(simp only [Int.reduceToNat] at ho4;rw [←Ny101.out] at ho4));have HO103:=Aside0.mk (Kd.R_lower ho4 (below_size za));replace HB:=Aside0.mk (below_step za hb);clear hb ho4))
 go_loopg [5,6,7] k (fun kq v5 v6 v7 w'=>∃(x5_1:List ByteArray) (x6_1:Int) (x7_1:Int),v6 = .int .i64 x6_1∧v7 = .int .i64 x7_1∧Aside0 (spec_l01Split.l0 kq a0 a1 x5_1 x6_1 x7_1=some r)∧Aside0 (kq≤k)∧Aside0 (Kd.R Kd.string 9 w' w.heap.size (fun _=>True) v5 x5_1)∧Aside0 (Below w.heap.size w w'))
 case atStart=>exact ⟨(y101),(0),(0),zf,zf,H',⟨Nat.le_refl _⟩,⟨zbn⟩,⟨za⟩⟩
 case round=>
  clear H'
  try clear p2
  obtain ⟨x5_1,x6_1,x7_1,rfl,rfl,HA,HK1,HO_5,HB⟩:=hrel
  cases gk with
  | zero=>exact absurd HA.out (by simp [spec_l01Split.l0])
  | succ k1=>
   have H:=HA.out
   clear HA
   simp only [spec_l01Split.l0] at H
   by_cases c5:x7_1<(a0.size:Int)
   ·rw [if_pos c5] at H
    have c5b0:decide (x7_1<(a0.size:Int))=true:=decide_eq_true c5
    clear c5
    by_cases c6:0≤x7_1
    ·rw [if_pos c6] at H
     have c6b0:decide (0≤x7_1)=true:=decide_eq_true c6
     clear c6
     by_cases c8:(bt a0 x7_1)=a1
     ·rw [if_pos c8] at H
      have c8b0:((bt a0 x7_1) == a1)=true:=beq_iff_eq.mpr c8
      have c8b1:((bt a0 x7_1) != a1)=false:=bne_eq_false_iff_eq.mpr c8
      clear c8
      by_cases c9:0≤x6_1
      ·rw [if_pos c9] at H
       have c9b0:=eq_true c9
       have c9b1:decide (0≤x6_1)=true:=decide_eq_true c9
       clear c9
       by_cases c10:x6_1≤x7_1
       ·rw [if_pos c10] at H
        have c10b0:=eq_true c10
        have c10b1:decide (x6_1≤x7_1)=true:=decide_eq_true c10
        clear c10
        by_cases c11:x7_1≤(a0.size:Int)
        ·rw [if_pos c11] at H
         have c11b0:=eq_true c11
         have c11b1:decide (x7_1≤(a0.size:Int))=true:=decide_eq_true c11
         clear c11
         by_cases c12:x5_1.length<8796093022208
         ·rw [if_pos c12] at H
          have LMc12:=Aside0.mk c12
          clear c12
          obtain ⟨y104,hy104⟩:∃y_:List ByteArray,y_=(x5_1++[a0.extract (x6_1:Int).toNat (x7_1:Int).toNat]):=⟨_,rfl⟩
          replace H:(spec_l01Split.l0 k1 a0 a1 y104 (wrap64 (x7_1+1)) (wrap64 (x7_1+1)))=some r:=by first|(rw [hy104];with_reducible exact H)|(have H2_:=(Option.bind_some _ _).symm.trans H;rw [hy104];with_reducible exact H2_)|(have H2_:=(Option.bind_some _ _).symm.trans H;with_reducible exact H2_)|with_reducible exact H|(rw [hy104];exact H)|exact H
          have Ny104:=Aside0.mk hy104
          clear hy104
          have H':=Aside0.mk H
          clear H
          have p7:0≤(x7_1:Int):=of_decide_eq_true ze
          have q7:x7_1<(a0.size:Int):=of_decide_eq_true ze
          have hx7:=bt_at a0 x7_1
          replace p7:=eq_true p7
          replace q7:=eq_true q7
          go_wp2_with (first|((with_reducible refine gate_builtin (b:=.append) (xs:=#[.tmp 20,.tmp 25]) rfl ?_);at_builtin;refine Kd.R_append Kd.string (w0:=w) w.heap.size rfl (.tmp 20) (.tmp 25) 104 9 (.string ⟨#[]⟩) 16 rfl Tryz.underlying104 info9 rfl zbm zbd u5 x5_1 (a0.extract (x6_1:Int).toNat (x7_1:Int).toNat) [.string (a0.extract (x6_1:Int).toNat (x7_1:Int).toNat)] (fun _=>True) (fun _=>False) rfl rfl ?aP (fun _ hk=>hk.elim) ?aF ?aO ?aB ?aS ?aL ?_;(case aP=>exact rfl);(case aB=>exact za);(case aF=>exact zci);(case aO=>exact zai);(case aS=>exact (below_size za));(case aL=>have:=LMc12.out;omega);intro v105 w13 ho hb hg hat;rw [←Ny104.out] at ho;replace HB:=Aside0.mk (hb);have HO106:=Aside0.mk (ho);clear HO_5;clear ho hb hg hat))
          go_roundg k1
          case measure=>have:=HK1.out;omega
          case rel=>exact ⟨(y104),(wrap64 (x7_1+1)),(wrap64 (x7_1+1)),zf,zf,H',⟨zcq⟩,⟨zab⟩,⟨za⟩⟩
         ·rw [if_neg c12] at H
          exact absurd H zbr
        ·rw [if_neg c11] at H
         exact absurd H zbr
       ·rw [if_neg c10] at H
        exact absurd H zbr
      ·rw [if_neg c9] at H
       exact absurd H zbr
     ·rw [if_neg c8] at H
      have c8b0:((bt a0 x7_1) == a1)=false:=beq_eq_false_iff_ne.mpr c8
      have c8b1:((bt a0 x7_1) != a1)=true:=bne_iff_ne.mpr c8
      have H':=Aside0.mk H
      clear H
      have p7:0≤(x7_1:Int):=of_decide_eq_true ze
      have q7:x7_1<(a0.size:Int):=of_decide_eq_true ze
      have hx7:=bt_at a0 x7_1
      replace p7:=eq_true p7
      replace q7:=eq_true q7
      go_wp2
      go_roundg k1
      case measure=>have:=HK1.out;omega
      case rel=>exact ⟨(x5_1),(x6_1),(wrap64 (x7_1+1)),zf,zf,H',⟨zcq⟩,⟨zai⟩,⟨za⟩⟩
    ·rw [if_neg c6] at H
     exact absurd H zbr
   ·rw [if_neg c5] at H
    have c5b0:decide (x7_1<(a0.size:Int))=false:=decide_eq_false c5
    clear c5
    by_cases c14:0≤x6_1
    ·rw [if_pos c14] at H
     have c14b0:=eq_true c14
     have c14b1:decide (0≤x6_1)=true:=decide_eq_true c14
     clear c14
     by_cases c15:x6_1≤(a0.size:Int)
     ·rw [if_pos c15] at H
      have c15b0:=eq_true c15
      have c15b1:decide (x6_1≤(a0.size:Int))=true:=decide_eq_true c15
      clear c15
      by_cases c16:x5_1.length<8796093022208
      ·rw [if_pos c16] at H
       have LMc16:=Aside0.mk c16
       clear c16
       obtain ⟨y107,hy107⟩:∃y_:List ByteArray,y_=(x5_1++[a0.extract (x6_1:Int).toNat a0.size]):=⟨_,rfl⟩
       replace H:(some y107)=some r:=by first|(rw [hy107];with_reducible exact H)|(have H2_:=(Option.bind_some _ _).symm.trans H;rw [hy107];with_reducible exact H2_)|(have H2_:=(Option.bind_some _ _).symm.trans H;with_reducible exact H2_)|with_reducible exact H|(rw [hy107];exact H)|exact H
       have Ny107:=Aside0.mk hy107
       clear hy107
       obtain rfl:=Option.some.inj H
       go_wp2_with (first|((with_reducible refine gate_builtin (b:=.append) (xs:=#[.tmp 29,.tmp 33]) rfl ?_);at_builtin;refine Kd.R_append Kd.string (w0:=w) w.heap.size rfl (.tmp 29) (.tmp 33) 104 9 (.string ⟨#[]⟩) 16 rfl Tryz.underlying104 info9 rfl zbm zbd u5 x5_1 (a0.extract (x6_1:Int).toNat a0.size) [.string (a0.extract (x6_1:Int).toNat a0.size)] (fun _=>True) (fun _=>False) rfl rfl ?aP (fun _ hk=>hk.elim) ?aF ?aO ?aB ?aS ?aL ?_;(case aP=>exact rfl);(case aB=>exact za);(case aF=>exact zci);(case aO=>exact zai);(case aS=>exact (below_size za));(case aL=>have:=LMc16.out;omega);intro v108 w17 ho hb hg hat;rw [←Ny107.out] at ho;replace HB:=Aside0.mk (hb);have HO109:=Aside0.mk (ho);clear HO_5;clear ho hb hg hat))
       go_ret
       exact ⟨_,zg,zbv,za⟩
      ·rw [if_neg c16] at H
       exact absurd H zbr
     ·rw [if_neg c15] at H
      exact absurd H zbr
    ·rw [if_neg c14] at H
     exact absurd H zbr

mutual
def spec_l01Number.j0:Nat→ByteArray→Int→Bool→Option (Int × Bool)
 | 0,_,_,_=>none
 | k+1,x0,x4,x14=>if x14=true then (spec_l01Number.j1 k x0 1) else (spec_l01Number.j1 k x0 x4)
def spec_l01Number.j1:Nat→ByteArray→Int→Option (Int × Bool)
 | 0,_,_=>none
 | k+1,x0,x4=>if (x0.size:Int)=x4 then (spec_l01Number.j2 k x0 x4 true) else (if (wrap64 ((x0.size:Int) - x4)) > 18 then (spec_l01Number.j2 k x0 x4 true) else (if 0≤x4 then (if x4<(x0.size:Int) then (if (bt x0 x4)=48 then (spec_l01Number.j2 k x0 x4 (decide ((x0.size:Int) > 1))) else (spec_l01Number.j2 k x0 x4 false)) else (none)) else (none)))
def spec_l01Number.j2:Nat→ByteArray→Int→Bool→Option (Int × Bool)
 | 0,_,_,_=>none
 | k+1,x0,x4,x36=>if x36=true then (some (0,false)) else (spec_l01Number.l0 k x0 x4 0 x4)
def spec_l01Number.l0:Nat→ByteArray→Int→Int→Int→Option (Int × Bool)
 | 0,_,_,_,_=>none
 | k+1,x0,x4,x5,x6=>if x6<(x0.size:Int) then (if 0≤x6 then ((spec_l01Digit.f (bt x0 x6)).bind fun t101=>(if t101=true then (spec_l01Number.l0 k x0 x4 (wrap64 ((wrap64 (10*x5))+(((bt x0 x6) - 48)%256))) (wrap64 (x6+1))) else (some (0,false)))) else (none)) else (if x4=1 then (some (wrap64 (-x5),true)) else (some (x5,true)))
end
def spec_l01Number.f (k:Nat) (a0:ByteArray):Option (Int × Bool):=if (a0.size:Int) > 0 then (if 0<(a0.size:Int) then (spec_l01Number.j0 k a0 0 ((bt a0 0) == 45)) else (none)) else (spec_l01Number.j0 k a0 0 false)
set_option maxHeartbeats 8000000 in
set_option maxRecDepth 100000 in
theorem spec_l01Number.calls (k:Nat) (a0:ByteArray) (r1:Int) (r2:Bool) (w:World) (h:spec_l01Number.f k a0=some (r1,r2)) :
 Calls Tryz.prog 80 #[.string a0] w fun e w'=>e = .returned (.tuple #[.int .i64 r1,.bool r2])∧Drawn0 w w':=by
 have H:(if (a0.size:Int) > 0 then (if 0<(a0.size:Int) then (spec_l01Number.j0 k a0 0 ((bt a0 0) == 45)) else (none)) else (spec_l01Number.j0 k a0 0 false))=some (r1,r2):=h
 clear h
 have HC2:=Aside0.mk H
 clear H
 go_enter Tryz.func80,Tryz.ntmps80
 go_upto_region 2 with (fail)
 go_cut [14] (fun v14 wc=>∃(kq:Nat) (x14_1:Bool),v14 = .bool x14_1∧Aside0 (spec_l01Number.j0 kq a0 0 x14_1=some (r1,r2))∧Aside0 (kq≤k)∧Drawn0 w wc)
 case first=>
  have H:=HC2.out
  clear HC2
  by_cases c3:(a0.size:Int) > 0
  ·rw [if_pos c3] at H
   have c3b0:decide (0<(a0.size:Int))=true:=decide_eq_true c3
   have c3b1:decide (0<a0.size)=true:=decide_eq_true zbd
   clear c3
   (first|rw [c3b0]|(simp only [i64_w,i32_w];rw [c3b0])|skip)
   by_cases c4:0<(a0.size:Int)
   ·rw [if_pos c4] at H
    have c4b0:decide (0<(a0.size:Int))=true:=decide_eq_true c4
    have c4b1:decide (0<a0.size)=true:=decide_eq_true zbd
    clear c4
    have H':=Aside0.mk H
    clear H
    have p5:0≤(0:Int):=zbd
    have q5:0<a0.size:=(by have:(0:Int)<(a0.size:Int):=of_decide_eq_true ze;omega)
    have hx5:∀h:0<a0.size,((a0[0]'h).toNat:Int)=bt a0 0:=bt_at a0 0
    clear p5
    have qi5:(0<(a0.size:Int))=True:=eq_true (of_decide_eq_true ze)
    replace q5:=eq_true q5
    go_wp2
    go_meet
    case rel=>exact ⟨_,(((bt a0 0) == 45)),zf,H',⟨zcr⟩,zk⟩
   ·rw [if_neg c4] at H
    exact absurd H zbr
  ·rw [if_neg c3] at H
   have c3b0:decide (0<(a0.size:Int))=false:=decide_eq_false c3
   have c3b1:decide (0<a0.size)=false:=decide_eq_false zbd
   clear c3
   (first|rw [c3b0]|(simp only [i64_w,i32_w];rw [c3b0])|skip)
   have H':=Aside0.mk H
   clear H
   go_wp2
   go_meet
   case rel=>exact ⟨_,(false),zf,H',⟨zcr⟩,zk⟩
 case rest=>
  clear HC2
  try clear p2
  try clear c3
  try clear c3b0
  try clear c3b1
  try clear c4
  try clear c4b0
  try clear c4b1
  try clear p5
  try clear q5
  try clear hx5
  try clear qi5
  try clear p5
  try clear q5
  obtain ⟨kq,x14_1,rfl,HA,HJ1,⟨mc1,rfl⟩⟩:=hcut
  cases kq with
  | zero=>exact absurd HA.out (by simp [spec_l01Number.j0])
  | succ kj1=>
   have H:=HA.out
   clear HA
   simp only [spec_l01Number.j0] at H
   have HC6:=Aside0.mk H
   clear H
   go_upto_if 14 with (fail)
   go_cut [4] (fun v4 wc=>∃(kq:Nat) (x4_5:Int),v4 = .int .i64 x4_5∧Aside0 (spec_l01Number.j1 kq a0 x4_5=some (r1,r2))∧Aside0 (kq≤kj1)∧Drawn0 w wc)
   case first=>
    have H:=HC6.out
    clear HC6
    by_cases c7:x14_1=true
    ·subst c7
     have H1:(spec_l01Number.j1 kj1 a0 1)=some (r1,r2):=by rw [if_pos rfl] at H;exact H
     clear H
     have H:=H1
     clear H1
     have H':=Aside0.mk H
     clear H
     go_wp2
     go_meet
     case rel=>exact ⟨_,(1),zf,H',⟨by have:=HJ1.out;first|omega|exact Nat.le_refl _⟩,zk⟩
    ·replace c7:=Bool.eq_false_iff.mpr c7
     subst c7
     have H1:(spec_l01Number.j1 kj1 a0 0)=some (r1,r2):=by rw [if_neg (show ¬ (false=true) by decide)] at H;exact H
     clear H
     have H:=H1
     clear H1
     have H':=Aside0.mk H
     clear H
     go_wp2
     go_meet
     case rel=>exact ⟨_,(0),zf,H',⟨by have:=HJ1.out;first|omega|exact Nat.le_refl _⟩,zk⟩
   case rest=>
    clear HC6
    try clear c1
    try clear p2
    try clear c3
    try clear c3b0
    try clear c3b1
    try clear c4
    try clear c4b0
    try clear c4b1
    try clear p5
    try clear q5
    try clear hx5
    try clear qi5
    try clear c7
    try clear p2
    try clear p5
    try clear q5
    obtain ⟨kq,x4_5,rfl,HA,HJ5,⟨mc5,rfl⟩⟩:=hcut
    cases kq with
    | zero=>exact absurd HA.out (by simp [spec_l01Number.j1])
    | succ kj5=>
     have H:=HA.out
     clear HA
     simp only [spec_l01Number.j1] at H
     have HC8:=Aside0.mk H
     clear H
     go_upto_region 4 with (fail)
     go_cut [36] (fun v36 wc=>∃(kq:Nat) (x36_7:Bool),v36 = .bool x36_7∧Aside0 (spec_l01Number.j2 kq a0 x4_5 x36_7=some (r1,r2))∧Aside0 (kq≤kj5)∧Drawn0 w wc)
     case first=>
      have H:=HC8.out
      clear HC8
      by_cases c9:(a0.size:Int)=x4_5
      ·rw [if_pos c9] at H
       have c9b0:((a0.size:Int) == x4_5)=true:=beq_iff_eq.mpr c9
       have c9b1:((a0.size:Int) != x4_5)=false:=bne_eq_false_iff_eq.mpr c9
       clear c9
       (first|rw [c9b0]|(simp only [i64_w,i32_w];rw [c9b0])|skip)
       have H':=Aside0.mk H
       clear H
       go_wp2
       go_meet
       case rel=>exact ⟨_,(true),zf,H',⟨by have:=HJ1.out;have:=HJ5.out;first|omega|exact Nat.le_refl _⟩,zk⟩
      ·rw [if_neg c9] at H
       have c9b0:((a0.size:Int) == x4_5)=false:=beq_eq_false_iff_ne.mpr c9
       have c9b1:((a0.size:Int) != x4_5)=true:=bne_iff_ne.mpr c9
       (first|rw [c9b0]|(simp only [i64_w,i32_w];rw [c9b0])|skip)
       by_cases c10:(wrap64 ((a0.size:Int) - x4_5)) > 18
       ·rw [if_pos c10] at H
        have c10b0:decide (18<(wrap64 ((a0.size:Int) - x4_5)))=true:=decide_eq_true c10
        clear c10
        have H':=Aside0.mk H
        clear H
        go_wp2
        go_meet
        case rel=>exact ⟨_,(true),zf,H',⟨by have:=HJ1.out;have:=HJ5.out;first|omega|exact Nat.le_refl _⟩,zk⟩
       ·rw [if_neg c10] at H
        have c10b0:decide (18<(wrap64 ((a0.size:Int) - x4_5)))=false:=decide_eq_false c10
        clear c10
        by_cases c11:0≤x4_5
        ·rw [if_pos c11] at H
         have c11b0:decide (0≤x4_5)=true:=decide_eq_true c11
         clear c11
         by_cases c12:x4_5<(a0.size:Int)
         ·rw [if_pos c12] at H
          have c12b0:decide (x4_5<(a0.size:Int))=true:=decide_eq_true c12
          clear c12
          by_cases c14:(bt a0 x4_5)=48
          ·rw [if_pos c14] at H
           have c14b0:((bt a0 x4_5) == 48)=true:=beq_iff_eq.mpr c14
           have c14b1:((bt a0 x4_5) != 48)=false:=bne_eq_false_iff_eq.mpr c14
           clear c14
           have H':=Aside0.mk H
           clear H
           have p13:0≤(x4_5:Int):=of_decide_eq_true ze
           have q13:x4_5<(a0.size:Int):=of_decide_eq_true ze
           have hx13:=bt_at a0 x4_5
           replace p13:=eq_true p13
           replace q13:=eq_true q13
           go_wp2
           go_meet
           case rel=>exact ⟨_,(decide ((a0.size:Int) > 1)),zf,H',⟨by have:=HJ1.out;have:=HJ5.out;first|omega|exact Nat.le_refl _⟩,zk⟩
          ·rw [if_neg c14] at H
           have c14b0:((bt a0 x4_5) == 48)=false:=beq_eq_false_iff_ne.mpr c14
           have c14b1:((bt a0 x4_5) != 48)=true:=bne_iff_ne.mpr c14
           have H':=Aside0.mk H
           clear H
           have p13:0≤(x4_5:Int):=of_decide_eq_true ze
           have q13:x4_5<(a0.size:Int):=of_decide_eq_true ze
           have hx13:=bt_at a0 x4_5
           replace p13:=eq_true p13
           replace q13:=eq_true q13
           go_wp2
           go_meet
           case rel=>exact ⟨_,(false),zf,H',⟨by have:=HJ1.out;have:=HJ5.out;first|omega|exact Nat.le_refl _⟩,zk⟩
         ·rw [if_neg c12] at H
          exact absurd H zbr
        ·rw [if_neg c11] at H
         exact absurd H zbr
     case rest=>
      clear HC8
      try clear c1
      try clear p1
      try clear q1
      try clear hx1
      try clear p2
      try clear c3
      try clear c3b0
      try clear c3b1
      try clear c4
      try clear c4b0
      try clear c4b1
      try clear c5
      try clear p5
      try clear q5
      try clear hx5
      try clear qi5
      try clear p6
      try clear c7
      try clear c8
      try clear c9
      try clear c9b0
      try clear c9b1
      try clear c10
      try clear c10b0
      try clear c11
      try clear c11b0
      try clear c12
      try clear c12b0
      try clear p13
      try clear q13
      try clear hx13
      try clear c14
      try clear c14b0
      try clear c14b1
      try clear p13
      try clear p2
      try clear p5
      try clear q13
      try clear q5
      obtain ⟨kq,x36_7,rfl,HA,HJ7,⟨mc7,rfl⟩⟩:=hcut
      cases kq with
      | zero=>exact absurd HA.out (by simp [spec_l01Number.j2])
      | succ kj7=>
       have H:=HA.out
       clear HA
       simp only [spec_l01Number.j2] at H
       by_cases c15:x36_7=true
       ·subst c15
        have H1:(some (0,false))=some (r1,r2):=by rw [if_pos rfl] at H;exact H
        clear H
        have H:=H1
        clear H1
        simp only [Option.some.injEq,Prod.mk.injEq] at H
        obtain ⟨rfl,rfl⟩:=H
        go_wp2
        go_ret2
        exact ⟨zf,zk⟩
       ·replace c15:=Bool.eq_false_iff.mpr c15
        subst c15
        have H1:(spec_l01Number.l0 kj7 a0 x4_5 0 x4_5)=some (r1,r2):=by rw [if_neg (show ¬ (false=true) by decide)] at H;exact H
        clear H
        have H:=H1
        clear H1
        have H':=Aside0.mk H
        clear H
        go_wp2
        go_loopg [5,6] kj7 (fun kq v5 v6 w'=>∃(x5_4:Int) (x6_4:Int),v5 = .int .i64 x5_4∧v6 = .int .i64 x6_4∧Aside0 (spec_l01Number.l0 kq a0 x4_5 x5_4 x6_4=some (r1,r2))∧Aside0 (kq≤kj7)∧Drawn0 w w')
        case atStart=>exact ⟨(0),(x4_5),zf,zf,H',⟨Nat.le_refl _⟩,zk⟩
        case round=>
         clear H'
         try clear c1
         try clear p1
         try clear q1
         try clear hx1
         try clear p2
         try clear c3
         try clear c3b0
         try clear c3b1
         try clear c4
         try clear c4b0
         try clear c4b1
         try clear c5
         try clear p5
         try clear q5
         try clear hx5
         try clear qi5
         try clear p6
         try clear c7
         try clear c8
         try clear c9
         try clear c9b0
         try clear c9b1
         try clear c10
         try clear c10b0
         try clear c11
         try clear c11b0
         try clear c12
         try clear c12b0
         try clear p13
         try clear q13
         try clear hx13
         try clear c14
         try clear c14b0
         try clear c14b1
         try clear c15
         try clear p1
         try clear p13
         try clear p2
         try clear p5
         try clear p6
         try clear q1
         try clear q13
         try clear q5
         obtain ⟨x5_4,x6_4,rfl,rfl,HA,HK4,⟨m4,rfl⟩⟩:=hrel
         cases gk with
         | zero=>exact absurd HA.out (by simp [spec_l01Number.l0])
         | succ k4=>
          have H:=HA.out
          clear HA
          simp only [spec_l01Number.l0] at H
          by_cases c16:x6_4<(a0.size:Int)
          ·rw [if_pos c16] at H
           have c16b0:decide (x6_4<(a0.size:Int))=true:=decide_eq_true c16
           clear c16
           by_cases c17:0≤x6_4
           ·rw [if_pos c17] at H
            have c17b0:decide (0≤x6_4)=true:=decide_eq_true c17
            clear c17
            replace H:=Option.bind_eq_some_iff.mp H
            obtain ⟨t101,A190,H⟩:=H
            replace H:(if t101=true then (spec_l01Number.l0 k4 a0 x4_5 (wrap64 ((wrap64 (10*x5_4))+(((bt a0 x6_4) - 48)%256))) (wrap64 (x6_4+1))) else (some (0,false)))=some (r1,r2):=H
            have A19:=Aside0.mk A190
            clear A190
            by_cases c20:t101=true
            ·subst c20
             have H1:(spec_l01Number.l0 k4 a0 x4_5 (wrap64 ((wrap64 (10*x5_4))+(((bt a0 x6_4) - 48)%256))) (wrap64 (x6_4+1)))=some (r1,r2):=by rw [if_pos rfl] at H;exact H
             clear H
             have H:=H1
             clear H1
             have H':=Aside0.mk H
             clear H
             have p18:0≤(x6_4:Int):=of_decide_eq_true ze
             have q18:x6_4<(a0.size:Int):=of_decide_eq_true ze
             have hx18:=bt_at a0 x6_4
             replace p18:=eq_true p18
             replace q18:=eq_true q18
             go_wp2_with (first|((with_reducible refine gate_callee (f:=112) rfl ?_);refine goesL_ (some 47) rfl rfl Tryz.func112 zu rfl #[.int .u8 (bt a0 x6_4)] rfl zc ?_;(with_reducible refine (spec_l01Digit.calls (bt a0 x6_4) true _ A19.out).mono ?_);rintro e w' ⟨rfl,⟨nd,rfl⟩⟩;refine ⟨_,rfl,?_⟩;have p21:0≤(x6_4:Int):=of_decide_eq_true ze;have q21:x6_4<(a0.size:Int):=of_decide_eq_true ze;have hx21:=bt_at a0 x6_4;replace p21:=eq_true p21;replace q21:=eq_true q21))
             go_roundg k4
             case measure=>have:=HJ1.out;have:=HJ5.out;have:=HJ7.out;have:=HK4.out;omega
             case rel=>exact ⟨(wrap64 ((wrap64 (10*x5_4))+(((bt a0 x6_4) - 48)%256))),(wrap64 (x6_4+1)),zf,zf,H',⟨by have:=HJ1.out;have:=HJ5.out;have:=HJ7.out;have:=HK4.out;omega⟩,zk⟩
            ·replace c20:=Bool.eq_false_iff.mpr c20
             subst c20
             have H1:(some (0,false))=some (r1,r2):=by rw [if_neg (show ¬ (false=true) by decide)] at H;exact H
             clear H
             have H:=H1
             clear H1
             simp only [Option.some.injEq,Prod.mk.injEq] at H
             obtain ⟨rfl,rfl⟩:=H
             have p18:0≤(x6_4:Int):=of_decide_eq_true ze
             have q18:x6_4<(a0.size:Int):=of_decide_eq_true ze
             have hx18:=bt_at a0 x6_4
             replace p18:=eq_true p18
             replace q18:=eq_true q18
             go_wp2_with (first|((with_reducible refine gate_callee (f:=112) rfl ?_);refine goesL_ (some 47) rfl rfl Tryz.func112 zu rfl #[.int .u8 (bt a0 x6_4)] rfl zc ?_;(with_reducible refine (spec_l01Digit.calls (bt a0 x6_4) false _ A19.out).mono ?_);rintro e w' ⟨rfl,⟨nd,rfl⟩⟩;refine ⟨_,rfl,?_⟩))
             go_ret2
             exact ⟨zf,zk⟩
           ·rw [if_neg c17] at H
            exact absurd H zbr
          ·rw [if_neg c16] at H
           have c16b0:decide (x6_4<(a0.size:Int))=false:=decide_eq_false c16
           clear c16
           by_cases c22:x4_5=1
           ·rw [if_pos c22] at H
            have c22b0:(x4_5 == 1)=true:=beq_iff_eq.mpr c22
            have c22b1:(x4_5 != 1)=false:=bne_eq_false_iff_eq.mpr c22
            clear c22
            simp only [Option.some.injEq,Prod.mk.injEq] at H
            obtain ⟨rfl,rfl⟩:=H
            go_wp2
            go_ret2
            exact ⟨zf,zk⟩
           ·rw [if_neg c22] at H
            have c22b0:(x4_5 == 1)=false:=beq_eq_false_iff_ne.mpr c22
            have c22b1:(x4_5 != 1)=true:=bne_iff_ne.mpr c22
            simp only [Option.some.injEq,Prod.mk.injEq] at H
            obtain ⟨rfl,rfl⟩:=H
            go_wp2
            go_ret2
            exact ⟨zf,zk⟩

def spec_l03Names.f:Option (ByteArray):=some (⟨#[83,114,82,103,71,109,77,80,100,68,110,78]⟩:ByteArray)
set_option maxHeartbeats 8000000 in
set_option maxRecDepth 100000 in
theorem spec_l03Names.calls (r:ByteArray) (w:World) (h:spec_l03Names.f=some r) :
 Calls Tryz.prog 115 #[] w fun e w'=>e = .returned (.string r)∧Drawn0 w w':=by
 have H:(some (⟨#[83,114,82,103,71,109,77,80,100,68,110,78]⟩:ByteArray))=some r:=h
 clear h
 obtain rfl:=Option.some.inj H
 go_enter Tryz.func115,Tryz.ntmps115
 go_wp2
 go_ret
 exact ⟨zf,zk⟩

def spec_l03Named.l0:Nat→Int→ByteArray→Int→Option (Int)
 | 0,_,_,_=>none
 | k+1,x0,x3,x4=>if x4<(x3.size:Int) then (if 0≤x4 then (if (bt x3 x4)=x0 then (some x4) else (spec_l03Named.l0 k x0 x3 (wrap64 (x4+1)))) else (none)) else (some (-1))
def spec_l03Named.f (k:Nat) (a0:Int):Option (Int):=(spec_l03Names.f).bind fun t101=>(spec_l03Named.l0 k a0 t101 0)
set_option maxHeartbeats 8000000 in
set_option maxRecDepth 100000 in
theorem spec_l03Named.calls (k:Nat) (a0:Int) (r:Int) (w:World) (h:spec_l03Named.f k a0=some r) :
 Calls Tryz.prog 130 #[.int .u8 a0] w fun e w'=>e = .returned (.int .i64 r)∧Drawn0 w w':=by
 have H:((spec_l03Names.f).bind fun t101=>(spec_l03Named.l0 k a0 t101 0))=some r:=h
 clear h
 replace H:=Option.bind_eq_some_iff.mp H
 obtain ⟨t101,A20,H⟩:=H
 replace H:(spec_l03Named.l0 k a0 t101 0)=some r:=H
 have A2:=Aside0.mk A20
 clear A20
 have H':=Aside0.mk H
 clear H
 go_enter Tryz.func130,Tryz.ntmps130
 go_wp2_with (first|((with_reducible refine gate_callee (f:=115) rfl ?_);refine goesL_ (some 5) rfl rfl Tryz.func115 zu rfl #[] rfl zc ?_;(with_reducible refine (spec_l03Names.calls t101 _ A2.out).mono ?_);rintro e w' ⟨rfl,⟨nd,rfl⟩⟩;refine ⟨_,rfl,?_⟩))
 go_loopg [4] k (fun kq v4 w'=>∃(x4_1:Int),v4 = .int .i64 x4_1∧Aside0 (spec_l03Named.l0 kq a0 t101 x4_1=some r)∧Aside0 (kq≤k)∧Drawn0 w w')
 case atStart=>exact ⟨(0),zf,H',⟨Nat.le_refl _⟩,zk⟩
 case round=>
  clear H'
  try clear c1
  try clear p2
  obtain ⟨x4_1,rfl,HA,HK1,⟨m1,rfl⟩⟩:=hrel
  cases gk with
  | zero=>exact absurd HA.out (by simp [spec_l03Named.l0])
  | succ k1=>
   have H:=HA.out
   clear HA
   simp only [spec_l03Named.l0] at H
   by_cases c3:x4_1<(t101.size:Int)
   ·rw [if_pos c3] at H
    have c3b0:decide (x4_1<(t101.size:Int))=true:=decide_eq_true c3
    clear c3
    by_cases c4:0≤x4_1
    ·rw [if_pos c4] at H
     have c4b0:decide (0≤x4_1)=true:=decide_eq_true c4
     clear c4
     by_cases c6:(bt t101 x4_1)=a0
     ·rw [if_pos c6] at H
      have c6b0:((bt t101 x4_1) == a0)=true:=beq_iff_eq.mpr c6
      have c6b1:((bt t101 x4_1) != a0)=false:=bne_eq_false_iff_eq.mpr c6
      clear c6
      obtain rfl:=Option.some.inj H
      have p5:0≤(x4_1:Int):=of_decide_eq_true ze
      have q5:x4_1<(t101.size:Int):=of_decide_eq_true ze
      have hx5:=bt_at t101 x4_1
      replace p5:=eq_true p5
      replace q5:=eq_true q5
      go_wp2
      go_ret
      exact ⟨zf,zk⟩
     ·rw [if_neg c6] at H
      have c6b0:((bt t101 x4_1) == a0)=false:=beq_eq_false_iff_ne.mpr c6
      have c6b1:((bt t101 x4_1) != a0)=true:=bne_iff_ne.mpr c6
      have H':=Aside0.mk H
      clear H
      have p5:0≤(x4_1:Int):=of_decide_eq_true ze
      have q5:x4_1<(t101.size:Int):=of_decide_eq_true ze
      have hx5:=bt_at t101 x4_1
      replace p5:=eq_true p5
      replace q5:=eq_true q5
      go_wp2
      go_roundg k1
      case measure=>have:=HK1.out;omega
      case rel=>exact ⟨(wrap64 (x4_1+1)),zf,H',⟨zcq⟩,zk⟩
    ·rw [if_neg c4] at H
     exact absurd H zbr
   ·rw [if_neg c3] at H
    have c3b0:decide (x4_1<(t101.size:Int))=false:=decide_eq_false c3
    clear c3
    obtain rfl:=Option.some.inj H
    go_wp2
    go_ret
    exact ⟨zf,zk⟩

mutual
def spec_l09ReadOne.j0:Nat→ByteArray→Bool→Option (Int × Int × Bool)
 | 0,_,_=>none
 | k+1,x0,x15=>if x15=true then (some (0,0,false)) else (if 0<(x0.size:Int) then ((spec_l03Named.f k (bt x0 0)).bind fun t103=>(if 1≤(x0.size:Int) then (if (x0.extract 1 x0.size).toList=([]:List UInt8) then (spec_l09ReadOne.j1 k t103 (x0.extract 1 x0.size) false) else (if 0<((x0.extract 1 x0.size).size:Int) then (spec_l09ReadOne.j1 k t103 (x0.extract 1 x0.size) ((bt (x0.extract 1 x0.size) 0) == 44)) else (none))) else (none))) else (none))
def spec_l09ReadOne.j1:Nat→Int→ByteArray→Bool→Option (Int × Int × Bool)
 | 0,_,_,_=>none
 | k+1,x4,x5,x28=>if x28=true then (if 1≤(x5.size:Int) then (spec_l09ReadOne.j2 k (wrap64 (x4 - 12)) (x5.extract 1 x5.size)) else (none)) else (if x5.toList=([]:List UInt8) then (spec_l09ReadOne.j2 k x4 x5) else (if 0<(x5.size:Int) then (if (bt x5 0)=39 then (if 1≤(x5.size:Int) then (spec_l09ReadOne.j2 k (wrap64 (x4+12)) (x5.extract 1 x5.size)) else (none)) else (spec_l09ReadOne.j2 k x4 x5)) else (none)))
def spec_l09ReadOne.j2:Nat→Int→ByteArray→Option (Int × Int × Bool)
 | 0,_,_=>none
 | k+1,x4,x5=>if x5.toList=([]:List UInt8) then (some (x4,1,true)) else ((spec_l01Number.f k x5).bind fun bt104=>(if bt104.2=true then (if bt104.1=1 then (some (0,0,false)) else ((spec_l09Length.f bt104.1).bind fun t106=>(if t106=true then (some (x4,bt104.1,true)) else (some (0,0,false))))) else (some (0,0,false))))
end
def spec_l09ReadOne.f (k:Nat) (a0:ByteArray):Option (Int × Int × Bool):=if a0.toList=([]:List UInt8) then (spec_l09ReadOne.j0 k a0 true) else (if 0<(a0.size:Int) then ((spec_l03Named.f k (bt a0 0)).bind fun t102=>(spec_l09ReadOne.j0 k a0 (decide (t102<0)))) else (none))
set_option maxHeartbeats 8000000 in
set_option maxRecDepth 100000 in
theorem spec_l09ReadOne.calls (k:Nat) (a0:ByteArray) (r1:Int) (r2:Int) (r3:Bool) (w:World) (h:spec_l09ReadOne.f k a0=some (r1,r2,r3)) :
 Calls Tryz.prog 100 #[.string a0] w fun e w'=>e = .returned (.tuple #[.agg #[.int .i64 r1,.int .i64 r2],.bool r3])∧Below w.heap.size w w':=by
 have hu67:=Tryz.underlying67
 have HB:=Aside0.mk (Below.refl w.heap.size w)
 have H:(if a0.toList=([]:List UInt8) then (spec_l09ReadOne.j0 k a0 true) else (if 0<(a0.size:Int) then ((spec_l03Named.f k (bt a0 0)).bind fun t102=>(spec_l09ReadOne.j0 k a0 (decide (t102<0)))) else (none)))=some (r1,r2,r3):=h
 clear h
 have HC2:=Aside0.mk H
 clear H
 go_enter Tryz.func100,Tryz.ntmps100
 go_upto_region 1 with (first|((with_reducible refine gate_dst (N:=2) rfl ?_);refine box_event ?hg (N:=2) ?hd (cs:=#[.int .i64 0,.int .i64 0]) (t:=67) ?hr ?_;(case hd=>rfl);(case hg=>rfl);(case hr=>exact zo);intro gb101 hg w3 hbox hb;have n0_:=Aside0.mk (below_step za hb);have n1_:=Aside0.mk (hbox);have n2_:=Aside0.mk ((by rw [hg];exact (below_size za):w.heap.size≤gb101));have n3_:=Aside0.mk ((by rw [hg];exact (below_size za):w.heap.size≤gb101));clear HB;have HB:=n0_;have BK101:=n1_;have GW101:=n2_;have GE101:=n3_;clear n0_ n1_ n2_ n3_;clear hb hbox hg))
 (try simp only [Act.put,List.setIfInBounds_toArray,List.set_cons_zero,List.set_cons_succ])
 go_cut [15] (fun v15 wc=>∃(kq:Nat) (x15_1:Bool),v15 = .bool x15_1∧Aside0 (spec_l09ReadOne.j0 kq a0 x15_1=some (r1,r2,r3))∧Aside0 (kq≤k)∧Aside0 (wc.heap[gb101]?=some (.cells #[.int .i64 0,.int .i64 0] 67 (0,0)))∧Aside0 (Below w.heap.size w wc))
 case first=>
  have H:=HC2.out
  clear HC2
  by_cases c4:a0.toList=([]:List UInt8)
  ·rw [if_pos c4] at H
   have c4b0:(a0.toList == ([]:List UInt8))=true:=beq_iff_eq.mpr c4
   have c4b1:(a0.toList != ([]:List UInt8))=false:=bne_eq_false_iff_eq.mpr c4
   clear c4
   (first|rw [c4b0]|(simp only [i64_w,i32_w];rw [c4b0])|skip)
   have H':=Aside0.mk H
   clear H
   go_wp2
   go_meet
   case rel=>exact ⟨_,(true),zf,H',⟨zcr⟩,⟨zd⟩,⟨zb⟩⟩
  ·rw [if_neg c4] at H
   have c4b0:(a0.toList == ([]:List UInt8))=false:=beq_eq_false_iff_ne.mpr c4
   have c4b1:(a0.toList != ([]:List UInt8))=true:=bne_iff_ne.mpr c4
   (first|rw [c4b0]|(simp only [i64_w,i32_w];rw [c4b0])|skip)
   by_cases c5:0<(a0.size:Int)
   ·rw [if_pos c5] at H
    have c5b0:decide (0<(a0.size:Int))=true:=decide_eq_true c5
    have c5b1:decide (0<a0.size)=true:=decide_eq_true zbd
    clear c5
    replace H:=Option.bind_eq_some_iff.mp H
    obtain ⟨t102,A70,H⟩:=H
    replace H:(spec_l09ReadOne.j0 k a0 (decide (t102<0)))=some (r1,r2,r3):=H
    have A7:=Aside0.mk A70
    clear A70
    have H':=Aside0.mk H
    clear H
    have p6:0≤(0:Int):=zbd
    have q6:0<a0.size:=(by have:(0:Int)<(a0.size:Int):=of_decide_eq_true ze;omega)
    have hx6:∀h:0<a0.size,((a0[0]'h).toNat:Int)=bt a0 0:=bt_at a0 0
    clear p6
    have qi6:(0<(a0.size:Int))=True:=eq_true (of_decide_eq_true ze)
    replace q6:=eq_true q6
    go_wp2_with (first|(go_at_call 130;(with_reducible refine (spec_l03Named.calls k (bt a0 0) t102 _ A7.out).mono ?_);rintro e w' ⟨rfl,⟨nd,rfl⟩⟩))
    go_meet
    case rel=>exact ⟨_,(decide (t102<0)),zf,H',⟨zcr⟩,⟨zd⟩,⟨zb⟩⟩
   ·rw [if_neg c5] at H
    exact absurd H zbr
 case rest=>
  clear HC2
  try clear c1
  try clear p2
  try clear c4
  try clear c4b0
  try clear c4b1
  try clear c5
  try clear c5b0
  try clear c5b1
  try clear p6
  try clear q6
  try clear hx6
  try clear qi6
  try clear p6
  try clear q6
  obtain ⟨kq,x15_1,rfl,HA,HJ1,BK101,HB⟩:=hcut
  cases kq with
  | zero=>exact absurd HA.out (by simp [spec_l09ReadOne.j0])
  | succ kj1=>
   have H:=HA.out
   clear HA
   simp only [spec_l09ReadOne.j0] at H
   by_cases c8:x15_1=true
   ·subst c8
    have H1:(some (0,0,false))=some (r1,r2,r3):=by rw [if_pos rfl] at H;exact H
    clear H
    have H:=H1
    clear H1
    simp only [Option.some.injEq,Prod.mk.injEq] at H
    obtain ⟨rfl,rfl,rfl⟩:=H
    have hcz9_0:wc.cell? ⟨gb101,0,none⟩=some (.int .i64 0):=(blk_cell BK101.out 0).trans rfl
    have hcz9_1:wc.cell? ⟨gb101,1,none⟩=some (.int .i64 0):=(blk_cell BK101.out 1).trans rfl
    have hfz9_0:=blk_frozen BK101.out 0
    have hfz9_1:=blk_frozen BK101.out 1
    go_wp2
    refine bodyPost_ret (results_ct rfl _ _ gb101 67 #[.int .i64 0,.int .i64 0] (0,0) _ rfl zal Tryz.underlying67 rfl zu) rfl ?_
    exact ⟨zg,zb⟩
   ·replace c8:=Bool.eq_false_iff.mpr c8
    subst c8
    have H1:(if 0<(a0.size:Int) then ((spec_l03Named.f kj1 (bt a0 0)).bind fun t103=>(if 1≤(a0.size:Int) then (if (a0.extract 1 a0.size).toList=([]:List UInt8) then (spec_l09ReadOne.j1 kj1 t103 (a0.extract 1 a0.size) false) else (if 0<((a0.extract 1 a0.size).size:Int) then (spec_l09ReadOne.j1 kj1 t103 (a0.extract 1 a0.size) ((bt (a0.extract 1 a0.size) 0) == 44)) else (none))) else (none))) else (none))=some (r1,r2,r3):=by rw [if_neg (show ¬ (false=true) by decide)] at H;exact H
    clear H
    have H:=H1
    clear H1
    by_cases c10:0<(a0.size:Int)
    ·rw [if_pos c10] at H
     have c10b0:decide (0<(a0.size:Int))=true:=decide_eq_true c10
     have c10b1:decide (0<a0.size)=true:=decide_eq_true zbd
     clear c10
     replace H:=Option.bind_eq_some_iff.mp H
     obtain ⟨t103,A120,H⟩:=H
     replace H:(if 1≤(a0.size:Int) then (if (a0.extract 1 a0.size).toList=([]:List UInt8) then (spec_l09ReadOne.j1 kj1 t103 (a0.extract 1 a0.size) false) else (if 0<((a0.extract 1 a0.size).size:Int) then (spec_l09ReadOne.j1 kj1 t103 (a0.extract 1 a0.size) ((bt (a0.extract 1 a0.size) 0) == 44)) else (none))) else (none))=some (r1,r2,r3):=H
     have A12:=Aside0.mk A120
     clear A120
     by_cases c13:1≤(a0.size:Int)
     ·rw [if_pos c13] at H
      have c13b0:=eq_true c13
      have c13b1:decide (1≤(a0.size:Int))=true:=decide_eq_true c13
      clear c13
      have HC14:=Aside0.mk H
      clear H
      have p11:0≤(0:Int):=zbd
      have q11:0<a0.size:=(by have:(0:Int)<(a0.size:Int):=of_decide_eq_true ze;omega)
      have hx11:∀h:0<a0.size,((a0[0]'h).toNat:Int)=bt a0 0:=bt_at a0 0
      clear p11
      have qi11:(0<(a0.size:Int))=True:=eq_true (of_decide_eq_true ze)
      replace q11:=eq_true q11
      go_upto_region 5 with (first|((with_reducible refine gate_callee (f:=130) rfl ?_);refine goesL_ (some 19) rfl rfl Tryz.func130 zu rfl #[.int .u8 (bt a0 0)] rfl zc ?_;(with_reducible refine (spec_l03Named.calls kj1 (bt a0 0) t103 _ A12.out).mono ?_);rintro e w' ⟨rfl,⟨nd,rfl⟩⟩;refine ⟨_,rfl,?_⟩))
      (try simp only [Act.put,List.setIfInBounds_toArray,List.set_cons_zero,List.set_cons_succ])
      obtain ⟨b5,hb5⟩:∃b5,b5=a0.extract 1 a0.size:=⟨_,rfl⟩
      rw [←hb5] at HC14
      rw [←hb5]
      have HB5:=Aside0.mk hb5
      clear hb5
      go_cut [28] (fun v28 wc=>∃(kq:Nat) (x28_13:Bool),v28 = .bool x28_13∧Aside0 (spec_l09ReadOne.j1 kq t103 b5 x28_13=some (r1,r2,r3))∧Aside0 (kq≤kj1)∧Aside0 (wc.heap[gb101]?=some (.cells #[.int .i64 0,.int .i64 0] 67 (0,0)))∧Aside0 (Below w.heap.size w wc))
      case first=>
       have H:=HC14.out
       clear HC14
       by_cases c15:b5.toList=([]:List UInt8)
       ·rw [if_pos c15] at H
        have c15b0:(b5.toList == ([]:List UInt8))=true:=beq_iff_eq.mpr c15
        have c15b1:(b5.toList != ([]:List UInt8))=false:=bne_eq_false_iff_eq.mpr c15
        clear c15
        (first|rw [c15b0]|(simp only [i64_w,i32_w];rw [c15b0])|skip)
        have H':=Aside0.mk H
        clear H
        go_wp2
        go_meet
        case rel=>exact ⟨_,(false),zf,H',⟨by have:=HJ1.out;first|omega|exact Nat.le_refl _⟩,⟨zd⟩,⟨zb⟩⟩
       ·rw [if_neg c15] at H
        have c15b0:(b5.toList == ([]:List UInt8))=false:=beq_eq_false_iff_ne.mpr c15
        have c15b1:(b5.toList != ([]:List UInt8))=true:=bne_iff_ne.mpr c15
        (first|rw [c15b0]|(simp only [i64_w,i32_w];rw [c15b0])|skip)
        by_cases c16:0<(b5.size:Int)
        ·rw [if_pos c16] at H
         have c16b0:decide (0<(b5.size:Int))=true:=decide_eq_true c16
         have c16b1:decide (0<b5.size)=true:=decide_eq_true zbd
         clear c16
         have H':=Aside0.mk H
         clear H
         have p17:0≤(0:Int):=zbd
         have q17:0<b5.size:=(by have:(0:Int)<(b5.size:Int):=of_decide_eq_true ze;omega)
         have hx17:∀h:0<b5.size,((b5[0]'h).toNat:Int)=bt b5 0:=bt_at b5 0
         clear p17
         have qi17:(0<(b5.size:Int))=True:=eq_true (of_decide_eq_true ze)
         replace q17:=eq_true q17
         go_wp2
         go_meet
         case rel=>exact ⟨_,(((bt b5 0) == 44)),zf,H',⟨by have:=HJ1.out;first|omega|exact Nat.le_refl _⟩,⟨zd⟩,⟨zb⟩⟩
        ·rw [if_neg c16] at H
         exact absurd H zbr
      case rest=>
       clear HC14
       try clear c1
       try clear p1
       try clear q1
       try clear hx1
       try clear qi1
       try clear p2
       try clear c4
       try clear c4b0
       try clear c4b1
       try clear c5
       try clear c5b0
       try clear c5b1
       try clear p6
       try clear q6
       try clear hx6
       try clear qi6
       try clear c8
       try clear c10
       try clear c10b0
       try clear c10b1
       try clear p11
       try clear q11
       try clear hx11
       try clear qi11
       try clear c13
       try clear c13b0
       try clear c13b1
       try clear c15
       try clear c15b0
       try clear c15b1
       try clear c16
       try clear c16b0
       try clear c16b1
       try clear p17
       try clear q17
       try clear hx17
       try clear qi17
       try clear hcz9_0
       try clear hcz9_1
       try clear hfz9_0
       try clear hfz9_1
       try clear p11
       try clear p17
       try clear p2
       try clear p6
       try clear q11
       try clear q17
       try clear q6
       obtain ⟨kq,x28_13,rfl,HA,HJ13,BK101,HB⟩:=hcut
       cases kq with
       | zero=>exact absurd HA.out (by simp [spec_l09ReadOne.j1])
       | succ kj13=>
        have H:=HA.out
        clear HA
        simp only [spec_l09ReadOne.j1] at H
        have HC18:=Aside0.mk H
        clear H
        go_upto_if 28 with (fail)
        go_cut [4,5] (fun v4 v5 wc=>∃(kq:Nat) (x4_17:Int) (x5_17:ByteArray),v4 = .int .i64 x4_17∧v5 = .string x5_17∧Aside0 (spec_l09ReadOne.j2 kq x4_17 x5_17=some (r1,r2,r3))∧Aside0 (kq≤kj13)∧Aside0 (wc.heap[gb101]?=some (.cells #[.int .i64 0,.int .i64 0] 67 (0,0)))∧Aside0 (Below w.heap.size w wc))
        case first=>
         have H:=HC18.out
         clear HC18
         by_cases c19:x28_13=true
         ·subst c19
          have H1:(if 1≤(b5.size:Int) then (spec_l09ReadOne.j2 kj13 (wrap64 (t103 - 12)) (b5.extract 1 b5.size)) else (none))=some (r1,r2,r3):=by rw [if_pos rfl] at H;exact H
          clear H
          have H:=H1
          clear H1
          by_cases c20:1≤(b5.size:Int)
          ·rw [if_pos c20] at H
           have c20b0:=eq_true c20
           have c20b1:decide (1≤(b5.size:Int))=true:=decide_eq_true c20
           clear c20
           have H':=Aside0.mk H
           clear H
           go_wp2
           go_meet
           case rel=>exact ⟨_,(wrap64 (t103 - 12)),(b5.extract 1 b5.size),zf,zf,H',⟨by have:=HJ1.out;have:=HJ13.out;first|omega|exact Nat.le_refl _⟩,⟨zd⟩,⟨zb⟩⟩
          ·rw [if_neg c20] at H
           exact absurd H zbr
         ·replace c19:=Bool.eq_false_iff.mpr c19
          subst c19
          have H1:(if b5.toList=([]:List UInt8) then (spec_l09ReadOne.j2 kj13 t103 b5) else (if 0<(b5.size:Int) then (if (bt b5 0)=39 then (if 1≤(b5.size:Int) then (spec_l09ReadOne.j2 kj13 (wrap64 (t103+12)) (b5.extract 1 b5.size)) else (none)) else (spec_l09ReadOne.j2 kj13 t103 b5)) else (none)))=some (r1,r2,r3):=by rw [if_neg (show ¬ (false=true) by decide)] at H;exact H
          clear H
          have H:=H1
          clear H1
          by_cases c21:b5.toList=([]:List UInt8)
          ·rw [if_pos c21] at H
           have c21b0:(b5.toList == ([]:List UInt8))=true:=beq_iff_eq.mpr c21
           have c21b1:(b5.toList != ([]:List UInt8))=false:=bne_eq_false_iff_eq.mpr c21
           clear c21
           (first|rw [c21b0]|(simp only [i64_w,i32_w];rw [c21b0])|skip)
           have H':=Aside0.mk H
           clear H
           go_wp2
           go_meet
           case rel=>exact ⟨_,(t103),(b5),zf,zf,H',⟨by have:=HJ1.out;have:=HJ13.out;first|omega|exact Nat.le_refl _⟩,⟨zd⟩,⟨zb⟩⟩
          ·rw [if_neg c21] at H
           have c21b0:(b5.toList == ([]:List UInt8))=false:=beq_eq_false_iff_ne.mpr c21
           have c21b1:(b5.toList != ([]:List UInt8))=true:=bne_iff_ne.mpr c21
           (first|rw [c21b0]|(simp only [i64_w,i32_w];rw [c21b0])|skip)
           by_cases c22:0<(b5.size:Int)
           ·rw [if_pos c22] at H
            have c22b0:decide (0<(b5.size:Int))=true:=decide_eq_true c22
            have c22b1:decide (0<b5.size)=true:=decide_eq_true zbd
            clear c22
            by_cases c24:(bt b5 0)=39
            ·rw [if_pos c24] at H
             have c24b0:((bt b5 0) == 39)=true:=beq_iff_eq.mpr c24
             have c24b1:((bt b5 0) != 39)=false:=bne_eq_false_iff_eq.mpr c24
             clear c24
             by_cases c25:1≤(b5.size:Int)
             ·rw [if_pos c25] at H
              have c25b0:=eq_true c25
              have c25b1:decide (1≤(b5.size:Int))=true:=decide_eq_true c25
              clear c25
              have H':=Aside0.mk H
              clear H
              have p23:0≤(0:Int):=zbd
              have q23:0<b5.size:=(by have:(0:Int)<(b5.size:Int):=of_decide_eq_true ze;omega)
              have hx23:∀h:0<b5.size,((b5[0]'h).toNat:Int)=bt b5 0:=bt_at b5 0
              clear p23
              have qi23:(0<(b5.size:Int))=True:=eq_true (of_decide_eq_true ze)
              replace q23:=eq_true q23
              go_wp2
              go_meet
              case rel=>exact ⟨_,(wrap64 (t103+12)),(b5.extract 1 b5.size),zf,zf,H',⟨by have:=HJ1.out;have:=HJ13.out;first|omega|exact Nat.le_refl _⟩,⟨zd⟩,⟨zb⟩⟩
             ·rw [if_neg c25] at H
              exact absurd H zbr
            ·rw [if_neg c24] at H
             have c24b0:((bt b5 0) == 39)=false:=beq_eq_false_iff_ne.mpr c24
             have c24b1:((bt b5 0) != 39)=true:=bne_iff_ne.mpr c24
             have H':=Aside0.mk H
             clear H
             have p23:0≤(0:Int):=zbd
             have q23:0<b5.size:=(by have:(0:Int)<(b5.size:Int):=of_decide_eq_true ze;omega)
             have hx23:∀h:0<b5.size,((b5[0]'h).toNat:Int)=bt b5 0:=bt_at b5 0
             clear p23
             have qi23:(0<(b5.size:Int))=True:=eq_true (of_decide_eq_true ze)
             replace q23:=eq_true q23
             go_wp2
             go_meet
             case rel=>exact ⟨_,(t103),(b5),zf,zf,H',⟨by have:=HJ1.out;have:=HJ13.out;first|omega|exact Nat.le_refl _⟩,⟨zd⟩,⟨zb⟩⟩
           ·rw [if_neg c22] at H
            exact absurd H zbr
        case rest=>
         clear HC18
         try clear c1
         try clear p1
         try clear q1
         try clear hx1
         try clear qi1
         try clear c2
         try clear p2
         try clear q2
         try clear hx2
         try clear qi2
         try clear c4
         try clear c4b0
         try clear c4b1
         try clear c5
         try clear c5b0
         try clear c5b1
         try clear p6
         try clear q6
         try clear hx6
         try clear qi6
         try clear c8
         try clear c10
         try clear c10b0
         try clear c10b1
         try clear p11
         try clear q11
         try clear hx11
         try clear qi11
         try clear c13
         try clear c13b0
         try clear c13b1
         try clear c15
         try clear c15b0
         try clear c15b1
         try clear c16
         try clear c16b0
         try clear c16b1
         try clear p17
         try clear q17
         try clear hx17
         try clear qi17
         try clear c19
         try clear c20
         try clear c20b0
         try clear c20b1
         try clear c21
         try clear c21b0
         try clear c21b1
         try clear c22
         try clear c22b0
         try clear c22b1
         try clear p23
         try clear q23
         try clear hx23
         try clear qi23
         try clear c24
         try clear c24b0
         try clear c24b1
         try clear c25
         try clear c25b0
         try clear c25b1
         try clear hcz9_0
         try clear hcz9_1
         try clear hfz9_0
         try clear hfz9_1
         try clear p1
         try clear p11
         try clear p17
         try clear p2
         try clear p23
         try clear p6
         try clear q1
         try clear q11
         try clear q17
         try clear q23
         try clear q6
         obtain ⟨kq,x4_17,x5_17,rfl,rfl,HA,HJ17,BK101,HB⟩:=hcut
         cases kq with
         | zero=>exact absurd HA.out (by simp [spec_l09ReadOne.j2])
         | succ kj17=>
          have H:=HA.out
          clear HA
          simp only [spec_l09ReadOne.j2] at H
          by_cases c26:x5_17.toList=([]:List UInt8)
          ·rw [if_pos c26] at H
           have c26b0:(x5_17.toList == ([]:List UInt8))=true:=beq_iff_eq.mpr c26
           have c26b1:(x5_17.toList != ([]:List UInt8))=false:=bne_eq_false_iff_eq.mpr c26
           clear c26
           simp only [Option.some.injEq,Prod.mk.injEq] at H
           obtain ⟨rfl,rfl,rfl⟩:=H
           have hcz27_0:wc.cell? ⟨gb101,0,none⟩=some (.int .i64 0):=(blk_cell BK101.out 0).trans rfl
           have hcz27_1:wc.cell? ⟨gb101,1,none⟩=some (.int .i64 0):=(blk_cell BK101.out 1).trans rfl
           have hfz27_0:=blk_frozen BK101.out 0
           have hfz27_1:=blk_frozen BK101.out 1
           go_wp2
           refine bodyPost_ret (results_ct rfl _ _ gb101 67 #[.int .i64 x4_17,.int .i64 1] (0,0) _ rfl (by (with_reducible repeat (first|refine blk_drewN ?_ _|refine blk_drew ?_|refine blk_alloc ?_ _));refine blk_put (cs:=#[.int .i64 x4_17,.int .i64 0]) ?_ 1 _ rfl;(with_reducible repeat (first|refine blk_drewN ?_ _|refine blk_drew ?_|refine blk_alloc ?_ _));refine blk_put (cs:=#[.int .i64 0,.int .i64 0]) ?_ 0 _ rfl;(with_reducible repeat (first|refine blk_drewN ?_ _|refine blk_drew ?_|refine blk_alloc ?_ _));exact BK101.out) Tryz.underlying67 rfl zu) rfl ?_
           exact ⟨zg,zb⟩
          ·rw [if_neg c26] at H
           have c26b0:(x5_17.toList == ([]:List UInt8))=false:=beq_eq_false_iff_ne.mpr c26
           have c26b1:(x5_17.toList != ([]:List UInt8))=true:=bne_iff_ne.mpr c26
           replace H:=Option.bind_eq_some_iff.mp H
           obtain ⟨⟨t104,t105⟩,A280,H⟩:=H
           replace H:(if t105=true then (if t104=1 then (some (0,0,false)) else ((spec_l09Length.f t104).bind fun t106=>(if t106=true then (some (x4_17,t104,true)) else (some (0,0,false))))) else (some (0,0,false)))=some (r1,r2,r3):=H
           have A28:=Aside0.mk A280
           clear A280
           by_cases c29:t105=true
           ·subst c29
            have H1:(if t104=1 then (some (0,0,false)) else ((spec_l09Length.f t104).bind fun t106=>(if t106=true then (some (x4_17,t104,true)) else (some (0,0,false)))))=some (r1,r2,r3):=by rw [if_pos rfl] at H;exact H
            clear H
            have H:=H1
            clear H1
            by_cases c30:t104=1
            ·rw [if_pos c30] at H
             have c30b0:(t104 == 1)=true:=beq_iff_eq.mpr c30
             have c30b1:(t104 != 1)=false:=bne_eq_false_iff_eq.mpr c30
             clear c30
             simp only [Option.some.injEq,Prod.mk.injEq] at H
             obtain ⟨rfl,rfl,rfl⟩:=H
             go_wp2_with (first|((with_reducible refine gate_callee (f:=80) rfl ?_);refine goesL_ (some 50) rfl rfl Tryz.func80 zu rfl #[.string x5_17] rfl zc ?_;(with_reducible refine (spec_l01Number.calls kj17 x5_17 t104 true _ A28.out).mono ?_);rintro e w' ⟨rfl,⟨nd,rfl⟩⟩;refine ⟨_,rfl,?_⟩;(try (rw [drewN_self wc];generalize hq_:World.drewN wc _=wc;have n0_:Aside0 (wc.heap[gb101]?=some (.cells #[.int .i64 0,.int .i64 0] 67 (0,0))):=⟨zbz⟩;have n1_:Aside0 (Below w.heap.size w wc):=⟨zbl⟩;clear BK101 HB hq_;have BK101:=n0_;have HB:=n1_;clear n0_ n1_));have hcz31_0:wc.cell? ⟨gb101,0,none⟩=some (.int .i64 0):=(blk_cell BK101.out 0).trans rfl;have hcz31_1:wc.cell? ⟨gb101,1,none⟩=some (.int .i64 0):=(blk_cell BK101.out 1).trans rfl;have hfz31_0:=blk_frozen BK101.out 0;have hfz31_1:=blk_frozen BK101.out 1))
             refine bodyPost_ret (results_ct rfl _ _ gb101 67 #[.int .i64 0,.int .i64 0] (0,0) _ rfl zal Tryz.underlying67 rfl zu) rfl ?_
             exact ⟨zg,zb⟩
            ·rw [if_neg c30] at H
             have c30b0:(t104 == 1)=false:=beq_eq_false_iff_ne.mpr c30
             have c30b1:(t104 != 1)=true:=bne_iff_ne.mpr c30
             replace H:=Option.bind_eq_some_iff.mp H
             obtain ⟨t106,A320,H⟩:=H
             replace H:(if t106=true then (some (x4_17,t104,true)) else (some (0,0,false)))=some (r1,r2,r3):=H
             have A32:=Aside0.mk A320
             clear A320
             by_cases c33:t106=true
             ·subst c33
              have H1:(some (x4_17,t104,true))=some (r1,r2,r3):=by rw [if_pos rfl] at H;exact H
              clear H
              have H:=H1
              clear H1
              simp only [Option.some.injEq,Prod.mk.injEq] at H
              obtain ⟨rfl,rfl,rfl⟩:=H
              go_wp2_with (first|((with_reducible refine gate_callee (f:=80) rfl ?_);refine goesL_ (some 50) rfl rfl Tryz.func80 zu rfl #[.string x5_17] rfl zc ?_;(with_reducible refine (spec_l01Number.calls kj17 x5_17 t104 true _ A28.out).mono ?_);rintro e w' ⟨rfl,⟨nd,rfl⟩⟩;refine ⟨_,rfl,?_⟩;(try (rw [drewN_self wc];generalize hq_:World.drewN wc _=wc;have n0_:Aside0 (wc.heap[gb101]?=some (.cells #[.int .i64 0,.int .i64 0] 67 (0,0))):=⟨zbz⟩;have n1_:Aside0 (Below w.heap.size w wc):=⟨zbl⟩;clear BK101 HB hq_;have BK101:=n0_;have HB:=n1_;clear n0_ n1_)))|(go_at_call 111;(with_reducible refine (spec_l09Length.calls t104 true _ A32.out).mono ?_);rintro e w' ⟨rfl,⟨nd,rfl⟩⟩;(try (rw [drewN_self wc];generalize hq_:World.drewN wc _=wc;have n0_:Aside0 (wc.heap[gb101]?=some (.cells #[.int .i64 0,.int .i64 0] 67 (0,0))):=⟨zbz⟩;have n1_:Aside0 (Below w.heap.size w wc):=⟨zbl⟩;clear BK101 HB hq_;have BK101:=n0_;have HB:=n1_;clear n0_ n1_));have hcz34_0:wc.cell? ⟨gb101,0,none⟩=some (.int .i64 0):=(blk_cell BK101.out 0).trans rfl;have hcz34_1:wc.cell? ⟨gb101,1,none⟩=some (.int .i64 0):=(blk_cell BK101.out 1).trans rfl;have hfz34_0:=blk_frozen BK101.out 0;have hfz34_1:=blk_frozen BK101.out 1))
              refine bodyPost_ret (results_ct rfl _ _ gb101 67 #[.int .i64 x4_17,.int .i64 t104] (0,0) _ rfl (by (with_reducible repeat (first|refine blk_drewN ?_ _|refine blk_drew ?_|refine blk_alloc ?_ _));refine blk_put (cs:=#[.int .i64 x4_17,.int .i64 0]) ?_ 1 _ rfl;(with_reducible repeat (first|refine blk_drewN ?_ _|refine blk_drew ?_|refine blk_alloc ?_ _));refine blk_put (cs:=#[.int .i64 0,.int .i64 0]) ?_ 0 _ rfl;(with_reducible repeat (first|refine blk_drewN ?_ _|refine blk_drew ?_|refine blk_alloc ?_ _));exact BK101.out) Tryz.underlying67 rfl zu) rfl ?_
              exact ⟨zg,zb⟩
             ·replace c33:=Bool.eq_false_iff.mpr c33
              subst c33
              have H1:(some (0,0,false))=some (r1,r2,r3):=by rw [if_neg (show ¬ (false=true) by decide)] at H;exact H
              clear H
              have H:=H1
              clear H1
              simp only [Option.some.injEq,Prod.mk.injEq] at H
              obtain ⟨rfl,rfl,rfl⟩:=H
              go_wp2_with (first|((with_reducible refine gate_callee (f:=80) rfl ?_);refine goesL_ (some 50) rfl rfl Tryz.func80 zu rfl #[.string x5_17] rfl zc ?_;(with_reducible refine (spec_l01Number.calls kj17 x5_17 t104 true _ A28.out).mono ?_);rintro e w' ⟨rfl,⟨nd,rfl⟩⟩;refine ⟨_,rfl,?_⟩;(try (rw [drewN_self wc];generalize hq_:World.drewN wc _=wc;have n0_:Aside0 (wc.heap[gb101]?=some (.cells #[.int .i64 0,.int .i64 0] 67 (0,0))):=⟨zbz⟩;have n1_:Aside0 (Below w.heap.size w wc):=⟨zbl⟩;clear BK101 HB hq_;have BK101:=n0_;have HB:=n1_;clear n0_ n1_)))|(go_at_call 111;(with_reducible refine (spec_l09Length.calls t104 false _ A32.out).mono ?_);rintro e w' ⟨rfl,⟨nd,rfl⟩⟩;(try (rw [drewN_self wc];generalize hq_:World.drewN wc _=wc;have n0_:Aside0 (wc.heap[gb101]?=some (.cells #[.int .i64 0,.int .i64 0] 67 (0,0))):=⟨zbz⟩;have n1_:Aside0 (Below w.heap.size w wc):=⟨zbl⟩;clear BK101 HB hq_;have BK101:=n0_;have HB:=n1_;clear n0_ n1_));have hcz35_0:wc.cell? ⟨gb101,0,none⟩=some (.int .i64 0):=(blk_cell BK101.out 0).trans rfl;have hcz35_1:wc.cell? ⟨gb101,1,none⟩=some (.int .i64 0):=(blk_cell BK101.out 1).trans rfl;have hfz35_0:=blk_frozen BK101.out 0;have hfz35_1:=blk_frozen BK101.out 1))
              refine bodyPost_ret (results_ct rfl _ _ gb101 67 #[.int .i64 0,.int .i64 0] (0,0) _ rfl zal Tryz.underlying67 rfl zu) rfl ?_
              exact ⟨zg,zb⟩
           ·replace c29:=Bool.eq_false_iff.mpr c29
            subst c29
            have H1:(some (0,0,false))=some (r1,r2,r3):=by rw [if_neg (show ¬ (false=true) by decide)] at H;exact H
            clear H
            have H:=H1
            clear H1
            simp only [Option.some.injEq,Prod.mk.injEq] at H
            obtain ⟨rfl,rfl,rfl⟩:=H
            go_wp2_with (first|((with_reducible refine gate_callee (f:=80) rfl ?_);refine goesL_ (some 50) rfl rfl Tryz.func80 zu rfl #[.string x5_17] rfl zc ?_;(with_reducible refine (spec_l01Number.calls kj17 x5_17 t104 false _ A28.out).mono ?_);rintro e w' ⟨rfl,⟨nd,rfl⟩⟩;refine ⟨_,rfl,?_⟩;(try (rw [drewN_self wc];generalize hq_:World.drewN wc _=wc;have n0_:Aside0 (wc.heap[gb101]?=some (.cells #[.int .i64 0,.int .i64 0] 67 (0,0))):=⟨zbz⟩;have n1_:Aside0 (Below w.heap.size w wc):=⟨zbl⟩;clear BK101 HB hq_;have BK101:=n0_;have HB:=n1_;clear n0_ n1_));have hcz36_0:wc.cell? ⟨gb101,0,none⟩=some (.int .i64 0):=(blk_cell BK101.out 0).trans rfl;have hcz36_1:wc.cell? ⟨gb101,1,none⟩=some (.int .i64 0):=(blk_cell BK101.out 1).trans rfl;have hfz36_0:=blk_frozen BK101.out 0;have hfz36_1:=blk_frozen BK101.out 1))
            refine bodyPost_ret (results_ct rfl _ _ gb101 67 #[.int .i64 0,.int .i64 0] (0,0) _ rfl zal Tryz.underlying67 rfl zu) rfl ?_
            exact ⟨zg,zb⟩
     ·rw [if_neg c13] at H
      exact absurd H zbr
    ·rw [if_neg c10] at H
     exact absurd H zbr
end Go.Proofs.YtmoamoopoifnlaaGreatDoor.P
