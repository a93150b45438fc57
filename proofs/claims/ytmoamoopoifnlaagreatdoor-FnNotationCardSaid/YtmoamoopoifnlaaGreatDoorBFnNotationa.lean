/- Part a of what FnNotation stands on: functions of the program as Lean functions with their walks, and plain lemmas. -/
import Derived.Handed
import Derived.HandedShaped
import Derived.LaidMore
import Derived.Lay
import Derived.Stop.Joined
import Derived.Stop.LaidErr
import Derived.Shelf.Vars
import Derived.Lib.LaidTab
import Derived.Lib.ItoaNum
import Derived.Test.YtmoamoopoifnlaaGreatDoorK
import Derived.Shelf.Lays
import Derived.Shelf.LaysC
import Derived.Shelf.LaysM
import Derived.Test.YtmoamoopoifnlaaGreatDoorProg
import Derived.Shelf.Strings.Split
import Derived.Shelf.Small.Wraps
import Derived.Shelf.Strconv.Itoa4
import Derived.Lib.AppendIntMem
import Derived.Shelf.Strconv.ErrVarParseInt
import Derived.Shelf.Strings.Prefix
import Derived.Shelf.Strings.SlTrimAscii
import Derived.Deep.RegionHeld3
import Derived.Shelf.Strings.OnBuilder
import Derived.Lib.Hide
namespace Go.Proofs.YtmoamoopoifnlaaGreatDoorD
open Go
set_option linter.unusedVariables false
set_option linter.unusedSimpArgs false
variable {H : Type} {enc : TypeId × Value → H}
theorem handed {a : Assume} {C : Checked} {os : Os} {f : FuncId} {fn : Func} {s : ChangeSpec} {conds : List PathCond} {apart fresh handsOn again : Bool} {X : World → Array Value → Prop}
    (hX : ∀ (w w' : World) (args : Array Value), w.heap = w'.heap → X w args → X w' args)
    (own : ownKnob C.prog.godebug = none) (started : os.Started) (noInit : C.prog.inits.idxOf? f = none) (hfn : C.prog.funcs[f]? = some fn)
    (witness : ∃ (w : World) (tape : Tape) (i : Input), w.os = os ∧ (w.forCall tape i).Shaped C.prog ∧ i.vars = [] ∧ Input.okWide C.prog (w.forCall tape i) .any w.heap.size f i ∧
      ((s.pre enc C.prog fn conds apart (w.forCall tape i).memory i.args ∧ X (w.forCall tape i).memory i.args) ∧ sizedMet enc C.prog fn (OpenSpec.ofChange s) apart (w.forCall tape i).memory i.args) ∧ a.holds C.prog (lone (Frame.enter C.prog f i.args .normal) [] (w.forCall tape i)))
    (contract : ∀ (W : World) (base : Nat) (args : Array Value) (ds gs : List (DataW H)) (before : List MemPlace),
      (∀ (j : Nat) t v, fn.params[j]? = some t → args[j]? = some v → Value.okWide C.prog W .any base t v) →
      DataW.Whole enc C.prog fn.params.toList s.vars apart W args.toList ds gs before →
      conds.all (PathCond.test C.prog ⟨fn.params.toList, ds, s.plain.varTypes C.prog, gs⟩) = true →
      (DataW.weightsEach C.prog (fn.params.toList ++ s.plain.varTypes C.prog) (ds ++ gs)).all (· ≤ reachBytes) = true → X W args → W.ShapedOpen C.prog →
      a.holds C.prog (lone (Frame.enter C.prog f args .normal) [] W) →
      Calls C.prog f args W fun e W' => ∃ v, e = .returned v ∧ s.post enc C.prog fn apart fresh handsOn again W args v W') :
    ReturnsInHanded a C os f .any (fun w args => (s.pre enc C.prog fn conds apart w args ∧ X w args) ∧ sizedMet enc C.prog fn (OpenSpec.ofChange s) apart w args) (s.post enc C.prog fn apart fresh handsOn again) := by
  refine returnsInHanded_of_calls own started noInit witness ?_
  intro w tape i _ hsh _ hok hpre hholds
  obtain ⟨_, _, _, fn', hfn', _, _, _, _, hval⟩ := hok
  have e : fn' = fn := Option.some.inj (hfn'.symm.trans hfn)
  subst e
  obtain ⟨⟨⟨ds, gs, before, hw, hc⟩, hx⟩, hz⟩ := hpre
  have hw' := DataW.Whole.of_heap (w' := w.forCall tape i) (by rfl) hw
  refine (contract (w.forCall tape i) w.heap.size i.args ds gs before hval hw' hc (hz.weights hw) (hX _ _ _ (by rfl) hx) hsh hholds).mono fun e W' ⟨v, he, hp⟩ => ?_
  subst he
  exact ChangeSpec.post_blind hp
theorem star : "*" ++ "errors.errorString" = "*errors.errorString" := by decide
end Go.Proofs.YtmoamoopoifnlaaGreatDoorD

/- Default proofs: tactic blocks that stand often in the walks, once each. -/
namespace Go.Proofs.YtmoamoopoifnlaaGreatDoor.P
open Go.RowKit Go.Proofs.YtmoamoopoifnlaaGreatDoorW.PrintWords Go.Proofs.YtmoamoopoifnlaaGreatDoorW.PrintLast Go.Proofs.YtmoamoopoifnlaaGreatDoorW.PrintMore
set_option linter.unusedVariables false
section
variable {P:Program} {ops:Array Oper} {Q:Exit→Act→World→Prop} {md:Region.Mode} {S:World→Prop} {ds:List Nat}
theorem pA (i N:Nat) {oi:Oper} {v:Value} {fuel:Nat} {l l':Array Bool} {a a':Act} {w:World} (h:wpAnyLast P md ops Q S ds fuel l' a' w) (hl:l.setIfInBounds i true=l':=by simp only [List.setIfInBounds_toArray,List.set_cons_zero,List.set_cons_succ];rfl) (hi:ops[i]?=some oi:=by exact rfl) (hN:oi.dst=some N:=by exact rfl) (hc:anyB md ops l l' i=true:=by first|exact any_of HT_.out (by kernel_rfl)|kernel_rfl) (hQ:∀c a w,Q (.panic c) (a.put oi.dst v) w→Q (.panic c) a w:=by exact fun _ _ _ h=>h) (hw:Region.wanted oi (yielded ops a.tmps)=true:=by rfl) (hy:∀w',(execOp a.eval oi).run P w' = .ok (.value v) w':=by intro w';go_simp;with_reducible rfl) (ha:a.put (some N) v=a':=by simp only [Act.put,List.setIfInBounds_toArray,List.set_cons_zero,List.set_cons_succ,i64_w,i32_w];rfl):wpAnyLast P md ops Q S ds (fuel+1) l a w:=pure_ l' hi hN hc hQ (Or.inl ⟨hw,hy⟩) ha h
theorem pU (i N:Nat) {oi:Oper} {fuel:Nat} {l l':Array Bool} {a a':Act} {w:World} (h:wpAnyLast P md ops Q S ds fuel l' a' w) (hl:l.setIfInBounds i true=l':=by simp only [List.setIfInBounds_toArray,List.set_cons_zero,List.set_cons_succ];rfl) (hi:ops[i]?=some oi:=by exact rfl) (hN:oi.dst=some N:=by exact rfl) (hc:anyB md ops l l' i=true:=by first|exact any_of HT_.out (by kernel_rfl)|kernel_rfl) (hQ:∀c a w,Q (.panic c) (a.put oi.dst undef) w→Q (.panic c) a w:=by exact fun _ _ _ h=>h) (hw:Region.wanted oi (yielded ops a.tmps)=false:=by rfl) (ha:a.put (some N) undef=a':=by simp only [Act.put,List.setIfInBounds_toArray,List.set_cons_zero,List.set_cons_succ,i64_w,i32_w];rfl):wpAnyLast P md ops Q S ds (fuel+1) l a w:=pure_ (v:=undef) l' hi hN hc hQ (Or.inr ⟨hw,rfl⟩) ha h
theorem pT (i N:Nat) {oi:Oper} {v:Value} {fuel:Nat} {l l':Array Bool} {a a':Act} {w:World} (hi:ops[i]?=some oi) (hy:∀w',S w'→(execOp a.eval oi).run P w' = .ok (.value v) w') (h:wpAnyLast P md ops Q S ds fuel l' a' w) (hS:S w:=by exact hHeld) (hl:l.setIfInBounds i true=l':=by simp only [List.setIfInBounds_toArray,List.set_cons_zero,List.set_cons_succ];rfl) (hN:oi.dst=some N:=by exact rfl) (hc:takeB md ops ds l l' i=true:=by first|exact take_ofW HT_.out HW_.out (by kernel_rfl)|kernel_rfl) (hQ:∀c a w,Q (.panic c) (a.put oi.dst v) w→Q (.panic c) a w:=by exact fun _ _ _ h=>h) (hw:Region.wanted oi (yielded ops a.tmps)=true:=by rfl) (ha:a.put (some N) v=a':=by simp only [Act.put,List.setIfInBounds_toArray,List.set_cons_zero,List.set_cons_succ,i64_w,i32_w];rfl):wpAnyLast P md ops Q S ds (fuel+1) l a w:=take_ l' hi hN hc hQ (Or.inl ⟨hw,hy⟩) hS ha h
theorem pN (N:Nat) {fuel:Nat} {l:Array Bool} {a a':Act} {v:Value} {w:World} (h:wpAnyLast P md ops Q S ds fuel l a' w) (ha:a.put (some N) v=a':=by simp only [Act.put,List.setIfInBounds_toArray,List.set_cons_zero,List.set_cons_succ,i64_w,i32_w];rfl):wpAnyLast P md ops Q S ds fuel l (a.put (some N) v) w:=norm_ ha h
end
theorem za {P:Prop} (h:P:=by repeat (first|(with_reducible first|exact HB.out|apply below_alloc|apply pw_below_drewN|apply below_drew1)|exact HB.out)):P:=h
theorem zb {P:Prop} (h:P:=by repeat (first|(with_reducible first|exact HB.out|apply below_alloc|apply pw_below_drewN|apply below_drew1|refine below_set ?_ GE101.out)|exact HB.out)):P:=h
theorem zc {P:Prop} (h:P:=by (with_reducible repeat (first|refine blk_drewN ?_ _|refine blk_drew ?_|refine blk_alloc ?_ _));exact BK101.out):P:=h
theorem zd {P:Prop} (h:P:=by (try simp only [List.map_toArray,List.map_cons,List.map_nil]);first|done|rfl|(simp only [List.length_drop,List.length_take];rfl)):P:=h
theorem ze {P:Prop} (h:P:=by first|(with_reducible assumption)|assumption):P:=h
theorem zf {P:Prop} (h:P:=by repeat (first|(with_reducible first|exact HB.out|apply below_alloc|apply pw_below_drewN|apply below_drew1|refine below_set ?_ GE101.out|refine below_set ?_ GE107.out)|exact HB.out)):P:=h
theorem zg {P:Prop} (h:P:=by first|rfl|(simp;done)|(simp [*];done)):P:=h
theorem zh {P:Prop} (h:P:=by repeat (first|(with_reducible first|exact HB.out|apply below_alloc|apply pw_below_drewN|apply below_drew1|refine below_set ?_ GE112.out)|exact HB.out)):P:=h
theorem zi {P:Prop} (h:P:=by first|rfl|(simp [errW_none,errW_some]<;>rfl)|(simp [*,errW_none,errW_some]<;>rfl)):P:=h
theorem zj {P:Prop} (h:P:=by repeat (first|exact Drawn0.refl _|apply Drawn0.step)):P:=h
theorem zk {P:Prop} (h:P:=by repeat (first|(with_reducible first|exact HB.out|apply below_alloc|apply pw_below_drewN|apply below_drew1|refine below_set ?_ (IsS119.ge HI0.out))|exact HB.out)):P:=h
theorem zl {P:Prop} (h:P:=by repeat (first|(with_reducible first|exact HK.out|apply KeepBut.set_|apply keep_drewN|apply keep_drew|apply keep_alloc)|exact HK.out)):P:=h
theorem zm {P:Prop} (h:P:=by first|exact Kd.R_nil _ _ _ _ _|exact Kd.N_nil _ _ _ _ _|exact Kd.V_nil _ _ _ _ _|exact Kd.Q_nil _ _ _ _ _|exact Kd.S_nil _ _ _ _ _):P:=h
theorem zn {P:Prop} (h:P:=by repeat (first|(with_reducible first|exact HK.out|apply KeepBut.set_|apply keep_drewN|apply keep_drew|apply keep_alloc|refine keep_far ?_ GW101.out _|refine keep_far ?_ GW116.out _)|exact HK.out)):P:=h
theorem zo {P:Prop} (h:P:=by repeat (first|(with_reducible first|exact HB.out|apply below_alloc|apply pw_below_drewN|apply below_drew1|refine below_set ?_ GE101.out|refine below_set ?_ GE106.out)|exact HB.out)):P:=h
theorem zp {P:Prop} (h:P:=by repeat (first|(with_reducible first|exact HI0.out|apply IsS119.alloc|apply IsS119.drewN|apply IsS119.drew|apply IsS119.set_1|apply IsS119.set_2)|exact HI0.out)):P:=h
theorem zq {P:Prop} (h:P:=by repeat (first|(with_reducible first|exact HI0.out|apply IsS119.alloc|apply IsS119.drewN|apply IsS119.drew|apply IsS119.set_1|apply IsS119.set_2|refine IsS119.far ?_ NB0_101.out _|refine IsS119.far ?_ NB0_116.out _)|exact HI0.out)):P:=h
theorem zr {P:Prop} (h:P:=by (with_reducible repeat (first|apply Kd.R_alloc|apply Kd.R_drewN|apply Kd.R_drew));exact HO104.out):P:=h
theorem zs {P:Prop} (h:P:=by repeat (first|exact (Kd.C_below HR1_1.out HB.out)|(with_reducible refine Kd.C_alloc ?_ _)|(with_reducible refine Kd.C_drewN ?_ _)|(with_reducible refine Kd.C_drew ?_))):P:=h
theorem zt {P:Prop} (h:P:=by repeat (first|exact (Kd.C_below HR1_2.out HB.out)|(with_reducible refine Kd.C_alloc ?_ _)|(with_reducible refine Kd.C_drewN ?_ _)|(with_reducible refine Kd.C_drew ?_))):P:=h
theorem zu {P:Prop} (h:P:=by repeat (first|(with_reducible first|exact HB.out|apply below_alloc|apply pw_below_drewN|apply below_drew1|refine below_set ?_ (IsS119.ge HI0.out)|refine below_set ?_ GE101.out|refine below_set ?_ GE116.out)|exact HB.out)):P:=h
theorem zv {P:Prop} (h:P:=by (with_reducible repeat (first|apply Kd.R_alloc|apply Kd.R_drewN|apply Kd.R_drew));exact HO_4.out):P:=h
theorem zw {P:Prop} (h:P:=by repeat (first|exact HR0.out|(with_reducible refine Kd.C_alloc ?_ _)|(with_reducible refine Kd.C_drewN ?_ _)|(with_reducible refine Kd.C_drew ?_))):P:=h
theorem zx {P:Prop} (h:P:=by (with_reducible repeat (first|refine blk_drewN ?_ _|refine blk_drew ?_|refine blk_alloc ?_ _));refine blk_far ?_ NB101_107.out _;(with_reducible repeat (first|refine blk_drewN ?_ _|refine blk_drew ?_|refine blk_alloc ?_ _));refine blk_far ?_ NB101_107.out _;(with_reducible repeat (first|refine blk_drewN ?_ _|refine blk_drew ?_|refine blk_alloc ?_ _));refine blk_far ?_ NB101_107.out _;(with_reducible repeat (first|refine blk_drewN ?_ _|refine blk_drew ?_|refine blk_alloc ?_ _));refine blk_far ?_ NB101_107.out _;(with_reducible repeat (first|refine blk_drewN ?_ _|refine blk_drew ?_|refine blk_alloc ?_ _));exact BK101.out):P:=h
theorem zy {P:Prop} (h:P:=by first|(go_simp;done)|(go_simp;rfl)):P:=h
theorem zz {P:Prop} (h:P:=by (with_reducible repeat (first|refine blk_drewN ?_ _|refine blk_drew ?_|refine blk_alloc ?_ _));refine blk_far ?_ NB101_116.out _;(with_reducible repeat (first|refine blk_drewN ?_ _|refine blk_drew ?_|refine blk_alloc ?_ _));refine blk_far ?_ NB101_116.out _;(with_reducible repeat (first|refine blk_drewN ?_ _|refine blk_drew ?_|refine blk_alloc ?_ _));refine blk_far ?_ NB101_116.out _;(with_reducible repeat (first|refine blk_drewN ?_ _|refine blk_drew ?_|refine blk_alloc ?_ _));refine blk_far ?_ NB101_116.out _;(with_reducible repeat (first|refine blk_drewN ?_ _|refine blk_drew ?_|refine blk_alloc ?_ _));exact BK101.out):P:=h
theorem zaa {P:Prop} (h:P:=by (with_reducible repeat (first|apply Kd.R_alloc|apply Kd.R_drewN|apply Kd.R_drew));exact (Kd.R_mono (Kd.R_far (p:=⟨gb112,2,none⟩) (Kd.R_far (p:=⟨gb112,1,none⟩) (Kd.R_far (p:=⟨gb112,0,none⟩) (Kd.R_types HO104.out BK112.out (by decide)) (fun _ hk=>hk.2) (.string t105)) (fun _ hk=>hk.2) (.slice Ao19 t106.length co19)) (fun _ hk=>hk.2) (.slice Ao20 t109.length co20)) (fun _ h_=>h_.1))):P:=h
theorem zab {P:Prop} (h:P:=by (with_reducible repeat (first|apply Kd.R_alloc|apply Kd.R_drewN|apply Kd.R_drew));exact (Kd.R_mono (Kd.R_far (p:=⟨gb112,2,none⟩) (Kd.R_far (p:=⟨gb112,1,none⟩) (Kd.R_far (p:=⟨gb112,0,none⟩) (Kd.R_types HO108.out BK112.out (by decide)) (fun _ hk=>hk.2) (.string t105)) (fun _ hk=>hk.2) (.slice Ao19 t106.length co19)) (fun _ hk=>hk.2) (.slice Ao20 t109.length co20)) (fun _ h_=>h_.1))):P:=h
theorem zac {P:Prop} (h:P:=by (with_reducible repeat (first|apply Kd.R_alloc|apply Kd.R_drewN|apply Kd.R_drew));exact (Kd.R_mono (Kd.R_far (p:=⟨gb112,2,none⟩) (Kd.R_far (p:=⟨gb112,1,none⟩) (Kd.R_far (p:=⟨gb112,0,none⟩) (Kd.R_types HO111.out BK112.out (by decide)) (fun _ hk=>hk.2) (.string t105)) (fun _ hk=>hk.2) (.slice Ao19 t106.length co19)) (fun _ hk=>hk.2) (.slice Ao20 t109.length co20)) (fun _ h_=>h_.1))):P:=h
theorem zad {P:Prop} (h:P:=by (with_reducible repeat (first|apply Kd.R_alloc|apply Kd.R_drewN|apply Kd.R_drew));exact (Kd.R_mono (Kd.R_far (p:=⟨gb112,2,none⟩) (Kd.R_far (p:=⟨gb112,1,none⟩) (Kd.R_far (p:=⟨gb112,0,none⟩) (Kd.R_types HO104.out BK112.out (by decide)) (fun _ hk=>hk.2) (.string t105)) (fun _ hk=>hk.2) (.slice Ao61 t106.length co61)) (fun _ hk=>hk.2) (.slice Ao62 t109.length co62)) (fun _ h_=>h_.1))):P:=h
theorem zae {P:Prop} (h:P:=by (with_reducible repeat (first|apply Kd.R_alloc|apply Kd.R_drewN|apply Kd.R_drew));exact (Kd.R_mono (Kd.R_far (p:=⟨gb112,2,none⟩) (Kd.R_far (p:=⟨gb112,1,none⟩) (Kd.R_far (p:=⟨gb112,0,none⟩) (Kd.R_types HO108.out BK112.out (by decide)) (fun _ hk=>hk.2) (.string t105)) (fun _ hk=>hk.2) (.slice Ao61 t106.length co61)) (fun _ hk=>hk.2) (.slice Ao62 t109.length co62)) (fun _ h_=>h_.1))):P:=h
theorem zaf {P:Prop} (h:P:=by (with_reducible repeat (first|apply Kd.R_alloc|apply Kd.R_drewN|apply Kd.R_drew));exact (Kd.R_mono (Kd.R_far (p:=⟨gb112,2,none⟩) (Kd.R_far (p:=⟨gb112,1,none⟩) (Kd.R_far (p:=⟨gb112,0,none⟩) (Kd.R_types HO111.out BK112.out (by decide)) (fun _ hk=>hk.2) (.string t105)) (fun _ hk=>hk.2) (.slice Ao61 t106.length co61)) (fun _ hk=>hk.2) (.slice Ao62 t109.length co62)) (fun _ h_=>h_.1))):P:=h
theorem zag {P:Prop} (h:P:=by exact (below_size (by repeat (first|(with_reducible first|exact HB.out|apply below_alloc|apply pw_below_drewN|apply below_drew1|refine below_set ?_ GE101.out|refine below_set ?_ GE107.out)|exact HB.out)))):P:=h
theorem zah {P:Prop} (h:P:=by (with_reducible repeat (first|apply Kd.R_alloc|apply Kd.R_drewN|apply Kd.R_drew));exact HO108.out):P:=h
theorem zai {P:Prop} (h:P:=by exact Door2.at HD.out (by repeat (first|(with_reducible first|exact HB.out|apply below_alloc|apply pw_below_drewN|apply below_drew1|refine below_set ?_ GE101.out)|exact HB.out))):P:=h
theorem zaj {P:Prop} (h:P:=by exact box_C (ca:=#[.string (rdOf ByteArray.empty t102 0),(.slice AoM107001 x107001_1.length coM107001),(.slice AoM107002 x107002_1.length coM107002)]) (t:=50) (by (with_reducible repeat (first|refine blk_drewN ?_ _|refine blk_drew ?_|refine blk_alloc ?_ _));exact BK106.out) rfl _ (k50_mk _ _ (by exact (Kd.R_reads' HO_107001.out).2.1) (by repeat (first|exact (Kd.R_reads' HO_107001.out).2.2|(with_reducible refine Kd.C_alloc ?_ _)|(with_reducible refine Kd.C_drewN ?_ _)|(with_reducible refine Kd.C_drew ?_))) (by exact (Kd.R_reads' HO_107002.out).2.1) (by repeat (first|exact (Kd.R_reads' HO_107002.out).2.2|(with_reducible refine Kd.C_alloc ?_ _)|(with_reducible refine Kd.C_drewN ?_ _)|(with_reducible refine Kd.C_drew ?_))))):P:=h
theorem zak {P:Prop} (h:P:=by (with_reducible repeat (first|apply Kd.R_alloc|apply Kd.R_drewN|apply Kd.R_drew));exact HO_9.out):P:=h
theorem zal {P:Prop} (h:P:=by exact box_C (ca:=#[.string (rdOf ByteArray.empty t102 0),(.slice Ao47 x107001_1.length co47),(.slice Ao48 x107002_1.length co48)]) (t:=50) (by (with_reducible repeat (first|refine blk_drewN ?_ _|refine blk_drew ?_|refine blk_alloc ?_ _));exact BK106.out) rfl _ (k50_mk _ _ (by exact (Kd.R_reads' HO_107001.out).2.1) (by repeat (first|exact (Kd.R_reads' HO_107001.out).2.2|(with_reducible refine Kd.C_alloc ?_ _)|(with_reducible refine Kd.C_drewN ?_ _)|(with_reducible refine Kd.C_drew ?_))) (by exact (Kd.R_reads' HO_107002.out).2.1) (by repeat (first|exact (Kd.R_reads' HO_107002.out).2.2|(with_reducible refine Kd.C_alloc ?_ _)|(with_reducible refine Kd.C_drewN ?_ _)|(with_reducible refine Kd.C_drew ?_))))):P:=h
theorem zam {P:Prop} (h:P:=by (with_reducible repeat (first|apply Kd.R_alloc|apply Kd.R_drewN|apply Kd.R_drew));exact HO111.out):P:=h
theorem zan {P:Prop} (h:P:=by (with_reducible repeat (first|refine blk_drewN ?_ _|refine blk_drew ?_|refine blk_alloc ?_ _));refine blk_put (cs:=#[.string (⟨#[]⟩:ByteArray),.slice none 0 0,.slice none 0 0]) ?_ 2 _ rfl;(with_reducible repeat (first|refine blk_drewN ?_ _|refine blk_drew ?_|refine blk_alloc ?_ _));refine blk_put (cs:=#[.string (⟨#[]⟩:ByteArray),.slice none 0 0,.slice none 0 0]) ?_ 1 _ rfl;(with_reducible repeat (first|refine blk_drewN ?_ _|refine blk_drew ?_|refine blk_alloc ?_ _));refine blk_put (cs:=#[.string x102000_1,.slice none 0 0,.slice none 0 0]) ?_ 0 _ rfl;(with_reducible repeat (first|refine blk_drewN ?_ _|refine blk_drew ?_|refine blk_alloc ?_ _));exact BK101.out):P:=h
theorem zao {P:Prop} (h:P:=by (with_reducible repeat (first|refine blk_drewN ?_ _|refine blk_drew ?_|refine blk_alloc ?_ _));refine blk_put (cs:=#[.string t105,.slice Ao19 t106.length co19,.slice none 0 0]) ?_ 2 _ rfl;(with_reducible repeat (first|refine blk_drewN ?_ _|refine blk_drew ?_|refine blk_alloc ?_ _));refine blk_put (cs:=#[.string t105,.slice none 0 0,.slice none 0 0]) ?_ 1 _ rfl;(with_reducible repeat (first|refine blk_drewN ?_ _|refine blk_drew ?_|refine blk_alloc ?_ _));refine blk_put (cs:=#[.string (⟨#[]⟩:ByteArray),.slice none 0 0,.slice none 0 0]) ?_ 0 _ rfl;(with_reducible repeat (first|refine blk_drewN ?_ _|refine blk_drew ?_|refine blk_alloc ?_ _));exact BK112.out):P:=h
theorem zap {P:Prop} (h:P:=by (with_reducible repeat (first|refine blk_drewN ?_ _|refine blk_drew ?_|refine blk_alloc ?_ _));refine blk_put (cs:=#[.string t105,.slice Ao61 t106.length co61,.slice none 0 0]) ?_ 2 _ rfl;(with_reducible repeat (first|refine blk_drewN ?_ _|refine blk_drew ?_|refine blk_alloc ?_ _));refine blk_put (cs:=#[.string t105,.slice none 0 0,.slice none 0 0]) ?_ 1 _ rfl;(with_reducible repeat (first|refine blk_drewN ?_ _|refine blk_drew ?_|refine blk_alloc ?_ _));refine blk_put (cs:=#[.string (⟨#[]⟩:ByteArray),.slice none 0 0,.slice none 0 0]) ?_ 0 _ rfl;(with_reducible repeat (first|refine blk_drewN ?_ _|refine blk_drew ?_|refine blk_alloc ?_ _));exact BK112.out):P:=h
theorem zaq {P:Prop} (h:P:=by repeat (first|exact (Kd.R_reads' HO104.out).2.2|(with_reducible refine Kd.C_alloc ?_ _)|(with_reducible refine Kd.C_drewN ?_ _)|(with_reducible refine Kd.C_drew ?_))):P:=h
theorem zar {P:Prop} (h:P:=by (with_reducible repeat (first|apply Kd.R_alloc|apply Kd.R_drewN|apply Kd.R_drew));exact HO_20.out):P:=h
theorem zas {P:Prop} (h:P:=by (with_reducible repeat (first|refine blk_drewN ?_ _|refine blk_drew ?_|refine blk_alloc ?_ _));exact BK107.out):P:=h
theorem zat {P:Prop} (h:P:=by (with_reducible repeat (first|apply Kd.R_alloc|apply Kd.R_drewN|apply Kd.R_drew));exact HO_8.out):P:=h
theorem zau {P:Prop} (h:P:=by kernel_rfl):P:=h
theorem zav {P:Prop} (h:P:=by refine (Kd.R_reads' (e:=2) (base:=w.heap.size) (ok:=fun k_=>some k_≠(.slice Ao20 t109.length co20:Value).ownBlock) (n:=t106.length) (c:=co19) ?_).2.2;exact (by (with_reducible repeat (first|apply Kd.R_alloc|apply Kd.R_drewN|apply Kd.R_drew));exact (Kd.R_mono (Kd.R_far (p:=⟨gb112,2,none⟩) (Kd.R_far (p:=⟨gb112,1,none⟩) (Kd.R_far (p:=⟨gb112,0,none⟩) (Kd.R_types HO108.out BK112.out (by decide)) (fun _ hk=>hk.2) (.string t105)) (fun _ hk=>hk.2) (.slice Ao19 t106.length co19)) (fun _ hk=>hk.2) (.slice Ao20 t109.length co20)) (fun _ h_=>h_.1)))):P:=h
theorem zaw {P:Prop} (h:P:=by refine (Kd.R_reads' (e:=2) (base:=w.heap.size) (ok:=fun k_=>some k_≠(.slice Ao19 t106.length co19:Value).ownBlock) (n:=t109.length) (c:=co20) ?_).2.2;exact (by (with_reducible repeat (first|apply Kd.R_alloc|apply Kd.R_drewN|apply Kd.R_drew));exact (Kd.R_mono (Kd.R_far (p:=⟨gb112,2,none⟩) (Kd.R_far (p:=⟨gb112,1,none⟩) (Kd.R_far (p:=⟨gb112,0,none⟩) (Kd.R_types HO111.out BK112.out (by decide)) (fun _ hk=>hk.2) (.string t105)) (fun _ hk=>hk.2) (.slice Ao19 t106.length co19)) (fun _ hk=>hk.2) (.slice Ao20 t109.length co20)) (fun _ h_=>h_.1)))):P:=h
theorem zax {P:Prop} (h:P:=by refine (Kd.R_reads' (e:=2) (base:=w.heap.size) (ok:=fun k_=>some k_≠(.slice Ao62 t109.length co62:Value).ownBlock) (n:=t106.length) (c:=co61) ?_).2.2;exact (by (with_reducible repeat (first|apply Kd.R_alloc|apply Kd.R_drewN|apply Kd.R_drew));exact (Kd.R_mono (Kd.R_far (p:=⟨gb112,2,none⟩) (Kd.R_far (p:=⟨gb112,1,none⟩) (Kd.R_far (p:=⟨gb112,0,none⟩) (Kd.R_types HO108.out BK112.out (by decide)) (fun _ hk=>hk.2) (.string t105)) (fun _ hk=>hk.2) (.slice Ao61 t106.length co61)) (fun _ hk=>hk.2) (.slice Ao62 t109.length co62)) (fun _ h_=>h_.1)))):P:=h
theorem zay {P:Prop} (h:P:=by refine (Kd.R_reads' (e:=2) (base:=w.heap.size) (ok:=fun k_=>some k_≠(.slice Ao61 t106.length co61:Value).ownBlock) (n:=t109.length) (c:=co62) ?_).2.2;exact (by (with_reducible repeat (first|apply Kd.R_alloc|apply Kd.R_drewN|apply Kd.R_drew));exact (Kd.R_mono (Kd.R_far (p:=⟨gb112,2,none⟩) (Kd.R_far (p:=⟨gb112,1,none⟩) (Kd.R_far (p:=⟨gb112,0,none⟩) (Kd.R_types HO111.out BK112.out (by decide)) (fun _ hk=>hk.2) (.string t105)) (fun _ hk=>hk.2) (.slice Ao61 t106.length co61)) (fun _ hk=>hk.2) (.slice Ao62 t109.length co62)) (fun _ h_=>h_.1)))):P:=h
theorem zaz {P:Prop} (h:P:=by exact Door2.at HD.out (by repeat (first|(with_reducible first|exact HB.out|apply below_alloc|apply pw_below_drewN|apply below_drew1|refine below_set ?_ GE112.out)|exact HB.out))):P:=h
theorem zba {P:Prop} (h:P:=by repeat (first|exact (Kd.C_below HR0_1.out (by repeat (first|(with_reducible first|exact HB.out|apply below_alloc|apply pw_below_drewN|apply below_drew1|refine below_set ?_ GE101.out)|exact HB.out)))|(with_reducible refine Kd.C_alloc ?_ _)|(with_reducible refine Kd.C_drewN ?_ _)|(with_reducible refine Kd.C_drew ?_))):P:=h
theorem zbb {P:Prop} (h:P:=by (with_reducible repeat (first|apply Kd.R_alloc|apply Kd.R_drewN|apply Kd.R_drew));exact HO_14.out):P:=h
theorem zbc {P:Prop} (h:P:=by repeat (first|(with_reducible first|exact HK.out|apply KeepBut.set_|apply keep_drewN|apply keep_drew|apply keep_alloc|refine keep_far ?_ GW101.out _)|exact HK.out)):P:=h
theorem zbd {P:Prop} (h:P:=by refine (Kd.R_reads' (e:=67) (base:=w.heap.size) (ok:=fun k_=>True) (n:=t102.length) (c:=co21) ?_).2.2;exact (by (with_reducible repeat (first|apply Kd.R_alloc|apply Kd.R_drewN|apply Kd.R_drew));exact (Kd.R_mono (Kd.R_far (p:=⟨gb112,2,none⟩) (Kd.R_far (p:=⟨gb112,1,none⟩) (Kd.R_far (p:=⟨gb112,0,none⟩) (Kd.R_types HO104.out BK112.out (by decide)) (fun _ hk=>hk.2) (.string t105)) (fun _ hk=>hk.2) (.slice Ao19 t106.length co19)) (fun _ hk=>hk.2) (.slice Ao20 t109.length co20)) (fun _ h_=>h_.1)))):P:=h
theorem zbe {P:Prop} (h:P:=by refine (Kd.R_reads' (e:=67) (base:=w.heap.size) (ok:=fun k_=>True) (n:=t102.length) (c:=co63) ?_).2.2;exact (by (with_reducible repeat (first|apply Kd.R_alloc|apply Kd.R_drewN|apply Kd.R_drew));exact (Kd.R_mono (Kd.R_far (p:=⟨gb112,2,none⟩) (Kd.R_far (p:=⟨gb112,1,none⟩) (Kd.R_far (p:=⟨gb112,0,none⟩) (Kd.R_types HO104.out BK112.out (by decide)) (fun _ hk=>hk.2) (.string t105)) (fun _ hk=>hk.2) (.slice Ao61 t106.length co61)) (fun _ hk=>hk.2) (.slice Ao62 t109.length co62)) (fun _ h_=>h_.1)))):P:=h
theorem zbf {P:Prop} (h:P:=by (with_reducible repeat (first|refine blk_drewN ?_ _|refine blk_drew ?_|refine blk_alloc ?_ _));refine blk_far ?_ NB101_116.out _;(with_reducible repeat (first|refine blk_drewN ?_ _|refine blk_drew ?_|refine blk_alloc ?_ _));refine blk_far ?_ NB101_116.out _;(with_reducible repeat (first|refine blk_drewN ?_ _|refine blk_drew ?_|refine blk_alloc ?_ _));refine blk_far ?_ NB101_116.out _;(with_reducible repeat (first|refine blk_drewN ?_ _|refine blk_drew ?_|refine blk_alloc ?_ _));exact BK101.out):P:=h
theorem zbg {P:Prop} (h:P:=by repeat (first|(with_reducible first|exact HB.out|apply below_alloc|apply pw_below_drewN|apply below_drew1|refine below_set ?_ GE101.out|refine below_set ?_ GE116.out)|exact HB.out)):P:=h
theorem zbh {P:Prop} (h:P:=by repeat (first|(with_reducible first|exact HB.out|apply below_alloc|apply pw_below_drewN|apply below_drew1|refine below_set ?_ GE101.out|refine below_set ?_ GE103.out)|exact HB.out)):P:=h
theorem zbi {P:Prop} (h:P:=by (with_reducible repeat (first|apply Kd.R_alloc|apply Kd.R_drewN|apply Kd.R_drew));exact HO_10.out):P:=h
theorem zbj {P:Prop} (h:P:=by repeat (first|exact HR1.out|(with_reducible refine Kd.C_alloc ?_ _)|(with_reducible refine Kd.C_drewN ?_ _)|(with_reducible refine Kd.C_drew ?_))):P:=h
theorem zbk {P:Prop} (h:P:=by (with_reducible repeat (first|refine blk_drewN ?_ _|refine blk_drew ?_|refine blk_alloc ?_ _));exact BK112.out):P:=h
theorem zbl {P:Prop} (h:P:=by decide):P:=h
theorem zbm {P:Prop} (h:P:=by first|(with_reducible assumption)|assumption|decide|exact decide_eq_true (by simp)|exact decide_eq_true (by omega)):P:=h
theorem zbn {P:Prop} (h:P:=by (with_reducible repeat (first|apply Kd.R_alloc|apply Kd.R_drewN|apply Kd.R_drew));exact HO118.out):P:=h
theorem zbo {P:Prop} (h:P:=by (with_reducible repeat (first|refine blk_drewN ?_ _|refine blk_drew ?_|refine blk_alloc ?_ _));exact BK106.out):P:=h
theorem zbp {P:Prop} (h:P:=by repeat (first|exact (Kd.C_below HR0.out HB.out)|(with_reducible refine Kd.C_alloc ?_ _)|(with_reducible refine Kd.C_drewN ?_ _)|(with_reducible refine Kd.C_drew ?_))):P:=h
theorem zbq {P:Prop} (h:P:=by (with_reducible repeat (first|apply Kd.R_alloc|apply Kd.R_drewN|apply Kd.R_drew));exact HO_3.out):P:=h
theorem zbr {P:Prop} (h:P:=by exact Door1.at HD.out (by repeat (first|(with_reducible first|exact HB.out|apply below_alloc|apply pw_below_drewN|apply below_drew1|refine below_set ?_ GE101.out|refine below_set ?_ GE107.out)|exact HB.out))):P:=h
theorem zbs {P:Prop} (h:P:=by exact (below_size (by repeat (first|(with_reducible first|exact HB.out|apply below_alloc|apply pw_below_drewN|apply below_drew1|refine below_set ?_ GE101.out|refine below_set ?_ GE106.out)|exact HB.out)))):P:=h
theorem zbt {P:Prop} (h:P:=by repeat (first|(with_reducible first|exact HB.out|apply below_alloc|apply pw_below_drewN|apply below_drew1|refine below_set ?_ GE104.out)|exact HB.out)):P:=h
theorem zbu {P:Prop} (h:P:=by rintro w' ⟨s0,s1,s2,s3,s4,s5⟩;go_simp;with_reducible rfl):P:=h
theorem zbv {P:Prop} (h:P:=by exact Door2.one (Door2.at HD.out (by repeat (first|(with_reducible first|exact HB.out|apply below_alloc|apply pw_below_drewN|apply below_drew1|refine below_set ?_ GE112.out)|exact HB.out)))):P:=h
theorem zbw {P:Prop} (h:P:=by repeat (first|exact (Kd.R_reads' HO_10.out).2.2|(with_reducible refine Kd.C_alloc ?_ _)|(with_reducible refine Kd.C_drewN ?_ _)|(with_reducible refine Kd.C_drew ?_))):P:=h
theorem zbx {P:Prop} (h:P:=by exact Kd.C_below HR1.out (by repeat (first|(with_reducible first|exact HB.out|apply below_alloc|apply pw_below_drewN|apply below_drew1|refine below_set ?_ GE112.out)|exact HB.out))):P:=h
theorem zby {P:Prop} (h:P:=by (with_reducible repeat (first|apply Kd.R_alloc|apply Kd.R_drewN|apply Kd.R_drew));exact HO_17.out):P:=h
theorem zbz {P:Prop} (h:P:=by repeat (first|exact (Kd.R_reads' HO_107001.out).2.2|(with_reducible refine Kd.C_alloc ?_ _)|(with_reducible refine Kd.C_drewN ?_ _)|(with_reducible refine Kd.C_drew ?_))):P:=h
theorem zca {P:Prop} (h:P:=by repeat (first|exact (Kd.R_reads' HO_107002.out).2.2|(with_reducible refine Kd.C_alloc ?_ _)|(with_reducible refine Kd.C_drewN ?_ _)|(with_reducible refine Kd.C_drew ?_))):P:=h
theorem zcb {P:Prop} (h:P:=by (with_reducible repeat (first|refine blk_drewN ?_ _|refine blk_drew ?_|refine blk_alloc ?_ _));exact BK116.out):P:=h
theorem zcc {P:Prop} (h:P:=by (with_reducible repeat (first|apply Kd.R_alloc|apply Kd.R_drewN|apply Kd.R_drew));exact HO_25.out):P:=h
theorem zcd {P:Prop} (h:P:=by repeat (first|exact (Kd.C_below HR1.out HB.out)|(with_reducible refine Kd.C_alloc ?_ _)|(with_reducible refine Kd.C_drewN ?_ _)|(with_reducible refine Kd.C_drew ?_))):P:=h
theorem zce {P:Prop} (h:P:=by repeat (first|exact (Kd.R_reads' HO108.out).2.2|(with_reducible refine Kd.C_alloc ?_ _)|(with_reducible refine Kd.C_drewN ?_ _)|(with_reducible refine Kd.C_drew ?_))):P:=h
theorem zcf {P:Prop} (h:P:=by repeat (first|exact (Kd.R_reads' HO111.out).2.2|(with_reducible refine Kd.C_alloc ?_ _)|(with_reducible refine Kd.C_drewN ?_ _)|(with_reducible refine Kd.C_drew ?_))):P:=h
theorem zcg {P:Prop} (h:P:=by (with_reducible repeat (first|refine blk_drewN ?_ _|refine blk_drew ?_|refine blk_alloc ?_ _));refine blk_far ?_ NB101_106.out _;(with_reducible repeat (first|refine blk_drewN ?_ _|refine blk_drew ?_|refine blk_alloc ?_ _));exact BK101.out):P:=h
theorem zch {P:Prop} (h:P:=by (with_reducible repeat (first|apply Kd.R_alloc|apply Kd.R_drewN|apply Kd.R_drew));exact HO_107001.out):P:=h
theorem zci {P:Prop} (h:P:=by (with_reducible repeat (first|apply Kd.R_alloc|apply Kd.R_drewN|apply Kd.R_drew));exact HO_117002.out):P:=h
theorem zcj {P:Prop} (h:P:=by (with_reducible repeat (first|refine blk_drewN ?_ _|refine blk_drew ?_|refine blk_alloc ?_ _));refine blk_put (cs:=#[.string (rdOf ByteArray.empty t102 0),u107001,u107002]) ?_ 1 _ rfl;(with_reducible repeat (first|refine blk_drewN ?_ _|refine blk_drew ?_|refine blk_alloc ?_ _));exact BK106.out):P:=h
theorem zck {P:Prop} (h:P:=by exact (fun k_ hk=>Kd.fresh' (Kd.R_lt (by (with_reducible repeat (first|apply Kd.R_alloc|apply Kd.R_drewN|apply Kd.R_drew));exact (Kd.R_mono (Kd.R_far (p:=⟨gb106,1,none⟩) (Kd.R_types HO117.out BK106.out (by decide)) (fun _ hk=>hk.2) (.slice Ao35 y115.length co35)) (fun _ h_=>h_.1)))) k_ hk)):P:=h
theorem zcl {P:Prop} (h:P:=by repeat (first|exact (Kd.C_below HR0_1.out HB.out)|(with_reducible refine Kd.C_alloc ?_ _)|(with_reducible refine Kd.C_drewN ?_ _)|(with_reducible refine Kd.C_drew ?_))):P:=h
theorem zcm {P:Prop} (h:P:=by repeat (first|(with_reducible first|exact HI0.out|apply IsS119.alloc|apply IsS119.drewN|apply IsS119.drew|apply IsS119.set_1|apply IsS119.set_2|refine IsS119.far ?_ NB0_101.out _)|exact HI0.out)):P:=h
theorem zcn {P:Prop} (h:P:=by (with_reducible repeat (first|apply Kd.R_alloc|apply Kd.R_drewN|apply Kd.R_drew));exact HO129.out):P:=h
theorem zco {P:Prop} (h:P:=by repeat (first|(with_reducible first|exact HB.out|apply below_alloc|apply pw_below_drewN|apply below_drew1|refine below_set ?_ (IsS119.ge HI105.out)|refine below_set ?_ GE101.out)|exact HB.out)):P:=h
theorem zcp {P:Prop} (h:P:=by (try simp only [Int.add_zero]);repeat (first|(with_reducible first|exact HI0.out|apply IsS119.alloc|apply IsS119.drewN|apply IsS119.drew|apply IsS119.set_1|apply IsS119.set_2)|exact HI0.out)):P:=h
theorem zcq {P:Prop} (h:P:=by repeat (first|(with_reducible first|exact HB.out|apply below_alloc|apply pw_below_drewN|apply below_drew1|refine below_set ?_ (IsS119.ge HI0.out)|refine below_set ?_ GE101.out)|exact HB.out)):P:=h
theorem zcr {P:Prop} (h:P:=by (with_reducible repeat (first|apply Kd.R_alloc|apply Kd.R_drewN|apply Kd.R_drew));exact Kd.R_mono HO_20.out (fun _ hk=>trivial)):P:=h
theorem zcs {P:Prop} (h:P:=by (with_reducible repeat (first|apply Kd.R_alloc|apply Kd.R_drewN|apply Kd.R_drew));exact Kd.R_mono HO_8.out (fun _ hk=>trivial)):P:=h
theorem zct {P:Prop} (h:P:=by exact Door2.at HD.out (by repeat (first|(with_reducible first|exact HB.out|apply below_alloc|apply pw_below_drewN|apply below_drew1)|exact HB.out))):P:=h
theorem zcu {P:Prop} (h:P:=by (with_reducible repeat (first|apply Kd.R_alloc|apply Kd.R_drewN|apply Kd.R_drew));exact Kd.R_mono (Kd.R_far (p:=⟨gb106,1,none⟩) (Kd.R_types HO117.out BK106.out (by decide)) (fun _ hk=>hk.2) (.slice Ao35 y115.length co35)) (fun _ hk=>⟨trivial,hk.1⟩)):P:=h
theorem zcv {P:Prop} (h:P:=by (with_reducible repeat (first|apply Kd.R_alloc|apply Kd.R_drewN|apply Kd.R_drew));exact Kd.R_mono (Kd.R_far (p:=⟨gb106,1,none⟩) (Kd.R_types HO_107002.out BK106.out (by decide)) (fun _ hk=>hk.2) (.slice Ao35 y115.length co35)) (fun _ hk=>hk.1.2)):P:=h
theorem zcw {P:Prop} (h:P:=by (with_reducible repeat (first|apply Kd.R_alloc|apply Kd.R_drewN|apply Kd.R_drew));exact (Kd.R_mono (Kd.R_far (p:=⟨gb106,1,none⟩) (Kd.R_types HO_107002.out BK106.out (by decide)) (fun _ hk=>hk.2) (.slice Ao35 y115.length co35)) (fun _ h_=>h_.1))):P:=h
theorem zcx {P:Prop} (h:P:=by (with_reducible repeat (first|apply Kd.R_alloc|apply Kd.R_drewN|apply Kd.R_drew));exact (Kd.R_mono (Kd.R_far (p:=⟨gb106,1,none⟩) (Kd.R_types HO117.out BK106.out (by decide)) (fun _ hk=>hk.2) (.slice Ao35 y115.length co35)) (fun _ h_=>h_.1))):P:=h
theorem zcy {P:Prop} (h:P:=by (with_reducible repeat (first|apply Kd.R_alloc|apply Kd.R_drewN|apply Kd.R_drew));exact (Kd.R_mono (Kd.R_far (p:=⟨gb106,1,none⟩) (Kd.R_types HO_4.out BK106.out (by decide)) (fun _ hk=>hk.2) (.slice Ao35 y115.length co35)) (fun _ h_=>h_.1))):P:=h
theorem zcz {P:Prop} (h:P:=by (with_reducible repeat (first|apply Kd.R_alloc|apply Kd.R_drewN|apply Kd.R_drew));exact HO_117001.out):P:=h
theorem zda {P:Prop} (h:P:=by repeat (first|exact (Kd.C_below HR0_2.out HB.out)|(with_reducible refine Kd.C_alloc ?_ _)|(with_reducible refine Kd.C_drewN ?_ _)|(with_reducible refine Kd.C_drew ?_))):P:=h
theorem zdb {P:Prop} (h:P:=by omega):P:=h
theorem zdc {P:Prop} (h:P:=by repeat (first|(with_reducible first|exact HB.out|apply below_alloc|apply pw_below_drewN|apply below_drew1|refine below_set ?_ GE105.out)|exact HB.out)):P:=h
theorem zdd {P:Prop} (h:P:=by simp):P:=h
theorem zde {P:Prop} (h:P:=by (with_reducible repeat (first|apply Kd.R_alloc|apply Kd.R_drewN|apply Kd.R_drew));exact HO_107002.out):P:=h
theorem zdf {P:Prop} (h:P:=by (with_reducible repeat (first|apply Kd.R_alloc|apply Kd.R_drewN|apply Kd.R_drew));exact HO103.out):P:=h
theorem zdg {P:Prop} (h:P:=by exact (below_size (by repeat (first|(with_reducible first|exact HB.out|apply below_alloc|apply pw_below_drewN|apply below_drew1)|exact HB.out)))):P:=h
theorem zdh {P:Prop} (h:P:=by exact Door2.one (Door2.at HD.out (by repeat (first|(with_reducible first|exact HB.out|apply below_alloc|apply pw_below_drewN|apply below_drew1|refine below_set ?_ GE101.out)|exact HB.out)))):P:=h
theorem zdi {P:Prop} (h:P:=by exact (Kd.R_reads' HO104.out).2.1):P:=h
theorem zdj {P:Prop} (h:P:=by exact (fun _ _=>trivial)):P:=h
theorem zdk {P:Prop} (h:P:=by repeat (first|(with_reducible first|exact HB.out|apply below_alloc|apply pw_below_drewN|apply below_drew1|refine below_set ?_ (IsS119.ge HI104.out))|exact HB.out)):P:=h
theorem zdl {P:Prop} (h:P:=by repeat (first|exact (Kd.R_reads' HO118.out).2.2|(with_reducible refine Kd.C_alloc ?_ _)|(with_reducible refine Kd.C_drewN ?_ _)|(with_reducible refine Kd.C_drew ?_))):P:=h
theorem zdm {P:Prop} (h:P:=by (with_reducible repeat (first|apply Kd.R_alloc|apply Kd.R_drewN|apply Kd.R_drew));exact HO_7.out):P:=h
theorem zdn {P:Prop} (h:P:=by first|rfl|(simp [errW_none,errW_some]<;>rfl)|(simp only [←hji17];first|rfl|(simp [errW_none,errW_some]<;>rfl))|(simp [*,errW_none,errW_some]<;>rfl)):P:=h
theorem zdo {P:Prop} (h:P:=by have:=HK1.out;omega):P:=h
theorem zdp {P:Prop} (h:P:=by repeat (first|(with_reducible first|exact HB.out|apply below_alloc|apply pw_below_drewN|apply below_drew1|refine below_set ?_ GE102.out)|exact HB.out)):P:=h
theorem zdq {P:Prop} (h:P:=by exact (fun k_ hk=>Kd.fresh' (Kd.R_lt (by (with_reducible repeat (first|apply Kd.R_alloc|apply Kd.R_drewN|apply Kd.R_drew));exact HO_107002.out)) k_ hk)):P:=h
theorem zdr {P:Prop} (h:P:=by (with_reducible repeat (first|refine blk_drewN ?_ _|refine blk_drew ?_|refine blk_alloc ?_ _));exact BK103.out):P:=h
theorem zds {P:Prop} (h:P:=by first|omega|exact Nat.le_refl _):P:=h
theorem zdt {P:Prop} (h:P:=by (with_reducible repeat (first|apply Kd.R_alloc|apply Kd.R_drewN|apply Kd.R_drew));exact HO114.out):P:=h
theorem zdu {P:Prop} (h:P:=by exact (Kd.R_reads' HO108.out).2.1):P:=h
theorem zdv {P:Prop} (h:P:=by exact (Kd.R_reads' HO111.out).2.1):P:=h
end Go.Proofs.YtmoamoopoifnlaaGreatDoor.P

namespace Go.Proofs.YtmoamoopoifnlaaGreatDoor.P
open Go.RowKit Go.Proofs.YtmoamoopoifnlaaGreatDoorW.PrintWords Go.Proofs.YtmoamoopoifnlaaGreatDoorW.PrintLast Go.Proofs.YtmoamoopoifnlaaGreatDoorW.PrintMore
attribute [local go_sem] max2_int min2_int max_two min_two max_three min_three max_four min_four str_leq str_gtr str_geq
set_option linter.unusedVariables false
set_option linter.unusedSimpArgs false
theorem eqA67 (d:Nat) (w:World) (x0 y0:Int) (x1 y1:Int) :
 (Op.equalIn (d+2) 67 (.agg #[.int .i64 x0,.int .i64 x1]) (.agg #[.int .i64 y0,.int .i64 y1])).run Tryz.prog w = .ok (x0 == y0&&(x1 == y1)) w:=by
 refine eqA_of Tryz.underlying67 zau ?_
 refine eqf_cons (by rfl) (by go_simp;rfl) (by go_simp;rfl) (by go_simp) ?_
 exact eqf_last (by rfl) (by go_simp;rfl) (by go_simp;rfl) (by go_simp)
end Go.Proofs.YtmoamoopoifnlaaGreatDoor.P

namespace Go.Proofs.YtmoamoopoifnlaaGreatDoor.P
open Go.RowKit Go.Proofs.YtmoamoopoifnlaaGreatDoorW.PrintWords Go.Proofs.YtmoamoopoifnlaaGreatDoorW.PrintLast Go.Proofs.YtmoamoopoifnlaaGreatDoorW.PrintMore
attribute [local go_sem] max2_int min2_int max_two min_two max_three min_three max_four min_four str_leq str_gtr str_geq
set_option linter.unusedVariables false
set_option linter.unusedSimpArgs false
attribute [local go_sem high] eqA67
def spec_l09Same.l0:Nat→List (S67)→List (S67)→Int→Option (Bool)
 | 0,_,_,_=>none
 | k+1,x0,x1,x5=>if x5<(x0.length:Int) then (if 0≤x5 then (if x5<(x1.length:Int) then (if (!(((rd_T67 x0 x5).f0) == ((rd_T67 x1 x5).f0)) || (!(((rd_T67 x0 x5).f1) == ((rd_T67 x1 x5).f1))))=true then (some false) else (spec_l09Same.l0 k x0 x1 (wrap64 (x5+1)))) else (none)) else (none)) else (some true)
def spec_l09Same.f (k:Nat) (l0:List (S67)) (l1:List (S67)):Option (Bool):=if (l0.length:Int)=(l1.length:Int) then (spec_l09Same.l0 k l0 l1 0) else (some false)
set_option maxHeartbeats 8000000 in
set_option maxRecDepth 100000 in
theorem spec_l09Same.calls (k:Nat) (A0:Option Addr) (c0:Nat) (l0:List (S67)) (A1:Option Addr) (c1:Nat) (l1:List (S67)) (r:Bool) (w:World) (hr0:Kd.C k67 w A0 l0.length l0) (hc0:l0.length≤c0) (hr1:Kd.C k67 w A1 l1.length l1) (hc1:l1.length≤c1) (h:spec_l09Same.f k l0 l1=some r) :
 Calls Tryz.prog 56 #[.slice A0 l0.length c0,.slice A1 l1.length c1] w fun e w'=>e = .returned (.bool r)∧Drawn0 w w':=by
 have hu67:=Tryz.underlying67
 have HR0:=Aside0.mk hr0
 have HC0:=Aside0.mk hc0
 clear hr0 hc0
 have HR1:=Aside0.mk hr1
 have HC1:=Aside0.mk hc1
 clear hr1 hc1
 have H:(if (l0.length:Int)=(l1.length:Int) then (spec_l09Same.l0 k l0 l1 0) else (some false))=some r:=h
 clear h
 by_cases c3:(l0.length:Int)=(l1.length:Int)
 ·rw [if_pos c3] at H
  have c3b0:((l0.length:Int) == (l1.length:Int))=true:=beq_iff_eq.mpr c3
  have c3b1:((l0.length:Int) != (l1.length:Int))=false:=bne_eq_false_iff_eq.mpr c3
  have c3b2:(l0.length == l1.length)=true:=by first|simpa using c3|(simp at c3 ⊢;omega)
  clear c3
  have H':=Aside0.mk H
  clear H
  go_enter Tryz.func56,Tryz.ntmps56
  go_wp2
  repeat (go_quiet (fail);try go_wp2)
  go_loopg [5] k (fun kq v5 w'=>∃(x5_1:Int),v5 = .int .i64 x5_1∧Aside0 (spec_l09Same.l0 kq l0 l1 x5_1=some r)∧Aside0 (kq≤k)∧Drawn0 w w')
  case atStart=>exact ⟨(0),zg,H',⟨Nat.le_refl _⟩,zj⟩
  case round=>
   clear H'
   try clear c1
   try clear p2
   try clear c3
   try clear c3b0
   try clear c3b1
   try clear c3b2
   obtain ⟨x5_1,rfl,HA,HK1,⟨m1,rfl⟩⟩:=hrel
   cases gk with
   | zero=>exact absurd HA.out (by simp [spec_l09Same.l0])
   | succ k1=>
    have H:=HA.out
    clear HA
    simp only [spec_l09Same.l0] at H
    by_cases c4:x5_1<(l0.length:Int)
    ·rw [if_pos c4] at H
     have c4b0:decide (x5_1<(l0.length:Int))=true:=decide_eq_true c4
     clear c4
     by_cases c5:0≤x5_1
     ·rw [if_pos c5] at H
      have c5b0:decide (0≤x5_1)=true:=decide_eq_true c5
      clear c5
      by_cases c6:x5_1<(l1.length:Int)
      ·rw [if_pos c6] at H
       have c6b0:decide (x5_1<(l1.length:Int))=true:=decide_eq_true c6
       clear c6
       by_cases c7:(!(((rd_T67 l0 x5_1).f0) == ((rd_T67 l1 x5_1).f0)) || (!(((rd_T67 l0 x5_1).f1) == ((rd_T67 l1 x5_1).f1))))=true
       ·rw [if_pos c7] at H
        have c7b0:(!(((rd_T67 l0 x5_1).f0) == ((rd_T67 l1 x5_1).f0)) || (!(((rd_T67 l0 x5_1).f1) == ((rd_T67 l1 x5_1).f1))))=true:=c7
        clear c7
        obtain rfl:=Option.some.inj H
        have p101:0≤(x5_1:Int):=of_decide_eq_true ze
        have q101:x5_1<(l0.length:Int):=of_decide_eq_true ze
        obtain ⟨ad101,e101,hx101_0,hx101_1⟩:=at_T67 HR0.out x5_1 p101 q101
        cases e101
        replace p101:=eq_true p101
        replace q101:=eq_true q101
        have p102:0≤(x5_1:Int):=of_decide_eq_true ze
        have q102:x5_1<(l1.length:Int):=of_decide_eq_true ze
        obtain ⟨ad102,e102,hx102_0,hx102_1⟩:=at_T67 HR1.out x5_1 p102 q102
        cases e102
        replace p102:=eq_true p102
        replace q102:=eq_true q102
        go_wp2
        repeat (go_quiet (fail);try go_wp2)
        go_ret
        exact ⟨zg,zj⟩
       ·rw [if_neg c7] at H
        have c7b0:(!(((rd_T67 l0 x5_1).f0) == ((rd_T67 l1 x5_1).f0)) || (!(((rd_T67 l0 x5_1).f1) == ((rd_T67 l1 x5_1).f1))))=false:=by simpa using c7
        clear c7
        have H':=Aside0.mk H
        clear H
        have p101:0≤(x5_1:Int):=of_decide_eq_true ze
        have q101:x5_1<(l0.length:Int):=of_decide_eq_true ze
        obtain ⟨ad101,e101,hx101_0,hx101_1⟩:=at_T67 HR0.out x5_1 p101 q101
        cases e101
        replace p101:=eq_true p101
        replace q101:=eq_true q101
        have p102:0≤(x5_1:Int):=of_decide_eq_true ze
        have q102:x5_1<(l1.length:Int):=of_decide_eq_true ze
        obtain ⟨ad102,e102,hx102_0,hx102_1⟩:=at_T67 HR1.out x5_1 p102 q102
        cases e102
        replace p102:=eq_true p102
        replace q102:=eq_true q102
        go_wp2
        repeat (go_quiet (fail);try go_wp2)
        go_roundg k1
        case measure=>have:=HK1.out;omega
        case rel=>exact ⟨(wrap64 (x5_1+1)),zg,H',⟨zdo⟩,zj⟩
      ·rw [if_neg c6] at H
       exact absurd H zdd
     ·rw [if_neg c5] at H
      exact absurd H zdd
    ·rw [if_neg c4] at H
     have c4b0:decide (x5_1<(l0.length:Int))=false:=decide_eq_false c4
     clear c4
     obtain rfl:=Option.some.inj H
     go_wp2
     repeat (go_quiet (fail);try go_wp2)
     go_ret
     exact ⟨zg,zj⟩
 ·rw [if_neg c3] at H
  have c3b0:((l0.length:Int) == (l1.length:Int))=false:=beq_eq_false_iff_ne.mpr c3
  have c3b1:((l0.length:Int) != (l1.length:Int))=true:=bne_iff_ne.mpr c3
  have c3b2:(l0.length == l1.length)=false:=by first|simpa using c3|(simp at c3 ⊢;omega)
  obtain rfl:=Option.some.inj H
  go_enter Tryz.func56,Tryz.ntmps56
  go_wp2
  repeat (go_quiet (fail);try go_wp2)
  go_ret
  exact ⟨zg,zj⟩
end Go.Proofs.YtmoamoopoifnlaaGreatDoor.P

namespace Go.Proofs.YtmoamoopoifnlaaGreatDoor.P
open Go.RowKit Go.Proofs.YtmoamoopoifnlaaGreatDoorW.PrintWords Go.Proofs.YtmoamoopoifnlaaGreatDoorW.PrintLast Go.Proofs.YtmoamoopoifnlaaGreatDoorW.PrintMore
attribute [local go_sem] max2_int min2_int max_two min_two max_three min_three max_four min_four str_leq str_gtr str_geq
set_option linter.unusedVariables false
set_option linter.unusedSimpArgs false
def spec_SameMelody.f (k:Nat) (l0:List (S67)) (l1:List (S67)):Option (Bool):=(spec_l09Same.f k l0 l1).bind fun t101=>(some t101)
set_option maxHeartbeats 8000000 in
set_option maxRecDepth 100000 in
theorem spec_SameMelody.calls (k:Nat) (A0:Option Addr) (c0:Nat) (l0:List (S67)) (A1:Option Addr) (c1:Nat) (l1:List (S67)) (r:Bool) (w:World) (hr0:Kd.C k67 w A0 l0.length l0) (hc0:l0.length≤c0) (hr1:Kd.C k67 w A1 l1.length l1) (hc1:l1.length≤c1) (h:spec_SameMelody.f k l0 l1=some r) :
 Calls Tryz.prog 15 #[.slice A0 l0.length c0,.slice A1 l1.length c1] w fun e w'=>e = .returned (.bool r)∧Drawn0 w w':=by
 have HR0:=Aside0.mk hr0
 have HC0:=Aside0.mk hc0
 clear hr0 hc0
 have HR1:=Aside0.mk hr1
 have HC1:=Aside0.mk hc1
 clear hr1 hc1
 have H:((spec_l09Same.f k l0 l1).bind fun t101=>(some t101))=some r:=h
 clear h
 replace H:=Option.bind_eq_some_iff.mp H
 obtain ⟨t101,A30,H⟩:=H
 replace H:(some t101)=some r:=H
 have A3:=Aside0.mk A30
 clear A30
 obtain rfl:=Option.some.inj H
 go_enter Tryz.func15,Tryz.ntmps15
 go_wp2_with (first|((with_reducible refine gate_callee (f:=56) rfl ?_);refine goesL_ (some 7) rfl rfl Tryz.func56 zau rfl #[.slice A0 l0.length c0,.slice A1 l1.length c1] rfl zd ?_;(with_reducible refine (spec_l09Same.calls k _ _ l0 _ _ l1 t101 _ ?side1 ?side2 ?side3 ?side4 A3.out).mono ?_);(case side1=>exact zw);(case side2=>exact HC0.out);(case side3=>exact zbj);(case side4=>exact HC1.out);rintro e w' ⟨rfl,⟨nd,rfl⟩⟩;refine ⟨_,rfl,?_⟩))
 go_ret
 exact ⟨zg,zj⟩
end Go.Proofs.YtmoamoopoifnlaaGreatDoor.P

namespace Go.Proofs.YtmoamoopoifnlaaGreatDoor.P
open Go.RowKit
set_option linter.unusedVariables false
set_option linter.unusedSimpArgs false
theorem var_keep {P : Program} {w w' : World} {n : String} {cs : Array Value} (hb : Below w.heap.size w w') (h : w.var? P n = some cs) : w'.var? P n = some cs := by
  unfold World.var? at h ⊢
  cases hg : P.globalNamed n with
  | none => simp [hg] at h
  | some g =>
    simp only [hg, Option.bind_some] at h ⊢
    have hlt : g < w.heap.size := by
      rcases Nat.lt_or_ge g w.heap.size with h' | h'
      · exact h'
      · simp [Array.getElem?_eq_none h'] at h
    rw [hb.block g hlt]
    exact h
/-- The table of powers of ten reads as the program's text lays it. -/
structure Door1 (w : World) : Prop where
  tab : Lib.TabIs Tryz.prog w "internal/strconv.uint64pow10" .u64 Lib.pow10Tab
theorem Door1.at {w w' : World} (h : Door1 w) (hb : Below w.heap.size w w') : Door1 w' := ⟨var_keep hb h.tab⟩
/-- And the two errors of strconv, and the bound of the search. -/
structure Door2 (w : World) : Prop where
  one : Door1 w
  syn : ∃ tp p, w.var? Tryz.prog "strconv.ErrSyntax" = some #[.iface tp p]
  ran : ∃ tp p, w.var? Tryz.prog "strconv.ErrRange" = some #[.iface tp p]
  ml : ∀ g, Tryz.prog.globalNamed "internal/bytealg.MaxLen" = some g → ∃ m, w.cell? ⟨g, 0, none⟩ = some (.int .i64 m)
theorem Door2.at {w w' : World} (h : Door2 w) (hb : Below w.heap.size w w') : Door2 w' :=
  ⟨Door1.at h.one hb, let ⟨t, p, e⟩ := h.syn; ⟨t, p, var_keep hb e⟩, let ⟨t, p, e⟩ := h.ran; ⟨t, p, var_keep hb e⟩, fun g hg => let ⟨m, e⟩ := h.ml g hg; ⟨m, by
    rw [hb.cell (World.block_lt_of_cell? _ _ e)]; exact e⟩⟩
end Go.Proofs.YtmoamoopoifnlaaGreatDoor.P

/- What the library's contracts ask of this program: its bodies, types and numbers, each held against the library's by the kernel. -/
namespace Go.Proofs.YtmoamoopoifnlaaGreatDoor.P
open Go.Shelf
set_option linter.unusedVariables false
set_option linter.unusedSimpArgs false
def sh_FormatInt_ren : Go.Shelf.Ren := ⟨fun | 173 => 126 | 246 => 152 | 283 => 183 | 284 => 184 | 285 => 185 | 286 => 186 | 129 => 203 | 317 => 202 | 318 => 204 | 319 => 205 | 320 => 206 | 337 => 210 | 338 => 211 | n => n, fun | 2 => 2 | 3 => 3 | 9 => 9 | 4 => 4 | 171 => 193 | 0 => 0 | 53 => 117 | 37 => 25 | 5 => 5 | 173 => 196 | 212 => 212 | 51 => 203 | 20 => 20 | 213 => 213 | 46 => 160 | 232 => 226 | 233 => 227 | n => n, fun | 17 => 3 | 18 => 6 | 19 => 7 | n => n⟩
theorem sh_FormatInt : LaysM.n173 Tryz.prog sh_FormatInt_ren := {
  mixed := by kernel_rfl
  f129 := Tryz.func203.trans (congrArg some (by kernel_rfl))
  f173 := Tryz.func126.trans (congrArg some (by kernel_rfl))
  f246 := Tryz.func152.trans (congrArg some (by kernel_rfl))
  f283 := Tryz.func183.trans (congrArg some (by kernel_rfl))
  f284 := Tryz.func184.trans (congrArg some (by kernel_rfl))
  f285 := Tryz.func185.trans (congrArg some (by kernel_rfl))
  f286 := Tryz.func186.trans (congrArg some (by kernel_rfl))
  f317 := Tryz.func202.trans (congrArg some (by kernel_rfl))
  f318 := Tryz.func204.trans (congrArg some (by kernel_rfl))
  f319 := Tryz.func205.trans (congrArg some (by kernel_rfl))
  f320 := Tryz.func206.trans (congrArg some (by kernel_rfl))
  f337 := Tryz.func210.trans (congrArg some (by kernel_rfl))
  f338 := Tryz.func211.trans (congrArg some (by kernel_rfl))
  t0 := Tryz.underlying0
  a0 := Tryz.isAgg0
  z0 := Tryz.sizeOf0
  v0 := Tryz.zeroValue0
  t2 := Tryz.underlying2
  a2 := Tryz.isAgg2
  z2 := Tryz.sizeOf2
  v2 := Tryz.zeroValue2
  t3 := Tryz.underlying3
  a3 := Tryz.isAgg3
  z3 := Tryz.sizeOf3
  v3 := Tryz.zeroValue3
  t4 := Tryz.underlying4
  a4 := Tryz.isAgg4
  z4 := Tryz.sizeOf4
  v4 := Tryz.zeroValue4
  t5 := Tryz.underlying5
  a5 := Tryz.isAgg5
  z5 := Tryz.sizeOf5
  v5 := Tryz.zeroValue5
  t9 := Tryz.underlying9
  a9 := Tryz.isAgg9
  z9 := Tryz.sizeOf9
  v9 := Tryz.zeroValue9
  t20 := Tryz.underlying20
  a20 := Tryz.isAgg20
  z20 := Tryz.sizeOf20
  v20 := Tryz.zeroValue20
  t37 := Tryz.underlying25
  a37 := Tryz.isAgg25
  z37 := Tryz.sizeOf25
  v37 := Tryz.zeroValue25
  t46 := Tryz.underlying160
  a46 := Tryz.isAgg160
  z46 := Tryz.sizeOf160
  v46 := Tryz.zeroValue160
  t51 := Tryz.underlying203
  a51 := Tryz.isAgg203
  z51 := Tryz.sizeOf203
  v51 := Tryz.zeroValue203
  t53 := Tryz.underlying117
  a53 := Tryz.isAgg117
  z53 := Tryz.sizeOf117
  v53 := Tryz.zeroValue117
  t171 := Tryz.underlying193
  a171 := Tryz.isAgg193
  z171 := Tryz.sizeOf193
  v171 := Tryz.zeroValue193
  t173 := Tryz.underlying196
  a173 := Tryz.isAgg196
  z173 := Tryz.sizeOf196
  v173 := Tryz.zeroValue196
  t212 := Tryz.underlying212
  a212 := Tryz.isAgg212
  z212 := Tryz.sizeOf212
  v212 := Tryz.zeroValue212
  t213 := Tryz.underlying213
  a213 := Tryz.isAgg213
  z213 := Tryz.sizeOf213
  t232 := Tryz.underlying226
  a232 := Tryz.isAgg226
  z232 := Tryz.sizeOf226
  v232 := Tryz.zeroValue226
  t233 := Tryz.underlying227
  a233 := Tryz.isAgg227
  z233 := Tryz.sizeOf227
  v233 := Tryz.zeroValue227
  g17 := by kernel_rfl
  g18 := by kernel_rfl
  g19 := by kernel_rfl
  i0 := by kernel_rfl
  i2 := by kernel_rfl
  i3 := by kernel_rfl
  i4 := by kernel_rfl
  i5 := by kernel_rfl
  i9 := by kernel_rfl
  i20 := by kernel_rfl
  i37 := by kernel_rfl
  i46 := by kernel_rfl
  i51 := by kernel_rfl
  i53 := by kernel_rfl
  i171 := by kernel_rfl
  i173 := by kernel_rfl
  i212 := by kernel_rfl
  i232 := by kernel_rfl
  i233 := by kernel_rfl
  m17 := by kernel_rfl
  m18 := by kernel_rfl
  m19 := by kernel_rfl }
def sh_ParseInt_ren : Go.Shelf.Ren := ⟨fun | 174 => 120 | 247 => 148 | 245 => 149 | 287 => 177 | 279 => 178 | 280 => 179 | 281 => 180 | 282 => 181 | 321 => 197 | 322 => 198 | 316 => 199 | 171 => 201 | 205 => 200 | 243 => 209 | 246 => 152 | 283 => 183 | 284 => 184 | 285 => 185 | 286 => 186 | 129 => 203 | 317 => 202 | 318 => 204 | 319 => 205 | 320 => 206 | 337 => 210 | 338 => 211 | n => n, fun | 9 => 9 | 3 => 3 | 2 => 2 | 75 => 146 | 85 => 147 | 4 => 4 | 167 => 186 | 5 => 5 | 53 => 117 | 175 => 187 | 46 => 160 | 168 => 189 | 37 => 25 | 0 => 0 | 210 => 209 | 21 => 21 | 127 => 169 | 145 => 223 | 143 => 221 | 171 => 193 | 173 => 196 | 212 => 212 | 51 => 203 | 20 => 20 | 213 => 213 | 232 => 226 | 233 => 227 | 80 => 142 | n => n, fun | 15 => 1 | 16 => 2 | 17 => 3 | 18 => 6 | 19 => 7 | n => n⟩
theorem sh_ParseInt : LaysC.n174 Tryz.prog sh_ParseInt_ren := {
  mixed := by kernel_rfl
  f129 := Tryz.func203.trans (congrArg some (by kernel_rfl))
  f171 := Tryz.func201.trans (congrArg some (by kernel_rfl))
  f174 := Tryz.func120.trans (congrArg some (by kernel_rfl))
  f205 := Tryz.func200.trans (congrArg some (by kernel_rfl))
  f243 := Tryz.func209.trans (congrArg some (by kernel_rfl))
  f245 := Tryz.func149.trans (congrArg some (by kernel_rfl))
  f246 := Tryz.func152.trans (congrArg some (by kernel_rfl))
  f247 := Tryz.func148.trans (congrArg some (by kernel_rfl))
  f279 := Tryz.func178.trans (congrArg some (by kernel_rfl))
  f280 := Tryz.func179.trans (congrArg some (by kernel_rfl))
  f281 := Tryz.func180.trans (congrArg some (by kernel_rfl))
  f282 := Tryz.func181.trans (congrArg some (by kernel_rfl))
  f283 := Tryz.func183.trans (congrArg some (by kernel_rfl))
  f284 := Tryz.func184.trans (congrArg some (by kernel_rfl))
  f285 := Tryz.func185.trans (congrArg some (by kernel_rfl))
  f286 := Tryz.func186.trans (congrArg some (by kernel_rfl))
  f287 := Tryz.func177.trans (congrArg some (by kernel_rfl))
  f316 := Tryz.func199.trans (congrArg some (by kernel_rfl))
  f317 := Tryz.func202.trans (congrArg some (by kernel_rfl))
  f318 := Tryz.func204.trans (congrArg some (by kernel_rfl))
  f319 := Tryz.func205.trans (congrArg some (by kernel_rfl))
  f320 := Tryz.func206.trans (congrArg some (by kernel_rfl))
  f321 := Tryz.func197.trans (congrArg some (by kernel_rfl))
  f322 := Tryz.func198.trans (congrArg some (by kernel_rfl))
  f337 := Tryz.func210.trans (congrArg some (by kernel_rfl))
  f338 := Tryz.func211.trans (congrArg some (by kernel_rfl))
  t0 := Tryz.underlying0
  a0 := Tryz.isAgg0
  z0 := Tryz.sizeOf0
  v0 := Tryz.zeroValue0
  t2 := Tryz.underlying2
  a2 := Tryz.isAgg2
  z2 := Tryz.sizeOf2
  v2 := Tryz.zeroValue2
  t3 := Tryz.underlying3
  a3 := Tryz.isAgg3
  z3 := Tryz.sizeOf3
  v3 := Tryz.zeroValue3
  t4 := Tryz.underlying4
  a4 := Tryz.isAgg4
  z4 := Tryz.sizeOf4
  v4 := Tryz.zeroValue4
  t5 := Tryz.underlying5
  a5 := Tryz.isAgg5
  z5 := Tryz.sizeOf5
  v5 := Tryz.zeroValue5
  t9 := Tryz.underlying9
  a9 := Tryz.isAgg9
  z9 := Tryz.sizeOf9
  v9 := Tryz.zeroValue9
  t20 := Tryz.underlying20
  a20 := Tryz.isAgg20
  z20 := Tryz.sizeOf20
  v20 := Tryz.zeroValue20
  t21 := Tryz.underlying21
  a21 := Tryz.isAgg21
  z21 := Tryz.sizeOf21
  v21 := Tryz.zeroValue21
  t37 := Tryz.underlying25
  a37 := Tryz.isAgg25
  z37 := Tryz.sizeOf25
  v37 := Tryz.zeroValue25
  t46 := Tryz.underlying160
  a46 := Tryz.isAgg160
  z46 := Tryz.sizeOf160
  v46 := Tryz.zeroValue160
  t51 := Tryz.underlying203
  a51 := Tryz.isAgg203
  z51 := Tryz.sizeOf203
  v51 := Tryz.zeroValue203
  t53 := Tryz.underlying117
  a53 := Tryz.isAgg117
  z53 := Tryz.sizeOf117
  v53 := Tryz.zeroValue117
  t75 := Tryz.underlying146
  a75 := Tryz.isAgg146
  z75 := Tryz.sizeOf146
  v75 := Tryz.zeroValue146
  t85 := Tryz.underlying147
  a85 := Tryz.isAgg147
  z85 := Tryz.sizeOf147
  v85 := Tryz.zeroValue147
  t127 := Tryz.underlying169
  a127 := Tryz.isAgg169
  z127 := Tryz.sizeOf169
  v127 := Tryz.zeroValue169
  t143 := Tryz.underlying221
  a143 := Tryz.isAgg221
  z143 := Tryz.sizeOf221
  v143 := Tryz.zeroValue221
  t145 := Tryz.underlying223
  a145 := Tryz.isAgg223
  z145 := Tryz.sizeOf223
  v145 := Tryz.zeroValue223
  t167 := Tryz.underlying186
  a167 := Tryz.isAgg186
  z167 := Tryz.sizeOf186
  v167 := Tryz.zeroValue186
  t168 := Tryz.underlying189
  a168 := Tryz.isAgg189
  z168 := Tryz.sizeOf189
  v168 := Tryz.zeroValue189
  t171 := Tryz.underlying193
  a171 := Tryz.isAgg193
  z171 := Tryz.sizeOf193
  v171 := Tryz.zeroValue193
  t173 := Tryz.underlying196
  a173 := Tryz.isAgg196
  z173 := Tryz.sizeOf196
  v173 := Tryz.zeroValue196
  t175 := Tryz.underlying187
  a175 := Tryz.isAgg187
  z175 := Tryz.sizeOf187
  v175 := Tryz.zeroValue187
  t210 := Tryz.underlying209
  a210 := Tryz.isAgg209
  z210 := Tryz.sizeOf209
  v210 := Tryz.zeroValue209
  t212 := Tryz.underlying212
  a212 := Tryz.isAgg212
  z212 := Tryz.sizeOf212
  v212 := Tryz.zeroValue212
  t213 := Tryz.underlying213
  a213 := Tryz.isAgg213
  z213 := Tryz.sizeOf213
  t232 := Tryz.underlying226
  a232 := Tryz.isAgg226
  z232 := Tryz.sizeOf226
  v232 := Tryz.zeroValue226
  t233 := Tryz.underlying227
  a233 := Tryz.isAgg227
  z233 := Tryz.sizeOf227
  v233 := Tryz.zeroValue227
  g15 := by kernel_rfl
  g16 := by kernel_rfl
  g17 := by kernel_rfl
  g18 := by kernel_rfl
  g19 := by kernel_rfl
  t80 := Tryz.underlying142
  a80 := Tryz.isAgg142
  z80 := Tryz.sizeOf142
  v80 := Tryz.zeroValue142
  i0 := by kernel_rfl
  i2 := by kernel_rfl
  i3 := by kernel_rfl
  i4 := by kernel_rfl
  i5 := by kernel_rfl
  i9 := by kernel_rfl
  i20 := by kernel_rfl
  i21 := by kernel_rfl
  i37 := by kernel_rfl
  i46 := by kernel_rfl
  i51 := by kernel_rfl
  i53 := by kernel_rfl
  i75 := by kernel_rfl
  i80 := by kernel_rfl
  i85 := by kernel_rfl
  i127 := by kernel_rfl
  i143 := by kernel_rfl
  i145 := by kernel_rfl
  i167 := by kernel_rfl
  i168 := by kernel_rfl
  i171 := by kernel_rfl
  i173 := by kernel_rfl
  i175 := by kernel_rfl
  i210 := by kernel_rfl
  i212 := by kernel_rfl
  i232 := by kernel_rfl
  i233 := by kernel_rfl
  m15 := by kernel_rfl
  m16 := by kernel_rfl
  m17 := by kernel_rfl
  m18 := by kernel_rfl
  m19 := by kernel_rfl
  c0 := by kernel_rfl
  c2 := by kernel_rfl
  c3 := by kernel_rfl
  c4 := by kernel_rfl
  c5 := by kernel_rfl
  c9 := by kernel_rfl
  c20 := by kernel_rfl
  c21 := by kernel_rfl
  c37 := by kernel_rfl
  c46 := by kernel_rfl
  c51 := by kernel_rfl
  c53 := by kernel_rfl
  c75 := by kernel_rfl
  c80 := by kernel_rfl
  c85 := by kernel_rfl
  c127 := by kernel_rfl
  c143 := by kernel_rfl
  c145 := by kernel_rfl
  c167 := by kernel_rfl
  c168 := by kernel_rfl
  c171 := by kernel_rfl
  c173 := by kernel_rfl
  c175 := by kernel_rfl
  c210 := by kernel_rfl
  c212 := by kernel_rfl
  c213 := by kernel_rfl
  c232 := by kernel_rfl
  c233 := by kernel_rfl }
def sh_TrimPrefix_ren : Go.Shelf.Ren := ⟨fun | 101 => 121 | 208 => 150 | 206 => 155 | n => n, fun | 9 => 9 | 4 => 4 | 3 => 3 | n => n, fun | n => n⟩
theorem sh_TrimPrefix : Lays.n101 Tryz.prog sh_TrimPrefix_ren := {
  mixed := by kernel_rfl
  f101 := Tryz.func121.trans (congrArg some (by kernel_rfl))
  f206 := Tryz.func155.trans (congrArg some (by kernel_rfl))
  f208 := Tryz.func150.trans (congrArg some (by kernel_rfl))
  t3 := Tryz.underlying3
  a3 := Tryz.isAgg3
  z3 := Tryz.sizeOf3
  v3 := Tryz.zeroValue3
  t4 := Tryz.underlying4
  a4 := Tryz.isAgg4
  z4 := Tryz.sizeOf4
  v4 := Tryz.zeroValue4
  t9 := Tryz.underlying9
  a9 := Tryz.isAgg9
  z9 := Tryz.sizeOf9
  v9 := Tryz.zeroValue9 }
def sh_CutPrefix_ren : Go.Shelf.Ren := ⟨fun | 103 => 102 | 210 => 131 | 206 => 155 | n => n, fun | 9 => 9 | 4 => 4 | 24 => 97 | 3 => 3 | n => n, fun | n => n⟩
theorem sh_CutPrefix : Lays.n103 Tryz.prog sh_CutPrefix_ren := {
  mixed := by kernel_rfl
  f103 := Tryz.func102.trans (congrArg some (by kernel_rfl))
  f206 := Tryz.func155.trans (congrArg some (by kernel_rfl))
  f210 := Tryz.func131.trans (congrArg some (by kernel_rfl))
  t3 := Tryz.underlying3
  a3 := Tryz.isAgg3
  z3 := Tryz.sizeOf3
  v3 := Tryz.zeroValue3
  t4 := Tryz.underlying4
  a4 := Tryz.isAgg4
  z4 := Tryz.sizeOf4
  v4 := Tryz.zeroValue4
  t9 := Tryz.underlying9
  a9 := Tryz.isAgg9
  z9 := Tryz.sizeOf9
  v9 := Tryz.zeroValue9
  t24 := Tryz.underlying97
  a24 := Tryz.isAgg97
  z24 := Tryz.sizeOf97
  v24 := Tryz.zeroValue97 }
def sh_TrimRight_ren : Go.Shelf.Ren := ⟨fun | 162 => 132 | 232 => 156 | 227 => 157 | 234 => 158 | 236 => 159 | 228 => 189 | 271 => 190 | 151 => 191 | 120 => 207 | 197 => 171 | 152 => 208 | 260 => 194 | 137 => 212 | 119 => 213 | 224 => 175 | 225 => 174 | 217 => 173 | 266 => 195 | n => n, fun | 9 => 9 | 4 => 4 | 3 => 3 | 5 => 5 | 117 => 174 | 116 => 173 | 0 => 0 | 124 => 177 | 21 => 21 | 105 => 182 | 46 => 160 | 119 => 217 | 139 => 220 | 138 => 219 | n => n, fun | 3 => 4 | 4 => 5 | n => n⟩
theorem sh_TrimRight : Lays.n162 Tryz.prog sh_TrimRight_ren := {
  mixed := by kernel_rfl
  f119 := Tryz.func213.trans (congrArg some (by kernel_rfl))
  f120 := Tryz.func207.trans (congrArg some (by kernel_rfl))
  f137 := Tryz.func212.trans (congrArg some (by kernel_rfl))
  f151 := Tryz.func191.trans (congrArg some (by kernel_rfl))
  f152 := Tryz.func208.trans (congrArg some (by kernel_rfl))
  f162 := Tryz.func132.trans (congrArg some (by kernel_rfl))
  f197 := Tryz.func171.trans (congrArg some (by kernel_rfl))
  f217 := Tryz.func173.trans (congrArg some (by kernel_rfl))
  f224 := Tryz.func175.trans (congrArg some (by kernel_rfl))
  f225 := Tryz.func174.trans (congrArg some (by kernel_rfl))
  f227 := Tryz.func157.trans (congrArg some (by kernel_rfl))
  f228 := Tryz.func189.trans (congrArg some (by kernel_rfl))
  f232 := Tryz.func156.trans (congrArg some (by kernel_rfl))
  f234 := Tryz.func158.trans (congrArg some (by kernel_rfl))
  f236 := Tryz.func159.trans (congrArg some (by kernel_rfl))
  f260 := Tryz.func194.trans (congrArg some (by kernel_rfl))
  f266 := Tryz.func195.trans (congrArg some (by kernel_rfl))
  f271 := Tryz.func190.trans (congrArg some (by kernel_rfl))
  t0 := Tryz.underlying0
  a0 := Tryz.isAgg0
  z0 := Tryz.sizeOf0
  v0 := Tryz.zeroValue0
  t3 := Tryz.underlying3
  a3 := Tryz.isAgg3
  z3 := Tryz.sizeOf3
  v3 := Tryz.zeroValue3
  t4 := Tryz.underlying4
  a4 := Tryz.isAgg4
  z4 := Tryz.sizeOf4
  v4 := Tryz.zeroValue4
  t5 := Tryz.underlying5
  a5 := Tryz.isAgg5
  z5 := Tryz.sizeOf5
  v5 := Tryz.zeroValue5
  t9 := Tryz.underlying9
  a9 := Tryz.isAgg9
  z9 := Tryz.sizeOf9
  v9 := Tryz.zeroValue9
  t21 := Tryz.underlying21
  a21 := Tryz.isAgg21
  z21 := Tryz.sizeOf21
  v21 := Tryz.zeroValue21
  t46 := Tryz.underlying160
  a46 := Tryz.isAgg160
  z46 := Tryz.sizeOf160
  v46 := Tryz.zeroValue160
  t105 := Tryz.underlying182
  a105 := Tryz.isAgg182
  z105 := Tryz.sizeOf182
  v105 := Tryz.zeroValue182
  t116 := Tryz.underlying173
  a116 := Tryz.isAgg173
  z116 := Tryz.sizeOf173
  t117 := Tryz.underlying174
  a117 := Tryz.isAgg174
  z117 := Tryz.sizeOf174
  v117 := Tryz.zeroValue174
  t119 := Tryz.underlying217
  a119 := Tryz.isAgg217
  z119 := Tryz.sizeOf217
  t124 := Tryz.underlying177
  a124 := Tryz.isAgg177
  z124 := Tryz.sizeOf177
  v124 := Tryz.zeroValue177
  t138 := Tryz.underlying219
  a138 := Tryz.isAgg219
  z138 := Tryz.sizeOf219
  v138 := Tryz.zeroValue219
  t139 := Tryz.underlying220
  a139 := Tryz.isAgg220
  z139 := Tryz.sizeOf220
  v139 := Tryz.zeroValue220
  g3 := by kernel_rfl
  g4 := by kernel_rfl }
def sh_Cut_ren : Go.Shelf.Ren := ⟨fun | 145 => 85 | 220 => 117 | 219 => 147 | 217 => 173 | 225 => 174 | 224 => 175 | 267 => 176 | 266 => 195 | 314 => 196 | n => n, fun | 9 => 9 | 4 => 4 | 59 => 112 | 3 => 3 | 5 => 5 | 46 => 160 | 146 => 204 | 51 => 203 | n => n, fun | 1 => 0 | n => n⟩
theorem sh_Cut : Lays.n145 Tryz.prog sh_Cut_ren := {
  mixed := by kernel_rfl
  f145 := Tryz.func85.trans (congrArg some (by kernel_rfl))
  f217 := Tryz.func173.trans (congrArg some (by kernel_rfl))
  f219 := Tryz.func147.trans (congrArg some (by kernel_rfl))
  f220 := Tryz.func117.trans (congrArg some (by kernel_rfl))
  f224 := Tryz.func175.trans (congrArg some (by kernel_rfl))
  f225 := Tryz.func174.trans (congrArg some (by kernel_rfl))
  f266 := Tryz.func195.trans (congrArg some (by kernel_rfl))
  f267 := Tryz.func176.trans (congrArg some (by kernel_rfl))
  f314 := Tryz.func196.trans (congrArg some (by kernel_rfl))
  t3 := Tryz.underlying3
  a3 := Tryz.isAgg3
  z3 := Tryz.sizeOf3
  v3 := Tryz.zeroValue3
  t4 := Tryz.underlying4
  a4 := Tryz.isAgg4
  z4 := Tryz.sizeOf4
  v4 := Tryz.zeroValue4
  t5 := Tryz.underlying5
  a5 := Tryz.isAgg5
  z5 := Tryz.sizeOf5
  v5 := Tryz.zeroValue5
  t9 := Tryz.underlying9
  a9 := Tryz.isAgg9
  z9 := Tryz.sizeOf9
  v9 := Tryz.zeroValue9
  t46 := Tryz.underlying160
  a46 := Tryz.isAgg160
  z46 := Tryz.sizeOf160
  v46 := Tryz.zeroValue160
  t51 := Tryz.underlying203
  a51 := Tryz.isAgg203
  z51 := Tryz.sizeOf203
  v51 := Tryz.zeroValue203
  t59 := Tryz.underlying112
  a59 := Tryz.isAgg112
  z59 := Tryz.sizeOf112
  v59 := Tryz.zeroValue112
  t146 := Tryz.underlying204
  a146 := Tryz.isAgg204
  z146 := Tryz.sizeOf204
  v146 := Tryz.zeroValue204
  g1 := by kernel_rfl }
def sh_Split_ren : Go.Shelf.Ren := ⟨fun | 146 => 101 | 221 => 116 | 268 => 144 | 138 => 145 | 143 => 146 | 195 => 170 | 197 => 171 | 218 => 172 | 219 => 147 | 260 => 194 | 217 => 173 | 225 => 174 | 224 => 175 | 267 => 176 | 266 => 195 | 314 => 196 | n => n, fun | 9 => 9 | 31 => 104 | 3 => 3 | 4 => 4 | 0 => 0 | 105 => 182 | 21 => 21 | 5 => 5 | 46 => 160 | 119 => 217 | 139 => 220 | 138 => 219 | 146 => 204 | 51 => 203 | n => n, fun | 1 => 0 | 3 => 4 | 4 => 5 | n => n⟩
theorem sh_Split : Lays.n146 Tryz.prog sh_Split_ren := {
  mixed := by kernel_rfl
  f138 := Tryz.func145.trans (congrArg some (by kernel_rfl))
  f143 := Tryz.func146.trans (congrArg some (by kernel_rfl))
  f146 := Tryz.func101.trans (congrArg some (by kernel_rfl))
  f195 := Tryz.func170.trans (congrArg some (by kernel_rfl))
  f197 := Tryz.func171.trans (congrArg some (by kernel_rfl))
  f217 := Tryz.func173.trans (congrArg some (by kernel_rfl))
  f218 := Tryz.func172.trans (congrArg some (by kernel_rfl))
  f219 := Tryz.func147.trans (congrArg some (by kernel_rfl))
  f221 := Tryz.func116.trans (congrArg some (by kernel_rfl))
  f224 := Tryz.func175.trans (congrArg some (by kernel_rfl))
  f225 := Tryz.func174.trans (congrArg some (by kernel_rfl))
  f260 := Tryz.func194.trans (congrArg some (by kernel_rfl))
  f266 := Tryz.func195.trans (congrArg some (by kernel_rfl))
  f267 := Tryz.func176.trans (congrArg some (by kernel_rfl))
  f268 := Tryz.func144.trans (congrArg some (by kernel_rfl))
  f314 := Tryz.func196.trans (congrArg some (by kernel_rfl))
  t0 := Tryz.underlying0
  a0 := Tryz.isAgg0
  z0 := Tryz.sizeOf0
  v0 := Tryz.zeroValue0
  t3 := Tryz.underlying3
  a3 := Tryz.isAgg3
  z3 := Tryz.sizeOf3
  v3 := Tryz.zeroValue3
  t4 := Tryz.underlying4
  a4 := Tryz.isAgg4
  z4 := Tryz.sizeOf4
  v4 := Tryz.zeroValue4
  t5 := Tryz.underlying5
  a5 := Tryz.isAgg5
  z5 := Tryz.sizeOf5
  v5 := Tryz.zeroValue5
  t9 := Tryz.underlying9
  a9 := Tryz.isAgg9
  z9 := Tryz.sizeOf9
  v9 := Tryz.zeroValue9
  t21 := Tryz.underlying21
  a21 := Tryz.isAgg21
  z21 := Tryz.sizeOf21
  v21 := Tryz.zeroValue21
  t31 := Tryz.underlying104
  a31 := Tryz.isAgg104
  z31 := Tryz.sizeOf104
  v31 := Tryz.zeroValue104
  t46 := Tryz.underlying160
  a46 := Tryz.isAgg160
  z46 := Tryz.sizeOf160
  v46 := Tryz.zeroValue160
  t51 := Tryz.underlying203
  a51 := Tryz.isAgg203
  z51 := Tryz.sizeOf203
  v51 := Tryz.zeroValue203
  t105 := Tryz.underlying182
  a105 := Tryz.isAgg182
  z105 := Tryz.sizeOf182
  v105 := Tryz.zeroValue182
  t119 := Tryz.underlying217
  a119 := Tryz.isAgg217
  z119 := Tryz.sizeOf217
  t138 := Tryz.underlying219
  a138 := Tryz.isAgg219
  z138 := Tryz.sizeOf219
  v138 := Tryz.zeroValue219
  t139 := Tryz.underlying220
  a139 := Tryz.isAgg220
  z139 := Tryz.sizeOf220
  v139 := Tryz.zeroValue220
  t146 := Tryz.underlying204
  a146 := Tryz.isAgg204
  z146 := Tryz.sizeOf204
  v146 := Tryz.zeroValue204
  g1 := by kernel_rfl
  g3 := by kernel_rfl
  g4 := by kernel_rfl }
def sh_SplitN_ren : Go.Shelf.Ren := ⟨fun | 147 => 84 | 221 => 116 | 268 => 144 | 138 => 145 | 143 => 146 | 195 => 170 | 197 => 171 | 218 => 172 | 219 => 147 | 260 => 194 | 217 => 173 | 225 => 174 | 224 => 175 | 267 => 176 | 266 => 195 | 314 => 196 | n => n, fun | 9 => 9 | 3 => 3 | 31 => 104 | 4 => 4 | 0 => 0 | 105 => 182 | 21 => 21 | 5 => 5 | 46 => 160 | 119 => 217 | 139 => 220 | 138 => 219 | 146 => 204 | 51 => 203 | n => n, fun | 1 => 0 | 3 => 4 | 4 => 5 | n => n⟩
theorem sh_SplitN : Lays.n147 Tryz.prog sh_SplitN_ren := {
  mixed := by kernel_rfl
  f138 := Tryz.func145.trans (congrArg some (by kernel_rfl))
  f143 := Tryz.func146.trans (congrArg some (by kernel_rfl))
  f147 := Tryz.func84.trans (congrArg some (by kernel_rfl))
  f195 := Tryz.func170.trans (congrArg some (by kernel_rfl))
  f197 := Tryz.func171.trans (congrArg some (by kernel_rfl))
  f217 := Tryz.func173.trans (congrArg some (by kernel_rfl))
  f218 := Tryz.func172.trans (congrArg some (by kernel_rfl))
  f219 := Tryz.func147.trans (congrArg some (by kernel_rfl))
  f221 := Tryz.func116.trans (congrArg some (by kernel_rfl))
  f224 := Tryz.func175.trans (congrArg some (by kernel_rfl))
  f225 := Tryz.func174.trans (congrArg some (by kernel_rfl))
  f260 := Tryz.func194.trans (congrArg some (by kernel_rfl))
  f266 := Tryz.func195.trans (congrArg some (by kernel_rfl))
  f267 := Tryz.func176.trans (congrArg some (by kernel_rfl))
  f268 := Tryz.func144.trans (congrArg some (by kernel_rfl))
  f314 := Tryz.func196.trans (congrArg some (by kernel_rfl))
  t0 := Tryz.underlying0
  a0 := Tryz.isAgg0
  z0 := Tryz.sizeOf0
  v0 := Tryz.zeroValue0
  t3 := Tryz.underlying3
  a3 := Tryz.isAgg3
  z3 := Tryz.sizeOf3
  v3 := Tryz.zeroValue3
  t4 := Tryz.underlying4
  a4 := Tryz.isAgg4
  z4 := Tryz.sizeOf4
  v4 := Tryz.zeroValue4
  t5 := Tryz.underlying5
  a5 := Tryz.isAgg5
  z5 := Tryz.sizeOf5
  v5 := Tryz.zeroValue5
  t9 := Tryz.underlying9
  a9 := Tryz.isAgg9
  z9 := Tryz.sizeOf9
  v9 := Tryz.zeroValue9
  t21 := Tryz.underlying21
  a21 := Tryz.isAgg21
  z21 := Tryz.sizeOf21
  v21 := Tryz.zeroValue21
  t31 := Tryz.underlying104
  a31 := Tryz.isAgg104
  z31 := Tryz.sizeOf104
  v31 := Tryz.zeroValue104
  t46 := Tryz.underlying160
  a46 := Tryz.isAgg160
  z46 := Tryz.sizeOf160
  v46 := Tryz.zeroValue160
  t51 := Tryz.underlying203
  a51 := Tryz.isAgg203
  z51 := Tryz.sizeOf203
  v51 := Tryz.zeroValue203
  t105 := Tryz.underlying182
  a105 := Tryz.isAgg182
  z105 := Tryz.sizeOf182
  v105 := Tryz.zeroValue182
  t119 := Tryz.underlying217
  a119 := Tryz.isAgg217
  z119 := Tryz.sizeOf217
  t138 := Tryz.underlying219
  a138 := Tryz.isAgg219
  z138 := Tryz.sizeOf219
  v138 := Tryz.zeroValue219
  t139 := Tryz.underlying220
  a139 := Tryz.isAgg220
  z139 := Tryz.sizeOf220
  v139 := Tryz.zeroValue220
  t146 := Tryz.underlying204
  a146 := Tryz.isAgg204
  z146 := Tryz.sizeOf204
  v146 := Tryz.zeroValue204
  g1 := by kernel_rfl
  g3 := by kernel_rfl
  g4 := by kernel_rfl }
def sh_Join_ren : Go.Shelf.Ren := ⟨fun | 156 => 94 | 165 => 127 | 166 => 128 | 169 => 129 | 240 => 153 | 241 => 154 | 276 => 187 | 277 => 188 | n => n, fun | 31 => 104 | 9 => 9 | 3 => 3 | 4 => 4 | 0 => 0 | 20 => 20 | 72 => 156 | 76 => 158 | 70 => 154 | 37 => 25 | 75 => 146 | 127 => 169 | 164 => 198 | 5 => 5 | 80 => 142 | n => n, fun | n => n⟩
theorem sh_Join : Lays.n156 Tryz.prog sh_Join_ren := {
  mixed := by kernel_rfl
  f156 := Tryz.func94.trans (congrArg some (by kernel_rfl))
  f165 := Tryz.func127.trans (congrArg some (by kernel_rfl))
  f166 := Tryz.func128.trans (congrArg some (by kernel_rfl))
  f169 := Tryz.func129.trans (congrArg some (by kernel_rfl))
  f240 := Tryz.func153.trans (congrArg some (by kernel_rfl))
  f241 := Tryz.func154.trans (congrArg some (by kernel_rfl))
  f276 := Tryz.func187.trans (congrArg some (by kernel_rfl))
  f277 := Tryz.func188.trans (congrArg some (by kernel_rfl))
  t0 := Tryz.underlying0
  a0 := Tryz.isAgg0
  z0 := Tryz.sizeOf0
  v0 := Tryz.zeroValue0
  t3 := Tryz.underlying3
  a3 := Tryz.isAgg3
  z3 := Tryz.sizeOf3
  v3 := Tryz.zeroValue3
  t4 := Tryz.underlying4
  a4 := Tryz.isAgg4
  z4 := Tryz.sizeOf4
  v4 := Tryz.zeroValue4
  t9 := Tryz.underlying9
  a9 := Tryz.isAgg9
  z9 := Tryz.sizeOf9
  v9 := Tryz.zeroValue9
  t20 := Tryz.underlying20
  a20 := Tryz.isAgg20
  z20 := Tryz.sizeOf20
  v20 := Tryz.zeroValue20
  t31 := Tryz.underlying104
  a31 := Tryz.isAgg104
  z31 := Tryz.sizeOf104
  v31 := Tryz.zeroValue104
  t37 := Tryz.underlying25
  a37 := Tryz.isAgg25
  z37 := Tryz.sizeOf25
  v37 := Tryz.zeroValue25
  t70 := Tryz.underlying154
  a70 := Tryz.isAgg154
  z70 := Tryz.sizeOf154
  v70 := Tryz.zeroValue154
  t72 := Tryz.underlying156
  a72 := Tryz.isAgg156
  z72 := Tryz.sizeOf156
  v72 := Tryz.zeroValue156
  t75 := Tryz.underlying146
  a75 := Tryz.isAgg146
  z75 := Tryz.sizeOf146
  v75 := Tryz.zeroValue146
  t76 := Tryz.underlying158
  a76 := Tryz.isAgg158
  z76 := Tryz.sizeOf158
  v76 := Tryz.zeroValue158
  t127 := Tryz.underlying169
  a127 := Tryz.isAgg169
  z127 := Tryz.sizeOf169
  v127 := Tryz.zeroValue169
  t164 := Tryz.underlying198
  a164 := Tryz.isAgg198
  z164 := Tryz.sizeOf198
  v164 := Tryz.zeroValue198 }
end Go.Proofs.YtmoamoopoifnlaaGreatDoor.P

namespace Go.Proofs.YtmoamoopoifnlaaGreatDoor.P
open Go.RowKit Go.Proofs.YtmoamoopoifnlaaGreatDoorW.PrintWords Go.Proofs.YtmoamoopoifnlaaGreatDoorW.PrintLast Go.Proofs.YtmoamoopoifnlaaGreatDoorW.PrintMore
attribute [local go_sem] max2_int min2_int max_two min_two max_three min_three max_four min_four str_leq str_gtr str_geq
set_option linter.unusedVariables false
set_option linter.unusedSimpArgs false
def strings_Split.t (a0 a1:ByteArray):List ByteArray:=Lib.splitB a1 0 (Lib.countB a0 a1) a0
def strings_Split.f (a0 a1:ByteArray):Option (List ByteArray):=if a0.size<1000000000∧1≤a1.size then some (strings_Split.t a0 a1) else none
theorem strings_Split.calls (a0 a1:ByteArray) (r:List ByteArray) (w:World) (hD:Door2 w) (h:strings_Split.f a0 a1=some r) :
 Calls Tryz.prog 101 #[.string a0,.string a1] w fun e w'=>∃v0_:Value,e = .returned (v0_)∧Kd.R Kd.string 9 w' w.heap.size (fun _=>True) v0_ r∧Below w.heap.size w w':=by
 unfold strings_Split.f at h
 by_cases hb:a0.size<1000000000∧1≤a1.size
 rotate_left
 ·rw [if_neg hb] at h;exact absurd h zdd
 rw [if_pos hb] at h
 obtain rfl:=Option.some.inj h
 clear h
 obtain ⟨h0,h1⟩:=hb
 obtain ⟨m,hm⟩:=hD.ml 0 zau
 unfold strings_Split.t
 have hl:=Lib.splitB_all a1 h1 0 _ a0 rfl
 have hc:=Lib.countB_le a1 h1 a0.size a0 (Nat.le_refl _)
 refine (Any.strings_Split sh_Split zau a0 a1 m w zdb hm h1).mono ?_
 rw [←hl]
 have hc2:(Lib.splitB a1 0 (Lib.countB a0 a1) a0).length≤1000000001:=by omega
 clear hl hc
 generalize Lib.splitB a1 0 (Lib.countB a0 a1) a0=l at hc2 ⊢
 rintro e w' ⟨rfl,rfl⟩
 refine ⟨_,rfl,Kd.R_of_own ⟨?_,.inr ⟨w.heap.size,l.length,(l.map Value.string).toArray,rfl,Nat.le_refl _,blk_new w _,Nat.le_refl _,by unfold maxLen;omega,?_,?_⟩⟩ (fun _ _=>trivial),below_alloc (Below.refl _ _) _⟩
 ·rw [encs_length];omega
 ·simp
 ·unfold encs
  simp
  exact List.take_of_length_le zdd

def strings_CutPrefix.f (a0 a1:ByteArray):Option (ByteArray × Bool):=some (⟨(Lib.trimPrefix a0.data.toList a1.data.toList).toArray⟩,Lib.hasPrefix a0.data.toList a1.data.toList)
theorem strings_CutPrefix.calls (a0 a1:ByteArray) (r1:ByteArray) (r2:Bool) (w:World) (h:strings_CutPrefix.f a0 a1=some (r1,r2)) :
 Calls Tryz.prog 102 #[.string a0,.string a1] w fun e w'=>e = .returned (.tuple #[.string r1,.bool r2])∧Drawn0 w w':=by
 unfold strings_CutPrefix.f at h
 obtain ⟨rfl,rfl⟩:=Prod.mk.inj (Option.some.inj h)
 refine (Any.strings_CutPrefix sh_CutPrefix a0 a1 w).mono ?_
 rintro e w' ⟨rfl,rfl⟩
 exact ⟨rfl,Drawn0.refl _⟩

def strings_SplitN.t (a0 a1:ByteArray) (a2:Int):List ByteArray:=Lib.splitB a1 0 (min a2.toNat (a0.size+1) - 1) a0
def strings_SplitN.f (a0 a1:ByteArray) (a2:Int):Option (List ByteArray):=if (a0.size<4294967281∧1≤a1.size)∧1≤a2∧a2≤1000000 then some (strings_SplitN.t a0 a1 a2) else none
theorem strings_SplitN.calls (a0 a1:ByteArray) (a2:Int) (r:List ByteArray) (w:World) (hD:Door2 w) (h:strings_SplitN.f a0 a1 a2=some r) :
 Calls Tryz.prog 84 #[.string a0,.string a1,.int .i64 a2] w fun e w'=>∃v0_:Value,e = .returned (v0_)∧Kd.R Kd.string 9 w' w.heap.size (fun _=>True) v0_ r∧Below w.heap.size w w':=by
 unfold strings_SplitN.f at h
 by_cases hb:(a0.size<4294967281∧1≤a1.size)∧1≤a2∧a2≤1000000
 rotate_left
 ·rw [if_neg hb] at h;exact absurd h zdd
 rw [if_pos hb] at h
 obtain rfl:=Option.some.inj h
 clear h
 obtain ⟨⟨h0,h1⟩,h2,h3⟩:=hb
 obtain ⟨m,hm⟩:=hD.ml 0 zau
 obtain ⟨n,rfl⟩:∃n:Nat,a2=(n:Int):=⟨a2.toNat,zdb⟩
 unfold strings_SplitN.t
 rw [show ((n:Int)).toNat=n by omega]
 have hl:=Lib.splitB_length_le a1 0 (min n (a0.size+1) - 1) a0
 refine (Any.strings_SplitN sh_SplitN zau a0 a1 n m w h0 hm h1 zdb zdb).mono ?_
 generalize Lib.splitB a1 0 (min n (a0.size+1) - 1) a0=l at hl ⊢
 rintro e w' ⟨rfl,rfl⟩
 have hc:l.length≤min n (a0.size+1):=by omega
 have hM:min n (a0.size+1)≤1000000:=by omega
 generalize min n (a0.size+1)=c at hc hM
 refine ⟨_,rfl,Kd.R_of_own ⟨?_,.inr ⟨w.heap.size,c,Lib.cellsOf l c,rfl,Nat.le_refl _,blk_new w _,hc,by unfold maxLen;omega,?_,?_⟩⟩ (fun _ _=>trivial),below_alloc (Below.refl _ _) _⟩
 ·rw [encs_length];omega
 ·unfold Lib.cellsOf
  simp
  omega
 ·unfold Lib.cellsOf encs
  simp

def impl_Decimal.t (n:Int):ByteArray:=⟨(Lib.itoa n).toArray⟩
def impl_Decimal.f (a0:Int):Option ByteArray:=if -9223372036854775808≤a0∧a0≤9223372036854775807 then some (impl_Decimal.t a0) else none
theorem impl_Decimal.calls (a0:Int) (r:ByteArray) (w:World) (hD:Door1 w) (h:impl_Decimal.f a0=some r) :
 Calls Tryz.prog 93 #[.int .i64 a0] w fun e w'=>e = .returned (.string r)∧Below w.heap.size w w':=by
 unfold impl_Decimal.f at h
 by_cases hb : -9223372036854775808≤a0∧a0≤9223372036854775807
 rotate_left
 ·rw [if_neg hb] at h;exact absurd h zdd
 rw [if_pos hb] at h
 obtain rfl:=Option.some.inj h
 clear h
 unfold impl_Decimal.t
 have HC:Calls Tryz.prog 126 #[.int .i64 a0,.int .i64 10] w fun e w'=>e = .returned (.string ⟨(Lib.itoa a0).toArray⟩)∧∃k os,w'=Sort.grow (w.drewN k) os:=Any.strconv_FormatInt_10 sh_FormatInt a0 hb.1 hb.2 w hD.tab
 clear hD hb
 generalize (⟨(Lib.itoa a0).toArray⟩:ByteArray)=s at HC
 go_enter Tryz.func93,Tryz.ntmps93
 go_wp2_with (go_at_call 126;refine HC.mono ?_;rintro e w1 ⟨rfl,k,os,rfl⟩)
 go_ret
 exact ⟨rfl,Lib.below_grow _ _ (Nat.le_refl _) _ _⟩

def impl_ReadDecimal.v (s:ByteArray):Option Int:=match Lib.parseIntB 64 s.data.toList with
 | .ok v=>if 18<(Lib.trimPrefix s.data.toList [45]).length then none else if (impl_Decimal.t v).toList=s.toList then some v else none
 | _=>none
def impl_ReadDecimal.f (a0:ByteArray):Option (Int × Bool):=if a0.size≤281474976710656 then some (match impl_ReadDecimal.v a0 with|some n=>(n,true)|none=>(0,false)) else none
theorem impl_ReadDecimal.bytes {w w1:World} {e:TypeId} (h:w1=w∨∃t,w1=Lib.bytesWorld w e t):Below w.heap.size w w1:=by
 rcases h with rfl|⟨t,rfl⟩
 ·exact Below.refl _ _
 ·exact bytes_below (Below.refl _ _) (Nat.le_refl _) e t
set_option maxHeartbeats 1600000 in
set_option maxRecDepth 100000 in
theorem impl_ReadDecimal.calls (a0:ByteArray) (r1:Int) (r2:Bool) (w:World) (hD:Door2 w) (h:impl_ReadDecimal.f a0=some (r1,r2)) :
 Calls Tryz.prog 87 #[.string a0] w fun e w'=>e = .returned (.tuple #[.int .i64 r1,.bool r2])∧Below w.heap.size w w':=by
 unfold impl_ReadDecimal.f at h
 by_cases hs:a0.size≤281474976710656
 rotate_left
 ·rw [if_neg hs] at h;exact absurd h zdd
 rw [if_pos hs] at h
 have h':=Option.some.inj h
 clear h
 unfold impl_ReadDecimal.v at h'
 have HD:=Aside0.mk hD
 obtain ⟨ts,ps,hsy⟩:=hD.syn
 obtain ⟨tr,pr,hra⟩:=hD.ran
 clear hD
 rcases hp:Lib.parseIntB 64 a0.data.toList with v|_|_
 rotate_left
 ·rw [hp] at h'
  simp only [Prod.mk.injEq] at h'
  obtain ⟨rfl,rfl⟩:=h'
  have HC:=Aside0.mk (Any.strconv_ParseInt_10_at64_syntax_var sh_ParseInt a0 hs hp ts ps w hsy)
  clear hp hs hsy hra
  go_enter Tryz.func87,Tryz.ntmps87
  go_wp2_with (go_at_call 120;refine HC.out.mono ?_;rintro e w1 ⟨N,rfl,_,_,hb⟩;have HB:=Aside0.mk hb;clear hb)
  all_goals go_ret2
  all_goals exact ⟨rfl,HB.out⟩
 ·rw [hp] at h'
  simp only [Prod.mk.injEq] at h'
  obtain ⟨rfl,rfl⟩:=h'
  have HC:=Aside0.mk (Any.strconv_ParseInt_10_at64_range_var sh_ParseInt a0 hs hp tr pr w hra)
  clear hp hs hsy hra
  go_enter Tryz.func87,Tryz.ntmps87
  go_wp2_with (go_at_call 120;refine HC.out.mono ?_;rintro e w1 ⟨N,rfl,_,_,hb⟩;have HB:=Aside0.mk hb;clear hb)
  all_goals go_ret2
  all_goals exact ⟨rfl,HB.out⟩
 ·rw [hp] at h'
  have hv:=Lib.parseIntB_bounds hp
  have HC:=Aside0.mk (Any.strconv_ParseInt_10_at64_ok sh_ParseInt a0 zdb v hp w)
  have HT:=Aside0.mk (fun w=>Any.strings_TrimPrefix sh_TrimPrefix a0 ⟨#[45]⟩ w)
  have HV:=Aside0.mk (show impl_Decimal.f v=some (impl_Decimal.t v) from if_pos ⟨zdb,zdb⟩)
  clear hp hs hsy hra hv
  have hsz:(Lib.trimPrefix a0.data.toList [45]).length=(⟨(Lib.trimPrefix a0.data.toList [45]).toArray⟩:ByteArray).size:=by
   show _=(Lib.trimPrefix a0.data.toList [45]).toArray.size;simp
  have e45:(⟨#[45]⟩:ByteArray).data.toList=[45]:=rfl
  rw [e45] at HT
  simp only [hsz] at h'
  clear hsz
  generalize (⟨(Lib.trimPrefix a0.data.toList [45]).toArray⟩:ByteArray)=tp at HT h'
  generalize impl_Decimal.t v=dv at HV h'
  clear e45
  by_cases h18:18<tp.size
  ·rw [if_pos h18] at h'
   simp only [Prod.mk.injEq] at h'
   obtain ⟨rfl,rfl⟩:=h'
   have d1:decide (18<(tp.size:Int))=true:=decide_eq_true zdb
   have d2:decide (18<tp.size)=true:=decide_eq_true h18
   clear h18
   go_enter Tryz.func87,Tryz.ntmps87
   go_wp2_with (first
   | (go_at_call 120;refine HC.out.mono ?_;rintro e w1 ⟨rfl,hw⟩;have HB:=Aside0.mk (impl_ReadDecimal.bytes hw);clear hw)
   | (go_at_call 121;refine (HT.out _).mono ?_;rintro e w1 ⟨rfl,rfl⟩)
   | (go_at_call 93;(with_reducible refine (impl_Decimal.calls v dv _ (Door2.one (Door2.at HD.out za)) HV.out).mono ?_);rintro e w2 ⟨rfl,hb⟩;have n0_:=Aside0.mk (below_step za hb);clear HB;have HB:=n0_;clear n0_ hb))
   all_goals go_ret2
   all_goals exact ⟨rfl,za⟩
  rw [if_neg h18] at h'
  have d1:decide (18<(tp.size:Int))=false:=decide_eq_false zdb
  have d2:decide (18<tp.size)=false:=decide_eq_false h18
  clear h18
  by_cases he:dv.toList=a0.toList
  ·rw [if_pos he] at h'
   simp only [Prod.mk.injEq] at h'
   obtain ⟨rfl,rfl⟩:=h'
   have e1:(dv.toList == a0.toList)=true:=beq_iff_eq.mpr he
   have e2:(dv.toList != a0.toList)=false:=bne_eq_false_iff_eq.mpr he
   clear he
   go_enter Tryz.func87,Tryz.ntmps87
   go_wp2_with (first
   | (go_at_call 120;refine HC.out.mono ?_;rintro e w1 ⟨rfl,hw⟩;have HB:=Aside0.mk (impl_ReadDecimal.bytes hw);clear hw)
   | (go_at_call 121;refine (HT.out _).mono ?_;rintro e w1 ⟨rfl,rfl⟩)
   | (go_at_call 93;(with_reducible refine (impl_Decimal.calls v dv _ (Door2.one (Door2.at HD.out za)) HV.out).mono ?_);rintro e w2 ⟨rfl,hb⟩;have n0_:=Aside0.mk (below_step za hb);clear HB;have HB:=n0_;clear n0_ hb))
   all_goals go_ret2
   all_goals exact ⟨rfl,za⟩
  ·rw [if_neg he] at h'
   simp only [Prod.mk.injEq] at h'
   obtain ⟨rfl,rfl⟩:=h'
   have e1:(dv.toList == a0.toList)=false:=beq_eq_false_iff_ne.mpr he
   have e2:(dv.toList != a0.toList)=true:=bne_iff_ne.mpr he
   clear he
   go_enter Tryz.func87,Tryz.ntmps87
   go_wp2_with (first
   | (go_at_call 120;refine HC.out.mono ?_;rintro e w1 ⟨rfl,hw⟩;have HB:=Aside0.mk (impl_ReadDecimal.bytes hw);clear hw)
   | (go_at_call 121;refine (HT.out _).mono ?_;rintro e w1 ⟨rfl,rfl⟩)
   | (go_at_call 93;(with_reducible refine (impl_Decimal.calls v dv _ (Door2.one (Door2.at HD.out za)) HV.out).mono ?_);rintro e w2 ⟨rfl,hb⟩;have n0_:=Aside0.mk (below_step za hb);clear HB;have HB:=n0_;clear n0_ hb))
   all_goals go_ret2
   all_goals exact ⟨rfl,za⟩

def strings_TrimRight.t (a0 a1:ByteArray):ByteArray:=⟨(Lib.trimRightS a0.data.toList a1.data.toList).toArray⟩
def strings_TrimRight.f (a0 a1:ByteArray):Option ByteArray:=if a0.size≤9223372036854775807∧a1.size<4294967281∧a1.data.toList.all (fun b=>decide (b.toNat<128))=true then some (strings_TrimRight.t a0 a1) else none
theorem strings_TrimRight.calls (a0 a1:ByteArray) (r:ByteArray) (w:World) (h:strings_TrimRight.f a0 a1=some r) :
 Calls Tryz.prog 132 #[.string a0,.string a1] w fun e w'=>e = .returned (.string r)∧Below w.heap.size w w':=by
 unfold strings_TrimRight.f at h
 by_cases hb:a0.size≤9223372036854775807∧a1.size<4294967281∧a1.data.toList.all (fun b=>decide (b.toNat<128))=true
 rotate_left
 ·rw [if_neg hb] at h;exact absurd h zdd
 rw [if_pos hb] at h
 obtain rfl:=Option.some.inj h
 obtain ⟨h0,h1,h2⟩:=hb
 exact Any.strings_TrimRight_laid sh_TrimRight zau a0 a1 w h0 h1 (fun j b hj=>of_decide_eq_true (List.all_eq_true.1 h2 b (List.mem_of_getElem? hj)))

def impl_ToneOf.f (a0:Int):Option (Int):=some (Int.tmod (wrap64 ((Int.tmod a0 12)+12)) 12)
set_option maxHeartbeats 8000000 in
set_option maxRecDepth 100000 in
theorem impl_ToneOf.calls (a0:Int) (r:Int) (w:World) (h:impl_ToneOf.f a0=some r) :
 Calls Tryz.prog 123 #[.int .i64 a0] w fun e w'=>e = .returned (.int .i64 r)∧Drawn0 w w':=by
 have H:(some (Int.tmod (wrap64 ((Int.tmod a0 12)+12)) 12))=some r:=h
 clear h
 obtain rfl:=Option.some.inj H
 go_enter Tryz.func123,Tryz.ntmps123
 go_wp2
 go_ret
 exact ⟨zg,zj⟩

def impl_octaveOf.f (a0:Int):Option (Int):=(impl_ToneOf.f a0).bind fun t101=>(some (wrap64 (Int.tdiv (wrap64 (a0 - t101)) 12)))
set_option maxHeartbeats 8000000 in
set_option maxRecDepth 100000 in
theorem impl_octaveOf.calls (a0:Int) (r:Int) (w:World) (h:impl_octaveOf.f a0=some r) :
 Calls Tryz.prog 124 #[.int .i64 a0] w fun e w'=>e = .returned (.int .i64 r)∧Drawn0 w w':=by
 have H:((impl_ToneOf.f a0).bind fun t101=>(some (wrap64 (Int.tdiv (wrap64 (a0 - t101)) 12))))=some r:=h
 clear h
 replace H:=Option.bind_eq_some_iff.mp H
 obtain ⟨t101,A20,H⟩:=H
 replace H:(some (wrap64 (Int.tdiv (wrap64 (a0 - t101)) 12)))=some r:=H
 have A2:=Aside0.mk A20
 clear A20
 obtain rfl:=Option.some.inj H
 go_enter Tryz.func124,Tryz.ntmps124
 go_wp2_with (first|((with_reducible refine gate_callee (f:=123) rfl ?_);refine goesL_ (some 5) rfl rfl Tryz.func123 zau rfl #[.int .i64 a0] rfl zd ?_;(with_reducible refine (impl_ToneOf.calls a0 t101 _ A2.out).mono ?_);rintro e w' ⟨rfl,⟨nd,rfl⟩⟩;refine ⟨_,rfl,?_⟩))
 go_ret
 exact ⟨zg,zj⟩

def impl_within.f (a0:Int) (a1:Int) (a2:Int):Option (Bool):=if a0≥a1 then (some (decide (a0≤a2))) else (some false)
set_option maxHeartbeats 8000000 in
set_option maxRecDepth 100000 in
theorem impl_within.calls (a0:Int) (a1:Int) (a2:Int) (r:Bool) (w:World) (h:impl_within.f a0 a1 a2=some r) :
 Calls Tryz.prog 83 #[.int .i64 a0,.int .i64 a1,.int .i64 a2] w fun e w'=>e = .returned (.bool r)∧Drawn0 w w':=by
 have H:(if a0≥a1 then (some (decide (a0≤a2))) else (some false))=some r:=h
 clear h
 by_cases c4:a0≥a1
 ·rw [if_pos c4] at H
  have c4b0:decide (a1≤a0)=true:=decide_eq_true c4
  clear c4
  obtain rfl:=Option.some.inj H
  go_enter Tryz.func83,Tryz.ntmps83
  go_wp2
  go_ret
  exact ⟨zg,zj⟩
 ·rw [if_neg c4] at H
  have c4b0:decide (a1≤a0)=false:=decide_eq_false c4
  clear c4
  obtain rfl:=Option.some.inj H
  go_enter Tryz.func83,Tryz.ntmps83
  go_wp2
  go_ret
  exact ⟨zg,zj⟩

def impl_toneOk.f (a0:Int):Option (Bool):=(impl_within.f a0 0 11).bind fun t101=>(some t101)
set_option maxHeartbeats 8000000 in
set_option maxRecDepth 100000 in
theorem impl_toneOk.calls (a0:Int) (r:Bool) (w:World) (h:impl_toneOk.f a0=some r) :
 Calls Tryz.prog 182 #[.int .i64 a0] w fun e w'=>e = .returned (.bool r)∧Drawn0 w w':=by
 have H:((impl_within.f a0 0 11).bind fun t101=>(some t101))=some r:=h
 clear h
 replace H:=Option.bind_eq_some_iff.mp H
 obtain ⟨t101,A20,H⟩:=H
 replace H:(some t101)=some r:=H
 have A2:=Aside0.mk A20
 clear A20
 obtain rfl:=Option.some.inj H
 go_enter Tryz.func182,Tryz.ntmps182
 go_wp2_with (first|((with_reducible refine gate_callee (f:=83) rfl ?_);refine goesL_ (some 4) rfl rfl Tryz.func83 zau rfl #[.int .i64 a0,.int .i64 0,.int .i64 11] rfl zd ?_;(with_reducible refine (impl_within.calls a0 0 11 t101 _ A2.out).mono ?_);rintro e w' ⟨rfl,⟨nd,rfl⟩⟩;refine ⟨_,rfl,?_⟩))
 go_ret
 exact ⟨zg,zj⟩

def impl_ToneName.f (a0:Int):Option (ByteArray):=(impl_toneOk.f a0).bind fun t101=>(if t101=true then (if 0≤a0 then (if a0≤(wrap64 (a0+1)) then (if (wrap64 (a0+1))≤12 then (some ((⟨#[83,114,82,103,71,109,77,80,100,68,110,78]⟩:ByteArray).extract (a0:Int).toNat ((wrap64 (a0+1)):Int).toNat)) else (none)) else (none)) else (none)) else (some (⟨#[]⟩:ByteArray)))
set_option maxHeartbeats 8000000 in
set_option maxRecDepth 100000 in
theorem impl_ToneName.calls (a0:Int) (r:ByteArray) (w:World) (h:impl_ToneName.f a0=some r) :
 Calls Tryz.prog 151 #[.int .i64 a0] w fun e w'=>e = .returned (.string r)∧Drawn0 w w':=by
 have H:((impl_toneOk.f a0).bind fun t101=>(if t101=true then (if 0≤a0 then (if a0≤(wrap64 (a0+1)) then (if (wrap64 (a0+1))≤12 then (some ((⟨#[83,114,82,103,71,109,77,80,100,68,110,78]⟩:ByteArray).extract (a0:Int).toNat ((wrap64 (a0+1)):Int).toNat)) else (none)) else (none)) else (none)) else (some (⟨#[]⟩:ByteArray))))=some r:=h
 clear h
 replace H:=Option.bind_eq_some_iff.mp H
 obtain ⟨t101,A20,H⟩:=H
 replace H:(if t101=true then (if 0≤a0 then (if a0≤(wrap64 (a0+1)) then (if (wrap64 (a0+1))≤12 then (some ((⟨#[83,114,82,103,71,109,77,80,100,68,110,78]⟩:ByteArray).extract (a0:Int).toNat ((wrap64 (a0+1)):Int).toNat)) else (none)) else (none)) else (none)) else (some (⟨#[]⟩:ByteArray)))=some r:=H
 have A2:=Aside0.mk A20
 clear A20
 by_cases c3:t101=true
 ·subst c3
  have H1:(if 0≤a0 then (if a0≤(wrap64 (a0+1)) then (if (wrap64 (a0+1))≤12 then (some ((⟨#[83,114,82,103,71,109,77,80,100,68,110,78]⟩:ByteArray).extract (a0:Int).toNat ((wrap64 (a0+1)):Int).toNat)) else (none)) else (none)) else (none))=some r:=by rw [if_pos rfl] at H;exact H
  clear H
  have H:=H1
  clear H1
  by_cases c4:0≤a0
  ·rw [if_pos c4] at H
   have c4b0:=eq_true c4
   have c4b1:decide (0≤a0)=true:=decide_eq_true c4
   clear c4
   by_cases c5:a0≤(wrap64 (a0+1))
   ·rw [if_pos c5] at H
    have c5b0:=eq_true c5
    have c5b1:decide (a0≤(wrap64 (a0+1)))=true:=decide_eq_true c5
    by_cases c6:(wrap64 (a0+1))≤12
    ·rw [if_pos c6] at H
     have c6b0:=eq_true c6
     have c6b1:decide ((wrap64 (a0+1))≤12)=true:=decide_eq_true c6
     obtain rfl:=Option.some.inj H
     go_enter Tryz.func151,Tryz.ntmps151
     go_wp2_with (first|((with_reducible refine gate_callee (f:=182) rfl ?_);refine goesL_ (some 4) rfl rfl Tryz.func182 zau rfl #[.int .i64 a0] rfl zd ?_;(with_reducible refine (impl_toneOk.calls a0 true _ A2.out).mono ?_);rintro e w' ⟨rfl,⟨nd,rfl⟩⟩;refine ⟨_,rfl,?_⟩))
     go_ret
     exact ⟨zg,zj⟩
    ·rw [if_neg c6] at H
     exact absurd H zdd
   ·rw [if_neg c5] at H
    exact absurd H zdd
  ·rw [if_neg c4] at H
   exact absurd H zdd
 ·replace c3:=Bool.eq_false_iff.mpr c3
  subst c3
  have H1:(some (⟨#[]⟩:ByteArray))=some r:=by rw [if_neg (show ¬ (false=true) by decide)] at H;exact H
  clear H
  have H:=H1
  clear H1
  obtain rfl:=Option.some.inj H
  go_enter Tryz.func151,Tryz.ntmps151
  go_wp2_with (first|((with_reducible refine gate_callee (f:=182) rfl ?_);refine goesL_ (some 4) rfl rfl Tryz.func182 zau rfl #[.int .i64 a0] rfl zd ?_;(with_reducible refine (impl_toneOk.calls a0 false _ A2.out).mono ?_);rintro e w' ⟨rfl,⟨nd,rfl⟩⟩;refine ⟨_,rfl,?_⟩))
  go_ret
  exact ⟨zg,zj⟩

def impl_pitchText.f (a0:Int):Option ByteArray:=(impl_ToneOf.f a0).bind fun t=>(impl_ToneName.f t).bind fun n=>(impl_octaveOf.f a0).bind fun o=>if n.size+1≤9223372036854775807 then (if o = -1 then some (n++(⟨#[44]⟩:ByteArray)) else if o=0 then some (n++(⟨#[]⟩:ByteArray)) else if o=1 then some (n++(⟨#[39]⟩:ByteArray)) else none) else none
set_option maxHeartbeats 1600000 in
set_option maxRecDepth 100000 in
theorem impl_pitchText.calls (a0:Int) (r:ByteArray) (w:World) (h:impl_pitchText.f a0=some r) :
 Calls Tryz.prog 125 #[.int .i64 a0] w fun e w'=>e = .returned (.string r)∧Drawn0 w w':=by
 unfold impl_pitchText.f at h
 obtain ⟨t,e1,h⟩:=Option.bind_eq_some_iff.1 h
 obtain ⟨n,e2,h⟩:=Option.bind_eq_some_iff.1 h
 obtain ⟨o,e3,h⟩:=Option.bind_eq_some_iff.1 h
 by_cases hn:n.size+1≤9223372036854775807
 rotate_left
 ·rw [if_neg hn] at h;cases h
 rw [if_pos hn] at h
 have A1:=Aside0.mk (fun W=>impl_ToneOf.calls a0 t W e1)
 have A2:=Aside0.mk (fun W=>impl_ToneName.calls t n W e2)
 have A3:=Aside0.mk (fun W=>impl_octaveOf.calls a0 o W e3)
 have hn1:(9223372036854775807<n.size+1)=False:=eq_false zdb
 have hn0:(9223372036854775807<n.size)=False:=eq_false zdb
 have hn2:(9223372036854775807<n.size+0)=False:=eq_false zdb
 clear e1 e2 e3 hn
 by_cases h1:o = -1
 ·subst h1
  rw [if_pos rfl] at h
  obtain rfl:=Option.some.inj h
  clear h
  have hix:∀w:World,(Instr.index 152 (.agg #[.string ⟨#[44]⟩,.string ⟨#[]⟩,.string ⟨#[39]⟩]) (.int .i64 0)).run Tryz.prog w = .ok (.string ⟨#[44]⟩) w:=fun _=>rfl
  go_enter Tryz.func125,Tryz.ntmps125
  go_wp2_with (first
   | (go_at_call 123;(with_reducible refine (A1.out _).mono ?_);rintro e w1 ⟨rfl,⟨nd,rfl⟩⟩)
   | (go_at_call 151;(with_reducible refine (A2.out _).mono ?_);rintro e w1 ⟨rfl,⟨nd,rfl⟩⟩)
   | (go_at_call 124;(with_reducible refine (A3.out _).mono ?_);rintro e w1 ⟨rfl,⟨nd,rfl⟩⟩))
  all_goals go_ret
  all_goals exact ⟨rfl,by repeat (first|exact Drawn0.refl _|apply Drawn0.drewN|apply Drawn0.drew|exact ⟨_,rfl⟩)⟩
 rw [if_neg h1] at h
 by_cases h2:o=0
 ·subst h2
  rw [if_pos rfl] at h
  obtain rfl:=Option.some.inj h
  clear h
  have hix:∀w:World,(Instr.index 152 (.agg #[.string ⟨#[44]⟩,.string ⟨#[]⟩,.string ⟨#[39]⟩]) (.int .i64 1)).run Tryz.prog w = .ok (.string ⟨#[]⟩) w:=fun _=>rfl
  go_enter Tryz.func125,Tryz.ntmps125
  go_wp2_with (first
   | (go_at_call 123;(with_reducible refine (A1.out _).mono ?_);rintro e w1 ⟨rfl,⟨nd,rfl⟩⟩)
   | (go_at_call 151;(with_reducible refine (A2.out _).mono ?_);rintro e w1 ⟨rfl,⟨nd,rfl⟩⟩)
   | (go_at_call 124;(with_reducible refine (A3.out _).mono ?_);rintro e w1 ⟨rfl,⟨nd,rfl⟩⟩))
  all_goals go_ret
  all_goals exact ⟨rfl,by repeat (first|exact Drawn0.refl _|apply Drawn0.drewN|apply Drawn0.drew|exact ⟨_,rfl⟩)⟩
 rw [if_neg h2] at h
 by_cases h3:o=1
 ·subst h3
  rw [if_pos rfl] at h
  obtain rfl:=Option.some.inj h
  clear h
  have hix:∀w:World,(Instr.index 152 (.agg #[.string ⟨#[44]⟩,.string ⟨#[]⟩,.string ⟨#[39]⟩]) (.int .i64 2)).run Tryz.prog w = .ok (.string ⟨#[39]⟩) w:=fun _=>rfl
  go_enter Tryz.func125,Tryz.ntmps125
  go_wp2_with (first
   | (go_at_call 123;(with_reducible refine (A1.out _).mono ?_);rintro e w1 ⟨rfl,⟨nd,rfl⟩⟩)
   | (go_at_call 151;(with_reducible refine (A2.out _).mono ?_);rintro e w1 ⟨rfl,⟨nd,rfl⟩⟩)
   | (go_at_call 124;(with_reducible refine (A3.out _).mono ?_);rintro e w1 ⟨rfl,⟨nd,rfl⟩⟩))
  all_goals go_ret
  all_goals exact ⟨rfl,by repeat (first|exact Drawn0.refl _|apply Drawn0.drewN|apply Drawn0.drew|exact ⟨_,rfl⟩)⟩
 rw [if_neg h3] at h;cases h

def impl_pitchNamed.q (a:ByteArray) (p:Int):Option Bool:=(impl_pitchText.f p).bind fun r=>some (r.toList == a.toList)
def impl_pitchNamed.lst (q:Int→Option Bool):Nat→Int→Option (Int × Bool)
 | 0,_=>some (0,false)
 | n+1,p=>(q p).bind fun b=>if b=true then some (p,true) else impl_pitchNamed.lst q n (p+1)
def impl_pitchNamed.f (a:ByteArray):Option (Int × Bool):=impl_pitchNamed.lst (impl_pitchNamed.q a) 36 (-12)
set_option maxHeartbeats 1600000 in
set_option maxRecDepth 100000 in
theorem impl_pitchNamed.clo (a:ByteArray) (p:Int) (b:Bool) (C:Addr) (w:World) (h3:w.cell? C=some (.string a)) (h:impl_pitchNamed.q a p=some b) :
 Calls Tryz.prog 160 #[.int .i64 p,.pointer (some C)] w fun e w'=>e = .returned (.bool b)∧Below w.heap.size w w':=by
 unfold impl_pitchNamed.q at h
 obtain ⟨r,e1,h⟩:=Option.bind_eq_some_iff.1 h
 obtain rfl:=Option.some.inj h
 clear h
 have HC:=Aside0.mk (fun W=>impl_pitchText.calls p r W e1)
 have hp1:=fun (w:World) (h1:w.cell? C=some (.string a)) (o:Obj)=>(pw_cell_below (below_alloc (Below.refl _ _) o) h1:(w.alloc o).cell? C=some (.string a))
 have h3':=fun o=>hp1 w h3 o
 clear e1
 go_enter Tryz.func160,Tryz.ntmps160
 go_wp2_with fail
 go_region_held3 (fun w'=>w'.cell? C=some (.string a)) (go_keep) (first|(go_at_call 125;refine (HC.out _).mono ?_;rintro e w1 ⟨rfl,⟨nd,rfl⟩⟩))
 all_goals go_wp2
 all_goals go_ret
 all_goals exact ⟨rfl,by repeat (first|(with_reducible first|exact Below.refl _ _|apply below_alloc|apply pw_below_drewN|apply below_drew1)|exact Below.refl _ _)⟩
set_option maxHeartbeats 1600000 in
set_option maxRecDepth 100000 in
theorem impl_pitchNamed.lstC (q:Int→Option Bool) (c0:Value) (r1:Int) (r2:Bool) (w:World)
 (hclo:∀(p:Int) (b:Bool) (W:World),Below w.heap.size w W→q p=some b→Calls Tryz.prog 160 #[.int .i64 p,c0] W fun e W'=>e = .returned (.bool b)∧Below W.heap.size W W')
 (h:impl_pitchNamed.lst q 36 (-12)=some (r1,r2)) :
 Calls Tryz.prog 118 #[.int .i64 (-12),.int .i64 23,.func (.func 160) #[] #[c0]] w fun e w'=>e = .returned (.tuple #[.int .i64 r1,.bool r2])∧Below w.heap.size w w':=by
 have HCL:=Aside0.mk hclo
 have HH:=Aside0.mk h
 clear hclo h
 go_enter Tryz.func118,Tryz.ntmps118
 go_wp2_with fail
 go_loopw [8] (fun i wr=>∃p:Int,-12≤p∧p≤24∧i = .int .i64 p∧Aside0 (impl_pitchNamed.lst q (24 - p).toNat p=some (r1,r2))∧Aside0 (Below w.heap.size w wr)) (fun i _=>(30 - intOf i).toNat)
 case atStart=>exact ⟨-12,zdb,zdb,rfl,HH,⟨Below.refl _ _⟩⟩
 case round=>
  obtain ⟨p,hp0,hp1,rfl,HN,HB⟩:=hrel
  by_cases hlt:p<24
  ·have hd:decide (p≤23)=true:=decide_eq_true zdb
   have hn:=HN.out
   obtain ⟨m,hm⟩:∃m,(24 - p).toNat=m+1:=⟨(23 - p).toNat,zdb⟩
   rw [hm] at hn
   simp only [impl_pitchNamed.lst] at hn
   obtain ⟨b,hq,hn⟩:=Option.bind_eq_some_iff.1 hn
   have HG:=Aside0.mk (HCL.out p b wr HB.out hq)
   have HM:=Aside0.mk hm
   clear hm hq
   cases b with
   | true=>
    rw [if_pos rfl] at hn
    obtain ⟨rfl,rfl⟩:=Prod.mk.inj (Option.some.inj hn)
    clear hn
    go_wp2_with (go_at_call 160;refine HG.out.mono ?_;rintro e w1 ⟨rfl,hb1⟩;have HB1:=Aside0.mk (below_step HB.out hb1);clear hb1)
    go_ret2
    exact ⟨rfl,HB1.out⟩
   | false=>
    rw [if_neg zbl] at hn
    have HN2:=Aside0.mk hn
    clear hn
    go_wp2_with (go_at_call 160;refine HG.out.mono ?_;rintro e w1 ⟨rfl,hb1⟩;have HB1:=Aside0.mk (below_step HB.out hb1);clear hb1)
    go_roundw
    case rel=>
     refine ⟨p+1,zdb,zdb,by go_num,⟨?_⟩,HB1⟩
     have hm:=HM.out
     rw [show (24 - (p+1)).toNat=m by omega]
     exact HN2.out
    case measure=>simp [intOf];omega
  ·obtain rfl:p=24:=by omega
   have hd:decide ((24:Int)≤23)=false:=by decide
   have hn:=HN.out
   simp only [Int.sub_self,Int.toNat_zero,impl_pitchNamed.lst] at hn
   obtain ⟨rfl,rfl⟩:=Prod.mk.inj (Option.some.inj hn)
   clear hn
   go_wp2_with fail
   go_ret2
   exact ⟨rfl,HB.out⟩
set_option maxHeartbeats 1600000 in
set_option maxRecDepth 100000 in
theorem impl_pitchNamed.calls (a0:ByteArray) (r1:Int) (r2:Bool) (w:World) (h:impl_pitchNamed.f a0=some (r1,r2)) :
 Calls Tryz.prog 133 #[.string a0] w fun e w'=>e = .returned (.tuple #[.int .i64 r1,.bool r2])∧Below w.heap.size w w':=by
 unfold impl_pitchNamed.f at h
 have hmf:∀(fn:Fn) (first cap:Array Value) (w:World),(Instr.makeFunc fn first cap).run Tryz.prog w = .ok (.func fn first cap) w:=fun _ _ _ _=>rfl
 have HW:∀W3:World,W3=w.alloc (.cells #[.string a0] 9)→Below w.heap.size w W3∧W3.cell? ⟨w.heap.size,0,none⟩=some (.string a0):=by
  rintro W3 rfl
  exact ⟨below_alloc (Below.refl _ _) _,(blk_cell (blk_new w _) 0).trans rfl⟩
 obtain ⟨hb3,k3⟩:=HW _ rfl
 have HC:=Aside0.mk (impl_pitchNamed.lstC (impl_pitchNamed.q a0) (.pointer (some ⟨w.heap.size,0,none⟩)) r1 r2 _ (fun p b W hW hq=>impl_pitchNamed.clo a0 p b _ W (pw_cell_below hW k3) hq) h)
 have HB3:=Aside0.mk hb3
 clear hb3 k3 HW h
 go_enter Tryz.func133,Tryz.ntmps133
 go_wp2_with (go_at_call 118;refine HC.out.mono ?_;rintro e w1 ⟨rfl,hb⟩;have HB:=Aside0.mk (below_step HB3.out hb);clear hb)
 go_ret2
 exact ⟨rfl,HB.out⟩

def impl_pitchOk.f (a0:Int):Option (Bool):=(impl_within.f a0 (-12) 23).bind fun t101=>(some t101)
set_option maxHeartbeats 8000000 in
set_option maxRecDepth 100000 in
theorem impl_pitchOk.calls (a0:Int) (r:Bool) (w:World) (h:impl_pitchOk.f a0=some r) :
 Calls Tryz.prog 90 #[.int .i64 a0] w fun e w'=>e = .returned (.bool r)∧Drawn0 w w':=by
 have H:((impl_within.f a0 (-12) 23).bind fun t101=>(some t101))=some r:=h
 clear h
 replace H:=Option.bind_eq_some_iff.mp H
 obtain ⟨t101,A20,H⟩:=H
 replace H:(some t101)=some r:=H
 have A2:=Aside0.mk A20
 clear A20
 obtain rfl:=Option.some.inj H
 go_enter Tryz.func90,Tryz.ntmps90
 go_wp2_with (first|((with_reducible refine gate_callee (f:=83) rfl ?_);refine goesL_ (some 4) rfl rfl Tryz.func83 zau rfl #[.int .i64 a0,.int .i64 (-12),.int .i64 23] rfl zd ?_;(with_reducible refine (impl_within.calls a0 (-12) 23 t101 _ A2.out).mono ?_);rintro e w' ⟨rfl,⟨nd,rfl⟩⟩;refine ⟨_,rfl,?_⟩))
 go_ret
 exact ⟨zg,zj⟩

def impl_lengthOk.f (a0:Int):Option (Bool):=(impl_within.f a0 1 64).bind fun t101=>(some t101)
set_option maxHeartbeats 8000000 in
set_option maxRecDepth 100000 in
theorem impl_lengthOk.calls (a0:Int) (r:Bool) (w:World) (h:impl_lengthOk.f a0=some r) :
 Calls Tryz.prog 91 #[.int .i64 a0] w fun e w'=>e = .returned (.bool r)∧Drawn0 w w':=by
 have H:((impl_within.f a0 1 64).bind fun t101=>(some t101))=some r:=h
 clear h
 replace H:=Option.bind_eq_some_iff.mp H
 obtain ⟨t101,A20,H⟩:=H
 replace H:(some t101)=some r:=H
 have A2:=Aside0.mk A20
 clear A20
 obtain rfl:=Option.some.inj H
 go_enter Tryz.func91,Tryz.ntmps91
 go_wp2_with (first|((with_reducible refine gate_callee (f:=83) rfl ?_);refine goesL_ (some 4) rfl rfl Tryz.func83 zau rfl #[.int .i64 a0,.int .i64 1,.int .i64 64] rfl zd ?_;(with_reducible refine (impl_within.calls a0 1 64 t101 _ A2.out).mono ?_);rintro e w' ⟨rfl,⟨nd,rfl⟩⟩;refine ⟨_,rfl,?_⟩))
 go_ret
 exact ⟨zg,zj⟩

def impl_ValidMelody.l0:Nat→List (S67)→Int→Int→Option (Bool)
 | 0,_,_,_=>none
 | k+1,x8,x9,x10=>if x10<x9 then (if 0≤x10 then (if x10<(x8.length:Int) then ((impl_pitchOk.f ((rd_T67 x8 x10).f0)).bind fun t103=>(if t103=true then ((impl_lengthOk.f ((rd_T67 x8 x10).f1)).bind fun t104=>(if t104=true then (impl_ValidMelody.l0 k x8 x9 (wrap64 (x10+1))) else (some false))) else (some false))) else (none)) else (none)) else (some true)
def impl_ValidMelody.f (k:Nat) (l0:List (S67)):Option (Bool):=if (l0.length:Int) > 48 then (some false) else (impl_ValidMelody.l0 k l0 (l0.length:Int) 0)
set_option maxHeartbeats 8000000 in
set_option maxRecDepth 100000 in
theorem impl_ValidMelody.calls (k:Nat) (A0:Option Addr) (c0:Nat) (l0:List (S67)) (r:Bool) (w:World) (hr0:Kd.C k67 w A0 l0.length l0) (hc0:l0.length≤c0) (h:impl_ValidMelody.f k l0=some r) :
 Calls Tryz.prog 70 #[.slice A0 l0.length c0] w fun e w'=>e = .returned (.bool r)∧Below w.heap.size w w':=by
 have hu67:=Tryz.underlying67
 have HR0:=Aside0.mk hr0
 have HC0:=Aside0.mk hc0
 clear hr0 hc0
 have HB:=Aside0.mk (Below.refl w.heap.size w)
 have H:(if (l0.length:Int) > 48 then (some false) else (impl_ValidMelody.l0 k l0 (l0.length:Int) 0))=some r:=h
 clear h
 by_cases c2:(l0.length:Int) > 48
 ·rw [if_pos c2] at H
  have c2b0:decide (48<(l0.length:Int))=true:=decide_eq_true c2
  have c2b1:decide (48<l0.length)=true:=decide_eq_true zdb
  clear c2
  obtain rfl:=Option.some.inj H
  go_enter Tryz.func70,Tryz.ntmps70
  go_wp2
  go_ret
  exact ⟨zi,za⟩
 ·rw [if_neg c2] at H
  have c2b0:decide (48<(l0.length:Int))=false:=decide_eq_false c2
  have c2b1:decide (48<l0.length)=false:=decide_eq_false zdb
  clear c2
  have H':=Aside0.mk H
  clear H
  go_enter Tryz.func70,Tryz.ntmps70
  go_wp2
  go_loopg [10] k (fun kq v10 w'=>∃(x10_1:Int),v10 = .int .i64 x10_1∧Aside0 (impl_ValidMelody.l0 kq l0 (l0.length:Int) x10_1=some r)∧Aside0 (kq≤k)∧Aside0 (Below w.heap.size w w'))
  case atStart=>exact ⟨(0),zg,H',⟨Nat.le_refl _⟩,⟨za⟩⟩
  case round=>
   clear H'
   try clear c2
   try clear c2b0
   try clear c2b1
   try clear p2
   obtain ⟨x10_1,rfl,HA,HK1,HB⟩:=hrel
   cases gk with
   | zero=>exact absurd HA.out (by simp [impl_ValidMelody.l0])
   | succ k1=>
    have H:=HA.out
    clear HA
    simp only [impl_ValidMelody.l0] at H
    by_cases c3:x10_1<(l0.length:Int)
    ·rw [if_pos c3] at H
     have c3b0:decide (x10_1<(l0.length:Int))=true:=decide_eq_true c3
     clear c3
     by_cases c4:0≤x10_1
     ·rw [if_pos c4] at H
      have c4b0:decide (0≤x10_1)=true:=decide_eq_true c4
      clear c4
      by_cases c5:x10_1<(l0.length:Int)
      ·rw [if_pos c5] at H
       have c5b0:decide (x10_1<(l0.length:Int))=true:=decide_eq_true c5
       clear c5
       replace H:=Option.bind_eq_some_iff.mp H
       obtain ⟨t103,A60,H⟩:=H
       replace H:(if t103=true then ((impl_lengthOk.f ((rd_T67 l0 x10_1).f1)).bind fun t104=>(if t104=true then (impl_ValidMelody.l0 k1 l0 (l0.length:Int) (wrap64 (x10_1+1))) else (some false))) else (some false))=some r:=H
       have A6:=Aside0.mk A60
       clear A60
       by_cases c7:t103=true
       ·subst c7
        have H1:((impl_lengthOk.f ((rd_T67 l0 x10_1).f1)).bind fun t104=>(if t104=true then (impl_ValidMelody.l0 k1 l0 (l0.length:Int) (wrap64 (x10_1+1))) else (some false)))=some r:=by rw [if_pos rfl] at H;exact H
        clear H
        have H:=H1
        clear H1
        replace H:=Option.bind_eq_some_iff.mp H
        obtain ⟨t104,A80,H⟩:=H
        replace H:(if t104=true then (impl_ValidMelody.l0 k1 l0 (l0.length:Int) (wrap64 (x10_1+1))) else (some false))=some r:=H
        have A8:=Aside0.mk A80
        clear A80
        by_cases c9:t104=true
        ·subst c9
         have H1:(impl_ValidMelody.l0 k1 l0 (l0.length:Int) (wrap64 (x10_1+1)))=some r:=by rw [if_pos rfl] at H;exact H
         clear H
         have H:=H1
         clear H1
         have H':=Aside0.mk H
         clear H
         have p101:0≤(x10_1:Int):=of_decide_eq_true ze
         have q101:x10_1<(l0.length:Int):=of_decide_eq_true ze
         obtain ⟨ad101,e101,hx101_0,hx101_1⟩:=at_T67 HR0.out x10_1 p101 q101
         cases e101
         replace hx101_0:=(HB.out.cell (World.block_lt_of_cell? w _ hx101_0)).trans hx101_0
         replace hx101_1:=(HB.out.cell (World.block_lt_of_cell? w _ hx101_1)).trans hx101_1
         replace p101:=eq_true p101
         replace q101:=eq_true q101
         go_wp2_with (first|((with_reducible refine gate_dst (N:=4) rfl ?_);refine box_event ?hg (N:=4) ?hd (cs:=#[.int .i64 0,.int .i64 0]) (t:=67) ?hr ?_;(case hd=>rfl);(case hg=>rfl);(case hr=>exact zy);intro gb102 hg w10 hbox hb;have n0_:=Aside0.mk (below_step za hb);have n1_:=Aside0.mk (hbox);have n2_:=Aside0.mk ((by rw [hg];exact (below_size za):w.heap.size≤gb102));have n3_:=Aside0.mk ((by rw [hg];exact (below_size za):w.heap.size≤gb102));clear HB;have HB:=n0_;have BK102:=n1_;have GW102:=n2_;have GE102:=n3_;clear n0_ n1_ n2_ n3_;clear hb hbox hg;have hcz11_0:w10.cell? ⟨gb102,0,none⟩=some (.int .i64 0):=(blk_cell BK102.out 0).trans rfl;have hcz11_1:w10.cell? ⟨gb102,1,none⟩=some (.int .i64 0):=(blk_cell BK102.out 1).trans rfl;have hfz11_0:=blk_frozen BK102.out 0;have hfz11_1:=blk_frozen BK102.out 1)|((with_reducible refine gate_callee (f:=90) rfl ?_);refine goesL_ (some 16) rfl rfl Tryz.func90 zau rfl #[.int .i64 ((rd_T67 l0 x10_1).f0)] rfl zd ?_;(with_reducible refine (impl_pitchOk.calls ((rd_T67 l0 x10_1).f0) true _ A6.out).mono ?_);rintro e w' ⟨rfl,⟨nd,rfl⟩⟩;refine ⟨_,rfl,?_⟩)|(go_at_call 91;(with_reducible refine (impl_lengthOk.calls ((rd_T67 l0 x10_1).f1) true _ A8.out).mono ?_);rintro e w' ⟨rfl,⟨nd,rfl⟩⟩))
         go_roundg k1
         case measure=>have:=HK1.out;omega
         case rel=>exact ⟨(wrap64 (x10_1+1)),zg,H',⟨zdo⟩,⟨zdp⟩⟩
        ·replace c9:=Bool.eq_false_iff.mpr c9
         subst c9
         have H1:(some false)=some r:=by rw [if_neg (show ¬ (false=true) by decide)] at H;exact H
         clear H
         have H:=H1
         clear H1
         obtain rfl:=Option.some.inj H
         have p101:0≤(x10_1:Int):=of_decide_eq_true ze
         have q101:x10_1<(l0.length:Int):=of_decide_eq_true ze
         obtain ⟨ad101,e101,hx101_0,hx101_1⟩:=at_T67 HR0.out x10_1 p101 q101
         cases e101
         replace hx101_0:=(HB.out.cell (World.block_lt_of_cell? w _ hx101_0)).trans hx101_0
         replace hx101_1:=(HB.out.cell (World.block_lt_of_cell? w _ hx101_1)).trans hx101_1
         replace p101:=eq_true p101
         replace q101:=eq_true q101
         go_wp2_with (first|((with_reducible refine gate_dst (N:=4) rfl ?_);refine box_event ?hg (N:=4) ?hd (cs:=#[.int .i64 0,.int .i64 0]) (t:=67) ?hr ?_;(case hd=>rfl);(case hg=>rfl);(case hr=>exact zy);intro gb102 hg w12 hbox hb;have n0_:=Aside0.mk (below_step za hb);have n1_:=Aside0.mk (hbox);have n2_:=Aside0.mk ((by rw [hg];exact (below_size za):w.heap.size≤gb102));have n3_:=Aside0.mk ((by rw [hg];exact (below_size za):w.heap.size≤gb102));clear HB;have HB:=n0_;have BK102:=n1_;have GW102:=n2_;have GE102:=n3_;clear n0_ n1_ n2_ n3_;clear hb hbox hg;have hcz13_0:w12.cell? ⟨gb102,0,none⟩=some (.int .i64 0):=(blk_cell BK102.out 0).trans rfl;have hcz13_1:w12.cell? ⟨gb102,1,none⟩=some (.int .i64 0):=(blk_cell BK102.out 1).trans rfl;have hfz13_0:=blk_frozen BK102.out 0;have hfz13_1:=blk_frozen BK102.out 1)|((with_reducible refine gate_callee (f:=90) rfl ?_);refine goesL_ (some 16) rfl rfl Tryz.func90 zau rfl #[.int .i64 ((rd_T67 l0 x10_1).f0)] rfl zd ?_;(with_reducible refine (impl_pitchOk.calls ((rd_T67 l0 x10_1).f0) true _ A6.out).mono ?_);rintro e w' ⟨rfl,⟨nd,rfl⟩⟩;refine ⟨_,rfl,?_⟩)|(go_at_call 91;(with_reducible refine (impl_lengthOk.calls ((rd_T67 l0 x10_1).f1) false _ A8.out).mono ?_);rintro e w' ⟨rfl,⟨nd,rfl⟩⟩))
         go_ret
         exact ⟨zi,zdp⟩
       ·replace c7:=Bool.eq_false_iff.mpr c7
        subst c7
        have H1:(some false)=some r:=by rw [if_neg (show ¬ (false=true) by decide)] at H;exact H
        clear H
        have H:=H1
        clear H1
        obtain rfl:=Option.some.inj H
        have p101:0≤(x10_1:Int):=of_decide_eq_true ze
        have q101:x10_1<(l0.length:Int):=of_decide_eq_true ze
        obtain ⟨ad101,e101,hx101_0,hx101_1⟩:=at_T67 HR0.out x10_1 p101 q101
        cases e101
        replace hx101_0:=(HB.out.cell (World.block_lt_of_cell? w _ hx101_0)).trans hx101_0
        replace hx101_1:=(HB.out.cell (World.block_lt_of_cell? w _ hx101_1)).trans hx101_1
        replace p101:=eq_true p101
        replace q101:=eq_true q101
        go_wp2_with (first|((with_reducible refine gate_dst (N:=4) rfl ?_);refine box_event ?hg (N:=4) ?hd (cs:=#[.int .i64 0,.int .i64 0]) (t:=67) ?hr ?_;(case hd=>rfl);(case hg=>rfl);(case hr=>exact zy);intro gb102 hg w14 hbox hb;have n0_:=Aside0.mk (below_step za hb);have n1_:=Aside0.mk (hbox);have n2_:=Aside0.mk ((by rw [hg];exact (below_size za):w.heap.size≤gb102));have n3_:=Aside0.mk ((by rw [hg];exact (below_size za):w.heap.size≤gb102));clear HB;have HB:=n0_;have BK102:=n1_;have GW102:=n2_;have GE102:=n3_;clear n0_ n1_ n2_ n3_;clear hb hbox hg;have hcz15_0:w14.cell? ⟨gb102,0,none⟩=some (.int .i64 0):=(blk_cell BK102.out 0).trans rfl;have hcz15_1:w14.cell? ⟨gb102,1,none⟩=some (.int .i64 0):=(blk_cell BK102.out 1).trans rfl;have hfz15_0:=blk_frozen BK102.out 0;have hfz15_1:=blk_frozen BK102.out 1)|((with_reducible refine gate_callee (f:=90) rfl ?_);refine goesL_ (some 16) rfl rfl Tryz.func90 zau rfl #[.int .i64 ((rd_T67 l0 x10_1).f0)] rfl zd ?_;(with_reducible refine (impl_pitchOk.calls ((rd_T67 l0 x10_1).f0) false _ A6.out).mono ?_);rintro e w' ⟨rfl,⟨nd,rfl⟩⟩;refine ⟨_,rfl,?_⟩))
        go_ret
        exact ⟨zi,zdp⟩
      ·rw [if_neg c5] at H
       exact absurd H zdd
     ·rw [if_neg c4] at H
      exact absurd H zdd
    ·rw [if_neg c3] at H
     have c3b0:decide (x10_1<(l0.length:Int))=false:=decide_eq_false c3
     clear c3
     obtain rfl:=Option.some.inj H
     go_wp2
     go_ret
     exact ⟨zi,za⟩

theorem sh_Join_X:Builder.Extra Tryz.prog sh_Join_ren:={ sizeBuilder:=by kernel_rfl,liesBuilder:=by kernel_rfl,t5:=Tryz.underlying5,a5:=Tryz.isAgg5,z5:=Tryz.sizeOf5,v5:=Tryz.zeroValue5,infoByte:=by kernel_rfl,cellsByte:=by kernel_rfl,sizeByte:=by kernel_rfl,neB5:=by decide }
def strings_Join.t (l0:List ByteArray) (a1:ByteArray):ByteArray:=⟨(Lib.join (l0.map (·.data.toList)) a1.data.toList).toArray⟩
def strings_Join.f (l0:List ByteArray) (a1:ByteArray):Option ByteArray:=if l0.length≤1000000∧(strings_Join.t l0 a1).size≤140737488355328 then some (strings_Join.t l0 a1) else none
theorem strings_Join.calls (A0:Option Addr) (c0:Nat) (l0:List ByteArray) (a1:ByteArray) (r:ByteArray) (w:World) (hr0:Kd.C Kd.string w A0 l0.length l0) (hc0:l0.length≤c0) (h:strings_Join.f l0 a1=some r) :
 Calls Tryz.prog 94 #[.slice A0 l0.length c0,.string a1] w fun e w'=>e = .returned (.string r)∧Below w.heap.size w w':=by
 unfold strings_Join.f at h
 by_cases hb:l0.length≤1000000∧(strings_Join.t l0 a1).size≤140737488355328
 rotate_left
 ·rw [if_neg hb] at h;exact absurd h zdd
 rw [if_pos hb] at h
 obtain rfl:=Option.some.inj h
 obtain ⟨hb1,hb2⟩:=hb
 have hsz:(strings_Join.t l0 a1).size=(Lib.join (l0.map (·.data.toList)) a1.data.toList).length:=by
  unfold strings_Join.t;show (Lib.join (l0.map (·.data.toList)) a1.data.toList).toArray.size=_;simp
 rw [hsz] at hb2
 unfold strings_Join.t
 have hR:=Kd.reads_of_C (enc:=Value.string) (d:=ByteArray.empty) (h1:=fun _=>rfl) hr0
 by_cases h0:l0.length=0
 ·obtain rfl:=List.eq_nil_of_length_eq_zero h0
  refine (Any.strings_Join_none sh_Join sh_Join_X A0 c0 a1 w).mono ?_
  rintro e w' ⟨rfl,rfl⟩
  exact ⟨rfl,Below.refl _ _⟩
 ·obtain ⟨ad,rfl,hc⟩:=hR.2.2 zdb
  obtain ⟨bk,o,sp⟩:=ad
  have hsp:sp=none:=by
   have h1:=hc 0 zdb
   cases sp with
   | none=>rfl
   | some s=>
    exfalso
    unfold World.cell? at h1
    simp only [Addr.add] at h1
    split at h1
    ·simp at h1
    ·simp at h1
  subst hsp
  have hlt:bk<w.heap.size:=World.block_lt_of_cell? _ _ (hc 0 zdb)
  refine (Any.strings_Join sh_Join sh_Join_X bk o c0 l0 a1 w (fun j x hx=>?_) hlt zdb hc0 hb2).mono ?_
  ·obtain ⟨hj,rfl⟩:=List.getElem?_eq_some_iff.1 hx
   have:=hc j hj
   rw [List.getD_eq_getElem?_getD,List.getElem?_eq_getElem hj,Option.getD_some,show (⟨bk,o,none⟩:Addr).add j=⟨bk,o+j,none⟩ from by simp [Addr.add]] at this
   exact this
  ·rintro e w' ⟨rfl,hb⟩
   exact ⟨rfl,hb⟩

def impl_MelodyText.l0:Nat→List ByteArray→List (S67)→Int→Int→Option (ByteArray)
 | 0,_,_,_,_=>none
 | k+1,x3,x15,x16,x17=>if x17<x16 then (if 0≤x17 then (if x17<(x15.length:Int) then ((impl_pitchText.f ((rd_T67 x15 x17).f0)).bind fun t105=>(if ((rd_T67 x15 x17).f1)=1 then (if x3.length<8796093022208 then (impl_MelodyText.l0 k (x3++[t105]) x15 x16 (wrap64 (x17+1))) else (none)) else ((impl_Decimal.f ((rd_T67 x15 x17).f1)).bind fun t109=>(if t105.size+t109.size≤9223372036854775807 then (if x3.length<8796093022208 then (impl_MelodyText.l0 k (x3++[t105++t109]) x15 x16 (wrap64 (x17+1))) else (none)) else (none))))) else (none)) else (none)) else ((strings_Join.f x3 (⟨#[32]⟩:ByteArray)).bind fun t102=>(some t102))
def impl_MelodyText.f (k:Nat) (l0:List (S67)):Option (ByteArray):=(impl_ValidMelody.f k l0).bind fun t101=>(if t101=true then (if (l0.length:Int)=0 then (some (⟨#[45]⟩:ByteArray)) else (impl_MelodyText.l0 k ([]:List ByteArray) l0 (l0.length:Int) 0)) else (some (⟨#[]⟩:ByteArray)))
set_option maxHeartbeats 8000000 in
set_option maxRecDepth 100000 in
theorem impl_MelodyText.calls (k:Nat) (A0:Option Addr) (c0:Nat) (l0:List (S67)) (r:ByteArray) (w:World) (hD:Door1 w) (hr0:Kd.C k67 w A0 l0.length l0) (hc0:l0.length≤c0) (h:impl_MelodyText.f k l0=some r) :
 Calls Tryz.prog 134 #[.slice A0 l0.length c0] w fun e w'=>e = .returned (.string r)∧Below w.heap.size w w':=by
 have hu67:=Tryz.underlying67
 have HD:=Aside0.mk hD
 clear hD
 have HR0:=Aside0.mk hr0
 have HC0:=Aside0.mk hc0
 clear hr0 hc0
 have HB:=Aside0.mk (Below.refl w.heap.size w)
 have H:((impl_ValidMelody.f k l0).bind fun t101=>(if t101=true then (if (l0.length:Int)=0 then (some (⟨#[45]⟩:ByteArray)) else (impl_MelodyText.l0 k ([]:List ByteArray) l0 (l0.length:Int) 0)) else (some (⟨#[]⟩:ByteArray))))=some r:=h
 clear h
 replace H:=Option.bind_eq_some_iff.mp H
 obtain ⟨t101,A20,H⟩:=H
 replace H:(if t101=true then (if (l0.length:Int)=0 then (some (⟨#[45]⟩:ByteArray)) else (impl_MelodyText.l0 k ([]:List ByteArray) l0 (l0.length:Int) 0)) else (some (⟨#[]⟩:ByteArray)))=some r:=H
 have A2:=Aside0.mk A20
 clear A20
 by_cases c3:t101=true
 ·subst c3
  have H1:(if (l0.length:Int)=0 then (some (⟨#[45]⟩:ByteArray)) else (impl_MelodyText.l0 k ([]:List ByteArray) l0 (l0.length:Int) 0))=some r:=by rw [if_pos rfl] at H;exact H
  clear H
  have H:=H1
  clear H1
  by_cases c4:(l0.length:Int)=0
  ·rw [if_pos c4] at H
   have c4b0:((l0.length:Int) == 0)=true:=beq_iff_eq.mpr c4
   have c4b1:((l0.length:Int) != 0)=false:=bne_eq_false_iff_eq.mpr c4
   clear c4
   obtain rfl:=Option.some.inj H
   go_enter Tryz.func134,Tryz.ntmps134
   go_wp2_with (first|((with_reducible refine gate_callee (f:=70) rfl ?_);refine goesL_ (some 9) rfl rfl Tryz.func70 zau rfl #[.slice A0 l0.length c0] rfl zd ?_;(with_reducible refine (impl_ValidMelody.calls k _ _ l0 true _ ?side1 ?side2 A2.out).mono ?_);(case side1=>exact zw);(case side2=>exact HC0.out);rintro e w5 ⟨rfl,hb⟩;refine ⟨_,rfl,?_⟩;replace HB:=Aside0.mk (below_step za hb);(try clear hb);(try clear hb2);(try clear hk);(try clear hi)))
   go_ret
   exact ⟨zi,za⟩
  ·rw [if_neg c4] at H
   have c4b0:((l0.length:Int) == 0)=false:=beq_eq_false_iff_ne.mpr c4
   have c4b1:((l0.length:Int) != 0)=true:=bne_iff_ne.mpr c4
   have c4b2:¬ (l0=[]):=fun h_=>c4 (by rw [h_];rfl)
   have H':=Aside0.mk H
   clear H
   go_enter Tryz.func134,Tryz.ntmps134
   go_wp2_with (first|((with_reducible refine gate_callee (f:=70) rfl ?_);refine goesL_ (some 9) rfl rfl Tryz.func70 zau rfl #[.slice A0 l0.length c0] rfl zd ?_;(with_reducible refine (impl_ValidMelody.calls k _ _ l0 true _ ?side1 ?side2 A2.out).mono ?_);(case side1=>exact zw);(case side2=>exact HC0.out);rintro e w6 ⟨rfl,hb⟩;refine ⟨_,rfl,?_⟩;replace HB:=Aside0.mk (below_step za hb);(try clear hb);(try clear hb2);(try clear hk);(try clear hi)))
   go_loopg [3,17] k (fun kq v3 v17 w'=>∃(x3_1:List ByteArray) (x17_1:Int),v17 = .int .i64 x17_1∧Aside0 (impl_MelodyText.l0 kq x3_1 l0 (l0.length:Int) x17_1=some r)∧Aside0 (kq≤k)∧Aside0 (Kd.R Kd.string 9 w' w.heap.size (fun _=>True) v3 x3_1)∧Aside0 (Below w.heap.size w w'))
   case atStart=>exact ⟨(([]:List ByteArray)),(0),zg,H',⟨Nat.le_refl _⟩,⟨zm⟩,⟨za⟩⟩
   case round=>
    clear H'
    try clear c1
    try clear p2
    try clear c3
    try clear c4
    try clear c4b0
    try clear c4b1
    try clear c4b2
    obtain ⟨x3_1,x17_1,rfl,HA,HK1,HO_3,HB⟩:=hrel
    cases gk with
    | zero=>exact absurd HA.out (by simp [impl_MelodyText.l0])
    | succ k1=>
     have H:=HA.out
     clear HA
     simp only [impl_MelodyText.l0] at H
     by_cases c7:x17_1<(l0.length:Int)
     ·rw [if_pos c7] at H
      have c7b0:decide (x17_1<(l0.length:Int))=true:=decide_eq_true c7
      clear c7
      by_cases c8:0≤x17_1
      ·rw [if_pos c8] at H
       have c8b0:decide (0≤x17_1)=true:=decide_eq_true c8
       clear c8
       by_cases c9:x17_1<(l0.length:Int)
       ·rw [if_pos c9] at H
        have c9b0:decide (x17_1<(l0.length:Int))=true:=decide_eq_true c9
        clear c9
        replace H:=Option.bind_eq_some_iff.mp H
        obtain ⟨t105,A100,H⟩:=H
        replace H:(if ((rd_T67 l0 x17_1).f1)=1 then (if x3_1.length<8796093022208 then (impl_MelodyText.l0 k1 (x3_1++[t105]) l0 (l0.length:Int) (wrap64 (x17_1+1))) else (none)) else ((impl_Decimal.f ((rd_T67 l0 x17_1).f1)).bind fun t109=>(if t105.size+t109.size≤9223372036854775807 then (if x3_1.length<8796093022208 then (impl_MelodyText.l0 k1 (x3_1++[t105++t109]) l0 (l0.length:Int) (wrap64 (x17_1+1))) else (none)) else (none))))=some r:=H
        have A10:=Aside0.mk A100
        clear A100
        by_cases c11:((rd_T67 l0 x17_1).f1)=1
        ·rw [if_pos c11] at H
         have c11b0:(((rd_T67 l0 x17_1).f1) == 1)=true:=beq_iff_eq.mpr c11
         have c11b1:(((rd_T67 l0 x17_1).f1) != 1)=false:=bne_eq_false_iff_eq.mpr c11
         clear c11
         by_cases c12:x3_1.length<8796093022208
         ·rw [if_pos c12] at H
          have LMc12:=Aside0.mk c12
          clear c12
          obtain ⟨y106,hy106⟩:∃y_:List ByteArray,y_=(x3_1++[t105]):=⟨_,rfl⟩
          replace H:(impl_MelodyText.l0 k1 y106 l0 (l0.length:Int) (wrap64 (x17_1+1)))=some r:=by first|(rw [hy106];with_reducible exact H)|(have H2_:=(Option.bind_some _ _).symm.trans H;rw [hy106];with_reducible exact H2_)|(have H2_:=(Option.bind_some _ _).symm.trans H;with_reducible exact H2_)|with_reducible exact H|(rw [hy106];exact H)|exact H
          have Ny106:=Aside0.mk hy106
          clear hy106
          have H':=Aside0.mk H
          clear H
          have p103:0≤(x17_1:Int):=of_decide_eq_true ze
          have q103:x17_1<(l0.length:Int):=of_decide_eq_true ze
          obtain ⟨ad103,e103,hx103_0,hx103_1⟩:=at_T67 HR0.out x17_1 p103 q103
          cases e103
          replace hx103_0:=(HB.out.cell (World.block_lt_of_cell? w _ hx103_0)).trans hx103_0
          replace hx103_1:=(HB.out.cell (World.block_lt_of_cell? w _ hx103_1)).trans hx103_1
          replace p103:=eq_true p103
          replace q103:=eq_true q103
          go_wp2_with (first|((with_reducible refine gate_dst (N:=5) rfl ?_);refine box_event ?hg (N:=5) ?hd (cs:=#[.int .i64 0,.int .i64 0]) (t:=67) ?hr ?_;(case hd=>rfl);(case hg=>rfl);(case hr=>exact zy);intro gb104 hg w13 hbox hb;have n0_:=Aside0.mk (Kd.R_below zbq hb);have n1_:=Aside0.mk (below_step za hb);have n2_:=Aside0.mk (hbox);have n3_:=Aside0.mk ((by rw [hg];exact (below_size za):w.heap.size≤gb104));have n4_:=Aside0.mk ((by rw [hg];exact (below_size za):w.heap.size≤gb104));clear HO_3;clear HB;have HO_3:=n0_;have HB:=n1_;have BK104:=n2_;have GW104:=n3_;have GE104:=n4_;clear n0_ n1_ n2_ n3_ n4_;clear hb hbox hg;have hcz14_0:w13.cell? ⟨gb104,0,none⟩=some (.int .i64 0):=(blk_cell BK104.out 0).trans rfl;have hcz14_1:w13.cell? ⟨gb104,1,none⟩=some (.int .i64 0):=(blk_cell BK104.out 1).trans rfl;have hfz14_0:=blk_frozen BK104.out 0;have hfz14_1:=blk_frozen BK104.out 1)|((with_reducible refine gate_callee (f:=125) rfl ?_);refine goesL_ (some 23) rfl rfl Tryz.func125 zau rfl #[.int .i64 ((rd_T67 l0 x17_1).f0)] rfl zd ?_;(with_reducible refine (impl_pitchText.calls ((rd_T67 l0 x17_1).f0) t105 _ A10.out).mono ?_);rintro e w' ⟨rfl,⟨nd,rfl⟩⟩;refine ⟨_,rfl,?_⟩)|((with_reducible refine gate_builtin (b:=.append) (xs:=#[.tmp 32,.tmp 34]) rfl ?_);at_builtin;refine Kd.R_append Kd.string (w0:=w) w.heap.size rfl (.tmp 32) (.tmp 34) 104 9 (.string ⟨#[]⟩) 16 rfl Tryz.underlying104 info9 rfl zbl zdb u3 x3_1 t105 [.string t105] (fun _=>True) (fun _=>False) rfl zy ?aP (fun _ hk=>hk.elim) ?aF ?aO ?aB ?aS ?aL ?_;(case aP=>exact rfl);(case aB=>exact zbt);(case aF=>exact zdj);(case aO=>exact (by (with_reducible repeat (first|apply Kd.R_alloc|apply Kd.R_drewN|apply Kd.R_drew));exact Kd.R_mono (Kd.R_far (p:=⟨gb104,1,none⟩) (Kd.R_far (p:=⟨gb104,0,none⟩) (Kd.R_types HO_3.out BK104.out zbl) (fun _ hk=>hk.2) (.int .i64 ((rd_T67 l0 x17_1).f0))) (fun _ hk=>hk.2) (.int .i64 ((rd_T67 l0 x17_1).f1))) (fun _ hk=>trivial)));(case aS=>exact (below_size zbt));(case aL=>have:=LMc12.out;omega);intro v107 w15 ho hb hg hat;rw [←Ny106.out] at ho;replace BK104:=Aside0.mk (blk_grown (g:=gb104) (o:=.cells #[.int .i64 ((rd_T67 l0 x17_1).f0),.int .i64 ((rd_T67 l0 x17_1).f1)] 67 (0,0)) (by (with_reducible repeat (first|refine blk_drewN ?_ _|refine blk_drew ?_|refine blk_alloc ?_ _));refine blk_put (cs:=#[.int .i64 ((rd_T67 l0 x17_1).f0),.int .i64 0]) ?_ 1 _ rfl;(with_reducible repeat (first|refine blk_drewN ?_ _|refine blk_drew ?_|refine blk_alloc ?_ _));refine blk_put (cs:=#[.int .i64 0,.int .i64 0]) ?_ 0 _ rfl;(with_reducible repeat (first|refine blk_drewN ?_ _|refine blk_drew ?_|refine blk_alloc ?_ _));exact BK104.out) hg (Kd.R_ne HO_3.out BK104.out zbl));replace HB:=Aside0.mk (hb);have HO108:=Aside0.mk (ho);clear HO_3;clear ho hb hg hat))
          go_roundg k1
          case measure=>have:=HK1.out;omega
          case rel=>exact ⟨(y106),(wrap64 (x17_1+1)),zg,H',⟨zdo⟩,⟨zah⟩,⟨zbt⟩⟩
         ·rw [if_neg c12] at H
          exact absurd H zdd
        ·rw [if_neg c11] at H
         have c11b0:(((rd_T67 l0 x17_1).f1) == 1)=false:=beq_eq_false_iff_ne.mpr c11
         have c11b1:(((rd_T67 l0 x17_1).f1) != 1)=true:=bne_iff_ne.mpr c11
         replace H:=Option.bind_eq_some_iff.mp H
         obtain ⟨t109,A160,H⟩:=H
         replace H:(if t105.size+t109.size≤9223372036854775807 then (if x3_1.length<8796093022208 then (impl_MelodyText.l0 k1 (x3_1++[t105++t109]) l0 (l0.length:Int) (wrap64 (x17_1+1))) else (none)) else (none))=some r:=H
         have A16:=Aside0.mk A160
         clear A160
         by_cases c17:t105.size+t109.size≤9223372036854775807
         ·rw [if_pos c17] at H
          have c17b0:=eq_true c17
          have c17b1:decide (t105.size+t109.size≤9223372036854775807)=true:=decide_eq_true c17
          try have c17b2:(9223372036854775807<t105.size+t109.size)=False:=eq_false (Nat.not_lt.2 c17)
          by_cases c18:x3_1.length<8796093022208
          ·rw [if_pos c18] at H
           have LMc18:=Aside0.mk c18
           clear c18
           obtain ⟨y110,hy110⟩:∃y_:List ByteArray,y_=(x3_1++[t105++t109]):=⟨_,rfl⟩
           replace H:(impl_MelodyText.l0 k1 y110 l0 (l0.length:Int) (wrap64 (x17_1+1)))=some r:=by first|(rw [hy110];with_reducible exact H)|(have H2_:=(Option.bind_some _ _).symm.trans H;rw [hy110];with_reducible exact H2_)|(have H2_:=(Option.bind_some _ _).symm.trans H;with_reducible exact H2_)|with_reducible exact H|(rw [hy110];exact H)|exact H
           have Ny110:=Aside0.mk hy110
           clear hy110
           have H':=Aside0.mk H
           clear H
           have p103:0≤(x17_1:Int):=of_decide_eq_true ze
           have q103:x17_1<(l0.length:Int):=of_decide_eq_true ze
           obtain ⟨ad103,e103,hx103_0,hx103_1⟩:=at_T67 HR0.out x17_1 p103 q103
           cases e103
           replace hx103_0:=(HB.out.cell (World.block_lt_of_cell? w _ hx103_0)).trans hx103_0
           replace hx103_1:=(HB.out.cell (World.block_lt_of_cell? w _ hx103_1)).trans hx103_1
           replace p103:=eq_true p103
           replace q103:=eq_true q103
           go_wp2_with (first|((with_reducible refine gate_dst (N:=5) rfl ?_);refine box_event ?hg (N:=5) ?hd (cs:=#[.int .i64 0,.int .i64 0]) (t:=67) ?hr ?_;(case hd=>rfl);(case hg=>rfl);(case hr=>exact zy);intro gb104 hg w19 hbox hb;have n0_:=Aside0.mk (Kd.R_below zbq hb);have n1_:=Aside0.mk (below_step za hb);have n2_:=Aside0.mk (hbox);have n3_:=Aside0.mk ((by rw [hg];exact (below_size za):w.heap.size≤gb104));have n4_:=Aside0.mk ((by rw [hg];exact (below_size za):w.heap.size≤gb104));clear HO_3;clear HB;have HO_3:=n0_;have HB:=n1_;have BK104:=n2_;have GW104:=n3_;have GE104:=n4_;clear n0_ n1_ n2_ n3_ n4_;clear hb hbox hg;have hcz20_0:w19.cell? ⟨gb104,0,none⟩=some (.int .i64 0):=(blk_cell BK104.out 0).trans rfl;have hcz20_1:w19.cell? ⟨gb104,1,none⟩=some (.int .i64 0):=(blk_cell BK104.out 1).trans rfl;have hfz20_0:=blk_frozen BK104.out 0;have hfz20_1:=blk_frozen BK104.out 1)|((with_reducible refine gate_callee (f:=125) rfl ?_);refine goesL_ (some 23) rfl rfl Tryz.func125 zau rfl #[.int .i64 ((rd_T67 l0 x17_1).f0)] rfl zd ?_;(with_reducible refine (impl_pitchText.calls ((rd_T67 l0 x17_1).f0) t105 _ A10.out).mono ?_);rintro e w' ⟨rfl,⟨nd,rfl⟩⟩;refine ⟨_,rfl,?_⟩)|((with_reducible refine gate_callee (f:=93) rfl ?_);refine goesL_ (some 30) rfl rfl Tryz.func93 zau rfl #[.int .i64 ((rd_T67 l0 x17_1).f1)] rfl zd ?_;(with_reducible refine (impl_Decimal.calls ((rd_T67 l0 x17_1).f1) t109 _ ?side1 A16.out).mono ?_);(case side1=>exact Door1.at HD.out zbt);rintro e w21 ⟨rfl,hb⟩;refine ⟨_,rfl,?_⟩;replace HO_3:=Aside0.mk (Kd.R_below (by (with_reducible repeat (first|apply Kd.R_alloc|apply Kd.R_drewN|apply Kd.R_drew));exact (Kd.R_mono (Kd.R_far (p:=⟨gb104,1,none⟩) (Kd.R_far (p:=⟨gb104,0,none⟩) (Kd.R_types HO_3.out BK104.out zbl) (fun _ hk=>hk.2) (.int .i64 ((rd_T67 l0 x17_1).f0))) (fun _ hk=>hk.2) (.int .i64 ((rd_T67 l0 x17_1).f1))) (fun _ h_=>h_.1))) hb);replace BK104:=Aside0.mk (blk_below (g:=gb104) (o:=.cells #[.int .i64 ((rd_T67 l0 x17_1).f0),.int .i64 ((rd_T67 l0 x17_1).f1)] 67 (0,0)) (by (with_reducible repeat (first|refine blk_drewN ?_ _|refine blk_drew ?_|refine blk_alloc ?_ _));refine blk_put (cs:=#[.int .i64 ((rd_T67 l0 x17_1).f0),.int .i64 0]) ?_ 1 _ rfl;(with_reducible repeat (first|refine blk_drewN ?_ _|refine blk_drew ?_|refine blk_alloc ?_ _));refine blk_put (cs:=#[.int .i64 0,.int .i64 0]) ?_ 0 _ rfl;(with_reducible repeat (first|refine blk_drewN ?_ _|refine blk_drew ?_|refine blk_alloc ?_ _));exact BK104.out) hb);replace HB:=Aside0.mk (below_step zbt hb);(try clear hb);(try clear hb2);(try clear hk);(try clear hi))|((with_reducible refine gate_builtin (b:=.append) (xs:=#[.tmp 32,.tmp 34]) rfl ?_);at_builtin;refine Kd.R_append Kd.string (w0:=w) w.heap.size rfl (.tmp 32) (.tmp 34) 104 9 (.string ⟨#[]⟩) 16 rfl Tryz.underlying104 info9 rfl zbl zdb u3 x3_1 (t105++t109) [.string (t105++t109)] (fun _=>True) (fun _=>False) rfl rfl ?aP (fun _ hk=>hk.elim) ?aF ?aO ?aB ?aS ?aL ?_;(case aP=>exact rfl);(case aB=>exact zbt);(case aF=>exact zdj);(case aO=>exact zbq);(case aS=>exact (below_size zbt));(case aL=>have:=LMc18.out;omega);intro v111 w22 ho hb hg hat;rw [←Ny110.out] at ho;replace BK104:=Aside0.mk (blk_grown (g:=gb104) (o:=.cells #[.int .i64 ((rd_T67 l0 x17_1).f0),.int .i64 ((rd_T67 l0 x17_1).f1)] 67 (0,0)) (by (with_reducible repeat (first|refine blk_drewN ?_ _|refine blk_drew ?_|refine blk_alloc ?_ _));exact BK104.out) hg (Kd.R_ne HO_3.out BK104.out zbl));replace HB:=Aside0.mk (hb);have HO112:=Aside0.mk (ho);clear HO_3;clear ho hb hg hat))
           go_roundg k1
           case measure=>have:=HK1.out;omega
           case rel=>exact ⟨(y110),(wrap64 (x17_1+1)),zg,H',⟨zdo⟩,⟨by (with_reducible repeat (first|apply Kd.R_alloc|apply Kd.R_drewN|apply Kd.R_drew));exact HO112.out⟩,⟨zbt⟩⟩
          ·rw [if_neg c18] at H
           exact absurd H zdd
         ·rw [if_neg c17] at H
          exact absurd H zdd
       ·rw [if_neg c9] at H
        exact absurd H zdd
      ·rw [if_neg c8] at H
       exact absurd H zdd
     ·rw [if_neg c7] at H
      have c7b0:decide (x17_1<(l0.length:Int))=false:=decide_eq_false c7
      clear c7
      replace H:=Option.bind_eq_some_iff.mp H
      obtain ⟨t102,A230,H⟩:=H
      replace H:(some t102)=some r:=H
      have A23:=Aside0.mk A230
      clear A230
      obtain rfl:=Option.some.inj H
      obtain ⟨Ao24,co24,eo24⟩:=Kd.R_slice HO_3.out
      subst eo24
      go_wp2_with (first|((with_reducible refine gate_callee (f:=94) rfl ?_);refine goesL_ (some 38) rfl rfl Tryz.func94 zau rfl #[.slice Ao24 x3_1.length co24,.string (⟨#[32]⟩:ByteArray)] rfl zd ?_;(with_reducible refine (strings_Join.calls _ _ x3_1 (⟨#[32]⟩:ByteArray) t102 _ ?side1 ?side2 A23.out).mono ?_);(case side1=>repeat (first|exact (Kd.R_reads' HO_3.out).2.2|(with_reducible refine Kd.C_alloc ?_ _)|(with_reducible refine Kd.C_drewN ?_ _)|(with_reducible refine Kd.C_drew ?_)));(case side2=>exact (Kd.R_reads' HO_3.out).2.1);rintro e w25 ⟨rfl,hb⟩;refine ⟨_,rfl,?_⟩;replace HO_3:=Aside0.mk (Kd.R_below zbq hb);replace HB:=Aside0.mk (below_step za hb);(try clear hb);(try clear hb2);(try clear hk);(try clear hi)))
      go_ret
      exact ⟨zi,za⟩
 ·replace c3:=Bool.eq_false_iff.mpr c3
  subst c3
  have H1:(some (⟨#[]⟩:ByteArray))=some r:=by rw [if_neg (show ¬ (false=true) by decide)] at H;exact H
  clear H
  have H:=H1
  clear H1
  obtain rfl:=Option.some.inj H
  go_enter Tryz.func134,Tryz.ntmps134
  go_wp2_with (first|((with_reducible refine gate_callee (f:=70) rfl ?_);refine goesL_ (some 9) rfl rfl Tryz.func70 zau rfl #[.slice A0 l0.length c0] rfl zd ?_;(with_reducible refine (impl_ValidMelody.calls k _ _ l0 false _ ?side1 ?side2 A2.out).mono ?_);(case side1=>exact zw);(case side2=>exact HC0.out);rintro e w26 ⟨rfl,hb⟩;refine ⟨_,rfl,?_⟩;replace HB:=Aside0.mk (below_step za hb);(try clear hb);(try clear hb2);(try clear hk);(try clear hi)))
  go_ret
  exact ⟨zi,za⟩

def impl_ReadMelody.l0:Nat→ByteArray→List (S67)→List ByteArray→Int→Int→Option ((List (S67)) × Bool)
 | 0,_,_,_,_,_=>none
 | k+1,x0,x4,x14,x15,x16=>if x16<x15 then (if 0≤x16 then (if x16<(x14.length:Int) then ((strings_TrimRight.f (rdOf ByteArray.empty x14 x16) (⟨#[48,49,50,51,52,53,54,55,56,57]⟩:ByteArray)).bind fun t106=>((impl_pitchNamed.f t106).bind fun bt107=>(if t106.toList=(rdOf ByteArray.empty x14 x16).toList then (if bt107.2=true then (if x4.length<8796093022208 then (impl_ReadMelody.l0 k x0 (x4++[(⟨bt107.1,1⟩:S67)]) x14 x15 (wrap64 (x16+1))) else (none)) else (some (([]:List (S67)),false))) else (if 0≤(t106.size:Int) then (if (t106.size:Int)≤((rdOf ByteArray.empty x14 x16).size:Int) then ((impl_ReadDecimal.f ((rdOf ByteArray.empty x14 x16).extract ((t106.size:Int):Int).toNat (rdOf ByteArray.empty x14 x16).size)).bind fun bt112=>(if bt107.2=true then (if x4.length<8796093022208 then (impl_ReadMelody.l0 k x0 (x4++[(⟨bt107.1,bt112.1⟩:S67)]) x14 x15 (wrap64 (x16+1))) else (none)) else (some (([]:List (S67)),false)))) else (none)) else (none))))) else (none)) else (none)) else ((impl_MelodyText.f k x4).bind fun t104=>(if t104.toList=x0.toList then (some (x4,true)) else (some (([]:List (S67)),false))))
def impl_ReadMelody.f (k:Nat) (a0:ByteArray):Option ((List (S67)) × Bool):=if a0.toList=([45]:List UInt8) then (some (([]:List (S67)),true)) else ((strings_SplitN.f a0 (⟨#[32]⟩:ByteArray) 49).bind fun t101=>(impl_ReadMelody.l0 k a0 ([]:List (S67)) t101 (t101.length:Int) 0))
set_option maxHeartbeats 8000000 in
set_option maxRecDepth 100000 in
theorem impl_ReadMelody.calls (k:Nat) (a0:ByteArray) (r1:List (S67)) (r2:Bool) (w:World) (hD:Door2 w) (h:impl_ReadMelody.f k a0=some (r1,r2)) :
 Calls Tryz.prog 103 #[.string a0] w fun e w'=>∃v0_:Value,e = .returned (.tuple #[v0_,.bool r2])∧Kd.R k67 67 w' w.heap.size (fun _=>True) v0_ r1∧Below w.heap.size w w':=by
 have hu67:=Tryz.underlying67
 have HD:=Aside0.mk hD
 clear hD
 have HB:=Aside0.mk (Below.refl w.heap.size w)
 have H:(if a0.toList=([45]:List UInt8) then (some (([]:List (S67)),true)) else ((strings_SplitN.f a0 (⟨#[32]⟩:ByteArray) 49).bind fun t101=>(impl_ReadMelody.l0 k a0 ([]:List (S67)) t101 (t101.length:Int) 0)))=some (r1,r2):=h
 clear h
 by_cases c2:a0.toList=([45]:List UInt8)
 ·rw [if_pos c2] at H
  have c2b0:(a0.toList == ([45]:List UInt8))=true:=beq_iff_eq.mpr c2
  have c2b1:(a0.toList != ([45]:List UInt8))=false:=bne_eq_false_iff_eq.mpr c2
  clear c2
  simp only [Option.some.injEq,Prod.mk.injEq] at H
  obtain ⟨rfl,rfl⟩:=H
  go_enter Tryz.func103,Tryz.ntmps103
  go_wp2
  go_ret2
  exact ⟨_,zi,zm,za⟩
 ·rw [if_neg c2] at H
  have c2b0:(a0.toList == ([45]:List UInt8))=false:=beq_eq_false_iff_ne.mpr c2
  have c2b1:(a0.toList != ([45]:List UInt8))=true:=bne_iff_ne.mpr c2
  replace H:=Option.bind_eq_some_iff.mp H
  obtain ⟨t101,A30,H⟩:=H
  replace H:(impl_ReadMelody.l0 k a0 ([]:List (S67)) t101 (t101.length:Int) 0)=some (r1,r2):=H
  have A3:=Aside0.mk A30
  clear A30
  have H':=Aside0.mk H
  clear H
  go_enter Tryz.func103,Tryz.ntmps103
  go_wp2_with (first|((with_reducible refine gate_callee (f:=84) rfl ?_);refine goesL_ (some 14) rfl rfl Tryz.func84 zau rfl #[.string a0,.string (⟨#[32]⟩:ByteArray),.int .i64 49] rfl zd ?_;(with_reducible refine (strings_SplitN.calls a0 (⟨#[32]⟩:ByteArray) 49 t101 _ ?side1 A3.out).mono ?_);(case side1=>exact Door2.at HD.out za);rintro e w4 ⟨v102,rfl,ho0,hb⟩;refine ⟨_,rfl,?_⟩;have HO103:=Aside0.mk (Kd.R_lower ho0 (below_size za));replace HB:=Aside0.mk (below_step za hb);(try clear hb);(try clear hb2);(try clear hk);(try clear hi);(try clear ho0);obtain ⟨Ao5,co5,eo5⟩:=Kd.R_slice HO103.out;subst eo5))
  go_loopg [4,16] k (fun kq v4 v16 w'=>∃(x4_1:List (S67)) (x16_1:Int),v16 = .int .i64 x16_1∧Aside0 (impl_ReadMelody.l0 kq a0 x4_1 t101 (t101.length:Int) x16_1=some (r1,r2))∧Aside0 (kq≤k)∧Aside0 (Kd.R k67 67 w' w.heap.size (fun _=>True) v4 x4_1)∧Aside0 (Kd.R Kd.string 9 w' w.heap.size (fun _=>True) (.slice Ao5 t101.length co5) t101)∧Aside0 (Below w.heap.size w w'))
  case atStart=>exact ⟨(([]:List (S67))),(0),zg,H',⟨Nat.le_refl _⟩,⟨zm⟩,⟨zdf⟩,⟨za⟩⟩
  case round=>
   clear H'
   try clear c1
   try clear c2
   try clear c2b0
   try clear c2b1
   try clear p2
   obtain ⟨x4_1,x16_1,rfl,HA,HK1,HO_4,HO_14,HB⟩:=hrel
   cases gk with
   | zero=>exact absurd HA.out (by simp [impl_ReadMelody.l0])
   | succ k1=>
    have H:=HA.out
    clear HA
    simp only [impl_ReadMelody.l0] at H
    by_cases c6:x16_1<(t101.length:Int)
    ·rw [if_pos c6] at H
     have c6b0:decide (x16_1<(t101.length:Int))=true:=decide_eq_true c6
     clear c6
     by_cases c7:0≤x16_1
     ·rw [if_pos c7] at H
      have c7b0:decide (0≤x16_1)=true:=decide_eq_true c7
      clear c7
      by_cases c8:x16_1<(t101.length:Int)
      ·rw [if_pos c8] at H
       have c8b0:decide (x16_1<(t101.length:Int))=true:=decide_eq_true c8
       clear c8
       replace H:=Option.bind_eq_some_iff.mp H
       obtain ⟨t106,A90,H⟩:=H
       replace H:((impl_pitchNamed.f t106).bind fun bt107=>(if t106.toList=(rdOf ByteArray.empty t101 x16_1).toList then (if bt107.2=true then (if x4_1.length<8796093022208 then (impl_ReadMelody.l0 k1 a0 (x4_1++[(⟨bt107.1,1⟩:S67)]) t101 (t101.length:Int) (wrap64 (x16_1+1))) else (none)) else (some (([]:List (S67)),false))) else (if 0≤(t106.size:Int) then (if (t106.size:Int)≤((rdOf ByteArray.empty t101 x16_1).size:Int) then ((impl_ReadDecimal.f ((rdOf ByteArray.empty t101 x16_1).extract ((t106.size:Int):Int).toNat (rdOf ByteArray.empty t101 x16_1).size)).bind fun bt112=>(if bt107.2=true then (if x4_1.length<8796093022208 then (impl_ReadMelody.l0 k1 a0 (x4_1++[(⟨bt107.1,bt112.1⟩:S67)]) t101 (t101.length:Int) (wrap64 (x16_1+1))) else (none)) else (some (([]:List (S67)),false)))) else (none)) else (none))))=some (r1,r2):=H
       have A9:=Aside0.mk A90
       clear A90
       replace H:=Option.bind_eq_some_iff.mp H
       obtain ⟨⟨t107,t108⟩,A100,H⟩:=H
       replace H:(if t106.toList=(rdOf ByteArray.empty t101 x16_1).toList then (if t108=true then (if x4_1.length<8796093022208 then (impl_ReadMelody.l0 k1 a0 (x4_1++[(⟨t107,1⟩:S67)]) t101 (t101.length:Int) (wrap64 (x16_1+1))) else (none)) else (some (([]:List (S67)),false))) else (if 0≤(t106.size:Int) then (if (t106.size:Int)≤((rdOf ByteArray.empty t101 x16_1).size:Int) then ((impl_ReadDecimal.f ((rdOf ByteArray.empty t101 x16_1).extract ((t106.size:Int):Int).toNat (rdOf ByteArray.empty t101 x16_1).size)).bind fun bt112=>(if t108=true then (if x4_1.length<8796093022208 then (impl_ReadMelody.l0 k1 a0 (x4_1++[(⟨t107,bt112.1⟩:S67)]) t101 (t101.length:Int) (wrap64 (x16_1+1))) else (none)) else (some (([]:List (S67)),false)))) else (none)) else (none)))=some (r1,r2):=H
       have A10:=Aside0.mk A100
       clear A100
       by_cases c11:t106.toList=(rdOf ByteArray.empty t101 x16_1).toList
       ·rw [if_pos c11] at H
        have c11b0:(t106.toList == (rdOf ByteArray.empty t101 x16_1).toList)=true:=beq_iff_eq.mpr c11
        have c11b1:(t106.toList != (rdOf ByteArray.empty t101 x16_1).toList)=false:=bne_eq_false_iff_eq.mpr c11
        clear c11
        by_cases c12:t108=true
        ·subst c12
         have H1:(if x4_1.length<8796093022208 then (impl_ReadMelody.l0 k1 a0 (x4_1++[(⟨t107,1⟩:S67)]) t101 (t101.length:Int) (wrap64 (x16_1+1))) else (none))=some (r1,r2):=by rw [if_pos rfl] at H;exact H
         clear H
         have H:=H1
         clear H1
         by_cases c13:x4_1.length<8796093022208
         ·rw [if_pos c13] at H
          have LMc13:=Aside0.mk c13
          clear c13
          obtain ⟨y109,hy109⟩:∃y_:List (S67),y_=(x4_1++[(⟨t107,1⟩:S67)]):=⟨_,rfl⟩
          replace H:(impl_ReadMelody.l0 k1 a0 y109 t101 (t101.length:Int) (wrap64 (x16_1+1)))=some (r1,r2):=by first|(rw [hy109];with_reducible exact H)|(have H2_:=(Option.bind_some _ _).symm.trans H;rw [hy109];with_reducible exact H2_)|(have H2_:=(Option.bind_some _ _).symm.trans H;with_reducible exact H2_)|with_reducible exact H|(rw [hy109];exact H)|exact H
          have Ny109:=Aside0.mk hy109
          clear hy109
          have H':=Aside0.mk H
          clear H
          have p105:0≤(x16_1:Int):=of_decide_eq_true ze
          have q105:x16_1<(t101.length:Int):=of_decide_eq_true ze
          obtain ⟨ad105,e105,hx105_0⟩:=Kd.at_string (Kd.R_reads' HO_14.out).2.2 x16_1 p105 q105
          cases e105
          replace p105:=eq_true p105
          replace q105:=eq_true q105
          go_wp2_with (first|((with_reducible refine gate_callee (f:=132) rfl ?_);refine goesL_ (some 21) rfl rfl Tryz.func132 zau rfl #[.string (rdOf ByteArray.empty t101 x16_1),.string (⟨#[48,49,50,51,52,53,54,55,56,57]⟩:ByteArray)] rfl zd ?_;(with_reducible refine (strings_TrimRight.calls (rdOf ByteArray.empty t101 x16_1) (⟨#[48,49,50,51,52,53,54,55,56,57]⟩:ByteArray) t106 _ A9.out).mono ?_);rintro e w14 ⟨rfl,hb⟩;refine ⟨_,rfl,?_⟩;replace HO_4:=Aside0.mk (Kd.R_below zv hb);replace HO_14:=Aside0.mk (Kd.R_below zbb hb);replace HB:=Aside0.mk (below_step za hb);(try clear hb);(try clear hb2);(try clear hk);(try clear hi))|((with_reducible refine gate_callee (f:=133) rfl ?_);refine goesL_ (some 24) rfl rfl Tryz.func133 zau rfl #[.string t106] rfl zd ?_;(with_reducible refine (impl_pitchNamed.calls t106 t107 true _ A10.out).mono ?_);rintro e w15 ⟨rfl,hb⟩;refine ⟨_,rfl,?_⟩;replace HO_4:=Aside0.mk (Kd.R_below zv hb);replace HO_14:=Aside0.mk (Kd.R_below zbb hb);replace HB:=Aside0.mk (below_step za hb);(try clear hb);(try clear hb2);(try clear hk);(try clear hi))|((with_reducible refine gate_builtin (b:=.append) (xs:=#[.tmp 40,.tmp 44]) rfl ?_);at_builtin;refine Kd.R_append k67 (w0:=w) w.heap.size rfl (.tmp 40) (.tmp 44) 30 67 (.agg #[(.int .i64 0),(.int .i64 0)]) 16 rfl Tryz.underlying30 info67 rfl zbl zdb u4 x4_1 (⟨t107,1⟩:S67) [.int .i64 t107,.int .i64 1] (fun _=>True) (fun _=>False) rfl rfl ?aP (fun _ hk=>hk.elim) ?aF ?aO ?aB ?aS ?aL ?_;(case aP=>exact k67_mkM _ _ _ (⟨t107,1⟩:S67));(case aB=>exact za);(case aF=>exact zdj);(case aO=>exact zv);(case aS=>exact (below_size za));(case aL=>have:=LMc13.out;omega);intro v110 w16 ho hb hg hat;rw [←Ny109.out] at ho;replace HO_14:=Aside0.mk (Kd.R_over' zbb (Kd.R_typed zv) zbl hg);replace HB:=Aside0.mk (hb);have HO111:=Aside0.mk (ho);clear HO_4;clear ho hb hg hat))
          go_roundg k1
          case measure=>have:=HK1.out;omega
          case rel=>exact ⟨(y109),(wrap64 (x16_1+1)),zg,H',⟨zdo⟩,⟨zam⟩,⟨zbb⟩,⟨za⟩⟩
         ·rw [if_neg c13] at H
          exact absurd H zdd
        ·replace c12:=Bool.eq_false_iff.mpr c12
         subst c12
         have H1:(some (([]:List (S67)),false))=some (r1,r2):=by rw [if_neg (show ¬ (false=true) by decide)] at H;exact H
         clear H
         have H:=H1
         clear H1
         simp only [Option.some.injEq,Prod.mk.injEq] at H
         obtain ⟨rfl,rfl⟩:=H
         have p105:0≤(x16_1:Int):=of_decide_eq_true ze
         have q105:x16_1<(t101.length:Int):=of_decide_eq_true ze
         obtain ⟨ad105,e105,hx105_0⟩:=Kd.at_string (Kd.R_reads' HO_14.out).2.2 x16_1 p105 q105
         cases e105
         replace p105:=eq_true p105
         replace q105:=eq_true q105
         go_wp2_with (first|((with_reducible refine gate_callee (f:=132) rfl ?_);refine goesL_ (some 21) rfl rfl Tryz.func132 zau rfl #[.string (rdOf ByteArray.empty t101 x16_1),.string (⟨#[48,49,50,51,52,53,54,55,56,57]⟩:ByteArray)] rfl zd ?_;(with_reducible refine (strings_TrimRight.calls (rdOf ByteArray.empty t101 x16_1) (⟨#[48,49,50,51,52,53,54,55,56,57]⟩:ByteArray) t106 _ A9.out).mono ?_);rintro e w17 ⟨rfl,hb⟩;refine ⟨_,rfl,?_⟩;replace HO_4:=Aside0.mk (Kd.R_below zv hb);replace HO_14:=Aside0.mk (Kd.R_below zbb hb);replace HB:=Aside0.mk (below_step za hb);(try clear hb);(try clear hb2);(try clear hk);(try clear hi))|((with_reducible refine gate_callee (f:=133) rfl ?_);refine goesL_ (some 24) rfl rfl Tryz.func133 zau rfl #[.string t106] rfl zd ?_;(with_reducible refine (impl_pitchNamed.calls t106 t107 false _ A10.out).mono ?_);rintro e w18 ⟨rfl,hb⟩;refine ⟨_,rfl,?_⟩;replace HO_4:=Aside0.mk (Kd.R_below zv hb);replace HO_14:=Aside0.mk (Kd.R_below zbb hb);replace HB:=Aside0.mk (below_step za hb);(try clear hb);(try clear hb2);(try clear hk);(try clear hi)))
         go_ret2
         exact ⟨_,zi,zm,za⟩
       ·rw [if_neg c11] at H
        have c11b0:(t106.toList == (rdOf ByteArray.empty t101 x16_1).toList)=false:=beq_eq_false_iff_ne.mpr c11
        have c11b1:(t106.toList != (rdOf ByteArray.empty t101 x16_1).toList)=true:=bne_iff_ne.mpr c11
        by_cases c19:0≤(t106.size:Int)
        ·rw [if_pos c19] at H
         have c19b0:=eq_true c19
         have c19b1:decide (0≤(t106.size:Int))=true:=decide_eq_true c19
         clear c19
         by_cases c20:(t106.size:Int)≤((rdOf ByteArray.empty t101 x16_1).size:Int)
         ·rw [if_pos c20] at H
          have c20b0:=eq_true c20
          have c20b1:decide ((t106.size:Int)≤((rdOf ByteArray.empty t101 x16_1).size:Int))=true:=decide_eq_true c20
          clear c20
          replace H:=Option.bind_eq_some_iff.mp H
          obtain ⟨⟨t112,t113⟩,A210,H⟩:=H
          replace H:(if t108=true then (if x4_1.length<8796093022208 then (impl_ReadMelody.l0 k1 a0 (x4_1++[(⟨t107,t112⟩:S67)]) t101 (t101.length:Int) (wrap64 (x16_1+1))) else (none)) else (some (([]:List (S67)),false)))=some (r1,r2):=H
          have A21:=Aside0.mk A210
          clear A210
          by_cases c22:t108=true
          ·subst c22
           have H1:(if x4_1.length<8796093022208 then (impl_ReadMelody.l0 k1 a0 (x4_1++[(⟨t107,t112⟩:S67)]) t101 (t101.length:Int) (wrap64 (x16_1+1))) else (none))=some (r1,r2):=by rw [if_pos rfl] at H;exact H
           clear H
           have H:=H1
           clear H1
           by_cases c23:x4_1.length<8796093022208
           ·rw [if_pos c23] at H
            have LMc23:=Aside0.mk c23
            clear c23
            obtain ⟨y114,hy114⟩:∃y_:List (S67),y_=(x4_1++[(⟨t107,t112⟩:S67)]):=⟨_,rfl⟩
            replace H:(impl_ReadMelody.l0 k1 a0 y114 t101 (t101.length:Int) (wrap64 (x16_1+1)))=some (r1,r2):=by first|(rw [hy114];with_reducible exact H)|(have H2_:=(Option.bind_some _ _).symm.trans H;rw [hy114];with_reducible exact H2_)|(have H2_:=(Option.bind_some _ _).symm.trans H;with_reducible exact H2_)|with_reducible exact H|(rw [hy114];exact H)|exact H
            have Ny114:=Aside0.mk hy114
            clear hy114
            have H':=Aside0.mk H
            clear H
            have p105:0≤(x16_1:Int):=of_decide_eq_true ze
            have q105:x16_1<(t101.length:Int):=of_decide_eq_true ze
            obtain ⟨ad105,e105,hx105_0⟩:=Kd.at_string (Kd.R_reads' HO_14.out).2.2 x16_1 p105 q105
            cases e105
            replace p105:=eq_true p105
            replace q105:=eq_true q105
            go_wp2_with (first|((with_reducible refine gate_callee (f:=132) rfl ?_);refine goesL_ (some 21) rfl rfl Tryz.func132 zau rfl #[.string (rdOf ByteArray.empty t101 x16_1),.string (⟨#[48,49,50,51,52,53,54,55,56,57]⟩:ByteArray)] rfl zd ?_;(with_reducible refine (strings_TrimRight.calls (rdOf ByteArray.empty t101 x16_1) (⟨#[48,49,50,51,52,53,54,55,56,57]⟩:ByteArray) t106 _ A9.out).mono ?_);rintro e w24 ⟨rfl,hb⟩;refine ⟨_,rfl,?_⟩;replace HO_4:=Aside0.mk (Kd.R_below zv hb);replace HO_14:=Aside0.mk (Kd.R_below zbb hb);replace HB:=Aside0.mk (below_step za hb);(try clear hb);(try clear hb2);(try clear hk);(try clear hi))|((with_reducible refine gate_callee (f:=133) rfl ?_);refine goesL_ (some 24) rfl rfl Tryz.func133 zau rfl #[.string t106] rfl zd ?_;(with_reducible refine (impl_pitchNamed.calls t106 t107 true _ A10.out).mono ?_);rintro e w25 ⟨rfl,hb⟩;refine ⟨_,rfl,?_⟩;replace HO_4:=Aside0.mk (Kd.R_below zv hb);replace HO_14:=Aside0.mk (Kd.R_below zbb hb);replace HB:=Aside0.mk (below_step za hb);(try clear hb);(try clear hb2);(try clear hk);(try clear hi))|((with_reducible refine gate_callee (f:=87) rfl ?_);refine goesL_ (some 35) rfl rfl Tryz.func87 zau rfl #[.string ((rdOf ByteArray.empty t101 x16_1).extract ((t106.size:Int):Int).toNat (rdOf ByteArray.empty t101 x16_1).size)] rfl zd ?_;(with_reducible refine (impl_ReadDecimal.calls ((rdOf ByteArray.empty t101 x16_1).extract ((t106.size:Int):Int).toNat (rdOf ByteArray.empty t101 x16_1).size) t112 t113 _ ?side1 A21.out).mono ?_);(case side1=>exact Door2.at HD.out za);rintro e w26 ⟨rfl,hb⟩;refine ⟨_,rfl,?_⟩;replace HO_4:=Aside0.mk (Kd.R_below zv hb);replace HO_14:=Aside0.mk (Kd.R_below zbb hb);replace HB:=Aside0.mk (below_step za hb);(try clear hb);(try clear hb2);(try clear hk);(try clear hi))|((with_reducible refine gate_builtin (b:=.append) (xs:=#[.tmp 40,.tmp 44]) rfl ?_);at_builtin;refine Kd.R_append k67 (w0:=w) w.heap.size rfl (.tmp 40) (.tmp 44) 30 67 (.agg #[(.int .i64 0),(.int .i64 0)]) 16 rfl Tryz.underlying30 info67 rfl zbl zdb u4 x4_1 (⟨t107,t112⟩:S67) [.int .i64 t107,.int .i64 t112] (fun _=>True) (fun _=>False) rfl rfl ?aP (fun _ hk=>hk.elim) ?aF ?aO ?aB ?aS ?aL ?_;(case aP=>exact k67_mkM _ _ _ (⟨t107,t112⟩:S67));(case aB=>exact za);(case aF=>exact zdj);(case aO=>exact zv);(case aS=>exact (below_size za));(case aL=>have:=LMc23.out;omega);intro v115 w27 ho hb hg hat;rw [←Ny114.out] at ho;replace HO_14:=Aside0.mk (Kd.R_over' zbb (Kd.R_typed zv) zbl hg);replace HB:=Aside0.mk (hb);have HO116:=Aside0.mk (ho);clear HO_4;clear ho hb hg hat))
            go_roundg k1
            case measure=>have:=HK1.out;omega
            case rel=>exact ⟨(y114),(wrap64 (x16_1+1)),zg,H',⟨zdo⟩,⟨by (with_reducible repeat (first|apply Kd.R_alloc|apply Kd.R_drewN|apply Kd.R_drew));exact HO116.out⟩,⟨zbb⟩,⟨za⟩⟩
           ·rw [if_neg c23] at H
            exact absurd H zdd
          ·replace c22:=Bool.eq_false_iff.mpr c22
           subst c22
           have H1:(some (([]:List (S67)),false))=some (r1,r2):=by rw [if_neg (show ¬ (false=true) by decide)] at H;exact H
           clear H
           have H:=H1
           clear H1
           simp only [Option.some.injEq,Prod.mk.injEq] at H
           obtain ⟨rfl,rfl⟩:=H
           have p105:0≤(x16_1:Int):=of_decide_eq_true ze
           have q105:x16_1<(t101.length:Int):=of_decide_eq_true ze
           obtain ⟨ad105,e105,hx105_0⟩:=Kd.at_string (Kd.R_reads' HO_14.out).2.2 x16_1 p105 q105
           cases e105
           replace p105:=eq_true p105
           replace q105:=eq_true q105
           go_wp2_with (first|((with_reducible refine gate_callee (f:=132) rfl ?_);refine goesL_ (some 21) rfl rfl Tryz.func132 zau rfl #[.string (rdOf ByteArray.empty t101 x16_1),.string (⟨#[48,49,50,51,52,53,54,55,56,57]⟩:ByteArray)] rfl zd ?_;(with_reducible refine (strings_TrimRight.calls (rdOf ByteArray.empty t101 x16_1) (⟨#[48,49,50,51,52,53,54,55,56,57]⟩:ByteArray) t106 _ A9.out).mono ?_);rintro e w28 ⟨rfl,hb⟩;refine ⟨_,rfl,?_⟩;replace HO_4:=Aside0.mk (Kd.R_below zv hb);replace HO_14:=Aside0.mk (Kd.R_below zbb hb);replace HB:=Aside0.mk (below_step za hb);(try clear hb);(try clear hb2);(try clear hk);(try clear hi))|((with_reducible refine gate_callee (f:=133) rfl ?_);refine goesL_ (some 24) rfl rfl Tryz.func133 zau rfl #[.string t106] rfl zd ?_;(with_reducible refine (impl_pitchNamed.calls t106 t107 false _ A10.out).mono ?_);rintro e w29 ⟨rfl,hb⟩;refine ⟨_,rfl,?_⟩;replace HO_4:=Aside0.mk (Kd.R_below zv hb);replace HO_14:=Aside0.mk (Kd.R_below zbb hb);replace HB:=Aside0.mk (below_step za hb);(try clear hb);(try clear hb2);(try clear hk);(try clear hi))|((with_reducible refine gate_callee (f:=87) rfl ?_);refine goesL_ (some 35) rfl rfl Tryz.func87 zau rfl #[.string ((rdOf ByteArray.empty t101 x16_1).extract ((t106.size:Int):Int).toNat (rdOf ByteArray.empty t101 x16_1).size)] rfl zd ?_;(with_reducible refine (impl_ReadDecimal.calls ((rdOf ByteArray.empty t101 x16_1).extract ((t106.size:Int):Int).toNat (rdOf ByteArray.empty t101 x16_1).size) t112 t113 _ ?side1 A21.out).mono ?_);(case side1=>exact Door2.at HD.out za);rintro e w30 ⟨rfl,hb⟩;refine ⟨_,rfl,?_⟩;replace HO_4:=Aside0.mk (Kd.R_below zv hb);replace HO_14:=Aside0.mk (Kd.R_below zbb hb);replace HB:=Aside0.mk (below_step za hb);(try clear hb);(try clear hb2);(try clear hk);(try clear hi)))
           go_ret2
           exact ⟨_,zi,zm,za⟩
         ·rw [if_neg c20] at H
          exact absurd H zdd
        ·rw [if_neg c19] at H
         exact absurd H zdd
      ·rw [if_neg c8] at H
       exact absurd H zdd
     ·rw [if_neg c7] at H
      exact absurd H zdd
    ·rw [if_neg c6] at H
     have c6b0:decide (x16_1<(t101.length:Int))=false:=decide_eq_false c6
     clear c6
     replace H:=Option.bind_eq_some_iff.mp H
     obtain ⟨t104,A310,H⟩:=H
     replace H:(if t104.toList=a0.toList then (some (x4_1,true)) else (some (([]:List (S67)),false)))=some (r1,r2):=H
     have A31:=Aside0.mk A310
     clear A310
     by_cases c32:t104.toList=a0.toList
     ·rw [if_pos c32] at H
      have c32b0:(t104.toList == a0.toList)=true:=beq_iff_eq.mpr c32
      have c32b1:(t104.toList != a0.toList)=false:=bne_eq_false_iff_eq.mpr c32
      clear c32
      simp only [Option.some.injEq,Prod.mk.injEq] at H
      obtain ⟨rfl,rfl⟩:=H
      obtain ⟨Ao33,co33,eo33⟩:=Kd.R_slice HO_4.out
      subst eo33
      go_wp2_with (first|((with_reducible refine gate_callee (f:=134) rfl ?_);refine goesL_ (some 48) rfl rfl Tryz.func134 zau rfl #[.slice Ao33 x4_1.length co33] rfl zd ?_;(with_reducible refine (impl_MelodyText.calls k1 _ _ x4_1 t104 _ ?side3 ?side1 ?side2 A31.out).mono ?_);(case side1=>repeat (first|exact (Kd.R_reads' HO_4.out).2.2|(with_reducible refine Kd.C_alloc ?_ _)|(with_reducible refine Kd.C_drewN ?_ _)|(with_reducible refine Kd.C_drew ?_)));(case side2=>exact (Kd.R_reads' HO_4.out).2.1);(case side3=>exact Door2.one (Door2.at HD.out za));rintro e w34 ⟨rfl,hb⟩;refine ⟨_,rfl,?_⟩;replace HO_4:=Aside0.mk (Kd.R_below zv hb);replace HO_14:=Aside0.mk (Kd.R_below zbb hb);replace HB:=Aside0.mk (below_step za hb);(try clear hb);(try clear hb2);(try clear hk);(try clear hi)))
      go_ret2
      exact ⟨_,zi,zv,za⟩
     ·rw [if_neg c32] at H
      have c32b0:(t104.toList == a0.toList)=false:=beq_eq_false_iff_ne.mpr c32
      have c32b1:(t104.toList != a0.toList)=true:=bne_iff_ne.mpr c32
      simp only [Option.some.injEq,Prod.mk.injEq] at H
      obtain ⟨rfl,rfl⟩:=H
      obtain ⟨Ao35,co35,eo35⟩:=Kd.R_slice HO_4.out
      subst eo35
      go_wp2_with (first|((with_reducible refine gate_callee (f:=134) rfl ?_);refine goesL_ (some 48) rfl rfl Tryz.func134 zau rfl #[.slice Ao35 x4_1.length co35] rfl zd ?_;(with_reducible refine (impl_MelodyText.calls k1 _ _ x4_1 t104 _ ?side3 ?side1 ?side2 A31.out).mono ?_);(case side1=>repeat (first|exact (Kd.R_reads' HO_4.out).2.2|(with_reducible refine Kd.C_alloc ?_ _)|(with_reducible refine Kd.C_drewN ?_ _)|(with_reducible refine Kd.C_drew ?_)));(case side2=>exact (Kd.R_reads' HO_4.out).2.1);(case side3=>exact Door2.one (Door2.at HD.out za));rintro e w36 ⟨rfl,hb⟩;refine ⟨_,rfl,?_⟩;replace HO_4:=Aside0.mk (Kd.R_below zv hb);replace HO_14:=Aside0.mk (Kd.R_below zbb hb);replace HB:=Aside0.mk (below_step za hb);(try clear hb);(try clear hb2);(try clear hk);(try clear hi)))
      go_ret2
      exact ⟨_,zi,zm,za⟩

mutual
def impl_barWords.l0:Nat→List (S95)→List ByteArray→Int→Int→Bool→Bool→Int→Int→Option ((List (S95)) × Bool)
 | 0,_,_,_,_,_,_,_,_=>none
 | k+1,x4,x17,x18,x19,x102000,x102001,x102002,x102003=>if x19<x18 then (if 0≤x19 then (if x19<(x17.length:Int) then (if (rdOf ByteArray.empty x17 x19).toList=([124]:List UInt8) then (impl_barWords.j1 k x4 (rdOf ByteArray.empty x17 x19) x17 x18 x19 true x102000 x102001 x102002 x102003) else (impl_barWords.j1 k x4 (rdOf ByteArray.empty x17 x19) x17 x18 x19 ((rdOf ByteArray.empty x17 x19).toList == ([124,124]:List UInt8)) x102000 x102001 x102002 x102003)) else (none)) else (none)) else (some (x4,true))
def impl_barWords.j1:Nat→List (S95)→ByteArray→List ByteArray→Int→Int→Bool→Bool→Bool→Int→Int→Option ((List (S95)) × Bool)
 | 0,_,_,_,_,_,_,_,_,_,_=>none
 | k+1,x4,x7,x17,x18,x19,x28,x102000,x102001,x102002,x102003=>if x28=true then (if x4.length<5864062014805 then (impl_barWords.l0 k (x4++[(⟨true,false,(⟨0,0⟩:S67)⟩:S95)]) x17 x18 (wrap64 (x19+1)) x102000 x102001 x102002 x102003) else (none)) else ((strings_CutPrefix.f x7 (⟨#[126]⟩:ByteArray)).bind fun bt109=>((impl_ReadMelody.f k bt109.1).bind fun bt111=>(if bt111.2=true then (impl_barWords.j2 k x4 bt109.2 bt111.1 x17 x18 x19 ((bt111.1.length:Int) != 1) x102000 x102001 x102002 x102003) else (impl_barWords.j2 k x4 bt109.2 bt111.1 x17 x18 x19 true x102000 x102001 x102002 x102003))))
def impl_barWords.j2:Nat→List (S95)→Bool→List (S67)→List ByteArray→Int→Int→Bool→Bool→Bool→Int→Int→Option ((List (S95)) × Bool)
 | 0,_,_,_,_,_,_,_,_,_,_,_=>none
 | k+1,x4,x9,x10,x17,x18,x19,x49,x102000,x102001,x102002,x102003=>if x49=true then (some (([]:List (S95)),false)) else (if 0<(x10.length:Int) then (if x9=true then (if x102000=true then (some (([]:List (S95)),false)) else (if x102002=((rd_T67 x10 0).f0) then (if x4.length<5864062014805 then (impl_barWords.l0 k (x4++[(⟨false,x9,(⟨(rd_T67 x10 0).f0,(rd_T67 x10 0).f1⟩:S67)⟩:S95)]) x17 x18 (wrap64 (x19+1)) false x9 ((rd_T67 x10 0).f0) ((rd_T67 x10 0).f1)) else (none)) else (some (([]:List (S95)),false)))) else (if x4.length<5864062014805 then (impl_barWords.l0 k (x4++[(⟨false,x9,(⟨(rd_T67 x10 0).f0,(rd_T67 x10 0).f1⟩:S67)⟩:S95)]) x17 x18 (wrap64 (x19+1)) false x9 ((rd_T67 x10 0).f0) ((rd_T67 x10 0).f1)) else (none))) else (none))
end
def impl_barWords.f (k:Nat) (a0:ByteArray):Option ((List (S95)) × Bool):=if a0.toList=([45]:List UInt8) then (some (([]:List (S95)),true)) else ((strings_Split.f a0 (⟨#[32]⟩:ByteArray)).bind fun t102=>(impl_barWords.l0 k ([]:List (S95)) t102 (t102.length:Int) 0 true false 0 0))
set_option maxHeartbeats 8000000 in
set_option maxRecDepth 100000 in
theorem impl_barWords.calls (k:Nat) (a0:ByteArray) (r1:List (S95)) (r2:Bool) (w:World) (hD:Door2 w) (h:impl_barWords.f k a0=some (r1,r2)) :
 Calls Tryz.prog 63 #[.string a0] w fun e w'=>∃v0_:Value,e = .returned (.tuple #[v0_,.bool r2])∧Kd.R k95 95 w' w.heap.size (fun _=>True) v0_ r1∧Below w.heap.size w w':=by
 have hu95:=Tryz.underlying95
 have hu67:=Tryz.underlying67
 have HD:=Aside0.mk hD
 clear hD
 have HB:=Aside0.mk (Below.refl w.heap.size w)
 have H:(if a0.toList=([45]:List UInt8) then (some (([]:List (S95)),true)) else ((strings_Split.f a0 (⟨#[32]⟩:ByteArray)).bind fun t102=>(impl_barWords.l0 k ([]:List (S95)) t102 (t102.length:Int) 0 true false 0 0)))=some (r1,r2):=h
 clear h
 by_cases c2:a0.toList=([45]:List UInt8)
 ·rw [if_pos c2] at H
  have c2b0:(a0.toList == ([45]:List UInt8))=true:=beq_iff_eq.mpr c2
  have c2b1:(a0.toList != ([45]:List UInt8))=false:=bne_eq_false_iff_eq.mpr c2
  clear c2
  simp only [Option.some.injEq,Prod.mk.injEq] at H
  obtain ⟨rfl,rfl⟩:=H
  go_enter Tryz.func63,Tryz.ntmps63
  go_wp2
  go_ret2
  exact ⟨_,zi,zm,za⟩
 ·rw [if_neg c2] at H
  have c2b0:(a0.toList == ([45]:List UInt8))=false:=beq_eq_false_iff_ne.mpr c2
  have c2b1:(a0.toList != ([45]:List UInt8))=true:=bne_iff_ne.mpr c2
  replace H:=Option.bind_eq_some_iff.mp H
  obtain ⟨t102,A30,H⟩:=H
  replace H:(impl_barWords.l0 k ([]:List (S95)) t102 (t102.length:Int) 0 true false 0 0)=some (r1,r2):=H
  have A3:=Aside0.mk A30
  clear A30
  have H':=Aside0.mk H
  clear H
  go_enter Tryz.func63,Tryz.ntmps63
  go_wp2_with (first|((with_reducible refine gate_dst (N:=5) rfl ?_);refine box_event ?hg (N:=5) ?hd (cs:=#[.bool false,.bool false,.int .i64 0,.int .i64 0]) (t:=95) ?hr ?_;(case hd=>rfl);(case hg=>rfl);(case hr=>exact zy);intro gb101 hg w4 hbox hb;have n0_:=Aside0.mk (below_step za hb);have n1_:=Aside0.mk (hbox);have n2_:=Aside0.mk ((by rw [hg];exact (below_size za):w.heap.size≤gb101));have n3_:=Aside0.mk ((by rw [hg];exact (below_size za):w.heap.size≤gb101));clear HB;have HB:=n0_;have BK101:=n1_;have GW101:=n2_;have GE101:=n3_;clear n0_ n1_ n2_ n3_;clear hb hbox hg;have hcz5_0:w4.cell? ⟨gb101,0,none⟩=some (.bool false):=(blk_cell BK101.out 0).trans rfl;have hcz5_1:w4.cell? ⟨gb101,1,none⟩=some (.bool false):=(blk_cell BK101.out 1).trans rfl;have hcz5_2:w4.cell? ⟨gb101,2,none⟩=some (.int .i64 0):=(blk_cell BK101.out 2).trans rfl;have hcz5_3:w4.cell? ⟨gb101,3,none⟩=some (.int .i64 0):=(blk_cell BK101.out 3).trans rfl;have hfz5_0:=blk_frozen BK101.out 0;have hfz5_1:=blk_frozen BK101.out 1;have hfz5_2:=blk_frozen BK101.out 2;have hfz5_3:=blk_frozen BK101.out 3)|((with_reducible refine gate_callee (f:=101) rfl ?_);refine goesL_ (some 17) rfl rfl Tryz.func101 zau rfl #[.string a0,.string (⟨#[32]⟩:ByteArray)] rfl zd ?_;(with_reducible refine (strings_Split.calls a0 (⟨#[32]⟩:ByteArray) t102 _ ?side1 A3.out).mono ?_);(case side1=>exact Door2.at HD.out zb);rintro e w6 ⟨v103,rfl,ho0,hb⟩;refine ⟨_,rfl,?_⟩;have HO104:=Aside0.mk (Kd.R_lower ho0 (below_size zb));replace BK101:=Aside0.mk (blk_below (g:=gb101) (o:=.cells #[.bool true,.bool false,.int .i64 0,.int .i64 0] 95 (0,0)) (by (with_reducible repeat (first|refine blk_drewN ?_ _|refine blk_drew ?_|refine blk_alloc ?_ _));refine blk_put (cs:=#[.bool true,.bool false,.int .i64 0,.int .i64 0]) ?_ 3 _ rfl;(with_reducible repeat (first|refine blk_drewN ?_ _|refine blk_drew ?_|refine blk_alloc ?_ _));refine blk_put (cs:=#[.bool true,.bool false,.int .i64 0,.int .i64 0]) ?_ 2 _ rfl;(with_reducible repeat (first|refine blk_drewN ?_ _|refine blk_drew ?_|refine blk_alloc ?_ _));refine blk_put (cs:=#[.bool true,.bool false,.int .i64 0,.int .i64 0]) ?_ 1 _ rfl;(with_reducible repeat (first|refine blk_drewN ?_ _|refine blk_drew ?_|refine blk_alloc ?_ _));refine blk_put (cs:=#[.bool false,.bool false,.int .i64 0,.int .i64 0]) ?_ 0 _ rfl;(with_reducible repeat (first|refine blk_drewN ?_ _|refine blk_drew ?_|refine blk_alloc ?_ _));exact BK101.out) hb);replace HB:=Aside0.mk (below_step zb hb);(try clear hb);(try clear hb2);(try clear hk);(try clear hi);(try clear ho0);obtain ⟨Ao7,co7,eo7⟩:=Kd.R_slice HO104.out;subst eo7))
  go_loopg [4,19] k (fun kq v4 v19 w'=>∃(x4_1:List (S95)) (x19_1:Int) (x102000_1:Bool) (x102001_1:Bool) (x102002_1:Int) (x102003_1:Int),v19 = .int .i64 x19_1∧Aside0 (impl_barWords.l0 kq x4_1 t102 (t102.length:Int) x19_1 x102000_1 x102001_1 x102002_1 x102003_1=some (r1,r2))∧Aside0 (kq≤k)∧Aside0 (Kd.R k95 95 w' w.heap.size (fun k_=>k_≠gb101) v4 x4_1)∧Aside0 (Kd.R Kd.string 9 w' w.heap.size (fun _=>True) (.slice Ao7 t102.length co7) t102)∧Aside0 (w'.heap[gb101]?=some (.cells #[.bool x102000_1,.bool x102001_1,.int .i64 x102002_1,.int .i64 x102003_1] 95 (0,0)))∧Aside0 (Below w.heap.size w w'))
  case atStart=>exact ⟨(([]:List (S95))),(0),(true),(false),(0),(0),zg,H',⟨Nat.le_refl _⟩,⟨zm⟩,⟨zr⟩,⟨zc⟩,⟨zb⟩⟩
  case round=>
   clear H'
   try clear c1
   try clear c2
   try clear c2b0
   try clear c2b1
   try clear p2
   try clear c6
   try clear hcz5_0
   try clear hcz5_1
   try clear hcz5_2
   try clear hcz5_3
   try clear hfz5_0
   try clear hfz5_1
   try clear hfz5_2
   try clear hfz5_3
   obtain ⟨x4_1,x19_1,x102000_1,x102001_1,x102002_1,x102003_1,rfl,HA,HK1,HO_4,HO_17,BK101,HB⟩:=hrel
   cases gk with
   | zero=>exact absurd HA.out (by simp [impl_barWords.l0])
   | succ k1=>
    have H:=HA.out
    clear HA
    simp only [impl_barWords.l0] at H
    by_cases c8:x19_1<(t102.length:Int)
    ·rw [if_pos c8] at H
     have c8b0:decide (x19_1<(t102.length:Int))=true:=decide_eq_true c8
     clear c8
     by_cases c9:0≤x19_1
     ·rw [if_pos c9] at H
      have c9b0:decide (0≤x19_1)=true:=decide_eq_true c9
      clear c9
      by_cases c10:x19_1<(t102.length:Int)
      ·rw [if_pos c10] at H
       have c10b0:decide (x19_1<(t102.length:Int))=true:=decide_eq_true c10
       clear c10
       have HC11:=Aside0.mk H
       clear H
       have p105:0≤(x19_1:Int):=of_decide_eq_true ze
       have q105:x19_1<(t102.length:Int):=of_decide_eq_true ze
       obtain ⟨ad105,e105,hx105_0⟩:=Kd.at_string (Kd.R_reads' HO_17.out).2.2 x19_1 p105 q105
       cases e105
       replace p105:=eq_true p105
       replace q105:=eq_true q105
       go_upto_region 8 with (fail)
       go_cut [28] (fun v28 wc=>∃(kq:Nat) (x28_10:Bool),v28 = .bool x28_10∧Aside0 (impl_barWords.j1 kq x4_1 (rdOf ByteArray.empty t102 x19_1) t102 (t102.length:Int) x19_1 x28_10 x102000_1 x102001_1 x102002_1 x102003_1=some (r1,r2))∧Aside0 (kq≤k1)∧Aside0 (Kd.R k95 95 wc w.heap.size (fun k_=>k_≠gb101) u4 x4_1)∧Aside0 (Kd.R Kd.string 9 wc w.heap.size (fun _=>True) (.slice (some ad105) t102.length co7) t102)∧Aside0 (wc.heap[gb101]?=some (.cells #[.bool x102000_1,.bool x102001_1,.int .i64 x102002_1,.int .i64 x102003_1] 95 (0,0)))∧Aside0 (Below w.heap.size w wc))
       case first=>
        have H:=HC11.out
        clear HC11
        by_cases c12:(rdOf ByteArray.empty t102 x19_1).toList=([124]:List UInt8)
        ·rw [if_pos c12] at H
         have c12b0:((rdOf ByteArray.empty t102 x19_1).toList == ([124]:List UInt8))=true:=beq_iff_eq.mpr c12
         have c12b1:((rdOf ByteArray.empty t102 x19_1).toList != ([124]:List UInt8))=false:=bne_eq_false_iff_eq.mpr c12
         clear c12
         (first|rw [c12b0]|(simp only [i64_w,i32_w];rw [c12b0])|skip)
         have H':=Aside0.mk H
         clear H
         go_wp2
         go_meet
         case rel=>exact ⟨_,(true),zg,H',⟨by have:=HK1.out;first|omega|exact Nat.le_refl _⟩,⟨zv⟩,⟨zby⟩,⟨zc⟩,⟨zb⟩⟩
        ·rw [if_neg c12] at H
         have c12b0:((rdOf ByteArray.empty t102 x19_1).toList == ([124]:List UInt8))=false:=beq_eq_false_iff_ne.mpr c12
         have c12b1:((rdOf ByteArray.empty t102 x19_1).toList != ([124]:List UInt8))=true:=bne_iff_ne.mpr c12
         (first|rw [c12b0]|(simp only [i64_w,i32_w];rw [c12b0])|skip)
         have H':=Aside0.mk H
         clear H
         go_wp2
         go_meet
         case rel=>exact ⟨_,(((rdOf ByteArray.empty t102 x19_1).toList == ([124,124]:List UInt8))),zg,H',⟨by have:=HK1.out;first|omega|exact Nat.le_refl _⟩,⟨zv⟩,⟨zby⟩,⟨zc⟩,⟨zb⟩⟩
       case rest=>
        clear HC11
        try clear c1
        try clear p1
        try clear q1
        try clear hx1
        try clear c2
        try clear c2b0
        try clear c2b1
        try clear p2
        try clear c6
        try clear c8
        try clear c8b0
        try clear c9
        try clear c9b0
        try clear c10
        try clear c10b0
        try clear p10
        try clear q10
        try clear hx10
        try clear c12
        try clear c12b0
        try clear c12b1
        try clear hcz5_0
        try clear hcz5_1
        try clear hcz5_2
        try clear hcz5_3
        try clear hfz5_0
        try clear hfz5_1
        try clear hfz5_2
        try clear hfz5_3
        try clear hx105_0
        try clear p105
        try clear p2
        try clear q105
        obtain ⟨kq,x28_10,rfl,HA,HJ10,HO_4,HO_17,BK101,HB⟩:=hcut
        cases kq with
        | zero=>exact absurd HA.out (by simp [impl_barWords.j1])
        | succ kj10=>
         have H:=HA.out
         clear HA
         simp only [impl_barWords.j1] at H
         by_cases c13:x28_10=true
         ·subst c13
          have H1:(if x4_1.length<5864062014805 then (impl_barWords.l0 kj10 (x4_1++[(⟨true,false,(⟨0,0⟩:S67)⟩:S95)]) t102 (t102.length:Int) (wrap64 (x19_1+1)) x102000_1 x102001_1 x102002_1 x102003_1) else (none))=some (r1,r2):=by rw [if_pos rfl] at H;exact H
          clear H
          have H:=H1
          clear H1
          by_cases c14:x4_1.length<5864062014805
          ·rw [if_pos c14] at H
           have LMc14:=Aside0.mk c14
           clear c14
           obtain ⟨y106,hy106⟩:∃y_:List (S95),y_=(x4_1++[(⟨true,false,(⟨0,0⟩:S67)⟩:S95)]):=⟨_,rfl⟩
           replace H:(impl_barWords.l0 kj10 y106 t102 (t102.length:Int) (wrap64 (x19_1+1)) x102000_1 x102001_1 x102002_1 x102003_1)=some (r1,r2):=by first|(rw [hy106];with_reducible exact H)|(have H2_:=(Option.bind_some _ _).symm.trans H;rw [hy106];with_reducible exact H2_)|(have H2_:=(Option.bind_some _ _).symm.trans H;with_reducible exact H2_)|with_reducible exact H|(rw [hy106];exact H)|exact H
           have Ny106:=Aside0.mk hy106
           clear hy106
           have H':=Aside0.mk H
           clear H
           go_wp2_with (first|((with_reducible refine gate_builtin (b:=.append) (xs:=#[.tmp 29,.tmp 31]) rfl ?_);at_builtin;refine Kd.R_append k95 (w0:=w) w.heap.size rfl (.tmp 29) (.tmp 31) 84 95 (.agg #[(.bool false),(.bool false),(.int .i64 0),(.int .i64 0)]) 24 rfl Tryz.underlying84 info95 rfl zbl zdb u4 x4_1 (⟨true,false,(⟨0,0⟩:S67)⟩:S95) [.bool true,.bool false,.int .i64 0,.int .i64 0] (fun k_=>k_≠gb101) (fun _=>False) rfl rfl ?aP (fun _ hk=>hk.elim) ?aF ?aO ?aB ?aS ?aL ?_;(case aP=>exact k95_mkM _ _ _ (⟨true,false,(⟨0,0⟩:S67)⟩:S95));(case aB=>exact zb);(case aF=>exact (fun k_ hk=>Kd.freshB (g:=gb101) (o:=.cells #[.bool x102000_1,.bool x102001_1,.int .i64 x102002_1,.int .i64 x102003_1] 95 (0,0)) zc k_ hk));(case aO=>exact zv);(case aS=>exact (below_size zb));(case aL=>have:=LMc14.out;omega);intro v107 w15 ho hb hg hat;rw [←Ny106.out] at ho;replace HO_17:=Aside0.mk (Kd.R_over' zby (Kd.R_typed zv) zbl hg);replace BK101:=Aside0.mk (blk_grown (g:=gb101) (o:=.cells #[.bool x102000_1,.bool x102001_1,.int .i64 x102002_1,.int .i64 x102003_1] 95 (0,0)) zc hg (Kd.R_away HO_4.out (fun _ hk=>hk)));replace HB:=Aside0.mk (hb);have HO108:=Aside0.mk (ho);clear HO_4;clear ho hb hg hat))
           go_roundg kj10
           case measure=>have:=HK1.out;have:=HJ10.out;omega
           case rel=>exact ⟨(y106),(wrap64 (x19_1+1)),(x102000_1),(x102001_1),(x102002_1),(x102003_1),zg,H',⟨by have:=HK1.out;have:=HJ10.out;omega⟩,⟨zah⟩,⟨zby⟩,⟨zc⟩,⟨zb⟩⟩
          ·rw [if_neg c14] at H
           exact absurd H zdd
         ·replace c13:=Bool.eq_false_iff.mpr c13
          subst c13
          have H1:((strings_CutPrefix.f (rdOf ByteArray.empty t102 x19_1) (⟨#[126]⟩:ByteArray)).bind fun bt109=>((impl_ReadMelody.f kj10 bt109.1).bind fun bt111=>(if bt111.2=true then (impl_barWords.j2 kj10 x4_1 bt109.2 bt111.1 t102 (t102.length:Int) x19_1 ((bt111.1.length:Int) != 1) x102000_1 x102001_1 x102002_1 x102003_1) else (impl_barWords.j2 kj10 x4_1 bt109.2 bt111.1 t102 (t102.length:Int) x19_1 true x102000_1 x102001_1 x102002_1 x102003_1))))=some (r1,r2):=by rw [if_neg (show ¬ (false=true) by decide)] at H;exact H
          clear H
          have H:=H1
          clear H1
          replace H:=Option.bind_eq_some_iff.mp H
          obtain ⟨⟨t109,t110⟩,A160,H⟩:=H
          replace H:((impl_ReadMelody.f kj10 t109).bind fun bt111=>(if bt111.2=true then (impl_barWords.j2 kj10 x4_1 t110 bt111.1 t102 (t102.length:Int) x19_1 ((bt111.1.length:Int) != 1) x102000_1 x102001_1 x102002_1 x102003_1) else (impl_barWords.j2 kj10 x4_1 t110 bt111.1 t102 (t102.length:Int) x19_1 true x102000_1 x102001_1 x102002_1 x102003_1)))=some (r1,r2):=H
          have A16:=Aside0.mk A160
          clear A160
          replace H:=Option.bind_eq_some_iff.mp H
          obtain ⟨⟨t111,t112⟩,A170,H⟩:=H
          replace H:(if t112=true then (impl_barWords.j2 kj10 x4_1 t110 t111 t102 (t102.length:Int) x19_1 ((t111.length:Int) != 1) x102000_1 x102001_1 x102002_1 x102003_1) else (impl_barWords.j2 kj10 x4_1 t110 t111 t102 (t102.length:Int) x19_1 true x102000_1 x102001_1 x102002_1 x102003_1))=some (r1,r2):=H
          have A17:=Aside0.mk A170
          clear A170
          have HC18:=Aside0.mk H
          clear H
          go_upto_region 12 with (first|((with_reducible refine gate_callee (f:=102) rfl ?_);refine goesL_ (some 35) rfl rfl Tryz.func102 zau rfl #[.string (rdOf ByteArray.empty t102 x19_1),.string (⟨#[126]⟩:ByteArray)] rfl zd ?_;(with_reducible refine (strings_CutPrefix.calls (rdOf ByteArray.empty t102 x19_1) (⟨#[126]⟩:ByteArray) t109 t110 _ A16.out).mono ?_);rintro e w' ⟨rfl,⟨nd,rfl⟩⟩;refine ⟨_,rfl,?_⟩)|((with_reducible refine gate_callee (f:=103) rfl ?_);refine goesL_ (some 40) rfl rfl Tryz.func103 zau rfl #[.string t109] rfl zd ?_;(with_reducible refine (impl_ReadMelody.calls kj10 t109 t111 t112 _ ?side1 A17.out).mono ?_);(case side1=>exact Door2.at HD.out zb);rintro e w19 ⟨v113,rfl,ho0,hb⟩;refine ⟨_,rfl,?_⟩;replace HO_4:=Aside0.mk (Kd.R_below zv hb);replace HO_17:=Aside0.mk (Kd.R_below zby hb);have HO114:=Aside0.mk (Kd.R_lower ho0 (below_size zb));replace BK101:=Aside0.mk (blk_below (g:=gb101) (o:=.cells #[.bool x102000_1,.bool x102001_1,.int .i64 x102002_1,.int .i64 x102003_1] 95 (0,0)) zc hb);replace HB:=Aside0.mk (below_step zb hb);(try clear hb);(try clear hb2);(try clear hk);(try clear hi);(try clear ho0)))
          (try simp only [Act.put,List.setIfInBounds_toArray,List.set_cons_zero,List.set_cons_succ])
          go_cut [49] (fun v49 wc=>∃(kq:Nat) (x49_17:Bool),v49 = .bool x49_17∧Aside0 (impl_barWords.j2 kq x4_1 t110 t111 t102 (t102.length:Int) x19_1 x49_17 x102000_1 x102001_1 x102002_1 x102003_1=some (r1,r2))∧Aside0 (kq≤kj10)∧Aside0 (Kd.R k95 95 wc w.heap.size (fun k_=>k_≠gb101) u4 x4_1)∧Aside0 (Kd.R k67 67 wc w.heap.size (fun _=>True) v113 t111)∧Aside0 (Kd.R Kd.string 9 wc w.heap.size (fun _=>True) (.slice (some ad105) t102.length co7) t102)∧Aside0 (wc.heap[gb101]?=some (.cells #[.bool x102000_1,.bool x102001_1,.int .i64 x102002_1,.int .i64 x102003_1] 95 (0,0)))∧Aside0 (Below w.heap.size w wc))
          case first=>
           have H:=HC18.out
           clear HC18
           by_cases c20:t112=true
           ·subst c20
            have H1:(impl_barWords.j2 kj10 x4_1 t110 t111 t102 (t102.length:Int) x19_1 ((t111.length:Int) != 1) x102000_1 x102001_1 x102002_1 x102003_1)=some (r1,r2):=by rw [if_pos rfl] at H;exact H
            clear H
            have H:=H1
            clear H1
            have H':=Aside0.mk H
            clear H
            obtain ⟨Ao21,co21,eo21⟩:=Kd.R_slice HO114.out
            subst eo21
            go_wp2
            go_meet
            case rel=>exact ⟨_,(((t111.length:Int) != 1)),zg,H',⟨by have:=HK1.out;have:=HJ10.out;first|omega|exact Nat.le_refl _⟩,⟨zv⟩,⟨zdt⟩,⟨zby⟩,⟨zc⟩,⟨zb⟩⟩
           ·replace c20:=Bool.eq_false_iff.mpr c20
            subst c20
            have H1:(impl_barWords.j2 kj10 x4_1 t110 t111 t102 (t102.length:Int) x19_1 true x102000_1 x102001_1 x102002_1 x102003_1)=some (r1,r2):=by rw [if_neg (show ¬ (false=true) by decide)] at H;exact H
            clear H
            have H:=H1
            clear H1
            have H':=Aside0.mk H
            clear H
            go_wp2
            go_meet
            case rel=>exact ⟨_,(true),zg,H',⟨by have:=HK1.out;have:=HJ10.out;first|omega|exact Nat.le_refl _⟩,⟨zv⟩,⟨zdt⟩,⟨zby⟩,⟨zc⟩,⟨zb⟩⟩
          case rest=>
           clear HC18
           try clear c1
           try clear p1
           try clear q1
           try clear hx1
           try clear c2
           try clear c2b0
           try clear c2b1
           try clear p2
           try clear c6
           try clear p6
           try clear c8
           try clear c8b0
           try clear c9
           try clear c9b0
           try clear c10
           try clear c10b0
           try clear p10
           try clear q10
           try clear hx10
           try clear c12
           try clear c12b0
           try clear c12b1
           try clear c13
           try clear c14
           try clear c20
           try clear hcz5_0
           try clear hcz5_1
           try clear hcz5_2
           try clear hcz5_3
           try clear hfz5_0
           try clear hfz5_1
           try clear hfz5_2
           try clear hfz5_3
           try clear hx105_0
           try clear p1
           try clear p10
           try clear p105
           try clear p2
           try clear q1
           try clear q10
           try clear q105
           obtain ⟨kq,x49_17,rfl,HA,HJ17,HO_4,HO_10,HO_17,BK101,HB⟩:=hcut
           cases kq with
           | zero=>exact absurd HA.out (by simp [impl_barWords.j2])
           | succ kj17=>
            have H:=HA.out
            clear HA
            simp only [impl_barWords.j2] at H
            by_cases c22:x49_17=true
            ·subst c22
             have H1:(some (([]:List (S95)),false))=some (r1,r2):=by rw [if_pos rfl] at H;exact H
             clear H
             have H:=H1
             clear H1
             simp only [Option.some.injEq,Prod.mk.injEq] at H
             obtain ⟨rfl,rfl⟩:=H
             go_wp2
             go_ret2
             exact ⟨_,zi,zm,zb⟩
            ·replace c22:=Bool.eq_false_iff.mpr c22
             subst c22
             have H1:(if 0<(t111.length:Int) then (if t110=true then (if x102000_1=true then (some (([]:List (S95)),false)) else (if x102002_1=((rd_T67 t111 0).f0) then (if x4_1.length<5864062014805 then (impl_barWords.l0 kj17 (x4_1++[(⟨false,t110,(⟨(rd_T67 t111 0).f0,(rd_T67 t111 0).f1⟩:S67)⟩:S95)]) t102 (t102.length:Int) (wrap64 (x19_1+1)) false t110 ((rd_T67 t111 0).f0) ((rd_T67 t111 0).f1)) else (none)) else (some (([]:List (S95)),false)))) else (if x4_1.length<5864062014805 then (impl_barWords.l0 kj17 (x4_1++[(⟨false,t110,(⟨(rd_T67 t111 0).f0,(rd_T67 t111 0).f1⟩:S67)⟩:S95)]) t102 (t102.length:Int) (wrap64 (x19_1+1)) false t110 ((rd_T67 t111 0).f0) ((rd_T67 t111 0).f1)) else (none))) else (none))=some (r1,r2):=by rw [if_neg (show ¬ (false=true) by decide)] at H;exact H
             clear H
             have H:=H1
             clear H1
             by_cases c23:0<(t111.length:Int)
             ·rw [if_pos c23] at H
              have c23b0:decide (0<(t111.length:Int))=true:=decide_eq_true c23
              have c23b1:decide (0<t111.length)=true:=decide_eq_true zdb
              clear c23
              by_cases c24:t110=true
              ·subst c24
               have H1:(if x102000_1=true then (some (([]:List (S95)),false)) else (if x102002_1=((rd_T67 t111 0).f0) then (if x4_1.length<5864062014805 then (impl_barWords.l0 kj17 (x4_1++[(⟨false,true,(⟨(rd_T67 t111 0).f0,(rd_T67 t111 0).f1⟩:S67)⟩:S95)]) t102 (t102.length:Int) (wrap64 (x19_1+1)) false true ((rd_T67 t111 0).f0) ((rd_T67 t111 0).f1)) else (none)) else (some (([]:List (S95)),false))))=some (r1,r2):=by rw [if_pos rfl] at H;exact H
               clear H
               have H:=H1
               clear H1
               by_cases c25:x102000_1=true
               ·subst c25
                have H1:(some (([]:List (S95)),false))=some (r1,r2):=by rw [if_pos rfl] at H;exact H
                clear H
                have H:=H1
                clear H1
                simp only [Option.some.injEq,Prod.mk.injEq] at H
                obtain ⟨rfl,rfl⟩:=H
                obtain ⟨Ao26,co26,eo26⟩:=Kd.R_slice HO_10.out
                subst eo26
                have p115:0≤(0:Int):=zdb
                have q115:0<(t111.length:Int):=of_decide_eq_true ze
                obtain ⟨ad115,e115,hx115_0,hx115_1⟩:=at_T67 (Kd.R_reads' HO_10.out).2.2 0 p115 q115
                cases e115
                have qi115:(0<t111.length)=True:=eq_true zdb
                (try rw [show ((0:Int)).toNat=0 from rfl] at hx115_0)
                (try rw [show 0*2=0 from rfl] at hx115_0)
                (try rw [Addr.add_zero'] at hx115_0)
                (try rw [show ((0:Int)).toNat=0 from rfl] at hx115_1)
                (try rw [show 0*2=0 from rfl] at hx115_1)
                (try rw [Addr.add_zero'] at hx115_1)
                replace p115:=eq_true p115
                replace q115:=eq_true q115
                go_wp2_with (first|((with_reducible refine gate_dst (N:=12) rfl ?_);refine box_event ?hg (N:=12) ?hd (cs:=#[.bool false,.bool false,.int .i64 0,.int .i64 0]) (t:=95) ?hr ?_;(case hd=>rfl);(case hg=>rfl);(case hr=>exact zy);intro gb116 hg w27 hbox hb;have n0_:=Aside0.mk (Kd.R_below (Kd.R_elderB zv gb116 (Nat.le_of_eq hg.symm)) hb);have n1_:=Aside0.mk (Kd.R_below zbi hb);have n2_:=Aside0.mk (Kd.R_below zby hb);have n3_:=Aside0.mk (blk_below (g:=gb101) (o:=.cells #[.bool true,.bool x102001_1,.int .i64 x102002_1,.int .i64 x102003_1] 95 (0,0)) zc hb);have n4_:=Aside0.mk (below_step zb hb);have n5_:=Aside0.mk (hbox);have n6_:=Aside0.mk ((by rw [hg];exact (below_size zb):w.heap.size≤gb116));have n7_:=Aside0.mk ((by rw [hg];exact (below_size zb):w.heap.size≤gb116));have n8_:=Aside0.mk ((by rw [hg];exact Nat.ne_of_lt (blk_lt (g:=gb101) (o:=.cells #[.bool true,.bool x102001_1,.int .i64 x102002_1,.int .i64 x102003_1] 95 (0,0)) zc):gb101≠gb116));have n9_:=Aside0.mk ((by rw [hg];exact Nat.ne_of_gt (blk_lt (g:=gb101) (o:=.cells #[.bool true,.bool x102001_1,.int .i64 x102002_1,.int .i64 x102003_1] 95 (0,0)) zc):gb116≠gb101));clear HO_4;clear HO_10;clear HO_17;clear BK101;clear HB;have HO_4:=n0_;have HO_10:=n1_;have HO_17:=n2_;have BK101:=n3_;have HB:=n4_;have BK116:=n5_;have GW116:=n6_;have GE116:=n7_;have NB101_116:=n8_;have NB116_101:=n9_;clear n0_ n1_ n2_ n3_ n4_ n5_ n6_ n7_ n8_ n9_;clear hb hbox hg;have hnb28:=NB116_101.out;have hnc28:=NB101_116.out;have hcz29_0:w27.cell? ⟨gb116,0,none⟩=some (.bool false):=(blk_cell BK116.out 0).trans rfl;have hcz29_1:w27.cell? ⟨gb116,1,none⟩=some (.bool false):=(blk_cell BK116.out 1).trans rfl;have hcz29_2:w27.cell? ⟨gb116,2,none⟩=some (.int .i64 0):=(blk_cell BK116.out 2).trans rfl;have hcz29_3:w27.cell? ⟨gb116,3,none⟩=some (.int .i64 0):=(blk_cell BK116.out 3).trans rfl;have hfz29_0:=blk_frozen BK116.out 0;have hfz29_1:=blk_frozen BK116.out 1;have hfz29_2:=blk_frozen BK116.out 2;have hfz29_3:=blk_frozen BK116.out 3;have hcz30_0:w27.cell? ⟨gb101,0,none⟩=some (.bool true):=(blk_cell BK101.out 0).trans rfl;have hcz30_1:w27.cell? ⟨gb101,1,none⟩=some (.bool x102001_1):=(blk_cell BK101.out 1).trans rfl;have hcz30_2:w27.cell? ⟨gb101,2,none⟩=some (.int .i64 x102002_1):=(blk_cell BK101.out 2).trans rfl;have hcz30_3:w27.cell? ⟨gb101,3,none⟩=some (.int .i64 x102003_1):=(blk_cell BK101.out 3).trans rfl;have hfz30_0:=blk_frozen BK101.out 0;have hfz30_1:=blk_frozen BK101.out 1;have hfz30_2:=blk_frozen BK101.out 2;have hfz30_3:=blk_frozen BK101.out 3))
                go_ret2
                exact ⟨_,zi,zm,zbg⟩
               ·replace c25:=Bool.eq_false_iff.mpr c25
                subst c25
                have H1:(if x102002_1=((rd_T67 t111 0).f0) then (if x4_1.length<5864062014805 then (impl_barWords.l0 kj17 (x4_1++[(⟨false,true,(⟨(rd_T67 t111 0).f0,(rd_T67 t111 0).f1⟩:S67)⟩:S95)]) t102 (t102.length:Int) (wrap64 (x19_1+1)) false true ((rd_T67 t111 0).f0) ((rd_T67 t111 0).f1)) else (none)) else (some (([]:List (S95)),false)))=some (r1,r2):=by rw [if_neg (show ¬ (false=true) by decide)] at H;exact H
                clear H
                have H:=H1
                clear H1
                by_cases c31:x102002_1=((rd_T67 t111 0).f0)
                ·rw [if_pos c31] at H
                 have c31b0:(x102002_1 == ((rd_T67 t111 0).f0))=true:=beq_iff_eq.mpr c31
                 have c31b1:(x102002_1 != ((rd_T67 t111 0).f0))=false:=bne_eq_false_iff_eq.mpr c31
                 clear c31
                 by_cases c32:x4_1.length<5864062014805
                 ·rw [if_pos c32] at H
                  have LMc32:=Aside0.mk c32
                  clear c32
                  obtain ⟨y117,hy117⟩:∃y_:List (S95),y_=(x4_1++[(⟨false,true,(⟨(rd_T67 t111 0).f0,(rd_T67 t111 0).f1⟩:S67)⟩:S95)]):=⟨_,rfl⟩
                  replace H:(impl_barWords.l0 kj17 y117 t102 (t102.length:Int) (wrap64 (x19_1+1)) false true ((rd_T67 t111 0).f0) ((rd_T67 t111 0).f1))=some (r1,r2):=by first|(rw [hy117];with_reducible exact H)|(have H2_:=(Option.bind_some _ _).symm.trans H;rw [hy117];with_reducible exact H2_)|(have H2_:=(Option.bind_some _ _).symm.trans H;with_reducible exact H2_)|with_reducible exact H|(rw [hy117];exact H)|exact H
                  have Ny117:=Aside0.mk hy117
                  clear hy117
                  have H':=Aside0.mk H
                  clear H
                  obtain ⟨Ao33,co33,eo33⟩:=Kd.R_slice HO_10.out
                  subst eo33
                  have p115:0≤(0:Int):=zdb
                  have q115:0<(t111.length:Int):=of_decide_eq_true ze
                  obtain ⟨ad115,e115,hx115_0,hx115_1⟩:=at_T67 (Kd.R_reads' HO_10.out).2.2 0 p115 q115
                  cases e115
                  have qi115:(0<t111.length)=True:=eq_true zdb
                  (try rw [show ((0:Int)).toNat=0 from rfl] at hx115_0)
                  (try rw [show 0*2=0 from rfl] at hx115_0)
                  (try rw [Addr.add_zero'] at hx115_0)
                  (try rw [show ((0:Int)).toNat=0 from rfl] at hx115_1)
                  (try rw [show 0*2=0 from rfl] at hx115_1)
                  (try rw [Addr.add_zero'] at hx115_1)
                  replace p115:=eq_true p115
                  replace q115:=eq_true q115
                  go_wp2_with (first|((with_reducible refine gate_dst (N:=12) rfl ?_);refine box_event ?hg (N:=12) ?hd (cs:=#[.bool false,.bool false,.int .i64 0,.int .i64 0]) (t:=95) ?hr ?_;(case hd=>rfl);(case hg=>rfl);(case hr=>exact zy);intro gb116 hg w34 hbox hb;have n0_:=Aside0.mk (Kd.R_below (Kd.R_elderB zv gb116 (Nat.le_of_eq hg.symm)) hb);have n1_:=Aside0.mk (Kd.R_below zbi hb);have n2_:=Aside0.mk (Kd.R_below zby hb);have n3_:=Aside0.mk (blk_below (g:=gb101) (o:=.cells #[.bool false,.bool x102001_1,.int .i64 x102002_1,.int .i64 x102003_1] 95 (0,0)) zc hb);have n4_:=Aside0.mk (below_step zb hb);have n5_:=Aside0.mk (hbox);have n6_:=Aside0.mk ((by rw [hg];exact (below_size zb):w.heap.size≤gb116));have n7_:=Aside0.mk ((by rw [hg];exact (below_size zb):w.heap.size≤gb116));have n8_:=Aside0.mk ((by rw [hg];exact Nat.ne_of_lt (blk_lt (g:=gb101) (o:=.cells #[.bool false,.bool x102001_1,.int .i64 x102002_1,.int .i64 x102003_1] 95 (0,0)) zc):gb101≠gb116));have n9_:=Aside0.mk ((by rw [hg];exact Nat.ne_of_gt (blk_lt (g:=gb101) (o:=.cells #[.bool false,.bool x102001_1,.int .i64 x102002_1,.int .i64 x102003_1] 95 (0,0)) zc):gb116≠gb101));clear HO_4;clear HO_10;clear HO_17;clear BK101;clear HB;have HO_4:=n0_;have HO_10:=n1_;have HO_17:=n2_;have BK101:=n3_;have HB:=n4_;have BK116:=n5_;have GW116:=n6_;have GE116:=n7_;have NB101_116:=n8_;have NB116_101:=n9_;clear n0_ n1_ n2_ n3_ n4_ n5_ n6_ n7_ n8_ n9_;clear hb hbox hg;have hnb35:=NB116_101.out;have hnc35:=NB101_116.out;have hcz36_0:w34.cell? ⟨gb116,0,none⟩=some (.bool false):=(blk_cell BK116.out 0).trans rfl;have hcz36_1:w34.cell? ⟨gb116,1,none⟩=some (.bool false):=(blk_cell BK116.out 1).trans rfl;have hcz36_2:w34.cell? ⟨gb116,2,none⟩=some (.int .i64 0):=(blk_cell BK116.out 2).trans rfl;have hcz36_3:w34.cell? ⟨gb116,3,none⟩=some (.int .i64 0):=(blk_cell BK116.out 3).trans rfl;have hfz36_0:=blk_frozen BK116.out 0;have hfz36_1:=blk_frozen BK116.out 1;have hfz36_2:=blk_frozen BK116.out 2;have hfz36_3:=blk_frozen BK116.out 3;have hcz37_0:w34.cell? ⟨gb101,0,none⟩=some (.bool false):=(blk_cell BK101.out 0).trans rfl;have hcz37_1:w34.cell? ⟨gb101,1,none⟩=some (.bool x102001_1):=(blk_cell BK101.out 1).trans rfl;have hcz37_2:w34.cell? ⟨gb101,2,none⟩=some (.int .i64 x102002_1):=(blk_cell BK101.out 2).trans rfl;have hcz37_3:w34.cell? ⟨gb101,3,none⟩=some (.int .i64 x102003_1):=(blk_cell BK101.out 3).trans rfl;have hfz37_0:=blk_frozen BK101.out 0;have hfz37_1:=blk_frozen BK101.out 1;have hfz37_2:=blk_frozen BK101.out 2;have hfz37_3:=blk_frozen BK101.out 3)|((with_reducible refine gate_builtin (b:=.append) (xs:=#[.tmp 69,.tmp 71]) rfl ?_);at_builtin;refine Kd.R_append k95 (w0:=w) w.heap.size rfl (.tmp 69) (.tmp 71) 84 95 (.agg #[(.bool false),(.bool false),(.int .i64 0),(.int .i64 0)]) 24 rfl Tryz.underlying84 info95 rfl zbl zdb u4 x4_1 (⟨false,true,(⟨(rd_T67 t111 0).f0,(rd_T67 t111 0).f1⟩:S67)⟩:S95) [.bool false,.bool true,.int .i64 ((rd_T67 t111 0).f0),.int .i64 ((rd_T67 t111 0).f1)] (fun k_=>k_≠gb101∧k_≠gb116) (fun _=>False) rfl zy ?aP (fun _ hk=>hk.elim) ?aF ?aO ?aB ?aS ?aL ?_;(case aP=>exact k95_mkM _ _ _ (⟨false,true,(⟨(rd_T67 t111 0).f0,(rd_T67 t111 0).f1⟩:S67)⟩:S95));(case aB=>exact zbg);(case aF=>exact (fun k_ hk=>⟨Kd.freshB (g:=gb101) (o:=.cells #[.bool false,.bool x102001_1,.int .i64 x102002_1,.int .i64 x102003_1] 95 (0,0)) zz k_ hk,Kd.freshB (g:=gb116) (o:=.cells #[.bool false,.bool true,.int .i64 ((rd_T67 t111 0).f0),.int .i64 ((rd_T67 t111 0).f1)] 95 (0,0)) (by (with_reducible repeat (first|refine blk_drewN ?_ _|refine blk_drew ?_|refine blk_alloc ?_ _));refine blk_put (cs:=#[.bool false,.bool true,.int .i64 ((rd_T67 t111 0).f0),.int .i64 0]) ?_ 3 _ rfl;(with_reducible repeat (first|refine blk_drewN ?_ _|refine blk_drew ?_|refine blk_alloc ?_ _));refine blk_put (cs:=#[.bool false,.bool true,.int .i64 0,.int .i64 0]) ?_ 2 _ rfl;(with_reducible repeat (first|refine blk_drewN ?_ _|refine blk_drew ?_|refine blk_alloc ?_ _));refine blk_put (cs:=#[.bool false,.bool false,.int .i64 0,.int .i64 0]) ?_ 1 _ rfl;(with_reducible repeat (first|refine blk_drewN ?_ _|refine blk_drew ?_|refine blk_alloc ?_ _));refine blk_put (cs:=#[.bool false,.bool false,.int .i64 0,.int .i64 0]) ?_ 0 _ rfl;(with_reducible repeat (first|refine blk_drewN ?_ _|refine blk_drew ?_|refine blk_alloc ?_ _));exact BK116.out) k_ hk⟩));(case aO=>exact (by (with_reducible repeat (first|apply Kd.R_alloc|apply Kd.R_drewN|apply Kd.R_drew));exact Kd.R_mono (Kd.R_far (p:=⟨gb116,3,none⟩) (Kd.R_far (p:=⟨gb116,2,none⟩) (Kd.R_far (p:=⟨gb116,1,none⟩) (Kd.R_far (p:=⟨gb116,0,none⟩) (Kd.R_mono HO_4.out (fun k_ hk=>(⟨hk,hk.2⟩:_∧k_≠gb116))) (fun _ hk=>hk.2) (.bool false)) (fun _ hk=>hk.2) (.bool true)) (fun _ hk=>hk.2) (.int .i64 ((rd_T67 t111 0).f0))) (fun _ hk=>hk.2) (.int .i64 ((rd_T67 t111 0).f1))) (fun _ hk=>⟨hk.1.1,hk.1.2⟩)));(case aS=>exact (below_size zbg));(case aL=>have:=LMc32.out;omega);intro v118 w38 ho hb hg hat;rw [←Ny117.out] at ho;replace HO_10:=Aside0.mk (Kd.R_over' (by (with_reducible repeat (first|apply Kd.R_alloc|apply Kd.R_drewN|apply Kd.R_drew));exact (Kd.R_mono (Kd.R_far (p:=⟨gb116,3,none⟩) (Kd.R_far (p:=⟨gb116,2,none⟩) (Kd.R_far (p:=⟨gb116,1,none⟩) (Kd.R_far (p:=⟨gb116,0,none⟩) (Kd.R_types HO_10.out BK116.out zbl) (fun _ hk=>hk.2) (.bool false)) (fun _ hk=>hk.2) (.bool true)) (fun _ hk=>hk.2) (.int .i64 ((rd_T67 t111 0).f0))) (fun _ hk=>hk.2) (.int .i64 ((rd_T67 t111 0).f1))) (fun _ h_=>h_.1))) (Kd.R_typed (by (with_reducible repeat (first|apply Kd.R_alloc|apply Kd.R_drewN|apply Kd.R_drew));exact (Kd.R_mono (Kd.R_far (p:=⟨gb116,3,none⟩) (Kd.R_far (p:=⟨gb116,2,none⟩) (Kd.R_far (p:=⟨gb116,1,none⟩) (Kd.R_far (p:=⟨gb116,0,none⟩) (Kd.R_mono HO_4.out (fun k_ hk=>(⟨hk,hk.2⟩:_∧k_≠gb116))) (fun _ hk=>hk.2) (.bool false)) (fun _ hk=>hk.2) (.bool true)) (fun _ hk=>hk.2) (.int .i64 ((rd_T67 t111 0).f0))) (fun _ hk=>hk.2) (.int .i64 ((rd_T67 t111 0).f1))) (fun _ h_=>h_.1)))) zbl hg);replace HO_17:=Aside0.mk (Kd.R_over' (by (with_reducible repeat (first|apply Kd.R_alloc|apply Kd.R_drewN|apply Kd.R_drew));exact (Kd.R_mono (Kd.R_far (p:=⟨gb116,3,none⟩) (Kd.R_far (p:=⟨gb116,2,none⟩) (Kd.R_far (p:=⟨gb116,1,none⟩) (Kd.R_far (p:=⟨gb116,0,none⟩) (Kd.R_types HO_17.out BK116.out zbl) (fun _ hk=>hk.2) (.bool false)) (fun _ hk=>hk.2) (.bool true)) (fun _ hk=>hk.2) (.int .i64 ((rd_T67 t111 0).f0))) (fun _ hk=>hk.2) (.int .i64 ((rd_T67 t111 0).f1))) (fun _ h_=>h_.1))) (Kd.R_typed (by (with_reducible repeat (first|apply Kd.R_alloc|apply Kd.R_drewN|apply Kd.R_drew));exact (Kd.R_mono (Kd.R_far (p:=⟨gb116,3,none⟩) (Kd.R_far (p:=⟨gb116,2,none⟩) (Kd.R_far (p:=⟨gb116,1,none⟩) (Kd.R_far (p:=⟨gb116,0,none⟩) (Kd.R_mono HO_4.out (fun k_ hk=>(⟨hk,hk.2⟩:_∧k_≠gb116))) (fun _ hk=>hk.2) (.bool false)) (fun _ hk=>hk.2) (.bool true)) (fun _ hk=>hk.2) (.int .i64 ((rd_T67 t111 0).f0))) (fun _ hk=>hk.2) (.int .i64 ((rd_T67 t111 0).f1))) (fun _ h_=>h_.1)))) zbl hg);replace BK101:=Aside0.mk (blk_grown (g:=gb101) (o:=.cells #[.bool false,.bool x102001_1,.int .i64 x102002_1,.int .i64 x102003_1] 95 (0,0)) zz hg (Kd.R_away HO_4.out (fun _ hk=>hk.1)));replace BK116:=Aside0.mk (blk_grown (g:=gb116) (o:=.cells #[.bool false,.bool true,.int .i64 ((rd_T67 t111 0).f0),.int .i64 ((rd_T67 t111 0).f1)] 95 (0,0)) (by (with_reducible repeat (first|refine blk_drewN ?_ _|refine blk_drew ?_|refine blk_alloc ?_ _));refine blk_put (cs:=#[.bool false,.bool true,.int .i64 ((rd_T67 t111 0).f0),.int .i64 0]) ?_ 3 _ rfl;(with_reducible repeat (first|refine blk_drewN ?_ _|refine blk_drew ?_|refine blk_alloc ?_ _));refine blk_put (cs:=#[.bool false,.bool true,.int .i64 0,.int .i64 0]) ?_ 2 _ rfl;(with_reducible repeat (first|refine blk_drewN ?_ _|refine blk_drew ?_|refine blk_alloc ?_ _));refine blk_put (cs:=#[.bool false,.bool false,.int .i64 0,.int .i64 0]) ?_ 1 _ rfl;(with_reducible repeat (first|refine blk_drewN ?_ _|refine blk_drew ?_|refine blk_alloc ?_ _));refine blk_put (cs:=#[.bool false,.bool false,.int .i64 0,.int .i64 0]) ?_ 0 _ rfl;(with_reducible repeat (first|refine blk_drewN ?_ _|refine blk_drew ?_|refine blk_alloc ?_ _));exact BK116.out) hg (Kd.R_away HO_4.out (fun _ hk=>hk.2)));replace HB:=Aside0.mk (hb);have HO119:=Aside0.mk (ho);clear HO_4;clear ho hb hg hat;have hcz39_0:w38.cell? ⟨gb116,0,none⟩=some (.bool false):=(blk_cell BK116.out 0).trans rfl;have hcz39_1:w38.cell? ⟨gb116,1,none⟩=some (.bool true):=(blk_cell BK116.out 1).trans rfl;have hcz39_2:w38.cell? ⟨gb116,2,none⟩=some (.int .i64 ((rd_T67 t111 0).f0)):=(blk_cell BK116.out 2).trans rfl;have hcz39_3:w38.cell? ⟨gb116,3,none⟩=some (.int .i64 ((rd_T67 t111 0).f1)):=(blk_cell BK116.out 3).trans rfl;have hfz39_0:=blk_frozen BK116.out 0;have hfz39_1:=blk_frozen BK116.out 1;have hfz39_2:=blk_frozen BK116.out 2;have hfz39_3:=blk_frozen BK116.out 3;have hcz40_0:w38.cell? ⟨gb101,0,none⟩=some (.bool false):=(blk_cell BK101.out 0).trans rfl;have hcz40_1:w38.cell? ⟨gb101,1,none⟩=some (.bool x102001_1):=(blk_cell BK101.out 1).trans rfl;have hcz40_2:w38.cell? ⟨gb101,2,none⟩=some (.int .i64 x102002_1):=(blk_cell BK101.out 2).trans rfl;have hcz40_3:w38.cell? ⟨gb101,3,none⟩=some (.int .i64 x102003_1):=(blk_cell BK101.out 3).trans rfl;have hfz40_0:=blk_frozen BK101.out 0;have hfz40_1:=blk_frozen BK101.out 1;have hfz40_2:=blk_frozen BK101.out 2;have hfz40_3:=blk_frozen BK101.out 3))
                  go_roundg kj17
                  case measure=>have:=HK1.out;have:=HJ10.out;have:=HJ17.out;omega
                  case rel=>exact ⟨(y117),(wrap64 (x19_1+1)),(false),(true),((rd_T67 t111 0).f0),((rd_T67 t111 0).f1),zg,H',⟨by have:=HK1.out;have:=HJ10.out;have:=HJ17.out;omega⟩,⟨by (with_reducible repeat (first|apply Kd.R_alloc|apply Kd.R_drewN|apply Kd.R_drew));exact Kd.R_mono (Kd.R_far (p:=⟨gb101,3,none⟩) (Kd.R_far (p:=⟨gb101,2,none⟩) (Kd.R_far (p:=⟨gb101,1,none⟩) (Kd.R_far (p:=⟨gb101,0,none⟩) (Kd.R_mono HO119.out (fun k_ hk=>(⟨hk,hk.1⟩:_∧k_≠gb101))) (fun _ hk=>hk.2) (.bool false)) (fun _ hk=>hk.2) (.bool true)) (fun _ hk=>hk.2) (.int .i64 ((rd_T67 t111 0).f0))) (fun _ hk=>hk.2) (.int .i64 ((rd_T67 t111 0).f1))) (fun _ hk=>hk.1.1)⟩,⟨by (with_reducible repeat (first|apply Kd.R_alloc|apply Kd.R_drewN|apply Kd.R_drew));exact Kd.R_mono (Kd.R_far (p:=⟨gb101,3,none⟩) (Kd.R_far (p:=⟨gb101,2,none⟩) (Kd.R_far (p:=⟨gb101,1,none⟩) (Kd.R_far (p:=⟨gb101,0,none⟩) (Kd.R_types HO_17.out BK101.out zbl) (fun _ hk=>hk.2) (.bool false)) (fun _ hk=>hk.2) (.bool true)) (fun _ hk=>hk.2) (.int .i64 ((rd_T67 t111 0).f0))) (fun _ hk=>hk.2) (.int .i64 ((rd_T67 t111 0).f1))) (fun _ hk=>trivial)⟩,⟨by (with_reducible repeat (first|refine blk_drewN ?_ _|refine blk_drew ?_|refine blk_alloc ?_ _));refine blk_put (cs:=#[.bool false,.bool true,.int .i64 ((rd_T67 t111 0).f0),.int .i64 x102003_1]) ?_ 3 _ rfl;(with_reducible repeat (first|refine blk_drewN ?_ _|refine blk_drew ?_|refine blk_alloc ?_ _));refine blk_put (cs:=#[.bool false,.bool true,.int .i64 x102002_1,.int .i64 x102003_1]) ?_ 2 _ rfl;(with_reducible repeat (first|refine blk_drewN ?_ _|refine blk_drew ?_|refine blk_alloc ?_ _));refine blk_put (cs:=#[.bool false,.bool x102001_1,.int .i64 x102002_1,.int .i64 x102003_1]) ?_ 1 _ rfl;(with_reducible repeat (first|refine blk_drewN ?_ _|refine blk_drew ?_|refine blk_alloc ?_ _));refine blk_put (cs:=#[.bool false,.bool x102001_1,.int .i64 x102002_1,.int .i64 x102003_1]) ?_ 0 _ rfl;(with_reducible repeat (first|refine blk_drewN ?_ _|refine blk_drew ?_|refine blk_alloc ?_ _));exact BK101.out⟩,⟨zbg⟩⟩
                 ·rw [if_neg c32] at H
                  exact absurd H zdd
                ·rw [if_neg c31] at H
                 have c31b0:(x102002_1 == ((rd_T67 t111 0).f0))=false:=beq_eq_false_iff_ne.mpr c31
                 have c31b1:(x102002_1 != ((rd_T67 t111 0).f0))=true:=bne_iff_ne.mpr c31
                 simp only [Option.some.injEq,Prod.mk.injEq] at H
                 obtain ⟨rfl,rfl⟩:=H
                 obtain ⟨Ao41,co41,eo41⟩:=Kd.R_slice HO_10.out
                 subst eo41
                 have p115:0≤(0:Int):=zdb
                 have q115:0<(t111.length:Int):=of_decide_eq_true ze
                 obtain ⟨ad115,e115,hx115_0,hx115_1⟩:=at_T67 (Kd.R_reads' HO_10.out).2.2 0 p115 q115
                 cases e115
                 have qi115:(0<t111.length)=True:=eq_true zdb
                 (try rw [show ((0:Int)).toNat=0 from rfl] at hx115_0)
                 (try rw [show 0*2=0 from rfl] at hx115_0)
                 (try rw [Addr.add_zero'] at hx115_0)
                 (try rw [show ((0:Int)).toNat=0 from rfl] at hx115_1)
                 (try rw [show 0*2=0 from rfl] at hx115_1)
                 (try rw [Addr.add_zero'] at hx115_1)
                 replace p115:=eq_true p115
                 replace q115:=eq_true q115
                 go_wp2_with (first|((with_reducible refine gate_dst (N:=12) rfl ?_);refine box_event ?hg (N:=12) ?hd (cs:=#[.bool false,.bool false,.int .i64 0,.int .i64 0]) (t:=95) ?hr ?_;(case hd=>rfl);(case hg=>rfl);(case hr=>exact zy);intro gb116 hg w42 hbox hb;have n0_:=Aside0.mk (Kd.R_below (Kd.R_elderB zv gb116 (Nat.le_of_eq hg.symm)) hb);have n1_:=Aside0.mk (Kd.R_below zbi hb);have n2_:=Aside0.mk (Kd.R_below zby hb);have n3_:=Aside0.mk (blk_below (g:=gb101) (o:=.cells #[.bool false,.bool x102001_1,.int .i64 x102002_1,.int .i64 x102003_1] 95 (0,0)) zc hb);have n4_:=Aside0.mk (below_step zb hb);have n5_:=Aside0.mk (hbox);have n6_:=Aside0.mk ((by rw [hg];exact (below_size zb):w.heap.size≤gb116));have n7_:=Aside0.mk ((by rw [hg];exact (below_size zb):w.heap.size≤gb116));have n8_:=Aside0.mk ((by rw [hg];exact Nat.ne_of_lt (blk_lt (g:=gb101) (o:=.cells #[.bool false,.bool x102001_1,.int .i64 x102002_1,.int .i64 x102003_1] 95 (0,0)) zc):gb101≠gb116));have n9_:=Aside0.mk ((by rw [hg];exact Nat.ne_of_gt (blk_lt (g:=gb101) (o:=.cells #[.bool false,.bool x102001_1,.int .i64 x102002_1,.int .i64 x102003_1] 95 (0,0)) zc):gb116≠gb101));clear HO_4;clear HO_10;clear HO_17;clear BK101;clear HB;have HO_4:=n0_;have HO_10:=n1_;have HO_17:=n2_;have BK101:=n3_;have HB:=n4_;have BK116:=n5_;have GW116:=n6_;have GE116:=n7_;have NB101_116:=n8_;have NB116_101:=n9_;clear n0_ n1_ n2_ n3_ n4_ n5_ n6_ n7_ n8_ n9_;clear hb hbox hg;have hnb43:=NB116_101.out;have hnc43:=NB101_116.out;have hcz44_0:w42.cell? ⟨gb116,0,none⟩=some (.bool false):=(blk_cell BK116.out 0).trans rfl;have hcz44_1:w42.cell? ⟨gb116,1,none⟩=some (.bool false):=(blk_cell BK116.out 1).trans rfl;have hcz44_2:w42.cell? ⟨gb116,2,none⟩=some (.int .i64 0):=(blk_cell BK116.out 2).trans rfl;have hcz44_3:w42.cell? ⟨gb116,3,none⟩=some (.int .i64 0):=(blk_cell BK116.out 3).trans rfl;have hfz44_0:=blk_frozen BK116.out 0;have hfz44_1:=blk_frozen BK116.out 1;have hfz44_2:=blk_frozen BK116.out 2;have hfz44_3:=blk_frozen BK116.out 3;have hcz45_0:w42.cell? ⟨gb101,0,none⟩=some (.bool false):=(blk_cell BK101.out 0).trans rfl;have hcz45_1:w42.cell? ⟨gb101,1,none⟩=some (.bool x102001_1):=(blk_cell BK101.out 1).trans rfl;have hcz45_2:w42.cell? ⟨gb101,2,none⟩=some (.int .i64 x102002_1):=(blk_cell BK101.out 2).trans rfl;have hcz45_3:w42.cell? ⟨gb101,3,none⟩=some (.int .i64 x102003_1):=(blk_cell BK101.out 3).trans rfl;have hfz45_0:=blk_frozen BK101.out 0;have hfz45_1:=blk_frozen BK101.out 1;have hfz45_2:=blk_frozen BK101.out 2;have hfz45_3:=blk_frozen BK101.out 3))
                 go_ret2
                 exact ⟨_,zi,zm,zbg⟩
              ·replace c24:=Bool.eq_false_iff.mpr c24
               subst c24
               have H1:(if x4_1.length<5864062014805 then (impl_barWords.l0 kj17 (x4_1++[(⟨false,false,(⟨(rd_T67 t111 0).f0,(rd_T67 t111 0).f1⟩:S67)⟩:S95)]) t102 (t102.length:Int) (wrap64 (x19_1+1)) false false ((rd_T67 t111 0).f0) ((rd_T67 t111 0).f1)) else (none))=some (r1,r2):=by rw [if_neg (show ¬ (false=true) by decide)] at H;exact H
               clear H
               have H:=H1
               clear H1
               by_cases c46:x4_1.length<5864062014805
               ·rw [if_pos c46] at H
                have LMc46:=Aside0.mk c46
                clear c46
                obtain ⟨y120,hy120⟩:∃y_:List (S95),y_=(x4_1++[(⟨false,false,(⟨(rd_T67 t111 0).f0,(rd_T67 t111 0).f1⟩:S67)⟩:S95)]):=⟨_,rfl⟩
                replace H:(impl_barWords.l0 kj17 y120 t102 (t102.length:Int) (wrap64 (x19_1+1)) false false ((rd_T67 t111 0).f0) ((rd_T67 t111 0).f1))=some (r1,r2):=by first|(rw [hy120];with_reducible exact H)|(have H2_:=(Option.bind_some _ _).symm.trans H;rw [hy120];with_reducible exact H2_)|(have H2_:=(Option.bind_some _ _).symm.trans H;with_reducible exact H2_)|with_reducible exact H|(rw [hy120];exact H)|exact H
                have Ny120:=Aside0.mk hy120
                clear hy120
                have H':=Aside0.mk H
                clear H
                obtain ⟨Ao47,co47,eo47⟩:=Kd.R_slice HO_10.out
                subst eo47
                have p115:0≤(0:Int):=zdb
                have q115:0<(t111.length:Int):=of_decide_eq_true ze
                obtain ⟨ad115,e115,hx115_0,hx115_1⟩:=at_T67 (Kd.R_reads' HO_10.out).2.2 0 p115 q115
                cases e115
                have qi115:(0<t111.length)=True:=eq_true zdb
                (try rw [show ((0:Int)).toNat=0 from rfl] at hx115_0)
                (try rw [show 0*2=0 from rfl] at hx115_0)
                (try rw [Addr.add_zero'] at hx115_0)
                (try rw [show ((0:Int)).toNat=0 from rfl] at hx115_1)
                (try rw [show 0*2=0 from rfl] at hx115_1)
                (try rw [Addr.add_zero'] at hx115_1)
                replace p115:=eq_true p115
                replace q115:=eq_true q115
                go_wp2_with (first|((with_reducible refine gate_dst (N:=12) rfl ?_);refine box_event ?hg (N:=12) ?hd (cs:=#[.bool false,.bool false,.int .i64 0,.int .i64 0]) (t:=95) ?hr ?_;(case hd=>rfl);(case hg=>rfl);(case hr=>exact zy);intro gb116 hg w48 hbox hb;have n0_:=Aside0.mk (Kd.R_below (Kd.R_elderB zv gb116 (Nat.le_of_eq hg.symm)) hb);have n1_:=Aside0.mk (Kd.R_below zbi hb);have n2_:=Aside0.mk (Kd.R_below zby hb);have n3_:=Aside0.mk (blk_below (g:=gb101) (o:=.cells #[.bool x102000_1,.bool x102001_1,.int .i64 x102002_1,.int .i64 x102003_1] 95 (0,0)) zc hb);have n4_:=Aside0.mk (below_step zb hb);have n5_:=Aside0.mk (hbox);have n6_:=Aside0.mk ((by rw [hg];exact (below_size zb):w.heap.size≤gb116));have n7_:=Aside0.mk ((by rw [hg];exact (below_size zb):w.heap.size≤gb116));have n8_:=Aside0.mk ((by rw [hg];exact Nat.ne_of_lt (blk_lt (g:=gb101) (o:=.cells #[.bool x102000_1,.bool x102001_1,.int .i64 x102002_1,.int .i64 x102003_1] 95 (0,0)) zc):gb101≠gb116));have n9_:=Aside0.mk ((by rw [hg];exact Nat.ne_of_gt (blk_lt (g:=gb101) (o:=.cells #[.bool x102000_1,.bool x102001_1,.int .i64 x102002_1,.int .i64 x102003_1] 95 (0,0)) zc):gb116≠gb101));clear HO_4;clear HO_10;clear HO_17;clear BK101;clear HB;have HO_4:=n0_;have HO_10:=n1_;have HO_17:=n2_;have BK101:=n3_;have HB:=n4_;have BK116:=n5_;have GW116:=n6_;have GE116:=n7_;have NB101_116:=n8_;have NB116_101:=n9_;clear n0_ n1_ n2_ n3_ n4_ n5_ n6_ n7_ n8_ n9_;clear hb hbox hg;have hnb49:=NB116_101.out;have hnc49:=NB101_116.out;have hcz50_0:w48.cell? ⟨gb116,0,none⟩=some (.bool false):=(blk_cell BK116.out 0).trans rfl;have hcz50_1:w48.cell? ⟨gb116,1,none⟩=some (.bool false):=(blk_cell BK116.out 1).trans rfl;have hcz50_2:w48.cell? ⟨gb116,2,none⟩=some (.int .i64 0):=(blk_cell BK116.out 2).trans rfl;have hcz50_3:w48.cell? ⟨gb116,3,none⟩=some (.int .i64 0):=(blk_cell BK116.out 3).trans rfl;have hfz50_0:=blk_frozen BK116.out 0;have hfz50_1:=blk_frozen BK116.out 1;have hfz50_2:=blk_frozen BK116.out 2;have hfz50_3:=blk_frozen BK116.out 3)|((with_reducible refine gate_builtin (b:=.append) (xs:=#[.tmp 69,.tmp 71]) rfl ?_);at_builtin;refine Kd.R_append k95 (w0:=w) w.heap.size rfl (.tmp 69) (.tmp 71) 84 95 (.agg #[(.bool false),(.bool false),(.int .i64 0),(.int .i64 0)]) 24 rfl Tryz.underlying84 info95 rfl zbl zdb u4 x4_1 (⟨false,false,(⟨(rd_T67 t111 0).f0,(rd_T67 t111 0).f1⟩:S67)⟩:S95) [.bool false,.bool false,.int .i64 ((rd_T67 t111 0).f0),.int .i64 ((rd_T67 t111 0).f1)] (fun k_=>k_≠gb101∧k_≠gb116) (fun _=>False) rfl zy ?aP (fun _ hk=>hk.elim) ?aF ?aO ?aB ?aS ?aL ?_;(case aP=>exact k95_mkM _ _ _ (⟨false,false,(⟨(rd_T67 t111 0).f0,(rd_T67 t111 0).f1⟩:S67)⟩:S95));(case aB=>exact zbg);(case aF=>exact (fun k_ hk=>⟨Kd.freshB (g:=gb101) (o:=.cells #[.bool x102000_1,.bool x102001_1,.int .i64 x102002_1,.int .i64 x102003_1] 95 (0,0)) zz k_ hk,Kd.freshB (g:=gb116) (o:=.cells #[.bool false,.bool false,.int .i64 ((rd_T67 t111 0).f0),.int .i64 ((rd_T67 t111 0).f1)] 95 (0,0)) (by (with_reducible repeat (first|refine blk_drewN ?_ _|refine blk_drew ?_|refine blk_alloc ?_ _));refine blk_put (cs:=#[.bool false,.bool false,.int .i64 ((rd_T67 t111 0).f0),.int .i64 0]) ?_ 3 _ rfl;(with_reducible repeat (first|refine blk_drewN ?_ _|refine blk_drew ?_|refine blk_alloc ?_ _));refine blk_put (cs:=#[.bool false,.bool false,.int .i64 0,.int .i64 0]) ?_ 2 _ rfl;(with_reducible repeat (first|refine blk_drewN ?_ _|refine blk_drew ?_|refine blk_alloc ?_ _));refine blk_put (cs:=#[.bool false,.bool false,.int .i64 0,.int .i64 0]) ?_ 1 _ rfl;(with_reducible repeat (first|refine blk_drewN ?_ _|refine blk_drew ?_|refine blk_alloc ?_ _));refine blk_put (cs:=#[.bool false,.bool false,.int .i64 0,.int .i64 0]) ?_ 0 _ rfl;(with_reducible repeat (first|refine blk_drewN ?_ _|refine blk_drew ?_|refine blk_alloc ?_ _));exact BK116.out) k_ hk⟩));(case aO=>exact (by (with_reducible repeat (first|apply Kd.R_alloc|apply Kd.R_drewN|apply Kd.R_drew));exact Kd.R_mono (Kd.R_far (p:=⟨gb116,3,none⟩) (Kd.R_far (p:=⟨gb116,2,none⟩) (Kd.R_far (p:=⟨gb116,1,none⟩) (Kd.R_far (p:=⟨gb116,0,none⟩) (Kd.R_mono HO_4.out (fun k_ hk=>(⟨hk,hk.2⟩:_∧k_≠gb116))) (fun _ hk=>hk.2) (.bool false)) (fun _ hk=>hk.2) (.bool false)) (fun _ hk=>hk.2) (.int .i64 ((rd_T67 t111 0).f0))) (fun _ hk=>hk.2) (.int .i64 ((rd_T67 t111 0).f1))) (fun _ hk=>⟨hk.1.1,hk.1.2⟩)));(case aS=>exact (below_size zbg));(case aL=>have:=LMc46.out;omega);intro v121 w51 ho hb hg hat;rw [←Ny120.out] at ho;replace HO_10:=Aside0.mk (Kd.R_over' (by (with_reducible repeat (first|apply Kd.R_alloc|apply Kd.R_drewN|apply Kd.R_drew));exact (Kd.R_mono (Kd.R_far (p:=⟨gb116,3,none⟩) (Kd.R_far (p:=⟨gb116,2,none⟩) (Kd.R_far (p:=⟨gb116,1,none⟩) (Kd.R_far (p:=⟨gb116,0,none⟩) (Kd.R_types HO_10.out BK116.out zbl) (fun _ hk=>hk.2) (.bool false)) (fun _ hk=>hk.2) (.bool false)) (fun _ hk=>hk.2) (.int .i64 ((rd_T67 t111 0).f0))) (fun _ hk=>hk.2) (.int .i64 ((rd_T67 t111 0).f1))) (fun _ h_=>h_.1))) (Kd.R_typed (by (with_reducible repeat (first|apply Kd.R_alloc|apply Kd.R_drewN|apply Kd.R_drew));exact (Kd.R_mono (Kd.R_far (p:=⟨gb116,3,none⟩) (Kd.R_far (p:=⟨gb116,2,none⟩) (Kd.R_far (p:=⟨gb116,1,none⟩) (Kd.R_far (p:=⟨gb116,0,none⟩) (Kd.R_mono HO_4.out (fun k_ hk=>(⟨hk,hk.2⟩:_∧k_≠gb116))) (fun _ hk=>hk.2) (.bool false)) (fun _ hk=>hk.2) (.bool false)) (fun _ hk=>hk.2) (.int .i64 ((rd_T67 t111 0).f0))) (fun _ hk=>hk.2) (.int .i64 ((rd_T67 t111 0).f1))) (fun _ h_=>h_.1)))) zbl hg);replace HO_17:=Aside0.mk (Kd.R_over' (by (with_reducible repeat (first|apply Kd.R_alloc|apply Kd.R_drewN|apply Kd.R_drew));exact (Kd.R_mono (Kd.R_far (p:=⟨gb116,3,none⟩) (Kd.R_far (p:=⟨gb116,2,none⟩) (Kd.R_far (p:=⟨gb116,1,none⟩) (Kd.R_far (p:=⟨gb116,0,none⟩) (Kd.R_types HO_17.out BK116.out zbl) (fun _ hk=>hk.2) (.bool false)) (fun _ hk=>hk.2) (.bool false)) (fun _ hk=>hk.2) (.int .i64 ((rd_T67 t111 0).f0))) (fun _ hk=>hk.2) (.int .i64 ((rd_T67 t111 0).f1))) (fun _ h_=>h_.1))) (Kd.R_typed (by (with_reducible repeat (first|apply Kd.R_alloc|apply Kd.R_drewN|apply Kd.R_drew));exact (Kd.R_mono (Kd.R_far (p:=⟨gb116,3,none⟩) (Kd.R_far (p:=⟨gb116,2,none⟩) (Kd.R_far (p:=⟨gb116,1,none⟩) (Kd.R_far (p:=⟨gb116,0,none⟩) (Kd.R_mono HO_4.out (fun k_ hk=>(⟨hk,hk.2⟩:_∧k_≠gb116))) (fun _ hk=>hk.2) (.bool false)) (fun _ hk=>hk.2) (.bool false)) (fun _ hk=>hk.2) (.int .i64 ((rd_T67 t111 0).f0))) (fun _ hk=>hk.2) (.int .i64 ((rd_T67 t111 0).f1))) (fun _ h_=>h_.1)))) zbl hg);replace BK101:=Aside0.mk (blk_grown (g:=gb101) (o:=.cells #[.bool x102000_1,.bool x102001_1,.int .i64 x102002_1,.int .i64 x102003_1] 95 (0,0)) zz hg (Kd.R_away HO_4.out (fun _ hk=>hk.1)));replace BK116:=Aside0.mk (blk_grown (g:=gb116) (o:=.cells #[.bool false,.bool false,.int .i64 ((rd_T67 t111 0).f0),.int .i64 ((rd_T67 t111 0).f1)] 95 (0,0)) (by (with_reducible repeat (first|refine blk_drewN ?_ _|refine blk_drew ?_|refine blk_alloc ?_ _));refine blk_put (cs:=#[.bool false,.bool false,.int .i64 ((rd_T67 t111 0).f0),.int .i64 0]) ?_ 3 _ rfl;(with_reducible repeat (first|refine blk_drewN ?_ _|refine blk_drew ?_|refine blk_alloc ?_ _));refine blk_put (cs:=#[.bool false,.bool false,.int .i64 0,.int .i64 0]) ?_ 2 _ rfl;(with_reducible repeat (first|refine blk_drewN ?_ _|refine blk_drew ?_|refine blk_alloc ?_ _));refine blk_put (cs:=#[.bool false,.bool false,.int .i64 0,.int .i64 0]) ?_ 1 _ rfl;(with_reducible repeat (first|refine blk_drewN ?_ _|refine blk_drew ?_|refine blk_alloc ?_ _));refine blk_put (cs:=#[.bool false,.bool false,.int .i64 0,.int .i64 0]) ?_ 0 _ rfl;(with_reducible repeat (first|refine blk_drewN ?_ _|refine blk_drew ?_|refine blk_alloc ?_ _));exact BK116.out) hg (Kd.R_away HO_4.out (fun _ hk=>hk.2)));replace HB:=Aside0.mk (hb);have HO122:=Aside0.mk (ho);clear HO_4;clear ho hb hg hat;have hcz52_0:w51.cell? ⟨gb116,0,none⟩=some (.bool false):=(blk_cell BK116.out 0).trans rfl;have hcz52_1:w51.cell? ⟨gb116,1,none⟩=some (.bool false):=(blk_cell BK116.out 1).trans rfl;have hcz52_2:w51.cell? ⟨gb116,2,none⟩=some (.int .i64 ((rd_T67 t111 0).f0)):=(blk_cell BK116.out 2).trans rfl;have hcz52_3:w51.cell? ⟨gb116,3,none⟩=some (.int .i64 ((rd_T67 t111 0).f1)):=(blk_cell BK116.out 3).trans rfl;have hfz52_0:=blk_frozen BK116.out 0;have hfz52_1:=blk_frozen BK116.out 1;have hfz52_2:=blk_frozen BK116.out 2;have hfz52_3:=blk_frozen BK116.out 3;have hcz53_0:w51.cell? ⟨gb101,0,none⟩=some (.bool x102000_1):=(blk_cell BK101.out 0).trans rfl;have hcz53_1:w51.cell? ⟨gb101,1,none⟩=some (.bool x102001_1):=(blk_cell BK101.out 1).trans rfl;have hcz53_2:w51.cell? ⟨gb101,2,none⟩=some (.int .i64 x102002_1):=(blk_cell BK101.out 2).trans rfl;have hcz53_3:w51.cell? ⟨gb101,3,none⟩=some (.int .i64 x102003_1):=(blk_cell BK101.out 3).trans rfl;have hfz53_0:=blk_frozen BK101.out 0;have hfz53_1:=blk_frozen BK101.out 1;have hfz53_2:=blk_frozen BK101.out 2;have hfz53_3:=blk_frozen BK101.out 3))
                go_roundg kj17
                case measure=>have:=HK1.out;have:=HJ10.out;have:=HJ17.out;omega
                case rel=>exact ⟨(y120),(wrap64 (x19_1+1)),(false),(false),((rd_T67 t111 0).f0),((rd_T67 t111 0).f1),zg,H',⟨by have:=HK1.out;have:=HJ10.out;have:=HJ17.out;omega⟩,⟨by (with_reducible repeat (first|apply Kd.R_alloc|apply Kd.R_drewN|apply Kd.R_drew));exact Kd.R_mono (Kd.R_far (p:=⟨gb101,3,none⟩) (Kd.R_far (p:=⟨gb101,2,none⟩) (Kd.R_far (p:=⟨gb101,1,none⟩) (Kd.R_far (p:=⟨gb101,0,none⟩) (Kd.R_mono HO122.out (fun k_ hk=>(⟨hk,hk.1⟩:_∧k_≠gb101))) (fun _ hk=>hk.2) (.bool false)) (fun _ hk=>hk.2) (.bool false)) (fun _ hk=>hk.2) (.int .i64 ((rd_T67 t111 0).f0))) (fun _ hk=>hk.2) (.int .i64 ((rd_T67 t111 0).f1))) (fun _ hk=>hk.1.1)⟩,⟨by (with_reducible repeat (first|apply Kd.R_alloc|apply Kd.R_drewN|apply Kd.R_drew));exact Kd.R_mono (Kd.R_far (p:=⟨gb101,3,none⟩) (Kd.R_far (p:=⟨gb101,2,none⟩) (Kd.R_far (p:=⟨gb101,1,none⟩) (Kd.R_far (p:=⟨gb101,0,none⟩) (Kd.R_types HO_17.out BK101.out zbl) (fun _ hk=>hk.2) (.bool false)) (fun _ hk=>hk.2) (.bool false)) (fun _ hk=>hk.2) (.int .i64 ((rd_T67 t111 0).f0))) (fun _ hk=>hk.2) (.int .i64 ((rd_T67 t111 0).f1))) (fun _ hk=>trivial)⟩,⟨by (with_reducible repeat (first|refine blk_drewN ?_ _|refine blk_drew ?_|refine blk_alloc ?_ _));refine blk_put (cs:=#[.bool false,.bool false,.int .i64 ((rd_T67 t111 0).f0),.int .i64 x102003_1]) ?_ 3 _ rfl;(with_reducible repeat (first|refine blk_drewN ?_ _|refine blk_drew ?_|refine blk_alloc ?_ _));refine blk_put (cs:=#[.bool false,.bool false,.int .i64 x102002_1,.int .i64 x102003_1]) ?_ 2 _ rfl;(with_reducible repeat (first|refine blk_drewN ?_ _|refine blk_drew ?_|refine blk_alloc ?_ _));refine blk_put (cs:=#[.bool false,.bool x102001_1,.int .i64 x102002_1,.int .i64 x102003_1]) ?_ 1 _ rfl;(with_reducible repeat (first|refine blk_drewN ?_ _|refine blk_drew ?_|refine blk_alloc ?_ _));refine blk_put (cs:=#[.bool x102000_1,.bool x102001_1,.int .i64 x102002_1,.int .i64 x102003_1]) ?_ 0 _ rfl;(with_reducible repeat (first|refine blk_drewN ?_ _|refine blk_drew ?_|refine blk_alloc ?_ _));exact BK101.out⟩,⟨zbg⟩⟩
               ·rw [if_neg c46] at H
                exact absurd H zdd
             ·rw [if_neg c23] at H
              exact absurd H zdd
      ·rw [if_neg c10] at H
       exact absurd H zdd
     ·rw [if_neg c9] at H
      exact absurd H zdd
    ·rw [if_neg c8] at H
     have c8b0:decide (x19_1<(t102.length:Int))=false:=decide_eq_false c8
     clear c8
     simp only [Option.some.injEq,Prod.mk.injEq] at H
     obtain ⟨rfl,rfl⟩:=H
     go_wp2
     go_ret2
     exact ⟨_,zi,by (with_reducible repeat (first|apply Kd.R_alloc|apply Kd.R_drewN|apply Kd.R_drew));exact Kd.R_mono HO_4.out (fun _ hk=>trivial),zb⟩

def impl_barSums.l0:Nat→List Int→List (S95)→Int→Int→Option (List Int)
 | 0,_,_,_,_=>none
 | k+1,x3,x10,x11,x12=>if x12<x11 then (if 0≤x12 then (if x12<(x10.length:Int) then (if (rd_T95 x10 x12).f0=true then (if x3.length<17592186044416 then (impl_barSums.l0 k (x3++[0]) x10 x11 (wrap64 (x12+1))) else (none)) else (if 0≤(wrap64 ((x3.length:Int) - 1)) then (if (wrap64 ((x3.length:Int) - 1))<(x3.length:Int) then (impl_barSums.l0 k (x3.set ((wrap64 ((x3.length:Int) - 1)):Int).toNat (wrap64 ((rd x3 (wrap64 ((x3.length:Int) - 1)))+((rd_T95 x10 x12).f2.f1)))) x10 x11 (wrap64 (x12+1))) else (none)) else (none))) else (none)) else (none)) else (some x3)
def impl_barSums.f (k:Nat) (l0:List (S95)):Option (List Int):=if (l0.length:Int)=0 then (some ([]:List Int)) else (impl_barSums.l0 k (([0]:List Int)) l0 (l0.length:Int) 0)
def impl_barSums.T9:Bool × List (List Nat × List Nat):=(true,[([],[]),([],[]),([1],[1]),([2],[2]),([0,3],[0,3]),([4],[4]),([],[]),([6],[6]),([7],[7]),([5,8],[5,8]),([0,3,0,1,2,3,4,5,6,7,8,9],[0,3]),([10,9,0,1,2,3,4,5,6,7,8,9],[9,10])])
def impl_barSums.B9:List Nat:=[0,0,2,6,15,31,0,64,192,511,1023,2047]
theorem impl_barSums.tab9:rtab .any (opsOf Tryz.f64 9)=impl_barSums.T9:=by kernel_rfl
theorem impl_barSums.bits9:waitsOk impl_barSums.T9.2 impl_barSums.B9=true:=by kernel_rfl
set_option maxHeartbeats 8000000 in
set_option maxRecDepth 100000 in
theorem impl_barSums.calls (k:Nat) (A0:Option Addr) (c0:Nat) (l0:List (S95)) (r:List Int) (w:World) (hr0:Kd.C k95 w A0 l0.length l0) (hc0:l0.length≤c0) (h:impl_barSums.f k l0=some r) :
 Calls Tryz.prog 64 #[.slice A0 l0.length c0] w fun e w'=>∃v0_:Value,e = .returned (v0_)∧Kd.R (Kd.int .i64) 2 w' w.heap.size (fun _=>True) v0_ r∧Below w.heap.size w w':=by
 have hu95:=Tryz.underlying95
 have HR0:=Aside0.mk hr0
 have HC0:=Aside0.mk hc0
 clear hr0 hc0
 have HB:=Aside0.mk (Below.refl w.heap.size w)
 have H:(if (l0.length:Int)=0 then (some ([]:List Int)) else (impl_barSums.l0 k (([0]:List Int)) l0 (l0.length:Int) 0))=some r:=h
 clear h
 by_cases c2:(l0.length:Int)=0
 ·rw [if_pos c2] at H
  have c2b0:((l0.length:Int) == 0)=true:=beq_iff_eq.mpr c2
  have c2b1:((l0.length:Int) != 0)=false:=bne_eq_false_iff_eq.mpr c2
  clear c2
  obtain rfl:=Option.some.inj H
  go_enter Tryz.func64,Tryz.ntmps64
  go_wp2
  go_ret
  exact ⟨_,zi,zm,za⟩
 ·rw [if_neg c2] at H
  have c2b0:((l0.length:Int) == 0)=false:=beq_eq_false_iff_ne.mpr c2
  have c2b1:((l0.length:Int) != 0)=true:=bne_iff_ne.mpr c2
  have c2b2:¬ (l0=[]):=fun h_=>c2 (by rw [h_];rfl)
  obtain ⟨y101,hy101⟩:∃y_:List Int,y_=(([0]:List Int)):=⟨_,rfl⟩
  replace H:(impl_barSums.l0 k y101 l0 (l0.length:Int) 0)=some r:=by first|(rw [hy101];with_reducible exact H)|(have H2_:=(Option.bind_some _ _).symm.trans H;rw [hy101];with_reducible exact H2_)|(have H2_:=(Option.bind_some _ _).symm.trans H;with_reducible exact H2_)|with_reducible exact H|(rw [hy101];exact H)|exact H
  have Ny101:=Aside0.mk hy101
  clear hy101
  have H':=Aside0.mk H
  clear H
  go_enter Tryz.func64,Tryz.ntmps64
  go_wp2_with (first|((with_reducible refine gate_dst (N:=9) rfl ?_);refine Kd.R_lit (Kd.int .i64) _ 2 ?hg (N:=9) ?hd (xs:=([0]:List Int)) (inner:=[.int .i64 0]) (ok:=fun _=>True) (okp:=fun _=>True) ?hr ?hp (fun _ hk=>hk) trivial (Below.refl _ _) (Nat.le_refl _) zdd ?_;(case hd=>rfl);(case hg=>rfl);(case hr=>exact zy);(case hp=>exact (Reps.one (show Kd.M (Kd.int .i64) _ _ _ 0 [.int .i64 0] from rfl) (Reps.none _ _)));intro v102 w3 ho4 hb hg_ hnew_;clear hg_ hnew_;(first|rw [←Ny101.out] at ho4|(simp only [Int.reduceToNat] at ho4;rw [←Ny101.out] at ho4));have HO103:=Aside0.mk (Kd.R_lower ho4 (below_size za));replace HB:=Aside0.mk (below_step za hb);clear hb ho4))
  go_loopg [3,12] k (fun kq v3 v12 w'=>∃(x3_1:List Int) (x12_1:Int),v12 = .int .i64 x12_1∧Aside0 (impl_barSums.l0 kq x3_1 l0 (l0.length:Int) x12_1=some r)∧Aside0 (kq≤k)∧Aside0 (Kd.R (Kd.int .i64) 2 w' w.heap.size (fun _=>True) v3 x3_1)∧Aside0 (Below w.heap.size w w'))
  case atStart=>exact ⟨(y101),(0),zg,H',⟨Nat.le_refl _⟩,⟨zdf⟩,⟨za⟩⟩
  case round=>
   clear H'
   try clear c2
   try clear c2b0
   try clear c2b1
   try clear c2b2
   try clear p2
   obtain ⟨x3_1,x12_1,rfl,HA,HK1,HO_3,HB⟩:=hrel
   cases gk with
   | zero=>exact absurd HA.out (by simp [impl_barSums.l0])
   | succ k1=>
    have H:=HA.out
    clear HA
    simp only [impl_barSums.l0] at H
    by_cases c5:x12_1<(l0.length:Int)
    ·rw [if_pos c5] at H
     have c5b0:decide (x12_1<(l0.length:Int))=true:=decide_eq_true c5
     clear c5
     by_cases c6:0≤x12_1
     ·rw [if_pos c6] at H
      have c6b0:decide (0≤x12_1)=true:=decide_eq_true c6
      clear c6
      by_cases c7:x12_1<(l0.length:Int)
      ·rw [if_pos c7] at H
       have c7b0:decide (x12_1<(l0.length:Int))=true:=decide_eq_true c7
       clear c7
       obtain ⟨bq8,hbq8⟩:∃b_:Bool,b_=((rd_T95 l0 x12_1).f0):=⟨_,rfl⟩
       replace H:(if bq8=true then (if x3_1.length<17592186044416 then (impl_barSums.l0 k1 (x3_1++[0]) l0 (l0.length:Int) (wrap64 (x12_1+1))) else (none)) else (if 0≤(wrap64 ((x3_1.length:Int) - 1)) then (if (wrap64 ((x3_1.length:Int) - 1))<(x3_1.length:Int) then (impl_barSums.l0 k1 (x3_1.set ((wrap64 ((x3_1.length:Int) - 1)):Int).toNat (wrap64 ((rd x3_1 (wrap64 ((x3_1.length:Int) - 1)))+((rd_T95 l0 x12_1).f2.f1)))) l0 (l0.length:Int) (wrap64 (x12_1+1))) else (none)) else (none)))=some r:=by rw [←hbq8] at H;exact H
       have Nbq8:=Aside0.mk hbq8
       clear hbq8
       by_cases c9:bq8=true
       ·subst c9
        have H1:(if x3_1.length<17592186044416 then (impl_barSums.l0 k1 (x3_1++[0]) l0 (l0.length:Int) (wrap64 (x12_1+1))) else (none))=some r:=by rw [if_pos rfl] at H;exact H
        clear H
        have H:=H1
        clear H1
        by_cases c10:x3_1.length<17592186044416
        ·rw [if_pos c10] at H
         have LMc10:=Aside0.mk c10
         clear c10
         obtain ⟨y106,hy106⟩:∃y_:List Int,y_=(x3_1++[0]):=⟨_,rfl⟩
         replace H:(impl_barSums.l0 k1 y106 l0 (l0.length:Int) (wrap64 (x12_1+1)))=some r:=by first|(rw [hy106];with_reducible exact H)|(have H2_:=(Option.bind_some _ _).symm.trans H;rw [hy106];with_reducible exact H2_)|(have H2_:=(Option.bind_some _ _).symm.trans H;with_reducible exact H2_)|with_reducible exact H|(rw [hy106];exact H)|exact H
         have Ny106:=Aside0.mk hy106
         clear hy106
         have H':=Aside0.mk H
         clear H
         have p104:0≤(x12_1:Int):=of_decide_eq_true ze
         have q104:x12_1<(l0.length:Int):=of_decide_eq_true ze
         obtain ⟨ad104,e104,hx104_0,hx104_1,hx104_2,hx104_3⟩:=at_T95 HR0.out x12_1 p104 q104
         (try rw [←Nbq8.out] at hx104_0)
         (try rw [←Nbq8.out] at hx104_1)
         cases e104
         replace hx104_0:=(HB.out.cell (World.block_lt_of_cell? w _ hx104_0)).trans hx104_0
         replace hx104_1:=(HB.out.cell (World.block_lt_of_cell? w _ hx104_1)).trans hx104_1
         replace hx104_2:=(HB.out.cell (World.block_lt_of_cell? w _ hx104_2)).trans hx104_2
         replace hx104_3:=(HB.out.cell (World.block_lt_of_cell? w _ hx104_3)).trans hx104_3
         replace p104:=eq_true p104
         replace q104:=eq_true q104
         go_wp2_with (first|((with_reducible refine gate_dst (N:=5) rfl ?_);refine box_event ?hg (N:=5) ?hd (cs:=#[.bool false,.bool false,.int .i64 0,.int .i64 0]) (t:=95) ?hr ?_;(case hd=>rfl);(case hg=>rfl);(case hr=>exact zy);intro gb105 hg w11 hbox hb;have n0_:=Aside0.mk (Kd.R_below zbq hb);have n1_:=Aside0.mk (below_step za hb);have n2_:=Aside0.mk (hbox);have n3_:=Aside0.mk ((by rw [hg];exact (below_size za):w.heap.size≤gb105));have n4_:=Aside0.mk ((by rw [hg];exact (below_size za):w.heap.size≤gb105));clear HO_3;clear HB;have HO_3:=n0_;have HB:=n1_;have BK105:=n2_;have GW105:=n3_;have GE105:=n4_;clear n0_ n1_ n2_ n3_ n4_;clear hb hbox hg;have hcz12_0:w11.cell? ⟨gb105,0,none⟩=some (.bool false):=(blk_cell BK105.out 0).trans rfl;have hcz12_1:w11.cell? ⟨gb105,1,none⟩=some (.bool false):=(blk_cell BK105.out 1).trans rfl;have hcz12_2:w11.cell? ⟨gb105,2,none⟩=some (.int .i64 0):=(blk_cell BK105.out 2).trans rfl;have hcz12_3:w11.cell? ⟨gb105,3,none⟩=some (.int .i64 0):=(blk_cell BK105.out 3).trans rfl;have hfz12_0:=blk_frozen BK105.out 0;have hfz12_1:=blk_frozen BK105.out 1;have hfz12_2:=blk_frozen BK105.out 2;have hfz12_3:=blk_frozen BK105.out 3)|((with_reducible refine gate_builtin (b:=.append) (xs:=#[.tmp 18,.tmp 19]) rfl ?_);at_builtin;refine Kd.R_append (Kd.int .i64) (w0:=w) w.heap.size rfl (.tmp 18) (.tmp 19) 37 2 (.int .i64 0) 8 rfl Tryz.underlying37 info2 rfl zbl zdb u3 x3_1 0 [.int .i64 0] (fun _=>True) (fun _=>False) rfl zy ?aP (fun _ hk=>hk.elim) ?aF ?aO ?aB ?aS ?aL ?_;(case aP=>exact rfl);(case aB=>exact zdc);(case aF=>exact zdj);(case aO=>exact (by (with_reducible repeat (first|apply Kd.R_alloc|apply Kd.R_drewN|apply Kd.R_drew));exact Kd.R_mono (Kd.R_far (p:=⟨gb105,3,none⟩) (Kd.R_far (p:=⟨gb105,2,none⟩) (Kd.R_far (p:=⟨gb105,1,none⟩) (Kd.R_far (p:=⟨gb105,0,none⟩) (Kd.R_types HO_3.out BK105.out zbl) (fun _ hk=>hk.2) (.bool true)) (fun _ hk=>hk.2) (.bool ((rd_T95 l0 x12_1).f1))) (fun _ hk=>hk.2) (.int .i64 ((rd_T95 l0 x12_1).f2.f0))) (fun _ hk=>hk.2) (.int .i64 ((rd_T95 l0 x12_1).f2.f1))) (fun _ hk=>trivial)));(case aS=>exact (below_size zdc));(case aL=>have:=LMc10.out;omega);intro v107 w13 ho hb hg hat;rw [←Ny106.out] at ho;replace BK105:=Aside0.mk (blk_grown (g:=gb105) (o:=.cells #[.bool true,.bool ((rd_T95 l0 x12_1).f1),.int .i64 ((rd_T95 l0 x12_1).f2.f0),.int .i64 ((rd_T95 l0 x12_1).f2.f1)] 95 (0,0)) (by (with_reducible repeat (first|refine blk_drewN ?_ _|refine blk_drew ?_|refine blk_alloc ?_ _));refine blk_put (cs:=#[.bool true,.bool ((rd_T95 l0 x12_1).f1),.int .i64 ((rd_T95 l0 x12_1).f2.f0),.int .i64 0]) ?_ 3 _ rfl;(with_reducible repeat (first|refine blk_drewN ?_ _|refine blk_drew ?_|refine blk_alloc ?_ _));refine blk_put (cs:=#[.bool true,.bool ((rd_T95 l0 x12_1).f1),.int .i64 0,.int .i64 0]) ?_ 2 _ rfl;(with_reducible repeat (first|refine blk_drewN ?_ _|refine blk_drew ?_|refine blk_alloc ?_ _));refine blk_put (cs:=#[.bool true,.bool false,.int .i64 0,.int .i64 0]) ?_ 1 _ rfl;(with_reducible repeat (first|refine blk_drewN ?_ _|refine blk_drew ?_|refine blk_alloc ?_ _));refine blk_put (cs:=#[.bool false,.bool false,.int .i64 0,.int .i64 0]) ?_ 0 _ rfl;(with_reducible repeat (first|refine blk_drewN ?_ _|refine blk_drew ?_|refine blk_alloc ?_ _));exact BK105.out) hg (Kd.R_ne HO_3.out BK105.out zbl));replace HB:=Aside0.mk (hb);have HO108:=Aside0.mk (ho);clear HO_3;clear ho hb hg hat))
         go_roundg k1
         case measure=>have:=HK1.out;omega
         case rel=>exact ⟨(y106),(wrap64 (x12_1+1)),zg,H',⟨zdo⟩,⟨zah⟩,⟨zdc⟩⟩
        ·rw [if_neg c10] at H
         exact absurd H zdd
       ·replace c9:=Bool.eq_false_iff.mpr c9
        subst c9
        have H1:(if 0≤(wrap64 ((x3_1.length:Int) - 1)) then (if (wrap64 ((x3_1.length:Int) - 1))<(x3_1.length:Int) then (impl_barSums.l0 k1 (x3_1.set ((wrap64 ((x3_1.length:Int) - 1)):Int).toNat (wrap64 ((rd x3_1 (wrap64 ((x3_1.length:Int) - 1)))+((rd_T95 l0 x12_1).f2.f1)))) l0 (l0.length:Int) (wrap64 (x12_1+1))) else (none)) else (none))=some r:=by rw [if_neg (show ¬ (false=true) by decide)] at H;exact H
        clear H
        have H:=H1
        clear H1
        obtain ⟨ji14,hji14⟩:∃j_:Int,(wrap64 ((x3_1.length:Int) - 1))=j_:=⟨_,rfl⟩
        replace H:(if 0≤(ji14) then (if (ji14)<(x3_1.length:Int) then (impl_barSums.l0 k1 (x3_1.set ((ji14):Int).toNat (wrap64 ((rd x3_1 (ji14))+((rd_T95 l0 x12_1).f2.f1)))) l0 (l0.length:Int) (wrap64 (x12_1+1))) else (none)) else (none))=some r:=by first|(rw [hji14] at H;exact H)|(simp only [hji14] at H ⊢;exact H)
        have hji14w:(IntKind.i64.wrap ((x3_1.length:Int) - 1))=ji14:=(i64_w _).trans hji14
        by_cases c15:0≤(ji14)
        ·rw [if_pos c15] at H
         have c15b0:decide (0≤(ji14))=true:=decide_eq_true c15
         clear c15
         by_cases c16:(ji14)<(x3_1.length:Int)
         ·rw [if_pos c16] at H
          have c16b0:decide ((ji14)<(x3_1.length:Int))=true:=decide_eq_true c16
          clear c16
          obtain ⟨y110,hy110⟩:∃y_:List Int,y_=(x3_1.set ((ji14):Int).toNat (wrap64 ((rd x3_1 (ji14))+((rd_T95 l0 x12_1).f2.f1)))):=⟨_,rfl⟩
          replace H:(impl_barSums.l0 k1 y110 l0 (l0.length:Int) (wrap64 (x12_1+1)))=some r:=by first|(rw [hy110];with_reducible exact H)|(have H2_:=(Option.bind_some _ _).symm.trans H;rw [hy110];with_reducible exact H2_)|(have H2_:=(Option.bind_some _ _).symm.trans H;with_reducible exact H2_)|with_reducible exact H|(rw [hy110];exact H)|exact H
          have Ny110:=Aside0.mk hy110
          clear hy110
          have H':=Aside0.mk H
          clear H
          have p104:0≤(x12_1:Int):=of_decide_eq_true ze
          have q104:x12_1<(l0.length:Int):=of_decide_eq_true ze
          obtain ⟨ad104,e104,hx104_0,hx104_1,hx104_2,hx104_3⟩:=at_T95 HR0.out x12_1 p104 q104
          (try rw [←Nbq8.out] at hx104_0)
          (try rw [←Nbq8.out] at hx104_1)
          cases e104
          replace hx104_0:=(HB.out.cell (World.block_lt_of_cell? w _ hx104_0)).trans hx104_0
          replace hx104_1:=(HB.out.cell (World.block_lt_of_cell? w _ hx104_1)).trans hx104_1
          replace hx104_2:=(HB.out.cell (World.block_lt_of_cell? w _ hx104_2)).trans hx104_2
          replace hx104_3:=(HB.out.cell (World.block_lt_of_cell? w _ hx104_3)).trans hx104_3
          replace p104:=eq_true p104
          replace q104:=eq_true q104
          try go_wp2_with (first|((with_reducible refine gate_dst (N:=5) rfl ?_);refine box_event ?hg (N:=5) ?hd (cs:=#[.bool false,.bool false,.int .i64 0,.int .i64 0]) (t:=95) ?hr ?_;(case hd=>rfl);(case hg=>rfl);(case hr=>exact zy);intro gb105 hg w18 hbox hb;have n0_:=Aside0.mk (Kd.R_below zbq hb);have n1_:=Aside0.mk (below_step za hb);have n2_:=Aside0.mk (hbox);have n3_:=Aside0.mk ((by rw [hg];exact (below_size za):w.heap.size≤gb105));have n4_:=Aside0.mk ((by rw [hg];exact (below_size za):w.heap.size≤gb105));clear HO_3;clear HB;have HO_3:=n0_;have HB:=n1_;have BK105:=n2_;have GW105:=n3_;have GE105:=n4_;clear n0_ n1_ n2_ n3_ n4_;clear hb hbox hg;have hcz19_0:w18.cell? ⟨gb105,0,none⟩=some (.bool false):=(blk_cell BK105.out 0).trans rfl;have hcz19_1:w18.cell? ⟨gb105,1,none⟩=some (.bool false):=(blk_cell BK105.out 1).trans rfl;have hcz19_2:w18.cell? ⟨gb105,2,none⟩=some (.int .i64 0):=(blk_cell BK105.out 2).trans rfl;have hcz19_3:w18.cell? ⟨gb105,3,none⟩=some (.int .i64 0):=(blk_cell BK105.out 3).trans rfl;have hfz19_0:=blk_frozen BK105.out 0;have hfz19_1:=blk_frozen BK105.out 1;have hfz19_2:=blk_frozen BK105.out 2;have hfz19_3:=blk_frozen BK105.out 3))
          have n0_:Aside0 (Kd.R (Kd.int .i64) 2 ((((w18.setCell ⟨gb105,0,none⟩ (.bool false)).setCell ⟨gb105,1,none⟩ (.bool ((rd_T95 l0 x12_1).f1))).setCell ⟨gb105,2,none⟩ (.int .i64 ((rd_T95 l0 x12_1).f2.f0))).setCell ⟨gb105,3,none⟩ (.int .i64 ((rd_T95 l0 x12_1).f2.f1))) w.heap.size (fun _=>True) u3 x3_1):=⟨by (with_reducible repeat (first|apply Kd.R_alloc|apply Kd.R_drewN|apply Kd.R_drew));exact Kd.R_mono (Kd.R_far (p:=⟨gb105,3,none⟩) (Kd.R_far (p:=⟨gb105,2,none⟩) (Kd.R_far (p:=⟨gb105,1,none⟩) (Kd.R_far (p:=⟨gb105,0,none⟩) (Kd.R_types HO_3.out BK105.out zbl) (fun _ hk=>hk.2) (.bool false)) (fun _ hk=>hk.2) (.bool ((rd_T95 l0 x12_1).f1))) (fun _ hk=>hk.2) (.int .i64 ((rd_T95 l0 x12_1).f2.f0))) (fun _ hk=>hk.2) (.int .i64 ((rd_T95 l0 x12_1).f2.f1))) (fun _ hk=>trivial)⟩
          have n1_:Aside0 (((((w18.setCell ⟨gb105,0,none⟩ (.bool false)).setCell ⟨gb105,1,none⟩ (.bool ((rd_T95 l0 x12_1).f1))).setCell ⟨gb105,2,none⟩ (.int .i64 ((rd_T95 l0 x12_1).f2.f0))).setCell ⟨gb105,3,none⟩ (.int .i64 ((rd_T95 l0 x12_1).f2.f1))).heap[gb105]?=some (.cells #[.bool false,.bool ((rd_T95 l0 x12_1).f1),.int .i64 ((rd_T95 l0 x12_1).f2.f0),.int .i64 ((rd_T95 l0 x12_1).f2.f1)] 95 (0,0))):=⟨by (with_reducible repeat (first|refine blk_drewN ?_ _|refine blk_drew ?_|refine blk_alloc ?_ _));refine blk_put (cs:=#[.bool false,.bool ((rd_T95 l0 x12_1).f1),.int .i64 ((rd_T95 l0 x12_1).f2.f0),.int .i64 0]) ?_ 3 _ rfl;(with_reducible repeat (first|refine blk_drewN ?_ _|refine blk_drew ?_|refine blk_alloc ?_ _));refine blk_put (cs:=#[.bool false,.bool ((rd_T95 l0 x12_1).f1),.int .i64 0,.int .i64 0]) ?_ 2 _ rfl;(with_reducible repeat (first|refine blk_drewN ?_ _|refine blk_drew ?_|refine blk_alloc ?_ _));refine blk_put (cs:=#[.bool false,.bool false,.int .i64 0,.int .i64 0]) ?_ 1 _ rfl;(with_reducible repeat (first|refine blk_drewN ?_ _|refine blk_drew ?_|refine blk_alloc ?_ _));refine blk_put (cs:=#[.bool false,.bool false,.int .i64 0,.int .i64 0]) ?_ 0 _ rfl;(with_reducible repeat (first|refine blk_drewN ?_ _|refine blk_drew ?_|refine blk_alloc ?_ _));exact BK105.out⟩
          have n2_:Aside0 (Below w.heap.size w ((((w18.setCell ⟨gb105,0,none⟩ (.bool false)).setCell ⟨gb105,1,none⟩ (.bool ((rd_T95 l0 x12_1).f1))).setCell ⟨gb105,2,none⟩ (.int .i64 ((rd_T95 l0 x12_1).f2.f0))).setCell ⟨gb105,3,none⟩ (.int .i64 ((rd_T95 l0 x12_1).f2.f1)))):=⟨zdc⟩
          (try clear HO_3)
          (try clear BK105)
          (try clear HB)
          generalize ((((w18.setCell ⟨gb105,0,none⟩ (.bool false)).setCell ⟨gb105,1,none⟩ (.bool ((rd_T95 l0 x12_1).f1))).setCell ⟨gb105,2,none⟩ (.int .i64 ((rd_T95 l0 x12_1).f2.f0))).setCell ⟨gb105,3,none⟩ (.int .i64 ((rd_T95 l0 x12_1).f2.f1)))=w20 at n0_ n1_ n2_ ⊢
          have HO_3:=n0_
          have BK105:=n1_
          have HB:=n2_
          clear n0_ n1_ n2_
          replace HO_3:=Aside0.mk (Kd.R_drew HO_3.out)
          replace BK105:=Aside0.mk (blk_drew BK105.out)
          replace HB:=Aside0.mk (below_drew1 HB.out)
          obtain ⟨Ao22,co22,eo22⟩:=Kd.R_slice HO_3.out
          (first|subst eo22|(injection eo22 with f1_ f2_ f3_;have f4_:=f1_.symm;have f5_:=f3_.symm;clear f1_ f2_ f3_;subst f4_;subst f5_))
          have p109:0≤((ji14):Int):=of_decide_eq_true ze
          have q109:(ji14)<(x3_1.length:Int):=of_decide_eq_true ze
          obtain ⟨ad109,e109,hx109_0⟩:=Kd.at_int (Kd.R_reads' HO_3.out).2.2 (ji14) p109 q109
          cases e109
          replace p109:=eq_true p109
          replace q109:=eq_true q109
          have p17:0≤((ji14):Int):=of_decide_eq_true ze
          have q17:((ji14):Int)<((x3_1.length:Int):Int):=of_decide_eq_true ze
          obtain ⟨go17,co17,eo17,gb17,gl17,cl17,HG17⟩:=Kd.R_form HO_3.out zdb
          (first|cases eo17|(injection eo17 with ea_ en_ ec_;(first|subst ea_|(injection ea_ with ea_;subst ea_));subst ec_;clear en_))
          have GB17:=Aside0.mk gb17
          have GG17:=Aside0.mk HG17
          clear gb17 gl17 HG17
          (first|simp only [add_plain] at hx109_0|skip)
          obtain ⟨hx17_0,hf17_0⟩:=Kd.R_celln 0 HO_3.out ((ji14):Int) p17 q17
          replace p17:=eq_true p17
          replace q17:=eq_true q17
          have HP23:=Kd.R_putn HO_3.out ((ji14):Int) (wrap64 ((rd x3_1 (ji14))+((rd_T95 l0 x12_1).f2.f1)))
          rw [←Ny110.out] at HP23
          have HQ23:=Aside0.mk HP23
          clear HP23
          refine start_ (n:=12) (S:=fun w'=>w'.cell? ⟨gb105,0,none⟩=some (.bool false)∧w'.cell? ⟨gb105,1,none⟩=some (.bool ((rd_T95 l0 x12_1).f1))∧w'.cell? ⟨gb105,2,none⟩=some (.int .i64 ((rd_T95 l0 x12_1).f2.f0))∧w'.cell? ⟨gb105,3,none⟩=some (.int .i64 ((rd_T95 l0 x12_1).f2.f1))∧w'.cell? ⟨go17,((ji14)).toNat,none⟩=some (.int .i64 (rd x3_1 (ji14)))) (ds:=[11]) #[false,false,false,false,false,false,false,false,false,false,false,false] zau rfl rfl ⟨(blk_cell BK105.out 0).trans rfl,(blk_cell BK105.out 1).trans rfl,(blk_cell BK105.out 2).trans rfl,(blk_cell BK105.out 3).trans rfl,hx109_0⟩ (fun hHeld=>?_);refine with_tabW impl_barSums.tab9 impl_barSums.bits9 (fun HT_ HW_=>?_)
          generalize w20.drew=w21 at HO_3 BK105 HB GG17 HQ23 hf17_0 hx109_0 hx17_0 hHeld ⊢
          refine pA 0 21 ?_
          refine pA 1 22 ?_
          refine pA 2 23 ?_
          refine pA 3 24 ?_
          refine pA 4 25 ?_
          refine pA 6 27 ?_
          refine pA 7 28 ?_
          refine pT 5 26 rfl (by rintro w' ⟨s0,s1,s2,s3,s4⟩;go_simp;with_reducible rfl) ?_
          refine pT 8 29 rfl (by rintro w' ⟨s0,s1,s2,s3,s4⟩;go_simp;with_reducible rfl) ?_
          refine pA 9 30 ?_
          refine pA 10 31 ?_
          refine last_ (i:=11) (N:=none) #[true,true,true,true,true,true,true,true,true,true,true,true] rfl rfl (one_of HT_.out zau) zbl (fun K hK=>?_)
          refine skip_ (w1:=?_) (by rfl) rfl ?_ ?_
          rotate_left
          ·go_simp
           rfl
          refine hK.out _ _ ?_
          clear hK K
          refine done_ (done_of HT_.out zau) ?_
          try go_wp2
          go_roundg k1
          case measure=>have:=HK1.out;omega
          case rel=>exact ⟨(y110),(wrap64 (x12_1+1)),zg,H',⟨zdo⟩,⟨by (with_reducible repeat (first|apply Kd.R_alloc|apply Kd.R_drewN|apply Kd.R_drew));exact HQ23.out⟩,⟨by repeat (first|(with_reducible first|exact HB.out|apply below_alloc|apply pw_below_drewN|apply below_drew1|refine below_set ?_ GB17.out|refine below_set ?_ GE105.out)|exact HB.out)⟩⟩
         ·rw [if_neg c16] at H
          exact absurd H zdd
        ·rw [if_neg c15] at H
         exact absurd H zdd
      ·rw [if_neg c7] at H
       exact absurd H zdd
     ·rw [if_neg c6] at H
      exact absurd H zdd
    ·rw [if_neg c5] at H
     have c5b0:decide (x12_1<(l0.length:Int))=false:=decide_eq_false c5
     clear c5
     obtain rfl:=Option.some.inj H
     go_wp2
     go_ret
     exact ⟨_,zi,zbq,za⟩

def impl_BarSums.f (k:Nat) (a0:ByteArray):Option (List Int × Int):=if (a0.size:Int) > 2000 then (some (([]:List Int),5)) else ((impl_barWords.f k a0).bind fun bt101=>(if bt101.2=true then ((impl_barSums.f k bt101.1).bind fun t105=>(some (t105,0))) else (some (([]:List Int),8))))
set_option maxHeartbeats 8000000 in
set_option maxRecDepth 100000 in
theorem impl_BarSums.calls (k:Nat) (a0:ByteArray) (r1:List Int) (r2:Int) (w:World) (hD:Door2 w) (h:impl_BarSums.f k a0=some (r1,r2)) :
 Calls Tryz.prog 21 #[.string a0] w fun e w'=>∃v0_:Value,e = .returned (.tuple #[v0_,.int .i64 r2])∧Kd.R (Kd.int .i64) 2 w' w.heap.size (fun _=>True) v0_ r1∧Below w.heap.size w w':=by
 have HD:=Aside0.mk hD
 clear hD
 have HB:=Aside0.mk (Below.refl w.heap.size w)
 have H:(if (a0.size:Int) > 2000 then (some (([]:List Int),5)) else ((impl_barWords.f k a0).bind fun bt101=>(if bt101.2=true then ((impl_barSums.f k bt101.1).bind fun t105=>(some (t105,0))) else (some (([]:List Int),8)))))=some (r1,r2):=h
 clear h
 by_cases c2:(a0.size:Int) > 2000
 ·rw [if_pos c2] at H
  have c2b0:decide (2000<(a0.size:Int))=true:=decide_eq_true c2
  have c2b1:decide (2000<a0.size)=true:=decide_eq_true zdb
  clear c2
  simp only [Option.some.injEq,Prod.mk.injEq] at H
  obtain ⟨rfl,rfl⟩:=H
  go_enter Tryz.func21,Tryz.ntmps21
  go_wp2
  go_ret2
  exact ⟨_,zi,zm,za⟩
 ·rw [if_neg c2] at H
  have c2b0:decide (2000<(a0.size:Int))=false:=decide_eq_false c2
  have c2b1:decide (2000<a0.size)=false:=decide_eq_false zdb
  clear c2
  replace H:=Option.bind_eq_some_iff.mp H
  obtain ⟨⟨t101,t102⟩,A30,H⟩:=H
  replace H:(if t102=true then ((impl_barSums.f k t101).bind fun t105=>(some (t105,0))) else (some (([]:List Int),8)))=some (r1,r2):=H
  have A3:=Aside0.mk A30
  clear A30
  by_cases c4:t102=true
  ·subst c4
   have H1:((impl_barSums.f k t101).bind fun t105=>(some (t105,0)))=some (r1,r2):=by rw [if_pos rfl] at H;exact H
   clear H
   have H:=H1
   clear H1
   replace H:=Option.bind_eq_some_iff.mp H
   obtain ⟨t105,A50,H⟩:=H
   replace H:(some (t105,0))=some (r1,r2):=H
   have A5:=Aside0.mk A50
   clear A50
   simp only [Option.some.injEq,Prod.mk.injEq] at H
   obtain ⟨rfl,rfl⟩:=H
   go_enter Tryz.func21,Tryz.ntmps21
   go_wp2_with (first|((with_reducible refine gate_callee (f:=63) rfl ?_);refine goesL_ (some 11) rfl rfl Tryz.func63 zau rfl #[.string a0] rfl zd ?_;(with_reducible refine (impl_barWords.calls k a0 t101 true _ ?side1 A3.out).mono ?_);(case side1=>exact Door2.at HD.out za);rintro e w6 ⟨v103,rfl,ho0,hb⟩;refine ⟨_,rfl,?_⟩;have HO104:=Aside0.mk (Kd.R_lower ho0 (below_size za));replace HB:=Aside0.mk (below_step za hb);(try clear hb);(try clear hb2);(try clear hk);(try clear hi);(try clear ho0);obtain ⟨Ao7,co7,eo7⟩:=Kd.R_slice HO104.out;subst eo7)|((with_reducible refine gate_callee (f:=64) rfl ?_);refine goesL_ (some 17) rfl rfl Tryz.func64 zau rfl #[.slice Ao7 t101.length co7] rfl zd ?_;(with_reducible refine (impl_barSums.calls k _ _ t101 t105 _ ?side1 ?side2 A5.out).mono ?_);(case side1=>exact zaq);(case side2=>exact zdi);rintro e w8 ⟨v106,rfl,ho0,hb⟩;refine ⟨_,rfl,?_⟩;replace HO104:=Aside0.mk (Kd.R_below zr hb);have HO107:=Aside0.mk (Kd.R_lower ho0 (below_size za));replace HB:=Aside0.mk (below_step za hb);(try clear hb);(try clear hb2);(try clear hk);(try clear hi);(try clear ho0)))
   go_ret2
   exact ⟨_,zi,by (with_reducible repeat (first|apply Kd.R_alloc|apply Kd.R_drewN|apply Kd.R_drew));exact HO107.out,za⟩
  ·replace c4:=Bool.eq_false_iff.mpr c4
   subst c4
   have H1:(some (([]:List Int),8))=some (r1,r2):=by rw [if_neg (show ¬ (false=true) by decide)] at H;exact H
   clear H
   have H:=H1
   clear H1
   simp only [Option.some.injEq,Prod.mk.injEq] at H
   obtain ⟨rfl,rfl⟩:=H
   go_enter Tryz.func21,Tryz.ntmps21
   go_wp2_with (first|((with_reducible refine gate_callee (f:=63) rfl ?_);refine goesL_ (some 11) rfl rfl Tryz.func63 zau rfl #[.string a0] rfl zd ?_;(with_reducible refine (impl_barWords.calls k a0 t101 false _ ?side1 A3.out).mono ?_);(case side1=>exact Door2.at HD.out za);rintro e w9 ⟨v103,rfl,ho0,hb⟩;refine ⟨_,rfl,?_⟩;have HO104:=Aside0.mk (Kd.R_lower ho0 (below_size za));replace HB:=Aside0.mk (below_step za hb);(try clear hb);(try clear hb2);(try clear hk);(try clear hi);(try clear ho0)))
   go_ret2
   exact ⟨_,zi,zm,za⟩

def impl_onlyNameBytes.l0:Nat→ByteArray→Int→Int→Option (Bool)
 | 0,_,_,_=>none
 | k+1,x0,x6,x7=>if x7<x6 then (if 0≤x7 then (if x7<(x0.size:Int) then (if (bt x0 x7)<97 then (if (bt x0 x7)<48 then (some false) else (if (bt x0 x7) > 57 then (some false) else (impl_onlyNameBytes.l0 k x0 x6 (wrap64 (x7+1))))) else (if (bt x0 x7) > 122 then (if (bt x0 x7)<48 then (some false) else (if (bt x0 x7) > 57 then (some false) else (impl_onlyNameBytes.l0 k x0 x6 (wrap64 (x7+1))))) else (impl_onlyNameBytes.l0 k x0 x6 (wrap64 (x7+1))))) else (none)) else (none)) else (some true)
def impl_onlyNameBytes.f (k:Nat) (a0:ByteArray):Option (Bool):=impl_onlyNameBytes.l0 k a0 (a0.size:Int) 0
set_option maxHeartbeats 8000000 in
set_option maxRecDepth 100000 in
theorem impl_onlyNameBytes.calls (k:Nat) (a0:ByteArray) (r:Bool) (w:World) (h:impl_onlyNameBytes.f k a0=some r) :
 Calls Tryz.prog 166 #[.string a0] w fun e w'=>e = .returned (.bool r)∧Drawn0 w w':=by
 have H:(impl_onlyNameBytes.l0 k a0 (a0.size:Int) 0)=some r:=h
 clear h
 have H':=Aside0.mk H
 clear H
 go_enter Tryz.func166,Tryz.ntmps166
 go_wp2
 go_loopg [7] k (fun kq v7 w'=>∃(x7_1:Int),v7 = .int .i64 x7_1∧Aside0 (impl_onlyNameBytes.l0 kq a0 (a0.size:Int) x7_1=some r)∧Aside0 (kq≤k)∧Drawn0 w w')
 case atStart=>exact ⟨(0),zg,H',⟨Nat.le_refl _⟩,zj⟩
 case round=>
  clear H'
  try clear c1
  obtain ⟨x7_1,rfl,HA,HK1,⟨m1,rfl⟩⟩:=hrel
  cases gk with
  | zero=>exact absurd HA.out (by simp [impl_onlyNameBytes.l0])
  | succ k1=>
   have H:=HA.out
   clear HA
   simp only [impl_onlyNameBytes.l0] at H
   by_cases c2:x7_1<(a0.size:Int)
   ·rw [if_pos c2] at H
    have c2b0:decide (x7_1<(a0.size:Int))=true:=decide_eq_true c2
    clear c2
    by_cases c3:0≤x7_1
    ·rw [if_pos c3] at H
     have c3b0:decide (0≤x7_1)=true:=decide_eq_true c3
     clear c3
     by_cases c4:x7_1<(a0.size:Int)
     ·rw [if_pos c4] at H
      have c4b0:decide (x7_1<(a0.size:Int))=true:=decide_eq_true c4
      clear c4
      by_cases c6:(bt a0 x7_1)<97
      ·rw [if_pos c6] at H
       have c6b0:decide ((bt a0 x7_1)<97)=true:=decide_eq_true c6
       clear c6
       by_cases c7:(bt a0 x7_1)<48
       ·rw [if_pos c7] at H
        have c7b0:decide ((bt a0 x7_1)<48)=true:=decide_eq_true c7
        clear c7
        obtain rfl:=Option.some.inj H
        have p5:0≤(x7_1:Int):=of_decide_eq_true ze
        have q5:x7_1<(a0.size:Int):=of_decide_eq_true ze
        have hx5:=bt_at a0 x7_1
        replace p5:=eq_true p5
        replace q5:=eq_true q5
        go_wp2
        go_ret
        exact ⟨zg,zj⟩
       ·rw [if_neg c7] at H
        have c7b0:decide ((bt a0 x7_1)<48)=false:=decide_eq_false c7
        clear c7
        by_cases c8:(bt a0 x7_1) > 57
        ·rw [if_pos c8] at H
         have c8b0:decide (57<(bt a0 x7_1))=true:=decide_eq_true c8
         clear c8
         obtain rfl:=Option.some.inj H
         have p5:0≤(x7_1:Int):=of_decide_eq_true ze
         have q5:x7_1<(a0.size:Int):=of_decide_eq_true ze
         have hx5:=bt_at a0 x7_1
         replace p5:=eq_true p5
         replace q5:=eq_true q5
         go_wp2
         go_ret
         exact ⟨zg,zj⟩
        ·rw [if_neg c8] at H
         have c8b0:decide (57<(bt a0 x7_1))=false:=decide_eq_false c8
         clear c8
         have H':=Aside0.mk H
         clear H
         have p5:0≤(x7_1:Int):=of_decide_eq_true ze
         have q5:x7_1<(a0.size:Int):=of_decide_eq_true ze
         have hx5:=bt_at a0 x7_1
         replace p5:=eq_true p5
         replace q5:=eq_true q5
         go_wp2
         go_roundg k1
         case measure=>have:=HK1.out;omega
         case rel=>exact ⟨(wrap64 (x7_1+1)),zg,H',⟨zdo⟩,zj⟩
      ·rw [if_neg c6] at H
       have c6b0:decide ((bt a0 x7_1)<97)=false:=decide_eq_false c6
       clear c6
       by_cases c9:(bt a0 x7_1) > 122
       ·rw [if_pos c9] at H
        have c9b0:decide (122<(bt a0 x7_1))=true:=decide_eq_true c9
        clear c9
        by_cases c10:(bt a0 x7_1)<48
        ·rw [if_pos c10] at H
         have c10b0:decide ((bt a0 x7_1)<48)=true:=decide_eq_true c10
         clear c10
         obtain rfl:=Option.some.inj H
         have p5:0≤(x7_1:Int):=of_decide_eq_true ze
         have q5:x7_1<(a0.size:Int):=of_decide_eq_true ze
         have hx5:=bt_at a0 x7_1
         replace p5:=eq_true p5
         replace q5:=eq_true q5
         go_wp2
         go_ret
         exact ⟨zg,zj⟩
        ·rw [if_neg c10] at H
         have c10b0:decide ((bt a0 x7_1)<48)=false:=decide_eq_false c10
         clear c10
         by_cases c11:(bt a0 x7_1) > 57
         ·rw [if_pos c11] at H
          have c11b0:decide (57<(bt a0 x7_1))=true:=decide_eq_true c11
          clear c11
          obtain rfl:=Option.some.inj H
          have p5:0≤(x7_1:Int):=of_decide_eq_true ze
          have q5:x7_1<(a0.size:Int):=of_decide_eq_true ze
          have hx5:=bt_at a0 x7_1
          replace p5:=eq_true p5
          replace q5:=eq_true q5
          go_wp2
          go_ret
          exact ⟨zg,zj⟩
         ·rw [if_neg c11] at H
          have c11b0:decide (57<(bt a0 x7_1))=false:=decide_eq_false c11
          clear c11
          have H':=Aside0.mk H
          clear H
          have p5:0≤(x7_1:Int):=of_decide_eq_true ze
          have q5:x7_1<(a0.size:Int):=of_decide_eq_true ze
          have hx5:=bt_at a0 x7_1
          replace p5:=eq_true p5
          replace q5:=eq_true q5
          go_wp2
          go_roundg k1
          case measure=>have:=HK1.out;omega
          case rel=>exact ⟨(wrap64 (x7_1+1)),zg,H',⟨zdo⟩,zj⟩
       ·rw [if_neg c9] at H
        have c9b0:decide (122<(bt a0 x7_1))=false:=decide_eq_false c9
        clear c9
        have H':=Aside0.mk H
        clear H
        have p5:0≤(x7_1:Int):=of_decide_eq_true ze
        have q5:x7_1<(a0.size:Int):=of_decide_eq_true ze
        have hx5:=bt_at a0 x7_1
        replace p5:=eq_true p5
        replace q5:=eq_true q5
        go_wp2
        go_roundg k1
        case measure=>have:=HK1.out;omega
        case rel=>exact ⟨(wrap64 (x7_1+1)),zg,H',⟨zdo⟩,zj⟩
     ·rw [if_neg c4] at H
      exact absurd H zdd
    ·rw [if_neg c3] at H
     exact absurd H zdd
   ·rw [if_neg c2] at H
    have c2b0:decide (x7_1<(a0.size:Int))=false:=decide_eq_false c2
    clear c2
    obtain rfl:=Option.some.inj H
    go_wp2
    go_ret
    exact ⟨zg,zj⟩

def impl_IsName.f (k:Nat) (a0:ByteArray):Option (Bool):=if (a0.size:Int)<1 then (some false) else (if (a0.size:Int) > 10 then (some false) else (if 0<(a0.size:Int) then (if (bt a0 0)<97 then (some false) else (if (bt a0 0) > 122 then (some false) else ((impl_onlyNameBytes.f k a0).bind fun t101=>(some t101)))) else (none)))
set_option maxHeartbeats 8000000 in
set_option maxRecDepth 100000 in
theorem impl_IsName.calls (k:Nat) (a0:ByteArray) (r:Bool) (w:World) (h:impl_IsName.f k a0=some r) :
 Calls Tryz.prog 141 #[.string a0] w fun e w'=>e = .returned (.bool r)∧Drawn0 w w':=by
 have H:(if (a0.size:Int)<1 then (some false) else (if (a0.size:Int) > 10 then (some false) else (if 0<(a0.size:Int) then (if (bt a0 0)<97 then (some false) else (if (bt a0 0) > 122 then (some false) else ((impl_onlyNameBytes.f k a0).bind fun t101=>(some t101)))) else (none))))=some r:=h
 clear h
 by_cases c2:(a0.size:Int)<1
 ·rw [if_pos c2] at H
  have c2b0:decide ((a0.size:Int)<1)=true:=decide_eq_true c2
  have c2b1:decide (a0.size<1)=true:=decide_eq_true zdb
  clear c2
  obtain rfl:=Option.some.inj H
  go_enter Tryz.func141,Tryz.ntmps141
  go_wp2
  go_ret
  exact ⟨zg,zj⟩
 ·rw [if_neg c2] at H
  have c2b0:decide ((a0.size:Int)<1)=false:=decide_eq_false c2
  have c2b1:decide (a0.size<1)=false:=decide_eq_false zdb
  clear c2
  by_cases c3:(a0.size:Int) > 10
  ·rw [if_pos c3] at H
   have c3b0:decide (10<(a0.size:Int))=true:=decide_eq_true c3
   have c3b1:decide (10<a0.size)=true:=decide_eq_true zdb
   clear c3
   obtain rfl:=Option.some.inj H
   go_enter Tryz.func141,Tryz.ntmps141
   go_wp2
   go_ret
   exact ⟨zg,zj⟩
  ·rw [if_neg c3] at H
   have c3b0:decide (10<(a0.size:Int))=false:=decide_eq_false c3
   have c3b1:decide (10<a0.size)=false:=decide_eq_false zdb
   clear c3
   by_cases c4:0<(a0.size:Int)
   ·rw [if_pos c4] at H
    have c4b0:decide (0<(a0.size:Int))=true:=decide_eq_true c4
    have c4b1:decide (0<a0.size)=true:=decide_eq_true zdb
    clear c4
    by_cases c6:(bt a0 0)<97
    ·rw [if_pos c6] at H
     have c6b0:decide ((bt a0 0)<97)=true:=decide_eq_true c6
     clear c6
     obtain rfl:=Option.some.inj H
     have p5:0≤(0:Int):=zdb
     have q5:0<a0.size:=(by have:(0:Int)<(a0.size:Int):=of_decide_eq_true ze;omega)
     have hx5:∀h:0<a0.size,((a0[0]'h).toNat:Int)=bt a0 0:=bt_at a0 0
     clear p5
     have qi5:(0<(a0.size:Int))=True:=eq_true (of_decide_eq_true ze)
     replace q5:=eq_true q5
     go_enter Tryz.func141,Tryz.ntmps141
     go_wp2
     go_ret
     exact ⟨zg,zj⟩
    ·rw [if_neg c6] at H
     have c6b0:decide ((bt a0 0)<97)=false:=decide_eq_false c6
     clear c6
     by_cases c8:(bt a0 0) > 122
     ·rw [if_pos c8] at H
      have c8b0:decide (122<(bt a0 0))=true:=decide_eq_true c8
      clear c8
      obtain rfl:=Option.some.inj H
      have p5:0≤(0:Int):=zdb
      have q5:0<a0.size:=(by have:(0:Int)<(a0.size:Int):=of_decide_eq_true ze;omega)
      have hx5:∀h:0<a0.size,((a0[0]'h).toNat:Int)=bt a0 0:=bt_at a0 0
      clear p5
      have qi5:(0<(a0.size:Int))=True:=eq_true (of_decide_eq_true ze)
      replace q5:=eq_true q5
      have p7:0≤(0:Int):=zdb
      have q7:0<a0.size:=(by have:(0:Int)<(a0.size:Int):=of_decide_eq_true ze;omega)
      have hx7:∀h:0<a0.size,((a0[0]'h).toNat:Int)=bt a0 0:=bt_at a0 0
      clear p7
      have qi7:(0<(a0.size:Int))=True:=eq_true (of_decide_eq_true ze)
      replace q7:=eq_true q7
      go_enter Tryz.func141,Tryz.ntmps141
      go_wp2
      go_ret
      exact ⟨zg,zj⟩
     ·rw [if_neg c8] at H
      have c8b0:decide (122<(bt a0 0))=false:=decide_eq_false c8
      clear c8
      replace H:=Option.bind_eq_some_iff.mp H
      obtain ⟨t101,A90,H⟩:=H
      replace H:(some t101)=some r:=H
      have A9:=Aside0.mk A90
      clear A90
      obtain rfl:=Option.some.inj H
      have p5:0≤(0:Int):=zdb
      have q5:0<a0.size:=(by have:(0:Int)<(a0.size:Int):=of_decide_eq_true ze;omega)
      have hx5:∀h:0<a0.size,((a0[0]'h).toNat:Int)=bt a0 0:=bt_at a0 0
      clear p5
      have qi5:(0<(a0.size:Int))=True:=eq_true (of_decide_eq_true ze)
      replace q5:=eq_true q5
      have p7:0≤(0:Int):=zdb
      have q7:0<a0.size:=(by have:(0:Int)<(a0.size:Int):=of_decide_eq_true ze;omega)
      have hx7:∀h:0<a0.size,((a0[0]'h).toNat:Int)=bt a0 0:=bt_at a0 0
      clear p7
      have qi7:(0<(a0.size:Int))=True:=eq_true (of_decide_eq_true ze)
      replace q7:=eq_true q7
      go_enter Tryz.func141,Tryz.ntmps141
      go_wp2_with (first|((with_reducible refine gate_callee (f:=166) rfl ?_);refine goesL_ (some 22) rfl rfl Tryz.func166 zau rfl #[.string a0] rfl zd ?_;(with_reducible refine (impl_onlyNameBytes.calls k a0 t101 _ A9.out).mono ?_);rintro e w' ⟨rfl,⟨nd,rfl⟩⟩;refine ⟨_,rfl,?_⟩))
      go_ret
      exact ⟨zg,zj⟩
   ·rw [if_neg c4] at H
    exact absurd H zdd

def impl_allWithin.p (a1 a2 n:Int):Bool:=!decide (a1≤n) || !decide (n≤a2)
def impl_allWithin.f (l0:List Int) (a1:Int) (a2:Int):Option (Bool):=some (!(l0.any (impl_allWithin.p a1 a2)))
theorem impl_allWithin.within (x lo hi:Int):impl_within.f x lo hi=some (decide (lo≤x)&&decide (x≤hi)):=by
 unfold impl_within.f
 by_cases h:x≥lo
 ·rw [if_pos h];simp [ge_iff_le.1 h]
 ·rw [if_neg h]
  have h':¬ lo≤x:=h
  simp [h']
theorem impl_allWithin.clo (x lo hi:Int) (b1 b2:Nat) (w:World) (h1:w.cell? ⟨b1,0,none⟩=some (.int .i64 lo)) (h2:w.cell? ⟨b2,0,none⟩=some (.int .i64 hi)) :
 Calls Tryz.prog 168 #[.int .i64 x,.pointer (some ⟨b1,0,none⟩),.pointer (some ⟨b2,0,none⟩)] w fun e w'=>e = .returned (.bool (impl_allWithin.p lo hi x))∧Below w.heap.size w w':=by
 go_enter Tryz.func168,Tryz.ntmps168
 go_wp2_with (go_at_call 83;refine (impl_within.calls x lo hi _ _ (impl_allWithin.within x lo hi)).mono ?_;rintro e w' ⟨rfl,⟨nd,rfl⟩⟩)
 go_ret
 exact ⟨rfl,pw_below_drewN (Below.refl _ _) nd⟩
theorem impl_allWithin.below_cell {w W:World} (hb:Below w.heap.size w W) {b:Nat} {v:Value} (h:w.cell? ⟨b,0,none⟩=some v):W.cell? ⟨b,0,none⟩=some v:=(hb.cell (World.block_lt_of_cell? w _ h)).trans h
set_option maxHeartbeats 1600000 in
set_option maxRecDepth 100000 in
theorem impl_allWithin.idx (A0:Option Addr) (c0:Nat) (l0:List Int) (lo hi:Int) (b1 b2:Nat) (w:World) (hr0:Kd.C (Kd.int .i64) w A0 l0.length l0) (h1:w.cell? ⟨b1,0,none⟩=some (.int .i64 lo)) (h2:w.cell? ⟨b2,0,none⟩=some (.int .i64 hi)) :
 Calls Tryz.prog 193 #[.slice A0 l0.length c0,.func (.func 168) #[] #[.pointer (some ⟨b1,0,none⟩),.pointer (some ⟨b2,0,none⟩)]] w fun e w'=>∃n:Int,e = .returned (.int .i64 n)∧(l0.any (impl_allWithin.p lo hi)=decide (0≤n))∧Below w.heap.size w w':=by
 have hlen:l0.length≤9223372036854775807:=hr0.2.1
 have HR:=Aside0.mk hr0
 clear hr0
 have H1:=Aside0.mk h1
 have H2:=Aside0.mk h2
 clear h1 h2
 go_enter Tryz.func193,Tryz.ntmps193
 go_wp2_with fail
 go_loopw [8] (fun i wr=>∃k:Nat,k≤l0.length∧i = .int .i64 k∧Aside0 (∀j,j<k→impl_allWithin.p lo hi (l0.getD j 0)=false)∧Aside0 (Below w.heap.size w wr)) (fun i _=>l0.length - (intOf i).toNat)
 case atStart=>exact ⟨0,Nat.zero_le _,rfl,⟨fun j hj=>by omega⟩,⟨Below.refl _ _⟩⟩
 case round=>
  obtain ⟨k,hk,rfl,HN,HB⟩:=hrel
  by_cases hlt:k<l0.length
  ·obtain ⟨ad,rfl,hx⟩:=Kd.at_int HR.out (k:Int) zdb zdb
   have hx2:wr.cell? (ad.add k)=some (.int .i64 (rd l0 k)):=by
    have:=(HB.out.cell (World.block_lt_of_cell? w _ hx)).trans hx
    simpa using this
   have hg:=(impl_allWithin.clo (rd l0 k) lo hi b1 b2 wr (impl_allWithin.below_cell HB.out H1.out) (impl_allWithin.below_cell HB.out H2.out))
   have HG:=Aside0.mk hg
   have HX:=hx2
   clear hg hx hx2
   cases hp:impl_allWithin.p lo hi (rd l0 k) with
   | true=>
    rw [hp] at HG
    have HP:=Aside0.mk hp
    clear hp
    go_wp2_with (go_at_call 168;refine HG.out.mono ?_;rintro e w1 ⟨rfl,hb⟩;have HB1:=Aside0.mk (below_step HB.out hb);clear hb)
    go_ret
    refine ⟨k,rfl,?_,HB1.out⟩
    rw [decide_eq_true zdb,List.any_eq_true]
    refine ⟨rd l0 k,?_,HP.out⟩
    have e:rd l0 (k:Int)=l0[k]:=by simp [rd,List.getD_eq_getElem?_getD,List.getElem?_eq_getElem hlt]
    rw [e];exact List.getElem_mem hlt
   | false=>
    rw [hp] at HG
    have HP:=Aside0.mk hp
    clear hp
    go_wp2_with (go_at_call 168;refine HG.out.mono ?_;rintro e w1 ⟨rfl,hb⟩;have HB1:=Aside0.mk (below_step HB.out hb);clear hb)
    go_roundw
    case rel=>
     refine ⟨k+1,zdb,by go_num,⟨fun j hj=>?_⟩,HB1⟩
     by_cases hjk:j<k
     ·exact HN.out j hjk
     ·obtain rfl:j=k:=by omega
      have:=HP.out
      simpa [rd] using this
    case measure=>simp [intOf];omega
  ·have hkl:k=l0.length:=by omega
   clear hlt
   have HN':=HN
   go_wp2_with fail
   go_ret
   refine ⟨-1,rfl,?_,HB.out⟩
   rw [decide_eq_false zdb,List.any_eq_false]
   intro x hx
   obtain ⟨j,hj,rfl⟩:=List.getElem_of_mem hx
   have:=HN'.out j zdb
   rw [List.getD_eq_getElem?_getD,List.getElem?_eq_getElem hj] at this
   simpa using this
theorem impl_allWithin.has (A0:Option Addr) (c0:Nat) (l0:List Int) (lo hi:Int) (b1 b2:Nat) (w:World) (hr0:Kd.C (Kd.int .i64) w A0 l0.length l0) (h1:w.cell? ⟨b1,0,none⟩=some (.int .i64 lo)) (h2:w.cell? ⟨b2,0,none⟩=some (.int .i64 hi)) :
 Calls Tryz.prog 167 #[.slice A0 l0.length c0,.func (.func 168) #[] #[.pointer (some ⟨b1,0,none⟩),.pointer (some ⟨b2,0,none⟩)]] w fun e w'=>e = .returned (.bool (l0.any (impl_allWithin.p lo hi)))∧Below w.heap.size w w':=by
 have HC:=Aside0.mk (impl_allWithin.idx A0 c0 l0 lo hi b1 b2 w hr0 h1 h2)
 clear hr0 h1 h2
 go_enter Tryz.func167,Tryz.ntmps167
 go_wp2_with (go_at_call 193;refine HC.out.mono ?_;rintro e w1 ⟨n,rfl,hn,hb⟩;have HB:=Aside0.mk hb;have HN:=Aside0.mk hn;clear hb hn)
 go_ret
 exact ⟨by rw [HN.out];rfl,HB.out⟩
theorem impl_allWithin.calls (A0:Option Addr) (c0:Nat) (l0:List Int) (a1:Int) (a2:Int) (r:Bool) (w:World) (hr0:Kd.C (Kd.int .i64) w A0 l0.length l0) (hc0:l0.length≤c0) (h:impl_allWithin.f l0 a1 a2=some r) :
 Calls Tryz.prog 142 #[.slice A0 l0.length c0,.int .i64 a1,.int .i64 a2] w fun e w'=>e = .returned (.bool r)∧Below w.heap.size w w':=by
 obtain rfl:=Option.some.inj h
 have hmf:∀(fn:Fn) (first cap:Array Value) (w:World),(Instr.makeFunc fn first cap).run Tryz.prog w = .ok (.func fn first cap) w:=fun _ _ _ _=>rfl
 have hb2:Below w.heap.size w ((w.alloc (.cells #[.int .i64 a1] 2)).alloc (.cells #[.int .i64 a2] 2)):=((Below.refl _ _).alloc (Nat.le_refl _) _).alloc zdd _
 have HC:=Aside0.mk (impl_allWithin.has A0 c0 l0 a1 a2 w.heap.size (w.heap.size+1) ((w.alloc (.cells #[.int .i64 a1] 2)).alloc (.cells #[.int .i64 a2] 2)) (Kd.C_below hr0 hb2)
  (by rw [World.cell?_alloc_past _ _ _ zdd,World.cell?_alloc_at _ _ _ _ rfl];rfl) (by rw [World.cell?_alloc_at _ _ _ _ zdd];rfl))
 clear hr0 hc0 h
 go_enter Tryz.func142,Tryz.ntmps142
 go_wp2_with (go_at_call 167;refine HC.out.mono ?_;rintro e w1 ⟨rfl,hb⟩;have HB:=Aside0.mk (below_then hb2 (by simp;omega) hb);clear hb)
 go_ret
 exact ⟨rfl,HB.out⟩

def impl_sumOf.l0:Nat→Int→List Int→Int→Int→Option (Int)
 | 0,_,_,_,_=>none
 | k+1,x3,x6,x7,x8=>if x8<x7 then (if 0≤x8 then (if x8<(x6.length:Int) then (impl_sumOf.l0 k (wrap64 (x3+(rd x6 x8))) x6 x7 (wrap64 (x8+1))) else (none)) else (none)) else (some x3)
def impl_sumOf.f (k:Nat) (l0:List Int):Option (Int):=impl_sumOf.l0 k 0 l0 (l0.length:Int) 0
set_option maxHeartbeats 8000000 in
set_option maxRecDepth 100000 in
theorem impl_sumOf.calls (k:Nat) (A0:Option Addr) (c0:Nat) (l0:List Int) (r:Int) (w:World) (hr0:Kd.C (Kd.int .i64) w A0 l0.length l0) (hc0:l0.length≤c0) (h:impl_sumOf.f k l0=some r) :
 Calls Tryz.prog 169 #[.slice A0 l0.length c0] w fun e w'=>e = .returned (.int .i64 r)∧Drawn0 w w':=by
 have HR0:=Aside0.mk hr0
 have HC0:=Aside0.mk hc0
 clear hr0 hc0
 have H:(impl_sumOf.l0 k 0 l0 (l0.length:Int) 0)=some r:=h
 clear h
 have H':=Aside0.mk H
 clear H
 go_enter Tryz.func169,Tryz.ntmps169
 go_wp2
 go_loopg [3,8] k (fun kq v3 v8 w'=>∃(x3_1:Int) (x8_1:Int),v3 = .int .i64 x3_1∧v8 = .int .i64 x8_1∧Aside0 (impl_sumOf.l0 kq x3_1 l0 (l0.length:Int) x8_1=some r)∧Aside0 (kq≤k)∧Drawn0 w w')
 case atStart=>exact ⟨(0),(0),zg,zg,H',⟨Nat.le_refl _⟩,zj⟩
 case round=>
  clear H'
  try clear c1
  obtain ⟨x3_1,x8_1,rfl,rfl,HA,HK1,⟨m1,rfl⟩⟩:=hrel
  cases gk with
  | zero=>exact absurd HA.out (by simp [impl_sumOf.l0])
  | succ k1=>
   have H:=HA.out
   clear HA
   simp only [impl_sumOf.l0] at H
   by_cases c2:x8_1<(l0.length:Int)
   ·rw [if_pos c2] at H
    have c2b0:decide (x8_1<(l0.length:Int))=true:=decide_eq_true c2
    clear c2
    by_cases c3:0≤x8_1
    ·rw [if_pos c3] at H
     have c3b0:decide (0≤x8_1)=true:=decide_eq_true c3
     clear c3
     by_cases c4:x8_1<(l0.length:Int)
     ·rw [if_pos c4] at H
      have c4b0:decide (x8_1<(l0.length:Int))=true:=decide_eq_true c4
      clear c4
      have H':=Aside0.mk H
      clear H
      have p101:0≤(x8_1:Int):=of_decide_eq_true ze
      have q101:x8_1<(l0.length:Int):=of_decide_eq_true ze
      obtain ⟨ad101,e101,hx101_0⟩:=Kd.at_int HR0.out x8_1 p101 q101
      cases e101
      replace p101:=eq_true p101
      replace q101:=eq_true q101
      go_wp2
      go_roundg k1
      case measure=>have:=HK1.out;omega
      case rel=>exact ⟨(wrap64 (x3_1+(rd l0 x8_1))),(wrap64 (x8_1+1)),zg,zg,H',⟨zdo⟩,zj⟩
     ·rw [if_neg c4] at H
      exact absurd H zdd
    ·rw [if_neg c3] at H
     exact absurd H zdd
   ·rw [if_neg c2] at H
    have c2b0:decide (x8_1<(l0.length:Int))=false:=decide_eq_false c2
    clear c2
    obtain rfl:=Option.some.inj H
    go_wp2
    go_ret
    exact ⟨zg,zj⟩
end Go.Proofs.YtmoamoopoifnlaaGreatDoor.P
