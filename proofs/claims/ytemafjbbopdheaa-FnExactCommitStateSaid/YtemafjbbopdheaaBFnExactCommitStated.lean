/- Part d of what FnExactCommitState stands on: functions of the program as Lean functions with their walks, and plain lemmas. -/
import Derived.Test.YtemafjbbopdheaaBFnExactCommitStateb
import Derived.Test.YtemafjbbopdheaaBFnExactCommitStatec
import Derived.Test.YtemafjbbopdheaaBFnExactCommitStatea
namespace Go.Proofs.Ytemafjbbopdheaa.P
open Go.RowKit Go.Proofs.YtemafjbbopdheaaW.PrintWords Go.Proofs.YtemafjbbopdheaaL
theorem own27_l0 {l : List S89} (hl : l.length ≤ 1048576) (hs : ∀ y ∈ l, smiVersion y) : ∀ (d i : Nat), i + d = l.length → Ev (fun k => spec_l27Own.l0 k l (l.take i) (i : Int)) l := by
  intro d
  induction d with
  | zero =>
    intro i hi
    obtain rfl : i = l.length := by omega
    refine Ev.step (f := fun _ => some l) (fun k => ?_) (Ev.now _)
    simp only [spec_l27Own.l0]
    rw [if_neg (nlt_cast _), List.take_length]
  | succ d ih =>
    intro i hi
    have hlt : i < l.length := by omega
    have hr : rd_T89 l (i : Int) = l[i] := rd_iVersion hlt
    have hsm := (hs l[i] (List.getElem_mem hlt)).1
    have WS := Aside0.mk (show wrap64 ((i : Int) + 1) = ((i + 1 : Nat) : Int) from wrap_succ (i := i) (n := i + 1) (by omega) (by omega))
    have ht : l.take i ++ [l[i]] = l.take (i + 1) := List.take_append_getElem hlt
    refine Ev.step (f := fun k => spec_l27Own.l0 k l (l.take (i + 1)) ((i + 1 : Nat) : Int)) (fun k => ?_) (ih (i + 1) (by omega))
    simp only [spec_l27Own.l0]
    rw [if_pos (by omega), if_pos (nn_cast _), Option.bind_some, hr, if_pos (by simp only [List.length_nil]; omega), if_pos (by rw [List.length_take]; omega), List.nil_append, WS.out, ht]
theorem own27_ev {l : List S89} (hl : l.length ≤ 1048576) (hs : ∀ y ∈ l, smiVersion y) : Ev (fun k => spec_l27Own.f k l) l := by
  unfold spec_l27Own.f
  exact own27_l0 hl hs l.length 0 (by omega)
theorem add27_ev {l : List S89} (h32 : l.length ≤ 32) (hs : ∀ y ∈ l, smiVersion y) (p : Int) (m : ByteArray) {s : List S81} (hsl : s.length ≤ 1048576) : ∃ v c, (v.length ≤ 1048576 ∧ ∀ y ∈ v, smiVersion y) ∧ Ev (fun k => spec_l27Add.f k l p m s) (v, c) ∧ impl_withVersion.f l p m s = some (v, c) := by
  unfold spec_l27Add.f impl_withVersion.f
  by_cases h : (l.length : Int) = 32
  · exact ⟨[], 5, ⟨by simp, fun y hy => by cases hy⟩, Ev.pos h (Ev.now _), if_pos h⟩
  have hnew : ∀ y ∈ l ++ [impl_withVersion.new l p m s], smiVersion y := by
    intro y hy
    rcases List.mem_append.1 hy with hy | hy
    · exact hs y hy
    · obtain rfl := List.mem_singleton.1 hy
      exact ⟨hsl, fun _ _ => trivial⟩
  refine ⟨l ++ [impl_withVersion.new l p m s], 0, ⟨by simp; omega, hnew⟩, Ev.neg h ?_, ?_⟩
  · have hw : wrap64 ((l.length : Int) + 1) = (l.length : Int) + 1 := wrap_id (by omega) (by omega)
    refine Ev.bind (a := []) (Ev.now _) ?_
    refine Ev.pos (by simp only [List.length_nil]; omega) ?_
    refine Ev.bind (own27_ev (by omega) hs) ?_
    refine Ev.bind (a := [impl_withVersion.new l p m s]) (Ev.const (by rw [hw]; rfl)) ?_
    exact Ev.pos (by simp only [List.length_singleton]; omega) (Ev.now _)
  · rw [if_neg h, if_pos (by omega), if_pos]
    rw [List.all_eq_true]
    intro y hy
    have := (hnew y hy).1
    exact decide_eq_true (by omega)
theorem core_CommitState {l : List S89} (hl : l.length ≤ 1048576) (hs : ∀ y ∈ l, smiVersion y) (hok : ∀ y ∈ l, okV y) (p : Int) {m : ByteArray} (hm : m.size ≤ 1048576) {s : List S81} (hsl : s.length ≤ 1048576) : ∃ (v : List S89) (c : Int), (v.length ≤ 1048576 ∧ ∀ y ∈ v, smiVersion y) ∧ Ev (fun k => spec_CommitState.f k l p m s) (v, c) ∧ Ev (fun k => impl_CommitState.f k l p m s) (v, c) := by
  have e1 : Ev (fun k => spec_l27Ok.f k l) (historyB l) := Ev.le 2097200 (fun k hk => l27Ok_eq hl hok hk)
  have e2 : Ev (fun k => impl_ValidHistory.f k l) (historyB l) := Ev.le 2097200 (fun k hk => ValidHistory_eq hl hok hk)
  have e3 : Ev (fun k => spec_l27Memo.f k m) (memoB m) := Ev.le 1048600 (fun k hk => l27Memo_eq hm hk)
  have e4 : Ev (fun k => impl_memoValid.f k m) (memoB m) := Ev.le 1048600 (fun k hk => memoValid_eq m hk)
  have e5 := State_spec_ev hsl
  have e6 := State_impl_ev hsl
  have b1 : Ev (fun k => spec_CommitState.j0 k l p m s true) (([] : List S89), (1 : Int)) := Ev.step (f := fun _ => some ([], 1)) (fun k => by rw [spec_CommitState.j0]; exact if_pos rfl) (Ev.now _)
  have b2 : Ev (fun k => impl_CommitState.j0 k l p m s true) (([] : List S89), (1 : Int)) := Ev.step (f := fun _ => some ([], 1)) (fun k => by rw [impl_CommitState.j0]; exact if_pos rfl) (Ev.now _)
  unfold spec_CommitState.f impl_CommitState.f
  by_cases h1 : historyB l = true
  rotate_left
  · exact ⟨[], 1, ⟨by simp, fun y hy => by cases hy⟩, Ev.bind e1 (Ev.neg h1 b1), Ev.bind e2 (Ev.neg h1 b2)⟩
  by_cases h2 : memoB m = true
  rotate_left
  · exact ⟨[], 1, ⟨by simp, fun y hy => by cases hy⟩, Ev.bind e1 (Ev.pos h1 (Ev.bind e3 (Ev.neg h2 b1))), Ev.bind e2 (Ev.pos h1 (Ev.bind e4 (Ev.neg h2 b2)))⟩
  suffices hh : ∃ (v : List S89) (c : Int), (v.length ≤ 1048576 ∧ ∀ y ∈ v, smiVersion y) ∧ Ev (fun k => spec_CommitState.j0 k l p m s (!stateB s)) (v, c) ∧ Ev (fun k => impl_CommitState.j0 k l p m s (!stateB s)) (v, c) by
    obtain ⟨v, c, hv, hS, hI⟩ := hh
    exact ⟨v, c, hv, Ev.bind e1 (Ev.pos h1 (Ev.bind e3 (Ev.pos h2 (Ev.bind e5 hS)))), Ev.bind e2 (Ev.pos h1 (Ev.bind e4 (Ev.pos h2 (Ev.bind e6 hI))))⟩
  cases h3 : stateB s with
  | false => exact ⟨[], 1, ⟨by simp, fun y hy => by cases hy⟩, b1, b2⟩
  | true =>
    have h32 := (history_facts h1).1
    obtain ⟨v, c, hv, hA, hW⟩ := add27_ev h32 hs p m hsl
    have c1 : Ev (fun k => (spec_l27Add.f k l p m s).bind fun bt => some (bt.1, bt.2)) (v, c) := Ev.bind hA (Ev.now _)
    have c2 : Ev (fun k => (impl_withVersion.f l p m s).bind fun bt => some (bt.1, bt.2)) (v, c) := Ev.const (by rw [hW]; rfl)
    have q1 : ∀ k, spec_CommitState.j0 (k + 1) l p m s (!true) = if p = 0 then ((spec_l27Add.f k l p m s).bind fun bt104 => (some (bt104.1, bt104.2))) else ((spec_l27Number.f l p).bind fun t108 => (if t108 = true then ((spec_l27Add.f k l p m s).bind fun bt109 => (some (bt109.1, bt109.2))) else (some (([] : List S89), 3)))) := fun k => by
      rw [spec_CommitState.j0]; exact if_neg (by simp)
    have q2 : ∀ k, impl_CommitState.j0 (k + 1) l p m s (!true) = ((impl_within.f p 0 (l.length : Int)).bind fun t104 => (if t104 = true then ((impl_withVersion.f l p m s).bind fun bt105 => (some (bt105.1, bt105.2))) else (some (([] : List S89), 3)))) := fun k => by
      rw [impl_CommitState.j0]; exact if_neg (by simp)
    have hw : impl_within.f p 0 (l.length : Int) = some (decide (0 ≤ p) && decide (p ≤ (l.length : Int))) := within_eq _ _ _
    by_cases hin : 0 ≤ p ∧ p ≤ (l.length : Int)
    · refine ⟨v, c, hv, Ev.step q1 ?_, Ev.step q2 ?_⟩
      · by_cases hp : p = 0
        · exact Ev.pos hp c1
        · refine Ev.neg hp (Ev.bind (Ev.const (l27Number_eq l p)) (Ev.pos ?_ c1))
          simp; omega
      · refine Ev.bind (Ev.const hw) (Ev.pos ?_ c2)
        simp; omega
    · refine ⟨[], 3, ⟨by simp, fun y hy => by cases hy⟩, Ev.step q1 ?_, Ev.step q2 ?_⟩
      · refine Ev.neg (fun hp => hin ⟨by omega, by omega⟩) (Ev.bind (Ev.const (l27Number_eq l p)) (Ev.neg ?_ (Ev.now _)))
        simp; omega
      · refine Ev.bind (Ev.const hw) (Ev.neg ?_ (Ev.now _))
        simp; omega
end Go.Proofs.Ytemafjbbopdheaa.P

namespace Go.Proofs.Ytemafjbbopdheaa.P
open Go.RowKit Go.Proofs.YtemafjbbopdheaaW.PrintWords Go.Proofs.YtemafjbbopdheaaL
theorem markText_ev {n : Int} (h0 : 0 ≤ n) (h : n ≤ 4611686018427387904) : Ev (fun k => laws_markText.f k n) (mt n) := by
  have hs : ∃ r, laws_markText.f 100 n = some r := by
    unfold laws_markText.f
    by_cases h1 : n ≤ 0
    · rw [if_pos h1]; exact ⟨_, rfl⟩
    · rw [if_neg h1]
      exact markText_some 20 100 n _ h0 (by omega) (by omega) (by decide) (by omega)
  obtain ⟨r, hr⟩ := hs
  refine Ev.le 100 (fun k hk => ?_)
  have := at_rounds (fun k => laws_markText.mono n k) hk hr
  rw [this]
  unfold mt
  rw [hr]; rfl
/-- Marks of settings, however great. -/
theorem markSet_ev {l : List S81} (hl : l.length ≤ 1048576) {m : Int} (h0 : 0 ≤ m) (h1 : m ≤ 2305843009213693952) : Ev (fun k => laws_markSettingS.f k l m) (m + 2 * l.length, mkSettingS l m) := by
  have hc : ∀ x : S81, (0 : Int) ≤ (2 : Int) := fun _ => by omega
  have htot : mtot (fun _ : S81 => (2 : Int)) l m = m + 2 * l.length := mtot_const 2 l m
  unfold laws_markSettingS.f mkSettingS
  rw [← htot]
  refine mark_ev (fun k l m i => laws_markSettingS.l0 k l m i) _ (fun _ => 2) 4611686018427387000 hc (fun _ => True) (fun pre x rest m r hx hp hm hM hE => ?_) (fun k l m => ?_) l m (fun _ _ => trivial) (by omega) h0 (by omega)
  · have W1 := Aside0.mk (show wrap64 (m + 1) = m + 1 from wrap_id (by omega) (by omega))
    have W2 := Aside0.mk (show wrap64 (m + 1 + 1) = m + 2 from (wrap_id (by omega) (by omega)).trans (by omega))
    have WS := Aside0.mk (show wrap64 ((pre.length : Int) + 1) = ((pre.length + 1 : Nat) : Int) from wrap_succ (i := pre.length) (n := pre.length + 1) (by omega) (by omega))
    refine Ev.step (f := fun k => (laws_markText.f k m).bind fun t => laws_markSettingS.l0 k (pre ++ ⟨t, m + 1⟩ :: rest) (m + 2) ((pre.length + 1 : Nat) : Int)) (fun k => ?_) (Ev.bind (markText_ev hm (by omega)) hE)
    have hr : ∀ (y : S81), rd_T81 (pre ++ y :: rest) (pre.length : Int) = y := fun y => by simp [rd_T81]
    simp only [laws_markSettingS.l0]
    rw [if_pos (by simp; omega)]
    simp only [if_pos (nn_cast pre.length), hr, set_mid, W1.out, W2.out, WS.out, Option.bind_some]
  · simp only [laws_markSettingS.l0]
    rw [if_neg (nlt_cast _)]
end Go.Proofs.Ytemafjbbopdheaa.P

namespace Go.Proofs.Ytemafjbbopdheaa.P
open Go.RowKit Go.Proofs.YtemafjbbopdheaaW.PrintWords Go.Proofs.YtemafjbbopdheaaL
theorem heldSet_ev {l : List S81} (hl : l.length ≤ 1048576) {m : Int} (h0 : 0 ≤ m) (h1 : m ≤ 2305843009213693952) : Ev (fun k => laws_heldSettingS.f k (mkSettingS l m) m) (m + 2 * l.length) := by
  have hc : ∀ x : S81, (0 : Int) ≤ (2 : Int) := fun _ => by omega
  have htot : mtot (fun _ : S81 => (2 : Int)) l m = m + 2 * l.length := mtot_const 2 l m
  unfold laws_heldSettingS.f
  rw [← htot]
  obtain ⟨l', hl'⟩ : ∃ l', l' = mkSettingS l m := ⟨_, rfl⟩
  rw [← hl']
  unfold mkSettingS at hl'
  refine held_ev (fun k m i => laws_heldSettingS.l0 k l' m i) _ (fun _ => 2) 4611686018427387000 hc (fun _ => True) l' (fun pre x rest m r he hx hp hm hM hE => ?_) (fun k m => ?_) l m hl' (fun _ _ => trivial) (by omega) h0 (by omega)
  · have W1 := Aside0.mk (show wrap64 (m + 1) = m + 1 from wrap_id (by omega) (by omega))
    have W2 := Aside0.mk (show wrap64 (m + 1 + 1) = m + 2 from (wrap_id (by omega) (by omega)).trans (by omega))
    have WS := Aside0.mk (show wrap64 ((pre.length : Int) + 1) = ((pre.length + 1 : Nat) : Int) from wrap_succ (i := pre.length) (n := pre.length + 1) (by omega) (by omega))
    refine Ev.step (f := fun k => (laws_markText.f k m).bind fun t => if (mt m).toList = t.toList then (if m + 1 = m + 1 then laws_heldSettingS.l0 k l' (m + 2) ((pre.length + 1 : Nat) : Int) else some (-1)) else some (-1)) (fun k => ?_) (Ev.bind (markText_ev hm (by omega)) (Ev.pos rfl (Ev.pos rfl hE)))
    have hr : ∀ (y : S81), rd_T81 (pre ++ y :: rest) (pre.length : Int) = y := fun y => by simp [rd_T81]
    simp only [laws_heldSettingS.l0]
    rw [if_pos (by rw [he]; simp; omega)]
    simp only [if_pos (nn_cast pre.length), W1.out, W2.out, WS.out]
    simp only [he, hr]
  · simp only [laws_heldSettingS.l0]
    rw [if_neg (nlt_cast _)]
theorem markSettingS_big {l : List S81} (hl : l.length ≤ 1048576) (_ : ∀ y ∈ l, smiSetting y) {m : Int} (h0 : 0 ≤ m) (h1 : m ≤ 2305843009213693952) : ∃ (m' : Int) (l' : List S81), m ≤ m' ∧ m' ≤ m + 8388608 ∧ Ev (fun k => laws_markSettingS.f k l m) (m', l') ∧ Ev (fun k => laws_heldSettingS.f k l' m) m' :=
  ⟨m + 2 * l.length, mkSettingS l m, by omega, by omega, markSet_ev hl h0 h1, heldSet_ev hl h0 h1⟩
theorem markVersionS_held {l : List S89} (hl : l.length ≤ 1048576) (hs : ∀ y ∈ l, smiVersion y) {m : Int} (h0 : 0 ≤ m) (h1 : m ≤ 1152921504606846976) : ∃ (m' : Int) (l' : List S89), m ≤ m' ∧ m' ≤ m + 8796093022208 ∧ Ev (fun k => laws_markVersionS.f k l m) (m', l') ∧ Ev (fun k => laws_heldVersionS.f k l' m) m' := by
  have hc : ∀ x : S89, (0 : Int) ≤ 3 + 2 * (x.f3.length : Int) := fun x => by omega
  have htot : mtot (fun x : S89 => 3 + 2 * (x.f3.length : Int)) l m ≤ m + (l.length : Int) * 2097155 := mtot_le (P := fun e => e.f3.length ≤ 1048576) (fun x hx => by omega) l m (fun y hy => (hs y hy).1)
  have hge := mtot_ge hc l m
  refine ⟨mtot (fun x : S89 => 3 + 2 * (x.f3.length : Int)) l m, mkl (fun (x : S89) q => (⟨q, q + 1, mt (q + 1 + 1), mkSettingS x.f3 (q + 1 + 1 + 1)⟩ : S89)) (fun x => 3 + 2 * (x.f3.length : Int)) l m, hge, by omega, ?_, ?_⟩
  · unfold laws_markVersionS.f
    refine mark_ev (fun k l m i => laws_markVersionS.l0 k l m i) (fun (x : S89) q => (⟨q, q + 1, mt (q + 1 + 1), mkSettingS x.f3 (q + 1 + 1 + 1)⟩ : S89)) (fun x => 3 + 2 * (x.f3.length : Int)) 2305843009213693952 hc (fun e => e.f3.length ≤ 1048576) (fun pre x rest m r hx hp hm hM hE => ?_) (fun k l m => ?_) l m (fun y hy => (hs y hy).1) (by omega) h0 (by omega)
    · have W1 := Aside0.mk (show wrap64 (m + 1) = m + 1 from wrap_id (by omega) (by omega))
      have W2 := Aside0.mk (show wrap64 (m + 1 + 1) = m + 1 + 1 from wrap_id (by omega) (by omega))
      have W3 := Aside0.mk (show wrap64 (m + 1 + 1 + 1) = m + 1 + 1 + 1 from wrap_id (by omega) (by omega))
      have WS := Aside0.mk (show wrap64 ((pre.length : Int) + 1) = ((pre.length + 1 : Nat) : Int) from wrap_succ (i := pre.length) (n := pre.length + 1) (by omega) (by omega))
      have hr : rd_T89 (pre ++ x :: rest) (pre.length : Int) = x := by simp [rd_T89]
      have e3 : m + (3 + 2 * (x.f3.length : Int)) = m + 1 + 1 + 1 + 2 * (x.f3.length : Int) := by omega
      rw [e3] at hE
      refine Ev.step (f := fun k => (laws_markText.f k (m + 1 + 1)).bind fun t => (laws_markSettingS.f k x.f3 (m + 1 + 1 + 1)).bind fun t3 => laws_markVersionS.l0 k (pre ++ ⟨m, m + 1, t, t3.2⟩ :: rest) t3.1 ((pre.length + 1 : Nat) : Int)) (fun k => ?_) (Ev.bind (markText_ev (by omega) (by omega)) (Ev.bind (markSet_ev hx (by omega) (by omega)) hE))
      simp only [laws_markVersionS.l0]
      rw [if_pos (by simp; omega), if_pos (nn_cast _), W1.out, W2.out, W3.out, WS.out, hr]
      simp only [set_mid]
    · simp only [laws_markVersionS.l0]
      rw [if_neg (nlt_cast _)]
  · unfold laws_heldVersionS.f
    obtain ⟨l', hl'⟩ : ∃ l', l' = mkl (fun (x : S89) q => (⟨q, q + 1, mt (q + 1 + 1), mkSettingS x.f3 (q + 1 + 1 + 1)⟩ : S89)) (fun x => 3 + 2 * (x.f3.length : Int)) l m := ⟨_, rfl⟩
    rw [← hl']
    refine held_ev (fun k m i => laws_heldVersionS.l0 k l' m i) (fun (x : S89) q => (⟨q, q + 1, mt (q + 1 + 1), mkSettingS x.f3 (q + 1 + 1 + 1)⟩ : S89)) (fun x => 3 + 2 * (x.f3.length : Int)) 2305843009213693952 hc (fun e => e.f3.length ≤ 1048576) l' (fun pre x rest m r he hx hp hm hM hE => ?_) (fun k m => ?_) l m hl' (fun y hy => (hs y hy).1) (by omega) h0 (by omega)
    · have W1 := Aside0.mk (show wrap64 (m + 1) = m + 1 from wrap_id (by omega) (by omega))
      have W2 := Aside0.mk (show wrap64 (m + 1 + 1) = m + 1 + 1 from wrap_id (by omega) (by omega))
      have W3 := Aside0.mk (show wrap64 (m + 1 + 1 + 1) = m + 1 + 1 + 1 from wrap_id (by omega) (by omega))
      have WS := Aside0.mk (show wrap64 ((pre.length : Int) + 1) = ((pre.length + 1 : Nat) : Int) from wrap_succ (i := pre.length) (n := pre.length + 1) (by omega) (by omega))
      have hr : ∀ y : S89, rd_T89 (pre ++ y :: rest) (pre.length : Int) = y := fun y => by simp [rd_T89]
      have e3 : m + (3 + 2 * (x.f3.length : Int)) = m + 1 + 1 + 1 + 2 * (x.f3.length : Int) := by omega
      rw [e3] at hE
      refine Ev.step (f := fun k => if m = m then (if m + 1 = m + 1 then ((laws_markText.f k (m + 1 + 1)).bind fun t => if (mt (m + 1 + 1)).toList = t.toList then ((laws_heldSettingS.f k (mkSettingS x.f3 (m + 1 + 1 + 1)) (m + 1 + 1 + 1)).bind fun t3 => if t3 < 0 then some (-1) else laws_heldVersionS.l0 k l' t3 ((pre.length + 1 : Nat) : Int)) else some (-1)) else some (-1)) else some (-1)) (fun k => ?_) (Ev.pos rfl (Ev.pos rfl (Ev.bind (markText_ev (by omega) (by omega)) (Ev.pos rfl (Ev.bind (heldSet_ev hx (by omega) (by omega)) (Ev.neg (by omega) hE))))))
      simp only [laws_heldVersionS.l0]
      rw [if_pos (by rw [he]; simp; omega)]
      simp only [if_pos (nn_cast pre.length), W1.out, W2.out, W3.out, WS.out]
      simp only [he, hr]
    · simp only [laws_heldVersionS.l0]
      rw [if_neg (nlt_cast _)]
end Go.Proofs.Ytemafjbbopdheaa.P

namespace Go.Proofs.Ytemafjbbopdheaa.Pure
open Go.RowKit Go.Proofs.YtemafjbbopdheaaW.PrintWords Go.Proofs.YtemafjbbopdheaaL Go.Proofs.Ytemafjbbopdheaa.P
theorem FnExactCommitState : ∀ (x0 : List P.S87) (x1 : Int) (x2 : ByteArray) (x3 : List P.S80), (x0.length ≤ maxLen ∧ ∀ y ∈ x0, g87 y) → (Lit.int .i64 x1).wf = true → x2.size ≤ maxLen → (x3.length ≤ maxLen ∧ ∀ y ∈ x3, g80 y) → ∃ k : Nat, P.laws_FnExactCommitState.f k x0 x1 x2 x3 = some true := by
  intro x0 x1 x2 x3 ⟨hl0, hg0⟩ _ hl2 ⟨hl3, hg3⟩
  refine Ev.rounds (g := fun k => P.laws_FnExactCommitState.f k x0 x1 x2 x3) ?_
  unfold laws_FnExactCommitState.f
  by_cases hs2x : (x2.size : Int) > 1048576
  · exact Ev.pos hs2x (Ev.now _)
  refine Ev.neg hs2x ?_
  have hx2 : x2.size ≤ 1048576 := by omega
  obtain ⟨r0, hr0, h0⟩ := szVersionS_some hl0 hg0 (a := 1048576) (by omega) (by omega) (k := 10000000) (by omega)
  refine Ev.bind (a := r0) (Ev.of (g := fun k => laws_szVersionS.f k x0 1048576) (fun k => laws_szVersionS.mono _ _ k) hr0) ?_
  try dsimp only
  by_cases g0 : r0 < 0
  · exact Ev.pos g0 (Ev.now _)
  refine Ev.neg g0 ?_
  obtain ⟨p0, q0, z0, s0⟩ := h0.resolve_left g0
  obtain ⟨r1, hr1, h1⟩ := szSettingS_some hl3 hg3 (a := r0) (by omega) (by omega) (k := 10000000) (by omega)
  refine Ev.bind (a := r1) (Ev.of (g := fun k => laws_szSettingS.f k x3 r0) (fun k => laws_szSettingS.mono _ _ k) hr1) ?_
  try dsimp only
  by_cases g1 : r1 < 0
  · exact Ev.pos g1 (Ev.now _)
  refine Ev.neg g1 ?_
  obtain ⟨p1, q1, z3, s3⟩ := h1.resolve_left g1
  unfold laws_FnExactCommitState.g
  have hx0 : (x0.map cVersion).length ≤ 1048576 := by simpa using z0
  have hs0 : ∀ y ∈ x0.map cVersion, smiVersion y := fun y hy => by obtain ⟨x, hx, rfl⟩ := List.mem_map.1 hy; exact smi_cVersion (s0 x hx)
  have hT0 : Ev (fun k => laws_toVersionS.f k x0) (x0.map cVersion) := Ev.le 10000000 (fun k hk => toVersionS_eq z0 s0 (by omega))
  have hE0 : Ev (fun k => laws_eqVersionS.f k (x0.map cVersion) (x0.map cVersion)) true := Ev.le 10000000 (fun k hk => by rw [eqVersionS_eq hx0 hs0 (by omega)]; simp)
  have hx3 : (x3.map cSetting).length ≤ 1048576 := by simpa using z3
  have hs3 : ∀ y ∈ x3.map cSetting, smiSetting y := fun y hy => by obtain ⟨x, hx, rfl⟩ := List.mem_map.1 hy; exact smi_cSetting (s3 x hx)
  have hT3 : Ev (fun k => laws_toSettingS.f k x3) (x3.map cSetting) := Ev.le 10000000 (fun k hk => toSettingS_eq z3 s3 (by omega))
  have hE3 : Ev (fun k => laws_eqSettingS.f k (x3.map cSetting) (x3.map cSetting)) true := Ev.le 10000000 (fun k hk => by rw [eqSettingS_eq hx3 hs3 (by omega)]; simp)
  have hok0 : ∀ y ∈ x0.map cVersion, okV y := okV_c s0
  generalize x0.map cVersion = l0 at hx0 hT0 hE0 hs0 hok0 ⊢
  generalize x3.map cSetting = l3 at hx3 hT3 hE3 hs3 ⊢
  refine Ev.bind hT0 ?_
  try dsimp only
  refine Ev.bind hT3 ?_
  try dsimp only
  obtain ⟨v, c, hv, hS, hI⟩ := core_CommitState hx0 hs0 hok0 x1 hx2 hx3
  have hV : Ev (fun k => laws_eqVersionS.f k v v) true := Ev.le 10000000 (fun k hk => by rw [eqVersionS_eq hv.1 hv.2 (by omega)]; simp)
  refine Ev.bind hS ?_
  try dsimp only
  refine Ev.bind hT0 ?_
  try dsimp only
  refine Ev.bind hT3 ?_
  try dsimp only
  refine Ev.bind hI ?_
  try dsimp only
  refine Ev.yes hV ?_
  refine Ev.pos rfl ?_
  refine Ev.bind hT0 ?_
  try dsimp only
  refine Ev.yes hE0 ?_
  refine Ev.bind hT3 ?_
  try dsimp only
  refine Ev.yes hE3 ?_
  obtain ⟨m0, y0, mb0, mc0, hM0, hH0⟩ := markVersionS_held hx0 hs0 (m := 1) (by omega) (by omega)
  refine Ev.bind hM0 ?_
  try dsimp only
  obtain ⟨m1, y1, mb1, mc1, hM1, hH1⟩ := markSettingS_big hx3 hs3 (m := m0) (by omega) (by omega)
  refine Ev.bind hM1 ?_
  try dsimp only
  refine Ev.neg (by omega) ?_
  refine Ev.yes hV ?_
  refine Ev.pos rfl ?_
  obtain ⟨m2, y2, mb2, mc2, hM2, hH2⟩ := markVersionS_held hv.1 hv.2 (m := 1) (by omega) (by omega)
  refine Ev.bind hM2 ?_
  try dsimp only
  refine Ev.bind hH2 ?_
  try dsimp only
  refine Ev.neg (by omega) ?_
  refine Ev.pos rfl ?_
  refine Ev.bind hT0 ?_
  try dsimp only
  refine Ev.bind hT3 ?_
  try dsimp only
  refine Ev.bind hI ?_
  try dsimp only
  refine Ev.yes hV ?_
  refine Ev.pos rfl ?_
  refine Ev.bind hH2 ?_
  try dsimp only
  refine Ev.neg (by omega) ?_
  refine Ev.pos rfl ?_
  exact Ev.now _
end Go.Proofs.Ytemafjbbopdheaa.Pure
