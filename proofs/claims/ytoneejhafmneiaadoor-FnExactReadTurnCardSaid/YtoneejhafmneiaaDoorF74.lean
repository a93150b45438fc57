/- impl_ReadDecimal: what it answers, and that the machine's call comes to it. -/
import Derived.Shelf.Strconv.ErrVarParseInt
import Derived.Shelf.Strings.Prefix
import Derived.Test.YtoneejhafmneiaaDoorK
import Derived.Test.YtoneejhafmneiaaDoorF40
import Derived.Test.YtoneejhafmneiaaDoorDr
import Derived.Test.YtoneejhafmneiaaDoorShelf
namespace Go.Proofs.YtoneejhafmneiaaDoor.P
open Go.RowKit Go.Proofs.YtoneejhafmneiaaDoorW.PrintWords Go.Proofs.YtoneejhafmneiaaDoorW.PrintLast Go.Proofs.YtoneejhafmneiaaDoorW.PrintMore
attribute [local go_sem] max2_int min2_int max_two min_two max_three min_three max_four min_four str_leq str_gtr str_geq
set_option linter.unusedVariables false
set_option linter.unusedSimpArgs false

/-! ### impl_ReadDecimal: function 74 (by hand: ReadDecimal.lean) -/
def impl_ReadDecimal.v (s : ByteArray) : Option Int := match Lib.parseIntB 64 s.data.toList with
  | .ok v => if 18 < (Lib.trimPrefix s.data.toList [45]).length then none else if (impl_Decimal.t v).toList = s.toList then some v else none
  | _ => none
def impl_ReadDecimal.f (a0 : ByteArray) : Option (Int × Bool) := if a0.size ≤ 281474976710656 then some (match impl_ReadDecimal.v a0 with | some n => (n, true) | none => (0, false)) else none
theorem impl_ReadDecimal.bytes {w w1 : World} {e : TypeId} (h : w1 = w ∨ ∃ t, w1 = Lib.bytesWorld w e t) : Below w.heap.size w w1 := by
  rcases h with rfl | ⟨t, rfl⟩
  · exact Below.refl _ _
  · exact bytes_below (Below.refl _ _) (Nat.le_refl _) e t
set_option maxHeartbeats 1600000 in
set_option maxRecDepth 100000 in
theorem impl_ReadDecimal.calls (a0 : ByteArray) (r1 : Int) (r2 : Bool) (w : World) (hD : Door2 w) (h : impl_ReadDecimal.f a0 = some (r1, r2)) :
    Calls Tryd.prog 74 #[.string a0] w fun e w' => e = .returned (.tuple #[.int .i64 r1, .bool r2]) ∧ Below w.heap.size w w' := by
  unfold impl_ReadDecimal.f at h
  by_cases hs : a0.size ≤ 281474976710656
  rotate_left
  · rw [if_neg hs] at h; exact absurd h (by simp)
  rw [if_pos hs] at h
  have h' := Option.some.inj h
  clear h
  unfold impl_ReadDecimal.v at h'
  have HD := Aside0.mk hD
  obtain ⟨ts, ps, hsy⟩ := hD.syn
  obtain ⟨tr, pr, hra⟩ := hD.ran
  clear hD
  rcases hp : Lib.parseIntB 64 a0.data.toList with v | _ | _
  rotate_left
  · rw [hp] at h'
    simp only [Prod.mk.injEq] at h'
    obtain ⟨rfl, rfl⟩ := h'
    have HC := Aside0.mk (Any.strconv_ParseInt_10_at64_syntax_var sh_ParseInt a0 hs hp ts ps w hsy)
    clear hp hs hsy hra
    go_enter Tryd.func74, Tryd.ntmps74
    go_wp2_with (go_at_call 94; refine HC.out.mono ?_; rintro e w1 ⟨N, rfl, _, _, hb⟩; have HB := Aside0.mk hb; clear hb)
    all_goals go_ret2
    all_goals exact ⟨rfl, HB.out⟩
  · rw [hp] at h'
    simp only [Prod.mk.injEq] at h'
    obtain ⟨rfl, rfl⟩ := h'
    have HC := Aside0.mk (Any.strconv_ParseInt_10_at64_range_var sh_ParseInt a0 hs hp tr pr w hra)
    clear hp hs hsy hra
    go_enter Tryd.func74, Tryd.ntmps74
    go_wp2_with (go_at_call 94; refine HC.out.mono ?_; rintro e w1 ⟨N, rfl, _, _, hb⟩; have HB := Aside0.mk hb; clear hb)
    all_goals go_ret2
    all_goals exact ⟨rfl, HB.out⟩
  · rw [hp] at h'
    have hv := Lib.parseIntB_bounds hp
    have HC := Aside0.mk (Any.strconv_ParseInt_10_at64_ok sh_ParseInt a0 (by omega) v hp w)
    have HT := Aside0.mk (fun w => Any.strings_TrimPrefix sh_TrimPrefix a0 ⟨#[45]⟩ w)
    have HV := Aside0.mk (show impl_Decimal.f v = some (impl_Decimal.t v) from if_pos ⟨by omega, by omega⟩)
    clear hp hs hsy hra hv
    have hsz : (Lib.trimPrefix a0.data.toList [45]).length = (⟨(Lib.trimPrefix a0.data.toList [45]).toArray⟩ : ByteArray).size := by
      show _ = (Lib.trimPrefix a0.data.toList [45]).toArray.size; simp
    have e45 : (⟨#[45]⟩ : ByteArray).data.toList = [45] := rfl
    rw [e45] at HT
    simp only [hsz] at h'
    clear hsz
    generalize (⟨(Lib.trimPrefix a0.data.toList [45]).toArray⟩ : ByteArray) = tp at HT h'
    generalize impl_Decimal.t v = dv at HV h'
    clear e45
    by_cases h18 : 18 < tp.size
    · rw [if_pos h18] at h'
      simp only [Prod.mk.injEq] at h'
      obtain ⟨rfl, rfl⟩ := h'
      have d1 : decide (18 < (tp.size : Int)) = true := decide_eq_true (by omega)
      have d2 : decide (18 < tp.size) = true := decide_eq_true h18
      clear h18
      go_enter Tryd.func74, Tryd.ntmps74
      go_wp2_with (first
      | (go_at_call 94; refine HC.out.mono ?_; rintro e w1 ⟨rfl, hw⟩; have HB := Aside0.mk (impl_ReadDecimal.bytes hw); clear hw)
      | (go_at_call 95; refine (HT.out _).mono ?_; rintro e w1 ⟨rfl, rfl⟩)
      | (go_at_call 40; (with_reducible refine (impl_Decimal.calls v dv _ (Door2.one (Door2.at HD.out (by repeat (first | (with_reducible first | exact HB.out | apply below_alloc | apply pw_below_drewN | apply below_drew1) | exact HB.out)))) HV.out).mono ?_); rintro e w2 ⟨rfl, hb⟩; have n0_ := Aside0.mk (below_step (by repeat (first | (with_reducible first | exact HB.out | apply below_alloc | apply pw_below_drewN | apply below_drew1) | exact HB.out)) hb); clear HB; have HB := n0_; clear n0_ hb))
      all_goals go_ret2
      all_goals exact ⟨rfl, (by repeat (first | (with_reducible first | exact HB.out | apply below_alloc | apply pw_below_drewN | apply below_drew1) | exact HB.out))⟩
    rw [if_neg h18] at h'
    have d1 : decide (18 < (tp.size : Int)) = false := decide_eq_false (by omega)
    have d2 : decide (18 < tp.size) = false := decide_eq_false h18
    clear h18
    by_cases he : dv.toList = a0.toList
    · rw [if_pos he] at h'
      simp only [Prod.mk.injEq] at h'
      obtain ⟨rfl, rfl⟩ := h'
      have e1 : (dv.toList == a0.toList) = true := beq_iff_eq.mpr he
      have e2 : (dv.toList != a0.toList) = false := bne_eq_false_iff_eq.mpr he
      clear he
      go_enter Tryd.func74, Tryd.ntmps74
      go_wp2_with (first
      | (go_at_call 94; refine HC.out.mono ?_; rintro e w1 ⟨rfl, hw⟩; have HB := Aside0.mk (impl_ReadDecimal.bytes hw); clear hw)
      | (go_at_call 95; refine (HT.out _).mono ?_; rintro e w1 ⟨rfl, rfl⟩)
      | (go_at_call 40; (with_reducible refine (impl_Decimal.calls v dv _ (Door2.one (Door2.at HD.out (by repeat (first | (with_reducible first | exact HB.out | apply below_alloc | apply pw_below_drewN | apply below_drew1) | exact HB.out)))) HV.out).mono ?_); rintro e w2 ⟨rfl, hb⟩; have n0_ := Aside0.mk (below_step (by repeat (first | (with_reducible first | exact HB.out | apply below_alloc | apply pw_below_drewN | apply below_drew1) | exact HB.out)) hb); clear HB; have HB := n0_; clear n0_ hb))
      all_goals go_ret2
      all_goals exact ⟨rfl, (by repeat (first | (with_reducible first | exact HB.out | apply below_alloc | apply pw_below_drewN | apply below_drew1) | exact HB.out))⟩
    · rw [if_neg he] at h'
      simp only [Prod.mk.injEq] at h'
      obtain ⟨rfl, rfl⟩ := h'
      have e1 : (dv.toList == a0.toList) = false := beq_eq_false_iff_ne.mpr he
      have e2 : (dv.toList != a0.toList) = true := bne_iff_ne.mpr he
      clear he
      go_enter Tryd.func74, Tryd.ntmps74
      go_wp2_with (first
      | (go_at_call 94; refine HC.out.mono ?_; rintro e w1 ⟨rfl, hw⟩; have HB := Aside0.mk (impl_ReadDecimal.bytes hw); clear hw)
      | (go_at_call 95; refine (HT.out _).mono ?_; rintro e w1 ⟨rfl, rfl⟩)
      | (go_at_call 40; (with_reducible refine (impl_Decimal.calls v dv _ (Door2.one (Door2.at HD.out (by repeat (first | (with_reducible first | exact HB.out | apply below_alloc | apply pw_below_drewN | apply below_drew1) | exact HB.out)))) HV.out).mono ?_); rintro e w2 ⟨rfl, hb⟩; have n0_ := Aside0.mk (below_step (by repeat (first | (with_reducible first | exact HB.out | apply below_alloc | apply pw_below_drewN | apply below_drew1) | exact HB.out)) hb); clear HB; have HB := n0_; clear n0_ hb))
      all_goals go_ret2
      all_goals exact ⟨rfl, (by repeat (first | (with_reducible first | exact HB.out | apply below_alloc | apply pw_below_drewN | apply below_drew1) | exact HB.out))⟩

end Go.Proofs.YtoneejhafmneiaaDoor.P
