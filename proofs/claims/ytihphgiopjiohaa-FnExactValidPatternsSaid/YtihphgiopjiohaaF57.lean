/- impl_allWithin: what it answers, and that the machine's call comes to it. -/
import Derived.Lib.Hide
import Derived.Test.YtihphgiopjiohaaK
import Derived.Test.YtihphgiopjiohaaF58
namespace Go.Proofs.Ytihphgiopjiohaa.P
open Go.RowKit Go.Proofs.YtihphgiopjiohaaW.PrintWords Go.Proofs.YtihphgiopjiohaaW.PrintLast Go.Proofs.YtihphgiopjiohaaW.PrintMore
attribute [local go_sem] max2_int min2_int max_two min_two max_three min_three max_four min_four str_leq str_gtr str_geq
set_option linter.unusedVariables false
set_option linter.unusedSimpArgs false

/-! ### impl_allWithin: function 57 (by hand: allWithin.lean) -/
def impl_allWithin.p (a1 a2 n : Int) : Bool := !decide (a1 ≤ n) || !decide (n ≤ a2)
def impl_allWithin.f (l0 : List Int) (a1 : Int) (a2 : Int) : Option (Bool) := some (!(l0.any (impl_allWithin.p a1 a2)))
theorem impl_allWithin.within (x lo hi : Int) : impl_within.f x lo hi = some (decide (lo ≤ x) && decide (x ≤ hi)) := by
  unfold impl_within.f
  by_cases h : x ≥ lo
  · rw [if_pos h]; simp [ge_iff_le.1 h]
  · rw [if_neg h]
    have h' : ¬ lo ≤ x := h
    simp [h']
theorem impl_allWithin.clo (x lo hi : Int) (b1 b2 : Nat) (w : World) (h1 : w.cell? ⟨b1, 0, none⟩ = some (.int .i64 lo)) (h2 : w.cell? ⟨b2, 0, none⟩ = some (.int .i64 hi)) :
    Calls Try.prog 67 #[.int .i64 x, .pointer (some ⟨b1, 0, none⟩), .pointer (some ⟨b2, 0, none⟩)] w fun e w' => e = .returned (.bool (impl_allWithin.p lo hi x)) ∧ Below w.heap.size w w' := by
  go_enter Try.func67, Try.ntmps67
  go_wp2_with (go_at_call 58; refine (impl_within.calls x lo hi _ _ (impl_allWithin.within x lo hi)).mono ?_; rintro e w' ⟨rfl, ⟨nd, rfl⟩⟩)
  go_ret
  exact ⟨rfl, pw_below_drewN (Below.refl _ _) nd⟩
theorem impl_allWithin.below_cell {w W : World} (hb : Below w.heap.size w W) {b : Nat} {v : Value} (h : w.cell? ⟨b, 0, none⟩ = some v) : W.cell? ⟨b, 0, none⟩ = some v := (hb.cell (World.block_lt_of_cell? w _ h)).trans h
set_option maxHeartbeats 1600000 in
set_option maxRecDepth 100000 in
theorem impl_allWithin.idx (A0 : Option Addr) (c0 : Nat) (l0 : List Int) (lo hi : Int) (b1 b2 : Nat) (w : World) (hr0 : Kd.C (Kd.int .i64) w A0 l0.length l0) (h1 : w.cell? ⟨b1, 0, none⟩ = some (.int .i64 lo)) (h2 : w.cell? ⟨b2, 0, none⟩ = some (.int .i64 hi)) :
    Calls Try.prog 70 #[.slice A0 l0.length c0, .func (.func 67) #[] #[.pointer (some ⟨b1, 0, none⟩), .pointer (some ⟨b2, 0, none⟩)]] w fun e w' => ∃ n : Int, e = .returned (.int .i64 n) ∧ (l0.any (impl_allWithin.p lo hi) = decide (0 ≤ n)) ∧ Below w.heap.size w w' := by
  have hlen : l0.length ≤ 9223372036854775807 := hr0.2.1
  have HR := Aside0.mk hr0
  clear hr0
  have H1 := Aside0.mk h1
  have H2 := Aside0.mk h2
  clear h1 h2
  go_enter Try.func70, Try.ntmps70
  go_wp2_with fail
  go_loopw [8] (fun i wr => ∃ k : Nat, k ≤ l0.length ∧ i = .int .i64 k ∧ Aside0 (∀ j, j < k → impl_allWithin.p lo hi (l0.getD j 0) = false) ∧ Aside0 (Below w.heap.size w wr)) (fun i _ => l0.length - (intOf i).toNat)
  case atStart => exact ⟨0, Nat.zero_le _, rfl, ⟨fun j hj => by omega⟩, ⟨Below.refl _ _⟩⟩
  case round =>
    obtain ⟨k, hk, rfl, HN, HB⟩ := hrel
    by_cases hlt : k < l0.length
    · obtain ⟨ad, rfl, hx⟩ := Kd.at_int HR.out (k : Int) (by omega) (by omega)
      have hx2 : wr.cell? (ad.add k) = some (.int .i64 (rd l0 k)) := by
        have := (HB.out.cell (World.block_lt_of_cell? w _ hx)).trans hx
        simpa using this
      have hg := (impl_allWithin.clo (rd l0 k) lo hi b1 b2 wr (impl_allWithin.below_cell HB.out H1.out) (impl_allWithin.below_cell HB.out H2.out))
      have HG := Aside0.mk hg
      have HX := hx2
      clear hg hx hx2
      cases hp : impl_allWithin.p lo hi (rd l0 k) with
      | true =>
        rw [hp] at HG
        have HP := Aside0.mk hp
        clear hp
        go_wp2_with (go_at_call 67; refine HG.out.mono ?_; rintro e w1 ⟨rfl, hb⟩; have HB1 := Aside0.mk (below_step HB.out hb); clear hb)
        go_ret
        refine ⟨k, rfl, ?_, HB1.out⟩
        rw [decide_eq_true (by omega), List.any_eq_true]
        refine ⟨rd l0 k, ?_, HP.out⟩
        have e : rd l0 (k : Int) = l0[k] := by simp [rd, List.getD_eq_getElem?_getD, List.getElem?_eq_getElem hlt]
        rw [e]; exact List.getElem_mem hlt
      | false =>
        rw [hp] at HG
        have HP := Aside0.mk hp
        clear hp
        go_wp2_with (go_at_call 67; refine HG.out.mono ?_; rintro e w1 ⟨rfl, hb⟩; have HB1 := Aside0.mk (below_step HB.out hb); clear hb)
        go_roundw
        case rel =>
          refine ⟨k + 1, by omega, by go_num, ⟨fun j hj => ?_⟩, HB1⟩
          by_cases hjk : j < k
          · exact HN.out j hjk
          · obtain rfl : j = k := by omega
            have := HP.out
            simpa [rd] using this
        case measure => simp [intOf]; omega
    · have hkl : k = l0.length := by omega
      clear hlt
      have HN' := HN
      go_wp2_with fail
      go_ret
      refine ⟨-1, rfl, ?_, HB.out⟩
      rw [decide_eq_false (by omega), List.any_eq_false]
      intro x hx
      obtain ⟨j, hj, rfl⟩ := List.getElem_of_mem hx
      have := HN'.out j (by omega)
      rw [List.getD_eq_getElem?_getD, List.getElem?_eq_getElem hj] at this
      simpa using this
theorem impl_allWithin.has (A0 : Option Addr) (c0 : Nat) (l0 : List Int) (lo hi : Int) (b1 b2 : Nat) (w : World) (hr0 : Kd.C (Kd.int .i64) w A0 l0.length l0) (h1 : w.cell? ⟨b1, 0, none⟩ = some (.int .i64 lo)) (h2 : w.cell? ⟨b2, 0, none⟩ = some (.int .i64 hi)) :
    Calls Try.prog 66 #[.slice A0 l0.length c0, .func (.func 67) #[] #[.pointer (some ⟨b1, 0, none⟩), .pointer (some ⟨b2, 0, none⟩)]] w fun e w' => e = .returned (.bool (l0.any (impl_allWithin.p lo hi))) ∧ Below w.heap.size w w' := by
  have HC := Aside0.mk (impl_allWithin.idx A0 c0 l0 lo hi b1 b2 w hr0 h1 h2)
  clear hr0 h1 h2
  go_enter Try.func66, Try.ntmps66
  go_wp2_with (go_at_call 70; refine HC.out.mono ?_; rintro e w1 ⟨n, rfl, hn, hb⟩; have HB := Aside0.mk hb; have HN := Aside0.mk hn; clear hb hn)
  go_ret
  exact ⟨by rw [HN.out]; rfl, HB.out⟩
theorem impl_allWithin.calls (A0 : Option Addr) (c0 : Nat) (l0 : List Int) (a1 : Int) (a2 : Int) (r : Bool) (w : World) (hr0 : Kd.C (Kd.int .i64) w A0 l0.length l0) (hc0 : l0.length ≤ c0) (h : impl_allWithin.f l0 a1 a2 = some r) :
    Calls Try.prog 57 #[.slice A0 l0.length c0, .int .i64 a1, .int .i64 a2] w fun e w' => e = .returned (.bool r) ∧ Below w.heap.size w w' := by
  obtain rfl := Option.some.inj h
  have hmf : ∀ (fn : Fn) (first cap : Array Value) (w : World), (Instr.makeFunc fn first cap).run Try.prog w = .ok (.func fn first cap) w := fun _ _ _ _ => rfl
  have hb2 : Below w.heap.size w ((w.alloc (.cells #[.int .i64 a1] 2)).alloc (.cells #[.int .i64 a2] 2)) := ((Below.refl _ _).alloc (Nat.le_refl _) _).alloc (by simp) _
  have HC := Aside0.mk (impl_allWithin.has A0 c0 l0 a1 a2 w.heap.size (w.heap.size + 1) ((w.alloc (.cells #[.int .i64 a1] 2)).alloc (.cells #[.int .i64 a2] 2)) (Kd.C_below hr0 hb2)
    (by rw [World.cell?_alloc_past _ _ _ (by simp), World.cell?_alloc_at _ _ _ _ rfl]; rfl) (by rw [World.cell?_alloc_at _ _ _ _ (by simp)]; rfl))
  clear hr0 hc0 h
  go_enter Try.func57, Try.ntmps57
  go_wp2_with (go_at_call 66; refine HC.out.mono ?_; rintro e w1 ⟨rfl, hb⟩; have HB := Aside0.mk (below_then hb2 (by simp; omega) hb); clear hb)
  go_ret
  exact ⟨rfl, HB.out⟩

end Go.Proofs.Ytihphgiopjiohaa.P
