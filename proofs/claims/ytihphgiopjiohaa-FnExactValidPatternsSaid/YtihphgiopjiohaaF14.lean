/- impl_ValidPatterns: what it answers, and that the machine's call comes to it. -/
import Derived.Lib.Hide
import Derived.Test.YtihphgiopjiohaaK
import Derived.Test.YtihphgiopjiohaaF39
import Derived.Test.YtihphgiopjiohaaAny
namespace Go.Proofs.Ytihphgiopjiohaa.P
open Go.RowKit Go.Proofs.YtihphgiopjiohaaW.PrintWords Go.Proofs.YtihphgiopjiohaaW.PrintLast Go.Proofs.YtihphgiopjiohaaW.PrintMore
attribute [local go_sem] max2_int min2_int max_two min_two max_three min_three max_four min_four str_leq str_gtr str_geq
set_option linter.unusedVariables false
set_option linter.unusedSimpArgs false

/-! ### impl_ValidPatterns: function 14 (by hand: ValidPatterns.lean) -/
set_option maxHeartbeats 1600000
set_option maxRecDepth 100000
def impl_ValidPatterns.f (l0 : List S47) : Option Bool := if (l0.length : Int) ≤ 12 then ((anyO (fun x => impl_ValidPatterns_1.f x.f0 x.f1) l0).bind fun b => some (!b)) else some false
theorem impl_ValidPatterns.idx (p : S47 → Option Bool) (A0 : Option Addr) (c0 : Nat) (l0 : List S47) (r : Bool) (w : World) (hr0 : Kd.C k47 w A0 l0.length l0)
    (hclo : ∀ (x : S47) (b : Bool), p x = some b → ∀ (A_0 : Option Addr) (c_0 : Nat) (W : World), Below w.heap.size w W → x.f0.length ≤ c_0 → Kd.C (Kd.int .i64) W A_0 x.f0.length x.f0 → Calls Try.prog 39 #[.agg #[.slice A_0 (x.f0).length c_0, .int .i64 (x.f1)]] W fun e W' => e = .returned (.bool b) ∧ Below W.heap.size W W') (h : anyO p l0 = some r) :
    Calls Try.prog 56 #[.slice A0 l0.length c0, .func (.func 39) #[] #[]] w fun e w' => ∃ n : Int, e = .returned (.int .i64 n) ∧ (r = decide (0 ≤ n)) ∧ Below w.heap.size w w' := by
  have hlen : l0.length ≤ 9223372036854775807 := hr0.2.1
  have hu := Try.underlying47
  have HR := Aside0.mk hr0
  have HCL := Aside0.mk hclo
  have HH := Aside0.mk h
  clear hr0 hclo h
  go_enter Try.func56, Try.ntmps56
  go_wp2_with fail
  go_loopw [8] (fun i wr => ∃ k : Nat, k ≤ l0.length ∧ i = .int .i64 k ∧ Aside0 (anyO p (l0.drop k) = some r) ∧ Aside0 (Below w.heap.size w wr)) (fun i _ => l0.length - (intOf i).toNat)
  case atStart => exact ⟨0, Nat.zero_le _, rfl, ⟨by rw [List.drop_zero]; exact HH.out⟩, ⟨Below.refl _ _⟩⟩
  case round =>
    obtain ⟨k, hk, rfl, HN, HB⟩ := hrel
    clear HH
    by_cases hlt : k < l0.length
    · obtain ⟨ad, A_0, c_0, e0, hx0, hx1, hl0, hi0⟩ := at_T47 HR.out (k : Int) (by omega) (by omega)
      subst e0
      replace hx0 := (HB.out.cell (World.block_lt_of_cell? w _ hx0)).trans hx0
      (try simp only [Int.toNat_natCast] at hx0)
      replace hx1 := (HB.out.cell (World.block_lt_of_cell? w _ hx1)).trans hx1
      (try simp only [Int.toNat_natCast] at hx1)
      have er : (rd_T47 l0 (k : Int)) = l0[k] := by simp [rd_T47, List.getD_eq_getElem?_getD, List.getElem?_eq_getElem hlt]
      obtain ⟨b, hb, hbr⟩ := anyO_drop hlt HN.out
      rw [← er] at hb
      have HG := Aside0.mk (HCL.out (rd_T47 l0 (k : Int)) b hb A_0 c_0 wr HB.out hl0 (Kd.C_below hi0 HB.out))
      have HBR := Aside0.mk hbr
      clear hb hbr er HN hl0 hi0
      cases b with
      | true =>
        go_wp2_with (go_at_call 39; refine HG.out.mono ?_; rintro e w1 ⟨rfl, hb1⟩; have HB1 := Aside0.mk (below_step HB.out hb1); clear hb1)
        go_ret
        refine ⟨k, rfl, ?_, HB1.out⟩
        rw [decide_eq_true (by omega)]
        rcases HBR.out with h | h
        · exact h.2
        · exact absurd h.1 (by decide)
      | false =>
        go_wp2_with (go_at_call 39; refine HG.out.mono ?_; rintro e w1 ⟨rfl, hb1⟩; have HB1 := Aside0.mk (below_step HB.out hb1); clear hb1)
        go_roundw
        case rel =>
          refine ⟨k + 1, by omega, by go_num, ⟨?_⟩, HB1⟩
          rcases HBR.out with h | h
          · exact absurd h.1 (by decide)
          · exact h.2
        case measure => simp [intOf]; omega
    · have hkl : k = l0.length := by omega
      have hd1 : decide ((k : Int) < (l0.length : Int)) = false := decide_eq_false (by omega)
      have hd2 : decide (k < l0.length) = false := decide_eq_false (by omega)
      have HN' := HN
      have HK := Aside0.mk hkl
      clear hkl HN
      go_wp2_with fail
      go_ret
      refine ⟨-1, rfl, ?_, HB.out⟩
      rw [decide_eq_false (by omega)]
      have h := HN'.out
      rw [HK.out, List.drop_length] at h
      exact (Option.some.inj h).symm
theorem impl_ValidPatterns.has (p : S47 → Option Bool) (A0 : Option Addr) (c0 : Nat) (l0 : List S47) (r : Bool) (w : World) (hr0 : Kd.C k47 w A0 l0.length l0)
    (hclo : ∀ (x : S47) (b : Bool), p x = some b → ∀ (A_0 : Option Addr) (c_0 : Nat) (W : World), Below w.heap.size w W → x.f0.length ≤ c_0 → Kd.C (Kd.int .i64) W A_0 x.f0.length x.f0 → Calls Try.prog 39 #[.agg #[.slice A_0 (x.f0).length c_0, .int .i64 (x.f1)]] W fun e W' => e = .returned (.bool b) ∧ Below W.heap.size W W') (h : anyO p l0 = some r) :
    Calls Try.prog 38 #[.slice A0 l0.length c0, .func (.func 39) #[] #[]] w fun e w' => e = .returned (.bool r) ∧ Below w.heap.size w w' := by
  have HC := Aside0.mk (impl_ValidPatterns.idx p A0 c0 l0 r w hr0 hclo h)
  clear hr0 hclo h
  go_enter Try.func38, Try.ntmps38
  go_wp2_with (go_at_call 56; refine HC.out.mono ?_; rintro e w1 ⟨n, rfl, hn, hb⟩; have HB := Aside0.mk hb; have HN := Aside0.mk hn; clear hb hn)
  go_ret
  exact ⟨by rw [HN.out]; rfl, HB.out⟩
theorem impl_ValidPatterns.calls (A0 : Option Addr) (c0 : Nat) (l0 : List S47) (r : Bool) (w : World) (hr0 : Kd.C k47 w A0 l0.length l0) (hc0 : l0.length ≤ c0) (h : impl_ValidPatterns.f l0 = some r) :
    Calls Try.prog 14 #[.slice A0 l0.length c0] w fun e w' => e = .returned (.bool r) ∧ Below w.heap.size w w' := by
  unfold impl_ValidPatterns.f at h
  by_cases h12 : (l0.length : Int) ≤ 12
  · rw [if_pos h12] at h
    obtain ⟨b, hb, h2⟩ := Option.bind_eq_some_iff.1 h
    obtain rfl := Option.some.inj h2
    have HC := Aside0.mk (impl_ValidPatterns.has (fun x => impl_ValidPatterns_1.f x.f0 x.f1) A0 c0 l0 b w hr0 (fun x b hp A_0 c_0 W hW hl0 hi0 => (impl_ValidPatterns_1.calls _ _ x.f0 x.f1 b W hi0 hl0 hp)) hb)
    have hd : decide ((l0.length : Int) ≤ 12) = true := decide_eq_true h12
    have hd2 : decide (l0.length ≤ 12) = true := decide_eq_true (by omega)
    clear hr0 hc0 h h2 hb h12
    go_enter Try.func14, Try.ntmps14
    go_wp2_with (go_at_call 38; refine HC.out.mono ?_; rintro e w1 ⟨rfl, hb⟩; have HB := Aside0.mk hb; clear hb)
    go_ret
    exact ⟨rfl, HB.out⟩
  · rw [if_neg h12] at h
    obtain rfl := Option.some.inj h
    have hd : decide ((l0.length : Int) ≤ 12) = false := decide_eq_false h12
    have hd2 : decide (l0.length ≤ 12) = false := decide_eq_false (by omega)
    clear hr0 hc0 h h12
    go_enter Try.func14, Try.ntmps14
    go_wp2_with fail
    go_ret
    exact ⟨rfl, Below.refl _ _⟩

end Go.Proofs.Ytihphgiopjiohaa.P
