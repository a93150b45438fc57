/- Part a of what FnMerges stands on: functions of the program as Lean functions with their walks, and plain lemmas. -/
import Derived.Test.YtocegmkifmdlcaaK
import Derived.Shelf.Lays
import Derived.Test.YtocegmkifmdlcaaProg
import Derived.Sort.Grow
import Derived.Sort.EncStr
import Derived.Lib.SlicesCompact
import Derived.Shelf.Sort.Plain
import Derived.Shelf.Slices.In.SortNone
import Derived.Shelf.Slices.CompactS
import Derived.Lib.Hide
import Derived.Deep.RegionHeld3
namespace Go.Proofs.Ytocegmkifmdlcaa.P
open Go.RowKit Go.Proofs.YtocegmkifmdlcaaW.PrintWords Go.Proofs.YtocegmkifmdlcaaW.PrintLast Go.Proofs.YtocegmkifmdlcaaW.PrintMore
attribute [local go_sem] max2_int min2_int max_two min_two max_three min_three max_four min_four str_leq str_gtr str_geq
set_option linter.unusedVariables false
set_option linter.unusedSimpArgs false

def impl_within.f (a0 : Int) (a1 : Int) (a2 : Int) : Option (Bool) := if a0 ≥ a1 then (some (decide (a0 ≤ a2))) else (some false)
set_option maxHeartbeats 8000000 in
set_option maxRecDepth 100000 in
theorem impl_within.calls (a0 : Int) (a1 : Int) (a2 : Int) (r : Bool) (w : World) (h : impl_within.f a0 a1 a2 = some r) :
    Calls Try.prog 96 #[.int .i64 a0, .int .i64 a1, .int .i64 a2] w fun e w' => e = .returned (.bool r) ∧ Drawn0 w w' := by
  have H : (if a0 ≥ a1 then (some (decide (a0 ≤ a2))) else (some false)) = some r := h
  clear h
  by_cases c4 : a0 ≥ a1
  · rw [if_pos c4] at H
    have c4b0 : decide (a1 ≤ a0) = true := decide_eq_true c4
    clear c4
    obtain rfl := Option.some.inj H
    go_enter Try.func96, Try.ntmps96
    go_wp2
    go_ret
    exact ⟨by first | rfl | (simp; done) | (simp [*]; done), by repeat (first | exact Drawn0.refl _ | apply Drawn0.step)⟩
  · rw [if_neg c4] at H
    have c4b0 : decide (a1 ≤ a0) = false := decide_eq_false c4
    clear c4
    obtain rfl := Option.some.inj H
    go_enter Try.func96, Try.ntmps96
    go_wp2
    go_ret
    exact ⟨by first | rfl | (simp; done) | (simp [*]; done), by repeat (first | exact Drawn0.refl _ | apply Drawn0.step)⟩

def impl_onlyNameBytes.l0 : Nat → ByteArray → Int → Int → Option (Bool)
  | 0, _, _, _ => none
  | k + 1, x0, x6, x7 => if x7 < x6 then (if 0 ≤ x7 then (if x7 < (x0.size : Int) then (if (bt x0 x7) < 97 then (if (bt x0 x7) < 48 then (some false) else (if (bt x0 x7) > 57 then (some false) else (impl_onlyNameBytes.l0 k x0 x6 (wrap64 (x7 + 1))))) else (if (bt x0 x7) > 122 then (if (bt x0 x7) < 48 then (some false) else (if (bt x0 x7) > 57 then (some false) else (impl_onlyNameBytes.l0 k x0 x6 (wrap64 (x7 + 1))))) else (impl_onlyNameBytes.l0 k x0 x6 (wrap64 (x7 + 1))))) else (none)) else (none)) else (some true)
def impl_onlyNameBytes.f (k : Nat) (a0 : ByteArray) : Option (Bool) := impl_onlyNameBytes.l0 k a0 (a0.size : Int) 0
set_option maxHeartbeats 8000000 in
set_option maxRecDepth 100000 in
theorem impl_onlyNameBytes.calls (k : Nat) (a0 : ByteArray) (r : Bool) (w : World) (h : impl_onlyNameBytes.f k a0 = some r) :
    Calls Try.prog 140 #[.string a0] w fun e w' => e = .returned (.bool r) ∧ Drawn0 w w' := by
  have H : (impl_onlyNameBytes.l0 k a0 (a0.size : Int) 0) = some r := h
  clear h
  have H' := Aside0.mk H
  clear H
  go_enter Try.func140, Try.ntmps140
  go_wp2
  go_loopg [7] k (fun kq v7 w' => ∃ (x7_1 : Int), v7 = .int .i64 x7_1 ∧ Aside0 (impl_onlyNameBytes.l0 kq a0 (a0.size : Int) x7_1 = some r) ∧ Aside0 (kq ≤ k) ∧ Drawn0 w w')
  case atStart => exact ⟨(0), (by first | rfl | (simp; done) | (simp [*]; done)), H', ⟨Nat.le_refl _⟩, by repeat (first | exact Drawn0.refl _ | apply Drawn0.step)⟩
  case round =>
    clear H'
    try clear c1
    obtain ⟨x7_1, rfl, HA, HK1, ⟨m1, rfl⟩⟩ := hrel
    cases gk with
    | zero => exact absurd HA.out (by simp [impl_onlyNameBytes.l0])
    | succ k1 =>
      have H := HA.out
      clear HA
      simp only [impl_onlyNameBytes.l0] at H
      by_cases c2 : x7_1 < (a0.size : Int)
      · rw [if_pos c2] at H
        have c2b0 : decide (x7_1 < (a0.size : Int)) = true := decide_eq_true c2
        clear c2
        by_cases c3 : 0 ≤ x7_1
        · rw [if_pos c3] at H
          have c3b0 : decide (0 ≤ x7_1) = true := decide_eq_true c3
          clear c3
          by_cases c4 : x7_1 < (a0.size : Int)
          · rw [if_pos c4] at H
            have c4b0 : decide (x7_1 < (a0.size : Int)) = true := decide_eq_true c4
            clear c4
            by_cases c6 : (bt a0 x7_1) < 97
            · rw [if_pos c6] at H
              have c6b0 : decide ((bt a0 x7_1) < 97) = true := decide_eq_true c6
              clear c6
              by_cases c7 : (bt a0 x7_1) < 48
              · rw [if_pos c7] at H
                have c7b0 : decide ((bt a0 x7_1) < 48) = true := decide_eq_true c7
                clear c7
                obtain rfl := Option.some.inj H
                have p5 : 0 ≤ (x7_1 : Int) := of_decide_eq_true (by first | (with_reducible assumption) | assumption)
                have q5 : x7_1 < (a0.size : Int) := of_decide_eq_true (by first | (with_reducible assumption) | assumption)
                have hx5 := bt_at a0 x7_1
                replace p5 := eq_true p5
                replace q5 := eq_true q5
                go_wp2
                go_ret
                exact ⟨by first | rfl | (simp; done) | (simp [*]; done), by repeat (first | exact Drawn0.refl _ | apply Drawn0.step)⟩
              · rw [if_neg c7] at H
                have c7b0 : decide ((bt a0 x7_1) < 48) = false := decide_eq_false c7
                clear c7
                by_cases c8 : (bt a0 x7_1) > 57
                · rw [if_pos c8] at H
                  have c8b0 : decide (57 < (bt a0 x7_1)) = true := decide_eq_true c8
                  clear c8
                  obtain rfl := Option.some.inj H
                  have p5 : 0 ≤ (x7_1 : Int) := of_decide_eq_true (by first | (with_reducible assumption) | assumption)
                  have q5 : x7_1 < (a0.size : Int) := of_decide_eq_true (by first | (with_reducible assumption) | assumption)
                  have hx5 := bt_at a0 x7_1
                  replace p5 := eq_true p5
                  replace q5 := eq_true q5
                  go_wp2
                  go_ret
                  exact ⟨by first | rfl | (simp; done) | (simp [*]; done), by repeat (first | exact Drawn0.refl _ | apply Drawn0.step)⟩
                · rw [if_neg c8] at H
                  have c8b0 : decide (57 < (bt a0 x7_1)) = false := decide_eq_false c8
                  clear c8
                  have H' := Aside0.mk H
                  clear H
                  have p5 : 0 ≤ (x7_1 : Int) := of_decide_eq_true (by first | (with_reducible assumption) | assumption)
                  have q5 : x7_1 < (a0.size : Int) := of_decide_eq_true (by first | (with_reducible assumption) | assumption)
                  have hx5 := bt_at a0 x7_1
                  replace p5 := eq_true p5
                  replace q5 := eq_true q5
                  go_wp2
                  go_roundg k1
                  case measure => have := HK1.out; omega
                  case rel => exact ⟨(wrap64 (x7_1 + 1)), (by first | rfl | (simp; done) | (simp [*]; done)), H', ⟨by have := HK1.out; omega⟩, by repeat (first | exact Drawn0.refl _ | apply Drawn0.step)⟩
            · rw [if_neg c6] at H
              have c6b0 : decide ((bt a0 x7_1) < 97) = false := decide_eq_false c6
              clear c6
              by_cases c9 : (bt a0 x7_1) > 122
              · rw [if_pos c9] at H
                have c9b0 : decide (122 < (bt a0 x7_1)) = true := decide_eq_true c9
                clear c9
                by_cases c10 : (bt a0 x7_1) < 48
                · rw [if_pos c10] at H
                  have c10b0 : decide ((bt a0 x7_1) < 48) = true := decide_eq_true c10
                  clear c10
                  obtain rfl := Option.some.inj H
                  have p5 : 0 ≤ (x7_1 : Int) := of_decide_eq_true (by first | (with_reducible assumption) | assumption)
                  have q5 : x7_1 < (a0.size : Int) := of_decide_eq_true (by first | (with_reducible assumption) | assumption)
                  have hx5 := bt_at a0 x7_1
                  replace p5 := eq_true p5
                  replace q5 := eq_true q5
                  go_wp2
                  go_ret
                  exact ⟨by first | rfl | (simp; done) | (simp [*]; done), by repeat (first | exact Drawn0.refl _ | apply Drawn0.step)⟩
                · rw [if_neg c10] at H
                  have c10b0 : decide ((bt a0 x7_1) < 48) = false := decide_eq_false c10
                  clear c10
                  by_cases c11 : (bt a0 x7_1) > 57
                  · rw [if_pos c11] at H
                    have c11b0 : decide (57 < (bt a0 x7_1)) = true := decide_eq_true c11
                    clear c11
                    obtain rfl := Option.some.inj H
                    have p5 : 0 ≤ (x7_1 : Int) := of_decide_eq_true (by first | (with_reducible assumption) | assumption)
                    have q5 : x7_1 < (a0.size : Int) := of_decide_eq_true (by first | (with_reducible assumption) | assumption)
                    have hx5 := bt_at a0 x7_1
                    replace p5 := eq_true p5
                    replace q5 := eq_true q5
                    go_wp2
                    go_ret
                    exact ⟨by first | rfl | (simp; done) | (simp [*]; done), by repeat (first | exact Drawn0.refl _ | apply Drawn0.step)⟩
                  · rw [if_neg c11] at H
                    have c11b0 : decide (57 < (bt a0 x7_1)) = false := decide_eq_false c11
                    clear c11
                    have H' := Aside0.mk H
                    clear H
                    have p5 : 0 ≤ (x7_1 : Int) := of_decide_eq_true (by first | (with_reducible assumption) | assumption)
                    have q5 : x7_1 < (a0.size : Int) := of_decide_eq_true (by first | (with_reducible assumption) | assumption)
                    have hx5 := bt_at a0 x7_1
                    replace p5 := eq_true p5
                    replace q5 := eq_true q5
                    go_wp2
                    go_roundg k1
                    case measure => have := HK1.out; omega
                    case rel => exact ⟨(wrap64 (x7_1 + 1)), (by first | rfl | (simp; done) | (simp [*]; done)), H', ⟨by have := HK1.out; omega⟩, by repeat (first | exact Drawn0.refl _ | apply Drawn0.step)⟩
              · rw [if_neg c9] at H
                have c9b0 : decide (122 < (bt a0 x7_1)) = false := decide_eq_false c9
                clear c9
                have H' := Aside0.mk H
                clear H
                have p5 : 0 ≤ (x7_1 : Int) := of_decide_eq_true (by first | (with_reducible assumption) | assumption)
                have q5 : x7_1 < (a0.size : Int) := of_decide_eq_true (by first | (with_reducible assumption) | assumption)
                have hx5 := bt_at a0 x7_1
                replace p5 := eq_true p5
                replace q5 := eq_true q5
                go_wp2
                go_roundg k1
                case measure => have := HK1.out; omega
                case rel => exact ⟨(wrap64 (x7_1 + 1)), (by first | rfl | (simp; done) | (simp [*]; done)), H', ⟨by have := HK1.out; omega⟩, by repeat (first | exact Drawn0.refl _ | apply Drawn0.step)⟩
          · rw [if_neg c4] at H
            exact absurd H (by simp)
        · rw [if_neg c3] at H
          exact absurd H (by simp)
      · rw [if_neg c2] at H
        have c2b0 : decide (x7_1 < (a0.size : Int)) = false := decide_eq_false c2
        clear c2
        obtain rfl := Option.some.inj H
        go_wp2
        go_ret
        exact ⟨by first | rfl | (simp; done) | (simp [*]; done), by repeat (first | exact Drawn0.refl _ | apply Drawn0.step)⟩

def impl_IsName.f (k : Nat) (a0 : ByteArray) : Option (Bool) := if (a0.size : Int) < 1 then (some false) else (if (a0.size : Int) > 10 then (some false) else (if 0 < (a0.size : Int) then (if (bt a0 0) < 97 then (some false) else (if (bt a0 0) > 122 then (some false) else ((impl_onlyNameBytes.f k a0).bind fun t101 => (some t101)))) else (none)))
set_option maxHeartbeats 8000000 in
set_option maxRecDepth 100000 in
theorem impl_IsName.calls (k : Nat) (a0 : ByteArray) (r : Bool) (w : World) (h : impl_IsName.f k a0 = some r) :
    Calls Try.prog 108 #[.string a0] w fun e w' => e = .returned (.bool r) ∧ Drawn0 w w' := by
  have H : (if (a0.size : Int) < 1 then (some false) else (if (a0.size : Int) > 10 then (some false) else (if 0 < (a0.size : Int) then (if (bt a0 0) < 97 then (some false) else (if (bt a0 0) > 122 then (some false) else ((impl_onlyNameBytes.f k a0).bind fun t101 => (some t101)))) else (none)))) = some r := h
  clear h
  by_cases c2 : (a0.size : Int) < 1
  · rw [if_pos c2] at H
    have c2b0 : decide ((a0.size : Int) < 1) = true := decide_eq_true c2
    have c2b1 : decide (a0.size < 1) = true := decide_eq_true (by omega)
    clear c2
    obtain rfl := Option.some.inj H
    go_enter Try.func108, Try.ntmps108
    go_wp2
    go_ret
    exact ⟨by first | rfl | (simp; done) | (simp [*]; done), by repeat (first | exact Drawn0.refl _ | apply Drawn0.step)⟩
  · rw [if_neg c2] at H
    have c2b0 : decide ((a0.size : Int) < 1) = false := decide_eq_false c2
    have c2b1 : decide (a0.size < 1) = false := decide_eq_false (by omega)
    clear c2
    by_cases c3 : (a0.size : Int) > 10
    · rw [if_pos c3] at H
      have c3b0 : decide (10 < (a0.size : Int)) = true := decide_eq_true c3
      have c3b1 : decide (10 < a0.size) = true := decide_eq_true (by omega)
      clear c3
      obtain rfl := Option.some.inj H
      go_enter Try.func108, Try.ntmps108
      go_wp2
      go_ret
      exact ⟨by first | rfl | (simp; done) | (simp [*]; done), by repeat (first | exact Drawn0.refl _ | apply Drawn0.step)⟩
    · rw [if_neg c3] at H
      have c3b0 : decide (10 < (a0.size : Int)) = false := decide_eq_false c3
      have c3b1 : decide (10 < a0.size) = false := decide_eq_false (by omega)
      clear c3
      by_cases c4 : 0 < (a0.size : Int)
      · rw [if_pos c4] at H
        have c4b0 : decide (0 < (a0.size : Int)) = true := decide_eq_true c4
        have c4b1 : decide (0 < a0.size) = true := decide_eq_true (by omega)
        clear c4
        by_cases c6 : (bt a0 0) < 97
        · rw [if_pos c6] at H
          have c6b0 : decide ((bt a0 0) < 97) = true := decide_eq_true c6
          clear c6
          obtain rfl := Option.some.inj H
          have p5 : 0 ≤ (0 : Int) := (by omega)
          have q5 : 0 < a0.size := (by have : (0 : Int) < (a0.size : Int) := of_decide_eq_true (by first | (with_reducible assumption) | assumption); omega)
          have hx5 : ∀ h : 0 < a0.size, ((a0[0]'h).toNat : Int) = bt a0 0 := bt_at a0 0
          clear p5
          have qi5 : (0 < (a0.size : Int)) = True := eq_true (of_decide_eq_true (by first | (with_reducible assumption) | assumption))
          replace q5 := eq_true q5
          go_enter Try.func108, Try.ntmps108
          go_wp2
          go_ret
          exact ⟨by first | rfl | (simp; done) | (simp [*]; done), by repeat (first | exact Drawn0.refl _ | apply Drawn0.step)⟩
        · rw [if_neg c6] at H
          have c6b0 : decide ((bt a0 0) < 97) = false := decide_eq_false c6
          clear c6
          by_cases c8 : (bt a0 0) > 122
          · rw [if_pos c8] at H
            have c8b0 : decide (122 < (bt a0 0)) = true := decide_eq_true c8
            clear c8
            obtain rfl := Option.some.inj H
            have p5 : 0 ≤ (0 : Int) := (by omega)
            have q5 : 0 < a0.size := (by have : (0 : Int) < (a0.size : Int) := of_decide_eq_true (by first | (with_reducible assumption) | assumption); omega)
            have hx5 : ∀ h : 0 < a0.size, ((a0[0]'h).toNat : Int) = bt a0 0 := bt_at a0 0
            clear p5
            have qi5 : (0 < (a0.size : Int)) = True := eq_true (of_decide_eq_true (by first | (with_reducible assumption) | assumption))
            replace q5 := eq_true q5
            have p7 : 0 ≤ (0 : Int) := (by omega)
            have q7 : 0 < a0.size := (by have : (0 : Int) < (a0.size : Int) := of_decide_eq_true (by first | (with_reducible assumption) | assumption); omega)
            have hx7 : ∀ h : 0 < a0.size, ((a0[0]'h).toNat : Int) = bt a0 0 := bt_at a0 0
            clear p7
            have qi7 : (0 < (a0.size : Int)) = True := eq_true (of_decide_eq_true (by first | (with_reducible assumption) | assumption))
            replace q7 := eq_true q7
            go_enter Try.func108, Try.ntmps108
            go_wp2
            go_ret
            exact ⟨by first | rfl | (simp; done) | (simp [*]; done), by repeat (first | exact Drawn0.refl _ | apply Drawn0.step)⟩
          · rw [if_neg c8] at H
            have c8b0 : decide (122 < (bt a0 0)) = false := decide_eq_false c8
            clear c8
            replace H := Option.bind_eq_some_iff.mp H
            obtain ⟨t101, A90, H⟩ := H
            replace H : (some t101) = some r := H
            have A9 := Aside0.mk A90
            clear A90
            obtain rfl := Option.some.inj H
            have p5 : 0 ≤ (0 : Int) := (by omega)
            have q5 : 0 < a0.size := (by have : (0 : Int) < (a0.size : Int) := of_decide_eq_true (by first | (with_reducible assumption) | assumption); omega)
            have hx5 : ∀ h : 0 < a0.size, ((a0[0]'h).toNat : Int) = bt a0 0 := bt_at a0 0
            clear p5
            have qi5 : (0 < (a0.size : Int)) = True := eq_true (of_decide_eq_true (by first | (with_reducible assumption) | assumption))
            replace q5 := eq_true q5
            have p7 : 0 ≤ (0 : Int) := (by omega)
            have q7 : 0 < a0.size := (by have : (0 : Int) < (a0.size : Int) := of_decide_eq_true (by first | (with_reducible assumption) | assumption); omega)
            have hx7 : ∀ h : 0 < a0.size, ((a0[0]'h).toNat : Int) = bt a0 0 := bt_at a0 0
            clear p7
            have qi7 : (0 < (a0.size : Int)) = True := eq_true (of_decide_eq_true (by first | (with_reducible assumption) | assumption))
            replace q7 := eq_true q7
            go_enter Try.func108, Try.ntmps108
            go_wp2_with (first | ((with_reducible refine gate_callee (f := 140) rfl ?_); refine goesL_ (some 22) rfl rfl Try.func140 (by kernel_rfl) rfl #[.string a0] rfl (by (try simp only [List.map_toArray, List.map_cons, List.map_nil]); first | done | rfl | (simp only [List.length_drop, List.length_take]; rfl)) ?_; (with_reducible refine (impl_onlyNameBytes.calls k a0 t101 _ A9.out).mono ?_); rintro e w' ⟨rfl, ⟨nd, rfl⟩⟩; refine ⟨_, rfl, ?_⟩))
            go_ret
            exact ⟨by first | rfl | (simp; done) | (simp [*]; done), by repeat (first | exact Drawn0.refl _ | apply Drawn0.step)⟩
      · rw [if_neg c4] at H
        exact absurd H (by simp)

def impl_Setting_valid.f (k : Nat) (a0_0 : ByteArray) (a0_1 : Int) : Option (Bool) := (impl_IsName.f k a0_0).bind fun t102 => (if t102 = true then ((impl_within.f a0_1 0 1000).bind fun t103 => (some t103)) else (some false))
set_option maxHeartbeats 8000000 in
set_option maxRecDepth 100000 in
theorem impl_Setting_valid.calls (k : Nat) (a0_0 : ByteArray) (a0_1 : Int) (r : Bool) (w : World) (h : impl_Setting_valid.f k a0_0 a0_1 = some r) :
    Calls Try.prog 56 #[.agg #[.string a0_0, .int .i64 a0_1]] w fun e w' => e = .returned (.bool r) ∧ Below w.heap.size w w' := by
  have hu80 := Try.underlying80
  have HB := Aside0.mk (Below.refl w.heap.size w)
  have H : ((impl_IsName.f k a0_0).bind fun t102 => (if t102 = true then ((impl_within.f a0_1 0 1000).bind fun t103 => (some t103)) else (some false))) = some r := h
  clear h
  replace H := Option.bind_eq_some_iff.mp H
  obtain ⟨t102, A20, H⟩ := H
  replace H : (if t102 = true then ((impl_within.f a0_1 0 1000).bind fun t103 => (some t103)) else (some false)) = some r := H
  have A2 := Aside0.mk A20
  clear A20
  by_cases c3 : t102 = true
  · subst c3
    have H1 : ((impl_within.f a0_1 0 1000).bind fun t103 => (some t103)) = some r := by rw [if_pos rfl] at H; exact H
    clear H
    have H := H1
    clear H1
    replace H := Option.bind_eq_some_iff.mp H
    obtain ⟨t103, A40, H⟩ := H
    replace H : (some t103) = some r := H
    have A4 := Aside0.mk A40
    clear A40
    obtain rfl := Option.some.inj H
    go_enter Try.func56, Try.ntmps56
    go_wp2_with (first | ((with_reducible refine gate_dst (N := 1) rfl ?_); refine box_event ?hg (N := 1) ?hd (cs := #[.string a0_0, .int .i64 a0_1]) (t := 80) ?hr ?_; (case hd => rfl); (case hg => rfl); (case hr => first | (go_simp; done) | (go_simp; rfl)); intro gb101 hg w5 hbox hb; have n0_ := Aside0.mk (below_step (by repeat (first | (with_reducible first | exact HB.out | apply below_alloc | apply pw_below_drewN | apply below_drew1) | exact HB.out)) hb); have n1_ := Aside0.mk (hbox); have n2_ := Aside0.mk ((by rw [hg]; exact (below_size (by repeat (first | (with_reducible first | exact HB.out | apply below_alloc | apply pw_below_drewN | apply below_drew1) | exact HB.out))) : w.heap.size ≤ gb101)); have n3_ := Aside0.mk ((by rw [hg]; exact (below_size (by repeat (first | (with_reducible first | exact HB.out | apply below_alloc | apply pw_below_drewN | apply below_drew1) | exact HB.out))) : w.heap.size ≤ gb101)); clear HB; have HB := n0_; have BK101 := n1_; have GW101 := n2_; have GE101 := n3_; clear n0_ n1_ n2_ n3_; clear hb hbox hg; have hcz6_0 : w5.cell? ⟨gb101, 0, none⟩ = some (.string a0_0) := (blk_cell BK101.out 0).trans rfl; have hcz6_1 : w5.cell? ⟨gb101, 1, none⟩ = some (.int .i64 a0_1) := (blk_cell BK101.out 1).trans rfl; have hfz6_0 := blk_frozen BK101.out 0; have hfz6_1 := blk_frozen BK101.out 1) | ((with_reducible refine gate_callee (f := 108) rfl ?_); refine goesL_ (some 5) rfl rfl Try.func108 (by kernel_rfl) rfl #[.string a0_0] rfl (by (try simp only [List.map_toArray, List.map_cons, List.map_nil]); first | done | rfl | (simp only [List.length_drop, List.length_take]; rfl)) ?_; (with_reducible refine (impl_IsName.calls k a0_0 true _ A2.out).mono ?_); rintro e w' ⟨rfl, ⟨nd, rfl⟩⟩; refine ⟨_, rfl, ?_⟩) | (go_at_call 96; (with_reducible refine (impl_within.calls a0_1 0 1000 t103 _ A4.out).mono ?_); rintro e w' ⟨rfl, ⟨nd, rfl⟩⟩))
    go_ret
    exact ⟨by first | rfl | (simp [errW_none, errW_some] <;> rfl) | (simp [*, errW_none, errW_some] <;> rfl), by repeat (first | (with_reducible first | exact HB.out | apply below_alloc | apply pw_below_drewN | apply below_drew1 | refine below_set ?_ GE101.out) | exact HB.out)⟩
  · replace c3 := Bool.eq_false_iff.mpr c3
    subst c3
    have H1 : (some false) = some r := by rw [if_neg (show ¬ (false = true) by decide)] at H; exact H
    clear H
    have H := H1
    clear H1
    obtain rfl := Option.some.inj H
    go_enter Try.func56, Try.ntmps56
    go_wp2_with (first | ((with_reducible refine gate_dst (N := 1) rfl ?_); refine box_event ?hg (N := 1) ?hd (cs := #[.string a0_0, .int .i64 a0_1]) (t := 80) ?hr ?_; (case hd => rfl); (case hg => rfl); (case hr => first | (go_simp; done) | (go_simp; rfl)); intro gb101 hg w7 hbox hb; have n0_ := Aside0.mk (below_step (by repeat (first | (with_reducible first | exact HB.out | apply below_alloc | apply pw_below_drewN | apply below_drew1) | exact HB.out)) hb); have n1_ := Aside0.mk (hbox); have n2_ := Aside0.mk ((by rw [hg]; exact (below_size (by repeat (first | (with_reducible first | exact HB.out | apply below_alloc | apply pw_below_drewN | apply below_drew1) | exact HB.out))) : w.heap.size ≤ gb101)); have n3_ := Aside0.mk ((by rw [hg]; exact (below_size (by repeat (first | (with_reducible first | exact HB.out | apply below_alloc | apply pw_below_drewN | apply below_drew1) | exact HB.out))) : w.heap.size ≤ gb101)); clear HB; have HB := n0_; have BK101 := n1_; have GW101 := n2_; have GE101 := n3_; clear n0_ n1_ n2_ n3_; clear hb hbox hg; have hcz8_0 : w7.cell? ⟨gb101, 0, none⟩ = some (.string a0_0) := (blk_cell BK101.out 0).trans rfl; have hcz8_1 : w7.cell? ⟨gb101, 1, none⟩ = some (.int .i64 a0_1) := (blk_cell BK101.out 1).trans rfl; have hfz8_0 := blk_frozen BK101.out 0; have hfz8_1 := blk_frozen BK101.out 1) | ((with_reducible refine gate_callee (f := 108) rfl ?_); refine goesL_ (some 5) rfl rfl Try.func108 (by kernel_rfl) rfl #[.string a0_0] rfl (by (try simp only [List.map_toArray, List.map_cons, List.map_nil]); first | done | rfl | (simp only [List.length_drop, List.length_take]; rfl)) ?_; (with_reducible refine (impl_IsName.calls k a0_0 false _ A2.out).mono ?_); rintro e w' ⟨rfl, ⟨nd, rfl⟩⟩; refine ⟨_, rfl, ?_⟩))
    go_ret
    exact ⟨by first | rfl | (simp [errW_none, errW_some] <;> rfl) | (simp [*, errW_none, errW_some] <;> rfl), by repeat (first | (with_reducible first | exact HB.out | apply below_alloc | apply pw_below_drewN | apply below_drew1 | refine below_set ?_ GE101.out) | exact HB.out)⟩

def impl_ValidState.l0 : Nat → List (S80) → List (S80) → Int → Int → Option (Bool)
  | 0, _, _, _, _ => none
  | k + 1, x0, x8, x9, x10 => if x10 < x9 then (if 0 ≤ x10 then (if x10 < (x8.length : Int) then ((impl_Setting_valid.f k ((rd_T80 x8 x10).f0) ((rd_T80 x8 x10).f1)).bind fun t103 => (if t103 = true then (if x10 > 0 then (if 0 ≤ (wrap64 (x10 - 1)) then (if (wrap64 (x10 - 1)) < (x0.length : Int) then (if ((Op.bytesLess (((rd_T80 x0 (wrap64 (x10 - 1))).f0).toList) (((rd_T80 x8 x10).f0).toList)) = true) then (impl_ValidState.l0 k x0 x8 x9 (wrap64 (x10 + 1))) else (some false)) else (none)) else (none)) else (impl_ValidState.l0 k x0 x8 x9 (wrap64 (x10 + 1)))) else (some false))) else (none)) else (none)) else (some true)
def impl_ValidState.f (k : Nat) (l0 : List (S80)) : Option (Bool) := if (l0.length : Int) > 24 then (some false) else (impl_ValidState.l0 k l0 l0 (l0.length : Int) 0)
def impl_ValidState.T6 : Bool × List (List Nat × List Nat) := (true, [([], []), ([0], [0]), ([1], [1]), ([2, 1], [2]), ([3], [3]), ([4, 3], [3, 4]), ([5, 3, 3], [3, 5]), ([6], [6]), ([7, 6], [6, 7]), ([6], [6]), ([6], [6]), ([10, 6], [6, 10]), ([9, 11, 6], [6, 9, 11]), ([12, 6], [6, 12]), ([13, 6], [6, 13]), ([8, 14, 6], [6, 8, 14]), ([6, 15, 3], [3, 6, 15]), ([3, 16], [3, 16])])
def impl_ValidState.B6 : List Nat := [0, 1, 3, 7, 15, 31, 63, 127, 255, 127, 127, 1151, 3711, 7807, 15999, 32767, 65535, 131071]
theorem impl_ValidState.tab6 : rtab .any (opsOf Try.f57 6) = impl_ValidState.T6 := by kernel_rfl
theorem impl_ValidState.bits6 : waitsOk impl_ValidState.T6.2 impl_ValidState.B6 = true := by kernel_rfl
set_option maxHeartbeats 8000000 in
set_option maxRecDepth 100000 in
theorem impl_ValidState.calls (k : Nat) (A0 : Option Addr) (c0 : Nat) (l0 : List (S80)) (r : Bool) (w : World) (hr0 : Kd.C k80 w A0 l0.length l0) (hc0 : l0.length ≤ c0) (h : impl_ValidState.f k l0 = some r) :
    Calls Try.prog 57 #[.slice A0 l0.length c0] w fun e w' => e = .returned (.bool r) ∧ Below w.heap.size w w' := by
  have hu80 := Try.underlying80
  have HR0 := Aside0.mk hr0
  have HC0 := Aside0.mk hc0
  clear hr0 hc0
  have HB := Aside0.mk (Below.refl w.heap.size w)
  have H : (if (l0.length : Int) > 24 then (some false) else (impl_ValidState.l0 k l0 l0 (l0.length : Int) 0)) = some r := h
  clear h
  by_cases c2 : (l0.length : Int) > 24
  · rw [if_pos c2] at H
    have c2b0 : decide (24 < (l0.length : Int)) = true := decide_eq_true c2
    have c2b1 : decide (24 < l0.length) = true := decide_eq_true (by omega)
    clear c2
    obtain rfl := Option.some.inj H
    go_enter Try.func57, Try.ntmps57
    go_wp2
    go_ret
    exact ⟨by first | rfl | (simp [errW_none, errW_some] <;> rfl) | (simp [*, errW_none, errW_some] <;> rfl), by repeat (first | (with_reducible first | exact HB.out | apply below_alloc | apply pw_below_drewN | apply below_drew1) | exact HB.out)⟩
  · rw [if_neg c2] at H
    have c2b0 : decide (24 < (l0.length : Int)) = false := decide_eq_false c2
    have c2b1 : decide (24 < l0.length) = false := decide_eq_false (by omega)
    clear c2
    have H' := Aside0.mk H
    clear H
    go_enter Try.func57, Try.ntmps57
    go_wp2
    go_loopg [10] k (fun kq v10 w' => ∃ (x10_1 : Int), v10 = .int .i64 x10_1 ∧ Aside0 (impl_ValidState.l0 kq l0 l0 (l0.length : Int) x10_1 = some r) ∧ Aside0 (kq ≤ k) ∧ Aside0 (Below w.heap.size w w'))
    case atStart => exact ⟨(0), (by first | rfl | (simp; done) | (simp [*]; done)), H', ⟨Nat.le_refl _⟩, ⟨by repeat (first | (with_reducible first | exact HB.out | apply below_alloc | apply pw_below_drewN | apply below_drew1) | exact HB.out)⟩⟩
    case round =>
      clear H'
      try clear c2
      try clear c2b0
      try clear c2b1
      try clear p2
      obtain ⟨x10_1, rfl, HA, HK1, HB⟩ := hrel
      cases gk with
      | zero => exact absurd HA.out (by simp [impl_ValidState.l0])
      | succ k1 =>
        have H := HA.out
        clear HA
        simp only [impl_ValidState.l0] at H
        by_cases c3 : x10_1 < (l0.length : Int)
        · rw [if_pos c3] at H
          have c3b0 : decide (x10_1 < (l0.length : Int)) = true := decide_eq_true c3
          clear c3
          by_cases c4 : 0 ≤ x10_1
          · rw [if_pos c4] at H
            have c4b0 : decide (0 ≤ x10_1) = true := decide_eq_true c4
            clear c4
            by_cases c5 : x10_1 < (l0.length : Int)
            · rw [if_pos c5] at H
              have c5b0 : decide (x10_1 < (l0.length : Int)) = true := decide_eq_true c5
              clear c5
              replace H := Option.bind_eq_some_iff.mp H
              obtain ⟨t103, A60, H⟩ := H
              replace H : (if t103 = true then (if x10_1 > 0 then (if 0 ≤ (wrap64 (x10_1 - 1)) then (if (wrap64 (x10_1 - 1)) < (l0.length : Int) then (if ((Op.bytesLess (((rd_T80 l0 (wrap64 (x10_1 - 1))).f0).toList) (((rd_T80 l0 x10_1).f0).toList)) = true) then (impl_ValidState.l0 k1 l0 l0 (l0.length : Int) (wrap64 (x10_1 + 1))) else (some false)) else (none)) else (none)) else (impl_ValidState.l0 k1 l0 l0 (l0.length : Int) (wrap64 (x10_1 + 1)))) else (some false)) = some r := H
              have A6 := Aside0.mk A60
              clear A60
              by_cases c7 : t103 = true
              · subst c7
                have H1 : (if x10_1 > 0 then (if 0 ≤ (wrap64 (x10_1 - 1)) then (if (wrap64 (x10_1 - 1)) < (l0.length : Int) then (if ((Op.bytesLess (((rd_T80 l0 (wrap64 (x10_1 - 1))).f0).toList) (((rd_T80 l0 x10_1).f0).toList)) = true) then (impl_ValidState.l0 k1 l0 l0 (l0.length : Int) (wrap64 (x10_1 + 1))) else (some false)) else (none)) else (none)) else (impl_ValidState.l0 k1 l0 l0 (l0.length : Int) (wrap64 (x10_1 + 1)))) = some r := by rw [if_pos rfl] at H; exact H
                clear H
                have H := H1
                clear H1
                by_cases c8 : x10_1 > 0
                · rw [if_pos c8] at H
                  have c8b0 : decide (0 < x10_1) = true := decide_eq_true c8
                  clear c8
                  obtain ⟨ji9, hji9⟩ : ∃ j_ : Int, (wrap64 (x10_1 - 1)) = j_ := ⟨_, rfl⟩
                  replace H : (if 0 ≤ (ji9) then (if (ji9) < (l0.length : Int) then (if ((Op.bytesLess (((rd_T80 l0 (ji9)).f0).toList) (((rd_T80 l0 x10_1).f0).toList)) = true) then (impl_ValidState.l0 k1 l0 l0 (l0.length : Int) (wrap64 (x10_1 + 1))) else (some false)) else (none)) else (none)) = some r := by first | (rw [hji9] at H; exact H) | (simp only [hji9] at H ⊢; exact H)
                  (try rw [hji9] at A6)
                  have hji9w : (IntKind.i64.wrap (x10_1 - 1)) = ji9 := (i64_w _).trans hji9
                  by_cases c10 : 0 ≤ (ji9)
                  · rw [if_pos c10] at H
                    have c10b0 : decide (0 ≤ (ji9)) = true := decide_eq_true c10
                    clear c10
                    by_cases c11 : (ji9) < (l0.length : Int)
                    · rw [if_pos c11] at H
                      have c11b0 : decide ((ji9) < (l0.length : Int)) = true := decide_eq_true c11
                      clear c11
                      by_cases c12 : ((Op.bytesLess (((rd_T80 l0 (ji9)).f0).toList) (((rd_T80 l0 x10_1).f0).toList)) = true)
                      · rw [if_pos c12] at H
                        have c12b0 : (Op.bytesLess (((rd_T80 l0 (ji9)).f0).toList) (((rd_T80 l0 x10_1).f0).toList)) = true := c12
                        clear c12
                        have H' := Aside0.mk H
                        clear H
                        have p101 : 0 ≤ (x10_1 : Int) := of_decide_eq_true (by first | (with_reducible assumption) | assumption)
                        have q101 : x10_1 < (l0.length : Int) := of_decide_eq_true (by first | (with_reducible assumption) | assumption)
                        obtain ⟨ad101, e101, hx101_0, hx101_1⟩ := at_T80 HR0.out x10_1 p101 q101
                        cases e101
                        replace hx101_0 := (HB.out.cell (World.block_lt_of_cell? w _ hx101_0)).trans hx101_0
                        replace hx101_1 := (HB.out.cell (World.block_lt_of_cell? w _ hx101_1)).trans hx101_1
                        replace p101 := eq_true p101
                        replace q101 := eq_true q101
                        try go_wp2_with (first | ((with_reducible refine gate_dst (N := 4) rfl ?_); refine box_event ?hg (N := 4) ?hd (cs := #[.string (⟨#[]⟩ : ByteArray), .int .i64 0]) (t := 80) ?hr ?_; (case hd => rfl); (case hg => rfl); (case hr => first | (go_simp; done) | (go_simp; rfl)); intro gb102 hg w13 hbox hb; have n0_ := Aside0.mk (below_step (by repeat (first | (with_reducible first | exact HB.out | apply below_alloc | apply pw_below_drewN | apply below_drew1) | exact HB.out)) hb); have n1_ := Aside0.mk (hbox); have n2_ := Aside0.mk ((by rw [hg]; exact (below_size (by repeat (first | (with_reducible first | exact HB.out | apply below_alloc | apply pw_below_drewN | apply below_drew1) | exact HB.out))) : w.heap.size ≤ gb102)); have n3_ := Aside0.mk ((by rw [hg]; exact (below_size (by repeat (first | (with_reducible first | exact HB.out | apply below_alloc | apply pw_below_drewN | apply below_drew1) | exact HB.out))) : w.heap.size ≤ gb102)); clear HB; have HB := n0_; have BK102 := n1_; have GW102 := n2_; have GE102 := n3_; clear n0_ n1_ n2_ n3_; clear hb hbox hg; have hcz14_0 : w13.cell? ⟨gb102, 0, none⟩ = some (.string (⟨#[]⟩ : ByteArray)) := (blk_cell BK102.out 0).trans rfl; have hcz14_1 : w13.cell? ⟨gb102, 1, none⟩ = some (.int .i64 0) := (blk_cell BK102.out 1).trans rfl; have hfz14_0 := blk_frozen BK102.out 0; have hfz14_1 := blk_frozen BK102.out 1))
                        have n0_ : Aside0 (((w13.setCell ⟨gb102, 0, none⟩ (.string ((rd_T80 l0 x10_1).f0))).setCell ⟨gb102, 1, none⟩ (.int .i64 ((rd_T80 l0 x10_1).f1))).heap[gb102]? = some (.cells #[.string ((rd_T80 l0 x10_1).f0), .int .i64 ((rd_T80 l0 x10_1).f1)] 80 (0, 0))) := ⟨by (with_reducible repeat (first | refine blk_drewN ?_ _ | refine blk_drew ?_ | refine blk_alloc ?_ _)); refine blk_put (cs := #[.string ((rd_T80 l0 x10_1).f0), .int .i64 0]) ?_ 1 _ rfl; (with_reducible repeat (first | refine blk_drewN ?_ _ | refine blk_drew ?_ | refine blk_alloc ?_ _)); refine blk_put (cs := #[.string (⟨#[]⟩ : ByteArray), .int .i64 0]) ?_ 0 _ rfl; (with_reducible repeat (first | refine blk_drewN ?_ _ | refine blk_drew ?_ | refine blk_alloc ?_ _)); exact BK102.out⟩
                        have n1_ : Aside0 (Below w.heap.size w ((w13.setCell ⟨gb102, 0, none⟩ (.string ((rd_T80 l0 x10_1).f0))).setCell ⟨gb102, 1, none⟩ (.int .i64 ((rd_T80 l0 x10_1).f1)))) := ⟨by repeat (first | (with_reducible first | exact HB.out | apply below_alloc | apply pw_below_drewN | apply below_drew1 | refine below_set ?_ GE102.out) | exact HB.out)⟩
                        (try clear BK102)
                        (try clear HB)
                        generalize ((w13.setCell ⟨gb102, 0, none⟩ (.string ((rd_T80 l0 x10_1).f0))).setCell ⟨gb102, 1, none⟩ (.int .i64 ((rd_T80 l0 x10_1).f1))) = w15 at n0_ n1_ ⊢
                        have BK102 := n0_
                        have HB := n1_
                        clear n0_ n1_
                        have n0_ := Aside0.mk (blk_drew BK102.out)
                        have n1_ := Aside0.mk (below_drew1 HB.out)
                        clear BK102
                        clear HB
                        have BK102 := n0_
                        have HB := n1_
                        clear n0_ n1_
                        have p104 : 0 ≤ ((ji9) : Int) := of_decide_eq_true (by first | (with_reducible assumption) | assumption)
                        have q104 : (ji9) < (l0.length : Int) := of_decide_eq_true (by first | (with_reducible assumption) | assumption)
                        obtain ⟨ad104, e104, hx104_0, hx104_1⟩ := at_T80 HR0.out (ji9) p104 q104
                        have hw104_1 := hx104_1
                        have hw104_0 := hx104_0
                        obtain rfl : ad101 = ad104 := (by injection e104)
                        replace hx104_0 := (HB.out.cell (World.block_lt_of_cell? w _ hx104_0)).trans hx104_0
                        replace hx104_1 := (HB.out.cell (World.block_lt_of_cell? w _ hx104_1)).trans hx104_1
                        replace p104 := eq_true p104
                        replace q104 := eq_true q104
                        refine start_ (n := 18) (S := fun w' => w'.cell? ⟨gb102, 0, none⟩ = some (.string ((rd_T80 l0 x10_1).f0)) ∧ w'.cell? ⟨gb102, 1, none⟩ = some (.int .i64 ((rd_T80 l0 x10_1).f1)) ∧ w'.cell? (ad101.add (((ji9)).toNat * 2)) = some (.string ((rd_T80 l0 (ji9)).f0)) ∧ w'.cell? ⟨(ad101.add (((ji9)).toNat * 2)).block, (ad101.add (((ji9)).toNat * 2)).off + 1, none⟩ = some (.int .i64 ((rd_T80 l0 (ji9)).f1))) (ds := []) #[false, false, false, false, false, false, false, false, false, false, false, false, false, false, false, false, false, false] (by kernel_rfl) rfl rfl ⟨(blk_cell BK102.out 0).trans rfl, (blk_cell BK102.out 1).trans rfl, ((HB.out.cell (World.block_lt_of_cell? w _ hw104_0)).trans hw104_0), ((HB.out.cell (World.block_lt_of_cell? w _ hw104_1)).trans hw104_1)⟩ (fun hHeld => ?_); refine with_tabW impl_ValidState.tab6 impl_ValidState.bits6 (fun HT_ HW_ => ?_)
                        generalize w15.drew = w16 at BK102 HB hx104_0 hx104_1 hHeld ⊢
                        refine take_ (i := 0) (N := some 15) (v := ?_) (a' := ?_) #[true, false, false, false, false, false, false, false, false, false, false, false, false, false, false, false, false, false] rfl rfl (take_ofW HT_.out HW_.out (by kernel_rfl)) (fun _ _ _ h => h) (Or.inl ⟨by rfl, ?_⟩) hHeld ?_ ?_
                        rotate_left
                        · rintro w' ⟨s0, s1, s2, s3⟩
                          go_simp
                          with_reducible rfl
                        rotate_left
                        · simp only [Act.put, List.setIfInBounds_toArray, List.set_cons_zero, List.set_cons_succ, i64_w, i32_w]
                          rfl
                        refine one_ (i := 1) (N := some 16) #[true, true, false, false, false, false, false, false, false, false, false, false, false, false, false, false, false, false] rfl rfl (one_of HT_.out (by kernel_rfl)) (by decide) (fun K hK => ?_)
                        refine goes_ Try.func56 (by kernel_rfl) rfl #[.agg #[.string ((rd_T80 l0 x10_1).f0), .int .i64 ((rd_T80 l0 x10_1).f1)]] (by rfl) rfl rfl (by (try simp only [List.map_toArray, List.map_cons, List.map_nil]); first | done | rfl | (simp only [List.length_drop, List.length_take]; rfl)) ?_
                        with_reducible refine (impl_Setting_valid.calls k1 ((rd_T80 l0 x10_1).f0) ((rd_T80 l0 x10_1).f1) true _ A6.out).mono ?_
                        rintro e w17 ⟨rfl, hb⟩
                        refine ⟨_, rfl, ?_⟩
                        have n0_ := Aside0.mk (blk_below (g := gb102) (o := .cells #[.string ((rd_T80 l0 x10_1).f0), .int .i64 ((rd_T80 l0 x10_1).f1)] 80 (0, 0)) (by (with_reducible repeat (first | refine blk_drewN ?_ _ | refine blk_drew ?_ | refine blk_alloc ?_ _)); exact BK102.out) hb)
                        have n1_ := Aside0.mk (below_step (by repeat (first | (with_reducible first | exact HB.out | apply below_alloc | apply pw_below_drewN | apply below_drew1 | refine below_set ?_ GE102.out) | exact HB.out)) hb)
                        clear BK102
                        clear HB
                        have BK102 := n0_
                        have HB := n1_
                        clear n0_ n1_
                        (try clear hb)
                        (try clear hb2)
                        (try clear hk)
                        (try clear hi)
                        refine hK.out _ _ ⟨(blk_cell BK102.out 0).trans rfl, (blk_cell BK102.out 1).trans rfl, ((HB.out.cell (World.block_lt_of_cell? w _ hw104_0)).trans hw104_0), ((HB.out.cell (World.block_lt_of_cell? w _ hw104_1)).trans hw104_1)⟩ (fun hHeld => ?_)
                        clear hK K
                        refine norm_ (a' := ?_) ?_ ?_
                        rotate_left
                        · show Act.put _ (some 16) _ = _
                          simp only [Act.put, List.setIfInBounds_toArray, List.set_cons_zero, List.set_cons_succ, i64_w, i32_w]
                          rfl
                        refine pure_ (i := 2) (N := some 17) (v := ?_) (a' := ?_) #[true, true, true, false, false, false, false, false, false, false, false, false, false, false, false, false, false, false] rfl rfl (any_of HT_.out (by kernel_rfl)) (fun _ _ _ h => h) (Or.inl ⟨by rfl, ?_⟩) ?_ ?_
                        rotate_left
                        · intro w'
                          go_simp
                          with_reducible rfl
                        rotate_left
                        · simp only [Act.put, List.setIfInBounds_toArray, List.set_cons_zero, List.set_cons_succ, i64_w, i32_w]
                          rfl
                        refine pure_ (i := 3) (N := some 18) (v := ?_) (a' := ?_) #[true, true, true, true, false, false, false, false, false, false, false, false, false, false, false, false, false, false] rfl rfl (any_of HT_.out (by kernel_rfl)) (fun _ _ _ h => h) (Or.inl ⟨by rfl, ?_⟩) ?_ ?_
                        rotate_left
                        · intro w'
                          go_simp
                          with_reducible rfl
                        rotate_left
                        · simp only [Act.put, List.setIfInBounds_toArray, List.set_cons_zero, List.set_cons_succ, i64_w, i32_w]
                          rfl
                        refine pure_ (i := 4) (N := some 19) (v := ?_) (a' := ?_) #[true, true, true, true, true, false, false, false, false, false, false, false, false, false, false, false, false, false] rfl rfl (any_of HT_.out (by kernel_rfl)) (fun _ _ _ h => h) (Or.inl ⟨by rfl, ?_⟩) ?_ ?_
                        rotate_left
                        · intro w'
                          go_simp
                          with_reducible rfl
                        rotate_left
                        · simp only [Act.put, List.setIfInBounds_toArray, List.set_cons_zero, List.set_cons_succ, i64_w, i32_w]
                          rfl
                        refine pure_ (i := 5) (N := some 20) (v := ?_) (a' := ?_) #[true, true, true, true, true, true, false, false, false, false, false, false, false, false, false, false, false, false] rfl rfl (any_of HT_.out (by kernel_rfl)) (fun _ _ _ h => h) (Or.inl ⟨by rfl, ?_⟩) ?_ ?_
                        rotate_left
                        · intro w'
                          go_simp
                          with_reducible rfl
                        rotate_left
                        · simp only [Act.put, List.setIfInBounds_toArray, List.set_cons_zero, List.set_cons_succ, i64_w, i32_w]
                          rfl
                        refine pure_ (i := 6) (N := some 21) (v := ?_) (a' := ?_) #[true, true, true, true, true, true, true, false, false, false, false, false, false, false, false, false, false, false] rfl rfl (any_of HT_.out (by kernel_rfl)) (fun _ _ _ h => h) (Or.inl ⟨by rfl, ?_⟩) ?_ ?_
                        rotate_left
                        · intro w'
                          go_simp
                          with_reducible rfl
                        rotate_left
                        · simp only [Act.put, List.setIfInBounds_toArray, List.set_cons_zero, List.set_cons_succ, i64_w, i32_w]
                          rfl
                        refine pure_ (i := 7) (N := some 22) (v := ?_) (a' := ?_) #[true, true, true, true, true, true, true, true, false, false, false, false, false, false, false, false, false, false] rfl rfl (any_of HT_.out (by kernel_rfl)) (fun _ _ _ h => h) (Or.inl ⟨by rfl, ?_⟩) ?_ ?_
                        rotate_left
                        · intro w'
                          go_simp
                          with_reducible rfl
                        rotate_left
                        · simp only [Act.put, List.setIfInBounds_toArray, List.set_cons_zero, List.set_cons_succ, i64_w, i32_w]
                          rfl
                        refine pure_ (i := 9) (N := some 24) (v := ?_) (a' := ?_) #[true, true, true, true, true, true, true, true, false, true, false, false, false, false, false, false, false, false] rfl rfl (any_of HT_.out (by kernel_rfl)) (fun _ _ _ h => h) (Or.inl ⟨by rfl, ?_⟩) ?_ ?_
                        rotate_left
                        · intro w'
                          go_simp
                          with_reducible rfl
                        rotate_left
                        · simp only [Act.put, List.setIfInBounds_toArray, List.set_cons_zero, List.set_cons_succ, i64_w, i32_w]
                          rfl
                        refine pure_ (i := 10) (N := some 25) (v := ?_) (a' := ?_) #[true, true, true, true, true, true, true, true, false, true, true, false, false, false, false, false, false, false] rfl rfl (any_of HT_.out (by kernel_rfl)) (fun _ _ _ h => h) (Or.inl ⟨by rfl, ?_⟩) ?_ ?_
                        rotate_left
                        · intro w'
                          go_simp
                          with_reducible rfl
                        rotate_left
                        · simp only [Act.put, List.setIfInBounds_toArray, List.set_cons_zero, List.set_cons_succ, i64_w, i32_w]
                          rfl
                        refine pure_ (i := 11) (N := some 26) (v := ?_) (a' := ?_) #[true, true, true, true, true, true, true, true, false, true, true, true, false, false, false, false, false, false] rfl rfl (any_of HT_.out (by kernel_rfl)) (fun _ _ _ h => h) (Or.inl ⟨by rfl, ?_⟩) ?_ ?_
                        rotate_left
                        · intro w'
                          go_simp
                          with_reducible rfl
                        rotate_left
                        · simp only [Act.put, List.setIfInBounds_toArray, List.set_cons_zero, List.set_cons_succ, i64_w, i32_w]
                          rfl
                        refine pure_ (i := 12) (N := some 27) (v := ?_) (a' := ?_) #[true, true, true, true, true, true, true, true, false, true, true, true, true, false, false, false, false, false] rfl rfl (any_of HT_.out (by kernel_rfl)) (fun _ _ _ h => h) (Or.inl ⟨by rfl, ?_⟩) ?_ ?_
                        rotate_left
                        · intro w'
                          go_simp
                          with_reducible rfl
                        rotate_left
                        · simp only [Act.put, List.setIfInBounds_toArray, List.set_cons_zero, List.set_cons_succ, i64_w, i32_w]
                          rfl
                        refine pure_ (i := 13) (N := some 28) (v := ?_) (a' := ?_) #[true, true, true, true, true, true, true, true, false, true, true, true, true, true, false, false, false, false] rfl rfl (any_of HT_.out (by kernel_rfl)) (fun _ _ _ h => h) (Or.inl ⟨by rfl, ?_⟩) ?_ ?_
                        rotate_left
                        · intro w'
                          go_simp
                          with_reducible rfl
                        rotate_left
                        · simp only [Act.put, List.setIfInBounds_toArray, List.set_cons_zero, List.set_cons_succ, i64_w, i32_w]
                          rfl
                        refine take_ (i := 8) (N := some 23) (v := ?_) (a' := ?_) #[true, true, true, true, true, true, true, true, true, true, true, true, true, true, false, false, false, false] rfl rfl (take_ofW HT_.out HW_.out (by kernel_rfl)) (fun _ _ _ h => h) (Or.inl ⟨by rfl, ?_⟩) hHeld ?_ ?_
                        rotate_left
                        · rintro w' ⟨s0, s1, s2, s3⟩
                          go_simp
                          with_reducible rfl
                        rotate_left
                        · simp only [Act.put, List.setIfInBounds_toArray, List.set_cons_zero, List.set_cons_succ, i64_w, i32_w]
                          rfl
                        refine take_ (i := 14) (N := some 29) (v := ?_) (a' := ?_) #[true, true, true, true, true, true, true, true, true, true, true, true, true, true, true, false, false, false] rfl rfl (take_ofW HT_.out HW_.out (by kernel_rfl)) (fun _ _ _ h => h) (Or.inl ⟨by rfl, ?_⟩) hHeld ?_ ?_
                        rotate_left
                        · rintro w' ⟨s0, s1, s2, s3⟩
                          go_simp
                          with_reducible rfl
                        rotate_left
                        · simp only [Act.put, List.setIfInBounds_toArray, List.set_cons_zero, List.set_cons_succ, i64_w, i32_w]
                          rfl
                        refine pure_ (i := 15) (N := some 30) (v := ?_) (a' := ?_) #[true, true, true, true, true, true, true, true, true, true, true, true, true, true, true, true, false, false] rfl rfl (any_of HT_.out (by kernel_rfl)) (fun _ _ _ h => h) (Or.inl ⟨by rfl, ?_⟩) ?_ ?_
                        rotate_left
                        · intro w'
                          go_simp
                          with_reducible rfl
                        rotate_left
                        · simp only [Act.put, List.setIfInBounds_toArray, List.set_cons_zero, List.set_cons_succ, i64_w, i32_w]
                          rfl
                        refine pure_ (i := 16) (N := some 31) (v := ?_) (a' := ?_) #[true, true, true, true, true, true, true, true, true, true, true, true, true, true, true, true, true, false] rfl rfl (any_of HT_.out (by kernel_rfl)) (fun _ _ _ h => h) (Or.inl ⟨by rfl, ?_⟩) ?_ ?_
                        rotate_left
                        · intro w'
                          go_simp
                          with_reducible rfl
                        rotate_left
                        · simp only [Act.put, List.setIfInBounds_toArray, List.set_cons_zero, List.set_cons_succ, i64_w, i32_w]
                          rfl
                        refine pure_ (i := 17) (N := some 32) (v := ?_) (a' := ?_) #[true, true, true, true, true, true, true, true, true, true, true, true, true, true, true, true, true, true] rfl rfl (any_of HT_.out (by kernel_rfl)) (fun _ _ _ h => h) (Or.inl ⟨by rfl, ?_⟩) ?_ ?_
                        rotate_left
                        · intro w'
                          go_simp
                          with_reducible rfl
                        rotate_left
                        · simp only [Act.put, List.setIfInBounds_toArray, List.set_cons_zero, List.set_cons_succ, i64_w, i32_w]
                          rfl
                        refine done_ (done_of HT_.out (by kernel_rfl)) ?_
                        try go_wp2
                        go_roundg k1
                        case measure => have := HK1.out; omega
                        case rel => exact ⟨(wrap64 (x10_1 + 1)), (by first | rfl | (simp; done) | (simp [*]; done)), H', ⟨by have := HK1.out; omega⟩, ⟨by repeat (first | (with_reducible first | exact HB.out | apply below_alloc | apply pw_below_drewN | apply below_drew1 | refine below_set ?_ GE102.out) | exact HB.out)⟩⟩
                      · rw [if_neg c12] at H
                        have c12b0 : (Op.bytesLess (((rd_T80 l0 (ji9)).f0).toList) (((rd_T80 l0 x10_1).f0).toList)) = false := by simpa using c12
                        clear c12
                        obtain rfl := Option.some.inj H
                        have p101 : 0 ≤ (x10_1 : Int) := of_decide_eq_true (by first | (with_reducible assumption) | assumption)
                        have q101 : x10_1 < (l0.length : Int) := of_decide_eq_true (by first | (with_reducible assumption) | assumption)
                        obtain ⟨ad101, e101, hx101_0, hx101_1⟩ := at_T80 HR0.out x10_1 p101 q101
                        cases e101
                        replace hx101_0 := (HB.out.cell (World.block_lt_of_cell? w _ hx101_0)).trans hx101_0
                        replace hx101_1 := (HB.out.cell (World.block_lt_of_cell? w _ hx101_1)).trans hx101_1
                        replace p101 := eq_true p101
                        replace q101 := eq_true q101
                        try go_wp2_with (first | ((with_reducible refine gate_dst (N := 4) rfl ?_); refine box_event ?hg (N := 4) ?hd (cs := #[.string (⟨#[]⟩ : ByteArray), .int .i64 0]) (t := 80) ?hr ?_; (case hd => rfl); (case hg => rfl); (case hr => first | (go_simp; done) | (go_simp; rfl)); intro gb102 hg w18 hbox hb; have n0_ := Aside0.mk (below_step (by repeat (first | (with_reducible first | exact HB.out | apply below_alloc | apply pw_below_drewN | apply below_drew1) | exact HB.out)) hb); have n1_ := Aside0.mk (hbox); have n2_ := Aside0.mk ((by rw [hg]; exact (below_size (by repeat (first | (with_reducible first | exact HB.out | apply below_alloc | apply pw_below_drewN | apply below_drew1) | exact HB.out))) : w.heap.size ≤ gb102)); have n3_ := Aside0.mk ((by rw [hg]; exact (below_size (by repeat (first | (with_reducible first | exact HB.out | apply below_alloc | apply pw_below_drewN | apply below_drew1) | exact HB.out))) : w.heap.size ≤ gb102)); clear HB; have HB := n0_; have BK102 := n1_; have GW102 := n2_; have GE102 := n3_; clear n0_ n1_ n2_ n3_; clear hb hbox hg; have hcz19_0 : w18.cell? ⟨gb102, 0, none⟩ = some (.string (⟨#[]⟩ : ByteArray)) := (blk_cell BK102.out 0).trans rfl; have hcz19_1 : w18.cell? ⟨gb102, 1, none⟩ = some (.int .i64 0) := (blk_cell BK102.out 1).trans rfl; have hfz19_0 := blk_frozen BK102.out 0; have hfz19_1 := blk_frozen BK102.out 1))
                        have n0_ : Aside0 (((w18.setCell ⟨gb102, 0, none⟩ (.string ((rd_T80 l0 x10_1).f0))).setCell ⟨gb102, 1, none⟩ (.int .i64 ((rd_T80 l0 x10_1).f1))).heap[gb102]? = some (.cells #[.string ((rd_T80 l0 x10_1).f0), .int .i64 ((rd_T80 l0 x10_1).f1)] 80 (0, 0))) := ⟨by (with_reducible repeat (first | refine blk_drewN ?_ _ | refine blk_drew ?_ | refine blk_alloc ?_ _)); refine blk_put (cs := #[.string ((rd_T80 l0 x10_1).f0), .int .i64 0]) ?_ 1 _ rfl; (with_reducible repeat (first | refine blk_drewN ?_ _ | refine blk_drew ?_ | refine blk_alloc ?_ _)); refine blk_put (cs := #[.string (⟨#[]⟩ : ByteArray), .int .i64 0]) ?_ 0 _ rfl; (with_reducible repeat (first | refine blk_drewN ?_ _ | refine blk_drew ?_ | refine blk_alloc ?_ _)); exact BK102.out⟩
                        have n1_ : Aside0 (Below w.heap.size w ((w18.setCell ⟨gb102, 0, none⟩ (.string ((rd_T80 l0 x10_1).f0))).setCell ⟨gb102, 1, none⟩ (.int .i64 ((rd_T80 l0 x10_1).f1)))) := ⟨by repeat (first | (with_reducible first | exact HB.out | apply below_alloc | apply pw_below_drewN | apply below_drew1 | refine below_set ?_ GE102.out) | exact HB.out)⟩
                        (try clear BK102)
                        (try clear HB)
                        generalize ((w18.setCell ⟨gb102, 0, none⟩ (.string ((rd_T80 l0 x10_1).f0))).setCell ⟨gb102, 1, none⟩ (.int .i64 ((rd_T80 l0 x10_1).f1))) = w20 at n0_ n1_ ⊢
                        have BK102 := n0_
                        have HB := n1_
                        clear n0_ n1_
                        have n0_ := Aside0.mk (blk_drew BK102.out)
                        have n1_ := Aside0.mk (below_drew1 HB.out)
                        clear BK102
                        clear HB
                        have BK102 := n0_
                        have HB := n1_
                        clear n0_ n1_
                        have p104 : 0 ≤ ((ji9) : Int) := of_decide_eq_true (by first | (with_reducible assumption) | assumption)
                        have q104 : (ji9) < (l0.length : Int) := of_decide_eq_true (by first | (with_reducible assumption) | assumption)
                        obtain ⟨ad104, e104, hx104_0, hx104_1⟩ := at_T80 HR0.out (ji9) p104 q104
                        have hw104_1 := hx104_1
                        have hw104_0 := hx104_0
                        obtain rfl : ad101 = ad104 := (by injection e104)
                        replace hx104_0 := (HB.out.cell (World.block_lt_of_cell? w _ hx104_0)).trans hx104_0
                        replace hx104_1 := (HB.out.cell (World.block_lt_of_cell? w _ hx104_1)).trans hx104_1
                        replace p104 := eq_true p104
                        replace q104 := eq_true q104
                        refine start_ (n := 18) (S := fun w' => w'.cell? ⟨gb102, 0, none⟩ = some (.string ((rd_T80 l0 x10_1).f0)) ∧ w'.cell? ⟨gb102, 1, none⟩ = some (.int .i64 ((rd_T80 l0 x10_1).f1)) ∧ w'.cell? (ad101.add (((ji9)).toNat * 2)) = some (.string ((rd_T80 l0 (ji9)).f0)) ∧ w'.cell? ⟨(ad101.add (((ji9)).toNat * 2)).block, (ad101.add (((ji9)).toNat * 2)).off + 1, none⟩ = some (.int .i64 ((rd_T80 l0 (ji9)).f1))) (ds := []) #[false, false, false, false, false, false, false, false, false, false, false, false, false, false, false, false, false, false] (by kernel_rfl) rfl rfl ⟨(blk_cell BK102.out 0).trans rfl, (blk_cell BK102.out 1).trans rfl, ((HB.out.cell (World.block_lt_of_cell? w _ hw104_0)).trans hw104_0), ((HB.out.cell (World.block_lt_of_cell? w _ hw104_1)).trans hw104_1)⟩ (fun hHeld => ?_); refine with_tabW impl_ValidState.tab6 impl_ValidState.bits6 (fun HT_ HW_ => ?_)
                        generalize w20.drew = w21 at BK102 HB hx104_0 hx104_1 hHeld ⊢
                        refine take_ (i := 0) (N := some 15) (v := ?_) (a' := ?_) #[true, false, false, false, false, false, false, false, false, false, false, false, false, false, false, false, false, false] rfl rfl (take_ofW HT_.out HW_.out (by kernel_rfl)) (fun _ _ _ h => h) (Or.inl ⟨by rfl, ?_⟩) hHeld ?_ ?_
                        rotate_left
                        · rintro w' ⟨s0, s1, s2, s3⟩
                          go_simp
                          with_reducible rfl
                        rotate_left
                        · simp only [Act.put, List.setIfInBounds_toArray, List.set_cons_zero, List.set_cons_succ, i64_w, i32_w]
                          rfl
                        refine one_ (i := 1) (N := some 16) #[true, true, false, false, false, false, false, false, false, false, false, false, false, false, false, false, false, false] rfl rfl (one_of HT_.out (by kernel_rfl)) (by decide) (fun K hK => ?_)
                        refine goes_ Try.func56 (by kernel_rfl) rfl #[.agg #[.string ((rd_T80 l0 x10_1).f0), .int .i64 ((rd_T80 l0 x10_1).f1)]] (by rfl) rfl rfl (by (try simp only [List.map_toArray, List.map_cons, List.map_nil]); first | done | rfl | (simp only [List.length_drop, List.length_take]; rfl)) ?_
                        with_reducible refine (impl_Setting_valid.calls k1 ((rd_T80 l0 x10_1).f0) ((rd_T80 l0 x10_1).f1) true _ A6.out).mono ?_
                        rintro e w22 ⟨rfl, hb⟩
                        refine ⟨_, rfl, ?_⟩
                        have n0_ := Aside0.mk (blk_below (g := gb102) (o := .cells #[.string ((rd_T80 l0 x10_1).f0), .int .i64 ((rd_T80 l0 x10_1).f1)] 80 (0, 0)) (by (with_reducible repeat (first | refine blk_drewN ?_ _ | refine blk_drew ?_ | refine blk_alloc ?_ _)); exact BK102.out) hb)
                        have n1_ := Aside0.mk (below_step (by repeat (first | (with_reducible first | exact HB.out | apply below_alloc | apply pw_below_drewN | apply below_drew1 | refine below_set ?_ GE102.out) | exact HB.out)) hb)
                        clear BK102
                        clear HB
                        have BK102 := n0_
                        have HB := n1_
                        clear n0_ n1_
                        (try clear hb)
                        (try clear hb2)
                        (try clear hk)
                        (try clear hi)
                        refine hK.out _ _ ⟨(blk_cell BK102.out 0).trans rfl, (blk_cell BK102.out 1).trans rfl, ((HB.out.cell (World.block_lt_of_cell? w _ hw104_0)).trans hw104_0), ((HB.out.cell (World.block_lt_of_cell? w _ hw104_1)).trans hw104_1)⟩ (fun hHeld => ?_)
                        clear hK K
                        refine norm_ (a' := ?_) ?_ ?_
                        rotate_left
                        · show Act.put _ (some 16) _ = _
                          simp only [Act.put, List.setIfInBounds_toArray, List.set_cons_zero, List.set_cons_succ, i64_w, i32_w]
                          rfl
                        refine pure_ (i := 2) (N := some 17) (v := ?_) (a' := ?_) #[true, true, true, false, false, false, false, false, false, false, false, false, false, false, false, false, false, false] rfl rfl (any_of HT_.out (by kernel_rfl)) (fun _ _ _ h => h) (Or.inl ⟨by rfl, ?_⟩) ?_ ?_
                        rotate_left
                        · intro w'
                          go_simp
                          with_reducible rfl
                        rotate_left
                        · simp only [Act.put, List.setIfInBounds_toArray, List.set_cons_zero, List.set_cons_succ, i64_w, i32_w]
                          rfl
                        refine pure_ (i := 3) (N := some 18) (v := ?_) (a' := ?_) #[true, true, true, true, false, false, false, false, false, false, false, false, false, false, false, false, false, false] rfl rfl (any_of HT_.out (by kernel_rfl)) (fun _ _ _ h => h) (Or.inl ⟨by rfl, ?_⟩) ?_ ?_
                        rotate_left
                        · intro w'
                          go_simp
                          with_reducible rfl
                        rotate_left
                        · simp only [Act.put, List.setIfInBounds_toArray, List.set_cons_zero, List.set_cons_succ, i64_w, i32_w]
                          rfl
                        refine pure_ (i := 4) (N := some 19) (v := ?_) (a' := ?_) #[true, true, true, true, true, false, false, false, false, false, false, false, false, false, false, false, false, false] rfl rfl (any_of HT_.out (by kernel_rfl)) (fun _ _ _ h => h) (Or.inl ⟨by rfl, ?_⟩) ?_ ?_
                        rotate_left
                        · intro w'
                          go_simp
                          with_reducible rfl
                        rotate_left
                        · simp only [Act.put, List.setIfInBounds_toArray, List.set_cons_zero, List.set_cons_succ, i64_w, i32_w]
                          rfl
                        refine pure_ (i := 5) (N := some 20) (v := ?_) (a' := ?_) #[true, true, true, true, true, true, false, false, false, false, false, false, false, false, false, false, false, false] rfl rfl (any_of HT_.out (by kernel_rfl)) (fun _ _ _ h => h) (Or.inl ⟨by rfl, ?_⟩) ?_ ?_
                        rotate_left
                        · intro w'
                          go_simp
                          with_reducible rfl
                        rotate_left
                        · simp only [Act.put, List.setIfInBounds_toArray, List.set_cons_zero, List.set_cons_succ, i64_w, i32_w]
                          rfl
                        refine pure_ (i := 6) (N := some 21) (v := ?_) (a' := ?_) #[true, true, true, true, true, true, true, false, false, false, false, false, false, false, false, false, false, false] rfl rfl (any_of HT_.out (by kernel_rfl)) (fun _ _ _ h => h) (Or.inl ⟨by rfl, ?_⟩) ?_ ?_
                        rotate_left
                        · intro w'
                          go_simp
                          with_reducible rfl
                        rotate_left
                        · simp only [Act.put, List.setIfInBounds_toArray, List.set_cons_zero, List.set_cons_succ, i64_w, i32_w]
                          rfl
                        refine pure_ (i := 7) (N := some 22) (v := ?_) (a' := ?_) #[true, true, true, true, true, true, true, true, false, false, false, false, false, false, false, false, false, false] rfl rfl (any_of HT_.out (by kernel_rfl)) (fun _ _ _ h => h) (Or.inl ⟨by rfl, ?_⟩) ?_ ?_
                        rotate_left
                        · intro w'
                          go_simp
                          with_reducible rfl
                        rotate_left
                        · simp only [Act.put, List.setIfInBounds_toArray, List.set_cons_zero, List.set_cons_succ, i64_w, i32_w]
                          rfl
                        refine pure_ (i := 9) (N := some 24) (v := ?_) (a' := ?_) #[true, true, true, true, true, true, true, true, false, true, false, false, false, false, false, false, false, false] rfl rfl (any_of HT_.out (by kernel_rfl)) (fun _ _ _ h => h) (Or.inl ⟨by rfl, ?_⟩) ?_ ?_
                        rotate_left
                        · intro w'
                          go_simp
                          with_reducible rfl
                        rotate_left
                        · simp only [Act.put, List.setIfInBounds_toArray, List.set_cons_zero, List.set_cons_succ, i64_w, i32_w]
                          rfl
                        refine pure_ (i := 10) (N := some 25) (v := ?_) (a' := ?_) #[true, true, true, true, true, true, true, true, false, true, true, false, false, false, false, false, false, false] rfl rfl (any_of HT_.out (by kernel_rfl)) (fun _ _ _ h => h) (Or.inl ⟨by rfl, ?_⟩) ?_ ?_
                        rotate_left
                        · intro w'
                          go_simp
                          with_reducible rfl
                        rotate_left
                        · simp only [Act.put, List.setIfInBounds_toArray, List.set_cons_zero, List.set_cons_succ, i64_w, i32_w]
                          rfl
                        refine pure_ (i := 11) (N := some 26) (v := ?_) (a' := ?_) #[true, true, true, true, true, true, true, true, false, true, true, true, false, false, false, false, false, false] rfl rfl (any_of HT_.out (by kernel_rfl)) (fun _ _ _ h => h) (Or.inl ⟨by rfl, ?_⟩) ?_ ?_
                        rotate_left
                        · intro w'
                          go_simp
                          with_reducible rfl
                        rotate_left
                        · simp only [Act.put, List.setIfInBounds_toArray, List.set_cons_zero, List.set_cons_succ, i64_w, i32_w]
                          rfl
                        refine pure_ (i := 12) (N := some 27) (v := ?_) (a' := ?_) #[true, true, true, true, true, true, true, true, false, true, true, true, true, false, false, false, false, false] rfl rfl (any_of HT_.out (by kernel_rfl)) (fun _ _ _ h => h) (Or.inl ⟨by rfl, ?_⟩) ?_ ?_
                        rotate_left
                        · intro w'
                          go_simp
                          with_reducible rfl
                        rotate_left
                        · simp only [Act.put, List.setIfInBounds_toArray, List.set_cons_zero, List.set_cons_succ, i64_w, i32_w]
                          rfl
                        refine pure_ (i := 13) (N := some 28) (v := ?_) (a' := ?_) #[true, true, true, true, true, true, true, true, false, true, true, true, true, true, false, false, false, false] rfl rfl (any_of HT_.out (by kernel_rfl)) (fun _ _ _ h => h) (Or.inl ⟨by rfl, ?_⟩) ?_ ?_
                        rotate_left
                        · intro w'
                          go_simp
                          with_reducible rfl
                        rotate_left
                        · simp only [Act.put, List.setIfInBounds_toArray, List.set_cons_zero, List.set_cons_succ, i64_w, i32_w]
                          rfl
                        refine take_ (i := 8) (N := some 23) (v := ?_) (a' := ?_) #[true, true, true, true, true, true, true, true, true, true, true, true, true, true, false, false, false, false] rfl rfl (take_ofW HT_.out HW_.out (by kernel_rfl)) (fun _ _ _ h => h) (Or.inl ⟨by rfl, ?_⟩) hHeld ?_ ?_
                        rotate_left
                        · rintro w' ⟨s0, s1, s2, s3⟩
                          go_simp
                          with_reducible rfl
                        rotate_left
                        · simp only [Act.put, List.setIfInBounds_toArray, List.set_cons_zero, List.set_cons_succ, i64_w, i32_w]
                          rfl
                        refine take_ (i := 14) (N := some 29) (v := ?_) (a' := ?_) #[true, true, true, true, true, true, true, true, true, true, true, true, true, true, true, false, false, false] rfl rfl (take_ofW HT_.out HW_.out (by kernel_rfl)) (fun _ _ _ h => h) (Or.inl ⟨by rfl, ?_⟩) hHeld ?_ ?_
                        rotate_left
                        · rintro w' ⟨s0, s1, s2, s3⟩
                          go_simp
                          with_reducible rfl
                        rotate_left
                        · simp only [Act.put, List.setIfInBounds_toArray, List.set_cons_zero, List.set_cons_succ, i64_w, i32_w]
                          rfl
                        refine pure_ (i := 15) (N := some 30) (v := ?_) (a' := ?_) #[true, true, true, true, true, true, true, true, true, true, true, true, true, true, true, true, false, false] rfl rfl (any_of HT_.out (by kernel_rfl)) (fun _ _ _ h => h) (Or.inl ⟨by rfl, ?_⟩) ?_ ?_
                        rotate_left
                        · intro w'
                          go_simp
                          with_reducible rfl
                        rotate_left
                        · simp only [Act.put, List.setIfInBounds_toArray, List.set_cons_zero, List.set_cons_succ, i64_w, i32_w]
                          rfl
                        refine pure_ (i := 16) (N := some 31) (v := ?_) (a' := ?_) #[true, true, true, true, true, true, true, true, true, true, true, true, true, true, true, true, true, false] rfl rfl (any_of HT_.out (by kernel_rfl)) (fun _ _ _ h => h) (Or.inl ⟨by rfl, ?_⟩) ?_ ?_
                        rotate_left
                        · intro w'
                          go_simp
                          with_reducible rfl
                        rotate_left
                        · simp only [Act.put, List.setIfInBounds_toArray, List.set_cons_zero, List.set_cons_succ, i64_w, i32_w]
                          rfl
                        refine pure_ (i := 17) (N := some 32) (v := ?_) (a' := ?_) #[true, true, true, true, true, true, true, true, true, true, true, true, true, true, true, true, true, true] rfl rfl (any_of HT_.out (by kernel_rfl)) (fun _ _ _ h => h) (Or.inl ⟨by rfl, ?_⟩) ?_ ?_
                        rotate_left
                        · intro w'
                          go_simp
                          with_reducible rfl
                        rotate_left
                        · simp only [Act.put, List.setIfInBounds_toArray, List.set_cons_zero, List.set_cons_succ, i64_w, i32_w]
                          rfl
                        refine done_ (done_of HT_.out (by kernel_rfl)) ?_
                        try go_wp2
                        go_ret
                        exact ⟨by first | rfl | (simp [errW_none, errW_some] <;> rfl) | (simp only [← hji9]; first | rfl | (simp [errW_none, errW_some] <;> rfl)) | (simp [*, errW_none, errW_some] <;> rfl), by repeat (first | (with_reducible first | exact HB.out | apply below_alloc | apply pw_below_drewN | apply below_drew1 | refine below_set ?_ GE102.out) | exact HB.out)⟩
                    · rw [if_neg c11] at H
                      exact absurd H (by simp)
                  · rw [if_neg c10] at H
                    exact absurd H (by simp)
                · rw [if_neg c8] at H
                  have c8b0 : decide (0 < x10_1) = false := decide_eq_false c8
                  clear c8
                  have H' := Aside0.mk H
                  clear H
                  have p101 : 0 ≤ (x10_1 : Int) := of_decide_eq_true (by first | (with_reducible assumption) | assumption)
                  have q101 : x10_1 < (l0.length : Int) := of_decide_eq_true (by first | (with_reducible assumption) | assumption)
                  obtain ⟨ad101, e101, hx101_0, hx101_1⟩ := at_T80 HR0.out x10_1 p101 q101
                  cases e101
                  replace hx101_0 := (HB.out.cell (World.block_lt_of_cell? w _ hx101_0)).trans hx101_0
                  replace hx101_1 := (HB.out.cell (World.block_lt_of_cell? w _ hx101_1)).trans hx101_1
                  replace p101 := eq_true p101
                  replace q101 := eq_true q101
                  try go_wp2_with (first | ((with_reducible refine gate_dst (N := 4) rfl ?_); refine box_event ?hg (N := 4) ?hd (cs := #[.string (⟨#[]⟩ : ByteArray), .int .i64 0]) (t := 80) ?hr ?_; (case hd => rfl); (case hg => rfl); (case hr => first | (go_simp; done) | (go_simp; rfl)); intro gb102 hg w23 hbox hb; have n0_ := Aside0.mk (below_step (by repeat (first | (with_reducible first | exact HB.out | apply below_alloc | apply pw_below_drewN | apply below_drew1) | exact HB.out)) hb); have n1_ := Aside0.mk (hbox); have n2_ := Aside0.mk ((by rw [hg]; exact (below_size (by repeat (first | (with_reducible first | exact HB.out | apply below_alloc | apply pw_below_drewN | apply below_drew1) | exact HB.out))) : w.heap.size ≤ gb102)); have n3_ := Aside0.mk ((by rw [hg]; exact (below_size (by repeat (first | (with_reducible first | exact HB.out | apply below_alloc | apply pw_below_drewN | apply below_drew1) | exact HB.out))) : w.heap.size ≤ gb102)); clear HB; have HB := n0_; have BK102 := n1_; have GW102 := n2_; have GE102 := n3_; clear n0_ n1_ n2_ n3_; clear hb hbox hg; have hcz24_0 : w23.cell? ⟨gb102, 0, none⟩ = some (.string (⟨#[]⟩ : ByteArray)) := (blk_cell BK102.out 0).trans rfl; have hcz24_1 : w23.cell? ⟨gb102, 1, none⟩ = some (.int .i64 0) := (blk_cell BK102.out 1).trans rfl; have hfz24_0 := blk_frozen BK102.out 0; have hfz24_1 := blk_frozen BK102.out 1))
                  have n0_ : Aside0 (((w23.setCell ⟨gb102, 0, none⟩ (.string ((rd_T80 l0 x10_1).f0))).setCell ⟨gb102, 1, none⟩ (.int .i64 ((rd_T80 l0 x10_1).f1))).heap[gb102]? = some (.cells #[.string ((rd_T80 l0 x10_1).f0), .int .i64 ((rd_T80 l0 x10_1).f1)] 80 (0, 0))) := ⟨by (with_reducible repeat (first | refine blk_drewN ?_ _ | refine blk_drew ?_ | refine blk_alloc ?_ _)); refine blk_put (cs := #[.string ((rd_T80 l0 x10_1).f0), .int .i64 0]) ?_ 1 _ rfl; (with_reducible repeat (first | refine blk_drewN ?_ _ | refine blk_drew ?_ | refine blk_alloc ?_ _)); refine blk_put (cs := #[.string (⟨#[]⟩ : ByteArray), .int .i64 0]) ?_ 0 _ rfl; (with_reducible repeat (first | refine blk_drewN ?_ _ | refine blk_drew ?_ | refine blk_alloc ?_ _)); exact BK102.out⟩
                  have n1_ : Aside0 (Below w.heap.size w ((w23.setCell ⟨gb102, 0, none⟩ (.string ((rd_T80 l0 x10_1).f0))).setCell ⟨gb102, 1, none⟩ (.int .i64 ((rd_T80 l0 x10_1).f1)))) := ⟨by repeat (first | (with_reducible first | exact HB.out | apply below_alloc | apply pw_below_drewN | apply below_drew1 | refine below_set ?_ GE102.out) | exact HB.out)⟩
                  (try clear BK102)
                  (try clear HB)
                  generalize ((w23.setCell ⟨gb102, 0, none⟩ (.string ((rd_T80 l0 x10_1).f0))).setCell ⟨gb102, 1, none⟩ (.int .i64 ((rd_T80 l0 x10_1).f1))) = w25 at n0_ n1_ ⊢
                  have BK102 := n0_
                  have HB := n1_
                  clear n0_ n1_
                  have n0_ := Aside0.mk (blk_drew BK102.out)
                  have n1_ := Aside0.mk (below_drew1 HB.out)
                  clear BK102
                  clear HB
                  have BK102 := n0_
                  have HB := n1_
                  clear n0_ n1_
                  refine start_ (n := 18) (S := fun w' => w'.cell? ⟨gb102, 0, none⟩ = some (.string ((rd_T80 l0 x10_1).f0)) ∧ w'.cell? ⟨gb102, 1, none⟩ = some (.int .i64 ((rd_T80 l0 x10_1).f1))) (ds := []) #[false, false, false, false, false, false, false, false, false, false, false, false, false, false, false, false, false, false] (by kernel_rfl) rfl rfl ⟨(blk_cell BK102.out 0).trans rfl, (blk_cell BK102.out 1).trans rfl⟩ (fun hHeld => ?_); refine with_tabW impl_ValidState.tab6 impl_ValidState.bits6 (fun HT_ HW_ => ?_)
                  generalize w25.drew = w26 at BK102 HB hHeld ⊢
                  refine take_ (i := 0) (N := some 15) (v := ?_) (a' := ?_) #[true, false, false, false, false, false, false, false, false, false, false, false, false, false, false, false, false, false] rfl rfl (take_ofW HT_.out HW_.out (by kernel_rfl)) (fun _ _ _ h => h) (Or.inl ⟨by rfl, ?_⟩) hHeld ?_ ?_
                  rotate_left
                  · rintro w' ⟨s0, s1⟩
                    go_simp
                    with_reducible rfl
                  rotate_left
                  · simp only [Act.put, List.setIfInBounds_toArray, List.set_cons_zero, List.set_cons_succ, i64_w, i32_w]
                    rfl
                  refine one_ (i := 1) (N := some 16) #[true, true, false, false, false, false, false, false, false, false, false, false, false, false, false, false, false, false] rfl rfl (one_of HT_.out (by kernel_rfl)) (by decide) (fun K hK => ?_)
                  refine goes_ Try.func56 (by kernel_rfl) rfl #[.agg #[.string ((rd_T80 l0 x10_1).f0), .int .i64 ((rd_T80 l0 x10_1).f1)]] (by rfl) rfl rfl (by (try simp only [List.map_toArray, List.map_cons, List.map_nil]); first | done | rfl | (simp only [List.length_drop, List.length_take]; rfl)) ?_
                  with_reducible refine (impl_Setting_valid.calls k1 ((rd_T80 l0 x10_1).f0) ((rd_T80 l0 x10_1).f1) true _ A6.out).mono ?_
                  rintro e w27 ⟨rfl, hb⟩
                  refine ⟨_, rfl, ?_⟩
                  have n0_ := Aside0.mk (blk_below (g := gb102) (o := .cells #[.string ((rd_T80 l0 x10_1).f0), .int .i64 ((rd_T80 l0 x10_1).f1)] 80 (0, 0)) (by (with_reducible repeat (first | refine blk_drewN ?_ _ | refine blk_drew ?_ | refine blk_alloc ?_ _)); exact BK102.out) hb)
                  have n1_ := Aside0.mk (below_step (by repeat (first | (with_reducible first | exact HB.out | apply below_alloc | apply pw_below_drewN | apply below_drew1 | refine below_set ?_ GE102.out) | exact HB.out)) hb)
                  clear BK102
                  clear HB
                  have BK102 := n0_
                  have HB := n1_
                  clear n0_ n1_
                  (try clear hb)
                  (try clear hb2)
                  (try clear hk)
                  (try clear hi)
                  refine hK.out _ _ ⟨(blk_cell BK102.out 0).trans rfl, (blk_cell BK102.out 1).trans rfl⟩ (fun hHeld => ?_)
                  clear hK K
                  refine norm_ (a' := ?_) ?_ ?_
                  rotate_left
                  · show Act.put _ (some 16) _ = _
                    simp only [Act.put, List.setIfInBounds_toArray, List.set_cons_zero, List.set_cons_succ, i64_w, i32_w]
                    rfl
                  refine pure_ (i := 2) (N := some 17) (v := ?_) (a' := ?_) #[true, true, true, false, false, false, false, false, false, false, false, false, false, false, false, false, false, false] rfl rfl (any_of HT_.out (by kernel_rfl)) (fun _ _ _ h => h) (Or.inl ⟨by rfl, ?_⟩) ?_ ?_
                  rotate_left
                  · intro w'
                    go_simp
                    with_reducible rfl
                  rotate_left
                  · simp only [Act.put, List.setIfInBounds_toArray, List.set_cons_zero, List.set_cons_succ, i64_w, i32_w]
                    rfl
                  refine pure_ (i := 3) (N := some 18) (v := ?_) (a' := ?_) #[true, true, true, true, false, false, false, false, false, false, false, false, false, false, false, false, false, false] rfl rfl (any_of HT_.out (by kernel_rfl)) (fun _ _ _ h => h) (Or.inl ⟨by rfl, ?_⟩) ?_ ?_
                  rotate_left
                  · intro w'
                    go_simp
                    with_reducible rfl
                  rotate_left
                  · simp only [Act.put, List.setIfInBounds_toArray, List.set_cons_zero, List.set_cons_succ, i64_w, i32_w]
                    rfl
                  refine pure_ (i := 4) (N := some 19) (v := ?_) (a' := ?_) #[true, true, true, true, true, false, false, false, false, false, false, false, false, false, false, false, false, false] rfl rfl (any_of HT_.out (by kernel_rfl)) (fun _ _ _ h => h) (Or.inl ⟨by rfl, ?_⟩) ?_ ?_
                  rotate_left
                  · intro w'
                    go_simp
                    with_reducible rfl
                  rotate_left
                  · simp only [Act.put, List.setIfInBounds_toArray, List.set_cons_zero, List.set_cons_succ, i64_w, i32_w]
                    rfl
                  refine pure_ (i := 5) (N := some 20) (v := ?_) (a' := ?_) #[true, true, true, true, true, true, false, false, false, false, false, false, false, false, false, false, false, false] rfl rfl (any_of HT_.out (by kernel_rfl)) (fun _ _ _ h => h) (Or.inl ⟨by rfl, ?_⟩) ?_ ?_
                  rotate_left
                  · intro w'
                    go_simp
                    with_reducible rfl
                  rotate_left
                  · simp only [Act.put, List.setIfInBounds_toArray, List.set_cons_zero, List.set_cons_succ, i64_w, i32_w]
                    rfl
                  refine pure_ (i := 6) (N := some 21) (v := ?_) (a' := ?_) #[true, true, true, true, true, true, true, false, false, false, false, false, false, false, false, false, false, false] rfl rfl (any_of HT_.out (by kernel_rfl)) (fun _ _ _ h => h) (Or.inl ⟨by rfl, ?_⟩) ?_ ?_
                  rotate_left
                  · intro w'
                    go_simp
                    with_reducible rfl
                  rotate_left
                  · simp only [Act.put, List.setIfInBounds_toArray, List.set_cons_zero, List.set_cons_succ, i64_w, i32_w]
                    rfl
                  refine pure_ (i := 7) (N := some 22) (v := undef) (a' := ?_) #[true, true, true, true, true, true, true, true, false, false, false, false, false, false, false, false, false, false] rfl rfl (any_of HT_.out (by kernel_rfl)) (fun _ _ _ h => h) (Or.inr ⟨by rfl, rfl⟩) ?_ ?_
                  rotate_left
                  · simp only [Act.put, List.setIfInBounds_toArray, List.set_cons_zero, List.set_cons_succ, i64_w, i32_w]
                    rfl
                  refine pure_ (i := 8) (N := some 23) (v := undef) (a' := ?_) #[true, true, true, true, true, true, true, true, true, false, false, false, false, false, false, false, false, false] rfl rfl (any_of HT_.out (by kernel_rfl)) (fun _ _ _ h => h) (Or.inr ⟨by rfl, rfl⟩) ?_ ?_
                  rotate_left
                  · simp only [Act.put, List.setIfInBounds_toArray, List.set_cons_zero, List.set_cons_succ, i64_w, i32_w]
                    rfl
                  refine pure_ (i := 9) (N := some 24) (v := undef) (a' := ?_) #[true, true, true, true, true, true, true, true, true, true, false, false, false, false, false, false, false, false] rfl rfl (any_of HT_.out (by kernel_rfl)) (fun _ _ _ h => h) (Or.inr ⟨by rfl, rfl⟩) ?_ ?_
                  rotate_left
                  · simp only [Act.put, List.setIfInBounds_toArray, List.set_cons_zero, List.set_cons_succ, i64_w, i32_w]
                    rfl
                  refine pure_ (i := 10) (N := some 25) (v := undef) (a' := ?_) #[true, true, true, true, true, true, true, true, true, true, true, false, false, false, false, false, false, false] rfl rfl (any_of HT_.out (by kernel_rfl)) (fun _ _ _ h => h) (Or.inr ⟨by rfl, rfl⟩) ?_ ?_
                  rotate_left
                  · simp only [Act.put, List.setIfInBounds_toArray, List.set_cons_zero, List.set_cons_succ, i64_w, i32_w]
                    rfl
                  refine pure_ (i := 11) (N := some 26) (v := undef) (a' := ?_) #[true, true, true, true, true, true, true, true, true, true, true, true, false, false, false, false, false, false] rfl rfl (any_of HT_.out (by kernel_rfl)) (fun _ _ _ h => h) (Or.inr ⟨by rfl, rfl⟩) ?_ ?_
                  rotate_left
                  · simp only [Act.put, List.setIfInBounds_toArray, List.set_cons_zero, List.set_cons_succ, i64_w, i32_w]
                    rfl
                  refine pure_ (i := 12) (N := some 27) (v := undef) (a' := ?_) #[true, true, true, true, true, true, true, true, true, true, true, true, true, false, false, false, false, false] rfl rfl (any_of HT_.out (by kernel_rfl)) (fun _ _ _ h => h) (Or.inr ⟨by rfl, rfl⟩) ?_ ?_
                  rotate_left
                  · simp only [Act.put, List.setIfInBounds_toArray, List.set_cons_zero, List.set_cons_succ, i64_w, i32_w]
                    rfl
                  refine pure_ (i := 13) (N := some 28) (v := undef) (a' := ?_) #[true, true, true, true, true, true, true, true, true, true, true, true, true, true, false, false, false, false] rfl rfl (any_of HT_.out (by kernel_rfl)) (fun _ _ _ h => h) (Or.inr ⟨by rfl, rfl⟩) ?_ ?_
                  rotate_left
                  · simp only [Act.put, List.setIfInBounds_toArray, List.set_cons_zero, List.set_cons_succ, i64_w, i32_w]
                    rfl
                  refine pure_ (i := 14) (N := some 29) (v := undef) (a' := ?_) #[true, true, true, true, true, true, true, true, true, true, true, true, true, true, true, false, false, false] rfl rfl (any_of HT_.out (by kernel_rfl)) (fun _ _ _ h => h) (Or.inr ⟨by rfl, rfl⟩) ?_ ?_
                  rotate_left
                  · simp only [Act.put, List.setIfInBounds_toArray, List.set_cons_zero, List.set_cons_succ, i64_w, i32_w]
                    rfl
                  refine pure_ (i := 15) (N := some 30) (v := undef) (a' := ?_) #[true, true, true, true, true, true, true, true, true, true, true, true, true, true, true, true, false, false] rfl rfl (any_of HT_.out (by kernel_rfl)) (fun _ _ _ h => h) (Or.inr ⟨by rfl, rfl⟩) ?_ ?_
                  rotate_left
                  · simp only [Act.put, List.setIfInBounds_toArray, List.set_cons_zero, List.set_cons_succ, i64_w, i32_w]
                    rfl
                  refine pure_ (i := 16) (N := some 31) (v := ?_) (a' := ?_) #[true, true, true, true, true, true, true, true, true, true, true, true, true, true, true, true, true, false] rfl rfl (any_of HT_.out (by kernel_rfl)) (fun _ _ _ h => h) (Or.inl ⟨by rfl, ?_⟩) ?_ ?_
                  rotate_left
                  · intro w'
                    go_simp
                    with_reducible rfl
                  rotate_left
                  · simp only [Act.put, List.setIfInBounds_toArray, List.set_cons_zero, List.set_cons_succ, i64_w, i32_w]
                    rfl
                  refine pure_ (i := 17) (N := some 32) (v := ?_) (a' := ?_) #[true, true, true, true, true, true, true, true, true, true, true, true, true, true, true, true, true, true] rfl rfl (any_of HT_.out (by kernel_rfl)) (fun _ _ _ h => h) (Or.inl ⟨by rfl, ?_⟩) ?_ ?_
                  rotate_left
                  · intro w'
                    go_simp
                    with_reducible rfl
                  rotate_left
                  · simp only [Act.put, List.setIfInBounds_toArray, List.set_cons_zero, List.set_cons_succ, i64_w, i32_w]
                    rfl
                  refine done_ (done_of HT_.out (by kernel_rfl)) ?_
                  try go_wp2
                  go_roundg k1
                  case measure => have := HK1.out; omega
                  case rel => exact ⟨(wrap64 (x10_1 + 1)), (by first | rfl | (simp; done) | (simp [*]; done)), H', ⟨by have := HK1.out; omega⟩, ⟨by repeat (first | (with_reducible first | exact HB.out | apply below_alloc | apply pw_below_drewN | apply below_drew1 | refine below_set ?_ GE102.out) | exact HB.out)⟩⟩
              · replace c7 := Bool.eq_false_iff.mpr c7
                subst c7
                have H1 : (some false) = some r := by rw [if_neg (show ¬ (false = true) by decide)] at H; exact H
                clear H
                have H := H1
                clear H1
                obtain rfl := Option.some.inj H
                have p101 : 0 ≤ (x10_1 : Int) := of_decide_eq_true (by first | (with_reducible assumption) | assumption)
                have q101 : x10_1 < (l0.length : Int) := of_decide_eq_true (by first | (with_reducible assumption) | assumption)
                obtain ⟨ad101, e101, hx101_0, hx101_1⟩ := at_T80 HR0.out x10_1 p101 q101
                cases e101
                replace hx101_0 := (HB.out.cell (World.block_lt_of_cell? w _ hx101_0)).trans hx101_0
                replace hx101_1 := (HB.out.cell (World.block_lt_of_cell? w _ hx101_1)).trans hx101_1
                replace p101 := eq_true p101
                replace q101 := eq_true q101
                try go_wp2_with (first | ((with_reducible refine gate_dst (N := 4) rfl ?_); refine box_event ?hg (N := 4) ?hd (cs := #[.string (⟨#[]⟩ : ByteArray), .int .i64 0]) (t := 80) ?hr ?_; (case hd => rfl); (case hg => rfl); (case hr => first | (go_simp; done) | (go_simp; rfl)); intro gb102 hg w28 hbox hb; have n0_ := Aside0.mk (below_step (by repeat (first | (with_reducible first | exact HB.out | apply below_alloc | apply pw_below_drewN | apply below_drew1) | exact HB.out)) hb); have n1_ := Aside0.mk (hbox); have n2_ := Aside0.mk ((by rw [hg]; exact (below_size (by repeat (first | (with_reducible first | exact HB.out | apply below_alloc | apply pw_below_drewN | apply below_drew1) | exact HB.out))) : w.heap.size ≤ gb102)); have n3_ := Aside0.mk ((by rw [hg]; exact (below_size (by repeat (first | (with_reducible first | exact HB.out | apply below_alloc | apply pw_below_drewN | apply below_drew1) | exact HB.out))) : w.heap.size ≤ gb102)); clear HB; have HB := n0_; have BK102 := n1_; have GW102 := n2_; have GE102 := n3_; clear n0_ n1_ n2_ n3_; clear hb hbox hg; have hcz29_0 : w28.cell? ⟨gb102, 0, none⟩ = some (.string (⟨#[]⟩ : ByteArray)) := (blk_cell BK102.out 0).trans rfl; have hcz29_1 : w28.cell? ⟨gb102, 1, none⟩ = some (.int .i64 0) := (blk_cell BK102.out 1).trans rfl; have hfz29_0 := blk_frozen BK102.out 0; have hfz29_1 := blk_frozen BK102.out 1))
                have n0_ : Aside0 (((w28.setCell ⟨gb102, 0, none⟩ (.string ((rd_T80 l0 x10_1).f0))).setCell ⟨gb102, 1, none⟩ (.int .i64 ((rd_T80 l0 x10_1).f1))).heap[gb102]? = some (.cells #[.string ((rd_T80 l0 x10_1).f0), .int .i64 ((rd_T80 l0 x10_1).f1)] 80 (0, 0))) := ⟨by (with_reducible repeat (first | refine blk_drewN ?_ _ | refine blk_drew ?_ | refine blk_alloc ?_ _)); refine blk_put (cs := #[.string ((rd_T80 l0 x10_1).f0), .int .i64 0]) ?_ 1 _ rfl; (with_reducible repeat (first | refine blk_drewN ?_ _ | refine blk_drew ?_ | refine blk_alloc ?_ _)); refine blk_put (cs := #[.string (⟨#[]⟩ : ByteArray), .int .i64 0]) ?_ 0 _ rfl; (with_reducible repeat (first | refine blk_drewN ?_ _ | refine blk_drew ?_ | refine blk_alloc ?_ _)); exact BK102.out⟩
                have n1_ : Aside0 (Below w.heap.size w ((w28.setCell ⟨gb102, 0, none⟩ (.string ((rd_T80 l0 x10_1).f0))).setCell ⟨gb102, 1, none⟩ (.int .i64 ((rd_T80 l0 x10_1).f1)))) := ⟨by repeat (first | (with_reducible first | exact HB.out | apply below_alloc | apply pw_below_drewN | apply below_drew1 | refine below_set ?_ GE102.out) | exact HB.out)⟩
                (try clear BK102)
                (try clear HB)
                generalize ((w28.setCell ⟨gb102, 0, none⟩ (.string ((rd_T80 l0 x10_1).f0))).setCell ⟨gb102, 1, none⟩ (.int .i64 ((rd_T80 l0 x10_1).f1))) = w30 at n0_ n1_ ⊢
                have BK102 := n0_
                have HB := n1_
                clear n0_ n1_
                have n0_ := Aside0.mk (blk_drew BK102.out)
                have n1_ := Aside0.mk (below_drew1 HB.out)
                clear BK102
                clear HB
                have BK102 := n0_
                have HB := n1_
                clear n0_ n1_
                refine start_ (n := 18) (S := fun w' => w'.cell? ⟨gb102, 0, none⟩ = some (.string ((rd_T80 l0 x10_1).f0)) ∧ w'.cell? ⟨gb102, 1, none⟩ = some (.int .i64 ((rd_T80 l0 x10_1).f1))) (ds := []) #[false, false, false, false, false, false, false, false, false, false, false, false, false, false, false, false, false, false] (by kernel_rfl) rfl rfl ⟨(blk_cell BK102.out 0).trans rfl, (blk_cell BK102.out 1).trans rfl⟩ (fun hHeld => ?_); refine with_tabW impl_ValidState.tab6 impl_ValidState.bits6 (fun HT_ HW_ => ?_)
                generalize w30.drew = w31 at BK102 HB hHeld ⊢
                refine take_ (i := 0) (N := some 15) (v := ?_) (a' := ?_) #[true, false, false, false, false, false, false, false, false, false, false, false, false, false, false, false, false, false] rfl rfl (take_ofW HT_.out HW_.out (by kernel_rfl)) (fun _ _ _ h => h) (Or.inl ⟨by rfl, ?_⟩) hHeld ?_ ?_
                rotate_left
                · rintro w' ⟨s0, s1⟩
                  go_simp
                  with_reducible rfl
                rotate_left
                · simp only [Act.put, List.setIfInBounds_toArray, List.set_cons_zero, List.set_cons_succ, i64_w, i32_w]
                  rfl
                refine one_ (i := 1) (N := some 16) #[true, true, false, false, false, false, false, false, false, false, false, false, false, false, false, false, false, false] rfl rfl (one_of HT_.out (by kernel_rfl)) (by decide) (fun K hK => ?_)
                refine goes_ Try.func56 (by kernel_rfl) rfl #[.agg #[.string ((rd_T80 l0 x10_1).f0), .int .i64 ((rd_T80 l0 x10_1).f1)]] (by rfl) rfl rfl (by (try simp only [List.map_toArray, List.map_cons, List.map_nil]); first | done | rfl | (simp only [List.length_drop, List.length_take]; rfl)) ?_
                with_reducible refine (impl_Setting_valid.calls k1 ((rd_T80 l0 x10_1).f0) ((rd_T80 l0 x10_1).f1) false _ A6.out).mono ?_
                rintro e w32 ⟨rfl, hb⟩
                refine ⟨_, rfl, ?_⟩
                have n0_ := Aside0.mk (blk_below (g := gb102) (o := .cells #[.string ((rd_T80 l0 x10_1).f0), .int .i64 ((rd_T80 l0 x10_1).f1)] 80 (0, 0)) (by (with_reducible repeat (first | refine blk_drewN ?_ _ | refine blk_drew ?_ | refine blk_alloc ?_ _)); exact BK102.out) hb)
                have n1_ := Aside0.mk (below_step (by repeat (first | (with_reducible first | exact HB.out | apply below_alloc | apply pw_below_drewN | apply below_drew1 | refine below_set ?_ GE102.out) | exact HB.out)) hb)
                clear BK102
                clear HB
                have BK102 := n0_
                have HB := n1_
                clear n0_ n1_
                (try clear hb)
                (try clear hb2)
                (try clear hk)
                (try clear hi)
                refine hK.out _ _ ⟨(blk_cell BK102.out 0).trans rfl, (blk_cell BK102.out 1).trans rfl⟩ (fun hHeld => ?_)
                clear hK K
                refine norm_ (a' := ?_) ?_ ?_
                rotate_left
                · show Act.put _ (some 16) _ = _
                  simp only [Act.put, List.setIfInBounds_toArray, List.set_cons_zero, List.set_cons_succ, i64_w, i32_w]
                  rfl
                refine pure_ (i := 2) (N := some 17) (v := ?_) (a' := ?_) #[true, true, true, false, false, false, false, false, false, false, false, false, false, false, false, false, false, false] rfl rfl (any_of HT_.out (by kernel_rfl)) (fun _ _ _ h => h) (Or.inl ⟨by rfl, ?_⟩) ?_ ?_
                rotate_left
                · intro w'
                  go_simp
                  with_reducible rfl
                rotate_left
                · simp only [Act.put, List.setIfInBounds_toArray, List.set_cons_zero, List.set_cons_succ, i64_w, i32_w]
                  rfl
                refine pure_ (i := 3) (N := some 18) (v := ?_) (a' := ?_) #[true, true, true, true, false, false, false, false, false, false, false, false, false, false, false, false, false, false] rfl rfl (any_of HT_.out (by kernel_rfl)) (fun _ _ _ h => h) (Or.inl ⟨by rfl, ?_⟩) ?_ ?_
                rotate_left
                · intro w'
                  go_simp
                  with_reducible rfl
                rotate_left
                · simp only [Act.put, List.setIfInBounds_toArray, List.set_cons_zero, List.set_cons_succ, i64_w, i32_w]
                  rfl
                refine pure_ (i := 4) (N := some 19) (v := undef) (a' := ?_) #[true, true, true, true, true, false, false, false, false, false, false, false, false, false, false, false, false, false] rfl rfl (any_of HT_.out (by kernel_rfl)) (fun _ _ _ h => h) (Or.inr ⟨by rfl, rfl⟩) ?_ ?_
                rotate_left
                · simp only [Act.put, List.setIfInBounds_toArray, List.set_cons_zero, List.set_cons_succ, i64_w, i32_w]
                  rfl
                refine pure_ (i := 5) (N := some 20) (v := undef) (a' := ?_) #[true, true, true, true, true, true, false, false, false, false, false, false, false, false, false, false, false, false] rfl rfl (any_of HT_.out (by kernel_rfl)) (fun _ _ _ h => h) (Or.inr ⟨by rfl, rfl⟩) ?_ ?_
                rotate_left
                · simp only [Act.put, List.setIfInBounds_toArray, List.set_cons_zero, List.set_cons_succ, i64_w, i32_w]
                  rfl
                refine pure_ (i := 6) (N := some 21) (v := undef) (a' := ?_) #[true, true, true, true, true, true, true, false, false, false, false, false, false, false, false, false, false, false] rfl rfl (any_of HT_.out (by kernel_rfl)) (fun _ _ _ h => h) (Or.inr ⟨by rfl, rfl⟩) ?_ ?_
                rotate_left
                · simp only [Act.put, List.setIfInBounds_toArray, List.set_cons_zero, List.set_cons_succ, i64_w, i32_w]
                  rfl
                refine pure_ (i := 7) (N := some 22) (v := undef) (a' := ?_) #[true, true, true, true, true, true, true, true, false, false, false, false, false, false, false, false, false, false] rfl rfl (any_of HT_.out (by kernel_rfl)) (fun _ _ _ h => h) (Or.inr ⟨by rfl, rfl⟩) ?_ ?_
                rotate_left
                · simp only [Act.put, List.setIfInBounds_toArray, List.set_cons_zero, List.set_cons_succ, i64_w, i32_w]
                  rfl
                refine pure_ (i := 8) (N := some 23) (v := undef) (a' := ?_) #[true, true, true, true, true, true, true, true, true, false, false, false, false, false, false, false, false, false] rfl rfl (any_of HT_.out (by kernel_rfl)) (fun _ _ _ h => h) (Or.inr ⟨by rfl, rfl⟩) ?_ ?_
                rotate_left
                · simp only [Act.put, List.setIfInBounds_toArray, List.set_cons_zero, List.set_cons_succ, i64_w, i32_w]
                  rfl
                refine pure_ (i := 9) (N := some 24) (v := undef) (a' := ?_) #[true, true, true, true, true, true, true, true, true, true, false, false, false, false, false, false, false, false] rfl rfl (any_of HT_.out (by kernel_rfl)) (fun _ _ _ h => h) (Or.inr ⟨by rfl, rfl⟩) ?_ ?_
                rotate_left
                · simp only [Act.put, List.setIfInBounds_toArray, List.set_cons_zero, List.set_cons_succ, i64_w, i32_w]
                  rfl
                refine pure_ (i := 10) (N := some 25) (v := undef) (a' := ?_) #[true, true, true, true, true, true, true, true, true, true, true, false, false, false, false, false, false, false] rfl rfl (any_of HT_.out (by kernel_rfl)) (fun _ _ _ h => h) (Or.inr ⟨by rfl, rfl⟩) ?_ ?_
                rotate_left
                · simp only [Act.put, List.setIfInBounds_toArray, List.set_cons_zero, List.set_cons_succ, i64_w, i32_w]
                  rfl
                refine pure_ (i := 11) (N := some 26) (v := undef) (a' := ?_) #[true, true, true, true, true, true, true, true, true, true, true, true, false, false, false, false, false, false] rfl rfl (any_of HT_.out (by kernel_rfl)) (fun _ _ _ h => h) (Or.inr ⟨by rfl, rfl⟩) ?_ ?_
                rotate_left
                · simp only [Act.put, List.setIfInBounds_toArray, List.set_cons_zero, List.set_cons_succ, i64_w, i32_w]
                  rfl
                refine pure_ (i := 12) (N := some 27) (v := undef) (a' := ?_) #[true, true, true, true, true, true, true, true, true, true, true, true, true, false, false, false, false, false] rfl rfl (any_of HT_.out (by kernel_rfl)) (fun _ _ _ h => h) (Or.inr ⟨by rfl, rfl⟩) ?_ ?_
                rotate_left
                · simp only [Act.put, List.setIfInBounds_toArray, List.set_cons_zero, List.set_cons_succ, i64_w, i32_w]
                  rfl
                refine pure_ (i := 13) (N := some 28) (v := undef) (a' := ?_) #[true, true, true, true, true, true, true, true, true, true, true, true, true, true, false, false, false, false] rfl rfl (any_of HT_.out (by kernel_rfl)) (fun _ _ _ h => h) (Or.inr ⟨by rfl, rfl⟩) ?_ ?_
                rotate_left
                · simp only [Act.put, List.setIfInBounds_toArray, List.set_cons_zero, List.set_cons_succ, i64_w, i32_w]
                  rfl
                refine pure_ (i := 14) (N := some 29) (v := undef) (a' := ?_) #[true, true, true, true, true, true, true, true, true, true, true, true, true, true, true, false, false, false] rfl rfl (any_of HT_.out (by kernel_rfl)) (fun _ _ _ h => h) (Or.inr ⟨by rfl, rfl⟩) ?_ ?_
                rotate_left
                · simp only [Act.put, List.setIfInBounds_toArray, List.set_cons_zero, List.set_cons_succ, i64_w, i32_w]
                  rfl
                refine pure_ (i := 15) (N := some 30) (v := undef) (a' := ?_) #[true, true, true, true, true, true, true, true, true, true, true, true, true, true, true, true, false, false] rfl rfl (any_of HT_.out (by kernel_rfl)) (fun _ _ _ h => h) (Or.inr ⟨by rfl, rfl⟩) ?_ ?_
                rotate_left
                · simp only [Act.put, List.setIfInBounds_toArray, List.set_cons_zero, List.set_cons_succ, i64_w, i32_w]
                  rfl
                refine pure_ (i := 16) (N := some 31) (v := undef) (a' := ?_) #[true, true, true, true, true, true, true, true, true, true, true, true, true, true, true, true, true, false] rfl rfl (any_of HT_.out (by kernel_rfl)) (fun _ _ _ h => h) (Or.inr ⟨by rfl, rfl⟩) ?_ ?_
                rotate_left
                · simp only [Act.put, List.setIfInBounds_toArray, List.set_cons_zero, List.set_cons_succ, i64_w, i32_w]
                  rfl
                refine pure_ (i := 17) (N := some 32) (v := ?_) (a' := ?_) #[true, true, true, true, true, true, true, true, true, true, true, true, true, true, true, true, true, true] rfl rfl (any_of HT_.out (by kernel_rfl)) (fun _ _ _ h => h) (Or.inl ⟨by rfl, ?_⟩) ?_ ?_
                rotate_left
                · intro w'
                  go_simp
                  with_reducible rfl
                rotate_left
                · simp only [Act.put, List.setIfInBounds_toArray, List.set_cons_zero, List.set_cons_succ, i64_w, i32_w]
                  rfl
                refine done_ (done_of HT_.out (by kernel_rfl)) ?_
                try go_wp2
                go_ret
                exact ⟨by first | rfl | (simp [errW_none, errW_some] <;> rfl) | (simp [*, errW_none, errW_some] <;> rfl), by repeat (first | (with_reducible first | exact HB.out | apply below_alloc | apply pw_below_drewN | apply below_drew1 | refine below_set ?_ GE102.out) | exact HB.out)⟩
            · rw [if_neg c5] at H
              exact absurd H (by simp)
          · rw [if_neg c4] at H
            exact absurd H (by simp)
        · rw [if_neg c3] at H
          have c3b0 : decide (x10_1 < (l0.length : Int)) = false := decide_eq_false c3
          clear c3
          obtain rfl := Option.some.inj H
          go_wp2
          go_ret
          exact ⟨by first | rfl | (simp [errW_none, errW_some] <;> rfl) | (simp [*, errW_none, errW_some] <;> rfl), by repeat (first | (with_reducible first | exact HB.out | apply below_alloc | apply pw_below_drewN | apply below_drew1) | exact HB.out)⟩

end Go.Proofs.Ytocegmkifmdlcaa.P

/- What the library's contracts ask of this program: its bodies, types and numbers, each held against the library's by the kernel. -/
namespace Go.Proofs.Ytocegmkifmdlcaa.P
open Go.Shelf
def sh_SortS_ren : Go.Shelf.Ren := ⟨fun | 190 => 117 | 125 => 145 | 258 => 144 | 128 => 166 | 129 => 167 | 302 => 157 | 303 => 158 | 304 => 159 | 305 => 160 | 306 => 161 | 307 => 162 | 308 => 163 | 309 => 164 | 310 => 165 | 333 => 170 | 329 => 171 | 330 => 172 | 334 => 173 | 335 => 174 | 336 => 141 | 344 => 175 | n => n, fun | 31 => 37 | 9 => 9 | 3 => 3 | 46 => 144 | 0 => 0 | 51 => 194 | 53 => 154 | 4 => 4 | 183 => 187 | 182 => 186 | 131 => 91 | 5 => 5 | 218 => 198 | 222 => 202 | 228 => 204 | 229 => 205 | n => n, fun | n => n⟩
theorem sh_SortS : Lays.n190 Try.prog sh_SortS_ren := {
  mixed := by kernel_rfl
  f125 := Try.func145.trans (congrArg some (by kernel_rfl))
  f128 := Try.func166.trans (congrArg some (by kernel_rfl))
  f129 := Try.func167.trans (congrArg some (by kernel_rfl))
  f190 := Try.func117.trans (congrArg some (by kernel_rfl))
  f258 := Try.func144.trans (congrArg some (by kernel_rfl))
  f302 := Try.func157.trans (congrArg some (by kernel_rfl))
  f303 := Try.func158.trans (congrArg some (by kernel_rfl))
  f304 := Try.func159.trans (congrArg some (by kernel_rfl))
  f305 := Try.func160.trans (congrArg some (by kernel_rfl))
  f306 := Try.func161.trans (congrArg some (by kernel_rfl))
  f307 := Try.func162.trans (congrArg some (by kernel_rfl))
  f308 := Try.func163.trans (congrArg some (by kernel_rfl))
  f309 := Try.func164.trans (congrArg some (by kernel_rfl))
  f310 := Try.func165.trans (congrArg some (by kernel_rfl))
  f329 := Try.func171.trans (congrArg some (by kernel_rfl))
  f330 := Try.func172.trans (congrArg some (by kernel_rfl))
  f333 := Try.func170.trans (congrArg some (by kernel_rfl))
  f334 := Try.func173.trans (congrArg some (by kernel_rfl))
  f335 := Try.func174.trans (congrArg some (by kernel_rfl))
  f336 := Try.func141.trans (congrArg some (by kernel_rfl))
  f344 := Try.func175.trans (congrArg some (by kernel_rfl))
  t0 := Try.underlying0
  a0 := Try.isAgg0
  z0 := Try.sizeOf0
  v0 := Try.zeroValue0
  t3 := Try.underlying3
  a3 := Try.isAgg3
  z3 := Try.sizeOf3
  v3 := Try.zeroValue3
  t4 := Try.underlying4
  a4 := Try.isAgg4
  z4 := Try.sizeOf4
  v4 := Try.zeroValue4
  t5 := Try.underlying5
  a5 := Try.isAgg5
  z5 := Try.sizeOf5
  v5 := Try.zeroValue5
  t9 := Try.underlying9
  a9 := Try.isAgg9
  z9 := Try.sizeOf9
  v9 := Try.zeroValue9
  t31 := Try.underlying37
  a31 := Try.isAgg37
  z31 := Try.sizeOf37
  v31 := Try.zeroValue37
  t46 := Try.underlying144
  a46 := Try.isAgg144
  z46 := Try.sizeOf144
  v46 := Try.zeroValue144
  t51 := Try.underlying194
  a51 := Try.isAgg194
  z51 := Try.sizeOf194
  v51 := Try.zeroValue194
  t53 := Try.underlying154
  a53 := Try.isAgg154
  z53 := Try.sizeOf154
  v53 := Try.zeroValue154
  t131 := Try.underlying91
  a131 := Try.isAgg91
  z131 := Try.sizeOf91
  v131 := Try.zeroValue91
  t182 := Try.underlying186
  a182 := Try.isAgg186
  z182 := Try.sizeOf186
  v182 := Try.zeroValue186
  t183 := Try.underlying187
  a183 := Try.isAgg187
  z183 := Try.sizeOf187
  v183 := Try.zeroValue187
  t218 := Try.underlying198
  a218 := Try.isAgg198
  z218 := Try.sizeOf198
  v218 := Try.zeroValue198
  t222 := Try.underlying202
  a222 := Try.isAgg202
  z222 := Try.sizeOf202
  v222 := Try.zeroValue202
  t228 := Try.underlying204
  a228 := Try.isAgg204
  z228 := Try.sizeOf204
  v228 := Try.zeroValue204
  t229 := Try.underlying205
  a229 := Try.isAgg205
  z229 := Try.sizeOf205
  v229 := Try.zeroValue205 }
def sh_CompactS_ren : Go.Shelf.Ren := ⟨fun | 194 => 118 | n => n, fun | 31 => 37 | 9 => 9 | 3 => 3 | 4 => 4 | 0 => 0 | n => n, fun | n => n⟩
theorem sh_CompactS : Lays.n194 Try.prog sh_CompactS_ren := {
  mixed := by kernel_rfl
  f194 := Try.func118.trans (congrArg some (by kernel_rfl))
  t0 := Try.underlying0
  a0 := Try.isAgg0
  z0 := Try.sizeOf0
  v0 := Try.zeroValue0
  t3 := Try.underlying3
  a3 := Try.isAgg3
  z3 := Try.sizeOf3
  v3 := Try.zeroValue3
  t4 := Try.underlying4
  a4 := Try.isAgg4
  z4 := Try.sizeOf4
  v4 := Try.zeroValue4
  t9 := Try.underlying9
  a9 := Try.isAgg9
  z9 := Try.sizeOf9
  v9 := Try.zeroValue9
  t31 := Try.underlying37
  a31 := Try.isAgg37
  z31 := Try.sizeOf37
  v31 := Try.zeroValue37 }
end Go.Proofs.Ytocegmkifmdlcaa.P

namespace Go.Proofs.Ytocegmkifmdlcaa.P
open Go.RowKit Go.Sort Go.Proofs.YtocegmkifmdlcaaW.PrintWords Go.Proofs.YtocegmkifmdlcaaW.PrintLast Go.Proofs.YtocegmkifmdlcaaW.PrintMore
theorem put_block {α : Type} [Inhabited α] (enc : α → Value) {w : World} {g q : Nat} {d : Array α} {os : Array Obj} {cur : Array Value} {e : TypeId} {fr : Nat × Nat} (h : w.heap[g]? = some (.cells cur e fr)) :
    (Sort.grow (putRow enc (Sort.ahead w q) g 0 d) os).heap[g]? = some (.cells (putCells enc 0 d cur) e fr) := by
  have hlt : g < w.heap.size := (Array.getElem?_eq_some_iff.1 h).1
  rw [Sort.heap_grow_old _ _ (by rw [size_putRow]; exact hlt)]
  simp only [putRow, mapBlock, Array.getElem?_modify, Sort.ahead, h, if_true, Option.map_some, onCells]
theorem put_other {α : Type} [Inhabited α] (enc : α → Value) {w : World} {g q i : Nat} {d : Array α} {os : Array Obj} (hi : i < w.heap.size) (hn : i ≠ g) :
    (Sort.grow (putRow enc (Sort.ahead w q) g 0 d) os).heap[i]? = w.heap[i]? := by
  rw [Sort.heap_grow_old _ _ (by rw [size_putRow]; exact hi)]
  simp [putRow, mapBlock, Array.getElem?_modify, Ne.symm hn, Sort.ahead]
theorem put_take {α : Type} [Inhabited α] (enc : α → Value) (d : Array α) (cur : Array Value) (m : Nat) (hm : m ≤ d.size) (hd : d.size ≤ cur.size) : (putCells enc 0 d cur).toList.take m = (d.toList.take m).map enc := by
  apply List.ext_getElem?
  intro k
  simp only [List.getElem?_take, List.getElem?_map, Array.getElem?_toList, putCells, Array.getElem?_mapIdx]
  by_cases hk : k < m
  · have h1 : k < cur.size := by omega
    have h2 : k < d.size := by omega
    rw [if_pos hk, if_pos hk, Array.getElem?_eq_getElem h1, Array.getElem?_eq_getElem h2]
    simp [h2]
  · rw [if_neg hk, if_neg hk]; rfl
theorem own_put {α β : Type} [Inhabited β] {enc : α → Value} {h1 : ∀ x, (enc x).oneCell' = true} (encB : β → Value) {e base n cap g q : Nat} {w0 w : World} {P0 : Nat → Prop} {d : Array β} {os : Array Obj} {xs ys : List α} {m : Nat}
    (hb0 : base = w0.heap.size) (hB : Below w0.heap.size w0 w) (ho : (Kd.scalar enc h1).R e w base P0 (.slice (some ⟨g, 0, none⟩) n cap) xs) (hn : xs.length = n) (hd : d.size = n) (hm : m ≤ n) (hy : ys.length = m) (hys : (d.toList.take m).map encB = ys.map enc) (W : World) (hW : W = Sort.grow (putRow encB (Sort.ahead w q) g 0 d) os) :
    (Kd.scalar enc h1).R e W base (fun k_ => P0 k_ ∨ w.heap.size ≤ k_) (.slice (some ⟨g, 0, none⟩) m cap) ys ∧ Below w0.heap.size w0 W ∧ Kept w W P0 := by
  have hown := Kd.own_of_R ho
  have hp : P0 g := ho.1 g rfl
  rw [hn] at hown
  obtain ⟨_, hn2 | ⟨g', cap', cur, hv, hbase, hh, hcap, hmax, hsz, htk⟩⟩ := hown
  · exact absurd hn2.1 (by simp)
  simp only [Value.slice.injEq, Option.some.injEq, Addr.mk.injEq, and_true, true_and] at hv
  obtain ⟨rfl, rfl⟩ := hv
  have hgl : g < w.heap.size := (Array.getElem?_eq_some_iff.1 hh).1
  subst hW
  refine ⟨?_, ?_, ?_⟩
  · refine Kd.R_of_own ⟨by simp [encs], .inr ⟨g, cap, putCells encB 0 d cur, by rw [hy], hbase, put_block encB hh, by omega, hmax, by simp [putCells, hsz], ?_⟩⟩ (fun k hk => ?_)
    · rw [Nat.mul_one, hy, put_take encB d cur m (by omega) (by omega), hys]; rfl
    · have : g = k := by simpa [Value.ownBlock] using hk
      subst this; exact .inl hp
  · refine ⟨hB.os, hB.tape, hB.output, ?_, fun k hk => ?_⟩
    · rw [Sort.size_grow, size_putRow]; exact Nat.le_trans hB.size (Nat.le_add_right _ _)
    · have hk2 : k < w.heap.size := Nat.lt_of_lt_of_le hk hB.size
      rw [put_other encB hk2 (by omega)]; exact hB.block k hk
  · refine ⟨by rw [Sort.size_grow, size_putRow]; exact Nat.le_add_right _ _, fun i hi hp2 => ?_⟩
    exact put_other encB hi (fun e2 => hp2 (by rw [e2]; exact hp))
theorem own_holds {α β : Type} [Inhabited β] {enc : α → Value} {h1 : ∀ x, (enc x).oneCell' = true} (dflt : α) (encB : β → Value) {e base n cap g : Nat} {w : World} {P0 : Nat → Prop} {d : Array β} {xs : List α}
    (ho : (Kd.scalar enc h1).R e w base P0 (.slice (some ⟨g, 0, none⟩) n cap) xs) (hn : xs.length = n) (hd : d.size = n) (hc : ∀ j, j < n → enc (xs.getD j dflt) = encB d[j]!) : Holds encB w g 0 d ∧ g < w.heap.size ∧ n ≤ cap ∧ cap ≤ maxLen := by
  have hown := Kd.own_of_R ho
  rw [hn] at hown
  have hat := fun (j : Nat) (hj : j < n) => own_at_of (d := dflt) hown (j : Int) (by omega) (by omega : (j : Int) < (n : Int))
  obtain ⟨_, hn2 | ⟨g', cap', cur, hv, hbase, hh, hcap, hmax, hsz, htk⟩⟩ := hown
  · exact absurd hn2.1 (by simp)
  simp only [Value.slice.injEq, Option.some.injEq, Addr.mk.injEq, and_true, true_and] at hv
  obtain ⟨rfl, rfl⟩ := hv
  refine ⟨fun j hj => ?_, (Array.getElem?_eq_some_iff.1 hh).1, hcap, hmax⟩
  obtain ⟨h2, h3⟩ := hat j (by omega)
  rw [Int.toNat_natCast] at h2 h3
  rw [Nat.zero_add]
  refine ⟨?_, h3⟩
  rw [h2, ← hc j (by omega)]; rfl
theorem own_shape {α : Type} {enc : α → Value} {h1 : ∀ x, (enc x).oneCell' = true} {e base : Nat} {w : World} {P0 : Nat → Prop} {u : Value} {xs : List α} (ho : (Kd.scalar enc h1).R e w base P0 u xs) : (u = .slice none 0 0 ∧ xs = []) ∨ ∃ g cap, u = .slice (some ⟨g, 0, none⟩) xs.length cap := by
  obtain ⟨_, hn2 | ⟨g', cap', cur, hv, _⟩⟩ := Kd.own_of_R ho
  · exact .inl ⟨hn2.1, List.eq_nil_of_length_eq_zero hn2.2⟩
  · exact .inr ⟨g', cap', hv⟩

def unS (l : List ByteArray) : List (List UInt8) := l.map fun b => b.data.toList
def mkS (l : List (List UInt8)) : List ByteArray := l.map fun b => ⟨b.toArray⟩
def sortS (l : List ByteArray) : List ByteArray := mkS ((unS l).mergeSort fun x y => decide (x ≤ y))
def compactS (l : List ByteArray) : List ByteArray := mkS (Lib.compact (unS l))
theorem compact_length_le {α : Type} [BEq α] [LawfulBEq α] [Inhabited α] [DecidableEq α] (zs : List α) : (Lib.compact zs).length ≤ zs.length := by
  unfold Lib.compact
  have main : ∀ m, (Lib.compactUpTo zs.toArray m).length ≤ m := by
    intro m
    induction m with
    | zero => simp [Lib.compactUpTo]
    | succ m ih =>
      rw [Lib.compactUpTo_succ, List.length_append]
      split <;> simp <;> omega
  exact main _
theorem enc_mkS (l : List (List UInt8)) : (mkS l).map Value.string = l.map encStr := by simp [mkS, encStr]
end Go.Proofs.Ytocegmkifmdlcaa.P

namespace Go.Proofs.Ytocegmkifmdlcaa.P
open Go.RowKit Go.Proofs.YtocegmkifmdlcaaW.PrintWords Go.Proofs.YtocegmkifmdlcaaW.PrintLast Go.Proofs.YtocegmkifmdlcaaW.PrintMore
attribute [local go_sem] max2_int min2_int max_two min_two max_three min_three max_four min_four str_leq str_gtr str_geq
set_option linter.unusedVariables false
set_option linter.unusedSimpArgs false

open Go.Sort
def slices_Sort_S_string.f (l0 : List ByteArray) : Option (List ByteArray) := if l0.length < 4611686018427387904 then some (sortS l0) else none
theorem slices_Sort_S_string.calls (P0_ : Nat → Prop) (u9000_ : Value) (l0 : List ByteArray) (r : List ByteArray) (w0 w : World) (hB : Below w0.heap.size w0 w) (ho0 : Kd.R Kd.string 9 w w0.heap.size P0_ u9000_ l0) (h : slices_Sort_S_string.f l0 = some r) :
    Calls Try.prog 117 #[u9000_] w fun e w' => e = .returned (.tuple #[]) ∧ Kd.R Kd.string 9 w' w0.heap.size (fun k_ => (P0_ k_ ∨ w.heap.size ≤ k_)) u9000_ r ∧ Below w0.heap.size w0 w' ∧ Kept w w' (fun k_ => P0_ k_) := by
  unfold slices_Sort_S_string.f at h
  by_cases hml : l0.length < 4611686018427387904
  rotate_left
  · rw [if_neg hml] at h; exact absurd h (by simp)
  rw [if_pos hml] at h
  obtain rfl := Option.some.inj h
  rcases own_shape ho0 with ⟨rfl, rfl⟩ | ⟨g, cap, rfl⟩
  · refine (Any.slices_Sort_string_none sh_SortS none 0 w).mono ?_
    rintro e w' ⟨rfl, rfl⟩
    exact ⟨rfl, by have : sortS [] = [] := (by simp [sortS, unS, mkS]); rw [this]; exact Kd.R_nil _ _ _ _ _, hB, Kept.refl _ _⟩
  · have hl : (unS l0).length = l0.length := by simp [unS]
    obtain ⟨hH, hg, hcap, hmax⟩ := own_holds (d := (unS l0).toArray) ByteArray.empty encStr ho0 rfl (by simp [unS]) (fun j hj => by
      have : j < (unS l0).length := by omega
      simp [unS, encStr, List.getElem?_eq_getElem hj, List.getD_eq_getElem?_getD, hj])
    have hc := Any.slices_Sort_string sh_SortS g 0 cap (unS l0) w hH hg (by rw [hl]; exact hml)
    rw [hl] at hc
    refine hc.mono ?_
    rintro e w' ⟨rfl, n, os, hw⟩
    obtain ⟨h1, h2, h3⟩ := own_put (m := l0.length) (ys := sortS l0) encStr rfl hB ho0 rfl (by simp [unS]) (Nat.le_refl _) (by simp [sortS, unS, mkS]) (by
      rw [List.take_of_length_le (by simp [unS])]
      simp [sortS, enc_mkS]) w' hw
    exact ⟨rfl, h1, h2, h3⟩

def slices_Compact_S_string.f (l0 : List ByteArray) : Option (List ByteArray) := some (compactS l0)
theorem slices_Compact_S_string.calls (P0_ : Nat → Prop) (u9000_ : Value) (l0 : List ByteArray) (r : List ByteArray) (w0 w : World) (hB : Below w0.heap.size w0 w) (ho0 : Kd.R Kd.string 9 w w0.heap.size P0_ u9000_ l0) (h : slices_Compact_S_string.f l0 = some r) :
    Calls Try.prog 118 #[u9000_] w fun e w' => ∃ v0 : Value, e = .returned v0 ∧ Kd.R Kd.string 9 w' w0.heap.size (fun k_ => (P0_ k_ ∨ w.heap.size ≤ k_)) v0 r ∧ Below w0.heap.size w0 w' ∧ Kept w w' (fun k_ => P0_ k_) := by
  obtain rfl := Option.some.inj h
  rcases own_shape ho0 with ⟨rfl, rfl⟩ | ⟨g, cap, rfl⟩
  · refine (Any.slices_Compact_string_empty sh_CompactS none 0 w).mono ?_
    rintro e w' ⟨rfl, rfl⟩
    exact ⟨_, rfl, by have : compactS [] = [] := (by simp [compactS, unS, mkS, Lib.compact, Lib.compactUpTo]); rw [this]; exact Kd.R_nil _ _ _ _ _, hB, Kept.refl _ _⟩
  · have hl : (unS l0).length = l0.length := by simp [unS]
    obtain ⟨hH, hg, hcap, hmax⟩ := own_holds (d := (unS l0).toArray) ByteArray.empty encStr ho0 rfl (by simp [unS]) (fun j hj => by
      have : j < (unS l0).length := by omega
      simp [unS, encStr, List.getElem?_eq_getElem hj, List.getD_eq_getElem?_getD, hj])
    have hml : maxLen ≤ 9223372036854775807 := by unfold maxLen; omega
    have hcl := compact_length_le (unS l0)
    have hc := Any.slices_Compact_string sh_CompactS g 0 cap (unS l0) w hH (by omega) (by omega)
    rw [hl] at hc
    refine hc.mono ?_
    rintro e w' ⟨rfl, q, hw⟩
    obtain ⟨h1, h2, h3⟩ := own_put (m := (Lib.compact (unS l0)).length) (ys := compactS l0) (os := #[]) (d := (Lib.compact (unS l0) ++ List.replicate (l0.length - (Lib.compact (unS l0)).length) []).toArray) encStr rfl hB ho0 rfl (by simp; omega) (by omega) (by simp [compactS, mkS]) (by
      simp [compactS, enc_mkS]) w' (by rw [Sort.grow_empty]; exact hw)
    exact ⟨_, rfl, h1, h2, h3⟩

end Go.Proofs.Ytocegmkifmdlcaa.P

namespace Go.Proofs.Ytocegmkifmdlcaa.P
open Go.RowKit Go.Proofs.YtocegmkifmdlcaaW.PrintWords Go.Proofs.YtocegmkifmdlcaaW.PrintLast Go.Proofs.YtocegmkifmdlcaaW.PrintMore
attribute [local go_sem] max2_int min2_int max_two min_two max_three min_three max_four min_four str_leq str_gtr str_geq
set_option linter.unusedVariables false
set_option linter.unusedSimpArgs false

mutual
def impl_namesOf.l0 : Nat → List ByteArray → List (List (S80)) → Int → Int → Option (List ByteArray)
  | 0, _, _, _, _ => none
  | k + 1, x3, x8, x9, x10 => if x10 < x9 then (if 0 ≤ x10 then (if x10 < (x8.length : Int) then (impl_namesOf.l1 k x3 x8 x9 x10 (rd_L15 x8 x10) ((rd_L15 x8 x10).length : Int) 0) else (none)) else (none)) else ((slices_Sort_S_string.f x3).bind fun t101 => ((slices_Compact_S_string.f t101).bind fun t102 => (some t102)))
def impl_namesOf.l1 : Nat → List ByteArray → List (List (S80)) → Int → Int → List (S80) → Int → Int → Option (List ByteArray)
  | 0, _, _, _, _, _, _, _ => none
  | k + 1, x3, x8, x9, x10, x14, x15, x16 => if x16 < x15 then (if 0 ≤ x16 then (if x16 < (x14.length : Int) then (if x3.length < 8796093022208 then (impl_namesOf.l1 k (x3 ++ [(rd_T80 x14 x16).f0]) x8 x9 x10 x14 x15 (wrap64 (x16 + 1))) else (none)) else (none)) else (none)) else (impl_namesOf.l0 k x3 x8 x9 (wrap64 (x10 + 1)))
end
def impl_namesOf.f (k : Nat) (l0 : List (List (S80))) : Option (List ByteArray) := impl_namesOf.l0 k ([] : List ByteArray) l0 (l0.length : Int) 0
set_option maxHeartbeats 8000000 in
set_option maxRecDepth 100000 in
theorem impl_namesOf.calls (k : Nat) (A0 : Option Addr) (c0 : Nat) (l0 : List (List (S80))) (r : List ByteArray) (w : World) (hr0 : Kd.C (Kd.slice 80 k80) w A0 l0.length l0) (hc0 : l0.length ≤ c0) (h : impl_namesOf.f k l0 = some r) :
    Calls Try.prog 70 #[.slice A0 l0.length c0] w fun e w' => ∃ v0_ : Value, e = .returned (v0_) ∧ Kd.R Kd.string 9 w' w.heap.size (fun _ => True) v0_ r ∧ Below w.heap.size w w' := by
  have hu80 := Try.underlying80
  have HR0 := Aside0.mk hr0
  have HC0 := Aside0.mk hc0
  clear hr0 hc0
  have HB := Aside0.mk (Below.refl w.heap.size w)
  have H : (impl_namesOf.l0 k ([] : List ByteArray) l0 (l0.length : Int) 0) = some r := h
  clear h
  have H' := Aside0.mk H
  clear H
  go_enter Try.func70, Try.ntmps70
  go_wp2
  go_loopg [3, 10] k (fun kq v3 v10 w' => ∃ (x3_1 : List ByteArray) (x10_1 : Int), v10 = .int .i64 x10_1 ∧ Aside0 (impl_namesOf.l0 kq x3_1 l0 (l0.length : Int) x10_1 = some r) ∧ Aside0 (kq ≤ k) ∧ Aside0 (Kd.R Kd.string 9 w' w.heap.size (fun _ => True) v3 x3_1) ∧ Aside0 (Below w.heap.size w w'))
  case atStart => exact ⟨(([] : List ByteArray)), (0), (by first | rfl | (simp; done) | (simp [*]; done)), H', ⟨Nat.le_refl _⟩, ⟨by first | exact Kd.R_nil _ _ _ _ _ | exact Kd.N_nil _ _ _ _ _ | exact Kd.V_nil _ _ _ _ _ | exact Kd.Q_nil _ _ _ _ _ | exact Kd.S_nil _ _ _ _ _⟩, ⟨by repeat (first | (with_reducible first | exact HB.out | apply below_alloc | apply pw_below_drewN | apply below_drew1) | exact HB.out)⟩⟩
  case round =>
    clear H'
    obtain ⟨x3_1, x10_1, rfl, HA, HK1, HO_3, HB⟩ := hrel
    cases gk with
    | zero => exact absurd HA.out (by simp [impl_namesOf.l0])
    | succ k1 =>
      have H := HA.out
      clear HA
      simp only [impl_namesOf.l0] at H
      by_cases c2 : x10_1 < (l0.length : Int)
      · rw [if_pos c2] at H
        have c2b0 : decide (x10_1 < (l0.length : Int)) = true := decide_eq_true c2
        clear c2
        by_cases c3 : 0 ≤ x10_1
        · rw [if_pos c3] at H
          have c3b0 : decide (0 ≤ x10_1) = true := decide_eq_true c3
          clear c3
          by_cases c4 : x10_1 < (l0.length : Int)
          · rw [if_pos c4] at H
            have c4b0 : decide (x10_1 < (l0.length : Int)) = true := decide_eq_true c4
            clear c4
            have H' := Aside0.mk H
            clear H
            have p105 : 0 ≤ (x10_1 : Int) := of_decide_eq_true (by first | (with_reducible assumption) | assumption)
            have q105 : x10_1 < (l0.length : Int) := of_decide_eq_true (by first | (with_reducible assumption) | assumption)
            obtain ⟨ad105, A105_0, c105_0, e105, hx105_0, hl105_0, hi105_0⟩ := at_L15 HR0.out x10_1 p105 q105
            cases e105
            replace hx105_0 := (HB.out.cell (World.block_lt_of_cell? w _ hx105_0)).trans hx105_0
            have HR105_0 := Aside0.mk hi105_0
            have HC105_0 := Aside0.mk hl105_0
            clear hi105_0 hl105_0
            replace p105 := eq_true p105
            replace q105 := eq_true q105
            go_wp2
            go_loopg [3, 16] k1 (fun kq v3 v16 w' => ∃ (x3_2 : List ByteArray) (x16_2 : Int), v16 = .int .i64 x16_2 ∧ Aside0 (impl_namesOf.l1 kq x3_2 l0 (l0.length : Int) x10_1 (rd_L15 l0 x10_1) ((rd_L15 l0 x10_1).length : Int) x16_2 = some r) ∧ Aside0 (kq ≤ k1) ∧ Aside0 (Kd.R Kd.string 9 w' w.heap.size (fun _ => True) v3 x3_2) ∧ Aside0 (Below w.heap.size w w'))
            case atStart => exact ⟨(x3_1), (0), (by first | rfl | (simp; done) | (simp [*]; done)), H', ⟨Nat.le_refl _⟩, ⟨by (with_reducible repeat (first | apply Kd.R_alloc | apply Kd.R_drewN | apply Kd.R_drew)); exact HO_3.out⟩, ⟨by repeat (first | (with_reducible first | exact HB.out | apply below_alloc | apply pw_below_drewN | apply below_drew1) | exact HB.out)⟩⟩
            case round =>
              clear H'
              try clear c1
              try clear p1
              try clear q1
              try clear hx1
              try clear c2
              try clear c2b0
              try clear p2
              try clear c3
              try clear c3b0
              try clear c4
              try clear c4b0
              try clear hx105_0
              try clear p105
              try clear q105
              obtain ⟨x3_2, x16_2, rfl, HA, HK2, HO_3, HB⟩ := hrel
              cases gk with
              | zero => exact absurd HA.out (by simp [impl_namesOf.l1])
              | succ k2 =>
                have H := HA.out
                clear HA
                simp only [impl_namesOf.l1] at H
                by_cases c5 : x16_2 < ((rd_L15 l0 x10_1).length : Int)
                · rw [if_pos c5] at H
                  have c5b0 : decide (x16_2 < ((rd_L15 l0 x10_1).length : Int)) = true := decide_eq_true c5
                  clear c5
                  by_cases c6 : 0 ≤ x16_2
                  · rw [if_pos c6] at H
                    have c6b0 : decide (0 ≤ x16_2) = true := decide_eq_true c6
                    clear c6
                    by_cases c7 : x16_2 < ((rd_L15 l0 x10_1).length : Int)
                    · rw [if_pos c7] at H
                      have c7b0 : decide (x16_2 < ((rd_L15 l0 x10_1).length : Int)) = true := decide_eq_true c7
                      clear c7
                      by_cases c8 : x3_2.length < 8796093022208
                      · rw [if_pos c8] at H
                        have LMc8 := Aside0.mk c8
                        clear c8
                        obtain ⟨y108, hy108⟩ : ∃ y_ : List ByteArray, y_ = (x3_2 ++ [(rd_T80 (rd_L15 l0 x10_1) x16_2).f0]) := ⟨_, rfl⟩
                        replace H : (impl_namesOf.l1 k2 y108 l0 (l0.length : Int) x10_1 (rd_L15 l0 x10_1) ((rd_L15 l0 x10_1).length : Int) (wrap64 (x16_2 + 1))) = some r := by first | (rw [hy108]; with_reducible exact H) | (have H2_ := (Option.bind_some _ _).symm.trans H; rw [hy108]; with_reducible exact H2_) | (have H2_ := (Option.bind_some _ _).symm.trans H; with_reducible exact H2_) | with_reducible exact H | (rw [hy108]; exact H) | exact H
                        have Ny108 := Aside0.mk hy108
                        clear hy108
                        have H' := Aside0.mk H
                        clear H
                        have p106 : 0 ≤ (x16_2 : Int) := of_decide_eq_true (by first | (with_reducible assumption) | assumption)
                        have q106 : x16_2 < ((rd_L15 l0 x10_1).length : Int) := of_decide_eq_true (by first | (with_reducible assumption) | assumption)
                        obtain ⟨ad106, e106, hx106_0, hx106_1⟩ := at_T80 HR105_0.out x16_2 p106 q106
                        cases e106
                        replace hx106_0 := (HB.out.cell (World.block_lt_of_cell? w _ hx106_0)).trans hx106_0
                        replace hx106_1 := (HB.out.cell (World.block_lt_of_cell? w _ hx106_1)).trans hx106_1
                        replace p106 := eq_true p106
                        replace q106 := eq_true q106
                        go_wp2_with (first | ((with_reducible refine gate_dst (N := 7) rfl ?_); refine box_event ?hg (N := 7) ?hd (cs := #[.string (⟨#[]⟩ : ByteArray), .int .i64 0]) (t := 80) ?hr ?_; (case hd => rfl); (case hg => rfl); (case hr => first | (go_simp; done) | (go_simp; rfl)); intro gb107 hg w9 hbox hb; have n0_ := Aside0.mk (Kd.R_below (by (with_reducible repeat (first | apply Kd.R_alloc | apply Kd.R_drewN | apply Kd.R_drew)); exact HO_3.out) hb); have n1_ := Aside0.mk (below_step (by repeat (first | (with_reducible first | exact HB.out | apply below_alloc | apply pw_below_drewN | apply below_drew1) | exact HB.out)) hb); have n2_ := Aside0.mk (hbox); have n3_ := Aside0.mk ((by rw [hg]; exact (below_size (by repeat (first | (with_reducible first | exact HB.out | apply below_alloc | apply pw_below_drewN | apply below_drew1) | exact HB.out))) : w.heap.size ≤ gb107)); have n4_ := Aside0.mk ((by rw [hg]; exact (below_size (by repeat (first | (with_reducible first | exact HB.out | apply below_alloc | apply pw_below_drewN | apply below_drew1) | exact HB.out))) : w.heap.size ≤ gb107)); clear HO_3; clear HB; have HO_3 := n0_; have HB := n1_; have BK107 := n2_; have GW107 := n3_; have GE107 := n4_; clear n0_ n1_ n2_ n3_ n4_; clear hb hbox hg; have hcz10_0 : w9.cell? ⟨gb107, 0, none⟩ = some (.string (⟨#[]⟩ : ByteArray)) := (blk_cell BK107.out 0).trans rfl; have hcz10_1 : w9.cell? ⟨gb107, 1, none⟩ = some (.int .i64 0) := (blk_cell BK107.out 1).trans rfl; have hfz10_0 := blk_frozen BK107.out 0; have hfz10_1 := blk_frozen BK107.out 1) | ((with_reducible refine gate_builtin (b := .append) (xs := #[.tmp 20, .tmp 23]) rfl ?_); at_builtin; refine Kd.R_append Kd.string (w0 := w) w.heap.size rfl (.tmp 20) (.tmp 23) 37 9 (.string ⟨#[]⟩) 16 rfl Try.underlying37 info9 rfl (by decide) (by omega) u3 x3_2 ((rd_T80 (rd_L15 l0 x10_1) x16_2).f0) [.string ((rd_T80 (rd_L15 l0 x10_1) x16_2).f0)] (fun _ => True) (fun _ => False) rfl (by first | (go_simp; done) | (go_simp; rfl)) ?aP (fun _ hk => hk.elim) ?aF ?aO ?aB ?aS ?aL ?_; (case aP => exact rfl); (case aB => exact (by repeat (first | (with_reducible first | exact HB.out | apply below_alloc | apply pw_below_drewN | apply below_drew1 | refine below_set ?_ GE107.out) | exact HB.out))); (case aF => exact (fun _ _ => trivial)); (case aO => exact (by (with_reducible repeat (first | apply Kd.R_alloc | apply Kd.R_drewN | apply Kd.R_drew)); exact Kd.R_mono (Kd.R_far (p := ⟨gb107, 1, none⟩) (Kd.R_far (p := ⟨gb107, 0, none⟩) (Kd.R_types HO_3.out BK107.out (by decide)) (fun _ hk => hk.2) (.string ((rd_T80 (rd_L15 l0 x10_1) x16_2).f0))) (fun _ hk => hk.2) (.int .i64 ((rd_T80 (rd_L15 l0 x10_1) x16_2).f1))) (fun _ hk => trivial))); (case aS => exact (below_size (by repeat (first | (with_reducible first | exact HB.out | apply below_alloc | apply pw_below_drewN | apply below_drew1 | refine below_set ?_ GE107.out) | exact HB.out)))); (case aL => have := LMc8.out; omega); intro v109 w11 ho hb hg hat; rw [← Ny108.out] at ho; have n0_ := Aside0.mk (blk_grown (g := gb107) (o := .cells #[.string ((rd_T80 (rd_L15 l0 x10_1) x16_2).f0), .int .i64 ((rd_T80 (rd_L15 l0 x10_1) x16_2).f1)] 80 (0, 0)) (by (with_reducible repeat (first | refine blk_drewN ?_ _ | refine blk_drew ?_ | refine blk_alloc ?_ _)); refine blk_put (cs := #[.string ((rd_T80 (rd_L15 l0 x10_1) x16_2).f0), .int .i64 0]) ?_ 1 _ rfl; (with_reducible repeat (first | refine blk_drewN ?_ _ | refine blk_drew ?_ | refine blk_alloc ?_ _)); refine blk_put (cs := #[.string (⟨#[]⟩ : ByteArray), .int .i64 0]) ?_ 0 _ rfl; (with_reducible repeat (first | refine blk_drewN ?_ _ | refine blk_drew ?_ | refine blk_alloc ?_ _)); exact BK107.out) hg (Kd.R_ne HO_3.out BK107.out (by decide))); have n1_ := Aside0.mk (hb); have n2_ := Aside0.mk (ho); clear BK107; clear HB; clear HO_3; have BK107 := n0_; have HB := n1_; have HO110 := n2_; clear n0_ n1_ n2_; clear ho hb hg hat))
                        go_roundg k2
                        case measure => have := HK1.out; have := HK2.out; omega
                        case rel => exact ⟨(y108), (wrap64 (x16_2 + 1)), (by first | rfl | (simp; done) | (simp [*]; done)), H', ⟨by have := HK1.out; have := HK2.out; omega⟩, ⟨by (with_reducible repeat (first | apply Kd.R_alloc | apply Kd.R_drewN | apply Kd.R_drew)); exact HO110.out⟩, ⟨by repeat (first | (with_reducible first | exact HB.out | apply below_alloc | apply pw_below_drewN | apply below_drew1 | refine below_set ?_ GE107.out) | exact HB.out)⟩⟩
                      · rw [if_neg c8] at H
                        exact absurd H (by simp)
                    · rw [if_neg c7] at H
                      exact absurd H (by simp)
                  · rw [if_neg c6] at H
                    exact absurd H (by simp)
                · rw [if_neg c5] at H
                  have c5b0 : decide (x16_2 < ((rd_L15 l0 x10_1).length : Int)) = false := decide_eq_false c5
                  clear c5
                  have H' := Aside0.mk H
                  clear H
                  go_wp2
                  go_roundg k2
                  case measure => have := HK1.out; have := HK2.out; omega
                  case rel => exact ⟨(x3_2), (wrap64 (x10_1 + 1)), (by first | rfl | (simp; done) | (simp [*]; done)), H', ⟨by have := HK1.out; have := HK2.out; omega⟩, ⟨by (with_reducible repeat (first | apply Kd.R_alloc | apply Kd.R_drewN | apply Kd.R_drew)); exact HO_3.out⟩, ⟨by repeat (first | (with_reducible first | exact HB.out | apply below_alloc | apply pw_below_drewN | apply below_drew1) | exact HB.out)⟩⟩
          · rw [if_neg c4] at H
            exact absurd H (by simp)
        · rw [if_neg c3] at H
          exact absurd H (by simp)
      · rw [if_neg c2] at H
        have c2b0 : decide (x10_1 < (l0.length : Int)) = false := decide_eq_false c2
        clear c2
        replace H := Option.bind_eq_some_iff.mp H
        obtain ⟨t101, A120, H⟩ := H
        replace H : ((slices_Compact_S_string.f t101).bind fun t102 => (some t102)) = some r := H
        have A12 := Aside0.mk A120
        clear A120
        replace H := Option.bind_eq_some_iff.mp H
        obtain ⟨t102, A130, H⟩ := H
        replace H : (some t102) = some r := H
        have A13 := Aside0.mk A130
        clear A130
        obtain rfl := Option.some.inj H
        obtain ⟨Ao14, co14, eo14⟩ := Kd.R_slice HO_3.out
        subst eo14
        go_wp2_with (first | ((with_reducible refine gate_callee (f := 117) rfl ?_); refine goesL_ (some 28) rfl rfl Try.func117 (by kernel_rfl) rfl #[.slice Ao14 x3_1.length co14] rfl (by (try simp only [List.map_toArray, List.map_cons, List.map_nil]); first | done | rfl | (simp only [List.length_drop, List.length_take]; rfl)) ?_; (with_reducible refine (slices_Sort_S_string.calls (fun k_ => some k_ = (.slice Ao14 x3_1.length co14 : Value).ownBlock) (.slice Ao14 x3_1.length co14) x3_1 t101 w _ ?side1 ?side2 A12.out).mono ?_); (case side1 => repeat (first | (with_reducible first | exact HB.out | apply below_alloc | apply pw_below_drewN | apply below_drew1) | exact HB.out)); (case side2 => exact Kd.R_tight rfl HO_3.out); rintro e w15 ⟨rfl, hy0, hb, hkp⟩; refine ⟨_, rfl, ?_⟩; have n0_ := Aside0.mk (Kd.R_reok rfl hy0 (fun k_ e_ => HO_3.out.1 k_ e_)); have n1_ := Aside0.mk (hb); clear HO_3; clear HB; have HO_3 := n0_; have HB := n1_; clear n0_ n1_; (try clear hb); (try clear hkp); (try clear hy0)) | ((with_reducible refine gate_callee (f := 118) rfl ?_); refine goesL_ (some 30) rfl rfl Try.func118 (by kernel_rfl) rfl #[.slice Ao14 x3_1.length co14] rfl (by (try simp only [List.map_toArray, List.map_cons, List.map_nil]); first | done | rfl | (simp only [List.length_drop, List.length_take]; rfl)) ?_; (with_reducible refine (slices_Compact_S_string.calls (fun k_ => some k_ = (.slice Ao14 x3_1.length co14 : Value).ownBlock) (.slice Ao14 x3_1.length co14) t101 t102 w _ ?side1 ?side2 A13.out).mono ?_); (case side1 => repeat (first | (with_reducible first | exact HB.out | apply below_alloc | apply pw_below_drewN | apply below_drew1) | exact HB.out)); (case side2 => exact Kd.R_tight rfl HO_3.out); rintro e w16 ⟨v103, rfl, ho0, hb, hkp⟩; refine ⟨_, rfl, ?_⟩; have n0_ := Aside0.mk (Kd.R_mono (ok' := fun k_ => True) ho0 (fun k_ hk_ => trivial)); have n1_ := Aside0.mk (hb); clear HB; clear HO_3; have HO104 := n0_; have HB := n1_; clear n0_ n1_; (try clear hb); (try clear hkp); (try clear ho0)))
        go_ret
        exact ⟨_, by first | rfl | (simp [errW_none, errW_some] <;> rfl) | (simp [*, errW_none, errW_some] <;> rfl), by (with_reducible repeat (first | apply Kd.R_alloc | apply Kd.R_drewN | apply Kd.R_drew)); exact HO104.out, by repeat (first | (with_reducible first | exact HB.out | apply below_alloc | apply pw_below_drewN | apply below_drew1) | exact HB.out)⟩

def impl_valueAt.l0 : Nat → ByteArray → List (S80) → Int → Int → Option (Int × Bool)
  | 0, _, _, _, _ => none
  | k + 1, x1, x8, x9, x10 => if x10 < x9 then (if 0 ≤ x10 then (if x10 < (x8.length : Int) then (if ((rd_T80 x8 x10).f0).toList = x1.toList then (some ((rd_T80 x8 x10).f1, true)) else (impl_valueAt.l0 k x1 x8 x9 (wrap64 (x10 + 1)))) else (none)) else (none)) else (some (0, false))
def impl_valueAt.f (k : Nat) (l0 : List (S80)) (a1 : ByteArray) : Option (Int × Bool) := impl_valueAt.l0 k a1 l0 (l0.length : Int) 0
set_option maxHeartbeats 8000000 in
set_option maxRecDepth 100000 in
theorem impl_valueAt.calls (k : Nat) (A0 : Option Addr) (c0 : Nat) (l0 : List (S80)) (a1 : ByteArray) (r1 : Int) (r2 : Bool) (w : World) (hr0 : Kd.C k80 w A0 l0.length l0) (hc0 : l0.length ≤ c0) (h : impl_valueAt.f k l0 a1 = some (r1, r2)) :
    Calls Try.prog 119 #[.slice A0 l0.length c0, .string a1] w fun e w' => e = .returned (.tuple #[.int .i64 r1, .bool r2]) ∧ Below w.heap.size w w' := by
  have hu80 := Try.underlying80
  have HR0 := Aside0.mk hr0
  have HC0 := Aside0.mk hc0
  clear hr0 hc0
  have HB := Aside0.mk (Below.refl w.heap.size w)
  have H : (impl_valueAt.l0 k a1 l0 (l0.length : Int) 0) = some (r1, r2) := h
  clear h
  have H' := Aside0.mk H
  clear H
  go_enter Try.func119, Try.ntmps119
  go_wp2
  go_loopg [10] k (fun kq v10 w' => ∃ (x10_1 : Int), v10 = .int .i64 x10_1 ∧ Aside0 (impl_valueAt.l0 kq a1 l0 (l0.length : Int) x10_1 = some (r1, r2)) ∧ Aside0 (kq ≤ k) ∧ Aside0 (Below w.heap.size w w'))
  case atStart => exact ⟨(0), (by first | rfl | (simp; done) | (simp [*]; done)), H', ⟨Nat.le_refl _⟩, ⟨by repeat (first | (with_reducible first | exact HB.out | apply below_alloc | apply pw_below_drewN | apply below_drew1) | exact HB.out)⟩⟩
  case round =>
    clear H'
    try clear c1
    try clear p2
    obtain ⟨x10_1, rfl, HA, HK1, HB⟩ := hrel
    cases gk with
    | zero => exact absurd HA.out (by simp [impl_valueAt.l0])
    | succ k1 =>
      have H := HA.out
      clear HA
      simp only [impl_valueAt.l0] at H
      by_cases c3 : x10_1 < (l0.length : Int)
      · rw [if_pos c3] at H
        have c3b0 : decide (x10_1 < (l0.length : Int)) = true := decide_eq_true c3
        clear c3
        by_cases c4 : 0 ≤ x10_1
        · rw [if_pos c4] at H
          have c4b0 : decide (0 ≤ x10_1) = true := decide_eq_true c4
          clear c4
          by_cases c5 : x10_1 < (l0.length : Int)
          · rw [if_pos c5] at H
            have c5b0 : decide (x10_1 < (l0.length : Int)) = true := decide_eq_true c5
            clear c5
            by_cases c6 : ((rd_T80 l0 x10_1).f0).toList = a1.toList
            · rw [if_pos c6] at H
              have c6b0 : (((rd_T80 l0 x10_1).f0).toList == a1.toList) = true := beq_iff_eq.mpr c6
              have c6b1 : (((rd_T80 l0 x10_1).f0).toList != a1.toList) = false := bne_eq_false_iff_eq.mpr c6
              clear c6
              simp only [Option.some.injEq, Prod.mk.injEq] at H
              obtain ⟨rfl, rfl⟩ := H
              have p101 : 0 ≤ (x10_1 : Int) := of_decide_eq_true (by first | (with_reducible assumption) | assumption)
              have q101 : x10_1 < (l0.length : Int) := of_decide_eq_true (by first | (with_reducible assumption) | assumption)
              obtain ⟨ad101, e101, hx101_0, hx101_1⟩ := at_T80 HR0.out x10_1 p101 q101
              cases e101
              replace hx101_0 := (HB.out.cell (World.block_lt_of_cell? w _ hx101_0)).trans hx101_0
              replace hx101_1 := (HB.out.cell (World.block_lt_of_cell? w _ hx101_1)).trans hx101_1
              replace p101 := eq_true p101
              replace q101 := eq_true q101
              go_wp2_with (first | ((with_reducible refine gate_dst (N := 7) rfl ?_); refine box_event ?hg (N := 7) ?hd (cs := #[.string (⟨#[]⟩ : ByteArray), .int .i64 0]) (t := 80) ?hr ?_; (case hd => rfl); (case hg => rfl); (case hr => first | (go_simp; done) | (go_simp; rfl)); intro gb102 hg w7 hbox hb; have n0_ := Aside0.mk (below_step (by repeat (first | (with_reducible first | exact HB.out | apply below_alloc | apply pw_below_drewN | apply below_drew1) | exact HB.out)) hb); have n1_ := Aside0.mk (hbox); have n2_ := Aside0.mk ((by rw [hg]; exact (below_size (by repeat (first | (with_reducible first | exact HB.out | apply below_alloc | apply pw_below_drewN | apply below_drew1) | exact HB.out))) : w.heap.size ≤ gb102)); have n3_ := Aside0.mk ((by rw [hg]; exact (below_size (by repeat (first | (with_reducible first | exact HB.out | apply below_alloc | apply pw_below_drewN | apply below_drew1) | exact HB.out))) : w.heap.size ≤ gb102)); clear HB; have HB := n0_; have BK102 := n1_; have GW102 := n2_; have GE102 := n3_; clear n0_ n1_ n2_ n3_; clear hb hbox hg; have hcz8_0 : w7.cell? ⟨gb102, 0, none⟩ = some (.string (⟨#[]⟩ : ByteArray)) := (blk_cell BK102.out 0).trans rfl; have hcz8_1 : w7.cell? ⟨gb102, 1, none⟩ = some (.int .i64 0) := (blk_cell BK102.out 1).trans rfl; have hfz8_0 := blk_frozen BK102.out 0; have hfz8_1 := blk_frozen BK102.out 1))
              go_ret2
              exact ⟨by first | rfl | (simp [errW_none, errW_some] <;> rfl) | (simp [*, errW_none, errW_some] <;> rfl), by repeat (first | (with_reducible first | exact HB.out | apply below_alloc | apply pw_below_drewN | apply below_drew1 | refine below_set ?_ GE102.out) | exact HB.out)⟩
            · rw [if_neg c6] at H
              have c6b0 : (((rd_T80 l0 x10_1).f0).toList == a1.toList) = false := beq_eq_false_iff_ne.mpr c6
              have c6b1 : (((rd_T80 l0 x10_1).f0).toList != a1.toList) = true := bne_iff_ne.mpr c6
              have H' := Aside0.mk H
              clear H
              have p101 : 0 ≤ (x10_1 : Int) := of_decide_eq_true (by first | (with_reducible assumption) | assumption)
              have q101 : x10_1 < (l0.length : Int) := of_decide_eq_true (by first | (with_reducible assumption) | assumption)
              obtain ⟨ad101, e101, hx101_0, hx101_1⟩ := at_T80 HR0.out x10_1 p101 q101
              cases e101
              replace hx101_0 := (HB.out.cell (World.block_lt_of_cell? w _ hx101_0)).trans hx101_0
              replace hx101_1 := (HB.out.cell (World.block_lt_of_cell? w _ hx101_1)).trans hx101_1
              replace p101 := eq_true p101
              replace q101 := eq_true q101
              go_wp2_with (first | ((with_reducible refine gate_dst (N := 7) rfl ?_); refine box_event ?hg (N := 7) ?hd (cs := #[.string (⟨#[]⟩ : ByteArray), .int .i64 0]) (t := 80) ?hr ?_; (case hd => rfl); (case hg => rfl); (case hr => first | (go_simp; done) | (go_simp; rfl)); intro gb102 hg w9 hbox hb; have n0_ := Aside0.mk (below_step (by repeat (first | (with_reducible first | exact HB.out | apply below_alloc | apply pw_below_drewN | apply below_drew1) | exact HB.out)) hb); have n1_ := Aside0.mk (hbox); have n2_ := Aside0.mk ((by rw [hg]; exact (below_size (by repeat (first | (with_reducible first | exact HB.out | apply below_alloc | apply pw_below_drewN | apply below_drew1) | exact HB.out))) : w.heap.size ≤ gb102)); have n3_ := Aside0.mk ((by rw [hg]; exact (below_size (by repeat (first | (with_reducible first | exact HB.out | apply below_alloc | apply pw_below_drewN | apply below_drew1) | exact HB.out))) : w.heap.size ≤ gb102)); clear HB; have HB := n0_; have BK102 := n1_; have GW102 := n2_; have GE102 := n3_; clear n0_ n1_ n2_ n3_; clear hb hbox hg; have hcz10_0 : w9.cell? ⟨gb102, 0, none⟩ = some (.string (⟨#[]⟩ : ByteArray)) := (blk_cell BK102.out 0).trans rfl; have hcz10_1 : w9.cell? ⟨gb102, 1, none⟩ = some (.int .i64 0) := (blk_cell BK102.out 1).trans rfl; have hfz10_0 := blk_frozen BK102.out 0; have hfz10_1 := blk_frozen BK102.out 1))
              go_roundg k1
              case measure => have := HK1.out; omega
              case rel => exact ⟨(wrap64 (x10_1 + 1)), (by first | rfl | (simp; done) | (simp [*]; done)), H', ⟨by have := HK1.out; omega⟩, ⟨by repeat (first | (with_reducible first | exact HB.out | apply below_alloc | apply pw_below_drewN | apply below_drew1 | refine below_set ?_ GE102.out) | exact HB.out)⟩⟩
          · rw [if_neg c5] at H
            exact absurd H (by simp)
        · rw [if_neg c4] at H
          exact absurd H (by simp)
      · rw [if_neg c3] at H
        have c3b0 : decide (x10_1 < (l0.length : Int)) = false := decide_eq_false c3
        clear c3
        simp only [Option.some.injEq, Prod.mk.injEq] at H
        obtain ⟨rfl, rfl⟩ := H
        go_wp2
        go_ret2
        exact ⟨by first | rfl | (simp [errW_none, errW_some] <;> rfl) | (simp [*, errW_none, errW_some] <;> rfl), by repeat (first | (with_reducible first | exact HB.out | apply below_alloc | apply pw_below_drewN | apply below_drew1) | exact HB.out)⟩

def impl_thingAt.f (k : Nat) (l0 : List (S80)) (a1 : ByteArray) : Option (Int × Bool) := (impl_valueAt.f k l0 a1).bind fun bt102 => (some (bt102.1, bt102.2))
set_option maxHeartbeats 8000000 in
set_option maxRecDepth 100000 in
theorem impl_thingAt.calls (k : Nat) (A0 : Option Addr) (c0 : Nat) (l0 : List (S80)) (a1 : ByteArray) (r1 : Int) (r2 : Bool) (w : World) (hr0 : Kd.C k80 w A0 l0.length l0) (hc0 : l0.length ≤ c0) (h : impl_thingAt.f k l0 a1 = some (r1, r2)) :
    Calls Try.prog 71 #[.slice A0 l0.length c0, .string a1] w fun e w' => e = .returned (.agg #[.int .i64 r1, .bool r2]) ∧ Below w.heap.size w w' := by
  have hu102 := Try.underlying102
  have HR0 := Aside0.mk hr0
  have HC0 := Aside0.mk hc0
  clear hr0 hc0
  have HB := Aside0.mk (Below.refl w.heap.size w)
  have H : ((impl_valueAt.f k l0 a1).bind fun bt102 => (some (bt102.1, bt102.2))) = some (r1, r2) := h
  clear h
  replace H := Option.bind_eq_some_iff.mp H
  obtain ⟨⟨t102, t103⟩, A30, H⟩ := H
  replace H : (some (t102, t103)) = some (r1, r2) := H
  have A3 := Aside0.mk A30
  clear A30
  simp only [Option.some.injEq, Prod.mk.injEq] at H
  obtain ⟨rfl, rfl⟩ := H
  go_enter Try.func71, Try.ntmps71
  go_wp2_with (first | ((with_reducible refine gate_dst (N := 4) rfl ?_); refine box_event ?hg (N := 4) ?hd (cs := #[.int .i64 0, .bool false]) (t := 102) ?hr ?_; (case hd => rfl); (case hg => rfl); (case hr => first | (go_simp; done) | (go_simp; rfl)); intro gb101 hg w4 hbox hb; have n0_ := Aside0.mk (below_step (by repeat (first | (with_reducible first | exact HB.out | apply below_alloc | apply pw_below_drewN | apply below_drew1) | exact HB.out)) hb); have n1_ := Aside0.mk (hbox); have n2_ := Aside0.mk ((by rw [hg]; exact (below_size (by repeat (first | (with_reducible first | exact HB.out | apply below_alloc | apply pw_below_drewN | apply below_drew1) | exact HB.out))) : w.heap.size ≤ gb101)); have n3_ := Aside0.mk ((by rw [hg]; exact (below_size (by repeat (first | (with_reducible first | exact HB.out | apply below_alloc | apply pw_below_drewN | apply below_drew1) | exact HB.out))) : w.heap.size ≤ gb101)); clear HB; have HB := n0_; have BK101 := n1_; have GW101 := n2_; have GE101 := n3_; clear n0_ n1_ n2_ n3_; clear hb hbox hg) | ((with_reducible refine gate_callee (f := 119) rfl ?_); refine goesL_ (some 10) rfl rfl Try.func119 (by kernel_rfl) rfl #[.slice A0 l0.length c0, .string a1] rfl (by (try simp only [List.map_toArray, List.map_cons, List.map_nil]); first | done | rfl | (simp only [List.length_drop, List.length_take]; rfl)) ?_; (with_reducible refine (impl_valueAt.calls k _ _ l0 a1 t102 t103 _ ?side1 ?side2 A3.out).mono ?_); (case side1 => repeat (first | exact (Kd.C_below HR0.out HB.out) | (with_reducible refine Kd.C_alloc ?_ _) | (with_reducible refine Kd.C_drewN ?_ _) | (with_reducible refine Kd.C_drew ?_))); (case side2 => exact HC0.out); rintro e w5 ⟨rfl, hb⟩; refine ⟨_, rfl, ?_⟩; have n0_ := Aside0.mk (blk_below (g := gb101) (o := .cells #[.int .i64 0, .bool false] 102 (0, 0)) (by (with_reducible repeat (first | refine blk_drewN ?_ _ | refine blk_drew ?_ | refine blk_alloc ?_ _)); exact BK101.out) hb); have n1_ := Aside0.mk (below_step (by repeat (first | (with_reducible first | exact HB.out | apply below_alloc | apply pw_below_drewN | apply below_drew1 | refine below_set ?_ GE101.out) | exact HB.out)) hb); clear BK101; clear HB; have BK101 := n0_; have HB := n1_; clear n0_ n1_; (try clear hb); (try clear hb2); (try clear hk); (try clear hi); have hcz6_0 : w5.cell? ⟨gb101, 0, none⟩ = some (.int .i64 0) := (blk_cell BK101.out 0).trans rfl; have hcz6_1 : w5.cell? ⟨gb101, 1, none⟩ = some (.bool false) := (blk_cell BK101.out 1).trans rfl; have hfz6_0 := blk_frozen BK101.out 0; have hfz6_1 := blk_frozen BK101.out 1))
  refine bodyPost_ret (results_cell_row rfl _ _ gb101 102 #[.int .i64 t102, .bool t103] (0, 0) _ rfl (by (with_reducible repeat (first | refine blk_drewN ?_ _ | refine blk_drew ?_ | refine blk_alloc ?_ _)); refine blk_put (cs := #[.int .i64 t102, .bool false]) ?_ 1 _ rfl; (with_reducible repeat (first | refine blk_drewN ?_ _ | refine blk_drew ?_ | refine blk_alloc ?_ _)); refine blk_put (cs := #[.int .i64 0, .bool false]) ?_ 0 _ rfl; (with_reducible repeat (first | refine blk_drewN ?_ _ | refine blk_drew ?_ | refine blk_alloc ?_ _)); exact BK101.out) Try.underlying102 rfl (by kernel_rfl)) rfl ?_
  exact ⟨by first | rfl | (simp [errW_none, errW_some] <;> rfl) | (simp [*, errW_none, errW_some] <;> rfl), by repeat (first | (with_reducible first | exact HB.out | apply below_alloc | apply pw_below_drewN | apply below_drew1 | refine below_set ?_ GE101.out) | exact HB.out)⟩

end Go.Proofs.Ytocegmkifmdlcaa.P

namespace Go.Proofs.Ytocegmkifmdlcaa.P
open Go.RowKit Go.Sort Go.Proofs.YtocegmkifmdlcaaW.PrintWords Go.Proofs.YtocegmkifmdlcaaW.PrintLast Go.Proofs.YtocegmkifmdlcaaW.PrintMore
theorem own_cut {α : Type} {enc : α → Value} {h1 : ∀ x, (enc x).oneCell' = true} {e base n cap g i : Nat} {w0 w W : World} {P0 : Nat → Prop} {xs : List α} {zs : List Value}
    (hb0 : base = w0.heap.size) (hB : Below w0.heap.size w0 w) (ho : (Kd.scalar enc h1).R e w base P0 (.slice (some ⟨g, 0, none⟩) n cap) xs) (hn : xs.length = n) (hi : i ≤ n) (hz : i + zs.length ≤ n) (hW : W = w.setCells g i zs) :
    (Kd.scalar enc h1).R e W base P0 (.slice (some ⟨g, 0, none⟩) i cap) (xs.take i) ∧ Below w0.heap.size w0 W ∧ Kept w W P0 := by
  have hown := Kd.own_of_R ho
  have hp : P0 g := ho.1 g rfl
  rw [hn] at hown
  obtain ⟨_, hn2 | ⟨g', cap', cur, hv, hbase, hh, hcap, hmax, hsz, htk⟩⟩ := hown
  · exact absurd hn2.1 (by simp)
  simp only [Value.slice.injEq, Option.some.injEq, Addr.mk.injEq, and_true, true_and] at hv
  obtain ⟨rfl, rfl⟩ := hv
  have hgl : g < w.heap.size := (Array.getElem?_eq_some_iff.1 hh).1
  subst hW
  obtain ⟨cur', h3, h4, h5⟩ := setCells_row zs i w cur hh (by omega)
  obtain ⟨s1, s2, s3, s4⟩ := setCells_same g zs i w
  have hl : (xs.take i).length = i := by rw [List.length_take]; omega
  refine ⟨?_, ?_, ?_⟩
  · refine Kd.R_of_own ⟨by simp [encs], .inr ⟨g, cap, cur', by rw [hl], hbase, h3, by omega, hmax, by rw [h4]; exact hsz, ?_⟩⟩ (fun k hk => ?_)
    · rw [Nat.mul_one] at htk ⊢
      have hcl : i ≤ cur.toList.length := by rw [Array.length_toList]; omega
      rw [hl, h5, List.append_assoc, List.take_append_of_le_length (by rw [List.length_take]; omega), List.take_take, Nat.min_self]
      have := congrArg (List.take i) htk
      rw [List.take_take, Nat.min_eq_left hi] at this
      rw [this]; simp [encs, List.map_take]
    · have : g = k := by simpa [Value.ownBlock] using hk
      subst this; exact hp
  · refine ⟨by rw [s1]; exact hB.os, by rw [s2]; exact hB.tape, by rw [s3]; exact hB.output, by rw [s4]; exact hB.size, fun k hk => ?_⟩
    rw [setCells_far zs i k (by omega)]; exact hB.block k hk
  · exact ⟨by rw [s4]; exact Nat.le_refl _, fun k hk hp2 => setCells_far zs i k (fun e2 => hp2 (by rw [e2]; exact hp))⟩
def Hit {α : Type} (q : α → Bool) (l : List α) (n : Int) : Prop := (n = -1 ∧ ∀ j (_ : j < l.length), q l[j] = false) ∨ ∃ k, ∃ _ : k < l.length, n = (k : Int) ∧ q l[k] = true ∧ ∀ j (_ : j < l.length), j < k → q l[j] = false
theorem hit_some {α : Type} (q : α → Bool) : ∀ l : List α, ∃ n, Hit q l n
  | [] => ⟨-1, .inl ⟨rfl, fun j hj => absurd hj (Nat.not_lt_zero _)⟩⟩
  | x :: r => by
    cases hx : q x with
    | true => exact ⟨0, .inr ⟨0, by simp, rfl, hx, fun j _ hj => absurd hj (Nat.not_lt_zero _)⟩⟩
    | false =>
      obtain ⟨n, ⟨rfl, h⟩ | ⟨k, hk, rfl, ht, ha⟩⟩ := hit_some q r
      · refine ⟨-1, .inl ⟨rfl, fun j hj => ?_⟩⟩
        cases j with
        | zero => exact hx
        | succ j => exact h j (by simpa using hj)
      · refine ⟨((k + 1 : Nat) : Int), .inr ⟨k + 1, by simpa using hk, rfl, ht, fun j hj hjk => ?_⟩⟩
        cases j with
        | zero => exact hx
        | succ j => exact ha j (by simpa using hj) (by omega)
theorem hit_at {α : Type} {q : α → Bool} {l : List α} {n : Int} (h : Hit q l n) {k : Nat} (hk : k < l.length) (ht : q l[k] = true) (ha : ∀ j (_ : j < l.length), j < k → q l[j] = false) : n = (k : Int) := by
  rcases h with ⟨_, h⟩ | ⟨k', hk', e, ht', ha'⟩
  · exact absurd (h k hk) (by rw [ht]; simp)
  · rcases Nat.lt_trichotomy k k' with h2 | h2 | h2
    · exact absurd (ha' k hk h2) (by rw [ht]; simp)
    · rw [e, h2]
    · exact absurd (ha k' hk' h2) (by rw [ht']; simp)
theorem hit_none {α : Type} {q : α → Bool} {l : List α} {n : Int} (h : Hit q l n) (ha : ∀ j (_ : j < l.length), q l[j] = false) : n = -1 := by
  rcases h with ⟨e, _⟩ | ⟨k', hk', e, ht', ha'⟩
  · exact e
  · exact absurd (ha k' hk') (by rw [ht']; simp)
theorem filter_all {α : Type} {q : α → Bool} {l : List α} (h : ∀ j (_ : j < l.length), q l[j] = false) : l.filter (fun x => !q x) = l := by
  rw [List.filter_eq_self]
  intro x hx
  obtain ⟨j, hj, rfl⟩ := List.mem_iff_getElem.1 hx
  rw [h j hj]; rfl
theorem filter_start {α : Type} {q : α → Bool} {l : List α} {k : Nat} (hk : k < l.length) (ht : q l[k] = true) (h : ∀ j (_ : j < l.length), j < k → q l[j] = false) : l.take k = (l.take (k + 1)).filter (fun x => !q x) := by
  rw [List.take_succ_eq_append_getElem hk, List.filter_append, filter_all (l := l.take k) (fun j hj => by
    rw [List.length_take] at hj
    rw [List.getElem_take]; exact h j (by omega) (by omega))]
  simp [ht]
theorem filter_drop {α : Type} {q : α → Bool} {l L : List α} {i j : Nat} (hj : j < l.length) (hq : q l[j] = true) (h : L.take i = (l.take j).filter (fun x => !q x)) : L.take i = (l.take (j + 1)).filter (fun x => !q x) := by
  rw [List.take_succ_eq_append_getElem hj, List.filter_append, ← h]
  simp [hq]
theorem filter_keep {α : Type} {q : α → Bool} {l L : List α} {i j : Nat} (hj : j < l.length) (hi : i < L.length) (hq : q l[j] = false) (h : L.take i = (l.take j).filter (fun x => !q x)) : (L.set i l[j]).take (i + 1) = (l.take (j + 1)).filter (fun x => !q x) := by
  rw [List.take_succ_eq_append_getElem hj, List.filter_append, ← h, List.take_succ_eq_append_getElem (by simpa using hi), List.take_set_of_le (Nat.le_refl i)]
  simp [hq]
theorem drop_same {α : Type} {l L : List α} {j : Nat} (hj : j < l.length) (hL : j < L.length) (h : L.drop j = l.drop j) : L[j] = l[j] ∧ L.drop (j + 1) = l.drop (j + 1) := by
  rw [List.drop_eq_getElem_cons hj, List.drop_eq_getElem_cons hL] at h
  injection h with h1 h2
  exact ⟨h1, h2⟩
end Go.Proofs.Ytocegmkifmdlcaa.P

namespace Go.Proofs.Ytocegmkifmdlcaa.P
open Go.RowKit Go.Proofs.YtocegmkifmdlcaaW.PrintWords Go.Proofs.YtocegmkifmdlcaaW.PrintLast Go.Proofs.YtocegmkifmdlcaaW.PrintMore
attribute [local go_sem] max2_int min2_int max_two min_two max_three min_three max_four min_four str_leq str_gtr str_geq
set_option linter.unusedVariables false
set_option linter.unusedSimpArgs false

set_option maxHeartbeats 8000000
set_option maxRecDepth 100000
theorem impl_conflictsOf.cnt : ∀ (l : List Bool) (i : Nat), l[i]? = some false → (l.set i true).countP (fun b => !b) + 1 = l.countP (fun b => !b)
  | [], i, h => by simp at h
  | b :: r, 0, h => by
    simp at h
    subst h
    simp
  | b :: r, i + 1, h => by
    have ih := impl_conflictsOf.cnt r i (by simpa using h)
    rw [List.set_cons_succ, List.countP_cons, List.countP_cons]
    omega
/-- A region in whatever order, by a condition that each operation keeps. -/
theorem impl_conflictsOf.inv {P : Program} {ops : Array Oper} {Q : Exit → Act → World → Prop} {md : Region.Mode} (I : Array Bool → Act → World → Prop)
    (hsz : ∀ l a w, I l a w → l.size = ops.size) (hdone : ∀ l a w, I l a w → Region.ready md ops l = [] → Q .normal a w)
    (hstep : ∀ l a w, I l a w → ∀ i ∈ Region.ready md ops l, wpOp P ops Q i (fun a' w' => I (l.setIfInBounds i true) a' w') a w) :
    ∀ (fuel : Nat) (l : Array Bool) (a : Act) (w : World), I l a w → l.toList.countP (fun b => !b) ≤ fuel → wpAny P md ops Q fuel l a w := by
  have hr : ∀ l i, i ∈ Region.ready md ops l → i < ops.size ∧ l.getD i true = false := fun l i hi => by
    unfold Region.ready at hi
    obtain ⟨h1, h2⟩ := List.mem_filter.1 hi
    rw [Bool.and_eq_true] at h2
    exact ⟨List.mem_range.1 h1, by simpa using h2.1⟩
  have hf : ∀ (l : Array Bool) i, l.getD i true = false → l.toList[i]? = some false := fun l i h => by
    rw [Array.getElem?_toList]
    rw [Array.getD_eq_getD_getElem?] at h
    cases hx : l[i]? with
    | none => rw [hx] at h; cases h
    | some b => rw [hx] at h; simp at h; rw [h]
  intro fuel
  induction fuel with
  | zero =>
    intro l a w hI hc
    have hnil : Region.ready md ops l = [] := List.eq_nil_iff_forall_not_mem.2 (fun i hi => by
      have := impl_conflictsOf.cnt l.toList i (hf l i (hr l i hi).2)
      omega)
    exact ⟨hnil, hdone l a w hI hnil⟩
  | succ fuel ih =>
    intro l a w hI hc
    refine ⟨hdone l a w hI, fun i hi => wpOp_mono (fun a' w' h => ih _ _ _ h ?_) (hstep l a w hI i hi)⟩
    have := impl_conflictsOf.cnt l.toList i (hf l i (hr l i hi).2)
    rw [Array.toList_setIfInBounds]
    omega
theorem impl_conflictsOf.dep {ops : Array Oper} {l : Array Bool} {i : Nat} {o : Oper} {e : Edge} (hi : i ∈ Region.ready .any ops l) (ho : ops[i]? = some o) (he : e ∈ o.after.toList) (hb : Region.binds .any e = true) : l.getD e.on false = true := by
  unfold Region.ready at hi
  have h2 := (List.mem_filter.1 hi).2
  rw [Bool.and_eq_true, ho] at h2
  have h3 : (o.after.all fun e => !Region.binds .any e || l.getD e.on false) = true := by simpa using h2.2
  rw [← Array.all_toList] at h3
  have h4 := List.all_eq_true.1 h3 e he
  rw [hb] at h4
  simpa using h4
theorem impl_conflictsOf.new {ops : Array Oper} {l : Array Bool} {i : Nat} (hi : i ∈ Region.ready .any ops l) : l.getD i true = false := by
  unfold Region.ready at hi
  have h2 := (List.mem_filter.1 hi).2
  rw [Bool.and_eq_true] at h2
  simpa using h2.1
theorem impl_conflictsOf.all {ops : Array Oper} {l : Array Bool} {i : Nat} {o : Oper} (hr : Region.ready .any ops l = []) (hs : i < l.size) (ho : ops[i]? = some o) (ha : (o.after.all fun e => !Region.binds .any e || l.getD e.on false) = true) : l.getD i false = true := by
  have hi : i < ops.size := by
    by_cases h : i < ops.size
    · exact h
    · rw [Array.getElem?_eq_none (by omega)] at ho; cases ho
  cases hx : l.getD i false
  · have h1 : l.getD i true = false := by
      rw [Array.getD_eq_getD_getElem?, Array.getElem?_eq_getElem hs] at hx ⊢
      exact hx
    have : i ∈ Region.ready .any ops l := by
      unfold Region.ready
      refine List.mem_filter.2 ⟨List.mem_range.2 hi, ?_⟩
      rw [h1, ho]
      simpa using ha
    rw [hr] at this
    cases this
  · rfl
theorem impl_conflictsOf.gdo {l : Array Bool} {i j : Nat} (h : i ≠ j) : (l.setIfInBounds i true).getD j false = l.getD j false := by
  rw [Array.getD_eq_getD_getElem?, Array.getD_eq_getD_getElem?, Array.getElem?_setIfInBounds_ne h]
theorem impl_conflictsOf.gds {l : Array Bool} {i : Nat} (h : i < l.size) : (l.setIfInBounds i true).getD i false = true := by
  rw [Array.getD_eq_getD_getElem?, Array.getElem?_setIfInBounds_self_of_lt h]; rfl
theorem impl_conflictsOf.gdf {l : Array Bool} {i : Nat} (hs : i < l.size) (h : l.getD i true = false) : l.getD i false = false := by
  rw [Array.getD_eq_getD_getElem?, Array.getElem?_eq_getElem hs] at h ⊢
  exact h
def impl_conflictsOf.F (l : Array Bool) (j : Nat) (p : Prop) : Prop := l.getD j false = true → p
theorem impl_conflictsOf.Fo {l : Array Bool} {i j : Nat} {p : Prop} (h : i ≠ j) (hp : impl_conflictsOf.F l j p) : impl_conflictsOf.F (l.setIfInBounds i true) j p := fun e => hp ((impl_conflictsOf.gdo h).symm.trans e)
def impl_conflictsOf.cc (l : Array Bool) (k : Nat) (X : Array Value) : Array Value := if l.getD k false = true then X else #[.int .i64 0, .bool false]
def impl_conflictsOf.BK (w W : World) (v : Value) (cs : Array Value) : Prop := ∃ g : Nat, v = .pointer (some ⟨g, 0, none⟩) ∧ w.heap.size ≤ g ∧ W.heap[g]? = some (.cells cs 102 (0, 0))
theorem impl_conflictsOf.cco {l : Array Bool} {i k : Nat} {X : Array Value} (h : i ≠ k) : impl_conflictsOf.cc (l.setIfInBounds i true) k X = impl_conflictsOf.cc l k X := by unfold impl_conflictsOf.cc; rw [impl_conflictsOf.gdo h]
structure impl_conflictsOf.RI (w : World) (nm : ByteArray) (A B C : Addr) (s0 s1 s2 : Value) (X Y Z : Array Value) (v6 v7 v8 v9 v10 v11 v12 v13 v14 v15 v16 v17 : Value) (l : Array Bool) (W : World) : Prop where
  sz : l.size = 15
  bl : Below w.heap.size w W
  c0 : impl_conflictsOf.F l 0 (v9 = s0)
  c1 : impl_conflictsOf.F l 1 (v10 = .string nm)
  c2 : impl_conflictsOf.F l 2 (v11 = .agg X)
  c3 : impl_conflictsOf.F l 3 (v12 = s1)
  c4 : impl_conflictsOf.F l 4 (v13 = .string nm)
  c5 : impl_conflictsOf.F l 5 (v14 = .agg Y)
  c6 : impl_conflictsOf.F l 6 (v15 = s2)
  c7 : impl_conflictsOf.F l 7 (v16 = .string nm)
  c8 : impl_conflictsOf.F l 8 (v17 = .agg Z)
  c9 : impl_conflictsOf.F l 9 (impl_conflictsOf.BK w W v6 (impl_conflictsOf.cc l 12 X))
  c10 : impl_conflictsOf.F l 10 (impl_conflictsOf.BK w W v7 (impl_conflictsOf.cc l 13 Y))
  c11 : impl_conflictsOf.F l 11 (impl_conflictsOf.BK w W v8 (impl_conflictsOf.cc l 14 Z))
  d0 : impl_conflictsOf.F l 9 (impl_conflictsOf.F l 10 (v6 ≠ v7))
  d1 : impl_conflictsOf.F l 9 (impl_conflictsOf.F l 11 (v6 ≠ v8))
  d2 : impl_conflictsOf.F l 10 (impl_conflictsOf.F l 11 (v7 ≠ v8))
  e0 : impl_conflictsOf.F l 12 (l.getD 9 false = true)
  e1 : impl_conflictsOf.F l 13 (l.getD 10 false = true)
  e2 : impl_conflictsOf.F l 14 (l.getD 11 false = true)
theorem impl_conflictsOf.BKb {w W W1 : World} {v : Value} {cs : Array Value} (h : impl_conflictsOf.BK w W v cs) (hb : Below W.heap.size W W1) : impl_conflictsOf.BK w W1 v cs := by
  obtain ⟨g, h1, h2, h3⟩ := h
  exact ⟨g, h1, h2, blk_below h3 hb⟩
theorem impl_conflictsOf.BKf {w W : World} {v : Value} {cs cs' : Array Value} {g : Nat} (h : impl_conflictsOf.BK w W v cs) (hg : W.heap[g]? = some (.cells cs' 102 (0, 0))) (hne : v ≠ .pointer (some ⟨g, 0, none⟩)) (u u' : Value) : impl_conflictsOf.BK w ((W.setCell ⟨g, 0, none⟩ u).setCell ⟨g, 1, none⟩ u') v cs := by
  obtain ⟨q, h1, h2, h3⟩ := h
  have hq : q ≠ g := fun e => hne (by rw [h1, e])
  exact ⟨q, h1, h2, blk_far (blk_far h3 hq u) hq u'⟩
theorem impl_conflictsOf.BKn {w W : World} {v : Value} {cs : Array Value} (h : impl_conflictsOf.BK w W v cs) : v ≠ .pointer (some ⟨W.heap.size, 0, none⟩) := by
  obtain ⟨q, h1, h2, h3⟩ := h
  have := blk_lt h3
  rw [h1]
  intro e
  injection e with e; injection e with e; injection e with e
  omega

set_option maxHeartbeats 64000000 in
theorem impl_conflictsOf.clo (A0 A1 A2 : Option Addr) (n0 n1 n2 c0 c1 c2 : Nat) (nm : ByteArray) (A B C : Addr) (w : World) (h1 : w.cell? A = some (.slice A0 n0 c0)) (h2 : w.cell? B = some (.slice A1 n1 c1)) (h3 : w.cell? C = some (.slice A2 n2 c2)) (x1 y1 z1 : Int) (x2 y2 z2 : Bool)
    (hx : ∀ W, Below w.heap.size w W → Calls Try.prog 71 #[.slice A0 n0 c0, .string nm] W fun e W' => e = .returned (.agg #[.int .i64 x1, .bool x2]) ∧ Below W.heap.size W W')
    (hy : ∀ W, Below w.heap.size w W → Calls Try.prog 71 #[.slice A1 n1 c1, .string nm] W fun e W' => e = .returned (.agg #[.int .i64 y1, .bool y2]) ∧ Below W.heap.size W W')
    (hz : ∀ W, Below w.heap.size w W → Calls Try.prog 71 #[.slice A2 n2 c2, .string nm] W fun e W' => e = .returned (.agg #[.int .i64 z1, .bool z2]) ∧ Below W.heap.size W W') :
    Calls Try.prog 116 #[.string nm, .pointer (some A), .pointer (some B), .pointer (some C)] w fun e w' => e = .returned (.bool (((y1 == z1) && (y2 == z2)) || ((y1 == x1) && (y2 == x2)) || ((z1 == x1) && (z2 == x2)))) ∧ Below w.heap.size w w' := by
  have HX := Aside0.mk hx
  have HY := Aside0.mk hy
  have HZ := Aside0.mk hz
  have HA := Aside0.mk h1
  have HBc := Aside0.mk h2
  have HC := Aside0.mk h3
  clear hx hy hz h1 h2 h3
  go_enter Try.func116, Try.ntmps116
  go_wp2_with fail
  rename_i Q0 K0 hK0
  have HK := Aside0.mk hK0
  clear hK0
  refine wp_region_any (by kernel_rfl) ?_
  refine impl_conflictsOf.inv (fun l a W => ∃ v6 v7 v8 v9 v10 v11 v12 v13 v14 v15 v16 v17 : Value, a = ⟨#[.string nm, .pointer (some A), .pointer (some B), .pointer (some C), undef, .bool false, v6, v7, v8, v9, v10, v11, v12, v13, v14, v15, v16, v17, undef, undef, undef, undef, undef, undef, undef, undef, undef, undef, undef, undef, undef], []⟩ ∧ impl_conflictsOf.RI w nm A B C (.slice A0 n0 c0) (.slice A1 n1 c1) (.slice A2 n2 c2) #[.int .i64 x1, .bool x2] #[.int .i64 y1, .bool y2] #[.int .i64 z1, .bool z2] v6 v7 v8 v9 v10 v11 v12 v13 v14 v15 v16 v17 l W) ?_ ?_ ?_ _ _ _ _ ?_ ?_
  · rintro l a W ⟨v6, v7, v8, v9, v10, v11, v12, v13, v14, v15, v16, v17, rfl, H⟩
    exact H.sz
  · rintro l a W ⟨v6, v7, v8, v9, v10, v11, v12, v13, v14, v15, v16, v17, rfl, H⟩ hr
    have hs := H.sz
    have g0 : l.getD 0 false = true := impl_conflictsOf.all hr (by omega) rfl (by simp [Region.binds])
    have k0 : l[0]?.getD false = true := by rw [← Array.getD_eq_getD_getElem?]; exact g0
    have g1 : l.getD 1 false = true := impl_conflictsOf.all hr (by omega) rfl (by simp [Region.binds, k0])
    have k1 : l[1]?.getD false = true := by rw [← Array.getD_eq_getD_getElem?]; exact g1
    have g2 : l.getD 2 false = true := impl_conflictsOf.all hr (by omega) rfl (by simp [Region.binds, k0, k1])
    have k2 : l[2]?.getD false = true := by rw [← Array.getD_eq_getD_getElem?]; exact g2
    have g3 : l.getD 3 false = true := impl_conflictsOf.all hr (by omega) rfl (by simp [Region.binds, k0, k1, k2])
    have k3 : l[3]?.getD false = true := by rw [← Array.getD_eq_getD_getElem?]; exact g3
    have g4 : l.getD 4 false = true := impl_conflictsOf.all hr (by omega) rfl (by simp [Region.binds, k0, k1, k2, k3])
    have k4 : l[4]?.getD false = true := by rw [← Array.getD_eq_getD_getElem?]; exact g4
    have g5 : l.getD 5 false = true := impl_conflictsOf.all hr (by omega) rfl (by simp [Region.binds, k0, k1, k2, k3, k4])
    have k5 : l[5]?.getD false = true := by rw [← Array.getD_eq_getD_getElem?]; exact g5
    have g6 : l.getD 6 false = true := impl_conflictsOf.all hr (by omega) rfl (by simp [Region.binds, k0, k1, k2, k3, k4, k5])
    have k6 : l[6]?.getD false = true := by rw [← Array.getD_eq_getD_getElem?]; exact g6
    have g7 : l.getD 7 false = true := impl_conflictsOf.all hr (by omega) rfl (by simp [Region.binds, k0, k1, k2, k3, k4, k5, k6])
    have k7 : l[7]?.getD false = true := by rw [← Array.getD_eq_getD_getElem?]; exact g7
    have g8 : l.getD 8 false = true := impl_conflictsOf.all hr (by omega) rfl (by simp [Region.binds, k0, k1, k2, k3, k4, k5, k6, k7])
    have k8 : l[8]?.getD false = true := by rw [← Array.getD_eq_getD_getElem?]; exact g8
    have g9 : l.getD 9 false = true := impl_conflictsOf.all hr (by omega) rfl (by simp [Region.binds, k0, k1, k2, k3, k4, k5, k6, k7, k8])
    have k9 : l[9]?.getD false = true := by rw [← Array.getD_eq_getD_getElem?]; exact g9
    have g10 : l.getD 10 false = true := impl_conflictsOf.all hr (by omega) rfl (by simp [Region.binds, k0, k1, k2, k3, k4, k5, k6, k7, k8, k9])
    have k10 : l[10]?.getD false = true := by rw [← Array.getD_eq_getD_getElem?]; exact g10
    have g11 : l.getD 11 false = true := impl_conflictsOf.all hr (by omega) rfl (by simp [Region.binds, k0, k1, k2, k3, k4, k5, k6, k7, k8, k9, k10])
    have k11 : l[11]?.getD false = true := by rw [← Array.getD_eq_getD_getElem?]; exact g11
    have g12 : l.getD 12 false = true := impl_conflictsOf.all hr (by omega) rfl (by simp [Region.binds, k0, k1, k2, k3, k4, k5, k6, k7, k8, k9, k10, k11])
    have k12 : l[12]?.getD false = true := by rw [← Array.getD_eq_getD_getElem?]; exact g12
    have g13 : l.getD 13 false = true := impl_conflictsOf.all hr (by omega) rfl (by simp [Region.binds, k0, k1, k2, k3, k4, k5, k6, k7, k8, k9, k10, k11, k12])
    have k13 : l[13]?.getD false = true := by rw [← Array.getD_eq_getD_getElem?]; exact g13
    have g14 : l.getD 14 false = true := impl_conflictsOf.all hr (by omega) rfl (by simp [Region.binds, k0, k1, k2, k3, k4, k5, k6, k7, k8, k9, k10, k11, k12, k13])
    have k14 : l[14]?.getD false = true := by rw [← Array.getD_eq_getD_getElem?]; exact g14
    obtain ⟨a6, rfl, b6, kk6⟩ := H.c9 g9
    obtain ⟨a7, rfl, b7, kk7⟩ := H.c10 g10
    obtain ⟨a8, rfl, b8, kk8⟩ := H.c11 g11
    unfold impl_conflictsOf.cc at kk6 kk7 kk8
    rw [if_pos g12] at kk6
    rw [if_pos g13] at kk7
    rw [if_pos g14] at kk8
    have HB := Aside0.mk H.bl
    have m6_0 : W.cell? ⟨a6, 0, none⟩ = some (.int .i64 x1) := (blk_cell kk6 0).trans rfl
    have m6_1 : W.cell? ⟨a6, 1, none⟩ = some (.bool x2) := (blk_cell kk6 1).trans rfl
    have m7_0 : W.cell? ⟨a7, 0, none⟩ = some (.int .i64 y1) := (blk_cell kk7 0).trans rfl
    have m7_1 : W.cell? ⟨a7, 1, none⟩ = some (.bool y2) := (blk_cell kk7 1).trans rfl
    have m8_0 : W.cell? ⟨a8, 0, none⟩ = some (.int .i64 z1) := (blk_cell kk8 0).trans rfl
    have m8_1 : W.cell? ⟨a8, 1, none⟩ = some (.bool z2) := (blk_cell kk8 1).trans rfl
    clear kk6 kk7 kk8 b6 b7 b8 H hr hs g0 k0 g1 k1 g2 k2 g3 k3 g4 k4 g5 k5 g6 k6 g7 k7 g8 k8 g9 k9 g10 k10 g11 k11 g12 k12 g13 k13 g14 k14
    refine HK.out _ _ ?_
    go_wp2
    all_goals go_ret
    all_goals exact ⟨by first | (simp [*]; done) | (simp [*]; refine ⟨fun h => ?_, fun h => ?_⟩ <;> omega) | (simp [*]; omega) | (simp [*]; intros; omega), HB.out⟩
  · rintro l a W ⟨v6, v7, v8, v9, v10, v11, v12, v13, v14, v15, v16, v17, rfl, H⟩ i hi
    have hn := impl_conflictsOf.new hi
    have hs := H.sz
    have hlt : i < 15 := by
      have := (List.mem_filter.1 hi).1
      exact List.mem_range.1 this
    have hB := H.bl
    have j1 : W.cell? A = some (.slice A0 n0 c0) := pw_cell_below hB HA.out
    have j2 : W.cell? B = some (.slice A1 n1 c1) := pw_cell_below hB HBc.out
    have j3 : W.cell? C = some (.slice A2 n2 c2) := pw_cell_below hB HC.out
    have hcases : i = 0 ∨ i = 1 ∨ i = 2 ∨ i = 3 ∨ i = 4 ∨ i = 5 ∨ i = 6 ∨ i = 7 ∨ i = 8 ∨ i = 9 ∨ i = 10 ∨ i = 11 ∨ i = 12 ∨ i = 13 ∨ i = 14 := by omega
    rcases hcases with rfl | rfl | rfl | rfl | rfl | rfl | rfl | rfl | rfl | rfl | rfl | rfl | rfl | rfl | rfl
    · refine wpOp_step (o := _) rfl (fun K' hK => ?_)
      rw [if_pos (by rfl)]
      go_simp
      exact hK _ _ ⟨_, _, _, _, _, _, _, _, _, _, _, _, rfl, { sz := by rw [Array.size_setIfInBounds]; exact H.sz, c0 := fun _ => rfl, c1 := impl_conflictsOf.Fo (by decide) H.c1, c2 := impl_conflictsOf.Fo (by decide) H.c2, c3 := impl_conflictsOf.Fo (by decide) H.c3, c4 := impl_conflictsOf.Fo (by decide) H.c4, c5 := impl_conflictsOf.Fo (by decide) H.c5, c6 := impl_conflictsOf.Fo (by decide) H.c6, c7 := impl_conflictsOf.Fo (by decide) H.c7, c8 := impl_conflictsOf.Fo (by decide) H.c8, c9 := fun e => by rw [impl_conflictsOf.cco (by decide)]; exact H.c9 ((impl_conflictsOf.gdo (by decide)).symm.trans e), c10 := fun e => by rw [impl_conflictsOf.cco (by decide)]; exact H.c10 ((impl_conflictsOf.gdo (by decide)).symm.trans e), c11 := fun e => by rw [impl_conflictsOf.cco (by decide)]; exact H.c11 ((impl_conflictsOf.gdo (by decide)).symm.trans e), d0 := fun e e2 => H.d0 ((impl_conflictsOf.gdo (by decide)).symm.trans e) ((impl_conflictsOf.gdo (by decide)).symm.trans e2), d1 := fun e e2 => H.d1 ((impl_conflictsOf.gdo (by decide)).symm.trans e) ((impl_conflictsOf.gdo (by decide)).symm.trans e2), d2 := fun e e2 => H.d2 ((impl_conflictsOf.gdo (by decide)).symm.trans e) ((impl_conflictsOf.gdo (by decide)).symm.trans e2), e0 := fun e => (impl_conflictsOf.gdo (by decide)).trans (H.e0 ((impl_conflictsOf.gdo (by decide)).symm.trans e)), e1 := fun e => (impl_conflictsOf.gdo (by decide)).trans (H.e1 ((impl_conflictsOf.gdo (by decide)).symm.trans e)), e2 := fun e => (impl_conflictsOf.gdo (by decide)).trans (H.e2 ((impl_conflictsOf.gdo (by decide)).symm.trans e)), bl := H.bl }⟩
    · refine wpOp_step (o := _) rfl (fun K' hK => ?_)
      rw [if_pos (by rfl)]
      go_simp
      exact hK _ _ ⟨_, _, _, _, _, _, _, _, _, _, _, _, rfl, { sz := by rw [Array.size_setIfInBounds]; exact H.sz, c0 := impl_conflictsOf.Fo (by decide) H.c0, c1 := fun _ => rfl, c2 := impl_conflictsOf.Fo (by decide) H.c2, c3 := impl_conflictsOf.Fo (by decide) H.c3, c4 := impl_conflictsOf.Fo (by decide) H.c4, c5 := impl_conflictsOf.Fo (by decide) H.c5, c6 := impl_conflictsOf.Fo (by decide) H.c6, c7 := impl_conflictsOf.Fo (by decide) H.c7, c8 := impl_conflictsOf.Fo (by decide) H.c8, c9 := fun e => by rw [impl_conflictsOf.cco (by decide)]; exact H.c9 ((impl_conflictsOf.gdo (by decide)).symm.trans e), c10 := fun e => by rw [impl_conflictsOf.cco (by decide)]; exact H.c10 ((impl_conflictsOf.gdo (by decide)).symm.trans e), c11 := fun e => by rw [impl_conflictsOf.cco (by decide)]; exact H.c11 ((impl_conflictsOf.gdo (by decide)).symm.trans e), d0 := fun e e2 => H.d0 ((impl_conflictsOf.gdo (by decide)).symm.trans e) ((impl_conflictsOf.gdo (by decide)).symm.trans e2), d1 := fun e e2 => H.d1 ((impl_conflictsOf.gdo (by decide)).symm.trans e) ((impl_conflictsOf.gdo (by decide)).symm.trans e2), d2 := fun e e2 => H.d2 ((impl_conflictsOf.gdo (by decide)).symm.trans e) ((impl_conflictsOf.gdo (by decide)).symm.trans e2), e0 := fun e => (impl_conflictsOf.gdo (by decide)).trans (H.e0 ((impl_conflictsOf.gdo (by decide)).symm.trans e)), e1 := fun e => (impl_conflictsOf.gdo (by decide)).trans (H.e1 ((impl_conflictsOf.gdo (by decide)).symm.trans e)), e2 := fun e => (impl_conflictsOf.gdo (by decide)).trans (H.e2 ((impl_conflictsOf.gdo (by decide)).symm.trans e)), bl := H.bl }⟩
    · refine wpOp_step (o := _) rfl (fun K' hK => ?_)
      have q1 := H.c0 (impl_conflictsOf.dep hi rfl (.head _) rfl)
      have q2 := H.c1 (impl_conflictsOf.dep hi rfl (.tail _ (.head _)) rfl)
      subst q1 q2
      rw [if_pos (by rfl)]
      go_wp2_with (go_at_call 71; refine (HX.out _ hB).mono ?_; rintro e w1 ⟨rfl, hb⟩)
      exact ⟨_, _, _, _, _, _, _, _, _, _, _, _, rfl, { sz := by rw [Array.size_setIfInBounds]; exact H.sz, c0 := impl_conflictsOf.Fo (by decide) H.c0, c1 := impl_conflictsOf.Fo (by decide) H.c1, c2 := fun _ => rfl, c3 := impl_conflictsOf.Fo (by decide) H.c3, c4 := impl_conflictsOf.Fo (by decide) H.c4, c5 := impl_conflictsOf.Fo (by decide) H.c5, c6 := impl_conflictsOf.Fo (by decide) H.c6, c7 := impl_conflictsOf.Fo (by decide) H.c7, c8 := impl_conflictsOf.Fo (by decide) H.c8, c9 := fun e => by rw [impl_conflictsOf.cco (by decide)]; exact impl_conflictsOf.BKb (H.c9 ((impl_conflictsOf.gdo (by decide)).symm.trans e)) hb, c10 := fun e => by rw [impl_conflictsOf.cco (by decide)]; exact impl_conflictsOf.BKb (H.c10 ((impl_conflictsOf.gdo (by decide)).symm.trans e)) hb, c11 := fun e => by rw [impl_conflictsOf.cco (by decide)]; exact impl_conflictsOf.BKb (H.c11 ((impl_conflictsOf.gdo (by decide)).symm.trans e)) hb, d0 := fun e e2 => H.d0 ((impl_conflictsOf.gdo (by decide)).symm.trans e) ((impl_conflictsOf.gdo (by decide)).symm.trans e2), d1 := fun e e2 => H.d1 ((impl_conflictsOf.gdo (by decide)).symm.trans e) ((impl_conflictsOf.gdo (by decide)).symm.trans e2), d2 := fun e e2 => H.d2 ((impl_conflictsOf.gdo (by decide)).symm.trans e) ((impl_conflictsOf.gdo (by decide)).symm.trans e2), e0 := fun e => (impl_conflictsOf.gdo (by decide)).trans (H.e0 ((impl_conflictsOf.gdo (by decide)).symm.trans e)), e1 := fun e => (impl_conflictsOf.gdo (by decide)).trans (H.e1 ((impl_conflictsOf.gdo (by decide)).symm.trans e)), e2 := fun e => (impl_conflictsOf.gdo (by decide)).trans (H.e2 ((impl_conflictsOf.gdo (by decide)).symm.trans e)), bl := below_step hB hb }⟩
    · refine wpOp_step (o := _) rfl (fun K' hK => ?_)
      rw [if_pos (by rfl)]
      go_simp
      exact hK _ _ ⟨_, _, _, _, _, _, _, _, _, _, _, _, rfl, { sz := by rw [Array.size_setIfInBounds]; exact H.sz, c0 := impl_conflictsOf.Fo (by decide) H.c0, c1 := impl_conflictsOf.Fo (by decide) H.c1, c2 := impl_conflictsOf.Fo (by decide) H.c2, c3 := fun _ => rfl, c4 := impl_conflictsOf.Fo (by decide) H.c4, c5 := impl_conflictsOf.Fo (by decide) H.c5, c6 := impl_conflictsOf.Fo (by decide) H.c6, c7 := impl_conflictsOf.Fo (by decide) H.c7, c8 := impl_conflictsOf.Fo (by decide) H.c8, c9 := fun e => by rw [impl_conflictsOf.cco (by decide)]; exact H.c9 ((impl_conflictsOf.gdo (by decide)).symm.trans e), c10 := fun e => by rw [impl_conflictsOf.cco (by decide)]; exact H.c10 ((impl_conflictsOf.gdo (by decide)).symm.trans e), c11 := fun e => by rw [impl_conflictsOf.cco (by decide)]; exact H.c11 ((impl_conflictsOf.gdo (by decide)).symm.trans e), d0 := fun e e2 => H.d0 ((impl_conflictsOf.gdo (by decide)).symm.trans e) ((impl_conflictsOf.gdo (by decide)).symm.trans e2), d1 := fun e e2 => H.d1 ((impl_conflictsOf.gdo (by decide)).symm.trans e) ((impl_conflictsOf.gdo (by decide)).symm.trans e2), d2 := fun e e2 => H.d2 ((impl_conflictsOf.gdo (by decide)).symm.trans e) ((impl_conflictsOf.gdo (by decide)).symm.trans e2), e0 := fun e => (impl_conflictsOf.gdo (by decide)).trans (H.e0 ((impl_conflictsOf.gdo (by decide)).symm.trans e)), e1 := fun e => (impl_conflictsOf.gdo (by decide)).trans (H.e1 ((impl_conflictsOf.gdo (by decide)).symm.trans e)), e2 := fun e => (impl_conflictsOf.gdo (by decide)).trans (H.e2 ((impl_conflictsOf.gdo (by decide)).symm.trans e)), bl := H.bl }⟩
    · refine wpOp_step (o := _) rfl (fun K' hK => ?_)
      rw [if_pos (by rfl)]
      go_simp
      exact hK _ _ ⟨_, _, _, _, _, _, _, _, _, _, _, _, rfl, { sz := by rw [Array.size_setIfInBounds]; exact H.sz, c0 := impl_conflictsOf.Fo (by decide) H.c0, c1 := impl_conflictsOf.Fo (by decide) H.c1, c2 := impl_conflictsOf.Fo (by decide) H.c2, c3 := impl_conflictsOf.Fo (by decide) H.c3, c4 := fun _ => rfl, c5 := impl_conflictsOf.Fo (by decide) H.c5, c6 := impl_conflictsOf.Fo (by decide) H.c6, c7 := impl_conflictsOf.Fo (by decide) H.c7, c8 := impl_conflictsOf.Fo (by decide) H.c8, c9 := fun e => by rw [impl_conflictsOf.cco (by decide)]; exact H.c9 ((impl_conflictsOf.gdo (by decide)).symm.trans e), c10 := fun e => by rw [impl_conflictsOf.cco (by decide)]; exact H.c10 ((impl_conflictsOf.gdo (by decide)).symm.trans e), c11 := fun e => by rw [impl_conflictsOf.cco (by decide)]; exact H.c11 ((impl_conflictsOf.gdo (by decide)).symm.trans e), d0 := fun e e2 => H.d0 ((impl_conflictsOf.gdo (by decide)).symm.trans e) ((impl_conflictsOf.gdo (by decide)).symm.trans e2), d1 := fun e e2 => H.d1 ((impl_conflictsOf.gdo (by decide)).symm.trans e) ((impl_conflictsOf.gdo (by decide)).symm.trans e2), d2 := fun e e2 => H.d2 ((impl_conflictsOf.gdo (by decide)).symm.trans e) ((impl_conflictsOf.gdo (by decide)).symm.trans e2), e0 := fun e => (impl_conflictsOf.gdo (by decide)).trans (H.e0 ((impl_conflictsOf.gdo (by decide)).symm.trans e)), e1 := fun e => (impl_conflictsOf.gdo (by decide)).trans (H.e1 ((impl_conflictsOf.gdo (by decide)).symm.trans e)), e2 := fun e => (impl_conflictsOf.gdo (by decide)).trans (H.e2 ((impl_conflictsOf.gdo (by decide)).symm.trans e)), bl := H.bl }⟩
    · refine wpOp_step (o := _) rfl (fun K' hK => ?_)
      have q1 := H.c3 (impl_conflictsOf.dep hi rfl (.head _) rfl)
      have q2 := H.c4 (impl_conflictsOf.dep hi rfl (.tail _ (.head _)) rfl)
      subst q1 q2
      rw [if_pos (by rfl)]
      go_wp2_with (go_at_call 71; refine (HY.out _ hB).mono ?_; rintro e w1 ⟨rfl, hb⟩)
      exact ⟨_, _, _, _, _, _, _, _, _, _, _, _, rfl, { sz := by rw [Array.size_setIfInBounds]; exact H.sz, c0 := impl_conflictsOf.Fo (by decide) H.c0, c1 := impl_conflictsOf.Fo (by decide) H.c1, c2 := impl_conflictsOf.Fo (by decide) H.c2, c3 := impl_conflictsOf.Fo (by decide) H.c3, c4 := impl_conflictsOf.Fo (by decide) H.c4, c5 := fun _ => rfl, c6 := impl_conflictsOf.Fo (by decide) H.c6, c7 := impl_conflictsOf.Fo (by decide) H.c7, c8 := impl_conflictsOf.Fo (by decide) H.c8, c9 := fun e => by rw [impl_conflictsOf.cco (by decide)]; exact impl_conflictsOf.BKb (H.c9 ((impl_conflictsOf.gdo (by decide)).symm.trans e)) hb, c10 := fun e => by rw [impl_conflictsOf.cco (by decide)]; exact impl_conflictsOf.BKb (H.c10 ((impl_conflictsOf.gdo (by decide)).symm.trans e)) hb, c11 := fun e => by rw [impl_conflictsOf.cco (by decide)]; exact impl_conflictsOf.BKb (H.c11 ((impl_conflictsOf.gdo (by decide)).symm.trans e)) hb, d0 := fun e e2 => H.d0 ((impl_conflictsOf.gdo (by decide)).symm.trans e) ((impl_conflictsOf.gdo (by decide)).symm.trans e2), d1 := fun e e2 => H.d1 ((impl_conflictsOf.gdo (by decide)).symm.trans e) ((impl_conflictsOf.gdo (by decide)).symm.trans e2), d2 := fun e e2 => H.d2 ((impl_conflictsOf.gdo (by decide)).symm.trans e) ((impl_conflictsOf.gdo (by decide)).symm.trans e2), e0 := fun e => (impl_conflictsOf.gdo (by decide)).trans (H.e0 ((impl_conflictsOf.gdo (by decide)).symm.trans e)), e1 := fun e => (impl_conflictsOf.gdo (by decide)).trans (H.e1 ((impl_conflictsOf.gdo (by decide)).symm.trans e)), e2 := fun e => (impl_conflictsOf.gdo (by decide)).trans (H.e2 ((impl_conflictsOf.gdo (by decide)).symm.trans e)), bl := below_step hB hb }⟩
    · refine wpOp_step (o := _) rfl (fun K' hK => ?_)
      rw [if_pos (by rfl)]
      go_simp
      exact hK _ _ ⟨_, _, _, _, _, _, _, _, _, _, _, _, rfl, { sz := by rw [Array.size_setIfInBounds]; exact H.sz, c0 := impl_conflictsOf.Fo (by decide) H.c0, c1 := impl_conflictsOf.Fo (by decide) H.c1, c2 := impl_conflictsOf.Fo (by decide) H.c2, c3 := impl_conflictsOf.Fo (by decide) H.c3, c4 := impl_conflictsOf.Fo (by decide) H.c4, c5 := impl_conflictsOf.Fo (by decide) H.c5, c6 := fun _ => rfl, c7 := impl_conflictsOf.Fo (by decide) H.c7, c8 := impl_conflictsOf.Fo (by decide) H.c8, c9 := fun e => by rw [impl_conflictsOf.cco (by decide)]; exact H.c9 ((impl_conflictsOf.gdo (by decide)).symm.trans e), c10 := fun e => by rw [impl_conflictsOf.cco (by decide)]; exact H.c10 ((impl_conflictsOf.gdo (by decide)).symm.trans e), c11 := fun e => by rw [impl_conflictsOf.cco (by decide)]; exact H.c11 ((impl_conflictsOf.gdo (by decide)).symm.trans e), d0 := fun e e2 => H.d0 ((impl_conflictsOf.gdo (by decide)).symm.trans e) ((impl_conflictsOf.gdo (by decide)).symm.trans e2), d1 := fun e e2 => H.d1 ((impl_conflictsOf.gdo (by decide)).symm.trans e) ((impl_conflictsOf.gdo (by decide)).symm.trans e2), d2 := fun e e2 => H.d2 ((impl_conflictsOf.gdo (by decide)).symm.trans e) ((impl_conflictsOf.gdo (by decide)).symm.trans e2), e0 := fun e => (impl_conflictsOf.gdo (by decide)).trans (H.e0 ((impl_conflictsOf.gdo (by decide)).symm.trans e)), e1 := fun e => (impl_conflictsOf.gdo (by decide)).trans (H.e1 ((impl_conflictsOf.gdo (by decide)).symm.trans e)), e2 := fun e => (impl_conflictsOf.gdo (by decide)).trans (H.e2 ((impl_conflictsOf.gdo (by decide)).symm.trans e)), bl := H.bl }⟩
    · refine wpOp_step (o := _) rfl (fun K' hK => ?_)
      rw [if_pos (by rfl)]
      go_simp
      exact hK _ _ ⟨_, _, _, _, _, _, _, _, _, _, _, _, rfl, { sz := by rw [Array.size_setIfInBounds]; exact H.sz, c0 := impl_conflictsOf.Fo (by decide) H.c0, c1 := impl_conflictsOf.Fo (by decide) H.c1, c2 := impl_conflictsOf.Fo (by decide) H.c2, c3 := impl_conflictsOf.Fo (by decide) H.c3, c4 := impl_conflictsOf.Fo (by decide) H.c4, c5 := impl_conflictsOf.Fo (by decide) H.c5, c6 := impl_conflictsOf.Fo (by decide) H.c6, c7 := fun _ => rfl, c8 := impl_conflictsOf.Fo (by decide) H.c8, c9 := fun e => by rw [impl_conflictsOf.cco (by decide)]; exact H.c9 ((impl_conflictsOf.gdo (by decide)).symm.trans e), c10 := fun e => by rw [impl_conflictsOf.cco (by decide)]; exact H.c10 ((impl_conflictsOf.gdo (by decide)).symm.trans e), c11 := fun e => by rw [impl_conflictsOf.cco (by decide)]; exact H.c11 ((impl_conflictsOf.gdo (by decide)).symm.trans e), d0 := fun e e2 => H.d0 ((impl_conflictsOf.gdo (by decide)).symm.trans e) ((impl_conflictsOf.gdo (by decide)).symm.trans e2), d1 := fun e e2 => H.d1 ((impl_conflictsOf.gdo (by decide)).symm.trans e) ((impl_conflictsOf.gdo (by decide)).symm.trans e2), d2 := fun e e2 => H.d2 ((impl_conflictsOf.gdo (by decide)).symm.trans e) ((impl_conflictsOf.gdo (by decide)).symm.trans e2), e0 := fun e => (impl_conflictsOf.gdo (by decide)).trans (H.e0 ((impl_conflictsOf.gdo (by decide)).symm.trans e)), e1 := fun e => (impl_conflictsOf.gdo (by decide)).trans (H.e1 ((impl_conflictsOf.gdo (by decide)).symm.trans e)), e2 := fun e => (impl_conflictsOf.gdo (by decide)).trans (H.e2 ((impl_conflictsOf.gdo (by decide)).symm.trans e)), bl := H.bl }⟩
    · refine wpOp_step (o := _) rfl (fun K' hK => ?_)
      have q1 := H.c6 (impl_conflictsOf.dep hi rfl (.head _) rfl)
      have q2 := H.c7 (impl_conflictsOf.dep hi rfl (.tail _ (.head _)) rfl)
      subst q1 q2
      rw [if_pos (by rfl)]
      go_wp2_with (go_at_call 71; refine (HZ.out _ hB).mono ?_; rintro e w1 ⟨rfl, hb⟩)
      exact ⟨_, _, _, _, _, _, _, _, _, _, _, _, rfl, { sz := by rw [Array.size_setIfInBounds]; exact H.sz, c0 := impl_conflictsOf.Fo (by decide) H.c0, c1 := impl_conflictsOf.Fo (by decide) H.c1, c2 := impl_conflictsOf.Fo (by decide) H.c2, c3 := impl_conflictsOf.Fo (by decide) H.c3, c4 := impl_conflictsOf.Fo (by decide) H.c4, c5 := impl_conflictsOf.Fo (by decide) H.c5, c6 := impl_conflictsOf.Fo (by decide) H.c6, c7 := impl_conflictsOf.Fo (by decide) H.c7, c8 := fun _ => rfl, c9 := fun e => by rw [impl_conflictsOf.cco (by decide)]; exact impl_conflictsOf.BKb (H.c9 ((impl_conflictsOf.gdo (by decide)).symm.trans e)) hb, c10 := fun e => by rw [impl_conflictsOf.cco (by decide)]; exact impl_conflictsOf.BKb (H.c10 ((impl_conflictsOf.gdo (by decide)).symm.trans e)) hb, c11 := fun e => by rw [impl_conflictsOf.cco (by decide)]; exact impl_conflictsOf.BKb (H.c11 ((impl_conflictsOf.gdo (by decide)).symm.trans e)) hb, d0 := fun e e2 => H.d0 ((impl_conflictsOf.gdo (by decide)).symm.trans e) ((impl_conflictsOf.gdo (by decide)).symm.trans e2), d1 := fun e e2 => H.d1 ((impl_conflictsOf.gdo (by decide)).symm.trans e) ((impl_conflictsOf.gdo (by decide)).symm.trans e2), d2 := fun e e2 => H.d2 ((impl_conflictsOf.gdo (by decide)).symm.trans e) ((impl_conflictsOf.gdo (by decide)).symm.trans e2), e0 := fun e => (impl_conflictsOf.gdo (by decide)).trans (H.e0 ((impl_conflictsOf.gdo (by decide)).symm.trans e)), e1 := fun e => (impl_conflictsOf.gdo (by decide)).trans (H.e1 ((impl_conflictsOf.gdo (by decide)).symm.trans e)), e2 := fun e => (impl_conflictsOf.gdo (by decide)).trans (H.e2 ((impl_conflictsOf.gdo (by decide)).symm.trans e)), bl := below_step hB hb }⟩
    · refine wpOp_step (o := _) rfl (fun K' hK => ?_)
      rw [if_pos (by rfl)]
      go_simp
      have hb := below_alloc (Below.refl W.heap.size W) (.cells #[.int .i64 0, .bool false] 102 (0, 0))
      exact hK _ _ ⟨_, _, _, _, _, _, _, _, _, _, _, _, rfl, { sz := by rw [Array.size_setIfInBounds]; exact H.sz, c0 := impl_conflictsOf.Fo (by decide) H.c0, c1 := impl_conflictsOf.Fo (by decide) H.c1, c2 := impl_conflictsOf.Fo (by decide) H.c2, c3 := impl_conflictsOf.Fo (by decide) H.c3, c4 := impl_conflictsOf.Fo (by decide) H.c4, c5 := impl_conflictsOf.Fo (by decide) H.c5, c6 := impl_conflictsOf.Fo (by decide) H.c6, c7 := impl_conflictsOf.Fo (by decide) H.c7, c8 := impl_conflictsOf.Fo (by decide) H.c8, c9 := fun _ => by rw [impl_conflictsOf.cco (by decide)]; unfold impl_conflictsOf.cc; rw [if_neg (fun e => by have := H.e0 e; rw [impl_conflictsOf.gdf (by omega) hn] at this; cases this)]; exact ⟨W.heap.size, rfl, hB.size, blk_new W _⟩, c10 := fun e => by rw [impl_conflictsOf.cco (by decide)]; exact impl_conflictsOf.BKb (H.c10 ((impl_conflictsOf.gdo (by decide)).symm.trans e)) hb, c11 := fun e => by rw [impl_conflictsOf.cco (by decide)]; exact impl_conflictsOf.BKb (H.c11 ((impl_conflictsOf.gdo (by decide)).symm.trans e)) hb, d0 := fun _ e2 => (impl_conflictsOf.BKn (H.c10 ((impl_conflictsOf.gdo (by decide)).symm.trans e2))).symm, d1 := fun _ e2 => (impl_conflictsOf.BKn (H.c11 ((impl_conflictsOf.gdo (by decide)).symm.trans e2))).symm, d2 := fun e e2 => H.d2 ((impl_conflictsOf.gdo (by decide)).symm.trans e) ((impl_conflictsOf.gdo (by decide)).symm.trans e2), e0 := fun e => impl_conflictsOf.gds (by omega), e1 := fun e => (impl_conflictsOf.gdo (by decide)).trans (H.e1 ((impl_conflictsOf.gdo (by decide)).symm.trans e)), e2 := fun e => (impl_conflictsOf.gdo (by decide)).trans (H.e2 ((impl_conflictsOf.gdo (by decide)).symm.trans e)), bl := below_step hB hb }⟩
    · refine wpOp_step (o := _) rfl (fun K' hK => ?_)
      rw [if_pos (by rfl)]
      go_simp
      have hb := below_alloc (Below.refl W.heap.size W) (.cells #[.int .i64 0, .bool false] 102 (0, 0))
      exact hK _ _ ⟨_, _, _, _, _, _, _, _, _, _, _, _, rfl, { sz := by rw [Array.size_setIfInBounds]; exact H.sz, c0 := impl_conflictsOf.Fo (by decide) H.c0, c1 := impl_conflictsOf.Fo (by decide) H.c1, c2 := impl_conflictsOf.Fo (by decide) H.c2, c3 := impl_conflictsOf.Fo (by decide) H.c3, c4 := impl_conflictsOf.Fo (by decide) H.c4, c5 := impl_conflictsOf.Fo (by decide) H.c5, c6 := impl_conflictsOf.Fo (by decide) H.c6, c7 := impl_conflictsOf.Fo (by decide) H.c7, c8 := impl_conflictsOf.Fo (by decide) H.c8, c9 := fun e => by rw [impl_conflictsOf.cco (by decide)]; exact impl_conflictsOf.BKb (H.c9 ((impl_conflictsOf.gdo (by decide)).symm.trans e)) hb, c10 := fun _ => by rw [impl_conflictsOf.cco (by decide)]; unfold impl_conflictsOf.cc; rw [if_neg (fun e => by have := H.e1 e; rw [impl_conflictsOf.gdf (by omega) hn] at this; cases this)]; exact ⟨W.heap.size, rfl, hB.size, blk_new W _⟩, c11 := fun e => by rw [impl_conflictsOf.cco (by decide)]; exact impl_conflictsOf.BKb (H.c11 ((impl_conflictsOf.gdo (by decide)).symm.trans e)) hb, d0 := fun e _ => impl_conflictsOf.BKn (H.c9 ((impl_conflictsOf.gdo (by decide)).symm.trans e)), d1 := fun e e2 => H.d1 ((impl_conflictsOf.gdo (by decide)).symm.trans e) ((impl_conflictsOf.gdo (by decide)).symm.trans e2), d2 := fun _ e2 => (impl_conflictsOf.BKn (H.c11 ((impl_conflictsOf.gdo (by decide)).symm.trans e2))).symm, e0 := fun e => (impl_conflictsOf.gdo (by decide)).trans (H.e0 ((impl_conflictsOf.gdo (by decide)).symm.trans e)), e1 := fun e => impl_conflictsOf.gds (by omega), e2 := fun e => (impl_conflictsOf.gdo (by decide)).trans (H.e2 ((impl_conflictsOf.gdo (by decide)).symm.trans e)), bl := below_step hB hb }⟩
    · refine wpOp_step (o := _) rfl (fun K' hK => ?_)
      rw [if_pos (by rfl)]
      go_simp
      have hb := below_alloc (Below.refl W.heap.size W) (.cells #[.int .i64 0, .bool false] 102 (0, 0))
      exact hK _ _ ⟨_, _, _, _, _, _, _, _, _, _, _, _, rfl, { sz := by rw [Array.size_setIfInBounds]; exact H.sz, c0 := impl_conflictsOf.Fo (by decide) H.c0, c1 := impl_conflictsOf.Fo (by decide) H.c1, c2 := impl_conflictsOf.Fo (by decide) H.c2, c3 := impl_conflictsOf.Fo (by decide) H.c3, c4 := impl_conflictsOf.Fo (by decide) H.c4, c5 := impl_conflictsOf.Fo (by decide) H.c5, c6 := impl_conflictsOf.Fo (by decide) H.c6, c7 := impl_conflictsOf.Fo (by decide) H.c7, c8 := impl_conflictsOf.Fo (by decide) H.c8, c9 := fun e => by rw [impl_conflictsOf.cco (by decide)]; exact impl_conflictsOf.BKb (H.c9 ((impl_conflictsOf.gdo (by decide)).symm.trans e)) hb, c10 := fun e => by rw [impl_conflictsOf.cco (by decide)]; exact impl_conflictsOf.BKb (H.c10 ((impl_conflictsOf.gdo (by decide)).symm.trans e)) hb, c11 := fun _ => by rw [impl_conflictsOf.cco (by decide)]; unfold impl_conflictsOf.cc; rw [if_neg (fun e => by have := H.e2 e; rw [impl_conflictsOf.gdf (by omega) hn] at this; cases this)]; exact ⟨W.heap.size, rfl, hB.size, blk_new W _⟩, d0 := fun e e2 => H.d0 ((impl_conflictsOf.gdo (by decide)).symm.trans e) ((impl_conflictsOf.gdo (by decide)).symm.trans e2), d1 := fun e _ => impl_conflictsOf.BKn (H.c9 ((impl_conflictsOf.gdo (by decide)).symm.trans e)), d2 := fun e _ => impl_conflictsOf.BKn (H.c10 ((impl_conflictsOf.gdo (by decide)).symm.trans e)), e0 := fun e => (impl_conflictsOf.gdo (by decide)).trans (H.e0 ((impl_conflictsOf.gdo (by decide)).symm.trans e)), e1 := fun e => (impl_conflictsOf.gdo (by decide)).trans (H.e1 ((impl_conflictsOf.gdo (by decide)).symm.trans e)), e2 := fun e => impl_conflictsOf.gds (by omega), bl := below_step hB hb }⟩
    · refine wpOp_step (o := _) rfl (fun K' hK => ?_)
      have gc : l.getD 9 false = true := impl_conflictsOf.dep hi rfl (.head _) rfl
      have q1 := H.c2 (impl_conflictsOf.dep hi rfl (.tail _ (.head _)) rfl)
      obtain ⟨g, hv, hg, hk⟩ := H.c9 gc
      subst q1 hv
      unfold impl_conflictsOf.cc at hk
      rw [impl_conflictsOf.gdf (by omega) hn, if_neg (by decide)] at hk
      have m0 : W.cell? ⟨g, 0, none⟩ = some (.int .i64 0) := (blk_cell hk 0).trans rfl
      have m1 : W.cell? ⟨g, 1, none⟩ = some (.bool false) := (blk_cell hk 1).trans rfl
      have f0 := blk_frozen hk 0
      have f1 := blk_frozen hk 1
      rw [if_pos (by rfl)]
      go_simp
      exact hK _ _ ⟨_, _, _, _, _, _, _, _, _, _, _, _, rfl, { sz := by rw [Array.size_setIfInBounds]; exact H.sz, c0 := impl_conflictsOf.Fo (by decide) H.c0, c1 := impl_conflictsOf.Fo (by decide) H.c1, c2 := impl_conflictsOf.Fo (by decide) H.c2, c3 := impl_conflictsOf.Fo (by decide) H.c3, c4 := impl_conflictsOf.Fo (by decide) H.c4, c5 := impl_conflictsOf.Fo (by decide) H.c5, c6 := impl_conflictsOf.Fo (by decide) H.c6, c7 := impl_conflictsOf.Fo (by decide) H.c7, c8 := impl_conflictsOf.Fo (by decide) H.c8, c9 := fun _ => by unfold impl_conflictsOf.cc; rw [if_pos (impl_conflictsOf.gds (by omega))]; exact ⟨g, rfl, hg, blk_put (cs := #[.int .i64 x1, .bool false]) (blk_put (cs := #[.int .i64 0, .bool false]) hk 0 _ rfl) 1 _ rfl⟩, c10 := fun e => by rw [impl_conflictsOf.cco (by decide)]; exact impl_conflictsOf.BKf (H.c10 ((impl_conflictsOf.gdo (by decide)).symm.trans e)) hk ((H.d0 gc ((impl_conflictsOf.gdo (by decide)).symm.trans e)).symm) _ _, c11 := fun e => by rw [impl_conflictsOf.cco (by decide)]; exact impl_conflictsOf.BKf (H.c11 ((impl_conflictsOf.gdo (by decide)).symm.trans e)) hk ((H.d1 gc ((impl_conflictsOf.gdo (by decide)).symm.trans e)).symm) _ _, d0 := fun e e2 => H.d0 ((impl_conflictsOf.gdo (by decide)).symm.trans e) ((impl_conflictsOf.gdo (by decide)).symm.trans e2), d1 := fun e e2 => H.d1 ((impl_conflictsOf.gdo (by decide)).symm.trans e) ((impl_conflictsOf.gdo (by decide)).symm.trans e2), d2 := fun e e2 => H.d2 ((impl_conflictsOf.gdo (by decide)).symm.trans e) ((impl_conflictsOf.gdo (by decide)).symm.trans e2), e0 := fun _ => (impl_conflictsOf.gdo (by decide)).trans gc, e1 := fun e => (impl_conflictsOf.gdo (by decide)).trans (H.e1 ((impl_conflictsOf.gdo (by decide)).symm.trans e)), e2 := fun e => (impl_conflictsOf.gdo (by decide)).trans (H.e2 ((impl_conflictsOf.gdo (by decide)).symm.trans e)), bl := below_set (below_set hB hg) hg }⟩
    · refine wpOp_step (o := _) rfl (fun K' hK => ?_)
      have gc : l.getD 10 false = true := impl_conflictsOf.dep hi rfl (.head _) rfl
      have q1 := H.c5 (impl_conflictsOf.dep hi rfl (.tail _ (.head _)) rfl)
      obtain ⟨g, hv, hg, hk⟩ := H.c10 gc
      subst q1 hv
      unfold impl_conflictsOf.cc at hk
      rw [impl_conflictsOf.gdf (by omega) hn, if_neg (by decide)] at hk
      have m0 : W.cell? ⟨g, 0, none⟩ = some (.int .i64 0) := (blk_cell hk 0).trans rfl
      have m1 : W.cell? ⟨g, 1, none⟩ = some (.bool false) := (blk_cell hk 1).trans rfl
      have f0 := blk_frozen hk 0
      have f1 := blk_frozen hk 1
      rw [if_pos (by rfl)]
      go_simp
      exact hK _ _ ⟨_, _, _, _, _, _, _, _, _, _, _, _, rfl, { sz := by rw [Array.size_setIfInBounds]; exact H.sz, c0 := impl_conflictsOf.Fo (by decide) H.c0, c1 := impl_conflictsOf.Fo (by decide) H.c1, c2 := impl_conflictsOf.Fo (by decide) H.c2, c3 := impl_conflictsOf.Fo (by decide) H.c3, c4 := impl_conflictsOf.Fo (by decide) H.c4, c5 := impl_conflictsOf.Fo (by decide) H.c5, c6 := impl_conflictsOf.Fo (by decide) H.c6, c7 := impl_conflictsOf.Fo (by decide) H.c7, c8 := impl_conflictsOf.Fo (by decide) H.c8, c9 := fun e => by rw [impl_conflictsOf.cco (by decide)]; exact impl_conflictsOf.BKf (H.c9 ((impl_conflictsOf.gdo (by decide)).symm.trans e)) hk (H.d0 ((impl_conflictsOf.gdo (by decide)).symm.trans e) gc) _ _, c10 := fun _ => by unfold impl_conflictsOf.cc; rw [if_pos (impl_conflictsOf.gds (by omega))]; exact ⟨g, rfl, hg, blk_put (cs := #[.int .i64 y1, .bool false]) (blk_put (cs := #[.int .i64 0, .bool false]) hk 0 _ rfl) 1 _ rfl⟩, c11 := fun e => by rw [impl_conflictsOf.cco (by decide)]; exact impl_conflictsOf.BKf (H.c11 ((impl_conflictsOf.gdo (by decide)).symm.trans e)) hk ((H.d2 gc ((impl_conflictsOf.gdo (by decide)).symm.trans e)).symm) _ _, d0 := fun e e2 => H.d0 ((impl_conflictsOf.gdo (by decide)).symm.trans e) ((impl_conflictsOf.gdo (by decide)).symm.trans e2), d1 := fun e e2 => H.d1 ((impl_conflictsOf.gdo (by decide)).symm.trans e) ((impl_conflictsOf.gdo (by decide)).symm.trans e2), d2 := fun e e2 => H.d2 ((impl_conflictsOf.gdo (by decide)).symm.trans e) ((impl_conflictsOf.gdo (by decide)).symm.trans e2), e0 := fun e => (impl_conflictsOf.gdo (by decide)).trans (H.e0 ((impl_conflictsOf.gdo (by decide)).symm.trans e)), e1 := fun _ => (impl_conflictsOf.gdo (by decide)).trans gc, e2 := fun e => (impl_conflictsOf.gdo (by decide)).trans (H.e2 ((impl_conflictsOf.gdo (by decide)).symm.trans e)), bl := below_set (below_set hB hg) hg }⟩
    · refine wpOp_step (o := _) rfl (fun K' hK => ?_)
      have gc : l.getD 11 false = true := impl_conflictsOf.dep hi rfl (.head _) rfl
      have q1 := H.c8 (impl_conflictsOf.dep hi rfl (.tail _ (.head _)) rfl)
      obtain ⟨g, hv, hg, hk⟩ := H.c11 gc
      subst q1 hv
      unfold impl_conflictsOf.cc at hk
      rw [impl_conflictsOf.gdf (by omega) hn, if_neg (by decide)] at hk
      have m0 : W.cell? ⟨g, 0, none⟩ = some (.int .i64 0) := (blk_cell hk 0).trans rfl
      have m1 : W.cell? ⟨g, 1, none⟩ = some (.bool false) := (blk_cell hk 1).trans rfl
      have f0 := blk_frozen hk 0
      have f1 := blk_frozen hk 1
      rw [if_pos (by rfl)]
      go_simp
      exact hK _ _ ⟨_, _, _, _, _, _, _, _, _, _, _, _, rfl, { sz := by rw [Array.size_setIfInBounds]; exact H.sz, c0 := impl_conflictsOf.Fo (by decide) H.c0, c1 := impl_conflictsOf.Fo (by decide) H.c1, c2 := impl_conflictsOf.Fo (by decide) H.c2, c3 := impl_conflictsOf.Fo (by decide) H.c3, c4 := impl_conflictsOf.Fo (by decide) H.c4, c5 := impl_conflictsOf.Fo (by decide) H.c5, c6 := impl_conflictsOf.Fo (by decide) H.c6, c7 := impl_conflictsOf.Fo (by decide) H.c7, c8 := impl_conflictsOf.Fo (by decide) H.c8, c9 := fun e => by rw [impl_conflictsOf.cco (by decide)]; exact impl_conflictsOf.BKf (H.c9 ((impl_conflictsOf.gdo (by decide)).symm.trans e)) hk (H.d1 ((impl_conflictsOf.gdo (by decide)).symm.trans e) gc) _ _, c10 := fun e => by rw [impl_conflictsOf.cco (by decide)]; exact impl_conflictsOf.BKf (H.c10 ((impl_conflictsOf.gdo (by decide)).symm.trans e)) hk (H.d2 ((impl_conflictsOf.gdo (by decide)).symm.trans e) gc) _ _, c11 := fun _ => by unfold impl_conflictsOf.cc; rw [if_pos (impl_conflictsOf.gds (by omega))]; exact ⟨g, rfl, hg, blk_put (cs := #[.int .i64 z1, .bool false]) (blk_put (cs := #[.int .i64 0, .bool false]) hk 0 _ rfl) 1 _ rfl⟩, d0 := fun e e2 => H.d0 ((impl_conflictsOf.gdo (by decide)).symm.trans e) ((impl_conflictsOf.gdo (by decide)).symm.trans e2), d1 := fun e e2 => H.d1 ((impl_conflictsOf.gdo (by decide)).symm.trans e) ((impl_conflictsOf.gdo (by decide)).symm.trans e2), d2 := fun e e2 => H.d2 ((impl_conflictsOf.gdo (by decide)).symm.trans e) ((impl_conflictsOf.gdo (by decide)).symm.trans e2), e0 := fun e => (impl_conflictsOf.gdo (by decide)).trans (H.e0 ((impl_conflictsOf.gdo (by decide)).symm.trans e)), e1 := fun e => (impl_conflictsOf.gdo (by decide)).trans (H.e1 ((impl_conflictsOf.gdo (by decide)).symm.trans e)), e2 := fun _ => (impl_conflictsOf.gdo (by decide)).trans gc, bl := below_set (below_set hB hg) hg }⟩
  · exact ⟨_, _, _, _, _, _, _, _, _, _, _, _, rfl, { sz := rfl, bl := below_drew1 (Below.refl _ _), c0 := (fun e => by cases e), c1 := (fun e => by cases e), c2 := (fun e => by cases e), c3 := (fun e => by cases e), c4 := (fun e => by cases e), c5 := (fun e => by cases e), c6 := (fun e => by cases e), c7 := (fun e => by cases e), c8 := (fun e => by cases e), c9 := (fun e => by cases e), c10 := (fun e => by cases e), c11 := (fun e => by cases e), d0 := (fun e => by cases e), d1 := (fun e => by cases e), d2 := (fun e => by cases e), e0 := (fun e => by cases e), e1 := (fun e => by cases e), e2 := (fun e => by cases e) }⟩
  · exact Nat.le_of_eq rfl
theorem impl_conflictsOf.idx (q : ByteArray → Bool) (cap0 cap1 cap2 : Value) (A0 : Option Addr) (c0 : Nat) (l0 : List ByteArray) (n : Int) (w0 w : World) (hB0 : Below w0.heap.size w0 w) (hr0 : Kd.C Kd.string w A0 l0.length l0)
    (hclo : ∀ x, x ∈ l0 → ∀ W : World, Below w0.heap.size w0 W → Calls Try.prog 116 #[.string x, cap0, cap1, cap2] W fun e W' => e = .returned (.bool (q x)) ∧ Below W.heap.size W W') (hn : Hit q l0 n) :
    Calls Try.prog 143 #[.slice A0 l0.length c0, .func (.func 116) #[] #[cap0, cap1, cap2]] w fun e w' => e = .returned (.int .i64 n) ∧ Below w.heap.size w w' := by
  have hlen : l0.length ≤ 9223372036854775807 := hr0.2.1
  have HR := Aside0.mk hr0
  have HCL := Aside0.mk hclo
  have HH := Aside0.mk hn
  have HB0 := Aside0.mk hB0
  clear hr0 hclo hn hB0
  go_enter Try.func143, Try.ntmps143
  go_wp2_with fail
  go_loopw [8] (fun i wr => ∃ k : Nat, k ≤ l0.length ∧ i = .int .i64 k ∧ Aside0 (∀ j (_ : j < l0.length), j < k → q l0[j] = false) ∧ Aside0 (Below w.heap.size w wr)) (fun i _ => l0.length - (intOf i).toNat)
  case atStart => exact ⟨0, Nat.zero_le _, rfl, ⟨fun j _ hj => absurd hj (Nat.not_lt_zero _)⟩, ⟨Below.refl _ _⟩⟩
  case round =>
    obtain ⟨k, hk, rfl, HN, HB⟩ := hrel
    by_cases hlt : k < l0.length
    · obtain ⟨ad, e0, hx0⟩ := Kd.at_string HR.out (k : Int) (by omega) (by omega)
      subst e0
      replace hx0 := (HB.out.cell (World.block_lt_of_cell? w _ hx0)).trans hx0
      have er : rdOf ByteArray.empty l0 (k : Int) = l0[k] := by simp [rdOf, List.getD_eq_getElem?_getD, List.getElem?_eq_getElem hlt]
      rw [er] at hx0
      (try simp only [Int.toNat_natCast] at hx0)
      have HG := Aside0.mk (HCL.out l0[k] (List.getElem_mem hlt) wr (below_step HB0.out HB.out))
      clear er
      cases hb : q l0[k] with
      | true =>
        have HE := Aside0.mk (hit_at HH.out hlt hb HN.out)
        rw [hb] at HG
        clear hb
        generalize l0[k] = x at hx0 HG
        go_wp2_with (go_at_call 116; refine HG.out.mono ?_; rintro e w1 ⟨rfl, hb1⟩; have HB1 := Aside0.mk (below_step HB.out hb1); clear hb1)
        go_ret
        exact ⟨by rw [HE.out]; rfl, HB1.out⟩
      | false =>
        have HQ := Aside0.mk hb
        rw [hb] at HG
        clear hb
        obtain ⟨x, hx⟩ : ∃ x, x = l0[k] := ⟨_, rfl⟩
        rw [← hx] at hx0 HG
        clear hx
        go_wp2_with (go_at_call 116; refine HG.out.mono ?_; rintro e w1 ⟨rfl, hb1⟩; have HB1 := Aside0.mk (below_step HB.out hb1); clear hb1)
        go_roundw
        case rel =>
          refine ⟨k + 1, by omega, by go_num, ⟨fun j hj hjk => ?_⟩, HB1⟩
          by_cases h : j < k
          · exact HN.out j hj h
          · obtain rfl : j = k := by omega
            exact HQ.out
        case measure => simp [intOf]; omega
    · have hkl : k = l0.length := by omega
      have hd1 : decide ((k : Int) < (l0.length : Int)) = false := decide_eq_false (by omega)
      have hd2 : decide (k < l0.length) = false := decide_eq_false (by omega)
      have HK := Aside0.mk hkl
      clear hkl
      go_wp2_with fail
      go_ret
      refine ⟨?_, HB.out⟩
      rw [hit_none HH.out (fun j hj => HN.out j hj (by have := HK.out; omega))]
      rfl
theorem impl_conflictsOf.del (q : ByteArray → Bool) (cap0 cap1 cap2 : Value) (P0_ : Nat → Prop) (u : Value) (l0 : List ByteArray) (w0 w : World) (hB0 : Below w0.heap.size w0 w) (ho0 : Kd.R Kd.string 9 w w0.heap.size P0_ u l0)
    (hclo : ∀ x, x ∈ l0 → ∀ W : World, Below w0.heap.size w0 W → Calls Try.prog 116 #[.string x, cap0, cap1, cap2] W fun e W' => e = .returned (.bool (q x)) ∧ Below W.heap.size W W') :
    Calls Try.prog 115 #[u, .func (.func 116) #[] #[cap0, cap1, cap2]] w fun e w' => ∃ v0 : Value, e = .returned v0 ∧ Kd.R Kd.string 9 w' w0.heap.size P0_ v0 (l0.filter fun x => !q x) ∧ Below w0.heap.size w0 w' ∧ Kept w w' P0_ := by
  obtain ⟨n, hn⟩ := hit_some q l0
  rcases own_shape ho0 with ⟨rfl, rfl⟩ | ⟨g, cap, rfl⟩
  · have hn1 := hit_none hn (fun j hj => absurd hj (Nat.not_lt_zero _))
    subst hn1
    have HI := Aside0.mk (impl_conflictsOf.idx q cap0 cap1 cap2 none 0 [] (-1) w0 w hB0 (Kd.R_reads' ho0).2.2 hclo hn)
    have HB0 := Aside0.mk hB0
    clear hn ho0 hclo hB0
    go_enter Try.func115, Try.ntmps115
    go_wp2_with (go_at_call 143; refine HI.out.mono ?_; rintro e w1 ⟨rfl, hb⟩; have HB1 := Aside0.mk hb; clear hb)
    go_ret
    exact ⟨_, rfl, Kd.R_nil _ _ _ _ _, below_step HB0.out HB1.out, Kept.of_below HB1.out _⟩
  obtain ⟨_, hcap, hC⟩ := Kd.R_reads' ho0
  have hmax : l0.length ≤ 9223372036854775807 := hC.2.1
  have HI := Aside0.mk (impl_conflictsOf.idx q cap0 cap1 cap2 (some ⟨g, 0, none⟩) cap l0 n w0 w hB0 hC hclo hn)
  have HB0 := Aside0.mk hB0
  have HO := Aside0.mk ho0
  have HCL := Aside0.mk hclo
  clear ho0 hclo hB0 hC
  rcases hn with ⟨rfl, hall⟩ | ⟨k0, hk0, rfl, ht, hall⟩
  · have HF := Aside0.mk (filter_all hall)
    clear hall
    go_enter Try.func115, Try.ntmps115
    go_wp2_with (go_at_call 143; refine HI.out.mono ?_; rintro e w1 ⟨rfl, hb⟩; have HB1 := Aside0.mk hb; clear hb)
    go_ret
    exact ⟨_, rfl, by rw [HF.out]; exact Kd.R_below HO.out HB1.out, below_step HB0.out HB1.out, Kept.of_below HB1.out _⟩
  have HF := Aside0.mk (filter_start hk0 ht hall)
  clear ht hall
  have hne : ((k0 : Int) == -1) = false := beq_eq_false_iff_ne.mpr (by omega)
  have hst : ∀ x : ByteArray, (Value.string x).oneCell' = true := fun _ => rfl
  go_enter Try.func115, Try.ntmps115
  go_wp2_with (go_at_call 143; refine HI.out.mono ?_; rintro e w1 ⟨rfl, hb⟩; have HO1 := Aside0.mk (Kd.R_below HO.out hb); have HB1 := Aside0.mk (below_step HB0.out hb); have HK1 := Aside0.mk (Kept.of_below hb P0_); clear hb HO HB0 HI)
  go_loopw [5, 6, 7] (fun v5 v6 _ wr => ∃ (i j : Nat) (L : List ByteArray), v5 = .int .i64 i ∧ v6 = .int .i64 j ∧ i < j ∧ j ≤ l0.length ∧ L.length = l0.length ∧ Aside0 (L.take i = (l0.take j).filter (fun x => !q x)) ∧ Aside0 (L.drop j = l0.drop j) ∧ Aside0 (Kd.R Kd.string 9 wr w0.heap.size P0_ (.slice (some ⟨g, 0, none⟩) l0.length cap) L) ∧ Aside0 (Kept w wr P0_) ∧ Aside0 (Below w0.heap.size w0 wr)) (fun _ v6 _ _ => l0.length - (intOf v6).toNat)
  case atStart => exact ⟨k0, k0 + 1, l0, rfl, by go_num, by omega, by omega, rfl, HF, ⟨rfl⟩, HO1, HK1, HB1⟩
  case round =>
    clear HF HO1 HK1 HB1 hne
    obtain ⟨i, j, L, rfl, rfl, hij, hj, hL, HT, HD, HO, HK, HB⟩ := hrel
    by_cases hlt : j < l0.length
    · have hd1 : decide ((j : Int) < (l0.length : Int)) = true := decide_eq_true (by omega)
      have hd2 : decide (j < l0.length) = true := decide_eq_true hlt
      obtain ⟨hsame, hdrop⟩ := drop_same hlt (by omega) HD.out
      obtain ⟨hxj, hfj⟩ := Kd.R_celln (⟨#[]⟩ : ByteArray) HO.out (j : Int) (by omega) (by omega)
      have er : rdOf ⟨#[]⟩ L (j : Int) = l0[j] := by rw [← hsame]; simp [rdOf, List.getD_eq_getElem?_getD, List.getElem?_eq_getElem (show j < L.length by omega)]
      rw [er] at hxj
      simp only [Int.toNat_natCast] at hxj
      have HG := Aside0.mk (HCL.out l0[j] (List.getElem_mem hlt) wr HB.out)
      have HDR := Aside0.mk hdrop
      clear er hsame hdrop hfj
      cases hq : q l0[j] with
      | true =>
        have HT1 := Aside0.mk (filter_drop hlt hq HT.out)
        rw [hq] at HG
        clear hq
        obtain ⟨x, hx⟩ : ∃ x, x = l0[j] := ⟨_, rfl⟩
        rw [← hx] at hxj HG
        clear hx
        go_wp2_with (go_at_call 116; refine HG.out.mono ?_; rintro e w1 ⟨rfl, hb1⟩; have HO1 := Aside0.mk (Kd.R_below HO.out hb1); have HK1 := Aside0.mk (Kept.below HK.out hb1); have HB1 := Aside0.mk (below_step HB.out hb1); clear hb1 HO HK HB)
        go_roundw
        case rel => exact ⟨i, j + 1, L, rfl, by go_num, by omega, by omega, hL, HT1, HDR, HO1, HK1, HB1⟩
        case measure => simp [intOf]; omega
      | false =>
        have HT1 := Aside0.mk (filter_keep hlt (show i < L.length by omega) hq HT.out)
        rw [hq] at HG
        clear hq
        obtain ⟨x, hx⟩ : ∃ x, x = l0[j] := ⟨_, rfl⟩
        rw [← hx] at hxj HG HT1
        clear hx
        have hp0 : (0 : Int) ≤ (i : Int) := by omega
        have hp1 : (i : Int) < (l0.length : Int) := by omega
        have HDS := Aside0.mk (show (L.set i x).drop (j + 1) = l0.drop (j + 1) from by rw [List.drop_set_of_lt (by omega)]; exact HDR.out)
        go_wp2_with (first
          | (go_at_call 116
             refine HG.out.mono ?_
             rintro e w1 ⟨rfl, hb1⟩
             have HO1 := Aside0.mk (Kd.R_below HO.out hb1)
             have HK1 := Aside0.mk (Kept.below HK.out hb1)
             have HB1 := Aside0.mk (below_step HB.out hb1)
             clear hb1 HO HK HB hxj
             obtain ⟨hxi, hfi⟩ := Kd.R_celln (⟨#[]⟩ : ByteArray) HO1.out (i : Int) (by omega) (by omega)
             simp only [Int.toNat_natCast] at hxi hfi
             have HG5 := Aside0.mk (HO1.out.1 g rfl)
             have GB5 := Aside0.mk (Kd.R_base HO1.out g rfl)
             have HP7 := Aside0.mk (Kd.R_putg HO1.out (i : Int) x))
          | ((with_reducible refine gate_store (t := 9) (p := 33) rfl ?_)
             refine store_event (t := 9) (p := 33) (v := ?vo_w8) (w1 := (w1.setCell ⟨g, i, none⟩ (.string x))) ?hg ?ho ?hn ?hr ?_
             (case ho => rfl)
             (case hg => rfl)
             (case hn => rfl)
             (case hr => first | (go_simp; done) | (go_simp; rfl))
             intro w8 hw
             have hg : w1.grownBy w8 (some g) := (by rw [hw]; exact HP7.out.2)
             have hp_ : Kd.R Kd.string 9 w8 w0.heap.size P0_ (.slice (some ⟨g, 0, none⟩) l0.length cap) (L.set i x) := (by rw [hw]; exact HP7.out.1)
             have n0_ := Aside0.mk hp_
             have n1_ := Aside0.mk ((by rw [hw]; exact below_set (HB1.out) GB5.out : Below w0.heap.size w0 w8))
             have n2_ := Aside0.mk (Kept.of_grown (S := P0_) hg HK1.out (fun k_ e_ => by injection e_ with e_; subst e_; exact .inl HG5.out))
             clear HO1 HB1 HK1 HP7
             have HO1 := n0_
             have HB1 := n1_
             have HK1 := n2_
             clear n0_ n1_ n2_ hg hw hp_ hxi hfi))
        go_roundw
        case rel => exact ⟨i + 1, j + 1, L.set i x, by go_num, by go_num, by omega, by omega, by rw [List.length_set]; exact hL, HT1, HDS, HO1, HK1, HB1⟩
        case measure => simp [intOf]; omega
    · obtain rfl : j = l0.length := by omega
      have hd1 : decide ((l0.length : Int) < (l0.length : Int)) = false := decide_eq_false (by omega)
      have hd2 : decide (l0.length < l0.length) = false := decide_eq_false (by omega)
      have hcells : ∀ t, t < l0.length → (wr.cell? ⟨g, t, none⟩).isSome = true ∧ wr.frozen? ⟨g, t, none⟩ = false := fun t ht => by
        obtain ⟨h1, h2⟩ := Kd.R_celln (⟨#[]⟩ : ByteArray) HO.out (t : Int) (by omega) (by omega)
        simp only [Int.toNat_natCast] at h1 h2
        exact ⟨by rw [h1]; rfl, h2⟩
      have hcl : ∀ ty, (Builtin.clear_ #[37] ty #[.slice (some ⟨g, i, none⟩) (l0.length - i) (cap - i)]).run Try.prog wr = .ok (.tuple #[]) (wr.setCells g i (List.replicate (l0.length - i) (.string ⟨#[]⟩))) := fun ty =>
        Lib.run_clear_slice wr 37 9 ty (.string ⟨#[]⟩) Try.underlying37 (fun _ => rfl) rfl rfl g i (l0.length - i) (cap - i) (by omega) (fun t ht => (hcells (i + t) (by omega)).1) (fun t ht => (hcells (i + t) (by omega)).2)
      clear hcells
      have HF := Aside0.mk (show L.take i = l0.filter (fun x => !q x) from by rw [HT.out, List.take_length])
      have HCUT := Aside0.mk (own_cut (i := i) (zs := List.replicate (l0.length - i) (.string ⟨#[]⟩)) rfl HB.out HO.out hL (by omega) (by rw [List.length_replicate]; omega) rfl)
      clear HT HD
      go_wp2_with fail
      go_ret
      exact ⟨_, rfl, by rw [← HF.out]; exact HCUT.out.1, HCUT.out.2.1, (HK.out.then_ HCUT.out.2.2 (fun k hk => .inl hk))⟩
def impl_conflictsOf.eq2 (a b : Int × Bool) : Bool := (a.1 == b.1) && (a.2 == b.2)
def impl_conflictsOf.q (k : Nat) (l0 l1 l2 : List S80) (nm : ByteArray) : Option Bool := (impl_thingAt.f k l0 nm).bind fun x => (impl_thingAt.f k l1 nm).bind fun y => (impl_thingAt.f k l2 nm).bind fun z => some (impl_conflictsOf.eq2 y z || impl_conflictsOf.eq2 y x || impl_conflictsOf.eq2 z x)
def impl_conflictsOf.sel (q : ByteArray → Option Bool) : List ByteArray → Option (List ByteArray)
  | [] => some []
  | x :: r => (q x).bind fun b => (impl_conflictsOf.sel q r).bind fun t => some (if b = true then t else x :: t)
def impl_conflictsOf.f (k : Nat) (l0 l1 l2 : List S80) : Option (List ByteArray) := (impl_namesOf.f k [l0, l1, l2]).bind fun ns => impl_conflictsOf.sel (impl_conflictsOf.q k l0 l1 l2) ns
theorem impl_conflictsOf.sel_some {q : ByteArray → Option Bool} : ∀ {l r : List ByteArray}, impl_conflictsOf.sel q l = some r → (∀ x ∈ l, q x = some ((q x).getD false)) ∧ r = l.filter (fun x => !((q x).getD false))
  | [], r, h => ⟨fun x hx => (by cases hx), (Option.some.inj h).symm⟩
  | y :: l, r, h => by
    unfold impl_conflictsOf.sel at h
    obtain ⟨b, h1, h⟩ := Option.bind_eq_some_iff.1 h
    obtain ⟨t, h2, h⟩ := Option.bind_eq_some_iff.1 h
    obtain ⟨i1, i2⟩ := impl_conflictsOf.sel_some h2
    refine ⟨fun x hx => ?_, ?_⟩
    · rcases List.mem_cons.1 hx with rfl | hx
      · rw [h1]; rfl
      · exact i1 x hx
    · rw [← Option.some.inj h, List.filter_cons, h1]
      show (if b = true then t else y :: t) = if (!b) = true then _ else _
      cases b
      · rw [if_neg (by decide), if_pos (by decide), i2]
      · rw [if_pos rfl, if_neg (by decide), i2]
theorem impl_conflictsOf.row3 (W : World) (A0 A1 A2 : Option Addr) (c0 c1 c2 : Nat) (l0 l1 l2 : List S80) (hr0 : Kd.C k80 W A0 l0.length l0) (hc0 : l0.length ≤ c0) (hr1 : Kd.C k80 W A1 l1.length l1) (hc1 : l1.length ≤ c1) (hr2 : Kd.C k80 W A2 l2.length l2) (hc2 : l2.length ≤ c2) :
    Kd.C (Kd.slice 80 k80) (W.alloc (.cells #[.slice A0 l0.length c0, .slice A1 l1.length c1, .slice A2 l2.length c2] 26)) (some ⟨W.heap.size, 0, none⟩) 3 [l0, l1, l2] := by
  have hb := blk_new W (.cells #[.slice A0 l0.length c0, .slice A1 l1.length c1, .slice A2 l2.length c2] 26)
  refine ⟨rfl, by decide, fun _ => ⟨_, rfl, fun j p hj => ?_⟩⟩
  match j, hj with
  | 0, hj =>
    obtain rfl : l0 = p := Option.some.inj hj
    refine ⟨[.slice A0 l0.length c0], rfl, ⟨A0, c0, rfl, hc0, Kd.C_alloc hr0 _⟩, fun i u hu => ?_⟩
    match i, hu with
    | 0, hu => exact (blk_cell hb 0).trans hu
  | 1, hj =>
    obtain rfl : l1 = p := Option.some.inj hj
    refine ⟨[.slice A1 l1.length c1], rfl, ⟨A1, c1, rfl, hc1, Kd.C_alloc hr1 _⟩, fun i u hu => ?_⟩
    match i, hu with
    | 0, hu => exact (blk_cell hb 1).trans hu
  | 2, hj =>
    obtain rfl : l2 = p := Option.some.inj hj
    refine ⟨[.slice A2 l2.length c2], rfl, ⟨A2, c2, rfl, hc2, Kd.C_alloc hr2 _⟩, fun i u hu => ?_⟩
    match i, hu with
    | 0, hu => exact (blk_cell hb 2).trans hu
theorem impl_conflictsOf.calls (k : Nat) (A0 : Option Addr) (c0 : Nat) (l0 : List S80) (A1 : Option Addr) (c1 : Nat) (l1 : List S80) (A2 : Option Addr) (c2 : Nat) (l2 : List S80) (r : List ByteArray) (w : World) (hr0 : Kd.C k80 w A0 l0.length l0) (hc0 : l0.length ≤ c0) (hr1 : Kd.C k80 w A1 l1.length l1) (hc1 : l1.length ≤ c1) (hr2 : Kd.C k80 w A2 l2.length l2) (hc2 : l2.length ≤ c2) (h : impl_conflictsOf.f k l0 l1 l2 = some r) :
    Calls Try.prog 68 #[.slice A0 l0.length c0, .slice A1 l1.length c1, .slice A2 l2.length c2] w fun e w' => ∃ v0_ : Value, e = .returned (v0_) ∧ Kd.R Kd.string 9 w' w.heap.size (fun _ => True) v0_ r ∧ Below w.heap.size w w' := by
  unfold impl_conflictsOf.f at h
  obtain ⟨ns, hns, hsel⟩ := Option.bind_eq_some_iff.1 h
  obtain ⟨hq, hr⟩ := impl_conflictsOf.sel_some hsel
  clear h hsel
  have hmf : ∀ (fn : Fn) (first cap : Array Value) (w : World), (Instr.makeFunc fn first cap).run Try.prog w = .ok (.func fn first cap) w := fun _ _ _ _ => rfl
  have HW : ∀ W3 : World, W3 = ((w.alloc (.cells #[.slice A0 l0.length c0] 26)).alloc (.cells #[.slice A1 l1.length c1] 26)).alloc (.cells #[.slice A2 l2.length c2] 26) → Below w.heap.size w W3 ∧ W3.cell? ⟨w.heap.size, 0, none⟩ = some (.slice A0 l0.length c0) ∧ W3.cell? ⟨w.heap.size + 1, 0, none⟩ = some (.slice A1 l1.length c1) ∧ W3.cell? ⟨w.heap.size + 1 + 1, 0, none⟩ = some (.slice A2 l2.length c2) := by
    rintro W3 rfl
    have z1 : (w.alloc (.cells #[.slice A0 l0.length c0] 26)).heap.size = w.heap.size + 1 := by
      show (Array.push w.heap _).size = _
      simp only [Array.size_push]
    have z2 : ((w.alloc (.cells #[.slice A0 l0.length c0] 26)).alloc (.cells #[.slice A1 l1.length c1] 26)).heap.size = w.heap.size + 1 + 1 := by
      rw [← z1]
      show (Array.push (w.alloc (.cells #[.slice A0 l0.length c0] 26)).heap _).size = _
      simp only [Array.size_push]
    have c1' : (w.alloc (.cells #[.slice A0 l0.length c0] 26)).cell? ⟨w.heap.size, 0, none⟩ = some (.slice A0 l0.length c0) := (blk_cell (blk_new w _) 0).trans rfl
    have c2' := (blk_cell (blk_new (w.alloc (.cells #[.slice A0 l0.length c0] 26)) (.cells #[.slice A1 l1.length c1] 26)) 0).trans (rfl : _ = some (Value.slice A1 l1.length c1))
    have c3' := (blk_cell (blk_new ((w.alloc (.cells #[.slice A0 l0.length c0] 26)).alloc (.cells #[.slice A1 l1.length c1] 26)) (.cells #[.slice A2 l2.length c2] 26)) 0).trans (rfl : _ = some (Value.slice A2 l2.length c2))
    rw [z1] at c2'
    rw [z2] at c3'
    have bl : ∀ (W : World) (o : Obj), Below W.heap.size W (W.alloc o) := fun W o => below_alloc (Below.refl _ _) o
    exact ⟨below_step (below_step (bl _ _) (bl _ _)) (bl _ _), pw_cell_below (bl _ _) (pw_cell_below (bl _ _) c1'), pw_cell_below (bl _ _) c2', c3'⟩
  obtain ⟨hb3, k1, k2, k3⟩ := HW _ rfl
  generalize hw3 : ((w.alloc (.cells #[.slice A0 l0.length c0] 26)).alloc (.cells #[.slice A1 l1.length c1] 26)).alloc (.cells #[.slice A2 l2.length c2] 26) = W3 at hb3 k1 k2 k3
  have HB3 := Aside0.mk hb3
  have K1 := Aside0.mk k1
  have K2 := Aside0.mk k2
  have K3 := Aside0.mk k3
  have hC0 := Kd.C_below hr0 hb3
  have hC1 := Kd.C_below hr1 hb3
  have hC2 := Kd.C_below hr2 hb3
  have HCL : Aside0 (∀ x, x ∈ ns → ∀ W : World, Below W3.heap.size W3 W → Calls Try.prog 116 #[.string x, .pointer (some ⟨w.heap.size, 0, none⟩), .pointer (some ⟨w.heap.size + 1, 0, none⟩), .pointer (some ⟨w.heap.size + 1 + 1, 0, none⟩)] W fun e W' => e = .returned (.bool ((impl_conflictsOf.q k l0 l1 l2 x).getD false)) ∧ Below W.heap.size W W') := ⟨fun x hx W hW => by
    have hqx := hq x hx
    generalize hb : (impl_conflictsOf.q k l0 l1 l2 x).getD false = b at hqx ⊢
    clear hb
    unfold impl_conflictsOf.q at hqx
    obtain ⟨⟨x1, x2⟩, e1, hqx⟩ := Option.bind_eq_some_iff.1 hqx
    obtain ⟨⟨y1, y2⟩, e2, hqx⟩ := Option.bind_eq_some_iff.1 hqx
    obtain ⟨⟨z1, z2⟩, e3, hqx⟩ := Option.bind_eq_some_iff.1 hqx
    rw [← Option.some.inj hqx]
    exact impl_conflictsOf.clo A0 A1 A2 l0.length l1.length l2.length c0 c1 c2 x _ _ _ W (pw_cell_below hW K1.out) (pw_cell_below hW K2.out) (pw_cell_below hW K3.out) x1 y1 z1 x2 y2 z2
      (fun V hV => impl_thingAt.calls k A0 c0 l0 x x1 x2 V (Kd.C_below hC0 (below_step hW hV)) hc0 e1)
      (fun V hV => impl_thingAt.calls k A1 c1 l1 x y1 y2 V (Kd.C_below hC1 (below_step hW hV)) hc1 e2)
      (fun V hV => impl_thingAt.calls k A2 c2 l2 x z1 z2 V (Kd.C_below hC2 (below_step hW hV)) hc2 e3)⟩
  have hz3 : W3.heap.size = w.heap.size + 1 + 1 + 1 := by
    rw [← hw3]
    show (Array.push (Array.push (Array.push w.heap _) _) _).size = _
    simp only [Array.size_push]
  have HL : Aside0 (Calls Try.prog 70 #[.slice (some ⟨w.heap.size + 1 + 1 + 1, 0, none⟩) 3 3] (W3.alloc (.cells #[.slice A0 l0.length c0, .slice A1 l1.length c1, .slice A2 l2.length c2] 26)) fun e w' => ∃ v0_ : Value, e = .returned v0_ ∧ Kd.R Kd.string 9 w' W3.heap.size (fun _ => True) v0_ ns ∧ Below W3.heap.size W3 w') := ⟨by
    have hrow := impl_conflictsOf.row3 W3 A0 A1 A2 c0 c1 c2 l0 l1 l2 hC0 hc0 hC1 hc1 hC2 hc2
    rw [hz3] at hrow
    refine (impl_namesOf.calls k _ 3 [l0, l1, l2] ns _ hrow (Nat.le_refl 3) hns).mono ?_
    rintro e w1 ⟨v, rfl, ho, hb⟩
    have hba := below_step (below_alloc (Below.refl _ W3) (.cells #[.slice A0 l0.length c0, .slice A1 l1.length c1, .slice A2 l2.length c2] 26)) hb
    exact ⟨v, rfl, Kd.R_lower ho (below_size (below_alloc (Below.refl _ W3) _)), hba⟩⟩
  have HDEL : Aside0 (∀ (u : Value) (W1 : World), Kd.R Kd.string 9 W1 W3.heap.size (fun _ => True) u ns → Below W3.heap.size W3 W1 → Calls Try.prog 115 #[u, .func (.func 116) #[] #[.pointer (some ⟨w.heap.size, 0, none⟩), .pointer (some ⟨w.heap.size + 1, 0, none⟩), .pointer (some ⟨w.heap.size + 1 + 1, 0, none⟩)]] W1 fun e w' => ∃ v0 : Value, e = .returned v0 ∧ Kd.R Kd.string 9 w' w.heap.size (fun _ => True) v0 r ∧ Below w.heap.size w w') := ⟨fun u W1 ho hb => by
    refine (impl_conflictsOf.del (fun x => (impl_conflictsOf.q k l0 l1 l2 x).getD false) _ _ _ (fun _ => True) u ns W3 W1 hb ho HCL.out).mono ?_
    rintro e w2 ⟨v, rfl, ho2, hb2, _⟩
    exact ⟨v, rfl, by rw [hr]; exact Kd.R_lower ho2 (below_size hb3), below_step hb3 hb2⟩⟩
  clear hC0 hC1 hC2 hns hr hb3 k1 k2 k3 HW hq hr0 hr1 hr2 hz3
  subst hw3
  go_enter Try.func68, Try.ntmps68
  go_wp2_with (first
    | (go_at_call 70; refine HL.out.mono ?_; rintro e w1 ⟨v1, rfl, ho, hb⟩; have HO := Aside0.mk ho; have HB := Aside0.mk hb; clear ho hb)
    | (go_at_call 115; refine (HDEL.out _ _ HO.out HB.out).mono ?_; rintro e w2 ⟨v2, rfl, ho, hb⟩; have HO2 := Aside0.mk ho; have HB2 := Aside0.mk hb; clear ho hb))
  go_ret
  exact ⟨_, rfl, HO2.out, HB2.out⟩

end Go.Proofs.Ytocegmkifmdlcaa.P

namespace Go.Proofs.Ytocegmkifmdlcaa.P
open Go.RowKit Go.Proofs.YtocegmkifmdlcaaW.PrintWords Go.Proofs.YtocegmkifmdlcaaW.PrintLast Go.Proofs.YtocegmkifmdlcaaW.PrintMore
attribute [local go_sem] max2_int min2_int max_two min_two max_three min_three max_four min_four str_leq str_gtr str_geq
set_option linter.unusedVariables false
set_option linter.unusedSimpArgs false

def impl_ConflictsOf.f (k : Nat) (l0 : List (S80)) (l1 : List (S80)) (l2 : List (S80)) : Option (List ByteArray × Int) := (impl_ValidState.f k l0).bind fun t101 => (if t101 = true then ((impl_ValidState.f k l1).bind fun t102 => (if t102 = true then ((impl_ValidState.f k l2).bind fun t103 => (if t103 = true then ((impl_conflictsOf.f k l0 l1 l2).bind fun t104 => (some (t104, 0))) else (some (([] : List ByteArray), 1)))) else (some (([] : List ByteArray), 1)))) else (some (([] : List ByteArray), 1)))
set_option maxHeartbeats 8000000 in
set_option maxRecDepth 100000 in
theorem impl_ConflictsOf.calls (k : Nat) (A0 : Option Addr) (c0 : Nat) (l0 : List (S80)) (A1 : Option Addr) (c1 : Nat) (l1 : List (S80)) (A2 : Option Addr) (c2 : Nat) (l2 : List (S80)) (r1 : List ByteArray) (r2 : Int) (w : World) (hr0 : Kd.C k80 w A0 l0.length l0) (hc0 : l0.length ≤ c0) (hr1 : Kd.C k80 w A1 l1.length l1) (hc1 : l1.length ≤ c1) (hr2 : Kd.C k80 w A2 l2.length l2) (hc2 : l2.length ≤ c2) (h : impl_ConflictsOf.f k l0 l1 l2 = some (r1, r2)) :
    Calls Try.prog 20 #[.slice A0 l0.length c0, .slice A1 l1.length c1, .slice A2 l2.length c2] w fun e w' => ∃ v0_ : Value, e = .returned (.tuple #[v0_, .int .i64 r2]) ∧ Kd.R Kd.string 9 w' w.heap.size (fun _ => True) v0_ r1 ∧ Below w.heap.size w w' := by
  have HR0 := Aside0.mk hr0
  have HC0 := Aside0.mk hc0
  clear hr0 hc0
  have HR1 := Aside0.mk hr1
  have HC1 := Aside0.mk hc1
  clear hr1 hc1
  have HR2 := Aside0.mk hr2
  have HC2 := Aside0.mk hc2
  clear hr2 hc2
  have HB := Aside0.mk (Below.refl w.heap.size w)
  have H : ((impl_ValidState.f k l0).bind fun t101 => (if t101 = true then ((impl_ValidState.f k l1).bind fun t102 => (if t102 = true then ((impl_ValidState.f k l2).bind fun t103 => (if t103 = true then ((impl_conflictsOf.f k l0 l1 l2).bind fun t104 => (some (t104, 0))) else (some (([] : List ByteArray), 1)))) else (some (([] : List ByteArray), 1)))) else (some (([] : List ByteArray), 1)))) = some (r1, r2) := h
  clear h
  replace H := Option.bind_eq_some_iff.mp H
  obtain ⟨t101, A40, H⟩ := H
  replace H : (if t101 = true then ((impl_ValidState.f k l1).bind fun t102 => (if t102 = true then ((impl_ValidState.f k l2).bind fun t103 => (if t103 = true then ((impl_conflictsOf.f k l0 l1 l2).bind fun t104 => (some (t104, 0))) else (some (([] : List ByteArray), 1)))) else (some (([] : List ByteArray), 1)))) else (some (([] : List ByteArray), 1))) = some (r1, r2) := H
  have A4 := Aside0.mk A40
  clear A40
  by_cases c5 : t101 = true
  · subst c5
    have H1 : ((impl_ValidState.f k l1).bind fun t102 => (if t102 = true then ((impl_ValidState.f k l2).bind fun t103 => (if t103 = true then ((impl_conflictsOf.f k l0 l1 l2).bind fun t104 => (some (t104, 0))) else (some (([] : List ByteArray), 1)))) else (some (([] : List ByteArray), 1)))) = some (r1, r2) := by rw [if_pos rfl] at H; exact H
    clear H
    have H := H1
    clear H1
    replace H := Option.bind_eq_some_iff.mp H
    obtain ⟨t102, A60, H⟩ := H
    replace H : (if t102 = true then ((impl_ValidState.f k l2).bind fun t103 => (if t103 = true then ((impl_conflictsOf.f k l0 l1 l2).bind fun t104 => (some (t104, 0))) else (some (([] : List ByteArray), 1)))) else (some (([] : List ByteArray), 1))) = some (r1, r2) := H
    have A6 := Aside0.mk A60
    clear A60
    by_cases c7 : t102 = true
    · subst c7
      have H1 : ((impl_ValidState.f k l2).bind fun t103 => (if t103 = true then ((impl_conflictsOf.f k l0 l1 l2).bind fun t104 => (some (t104, 0))) else (some (([] : List ByteArray), 1)))) = some (r1, r2) := by rw [if_pos rfl] at H; exact H
      clear H
      have H := H1
      clear H1
      replace H := Option.bind_eq_some_iff.mp H
      obtain ⟨t103, A80, H⟩ := H
      replace H : (if t103 = true then ((impl_conflictsOf.f k l0 l1 l2).bind fun t104 => (some (t104, 0))) else (some (([] : List ByteArray), 1))) = some (r1, r2) := H
      have A8 := Aside0.mk A80
      clear A80
      by_cases c9 : t103 = true
      · subst c9
        have H1 : ((impl_conflictsOf.f k l0 l1 l2).bind fun t104 => (some (t104, 0))) = some (r1, r2) := by rw [if_pos rfl] at H; exact H
        clear H
        have H := H1
        clear H1
        replace H := Option.bind_eq_some_iff.mp H
        obtain ⟨t104, A100, H⟩ := H
        replace H : (some (t104, 0)) = some (r1, r2) := H
        have A10 := Aside0.mk A100
        clear A100
        simp only [Option.some.injEq, Prod.mk.injEq] at H
        obtain ⟨rfl, rfl⟩ := H
        go_enter Try.func20, Try.ntmps20
        go_wp2_with (first | ((with_reducible refine gate_callee (f := 57) rfl ?_); refine goesL_ (some 9) rfl rfl Try.func57 (by kernel_rfl) rfl #[.slice A0 l0.length c0] rfl (by (try simp only [List.map_toArray, List.map_cons, List.map_nil]); first | done | rfl | (simp only [List.length_drop, List.length_take]; rfl)) ?_; (with_reducible refine (impl_ValidState.calls k _ _ l0 true _ ?side1 ?side2 A4.out).mono ?_); (case side1 => repeat (first | exact HR0.out | (with_reducible refine Kd.C_alloc ?_ _) | (with_reducible refine Kd.C_drewN ?_ _) | (with_reducible refine Kd.C_drew ?_))); (case side2 => exact HC0.out); rintro e w11 ⟨rfl, hb⟩; refine ⟨_, rfl, ?_⟩; have n0_ := Aside0.mk (below_step (by repeat (first | (with_reducible first | exact HB.out | apply below_alloc | apply pw_below_drewN | apply below_drew1) | exact HB.out)) hb); clear HB; have HB := n0_; clear n0_; (try clear hb); (try clear hb2); (try clear hk); (try clear hi)) | (go_at_call 57; (with_reducible refine (impl_ValidState.calls k _ _ l1 true _ ?side1 ?side2 A6.out).mono ?_); (case side1 => repeat (first | exact (Kd.C_below HR1.out HB.out) | (with_reducible refine Kd.C_alloc ?_ _) | (with_reducible refine Kd.C_drewN ?_ _) | (with_reducible refine Kd.C_drew ?_))); (case side2 => exact HC1.out); rintro e w12 ⟨rfl, hb⟩; have n0_ := Aside0.mk (below_step (by repeat (first | (with_reducible first | exact HB.out | apply below_alloc | apply pw_below_drewN | apply below_drew1) | exact HB.out)) hb); clear HB; have HB := n0_; clear n0_; (try clear hb); (try clear hb2); (try clear hk); (try clear hi)) | (go_at_call 57; (with_reducible refine (impl_ValidState.calls k _ _ l2 true _ ?side1 ?side2 A8.out).mono ?_); (case side1 => repeat (first | exact (Kd.C_below HR2.out HB.out) | (with_reducible refine Kd.C_alloc ?_ _) | (with_reducible refine Kd.C_drewN ?_ _) | (with_reducible refine Kd.C_drew ?_))); (case side2 => exact HC2.out); rintro e w13 ⟨rfl, hb⟩; have n0_ := Aside0.mk (below_step (by repeat (first | (with_reducible first | exact HB.out | apply below_alloc | apply pw_below_drewN | apply below_drew1) | exact HB.out)) hb); clear HB; have HB := n0_; clear n0_; (try clear hb); (try clear hb2); (try clear hk); (try clear hi)) | ((with_reducible refine gate_callee (f := 68) rfl ?_); refine goesL_ (some 24) rfl rfl Try.func68 (by kernel_rfl) rfl #[.slice A0 l0.length c0, .slice A1 l1.length c1, .slice A2 l2.length c2] rfl (by (try simp only [List.map_toArray, List.map_cons, List.map_nil]); first | done | rfl | (simp only [List.length_drop, List.length_take]; rfl)) ?_; (with_reducible refine (impl_conflictsOf.calls k _ _ l0 _ _ l1 _ _ l2 t104 _ ?side1 ?side2 ?side3 ?side4 ?side5 ?side6 A10.out).mono ?_); (case side1 => repeat (first | exact (Kd.C_below HR0.out HB.out) | (with_reducible refine Kd.C_alloc ?_ _) | (with_reducible refine Kd.C_drewN ?_ _) | (with_reducible refine Kd.C_drew ?_))); (case side2 => exact HC0.out); (case side3 => repeat (first | exact (Kd.C_below HR1.out HB.out) | (with_reducible refine Kd.C_alloc ?_ _) | (with_reducible refine Kd.C_drewN ?_ _) | (with_reducible refine Kd.C_drew ?_))); (case side4 => exact HC1.out); (case side5 => repeat (first | exact (Kd.C_below HR2.out HB.out) | (with_reducible refine Kd.C_alloc ?_ _) | (with_reducible refine Kd.C_drewN ?_ _) | (with_reducible refine Kd.C_drew ?_))); (case side6 => exact HC2.out); rintro e w14 ⟨v105, rfl, ho0, hb⟩; refine ⟨_, rfl, ?_⟩; have n0_ := Aside0.mk (Kd.R_lower ho0 (below_size (by repeat (first | (with_reducible first | exact HB.out | apply below_alloc | apply pw_below_drewN | apply below_drew1) | exact HB.out)))); have n1_ := Aside0.mk (below_step (by repeat (first | (with_reducible first | exact HB.out | apply below_alloc | apply pw_below_drewN | apply below_drew1) | exact HB.out)) hb); clear HB; have HO106 := n0_; have HB := n1_; clear n0_ n1_; (try clear hb); (try clear hb2); (try clear hk); (try clear hi); (try clear ho0)))
        go_ret2
        exact ⟨_, by first | rfl | (simp [errW_none, errW_some] <;> rfl) | (simp [*, errW_none, errW_some] <;> rfl), by (with_reducible repeat (first | apply Kd.R_alloc | apply Kd.R_drewN | apply Kd.R_drew)); exact HO106.out, by repeat (first | (with_reducible first | exact HB.out | apply below_alloc | apply pw_below_drewN | apply below_drew1) | exact HB.out)⟩
      · replace c9 := Bool.eq_false_iff.mpr c9
        subst c9
        have H1 : (some (([] : List ByteArray), 1)) = some (r1, r2) := by rw [if_neg (show ¬ (false = true) by decide)] at H; exact H
        clear H
        have H := H1
        clear H1
        simp only [Option.some.injEq, Prod.mk.injEq] at H
        obtain ⟨rfl, rfl⟩ := H
        go_enter Try.func20, Try.ntmps20
        go_wp2_with (first | ((with_reducible refine gate_callee (f := 57) rfl ?_); refine goesL_ (some 9) rfl rfl Try.func57 (by kernel_rfl) rfl #[.slice A0 l0.length c0] rfl (by (try simp only [List.map_toArray, List.map_cons, List.map_nil]); first | done | rfl | (simp only [List.length_drop, List.length_take]; rfl)) ?_; (with_reducible refine (impl_ValidState.calls k _ _ l0 true _ ?side1 ?side2 A4.out).mono ?_); (case side1 => repeat (first | exact HR0.out | (with_reducible refine Kd.C_alloc ?_ _) | (with_reducible refine Kd.C_drewN ?_ _) | (with_reducible refine Kd.C_drew ?_))); (case side2 => exact HC0.out); rintro e w15 ⟨rfl, hb⟩; refine ⟨_, rfl, ?_⟩; have n0_ := Aside0.mk (below_step (by repeat (first | (with_reducible first | exact HB.out | apply below_alloc | apply pw_below_drewN | apply below_drew1) | exact HB.out)) hb); clear HB; have HB := n0_; clear n0_; (try clear hb); (try clear hb2); (try clear hk); (try clear hi)) | (go_at_call 57; (with_reducible refine (impl_ValidState.calls k _ _ l1 true _ ?side1 ?side2 A6.out).mono ?_); (case side1 => repeat (first | exact (Kd.C_below HR1.out HB.out) | (with_reducible refine Kd.C_alloc ?_ _) | (with_reducible refine Kd.C_drewN ?_ _) | (with_reducible refine Kd.C_drew ?_))); (case side2 => exact HC1.out); rintro e w16 ⟨rfl, hb⟩; have n0_ := Aside0.mk (below_step (by repeat (first | (with_reducible first | exact HB.out | apply below_alloc | apply pw_below_drewN | apply below_drew1) | exact HB.out)) hb); clear HB; have HB := n0_; clear n0_; (try clear hb); (try clear hb2); (try clear hk); (try clear hi)) | (go_at_call 57; (with_reducible refine (impl_ValidState.calls k _ _ l2 false _ ?side1 ?side2 A8.out).mono ?_); (case side1 => repeat (first | exact (Kd.C_below HR2.out HB.out) | (with_reducible refine Kd.C_alloc ?_ _) | (with_reducible refine Kd.C_drewN ?_ _) | (with_reducible refine Kd.C_drew ?_))); (case side2 => exact HC2.out); rintro e w17 ⟨rfl, hb⟩; have n0_ := Aside0.mk (below_step (by repeat (first | (with_reducible first | exact HB.out | apply below_alloc | apply pw_below_drewN | apply below_drew1) | exact HB.out)) hb); clear HB; have HB := n0_; clear n0_; (try clear hb); (try clear hb2); (try clear hk); (try clear hi)))
        go_ret2
        exact ⟨_, by first | rfl | (simp [errW_none, errW_some] <;> rfl) | (simp [*, errW_none, errW_some] <;> rfl), by first | exact Kd.R_nil _ _ _ _ _ | exact Kd.N_nil _ _ _ _ _ | exact Kd.V_nil _ _ _ _ _ | exact Kd.Q_nil _ _ _ _ _ | exact Kd.S_nil _ _ _ _ _, by repeat (first | (with_reducible first | exact HB.out | apply below_alloc | apply pw_below_drewN | apply below_drew1) | exact HB.out)⟩
    · replace c7 := Bool.eq_false_iff.mpr c7
      subst c7
      have H1 : (some (([] : List ByteArray), 1)) = some (r1, r2) := by rw [if_neg (show ¬ (false = true) by decide)] at H; exact H
      clear H
      have H := H1
      clear H1
      simp only [Option.some.injEq, Prod.mk.injEq] at H
      obtain ⟨rfl, rfl⟩ := H
      go_enter Try.func20, Try.ntmps20
      go_wp2_with (first | ((with_reducible refine gate_callee (f := 57) rfl ?_); refine goesL_ (some 9) rfl rfl Try.func57 (by kernel_rfl) rfl #[.slice A0 l0.length c0] rfl (by (try simp only [List.map_toArray, List.map_cons, List.map_nil]); first | done | rfl | (simp only [List.length_drop, List.length_take]; rfl)) ?_; (with_reducible refine (impl_ValidState.calls k _ _ l0 true _ ?side1 ?side2 A4.out).mono ?_); (case side1 => repeat (first | exact HR0.out | (with_reducible refine Kd.C_alloc ?_ _) | (with_reducible refine Kd.C_drewN ?_ _) | (with_reducible refine Kd.C_drew ?_))); (case side2 => exact HC0.out); rintro e w18 ⟨rfl, hb⟩; refine ⟨_, rfl, ?_⟩; have n0_ := Aside0.mk (below_step (by repeat (first | (with_reducible first | exact HB.out | apply below_alloc | apply pw_below_drewN | apply below_drew1) | exact HB.out)) hb); clear HB; have HB := n0_; clear n0_; (try clear hb); (try clear hb2); (try clear hk); (try clear hi)) | (go_at_call 57; (with_reducible refine (impl_ValidState.calls k _ _ l1 false _ ?side1 ?side2 A6.out).mono ?_); (case side1 => repeat (first | exact (Kd.C_below HR1.out HB.out) | (with_reducible refine Kd.C_alloc ?_ _) | (with_reducible refine Kd.C_drewN ?_ _) | (with_reducible refine Kd.C_drew ?_))); (case side2 => exact HC1.out); rintro e w19 ⟨rfl, hb⟩; have n0_ := Aside0.mk (below_step (by repeat (first | (with_reducible first | exact HB.out | apply below_alloc | apply pw_below_drewN | apply below_drew1) | exact HB.out)) hb); clear HB; have HB := n0_; clear n0_; (try clear hb); (try clear hb2); (try clear hk); (try clear hi)))
      go_ret2
      exact ⟨_, by first | rfl | (simp [errW_none, errW_some] <;> rfl) | (simp [*, errW_none, errW_some] <;> rfl), by first | exact Kd.R_nil _ _ _ _ _ | exact Kd.N_nil _ _ _ _ _ | exact Kd.V_nil _ _ _ _ _ | exact Kd.Q_nil _ _ _ _ _ | exact Kd.S_nil _ _ _ _ _, by repeat (first | (with_reducible first | exact HB.out | apply below_alloc | apply pw_below_drewN | apply below_drew1) | exact HB.out)⟩
  · replace c5 := Bool.eq_false_iff.mpr c5
    subst c5
    have H1 : (some (([] : List ByteArray), 1)) = some (r1, r2) := by rw [if_neg (show ¬ (false = true) by decide)] at H; exact H
    clear H
    have H := H1
    clear H1
    simp only [Option.some.injEq, Prod.mk.injEq] at H
    obtain ⟨rfl, rfl⟩ := H
    go_enter Try.func20, Try.ntmps20
    go_wp2_with (first | ((with_reducible refine gate_callee (f := 57) rfl ?_); refine goesL_ (some 9) rfl rfl Try.func57 (by kernel_rfl) rfl #[.slice A0 l0.length c0] rfl (by (try simp only [List.map_toArray, List.map_cons, List.map_nil]); first | done | rfl | (simp only [List.length_drop, List.length_take]; rfl)) ?_; (with_reducible refine (impl_ValidState.calls k _ _ l0 false _ ?side1 ?side2 A4.out).mono ?_); (case side1 => repeat (first | exact HR0.out | (with_reducible refine Kd.C_alloc ?_ _) | (with_reducible refine Kd.C_drewN ?_ _) | (with_reducible refine Kd.C_drew ?_))); (case side2 => exact HC0.out); rintro e w20 ⟨rfl, hb⟩; refine ⟨_, rfl, ?_⟩; have n0_ := Aside0.mk (below_step (by repeat (first | (with_reducible first | exact HB.out | apply below_alloc | apply pw_below_drewN | apply below_drew1) | exact HB.out)) hb); clear HB; have HB := n0_; clear n0_; (try clear hb); (try clear hb2); (try clear hk); (try clear hi)))
    go_ret2
    exact ⟨_, by first | rfl | (simp [errW_none, errW_some] <;> rfl) | (simp [*, errW_none, errW_some] <;> rfl), by first | exact Kd.R_nil _ _ _ _ _ | exact Kd.N_nil _ _ _ _ _ | exact Kd.V_nil _ _ _ _ _ | exact Kd.Q_nil _ _ _ _ _ | exact Kd.S_nil _ _ _ _ _, by repeat (first | (with_reducible first | exact HB.out | apply below_alloc | apply pw_below_drewN | apply below_drew1) | exact HB.out)⟩

theorem eqA102 (d : Nat) (w : World) (x0 y0 : Int) (x1 y1 : Bool) :
    (Op.equalIn (d + 2) 102 (.agg #[.int .i64 x0, .bool x1]) (.agg #[.int .i64 y0, .bool y1])).run Try.prog w = .ok (x0 == y0 && (x1 == y1)) w := by
  refine eqA_of Try.underlying102 (by kernel_rfl) ?_
  refine eqf_cons (by rfl) (by go_simp; rfl) (by go_simp; rfl) (by go_simp) ?_
  exact eqf_last (by rfl) (by go_simp; rfl) (by go_simp; rfl) (by go_simp)
end Go.Proofs.Ytocegmkifmdlcaa.P
