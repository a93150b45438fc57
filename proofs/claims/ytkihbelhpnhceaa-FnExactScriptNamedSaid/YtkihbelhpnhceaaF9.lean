/- impl_ScriptNamed: what it answers, and that the machine's call comes to it. -/
import Derived.Deep.RegionHeld3
import Derived.Test.YtkihbelhpnhceaaK
import Derived.Test.YtkihbelhpnhceaaF7
namespace Go.Proofs.Ytkihbelhpnhceaa.P
open Go.RowKit Go.Proofs.YtkihbelhpnhceaaW.PrintWords Go.Proofs.YtkihbelhpnhceaaW.PrintLast Go.Proofs.YtkihbelhpnhceaaW.PrintMore
attribute [local go_sem] max2_int min2_int max_two min_two max_three min_three max_four min_four str_leq str_gtr str_geq
set_option linter.unusedVariables false
set_option linter.unusedSimpArgs false

/-! ### impl_ScriptNamed: function 9 (by hand: ScriptNamed.lean) -/
set_option maxHeartbeats 1600000
set_option maxRecDepth 100000
def impl_ScriptNamed.p (a0 : ByteArray) (n : Int) : Bool := (impl_ScriptName.nm n).toList == a0.toList
def impl_ScriptNamed.least (p : Int → Bool) : Int × Bool := if p 1 = true then (1, true) else if p 2 = true then (2, true) else if p 3 = true then (3, true) else if p 4 = true then (4, true) else (0, false)
def impl_ScriptNamed.f (a0 : ByteArray) : Option (Int × Bool) := some (impl_ScriptNamed.least (impl_ScriptNamed.p a0))
theorem impl_ScriptNamed.past {w : World} {a : Addr} {v : Value} (h : w.cell? a = some v) (o : Obj) : (w.alloc o).cell? a = some v := pw_cell_below (below_alloc (Below.refl _ _) o) h
theorem impl_ScriptNamed.clo (a0 : ByteArray) (n : Int) (b : Nat) (w : World) (h1 : w.cell? ⟨b, 0, none⟩ = some (.string a0)) :
    Calls Try.prog 22 #[.int .i64 n, .pointer (some ⟨b, 0, none⟩)] w fun e w' => e = .returned (.bool (impl_ScriptNamed.p a0 n)) ∧ Below w.heap.size w w' := by
  have HC := Aside0.mk (fun w => impl_ScriptName.calls n _ w rfl)
  have h3 := fun o => impl_ScriptNamed.past h1 o
  unfold impl_ScriptNamed.p
  generalize impl_ScriptName.nm n = s at HC
  go_enter Try.func22, Try.ntmps22
  go_wp2_with fail
  go_region_held3 (fun w' => w'.cell? ⟨b, 0, none⟩ = some (.string a0)) (go_keep) (first | (go_at_call 7; refine (HC.out _).mono ?_; rintro e w1 ⟨rfl, ⟨nd, rfl⟩⟩))
  all_goals go_wp2
  all_goals go_ret
  all_goals exact ⟨rfl, by repeat (first | (with_reducible first | exact Below.refl _ _ | apply below_alloc | apply pw_below_drewN | apply below_drew1) | exact Below.refl _ _)⟩
theorem impl_ScriptNamed.lst (p : Int → Bool) (cap0 : Value) (w : World)
    (hclo : ∀ (n : Int) (W : World), Below w.heap.size w W → Calls Try.prog 22 #[.int .i64 n, cap0] W fun e W' => e = .returned (.bool (p n)) ∧ Below W.heap.size W W') :
    Calls Try.prog 21 #[.int .i64 1, .int .i64 4, .func (.func 22) #[] #[cap0]] w fun e w' => e = .returned (.tuple #[.int .i64 (impl_ScriptNamed.least p).1, .bool (impl_ScriptNamed.least p).2]) ∧ Below w.heap.size w w' := by
  have HCL := Aside0.mk hclo
  clear hclo
  go_enter Try.func21, Try.ntmps21
  go_wp2_with fail
  go_loopw [8] (fun i wr => ∃ k : Nat, k ≤ 4 ∧ i = .int .i64 ((k : Int) + 1) ∧ Aside0 (∀ j : Nat, j < k → p ((j : Int) + 1) = false) ∧ Aside0 (Below w.heap.size w wr)) (fun i _ => 10 - (intOf i).toNat)
  case atStart => exact ⟨0, by omega, rfl, ⟨fun j hj => absurd hj (Nat.not_lt_zero _)⟩, ⟨Below.refl _ _⟩⟩
  case round =>
    obtain ⟨k, hk, rfl, HN, HB⟩ := hrel
    by_cases hlt : k < 4
    · have hd : decide ((k : Int) + 1 ≤ 4) = true := decide_eq_true (by omega)
      have HG := Aside0.mk (HCL.out ((k : Int) + 1) wr HB.out)
      cases hp : p ((k : Int) + 1) with
      | true =>
        have HP := Aside0.mk hp
        rw [hp] at HG
        clear hp
        go_wp2_with (go_at_call 22; refine HG.out.mono ?_; rintro e w1 ⟨rfl, hb1⟩; have HB1 := Aside0.mk (below_step HB.out hb1); clear hb1)
        go_ret2
        have e : impl_ScriptNamed.least p = ((k : Int) + 1, true) := by
          have h0 := HN.out
          have h1 := HP.out
          unfold impl_ScriptNamed.least
          obtain rfl | rfl | rfl | rfl : k = 0 ∨ k = 1 ∨ k = 2 ∨ k = 3 := by omega
          · simp at h1; simp [h1]
          · have a := h0 0 (by omega); simp at h1 a; simp [h1, a]
          · have a := h0 0 (by omega); have b := h0 1 (by omega); simp at h1 a b; simp [h1, a, b]
          · have a := h0 0 (by omega); have b := h0 1 (by omega); have c := h0 2 (by omega); simp at h1 a b c; simp [h1, a, b, c]
        exact ⟨by rw [e]; rfl, HB1.out⟩
      | false =>
        have HP := Aside0.mk hp
        rw [hp] at HG
        clear hp
        go_wp2_with (go_at_call 22; refine HG.out.mono ?_; rintro e w1 ⟨rfl, hb1⟩; have HB1 := Aside0.mk (below_step HB.out hb1); clear hb1)
        go_roundw
        case rel =>
          refine ⟨k + 1, by omega, by go_num, ⟨fun j hj => ?_⟩, HB1⟩
          by_cases hjk : j < k
          · exact HN.out j hjk
          · obtain rfl : j = k := by omega
            exact HP.out
        case measure => simp [intOf]; omega
    · obtain rfl : k = 4 := by omega
      have hd : decide (((4 : Nat) : Int) + 1 ≤ 4) = false := by decide
      go_wp2_with fail
      go_ret2
      have e : impl_ScriptNamed.least p = (0, false) := by
        have h0 := HN.out
        unfold impl_ScriptNamed.least
        have a := h0 0 (by omega); have b := h0 1 (by omega); have c := h0 2 (by omega); have d := h0 3 (by omega)
        simp at a b c d
        simp [a, b, c, d]
      exact ⟨by rw [e]; rfl, HB.out⟩
theorem impl_ScriptNamed.calls (a0 : ByteArray) (r1 : Int) (r2 : Bool) (w : World) (h : impl_ScriptNamed.f a0 = some (r1, r2)) :
    Calls Try.prog 9 #[.string a0] w fun e w' => e = .returned (.tuple #[.int .i64 r1, .bool r2]) ∧ Below w.heap.size w w' := by
  have h' := Option.some.inj h
  have e1 : r1 = (impl_ScriptNamed.least (impl_ScriptNamed.p a0)).1 := by rw [h']
  have e2 : r2 = (impl_ScriptNamed.least (impl_ScriptNamed.p a0)).2 := by rw [h']
  subst e1 e2
  clear h h'
  have hmf : ∀ (fn : Fn) (first cap : Array Value) (w : World), (Instr.makeFunc fn first cap).run Try.prog w = .ok (.func fn first cap) w := fun _ _ _ _ => rfl
  have hb2 : Below w.heap.size w (w.alloc (.cells #[.string a0] 9)) := (Below.refl _ _).alloc (Nat.le_refl _) _
  have HC := Aside0.mk (impl_ScriptNamed.lst (impl_ScriptNamed.p a0) (.pointer (some ⟨w.heap.size, 0, none⟩)) (w.alloc (.cells #[.string a0] 9)) (fun n W hW => impl_ScriptNamed.clo a0 n w.heap.size W (pw_cell_below hW (by rw [World.cell?_alloc_at _ _ _ _ rfl]; rfl))))
  go_enter Try.func9, Try.ntmps9
  go_wp2_with (go_at_call 21; refine HC.out.mono ?_; rintro e w1 ⟨rfl, hb⟩; have HB := Aside0.mk (below_then hb2 (by simp) hb); clear hb)
  go_ret2
  exact ⟨rfl, HB.out⟩

end Go.Proofs.Ytkihbelhpnhceaa.P
