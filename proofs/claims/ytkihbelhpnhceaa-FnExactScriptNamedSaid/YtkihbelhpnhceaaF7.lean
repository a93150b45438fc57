/- impl_ScriptName: what it answers, and that the machine's call comes to it. -/
import Derived.Test.YtkihbelhpnhceaaK
import Derived.Test.YtkihbelhpnhceaaF20
namespace Go.Proofs.Ytkihbelhpnhceaa.P
open Go.RowKit Go.Proofs.YtkihbelhpnhceaaW.PrintWords Go.Proofs.YtkihbelhpnhceaaW.PrintLast Go.Proofs.YtkihbelhpnhceaaW.PrintMore
attribute [local go_sem] max2_int min2_int max_two min_two max_three min_three max_four min_four str_leq str_gtr str_geq
set_option linter.unusedVariables false
set_option linter.unusedSimpArgs false

/-! ### impl_ScriptName: function 7 (by hand: ScriptName.lean) -/
set_option maxHeartbeats 1600000
set_option maxRecDepth 100000
def impl_ScriptName.nm (a0 : Int) : ByteArray := if a0 = 1 then ⟨#[115, 97, 114, 103, 97, 109]⟩ else if a0 = 2 then ⟨#[108, 101, 116, 116, 101, 114, 115]⟩ else if a0 = 3 then ⟨#[110, 117, 109, 98, 101, 114, 115]⟩ else if a0 = 4 then ⟨#[102, 105, 120, 101, 100]⟩ else ⟨#[]⟩
def impl_ScriptName.f (a0 : Int) : Option ByteArray := some (impl_ScriptName.nm a0)
theorem impl_ScriptName.calls (a0 : Int) (r : ByteArray) (w : World) (h : impl_ScriptName.f a0 = some r) :
    Calls Try.prog 7 #[.int .i64 a0] w fun e w' => e = .returned (.string r) ∧ Drawn0 w w' := by
  obtain rfl := Option.some.inj h
  clear h
  by_cases h1 : a0 = 1
  · subst h1
    have hn : impl_ScriptName.nm 1 = ⟨#[115, 97, 114, 103, 97, 109]⟩ := by decide
    rw [hn]
    clear hn
    have hix : ∀ w : World, (Instr.index 40 (.agg #[.string ⟨#[]⟩, .string ⟨#[115, 97, 114, 103, 97, 109]⟩, .string ⟨#[108, 101, 116, 116, 101, 114, 115]⟩, .string ⟨#[110, 117, 109, 98, 101, 114, 115]⟩, .string ⟨#[102, 105, 120, 101, 100]⟩]) (.int .i64 1)).run Try.prog w = .ok (.string ⟨#[115, 97, 114, 103, 97, 109]⟩) w := fun _ => rfl
    go_enter Try.func7, Try.ntmps7
    go_wp2_with (go_at_call 20; refine (impl_within.calls 1 1 4 true _ rfl).mono ?_; rintro e w1 ⟨rfl, hb⟩)
    go_ret
    exact ⟨rfl, hb⟩
  by_cases h2 : a0 = 2
  · subst h2
    have hn : impl_ScriptName.nm 2 = ⟨#[108, 101, 116, 116, 101, 114, 115]⟩ := by decide
    rw [hn]
    clear hn
    have hix : ∀ w : World, (Instr.index 40 (.agg #[.string ⟨#[]⟩, .string ⟨#[115, 97, 114, 103, 97, 109]⟩, .string ⟨#[108, 101, 116, 116, 101, 114, 115]⟩, .string ⟨#[110, 117, 109, 98, 101, 114, 115]⟩, .string ⟨#[102, 105, 120, 101, 100]⟩]) (.int .i64 2)).run Try.prog w = .ok (.string ⟨#[108, 101, 116, 116, 101, 114, 115]⟩) w := fun _ => rfl
    go_enter Try.func7, Try.ntmps7
    go_wp2_with (go_at_call 20; refine (impl_within.calls 2 1 4 true _ rfl).mono ?_; rintro e w1 ⟨rfl, hb⟩)
    go_ret
    exact ⟨rfl, hb⟩
  by_cases h3 : a0 = 3
  · subst h3
    have hn : impl_ScriptName.nm 3 = ⟨#[110, 117, 109, 98, 101, 114, 115]⟩ := by decide
    rw [hn]
    clear hn
    have hix : ∀ w : World, (Instr.index 40 (.agg #[.string ⟨#[]⟩, .string ⟨#[115, 97, 114, 103, 97, 109]⟩, .string ⟨#[108, 101, 116, 116, 101, 114, 115]⟩, .string ⟨#[110, 117, 109, 98, 101, 114, 115]⟩, .string ⟨#[102, 105, 120, 101, 100]⟩]) (.int .i64 3)).run Try.prog w = .ok (.string ⟨#[110, 117, 109, 98, 101, 114, 115]⟩) w := fun _ => rfl
    go_enter Try.func7, Try.ntmps7
    go_wp2_with (go_at_call 20; refine (impl_within.calls 3 1 4 true _ rfl).mono ?_; rintro e w1 ⟨rfl, hb⟩)
    go_ret
    exact ⟨rfl, hb⟩
  by_cases h4 : a0 = 4
  · subst h4
    have hn : impl_ScriptName.nm 4 = ⟨#[102, 105, 120, 101, 100]⟩ := by decide
    rw [hn]
    clear hn
    have hix : ∀ w : World, (Instr.index 40 (.agg #[.string ⟨#[]⟩, .string ⟨#[115, 97, 114, 103, 97, 109]⟩, .string ⟨#[108, 101, 116, 116, 101, 114, 115]⟩, .string ⟨#[110, 117, 109, 98, 101, 114, 115]⟩, .string ⟨#[102, 105, 120, 101, 100]⟩]) (.int .i64 4)).run Try.prog w = .ok (.string ⟨#[102, 105, 120, 101, 100]⟩) w := fun _ => rfl
    go_enter Try.func7, Try.ntmps7
    go_wp2_with (go_at_call 20; refine (impl_within.calls 4 1 4 true _ rfl).mono ?_; rintro e w1 ⟨rfl, hb⟩)
    go_ret
    exact ⟨rfl, hb⟩
  have hn : impl_ScriptName.nm a0 = ⟨#[]⟩ := by unfold impl_ScriptName.nm; rw [if_neg h1, if_neg h2, if_neg h3, if_neg h4]
  have hw : impl_within.f a0 1 4 = some false := by
    unfold impl_within.f
    by_cases h : a0 ≥ 1
    · rw [if_pos h, decide_eq_false (by omega)]
    · rw [if_neg h]
  rw [hn]
  clear hn h1 h2 h3 h4
  have HW := Aside0.mk hw
  clear hw
  go_enter Try.func7, Try.ntmps7
  go_wp2_with (go_at_call 20; refine (impl_within.calls a0 1 4 false _ HW.out).mono ?_; rintro e w1 ⟨rfl, hb⟩)
  go_ret
  exact ⟨rfl, hb⟩

end Go.Proofs.Ytkihbelhpnhceaa.P
