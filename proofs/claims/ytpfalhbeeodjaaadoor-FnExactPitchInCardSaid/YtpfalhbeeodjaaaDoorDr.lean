/- What the library's variables hold while a law runs: laid when the call begins, and as it was behind each call that writes nothing old. -/
import Derived.Test.YtpfalhbeeodjaaaDoorK
import Derived.Lib.LaidTab
import Derived.Lib.ItoaNum
namespace Go.Proofs.YtpfalhbeeodjaaaDoor.P
open Go.RowKit
theorem var_keep {P : Program} {w w' : World} {n : String} {cs : Array Value} (hb : Below w.heap.size w w') (h : w.var? P n = some cs) : w'.var? P n = some cs := by
  unfold World.var? at h ⊢
  cases hg : P.globalNamed n with
  | none => simp [hg] at h
  | some g =>
    simp only [hg, Option.bind_some] at h ⊢
    have hlt : g < w.heap.size := by
      rcases Nat.lt_or_ge g w.heap.size with h' | h'
      · exact h'
      · simp [Array.getElem?_eq_none h'] at h
    rw [hb.block g hlt]
    exact h
/-- The table of powers of ten reads as the program's text lays it. -/
structure Door1 (w : World) : Prop where
  tab : Lib.TabIs Tryd.prog w "internal/strconv.uint64pow10" .u64 Lib.pow10Tab
theorem Door1.at {w w' : World} (h : Door1 w) (hb : Below w.heap.size w w') : Door1 w' := ⟨var_keep hb h.tab⟩
/-- And the two errors of strconv, and the bound of the search. -/
structure Door2 (w : World) : Prop where
  one : Door1 w
  syn : ∃ tp p, w.var? Tryd.prog "strconv.ErrSyntax" = some #[.iface tp p]
  ran : ∃ tp p, w.var? Tryd.prog "strconv.ErrRange" = some #[.iface tp p]
  ml : ∀ g, Tryd.prog.globalNamed "internal/bytealg.MaxLen" = some g → ∃ m, w.cell? ⟨g, 0, none⟩ = some (.int .i64 m)
theorem Door2.at {w w' : World} (h : Door2 w) (hb : Below w.heap.size w w') : Door2 w' :=
  ⟨Door1.at h.one hb, let ⟨t, p, e⟩ := h.syn; ⟨t, p, var_keep hb e⟩, let ⟨t, p, e⟩ := h.ran; ⟨t, p, var_keep hb e⟩, fun g hg => let ⟨m, e⟩ := h.ml g hg; ⟨m, by
    rw [hb.cell (World.block_lt_of_cell? _ _ e)]; exact e⟩⟩
end Go.Proofs.YtpfalhbeeodjaaaDoor.P
