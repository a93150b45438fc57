/- impl_pitchIn: what it answers, and that the machine's call comes to it. -/
import Derived.Deep.RegionHeld3
import Derived.Test.YtpfalhbeeodjaaaDoorK
import Derived.Test.YtpfalhbeeodjaaaDoorF58
import Derived.Test.YtpfalhbeeodjaaaDoorF59
import Derived.Test.YtpfalhbeeodjaaaDoorF60
import Derived.Test.YtpfalhbeeodjaaaDoorF61
import Derived.Test.YtpfalhbeeodjaaaDoorDr
namespace Go.Proofs.YtpfalhbeeodjaaaDoor.P
open Go.RowKit Go.Proofs.YtpfalhbeeodjaaaDoorW.PrintWords Go.Proofs.YtpfalhbeeodjaaaDoorW.PrintLast Go.Proofs.YtpfalhbeeodjaaaDoorW.PrintMore
attribute [local go_sem] max2_int min2_int max_two min_two max_three min_three max_four min_four str_leq str_gtr str_geq
set_option linter.unusedVariables false
set_option linter.unusedSimpArgs false

/-! ### impl_pitchIn: function 38 (by hand: pitchIn.lean) -/
def impl_pitchIn.L : List ByteArray := [⟨#[67]⟩, ⟨#[68, 98]⟩, ⟨#[68]⟩, ⟨#[69, 98]⟩, ⟨#[69]⟩, ⟨#[70]⟩, ⟨#[71, 98]⟩, ⟨#[71]⟩, ⟨#[65, 98]⟩, ⟨#[65]⟩, ⟨#[66, 98]⟩, ⟨#[66]⟩]
def impl_pitchIn.M : List ByteArray := [⟨#[49]⟩, ⟨#[50, 98]⟩, ⟨#[50]⟩, ⟨#[51, 98]⟩, ⟨#[51]⟩, ⟨#[52]⟩, ⟨#[52, 35]⟩, ⟨#[53]⟩, ⟨#[54, 98]⟩, ⟨#[54]⟩, ⟨#[55, 98]⟩, ⟨#[55]⟩]
def impl_pitchIn.at_ (l : List ByteArray) (t : Int) : ByteArray := l.getD t.toNat ByteArray.empty
def impl_pitchIn.o3 (m : ByteArray) (o : Int) : Option ByteArray := if o = -1 then some ((⟨#[95]⟩ : ByteArray) ++ m) else if o = 0 then some ((⟨#[]⟩ : ByteArray) ++ m) else if o = 1 then some ((⟨#[94]⟩ : ByteArray) ++ m) else none
def impl_pitchIn.f (s k p : Int) : Option ByteArray :=
  if s = 2 then (impl_ToneOf.f (wrap64 (p + k))).bind fun t => (impl_octaveOf.f (wrap64 (p + k))).bind fun o => (impl_Decimal.f (wrap64 (o + 4))).bind fun d => if (0 ≤ t ∧ t < 12) ∧ (impl_pitchIn.at_ impl_pitchIn.L t).size + d.size ≤ 9223372036854775807 then some (impl_pitchIn.at_ impl_pitchIn.L t ++ d) else none
  else if s = 3 then (impl_octaveOf.f p).bind fun o => (impl_ToneOf.f p).bind fun t => if (0 ≤ t ∧ t < 12) ∧ 1 + (impl_pitchIn.at_ impl_pitchIn.M t).size ≤ 9223372036854775807 then impl_pitchIn.o3 (impl_pitchIn.at_ impl_pitchIn.M t) o else none
  else if s = 4 then impl_Decimal.f (wrap64 (wrap64 (p + k) + 60))
  else impl_pitchText.f p
theorem impl_pitchIn.cell {W : World} {g : Nat} {t : TypeId} {L : List ByteArray} (h : W.heap[g]? = some (.cells (L.map Value.string).toArray t (0, 0))) {j : Nat} (hj : j < L.length) : W.cell? ⟨g, j, none⟩ = some (.string (L.getD j ByteArray.empty)) := by
  rw [blk_cell h j, List.getElem?_toArray, List.getElem?_map, List.getElem?_eq_getElem hj, List.getD_eq_getElem?_getD, List.getElem?_eq_getElem hj]
  rfl
set_option maxHeartbeats 3200000 in
set_option maxRecDepth 100000 in
theorem impl_pitchIn.c0 (s k p : Int) (r : ByteArray) (w : World) (h2 : ¬ s = 2) (h3 : ¬ s = 3) (h4 : ¬ s = 4) (h : impl_pitchText.f p = some r) :
    Calls Tryd.prog 38 #[.int .i64 s, .int .i64 k, .int .i64 p] w fun e w' => e = .returned (.string r) ∧ Below w.heap.size w w' := by
  have A1 := Aside0.mk (fun W => impl_pitchText.calls p r W h)
  have HB := Aside0.mk (Below.refl w.heap.size w)
  have b2 : (s == 2) = false := beq_eq_false_iff_ne.2 h2
  have b3 : (s == 3) = false := beq_eq_false_iff_ne.2 h3
  have b4 : (s == 4) = false := beq_eq_false_iff_ne.2 h4
  clear h h2 h3 h4
  go_enter Tryd.func38, Tryd.ntmps38
  go_wp2_with (first
    | (go_at_call 61; (with_reducible refine (A1.out _).mono ?_); rintro e w1 ⟨rfl, ⟨nd, rfl⟩⟩))
  all_goals go_ret
  all_goals exact ⟨rfl, by repeat (first | (with_reducible first | exact HB.out | apply below_alloc | apply pw_below_drewN | apply below_drew1) | exact HB.out)⟩
set_option maxHeartbeats 3200000 in
set_option maxRecDepth 100000 in
theorem impl_pitchIn.c4 (k p : Int) (r : ByteArray) (w : World) (hD : Door1 w) (h : impl_Decimal.f (wrap64 (wrap64 (p + k) + 60)) = some r) :
    Calls Tryd.prog 38 #[.int .i64 4, .int .i64 k, .int .i64 p] w fun e w' => e = .returned (.string r) ∧ Below w.heap.size w w' := by
  have A1 := Aside0.mk (fun W (hW : Below w.heap.size w W) => impl_Decimal.calls (wrap64 (wrap64 (p + k) + 60)) r W (Door1.at hD hW) h)
  have HB := Aside0.mk (Below.refl w.heap.size w)
  clear h hD
  go_enter Tryd.func38, Tryd.ntmps38
  go_wp2_with (first
    | (go_at_call 59; (with_reducible refine (A1.out _ ?hh).mono ?_); (case hh => repeat (first | (with_reducible first | exact HB.out | apply below_alloc | apply pw_below_drewN | apply below_drew1) | exact HB.out)); rintro e w1 ⟨rfl, hb⟩; have n0_ := Aside0.mk (below_step (by repeat (first | (with_reducible first | exact HB.out | apply below_alloc | apply pw_below_drewN | apply below_drew1) | exact HB.out)) hb); clear HB; have HB := n0_; clear n0_))
  all_goals go_ret
  all_goals exact ⟨rfl, by repeat (first | (with_reducible first | exact HB.out | apply below_alloc | apply pw_below_drewN | apply below_drew1) | exact HB.out)⟩
set_option maxHeartbeats 3200000 in
set_option maxRecDepth 100000 in
theorem impl_pitchIn.c2 (k p t o : Int) (d : ByteArray) (w : World) (hD : Door1 w) (e1 : impl_ToneOf.f (wrap64 (p + k)) = some t) (e2 : impl_octaveOf.f (wrap64 (p + k)) = some o) (e3 : impl_Decimal.f (wrap64 (o + 4)) = some d) (h0 : 0 ≤ t) (h1 : t < 12) (hs : (impl_pitchIn.at_ impl_pitchIn.L t).size + d.size ≤ 9223372036854775807) :
    Calls Tryd.prog 38 #[.int .i64 2, .int .i64 k, .int .i64 p] w fun e w' => e = .returned (.string (impl_pitchIn.at_ impl_pitchIn.L t ++ d)) ∧ Below w.heap.size w w' := by
  have A1 := Aside0.mk (fun W => impl_ToneOf.calls (wrap64 (p + k)) t W e1)
  have A2 := Aside0.mk (fun W => impl_octaveOf.calls (wrap64 (p + k)) o W e2)
  have A3 : Aside0 (∀ W, Below w.heap.size w W → Calls Tryd.prog 59 #[.int .i64 (IntKind.i64.wrap (o + 4))] W fun e w' => e = .returned (.string d) ∧ Below W.heap.size W w') := ⟨fun W hW => by rw [IntWalk.i64_left]; exact impl_Decimal.calls (wrap64 (o + 4)) d W (Door1.at hD hW) e3⟩
  have HB := Aside0.mk (Below.refl w.heap.size w)
  have HN := Aside0.mk (show t.toNat < impl_pitchIn.L.length by show t.toNat < 12; omega)
  obtain ⟨lt, hlt⟩ : ∃ lt, lt = impl_pitchIn.at_ impl_pitchIn.L t := ⟨_, rfl⟩
  rw [← hlt] at hs ⊢
  have HL := Aside0.mk hlt
  have b0 : (9223372036854775807 < lt.size + d.size) = False := eq_false (by omega)
  have t0 : (0 ≤ t) = True := eq_true h0
  have t1 : (t < 12) = True := eq_true h1
  clear e1 e2 e3 hD h0 h1 hs hlt
  go_enter Tryd.func38, Tryd.ntmps38
  go_wp2_with fail
  have hx : ((w.alloc (.cells #[.string ⟨#[67]⟩, .string ⟨#[68, 98]⟩, .string ⟨#[68]⟩, .string ⟨#[69, 98]⟩, .string ⟨#[69]⟩, .string ⟨#[70]⟩, .string ⟨#[71, 98]⟩, .string ⟨#[71]⟩, .string ⟨#[65, 98]⟩, .string ⟨#[65]⟩, .string ⟨#[66, 98]⟩, .string ⟨#[66]⟩] 69)).alloc (.cells #[.string ⟨#[49]⟩, .string ⟨#[50, 98]⟩, .string ⟨#[50]⟩, .string ⟨#[51, 98]⟩, .string ⟨#[51]⟩, .string ⟨#[52]⟩, .string ⟨#[52, 35]⟩, .string ⟨#[53]⟩, .string ⟨#[54, 98]⟩, .string ⟨#[54]⟩, .string ⟨#[55, 98]⟩, .string ⟨#[55]⟩] 69)).cell? ⟨w.heap.size, t.toNat, none⟩ = some (.string lt) := by
    have hx := impl_pitchIn.cell (blk_below (blk_new w (.cells (impl_pitchIn.L.map Value.string).toArray 69)) (below_alloc (Below.refl _ _) (.cells (impl_pitchIn.M.map Value.string).toArray 69))) HN.out
    rw [show impl_pitchIn.L.getD t.toNat ByteArray.empty = lt from HL.out.symm] at hx
    exact hx
  go_region_held3 (fun w' => w'.cell? ⟨w.heap.size, t.toNat, none⟩ = some (.string lt)) (first | go_keep | (refine pw_cell_below hb ?_; first | assumption | go_keep)) (first
    | (go_at_call 58; (with_reducible refine (A1.out _).mono ?_); rintro e w1 ⟨rfl, ⟨nd, rfl⟩⟩)
    | (go_at_call 60; (with_reducible refine (A2.out _).mono ?_); rintro e w1 ⟨rfl, ⟨nd, rfl⟩⟩)
    | (go_at_call 59; (with_reducible refine (A3.out _ ?hh).mono ?_); (case hh => repeat (first | (with_reducible first | exact HB.out | apply below_alloc | apply pw_below_drewN | apply below_drew1) | exact HB.out)); rintro e w1 ⟨rfl, hb⟩; have n0_ := Aside0.mk (below_step (by repeat (first | (with_reducible first | exact HB.out | apply below_alloc | apply pw_below_drewN | apply below_drew1) | exact HB.out)) hb); clear HB; have HB := n0_; clear n0_))
  all_goals go_wp2
  all_goals go_ret
  all_goals exact ⟨rfl, by repeat (first | (with_reducible first | exact HB.out | apply below_alloc | apply pw_below_drewN | apply below_drew1) | exact HB.out)⟩
set_option maxHeartbeats 3200000 in
set_option maxRecDepth 100000 in
theorem impl_pitchIn.c3m (k p t : Int) (w : World) (e1 : impl_ToneOf.f p = some t) (e2 : impl_octaveOf.f p = some (-1)) (h0 : 0 ≤ t) (h1 : t < 12) (hs : 1 + (impl_pitchIn.at_ impl_pitchIn.M t).size ≤ 9223372036854775807) :
    Calls Tryd.prog 38 #[.int .i64 3, .int .i64 k, .int .i64 p] w fun e w' => e = .returned (.string ((⟨#[95]⟩ : ByteArray) ++ impl_pitchIn.at_ impl_pitchIn.M t)) ∧ Below w.heap.size w w' := by
  have A1 := Aside0.mk (fun W => impl_ToneOf.calls p t W e1)
  have A2 := Aside0.mk (fun W => impl_octaveOf.calls p (-1) W e2)
  have HB := Aside0.mk (Below.refl w.heap.size w)
  have HN := Aside0.mk (show t.toNat < impl_pitchIn.M.length by show t.toNat < 12; omega)
  obtain ⟨lt, hlt⟩ : ∃ lt, lt = impl_pitchIn.at_ impl_pitchIn.M t := ⟨_, rfl⟩
  rw [← hlt] at hs ⊢
  have HL := Aside0.mk hlt
  have b0 : (9223372036854775807 < 1 + lt.size) = False := eq_false (by omega)
  have b1 : (9223372036854775807 < 0 + lt.size) = False := eq_false (by omega)
  have b2 : (9223372036854775807 < lt.size) = False := eq_false (by omega)
  have t0 : (0 ≤ t) = True := eq_true h0
  have t1 : (t < 12) = True := eq_true h1
  have hix : ∀ w : World, (Instr.index 70 (.agg #[.string ⟨#[95]⟩, .string ⟨#[]⟩, .string ⟨#[94]⟩]) (.int .i64 0)).run Tryd.prog w = .ok (.string ⟨#[95]⟩) w := fun _ => rfl
  have hwr : IntKind.i64.wrap 0 = 0 := rfl
  clear e1 e2 h0 h1 hs hlt
  go_enter Tryd.func38, Tryd.ntmps38
  go_wp2_with fail
  have hx : ((w.alloc (.cells #[.string ⟨#[67]⟩, .string ⟨#[68, 98]⟩, .string ⟨#[68]⟩, .string ⟨#[69, 98]⟩, .string ⟨#[69]⟩, .string ⟨#[70]⟩, .string ⟨#[71, 98]⟩, .string ⟨#[71]⟩, .string ⟨#[65, 98]⟩, .string ⟨#[65]⟩, .string ⟨#[66, 98]⟩, .string ⟨#[66]⟩] 69)).alloc (.cells #[.string ⟨#[49]⟩, .string ⟨#[50, 98]⟩, .string ⟨#[50]⟩, .string ⟨#[51, 98]⟩, .string ⟨#[51]⟩, .string ⟨#[52]⟩, .string ⟨#[52, 35]⟩, .string ⟨#[53]⟩, .string ⟨#[54, 98]⟩, .string ⟨#[54]⟩, .string ⟨#[55, 98]⟩, .string ⟨#[55]⟩] 69)).cell? ⟨w.heap.size + 1, t.toNat, none⟩ = some (.string lt) := by
    have hx := impl_pitchIn.cell (blk_new (w.alloc (.cells (impl_pitchIn.L.map Value.string).toArray 69)) (.cells (impl_pitchIn.M.map Value.string).toArray 69)) HN.out
    rw [show impl_pitchIn.M.getD t.toNat ByteArray.empty = lt from HL.out.symm] at hx
    have hz : (w.alloc (.cells (impl_pitchIn.L.map Value.string).toArray 69)).heap.size = w.heap.size + 1 := by
      show (Array.push w.heap _).size = _
      simp only [Array.size_push]
    rw [hz] at hx
    exact hx
  go_region_held3 (fun w' => w'.cell? ⟨w.heap.size + 1, t.toNat, none⟩ = some (.string lt)) (first | go_keep | (refine pw_cell_below hb ?_; first | assumption | go_keep)) (first
    | (go_at_call 58; (with_reducible refine (A1.out _).mono ?_); rintro e w1 ⟨rfl, ⟨nd, rfl⟩⟩)
    | (go_at_call 60; (with_reducible refine (A2.out _).mono ?_); rintro e w1 ⟨rfl, ⟨nd, rfl⟩⟩))
  all_goals go_wp2
  all_goals go_ret
  all_goals exact ⟨rfl, by repeat (first | (with_reducible first | exact HB.out | apply below_alloc | apply pw_below_drewN | apply below_drew1) | exact HB.out)⟩
set_option maxHeartbeats 3200000 in
set_option maxRecDepth 100000 in
theorem impl_pitchIn.c3z (k p t : Int) (w : World) (e1 : impl_ToneOf.f p = some t) (e2 : impl_octaveOf.f p = some (0)) (h0 : 0 ≤ t) (h1 : t < 12) (hs : 1 + (impl_pitchIn.at_ impl_pitchIn.M t).size ≤ 9223372036854775807) :
    Calls Tryd.prog 38 #[.int .i64 3, .int .i64 k, .int .i64 p] w fun e w' => e = .returned (.string ((⟨#[]⟩ : ByteArray) ++ impl_pitchIn.at_ impl_pitchIn.M t)) ∧ Below w.heap.size w w' := by
  have A1 := Aside0.mk (fun W => impl_ToneOf.calls p t W e1)
  have A2 := Aside0.mk (fun W => impl_octaveOf.calls p (0) W e2)
  have HB := Aside0.mk (Below.refl w.heap.size w)
  have HN := Aside0.mk (show t.toNat < impl_pitchIn.M.length by show t.toNat < 12; omega)
  obtain ⟨lt, hlt⟩ : ∃ lt, lt = impl_pitchIn.at_ impl_pitchIn.M t := ⟨_, rfl⟩
  rw [← hlt] at hs ⊢
  have HL := Aside0.mk hlt
  have b0 : (9223372036854775807 < 1 + lt.size) = False := eq_false (by omega)
  have b1 : (9223372036854775807 < 0 + lt.size) = False := eq_false (by omega)
  have b2 : (9223372036854775807 < lt.size) = False := eq_false (by omega)
  have t0 : (0 ≤ t) = True := eq_true h0
  have t1 : (t < 12) = True := eq_true h1
  have hix : ∀ w : World, (Instr.index 70 (.agg #[.string ⟨#[95]⟩, .string ⟨#[]⟩, .string ⟨#[94]⟩]) (.int .i64 1)).run Tryd.prog w = .ok (.string ⟨#[]⟩) w := fun _ => rfl
  have hwr : IntKind.i64.wrap 1 = 1 := rfl
  clear e1 e2 h0 h1 hs hlt
  go_enter Tryd.func38, Tryd.ntmps38
  go_wp2_with fail
  have hx : ((w.alloc (.cells #[.string ⟨#[67]⟩, .string ⟨#[68, 98]⟩, .string ⟨#[68]⟩, .string ⟨#[69, 98]⟩, .string ⟨#[69]⟩, .string ⟨#[70]⟩, .string ⟨#[71, 98]⟩, .string ⟨#[71]⟩, .string ⟨#[65, 98]⟩, .string ⟨#[65]⟩, .string ⟨#[66, 98]⟩, .string ⟨#[66]⟩] 69)).alloc (.cells #[.string ⟨#[49]⟩, .string ⟨#[50, 98]⟩, .string ⟨#[50]⟩, .string ⟨#[51, 98]⟩, .string ⟨#[51]⟩, .string ⟨#[52]⟩, .string ⟨#[52, 35]⟩, .string ⟨#[53]⟩, .string ⟨#[54, 98]⟩, .string ⟨#[54]⟩, .string ⟨#[55, 98]⟩, .string ⟨#[55]⟩] 69)).cell? ⟨w.heap.size + 1, t.toNat, none⟩ = some (.string lt) := by
    have hx := impl_pitchIn.cell (blk_new (w.alloc (.cells (impl_pitchIn.L.map Value.string).toArray 69)) (.cells (impl_pitchIn.M.map Value.string).toArray 69)) HN.out
    rw [show impl_pitchIn.M.getD t.toNat ByteArray.empty = lt from HL.out.symm] at hx
    have hz : (w.alloc (.cells (impl_pitchIn.L.map Value.string).toArray 69)).heap.size = w.heap.size + 1 := by
      show (Array.push w.heap _).size = _
      simp only [Array.size_push]
    rw [hz] at hx
    exact hx
  go_region_held3 (fun w' => w'.cell? ⟨w.heap.size + 1, t.toNat, none⟩ = some (.string lt)) (first | go_keep | (refine pw_cell_below hb ?_; first | assumption | go_keep)) (first
    | (go_at_call 58; (with_reducible refine (A1.out _).mono ?_); rintro e w1 ⟨rfl, ⟨nd, rfl⟩⟩)
    | (go_at_call 60; (with_reducible refine (A2.out _).mono ?_); rintro e w1 ⟨rfl, ⟨nd, rfl⟩⟩))
  all_goals go_wp2
  all_goals go_ret
  all_goals exact ⟨rfl, by repeat (first | (with_reducible first | exact HB.out | apply below_alloc | apply pw_below_drewN | apply below_drew1) | exact HB.out)⟩
set_option maxHeartbeats 3200000 in
set_option maxRecDepth 100000 in
theorem impl_pitchIn.c3p (k p t : Int) (w : World) (e1 : impl_ToneOf.f p = some t) (e2 : impl_octaveOf.f p = some (1)) (h0 : 0 ≤ t) (h1 : t < 12) (hs : 1 + (impl_pitchIn.at_ impl_pitchIn.M t).size ≤ 9223372036854775807) :
    Calls Tryd.prog 38 #[.int .i64 3, .int .i64 k, .int .i64 p] w fun e w' => e = .returned (.string ((⟨#[94]⟩ : ByteArray) ++ impl_pitchIn.at_ impl_pitchIn.M t)) ∧ Below w.heap.size w w' := by
  have A1 := Aside0.mk (fun W => impl_ToneOf.calls p t W e1)
  have A2 := Aside0.mk (fun W => impl_octaveOf.calls p (1) W e2)
  have HB := Aside0.mk (Below.refl w.heap.size w)
  have HN := Aside0.mk (show t.toNat < impl_pitchIn.M.length by show t.toNat < 12; omega)
  obtain ⟨lt, hlt⟩ : ∃ lt, lt = impl_pitchIn.at_ impl_pitchIn.M t := ⟨_, rfl⟩
  rw [← hlt] at hs ⊢
  have HL := Aside0.mk hlt
  have b0 : (9223372036854775807 < 1 + lt.size) = False := eq_false (by omega)
  have b1 : (9223372036854775807 < 0 + lt.size) = False := eq_false (by omega)
  have b2 : (9223372036854775807 < lt.size) = False := eq_false (by omega)
  have t0 : (0 ≤ t) = True := eq_true h0
  have t1 : (t < 12) = True := eq_true h1
  have hix : ∀ w : World, (Instr.index 70 (.agg #[.string ⟨#[95]⟩, .string ⟨#[]⟩, .string ⟨#[94]⟩]) (.int .i64 2)).run Tryd.prog w = .ok (.string ⟨#[94]⟩) w := fun _ => rfl
  have hwr : IntKind.i64.wrap 2 = 2 := rfl
  clear e1 e2 h0 h1 hs hlt
  go_enter Tryd.func38, Tryd.ntmps38
  go_wp2_with fail
  have hx : ((w.alloc (.cells #[.string ⟨#[67]⟩, .string ⟨#[68, 98]⟩, .string ⟨#[68]⟩, .string ⟨#[69, 98]⟩, .string ⟨#[69]⟩, .string ⟨#[70]⟩, .string ⟨#[71, 98]⟩, .string ⟨#[71]⟩, .string ⟨#[65, 98]⟩, .string ⟨#[65]⟩, .string ⟨#[66, 98]⟩, .string ⟨#[66]⟩] 69)).alloc (.cells #[.string ⟨#[49]⟩, .string ⟨#[50, 98]⟩, .string ⟨#[50]⟩, .string ⟨#[51, 98]⟩, .string ⟨#[51]⟩, .string ⟨#[52]⟩, .string ⟨#[52, 35]⟩, .string ⟨#[53]⟩, .string ⟨#[54, 98]⟩, .string ⟨#[54]⟩, .string ⟨#[55, 98]⟩, .string ⟨#[55]⟩] 69)).cell? ⟨w.heap.size + 1, t.toNat, none⟩ = some (.string lt) := by
    have hx := impl_pitchIn.cell (blk_new (w.alloc (.cells (impl_pitchIn.L.map Value.string).toArray 69)) (.cells (impl_pitchIn.M.map Value.string).toArray 69)) HN.out
    rw [show impl_pitchIn.M.getD t.toNat ByteArray.empty = lt from HL.out.symm] at hx
    have hz : (w.alloc (.cells (impl_pitchIn.L.map Value.string).toArray 69)).heap.size = w.heap.size + 1 := by
      show (Array.push w.heap _).size = _
      simp only [Array.size_push]
    rw [hz] at hx
    exact hx
  go_region_held3 (fun w' => w'.cell? ⟨w.heap.size + 1, t.toNat, none⟩ = some (.string lt)) (first | go_keep | (refine pw_cell_below hb ?_; first | assumption | go_keep)) (first
    | (go_at_call 58; (with_reducible refine (A1.out _).mono ?_); rintro e w1 ⟨rfl, ⟨nd, rfl⟩⟩)
    | (go_at_call 60; (with_reducible refine (A2.out _).mono ?_); rintro e w1 ⟨rfl, ⟨nd, rfl⟩⟩))
  all_goals go_wp2
  all_goals go_ret
  all_goals exact ⟨rfl, by repeat (first | (with_reducible first | exact HB.out | apply below_alloc | apply pw_below_drewN | apply below_drew1) | exact HB.out)⟩
theorem impl_pitchIn.calls (s k p : Int) (r : ByteArray) (w : World) (hD : Door1 w) (h : impl_pitchIn.f s k p = some r) :
    Calls Tryd.prog 38 #[.int .i64 s, .int .i64 k, .int .i64 p] w fun e w' => e = .returned (.string r) ∧ Below w.heap.size w w' := by
  unfold impl_pitchIn.f at h
  by_cases h2 : s = 2
  · subst h2
    rw [if_pos rfl] at h
    obtain ⟨t, e1, h⟩ := Option.bind_eq_some_iff.1 h
    obtain ⟨o, e2, h⟩ := Option.bind_eq_some_iff.1 h
    obtain ⟨d, e3, h⟩ := Option.bind_eq_some_iff.1 h
    by_cases hc : (0 ≤ t ∧ t < 12) ∧ (impl_pitchIn.at_ impl_pitchIn.L t).size + d.size ≤ 9223372036854775807
    · rw [if_pos hc] at h
      obtain rfl := Option.some.inj h
      exact impl_pitchIn.c2 k p t o d w hD e1 e2 e3 hc.1.1 hc.1.2 hc.2
    · rw [if_neg hc] at h; cases h
  rw [if_neg h2] at h
  by_cases h3 : s = 3
  · subst h3
    rw [if_pos rfl] at h
    obtain ⟨o, e2, h⟩ := Option.bind_eq_some_iff.1 h
    obtain ⟨t, e1, h⟩ := Option.bind_eq_some_iff.1 h
    by_cases hc : (0 ≤ t ∧ t < 12) ∧ 1 + (impl_pitchIn.at_ impl_pitchIn.M t).size ≤ 9223372036854775807
    · rw [if_pos hc] at h
      unfold impl_pitchIn.o3 at h
      by_cases o1 : o = -1
      · subst o1; rw [if_pos rfl] at h; obtain rfl := Option.some.inj h
        exact impl_pitchIn.c3m k p t w e1 e2 hc.1.1 hc.1.2 hc.2
      rw [if_neg o1] at h
      by_cases o2 : o = 0
      · subst o2; rw [if_pos rfl] at h; obtain rfl := Option.some.inj h
        exact impl_pitchIn.c3z k p t w e1 e2 hc.1.1 hc.1.2 hc.2
      rw [if_neg o2] at h
      by_cases o3 : o = 1
      · subst o3; rw [if_pos rfl] at h; obtain rfl := Option.some.inj h
        exact impl_pitchIn.c3p k p t w e1 e2 hc.1.1 hc.1.2 hc.2
      rw [if_neg o3] at h; cases h
    · rw [if_neg hc] at h; cases h
  rw [if_neg h3] at h
  by_cases h4 : s = 4
  · subst h4
    rw [if_pos rfl] at h
    exact impl_pitchIn.c4 k p r w hD h
  rw [if_neg h4] at h
  exact impl_pitchIn.c0 s k p r w h2 h3 h4 h

end Go.Proofs.YtpfalhbeeodjaaaDoor.P
