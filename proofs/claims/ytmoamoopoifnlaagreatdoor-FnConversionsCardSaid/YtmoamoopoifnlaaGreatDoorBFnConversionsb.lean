/- Part b of what FnConversions stands on: functions of the program as Lean functions with their walks, and plain lemmas. -/
import Derived.Deep.RegionHeld3
import Derived.Test.YtmoamoopoifnlaaGreatDoorK
import Derived.Test.YtmoamoopoifnlaaGreatDoorBFnConversionsa
import Derived.Test.YtmoamoopoifnlaaGreatDoorWWords
import Derived.Laws.IdiomStrings
import Derived.Laws.OwnMore
namespace Go.Proofs.YtmoamoopoifnlaaGreatDoor.P
open Go.RowKit Go.Proofs.YtmoamoopoifnlaaGreatDoorW.PrintWords Go.Proofs.YtmoamoopoifnlaaGreatDoorW.PrintLast Go.Proofs.YtmoamoopoifnlaaGreatDoorW.PrintMore
attribute [local go_sem] max2_int min2_int max_two min_two max_three min_three max_four min_four str_leq str_gtr str_geq
set_option linter.unusedVariables false
set_option linter.unusedSimpArgs false

def spec_l26Pitch.L : List ByteArray := [⟨#[67]⟩, ⟨#[68, 98]⟩, ⟨#[68]⟩, ⟨#[69, 98]⟩, ⟨#[69]⟩, ⟨#[70]⟩, ⟨#[71, 98]⟩, ⟨#[71]⟩, ⟨#[65, 98]⟩, ⟨#[65]⟩, ⟨#[66, 98]⟩, ⟨#[66]⟩]
def spec_l26Pitch.M : List ByteArray := [⟨#[49]⟩, ⟨#[50, 98]⟩, ⟨#[50]⟩, ⟨#[51, 98]⟩, ⟨#[51]⟩, ⟨#[52]⟩, ⟨#[52, 35]⟩, ⟨#[53]⟩, ⟨#[54, 98]⟩, ⟨#[54]⟩, ⟨#[55, 98]⟩, ⟨#[55]⟩]
def spec_l26Pitch.at_ (l : List ByteArray) (t : Int) : ByteArray := l.getD t.toNat ByteArray.empty
def spec_l26Pitch.nm (t : Int) : ByteArray := (⟨#[83, 114, 82, 103, 71, 109, 77, 80, 100, 68, 110, 78]⟩ : ByteArray).extract t.toNat (wrap64 (t + 1)).toNat
def spec_l26Pitch.f (n : Nat) (s k p : Int) : Option ByteArray :=
  (spec_l03Tone.f p).bind fun t => (spec_l03Floor.f p).bind fun o =>
  if 0 ≤ t ∧ t < 12 then
  if s = 1 then (if o < 0 then some (spec_l26Pitch.nm t ++ (⟨#[44]⟩ : ByteArray)) else if o > 0 then some (spec_l26Pitch.nm t ++ (⟨#[39]⟩ : ByteArray)) else some (spec_l26Pitch.nm t))
  else if s = 2 then (spec_l03Tone.f (wrap64 (p + k))).bind fun u => (spec_l03Floor.f (wrap64 (p + k))).bind fun q => (spec_l01Dec.f n (wrap64 (q + 4))).bind fun d => if (0 ≤ u ∧ u < 12) ∧ (spec_l26Pitch.at_ spec_l26Pitch.L u).size + d.size ≤ 9223372036854775807 then some (spec_l26Pitch.at_ spec_l26Pitch.L u ++ d) else none
  else if s = 3 then (if 1 + (spec_l26Pitch.at_ spec_l26Pitch.M t).size ≤ 9223372036854775807 then (if o < 0 then some ((⟨#[95]⟩ : ByteArray) ++ spec_l26Pitch.at_ spec_l26Pitch.M t) else if o > 0 then some ((⟨#[94]⟩ : ByteArray) ++ spec_l26Pitch.at_ spec_l26Pitch.M t) else some (spec_l26Pitch.at_ spec_l26Pitch.M t)) else none)
  else spec_l01Dec.f n (wrap64 (wrap64 (p + k) + 60))
  else none
theorem spec_l26Pitch.cell {W : World} {g : Nat} {t : TypeId} {L : List ByteArray} (h : W.heap[g]? = some (.cells (L.map Value.string).toArray t (0, 0))) {j : Nat} (hj : j < L.length) : W.cell? ⟨g, j, none⟩ = some (.string (L.getD j ByteArray.empty)) := by
  rw [blk_cell h j, List.getElem?_toArray, List.getElem?_map, List.getElem?_eq_getElem hj, List.getD_eq_getElem?_getD, List.getElem?_eq_getElem hj]
  rfl
set_option maxHeartbeats 3200000 in
set_option maxRecDepth 100000 in
theorem spec_l26Pitch.c1m (k p t o : Int) (w : World) (e1 : spec_l03Tone.f p = some t) (e2 : spec_l03Floor.f p = some o) (h0 : 0 ≤ t) (h1 : t < 12) (ho : o < 0) :
    Calls Tryz.prog 81 #[.int .i64 1, .int .i64 k, .int .i64 p] w fun e w' => e = .returned (.string (spec_l26Pitch.nm t ++ (⟨#[44]⟩ : ByteArray))) ∧ Below w.heap.size w w' := by
  have A1 := Aside0.mk (fun W => spec_l03Tone.calls p t W e1)
  have A2 := Aside0.mk (fun W => spec_l03Floor.calls p o W e2)
  have HB := Aside0.mk (Below.refl w.heap.size w)
  have N0 := Aside0.mk (fun W => spec_l03Names.calls (⟨#[83, 114, 82, 103, 71, 109, 77, 80, 100, 68, 110, 78]⟩ : ByteArray) W rfl)
  obtain ⟨nm, hnm⟩ : ∃ nm, nm = (⟨#[83, 114, 82, 103, 71, 109, 77, 80, 100, 68, 110, 78]⟩ : ByteArray) := ⟨_, rfl⟩
  have hz : nm.size = 12 := by rw [hnm]; rfl
  obtain ⟨j, hj⟩ : ∃ j : Nat, t = (j : Int) := ⟨t.toNat, by omega⟩
  have hw : wrap64 (t + 1) = ((j + 1 : Nat) : Int) := by rw [hj]; unfold wrap64; omega
  have hx : spec_l26Pitch.nm t = nm.extract j (j + 1) := by unfold spec_l26Pitch.nm; rw [hw, hnm, hj]; rfl
  rw [hx]
  rw [← hnm] at N0
  have c0 : (0 ≤ t) = True := eq_true h0
  have c1 : (t < 12) = True := eq_true h1
  have o0 : decide (o < 0) = true := decide_eq_true ho
  have o1 : (o < 0) = True := eq_true ho
  have HJ := Aside0.mk (show t.toNat = j by omega)
  have hsl : ∀ W : World, (Instr.slice 9 (.string nm) (some (.int .i64 (j : Int))) (some (.int .i64 ((j : Int) + 1))) none).run Tryz.prog W = .ok (.string (nm.extract j (j + 1))) W := fun W => by
    have := run_slice_string (P := Tryz.prog) W 9 nm .i64 .i64 (j : Int) ((j : Int) + 1) (by kernel_rfl) (by omega) (by omega) (by omega)
    rw [show ((j : Int)).toNat = j by omega, show ((j : Int) + 1).toNat = j + 1 by omega] at this
    exact this
  obtain ⟨x, hxx⟩ : ∃ x, x = nm.extract j (j + 1) := ⟨_, rfl⟩
  have HX : x.size = 1 := by rw [hxx, ByteArray.size_extract, hz]; omega
  rw [← hxx] at hsl ⊢
  have hj12 : j < 12 := by omega
  subst hj
  clear hx h0 h1 e1 e2 hnm hxx
  go_enter Tryz.func81, Tryz.ntmps81
  go_wp2_with (first
    | (go_at_call 113; (with_reducible refine (A1.out _).mono ?_); rintro e w1 ⟨rfl, ⟨nd, rfl⟩⟩)
    | (go_at_call 114; (with_reducible refine (A2.out _).mono ?_); rintro e w1 ⟨rfl, ⟨nd, rfl⟩⟩)
    | (go_at_call 115; (with_reducible refine (N0.out _).mono ?_); rintro e w1 ⟨rfl, ⟨nd, rfl⟩⟩))
  all_goals go_ret
  all_goals exact ⟨rfl, by repeat (first | (with_reducible first | exact HB.out | apply below_alloc | apply pw_below_drewN | apply below_drew1) | exact HB.out)⟩
set_option maxHeartbeats 3200000 in
set_option maxRecDepth 100000 in
theorem spec_l26Pitch.c1p (k p t o : Int) (w : World) (e1 : spec_l03Tone.f p = some t) (e2 : spec_l03Floor.f p = some o) (h0 : 0 ≤ t) (h1 : t < 12) (ho : o > 0) :
    Calls Tryz.prog 81 #[.int .i64 1, .int .i64 k, .int .i64 p] w fun e w' => e = .returned (.string (spec_l26Pitch.nm t ++ (⟨#[39]⟩ : ByteArray))) ∧ Below w.heap.size w w' := by
  have A1 := Aside0.mk (fun W => spec_l03Tone.calls p t W e1)
  have A2 := Aside0.mk (fun W => spec_l03Floor.calls p o W e2)
  have HB := Aside0.mk (Below.refl w.heap.size w)
  have N0 := Aside0.mk (fun W => spec_l03Names.calls (⟨#[83, 114, 82, 103, 71, 109, 77, 80, 100, 68, 110, 78]⟩ : ByteArray) W rfl)
  obtain ⟨nm, hnm⟩ : ∃ nm, nm = (⟨#[83, 114, 82, 103, 71, 109, 77, 80, 100, 68, 110, 78]⟩ : ByteArray) := ⟨_, rfl⟩
  have hz : nm.size = 12 := by rw [hnm]; rfl
  obtain ⟨j, hj⟩ : ∃ j : Nat, t = (j : Int) := ⟨t.toNat, by omega⟩
  have hw : wrap64 (t + 1) = ((j + 1 : Nat) : Int) := by rw [hj]; unfold wrap64; omega
  have hx : spec_l26Pitch.nm t = nm.extract j (j + 1) := by unfold spec_l26Pitch.nm; rw [hw, hnm, hj]; rfl
  rw [hx]
  rw [← hnm] at N0
  have c0 : (0 ≤ t) = True := eq_true h0
  have c1 : (t < 12) = True := eq_true h1
  have o0 : decide (o < 0) = false := decide_eq_false (by omega)
  have o1 : decide (0 < o) = true := decide_eq_true ho
  have o2 : decide (o > 0) = true := decide_eq_true ho
  have HJ := Aside0.mk (show t.toNat = j by omega)
  have hsl : ∀ W : World, (Instr.slice 9 (.string nm) (some (.int .i64 (j : Int))) (some (.int .i64 ((j : Int) + 1))) none).run Tryz.prog W = .ok (.string (nm.extract j (j + 1))) W := fun W => by
    have := run_slice_string (P := Tryz.prog) W 9 nm .i64 .i64 (j : Int) ((j : Int) + 1) (by kernel_rfl) (by omega) (by omega) (by omega)
    rw [show ((j : Int)).toNat = j by omega, show ((j : Int) + 1).toNat = j + 1 by omega] at this
    exact this
  obtain ⟨x, hxx⟩ : ∃ x, x = nm.extract j (j + 1) := ⟨_, rfl⟩
  have HX : x.size = 1 := by rw [hxx, ByteArray.size_extract, hz]; omega
  rw [← hxx] at hsl ⊢
  have hj12 : j < 12 := by omega
  subst hj
  clear hx h0 h1 e1 e2 hnm hxx
  go_enter Tryz.func81, Tryz.ntmps81
  go_wp2_with (first
    | (go_at_call 113; (with_reducible refine (A1.out _).mono ?_); rintro e w1 ⟨rfl, ⟨nd, rfl⟩⟩)
    | (go_at_call 114; (with_reducible refine (A2.out _).mono ?_); rintro e w1 ⟨rfl, ⟨nd, rfl⟩⟩)
    | (go_at_call 115; (with_reducible refine (N0.out _).mono ?_); rintro e w1 ⟨rfl, ⟨nd, rfl⟩⟩))
  all_goals go_ret
  all_goals exact ⟨rfl, by repeat (first | (with_reducible first | exact HB.out | apply below_alloc | apply pw_below_drewN | apply below_drew1) | exact HB.out)⟩
set_option maxHeartbeats 3200000 in
set_option maxRecDepth 100000 in
theorem spec_l26Pitch.c1z (k p t o : Int) (w : World) (e1 : spec_l03Tone.f p = some t) (e2 : spec_l03Floor.f p = some o) (h0 : 0 ≤ t) (h1 : t < 12) (ho : o = 0) :
    Calls Tryz.prog 81 #[.int .i64 1, .int .i64 k, .int .i64 p] w fun e w' => e = .returned (.string (spec_l26Pitch.nm t)) ∧ Below w.heap.size w w' := by
  have A1 := Aside0.mk (fun W => spec_l03Tone.calls p t W e1)
  have A2 := Aside0.mk (fun W => spec_l03Floor.calls p o W e2)
  have HB := Aside0.mk (Below.refl w.heap.size w)
  have N0 := Aside0.mk (fun W => spec_l03Names.calls (⟨#[83, 114, 82, 103, 71, 109, 77, 80, 100, 68, 110, 78]⟩ : ByteArray) W rfl)
  obtain ⟨nm, hnm⟩ : ∃ nm, nm = (⟨#[83, 114, 82, 103, 71, 109, 77, 80, 100, 68, 110, 78]⟩ : ByteArray) := ⟨_, rfl⟩
  have hz : nm.size = 12 := by rw [hnm]; rfl
  obtain ⟨j, hj⟩ : ∃ j : Nat, t = (j : Int) := ⟨t.toNat, by omega⟩
  have hw : wrap64 (t + 1) = ((j + 1 : Nat) : Int) := by rw [hj]; unfold wrap64; omega
  have hx : spec_l26Pitch.nm t = nm.extract j (j + 1) := by unfold spec_l26Pitch.nm; rw [hw, hnm, hj]; rfl
  rw [hx]
  rw [← hnm] at N0
  have c0 : (0 ≤ t) = True := eq_true h0
  have c1 : (t < 12) = True := eq_true h1
  subst ho
  have HJ := Aside0.mk (show t.toNat = j by omega)
  have hsl : ∀ W : World, (Instr.slice 9 (.string nm) (some (.int .i64 (j : Int))) (some (.int .i64 ((j : Int) + 1))) none).run Tryz.prog W = .ok (.string (nm.extract j (j + 1))) W := fun W => by
    have := run_slice_string (P := Tryz.prog) W 9 nm .i64 .i64 (j : Int) ((j : Int) + 1) (by kernel_rfl) (by omega) (by omega) (by omega)
    rw [show ((j : Int)).toNat = j by omega, show ((j : Int) + 1).toNat = j + 1 by omega] at this
    exact this
  obtain ⟨x, hxx⟩ : ∃ x, x = nm.extract j (j + 1) := ⟨_, rfl⟩
  have HX : x.size = 1 := by rw [hxx, ByteArray.size_extract, hz]; omega
  rw [← hxx] at hsl ⊢
  have hj12 : j < 12 := by omega
  subst hj
  clear hx h0 h1 e1 e2 hnm hxx
  go_enter Tryz.func81, Tryz.ntmps81
  go_wp2_with (first
    | (go_at_call 113; (with_reducible refine (A1.out _).mono ?_); rintro e w1 ⟨rfl, ⟨nd, rfl⟩⟩)
    | (go_at_call 114; (with_reducible refine (A2.out _).mono ?_); rintro e w1 ⟨rfl, ⟨nd, rfl⟩⟩)
    | (go_at_call 115; (with_reducible refine (N0.out _).mono ?_); rintro e w1 ⟨rfl, ⟨nd, rfl⟩⟩))
  all_goals go_ret
  all_goals exact ⟨rfl, by repeat (first | (with_reducible first | exact HB.out | apply below_alloc | apply pw_below_drewN | apply below_drew1) | exact HB.out)⟩
set_option maxHeartbeats 3200000 in
set_option maxRecDepth 100000 in
theorem spec_l26Pitch.c4 (n : Nat) (s k p t o : Int) (r : ByteArray) (w : World) (e1 : spec_l03Tone.f p = some t) (e2 : spec_l03Floor.f p = some o) (h1 : ¬ s = 1) (h2 : ¬ s = 2) (h3 : ¬ s = 3) (h : spec_l01Dec.f n (wrap64 (wrap64 (p + k) + 60)) = some r) :
    Calls Tryz.prog 81 #[.int .i64 s, .int .i64 k, .int .i64 p] w fun e w' => e = .returned (.string r) ∧ Below w.heap.size w w' := by
  have A1 := Aside0.mk (fun W => spec_l03Tone.calls p t W e1)
  have A2 := Aside0.mk (fun W => spec_l03Floor.calls p o W e2)
  have HB := Aside0.mk (Below.refl w.heap.size w)
  have A3 := Aside0.mk (fun W => spec_l01Dec.calls n (wrap64 (wrap64 (p + k) + 60)) r W h)
  have b1 : (s == 1) = false := beq_eq_false_iff_ne.2 h1
  have b2 : (s == 2) = false := beq_eq_false_iff_ne.2 h2
  have b3 : (s == 3) = false := beq_eq_false_iff_ne.2 h3
  clear h h1 h2 h3 e1 e2
  go_enter Tryz.func81, Tryz.ntmps81
  go_wp2_with (first
    | (go_at_call 113; (with_reducible refine (A1.out _).mono ?_); rintro e w1 ⟨rfl, ⟨nd, rfl⟩⟩)
    | (go_at_call 114; (with_reducible refine (A2.out _).mono ?_); rintro e w1 ⟨rfl, ⟨nd, rfl⟩⟩)
    | (go_at_call 82; (with_reducible refine (A3.out _).mono ?_); rintro e w1 ⟨rfl, hb⟩; have n0_ := Aside0.mk (below_step (by repeat (first | (with_reducible first | exact HB.out | apply below_alloc | apply pw_below_drewN | apply below_drew1) | exact HB.out)) hb); clear HB; have HB := n0_; clear n0_))
  all_goals go_ret
  all_goals exact ⟨rfl, by repeat (first | (with_reducible first | exact HB.out | apply below_alloc | apply pw_below_drewN | apply below_drew1) | exact HB.out)⟩
set_option maxHeartbeats 3200000 in
set_option maxRecDepth 100000 in
theorem spec_l26Pitch.c2 (n : Nat) (k p t o u q : Int) (d : ByteArray) (w : World) (e1 : spec_l03Tone.f p = some t) (e2 : spec_l03Floor.f p = some o) (e3 : spec_l03Tone.f (wrap64 (p + k)) = some u) (e4 : spec_l03Floor.f (wrap64 (p + k)) = some q) (e5 : spec_l01Dec.f n (wrap64 (q + 4)) = some d) (h0 : 0 ≤ u) (h1 : u < 12) (hs : (spec_l26Pitch.at_ spec_l26Pitch.L u).size + d.size ≤ 9223372036854775807) :
    Calls Tryz.prog 81 #[.int .i64 2, .int .i64 k, .int .i64 p] w fun e w' => e = .returned (.string (spec_l26Pitch.at_ spec_l26Pitch.L u ++ d)) ∧ Below w.heap.size w w' := by
  have A1 := Aside0.mk (fun W => spec_l03Tone.calls p t W e1)
  have A2 := Aside0.mk (fun W => spec_l03Floor.calls p o W e2)
  have HB := Aside0.mk (Below.refl w.heap.size w)
  have A3 := Aside0.mk (fun W => spec_l03Tone.calls (wrap64 (p + k)) u W e3)
  have A4 := Aside0.mk (fun W => spec_l03Floor.calls (wrap64 (p + k)) q W e4)
  have A5 : Aside0 (∀ W, Calls Tryz.prog 82 #[.int .i64 (IntKind.i64.wrap (q + 4))] W fun e w' => e = .returned (.string d) ∧ Below W.heap.size W w') := ⟨fun W => by rw [IntWalk.i64_left]; exact spec_l01Dec.calls n (wrap64 (q + 4)) d W e5⟩
  have HN := Aside0.mk (show u.toNat < spec_l26Pitch.L.length by show u.toNat < 12; omega)
  obtain ⟨lt, hlt⟩ : ∃ lt, lt = spec_l26Pitch.at_ spec_l26Pitch.L u := ⟨_, rfl⟩
  rw [← hlt] at hs ⊢
  have HL := Aside0.mk hlt
  have b0 : (9223372036854775807 < lt.size + d.size) = False := eq_false (by omega)
  have t0 : (0 ≤ u) = True := eq_true h0
  have t1 : (u < 12) = True := eq_true h1
  clear e1 e2 e3 e4 e5 h0 h1 hs hlt
  go_enter Tryz.func81, Tryz.ntmps81
  go_wp2_with (first
    | (go_at_call 113; (with_reducible refine (A1.out _).mono ?_); rintro e w1 ⟨rfl, ⟨nd, rfl⟩⟩)
    | (go_at_call 114; (with_reducible refine (A2.out _).mono ?_); rintro e w1 ⟨rfl, ⟨nd, rfl⟩⟩))
  have hx : ((w.alloc (.cells #[.string ⟨#[67]⟩, .string ⟨#[68, 98]⟩, .string ⟨#[68]⟩, .string ⟨#[69, 98]⟩, .string ⟨#[69]⟩, .string ⟨#[70]⟩, .string ⟨#[71, 98]⟩, .string ⟨#[71]⟩, .string ⟨#[65, 98]⟩, .string ⟨#[65]⟩, .string ⟨#[66, 98]⟩, .string ⟨#[66]⟩] 9)).alloc (.cells #[.string ⟨#[49]⟩, .string ⟨#[50, 98]⟩, .string ⟨#[50]⟩, .string ⟨#[51, 98]⟩, .string ⟨#[51]⟩, .string ⟨#[52]⟩, .string ⟨#[52, 35]⟩, .string ⟨#[53]⟩, .string ⟨#[54, 98]⟩, .string ⟨#[54]⟩, .string ⟨#[55, 98]⟩, .string ⟨#[55]⟩] 9)).cell? ⟨w.heap.size, u.toNat, none⟩ = some (.string lt) := by
    have hx := spec_l26Pitch.cell (blk_below (blk_new w (.cells (spec_l26Pitch.L.map Value.string).toArray 9)) (below_alloc (Below.refl _ _) (.cells (spec_l26Pitch.M.map Value.string).toArray 9))) HN.out
    rw [show spec_l26Pitch.L.getD u.toNat ByteArray.empty = lt from HL.out.symm] at hx
    exact hx
  go_region_held3 (fun w' => w'.cell? ⟨w.heap.size, u.toNat, none⟩ = some (.string lt)) (first | go_keep | (refine pw_cell_below hb ?_; first | assumption | go_keep)) (first
    | (go_at_call 113; (with_reducible refine (A3.out _).mono ?_); rintro e w1 ⟨rfl, ⟨nd, rfl⟩⟩)
    | (go_at_call 114; (with_reducible refine (A4.out _).mono ?_); rintro e w1 ⟨rfl, ⟨nd, rfl⟩⟩)
    | (go_at_call 82; (with_reducible refine (A5.out _).mono ?_); rintro e w1 ⟨rfl, hb⟩; have n0_ := Aside0.mk (below_step (by repeat (first | (with_reducible first | exact HB.out | apply below_alloc | apply pw_below_drewN | apply below_drew1) | exact HB.out)) hb); clear HB; have HB := n0_; clear n0_))
  all_goals go_wp2
  all_goals go_ret
  all_goals exact ⟨rfl, by repeat (first | (with_reducible first | exact HB.out | apply below_alloc | apply pw_below_drewN | apply below_drew1) | exact HB.out)⟩
set_option maxHeartbeats 3200000 in
set_option maxRecDepth 100000 in
theorem spec_l26Pitch.c3m (k p t o : Int) (w : World) (e1 : spec_l03Tone.f p = some t) (e2 : spec_l03Floor.f p = some o) (h0 : 0 ≤ t) (h1 : t < 12) (hs : 1 + (spec_l26Pitch.at_ spec_l26Pitch.M t).size ≤ 9223372036854775807) (ho : o < 0) :
    Calls Tryz.prog 81 #[.int .i64 3, .int .i64 k, .int .i64 p] w fun e w' => e = .returned (.string ((⟨#[95]⟩ : ByteArray) ++ spec_l26Pitch.at_ spec_l26Pitch.M t)) ∧ Below w.heap.size w w' := by
  have A1 := Aside0.mk (fun W => spec_l03Tone.calls p t W e1)
  have A2 := Aside0.mk (fun W => spec_l03Floor.calls p o W e2)
  have HB := Aside0.mk (Below.refl w.heap.size w)
  have HN := Aside0.mk (show t.toNat < spec_l26Pitch.M.length by show t.toNat < 12; omega)
  obtain ⟨lt, hlt⟩ : ∃ lt, lt = spec_l26Pitch.at_ spec_l26Pitch.M t := ⟨_, rfl⟩
  rw [← hlt] at hs ⊢
  have HL := Aside0.mk hlt
  have b0 : (9223372036854775807 < 1 + lt.size) = False := eq_false (by omega)
  have t0 : (0 ≤ t) = True := eq_true h0
  have t1 : (t < 12) = True := eq_true h1
  have o0 : decide (o < 0) = true := decide_eq_true ho
  have o1 : (o < 0) = True := eq_true ho
  clear e1 e2 h0 h1 hs hlt
  have hx : ((w.alloc (.cells #[.string ⟨#[67]⟩, .string ⟨#[68, 98]⟩, .string ⟨#[68]⟩, .string ⟨#[69, 98]⟩, .string ⟨#[69]⟩, .string ⟨#[70]⟩, .string ⟨#[71, 98]⟩, .string ⟨#[71]⟩, .string ⟨#[65, 98]⟩, .string ⟨#[65]⟩, .string ⟨#[66, 98]⟩, .string ⟨#[66]⟩] 9)).alloc (.cells #[.string ⟨#[49]⟩, .string ⟨#[50, 98]⟩, .string ⟨#[50]⟩, .string ⟨#[51, 98]⟩, .string ⟨#[51]⟩, .string ⟨#[52]⟩, .string ⟨#[52, 35]⟩, .string ⟨#[53]⟩, .string ⟨#[54, 98]⟩, .string ⟨#[54]⟩, .string ⟨#[55, 98]⟩, .string ⟨#[55]⟩] 9)).cell? ⟨w.heap.size + 1, t.toNat, none⟩ = some (.string lt) := by
    have hx := spec_l26Pitch.cell (blk_new (w.alloc (.cells (spec_l26Pitch.L.map Value.string).toArray 9)) (.cells (spec_l26Pitch.M.map Value.string).toArray 9)) HN.out
    rw [show spec_l26Pitch.M.getD t.toNat ByteArray.empty = lt from HL.out.symm] at hx
    have hz : (w.alloc (.cells (spec_l26Pitch.L.map Value.string).toArray 9)).heap.size = w.heap.size + 1 := by
      show (Array.push w.heap _).size = _
      simp only [Array.size_push]
    rw [hz] at hx
    exact hx
  go_enter Tryz.func81, Tryz.ntmps81
  go_wp2_with (first
    | (go_at_call 113; (with_reducible refine (A1.out _).mono ?_); rintro e w1 ⟨rfl, ⟨nd, rfl⟩⟩)
    | (go_at_call 114; (with_reducible refine (A2.out _).mono ?_); rintro e w1 ⟨rfl, ⟨nd, rfl⟩⟩))
  all_goals go_ret
  all_goals exact ⟨rfl, by repeat (first | (with_reducible first | exact HB.out | apply below_alloc | apply pw_below_drewN | apply below_drew1) | exact HB.out)⟩
set_option maxHeartbeats 3200000 in
set_option maxRecDepth 100000 in
theorem spec_l26Pitch.c3p (k p t o : Int) (w : World) (e1 : spec_l03Tone.f p = some t) (e2 : spec_l03Floor.f p = some o) (h0 : 0 ≤ t) (h1 : t < 12) (hs : 1 + (spec_l26Pitch.at_ spec_l26Pitch.M t).size ≤ 9223372036854775807) (ho : o > 0) :
    Calls Tryz.prog 81 #[.int .i64 3, .int .i64 k, .int .i64 p] w fun e w' => e = .returned (.string ((⟨#[94]⟩ : ByteArray) ++ spec_l26Pitch.at_ spec_l26Pitch.M t)) ∧ Below w.heap.size w w' := by
  have A1 := Aside0.mk (fun W => spec_l03Tone.calls p t W e1)
  have A2 := Aside0.mk (fun W => spec_l03Floor.calls p o W e2)
  have HB := Aside0.mk (Below.refl w.heap.size w)
  have HN := Aside0.mk (show t.toNat < spec_l26Pitch.M.length by show t.toNat < 12; omega)
  obtain ⟨lt, hlt⟩ : ∃ lt, lt = spec_l26Pitch.at_ spec_l26Pitch.M t := ⟨_, rfl⟩
  rw [← hlt] at hs ⊢
  have HL := Aside0.mk hlt
  have b0 : (9223372036854775807 < 1 + lt.size) = False := eq_false (by omega)
  have t0 : (0 ≤ t) = True := eq_true h0
  have t1 : (t < 12) = True := eq_true h1
  have o0 : decide (o < 0) = false := decide_eq_false (by omega)
  have o1 : decide (0 < o) = true := decide_eq_true ho
  have o2 : decide (o > 0) = true := decide_eq_true ho
  clear e1 e2 h0 h1 hs hlt
  have hx : ((w.alloc (.cells #[.string ⟨#[67]⟩, .string ⟨#[68, 98]⟩, .string ⟨#[68]⟩, .string ⟨#[69, 98]⟩, .string ⟨#[69]⟩, .string ⟨#[70]⟩, .string ⟨#[71, 98]⟩, .string ⟨#[71]⟩, .string ⟨#[65, 98]⟩, .string ⟨#[65]⟩, .string ⟨#[66, 98]⟩, .string ⟨#[66]⟩] 9)).alloc (.cells #[.string ⟨#[49]⟩, .string ⟨#[50, 98]⟩, .string ⟨#[50]⟩, .string ⟨#[51, 98]⟩, .string ⟨#[51]⟩, .string ⟨#[52]⟩, .string ⟨#[52, 35]⟩, .string ⟨#[53]⟩, .string ⟨#[54, 98]⟩, .string ⟨#[54]⟩, .string ⟨#[55, 98]⟩, .string ⟨#[55]⟩] 9)).cell? ⟨w.heap.size + 1, t.toNat, none⟩ = some (.string lt) := by
    have hx := spec_l26Pitch.cell (blk_new (w.alloc (.cells (spec_l26Pitch.L.map Value.string).toArray 9)) (.cells (spec_l26Pitch.M.map Value.string).toArray 9)) HN.out
    rw [show spec_l26Pitch.M.getD t.toNat ByteArray.empty = lt from HL.out.symm] at hx
    have hz : (w.alloc (.cells (spec_l26Pitch.L.map Value.string).toArray 9)).heap.size = w.heap.size + 1 := by
      show (Array.push w.heap _).size = _
      simp only [Array.size_push]
    rw [hz] at hx
    exact hx
  go_enter Tryz.func81, Tryz.ntmps81
  go_wp2_with (first
    | (go_at_call 113; (with_reducible refine (A1.out _).mono ?_); rintro e w1 ⟨rfl, ⟨nd, rfl⟩⟩)
    | (go_at_call 114; (with_reducible refine (A2.out _).mono ?_); rintro e w1 ⟨rfl, ⟨nd, rfl⟩⟩))
  all_goals go_ret
  all_goals exact ⟨rfl, by repeat (first | (with_reducible first | exact HB.out | apply below_alloc | apply pw_below_drewN | apply below_drew1) | exact HB.out)⟩
set_option maxHeartbeats 3200000 in
set_option maxRecDepth 100000 in
theorem spec_l26Pitch.c3z (k p t o : Int) (w : World) (e1 : spec_l03Tone.f p = some t) (e2 : spec_l03Floor.f p = some o) (h0 : 0 ≤ t) (h1 : t < 12) (hs : 1 + (spec_l26Pitch.at_ spec_l26Pitch.M t).size ≤ 9223372036854775807) (ho : o = 0) :
    Calls Tryz.prog 81 #[.int .i64 3, .int .i64 k, .int .i64 p] w fun e w' => e = .returned (.string (spec_l26Pitch.at_ spec_l26Pitch.M t)) ∧ Below w.heap.size w w' := by
  have A1 := Aside0.mk (fun W => spec_l03Tone.calls p t W e1)
  have A2 := Aside0.mk (fun W => spec_l03Floor.calls p o W e2)
  have HB := Aside0.mk (Below.refl w.heap.size w)
  have HN := Aside0.mk (show t.toNat < spec_l26Pitch.M.length by show t.toNat < 12; omega)
  obtain ⟨lt, hlt⟩ : ∃ lt, lt = spec_l26Pitch.at_ spec_l26Pitch.M t := ⟨_, rfl⟩
  rw [← hlt] at hs ⊢
  have HL := Aside0.mk hlt
  have b0 : (9223372036854775807 < 1 + lt.size) = False := eq_false (by omega)
  have t0 : (0 ≤ t) = True := eq_true h0
  have t1 : (t < 12) = True := eq_true h1
  subst ho
  clear e1 e2 h0 h1 hs hlt
  have hx : ((w.alloc (.cells #[.string ⟨#[67]⟩, .string ⟨#[68, 98]⟩, .string ⟨#[68]⟩, .string ⟨#[69, 98]⟩, .string ⟨#[69]⟩, .string ⟨#[70]⟩, .string ⟨#[71, 98]⟩, .string ⟨#[71]⟩, .string ⟨#[65, 98]⟩, .string ⟨#[65]⟩, .string ⟨#[66, 98]⟩, .string ⟨#[66]⟩] 9)).alloc (.cells #[.string ⟨#[49]⟩, .string ⟨#[50, 98]⟩, .string ⟨#[50]⟩, .string ⟨#[51, 98]⟩, .string ⟨#[51]⟩, .string ⟨#[52]⟩, .string ⟨#[52, 35]⟩, .string ⟨#[53]⟩, .string ⟨#[54, 98]⟩, .string ⟨#[54]⟩, .string ⟨#[55, 98]⟩, .string ⟨#[55]⟩] 9)).cell? ⟨w.heap.size + 1, t.toNat, none⟩ = some (.string lt) := by
    have hx := spec_l26Pitch.cell (blk_new (w.alloc (.cells (spec_l26Pitch.L.map Value.string).toArray 9)) (.cells (spec_l26Pitch.M.map Value.string).toArray 9)) HN.out
    rw [show spec_l26Pitch.M.getD t.toNat ByteArray.empty = lt from HL.out.symm] at hx
    have hz : (w.alloc (.cells (spec_l26Pitch.L.map Value.string).toArray 9)).heap.size = w.heap.size + 1 := by
      show (Array.push w.heap _).size = _
      simp only [Array.size_push]
    rw [hz] at hx
    exact hx
  go_enter Tryz.func81, Tryz.ntmps81
  go_wp2_with (first
    | (go_at_call 113; (with_reducible refine (A1.out _).mono ?_); rintro e w1 ⟨rfl, ⟨nd, rfl⟩⟩)
    | (go_at_call 114; (with_reducible refine (A2.out _).mono ?_); rintro e w1 ⟨rfl, ⟨nd, rfl⟩⟩))
  all_goals go_ret
  all_goals exact ⟨rfl, by repeat (first | (with_reducible first | exact HB.out | apply below_alloc | apply pw_below_drewN | apply below_drew1) | exact HB.out)⟩
theorem spec_l26Pitch.calls (n : Nat) (s k p : Int) (r : ByteArray) (w : World) (h : spec_l26Pitch.f n s k p = some r) :
    Calls Tryz.prog 81 #[.int .i64 s, .int .i64 k, .int .i64 p] w fun e w' => e = .returned (.string r) ∧ Below w.heap.size w w' := by
  unfold spec_l26Pitch.f at h
  obtain ⟨t, e1, h⟩ := Option.bind_eq_some_iff.1 h
  obtain ⟨o, e2, h⟩ := Option.bind_eq_some_iff.1 h
  by_cases ht : 0 ≤ t ∧ t < 12
  rotate_left
  · rw [if_neg ht] at h; cases h
  rw [if_pos ht] at h
  by_cases h1 : s = 1
  · subst h1
    rw [if_pos rfl] at h
    by_cases o1 : o < 0
    · rw [if_pos o1] at h; obtain rfl := Option.some.inj h; exact spec_l26Pitch.c1m k p t o w e1 e2 ht.1 ht.2 o1
    rw [if_neg o1] at h
    by_cases o2 : o > 0
    · rw [if_pos o2] at h; obtain rfl := Option.some.inj h; exact spec_l26Pitch.c1p k p t o w e1 e2 ht.1 ht.2 o2
    rw [if_neg o2] at h; obtain rfl := Option.some.inj h; exact spec_l26Pitch.c1z k p t o w e1 e2 ht.1 ht.2 (by omega)
  rw [if_neg h1] at h
  by_cases h2 : s = 2
  · subst h2
    rw [if_pos rfl] at h
    obtain ⟨u, e3, h⟩ := Option.bind_eq_some_iff.1 h
    obtain ⟨q, e4, h⟩ := Option.bind_eq_some_iff.1 h
    obtain ⟨d, e5, h⟩ := Option.bind_eq_some_iff.1 h
    by_cases hc : (0 ≤ u ∧ u < 12) ∧ (spec_l26Pitch.at_ spec_l26Pitch.L u).size + d.size ≤ 9223372036854775807
    · rw [if_pos hc] at h
      obtain rfl := Option.some.inj h
      exact spec_l26Pitch.c2 n k p t o u q d w e1 e2 e3 e4 e5 hc.1.1 hc.1.2 hc.2
    · rw [if_neg hc] at h; cases h
  rw [if_neg h2] at h
  by_cases h3 : s = 3
  · subst h3
    rw [if_pos rfl] at h
    by_cases hs : 1 + (spec_l26Pitch.at_ spec_l26Pitch.M t).size ≤ 9223372036854775807
    rotate_left
    · rw [if_neg hs] at h; cases h
    rw [if_pos hs] at h
    by_cases o1 : o < 0
    · rw [if_pos o1] at h; obtain rfl := Option.some.inj h; exact spec_l26Pitch.c3m k p t o w e1 e2 ht.1 ht.2 hs o1
    rw [if_neg o1] at h
    by_cases o2 : o > 0
    · rw [if_pos o2] at h; obtain rfl := Option.some.inj h; exact spec_l26Pitch.c3p k p t o w e1 e2 ht.1 ht.2 hs o2
    rw [if_neg o2] at h; obtain rfl := Option.some.inj h; exact spec_l26Pitch.c3z k p t o w e1 e2 ht.1 ht.2 hs (by omega)
  rw [if_neg h3] at h
  exact spec_l26Pitch.c4 n s k p t o r w e1 e2 h1 h2 h3 h

def spec_l26Notes.l0 : Nat → Int → Int → List (S67) → ByteArray → Int → Option (ByteArray)
  | 0, _, _, _, _, _ => none
  | k + 1, x0, x1, x2, x7, x8 => if x8 < (x2.length : Int) then (if x8 > 0 then (if x7.size + 1 ≤ 9223372036854775807 then (if 0 ≤ x8 then ((spec_l26Pitch.f k x0 x1 ((rd_T67 x2 x8).f0)).bind fun t102 => (if t102.size + 1 ≤ 9223372036854775807 then ((spec_l01Dec.f k ((rd_T67 x2 x8).f1)).bind fun t104 => (if (t102 ++ (⟨#[58]⟩ : ByteArray)).size + t104.size ≤ 9223372036854775807 then (if (x7 ++ (⟨#[32]⟩ : ByteArray)).size + ((t102 ++ (⟨#[58]⟩ : ByteArray)) ++ t104).size ≤ 9223372036854775807 then (spec_l26Notes.l0 k x0 x1 x2 ((x7 ++ (⟨#[32]⟩ : ByteArray)) ++ ((t102 ++ (⟨#[58]⟩ : ByteArray)) ++ t104)) (wrap64 (x8 + 1))) else (none)) else (none))) else (none))) else (none)) else (none)) else (if 0 ≤ x8 then ((spec_l26Pitch.f k x0 x1 ((rd_T67 x2 x8).f0)).bind fun t106 => (if t106.size + 1 ≤ 9223372036854775807 then ((spec_l01Dec.f k ((rd_T67 x2 x8).f1)).bind fun t108 => (if (t106 ++ (⟨#[58]⟩ : ByteArray)).size + t108.size ≤ 9223372036854775807 then (if x7.size + ((t106 ++ (⟨#[58]⟩ : ByteArray)) ++ t108).size ≤ 9223372036854775807 then (spec_l26Notes.l0 k x0 x1 x2 (x7 ++ ((t106 ++ (⟨#[58]⟩ : ByteArray)) ++ t108)) (wrap64 (x8 + 1))) else (none)) else (none))) else (none))) else (none))) else (some x7)
def spec_l26Notes.f (k : Nat) (a0 : Int) (a1 : Int) (l2 : List (S67)) : Option (ByteArray) := spec_l26Notes.l0 k a0 a1 l2 (⟨#[]⟩ : ByteArray) 0
def spec_l26Notes.T7 : Bool × List (List Nat × List Nat) := (true, [([], []), ([], []), ([], []), ([], []), ([], []), ([3, 4], [3, 4]), ([5], [5]), ([6], [6]), ([1, 2, 7], [1, 2, 7]), ([8], [8]), ([], []), ([], []), ([10, 11], [10, 11]), ([12], [12]), ([13], [13]), ([14, 8], [14]), ([9, 15], [9, 15]), ([0, 16], [0, 16]), ([17, 15, 0, 1, 2, 3, 4, 5, 6, 7, 8, 9, 10, 11, 12, 13, 14, 15, 16, 17], [0, 17])])
def spec_l26Notes.B7 : List Nat := [0, 0, 0, 0, 0, 24, 56, 120, 254, 510, 0, 0, 3072, 7168, 15360, 32254, 65534, 131071, 262143]
theorem spec_l26Notes.tab7 : rtab .any (opsOf Tryz.f45 7) = spec_l26Notes.T7 := by kernel_rfl
theorem spec_l26Notes.bits7 : waitsOk spec_l26Notes.T7.2 spec_l26Notes.B7 = true := by kernel_rfl
set_option maxHeartbeats 8000000 in
set_option maxRecDepth 100000 in
theorem spec_l26Notes.calls (k : Nat) (a0 : Int) (a1 : Int) (A2 : Option Addr) (c2 : Nat) (l2 : List (S67)) (r : ByteArray) (w : World) (hr2 : Kd.C k67 w A2 l2.length l2) (hc2 : l2.length ≤ c2) (h : spec_l26Notes.f k a0 a1 l2 = some r) :
    Calls Tryz.prog 45 #[.int .i64 a0, .int .i64 a1, .slice A2 l2.length c2] w fun e w' => e = .returned (.string r) ∧ Below w.heap.size w w' := by
  have HR2 := Aside0.mk hr2
  have HC2 := Aside0.mk hc2
  clear hr2 hc2
  have HB := Aside0.mk (Below.refl w.heap.size w)
  have H : (spec_l26Notes.l0 k a0 a1 l2 (⟨#[]⟩ : ByteArray) 0) = some r := h
  clear h
  have H' := Aside0.mk H
  clear H
  go_enter Tryz.func45, Tryz.ntmps45
  go_wp2
  go_loopg [7, 8] k (fun kq v7 v8 w' => ∃ (x7_1 : ByteArray) (x8_1 : Int), v7 = .string x7_1 ∧ v8 = .int .i64 x8_1 ∧ Aside0 (spec_l26Notes.l0 kq a0 a1 l2 x7_1 x8_1 = some r) ∧ Aside0 (kq ≤ k) ∧ Aside0 (Below w.heap.size w w'))
  case atStart => exact ⟨((⟨#[]⟩ : ByteArray)), (0), (by first | rfl | (simp; done) | (simp [*]; done)), (by first | rfl | (simp; done) | (simp [*]; done)), H', ⟨Nat.le_refl _⟩, ⟨by repeat (first | (with_reducible first | exact HB.out | apply below_alloc | apply pw_below_drewN | apply below_drew1) | exact HB.out)⟩⟩
  case round =>
    clear H'
    try clear c2
    try clear p2
    obtain ⟨x7_1, x8_1, rfl, rfl, HA, HK1, HB⟩ := hrel
    cases gk with
    | zero => exact absurd HA.out (by simp [spec_l26Notes.l0])
    | succ k1 =>
      have H := HA.out
      clear HA
      simp only [spec_l26Notes.l0] at H
      by_cases c4 : x8_1 < (l2.length : Int)
      · rw [if_pos c4] at H
        have c4b0 : decide (x8_1 < (l2.length : Int)) = true := decide_eq_true c4
        clear c4
        by_cases c5 : x8_1 > 0
        · rw [if_pos c5] at H
          have c5b0 : decide (0 < x8_1) = true := decide_eq_true c5
          clear c5
          by_cases c6 : x7_1.size + 1 ≤ 9223372036854775807
          · rw [if_pos c6] at H
            have c6b0 := eq_true c6
            have c6b1 : decide (x7_1.size + 1 ≤ 9223372036854775807) = true := decide_eq_true c6
            try have c6b2 : (9223372036854775807 < x7_1.size + 1) = False := eq_false (Nat.not_lt.2 c6)
            by_cases c7 : 0 ≤ x8_1
            · rw [if_pos c7] at H
              have c7b0 : decide (0 ≤ x8_1) = true := decide_eq_true c7
              clear c7
              replace H := Option.bind_eq_some_iff.mp H
              obtain ⟨t102, A80, H⟩ := H
              replace H : (if t102.size + 1 ≤ 9223372036854775807 then ((spec_l01Dec.f k1 ((rd_T67 l2 x8_1).f1)).bind fun t104 => (if (t102 ++ (⟨#[58]⟩ : ByteArray)).size + t104.size ≤ 9223372036854775807 then (if (x7_1 ++ (⟨#[32]⟩ : ByteArray)).size + ((t102 ++ (⟨#[58]⟩ : ByteArray)) ++ t104).size ≤ 9223372036854775807 then (spec_l26Notes.l0 k1 a0 a1 l2 ((x7_1 ++ (⟨#[32]⟩ : ByteArray)) ++ ((t102 ++ (⟨#[58]⟩ : ByteArray)) ++ t104)) (wrap64 (x8_1 + 1))) else (none)) else (none))) else (none)) = some r := H
              have A8 := Aside0.mk A80
              clear A80
              by_cases c9 : t102.size + 1 ≤ 9223372036854775807
              · rw [if_pos c9] at H
                have c9b0 := eq_true c9
                have c9b1 : decide (t102.size + 1 ≤ 9223372036854775807) = true := decide_eq_true c9
                try have c9b2 : (9223372036854775807 < t102.size + 1) = False := eq_false (Nat.not_lt.2 c9)
                replace H := Option.bind_eq_some_iff.mp H
                obtain ⟨t104, A100, H⟩ := H
                replace H : (if (t102 ++ (⟨#[58]⟩ : ByteArray)).size + t104.size ≤ 9223372036854775807 then (if (x7_1 ++ (⟨#[32]⟩ : ByteArray)).size + ((t102 ++ (⟨#[58]⟩ : ByteArray)) ++ t104).size ≤ 9223372036854775807 then (spec_l26Notes.l0 k1 a0 a1 l2 ((x7_1 ++ (⟨#[32]⟩ : ByteArray)) ++ ((t102 ++ (⟨#[58]⟩ : ByteArray)) ++ t104)) (wrap64 (x8_1 + 1))) else (none)) else (none)) = some r := H
                have A10 := Aside0.mk A100
                clear A100
                by_cases c11 : (t102 ++ (⟨#[58]⟩ : ByteArray)).size + t104.size ≤ 9223372036854775807
                · rw [if_pos c11] at H
                  have c11b0 := eq_true c11
                  have c11b1 : decide ((t102 ++ (⟨#[58]⟩ : ByteArray)).size + t104.size ≤ 9223372036854775807) = true := decide_eq_true c11
                  try have c11b2 : (9223372036854775807 < (t102 ++ (⟨#[58]⟩ : ByteArray)).size + t104.size) = False := eq_false (Nat.not_lt.2 c11)
                  try have c11b3 : (9223372036854775807 < t102.size + 1 + t104.size) = False := eq_false (by have h_ := c11; simp only [ByteArray.size_append] at h_; exact Nat.not_lt.2 h_)
                  by_cases c12 : (x7_1 ++ (⟨#[32]⟩ : ByteArray)).size + ((t102 ++ (⟨#[58]⟩ : ByteArray)) ++ t104).size ≤ 9223372036854775807
                  · rw [if_pos c12] at H
                    have c12b0 := eq_true c12
                    have c12b1 : decide ((x7_1 ++ (⟨#[32]⟩ : ByteArray)).size + ((t102 ++ (⟨#[58]⟩ : ByteArray)) ++ t104).size ≤ 9223372036854775807) = true := decide_eq_true c12
                    try have c12b2 : (9223372036854775807 < (x7_1 ++ (⟨#[32]⟩ : ByteArray)).size + ((t102 ++ (⟨#[58]⟩ : ByteArray)) ++ t104).size) = False := eq_false (Nat.not_lt.2 c12)
                    try have c12b3 : (9223372036854775807 < x7_1.size + 1 + (t102.size + 1 + t104.size)) = False := eq_false (by have h_ := c12; simp only [ByteArray.size_append] at h_; exact Nat.not_lt.2 h_)
                    have H' := Aside0.mk H
                    clear H
                    try go_wp2
                    have n0_ := Aside0.mk (below_drew1 HB.out)
                    clear HB
                    have HB := n0_
                    clear n0_
                    have p101 : 0 ≤ (x8_1 : Int) := of_decide_eq_true (by first | (with_reducible assumption) | assumption)
                    have q101 : x8_1 < (l2.length : Int) := of_decide_eq_true (by first | (with_reducible assumption) | assumption)
                    obtain ⟨ad101, e101, hx101_0, hx101_1⟩ := at_T67 HR2.out x8_1 p101 q101
                    have hw101_1 := hx101_1
                    have hw101_0 := hx101_0
                    cases e101
                    replace hx101_0 := (HB.out.cell (World.block_lt_of_cell? w _ hx101_0)).trans hx101_0
                    replace hx101_1 := (HB.out.cell (World.block_lt_of_cell? w _ hx101_1)).trans hx101_1
                    replace p101 := eq_true p101
                    replace q101 := eq_true q101
                    have p103 : 0 ≤ (x8_1 : Int) := of_decide_eq_true (by first | (with_reducible assumption) | assumption)
                    have q103 : x8_1 < (l2.length : Int) := of_decide_eq_true (by first | (with_reducible assumption) | assumption)
                    obtain ⟨ad103, e103, hx103_0, hx103_1⟩ := at_T67 HR2.out x8_1 p103 q103
                    have hw103_1 := hx103_1
                    have hw103_0 := hx103_0
                    obtain rfl : ad101 = ad103 := (by injection e103)
                    replace hx103_0 := (HB.out.cell (World.block_lt_of_cell? w _ hx103_0)).trans hx103_0
                    replace hx103_1 := (HB.out.cell (World.block_lt_of_cell? w _ hx103_1)).trans hx103_1
                    replace p103 := eq_true p103
                    replace q103 := eq_true q103
                    refine start_ (n := 19) (S := fun w' => w'.cell? (ad101.add ((x8_1).toNat * 2)) = some (.int .i64 ((rd_T67 l2 x8_1).f0)) ∧ w'.cell? ⟨(ad101.add ((x8_1).toNat * 2)).block, (ad101.add ((x8_1).toNat * 2)).off + 1, none⟩ = some (.int .i64 ((rd_T67 l2 x8_1).f1)) ∧ w'.cell? (ad101.add ((x8_1).toNat * 2)) = some (.int .i64 ((rd_T67 l2 x8_1).f0)) ∧ w'.cell? ⟨(ad101.add ((x8_1).toNat * 2)).block, (ad101.add ((x8_1).toNat * 2)).off + 1, none⟩ = some (.int .i64 ((rd_T67 l2 x8_1).f1))) (ds := []) #[false, false, false, false, false, false, false, false, false, false, false, false, false, false, false, false, false, false, false] (by kernel_rfl) rfl rfl ⟨((HB.out.cell (World.block_lt_of_cell? w _ hw101_0)).trans hw101_0), ((HB.out.cell (World.block_lt_of_cell? w _ hw101_1)).trans hw101_1), ((HB.out.cell (World.block_lt_of_cell? w _ hw103_0)).trans hw103_0), ((HB.out.cell (World.block_lt_of_cell? w _ hw103_1)).trans hw103_1)⟩ (fun hHeld => ?_); refine with_tabW spec_l26Notes.tab7 spec_l26Notes.bits7 (fun HT_ HW_ => ?_)
                    generalize wr.drew = w13 at HB hx101_0 hx101_1 hx103_0 hx103_1 hHeld ⊢
                    refine pure_ (i := 0) (N := some 19) (v := ?_) (a' := ?_) #[true, false, false, false, false, false, false, false, false, false, false, false, false, false, false, false, false, false, false] rfl rfl (any_of HT_.out (by kernel_rfl)) (fun _ _ _ h => h) (Or.inl ⟨by rfl, ?_⟩) ?_ ?_
                    rotate_left
                    · intro w'
                      go_simp
                      with_reducible rfl
                    rotate_left
                    · simp only [Act.put, List.setIfInBounds_toArray, List.set_cons_zero, List.set_cons_succ, i64_w, i32_w]
                      rfl
                    refine pure_ (i := 1) (N := some 20) (v := ?_) (a' := ?_) #[true, true, false, false, false, false, false, false, false, false, false, false, false, false, false, false, false, false, false] rfl rfl (any_of HT_.out (by kernel_rfl)) (fun _ _ _ h => h) (Or.inl ⟨by rfl, ?_⟩) ?_ ?_
                    rotate_left
                    · intro w'
                      go_simp
                      with_reducible rfl
                    rotate_left
                    · simp only [Act.put, List.setIfInBounds_toArray, List.set_cons_zero, List.set_cons_succ, i64_w, i32_w]
                      rfl
                    refine pure_ (i := 2) (N := some 21) (v := ?_) (a' := ?_) #[true, true, true, false, false, false, false, false, false, false, false, false, false, false, false, false, false, false, false] rfl rfl (any_of HT_.out (by kernel_rfl)) (fun _ _ _ h => h) (Or.inl ⟨by rfl, ?_⟩) ?_ ?_
                    rotate_left
                    · intro w'
                      go_simp
                      with_reducible rfl
                    rotate_left
                    · simp only [Act.put, List.setIfInBounds_toArray, List.set_cons_zero, List.set_cons_succ, i64_w, i32_w]
                      rfl
                    refine pure_ (i := 3) (N := some 22) (v := ?_) (a' := ?_) #[true, true, true, true, false, false, false, false, false, false, false, false, false, false, false, false, false, false, false] rfl rfl (any_of HT_.out (by kernel_rfl)) (fun _ _ _ h => h) (Or.inl ⟨by rfl, ?_⟩) ?_ ?_
                    rotate_left
                    · intro w'
                      go_simp
                      with_reducible rfl
                    rotate_left
                    · simp only [Act.put, List.setIfInBounds_toArray, List.set_cons_zero, List.set_cons_succ, i64_w, i32_w]
                      rfl
                    refine pure_ (i := 4) (N := some 23) (v := ?_) (a' := ?_) #[true, true, true, true, true, false, false, false, false, false, false, false, false, false, false, false, false, false, false] rfl rfl (any_of HT_.out (by kernel_rfl)) (fun _ _ _ h => h) (Or.inl ⟨by rfl, ?_⟩) ?_ ?_
                    rotate_left
                    · intro w'
                      go_simp
                      with_reducible rfl
                    rotate_left
                    · simp only [Act.put, List.setIfInBounds_toArray, List.set_cons_zero, List.set_cons_succ, i64_w, i32_w]
                      rfl
                    refine pure_ (i := 5) (N := some 24) (v := ?_) (a' := ?_) #[true, true, true, true, true, true, false, false, false, false, false, false, false, false, false, false, false, false, false] rfl rfl (any_of HT_.out (by kernel_rfl)) (fun _ _ _ h => h) (Or.inl ⟨by rfl, ?_⟩) ?_ ?_
                    rotate_left
                    · intro w'
                      go_simp
                      with_reducible rfl
                    rotate_left
                    · simp only [Act.put, List.setIfInBounds_toArray, List.set_cons_zero, List.set_cons_succ, i64_w, i32_w]
                      rfl
                    refine pure_ (i := 6) (N := some 25) (v := ?_) (a' := ?_) #[true, true, true, true, true, true, true, false, false, false, false, false, false, false, false, false, false, false, false] rfl rfl (any_of HT_.out (by kernel_rfl)) (fun _ _ _ h => h) (Or.inl ⟨by rfl, ?_⟩) ?_ ?_
                    rotate_left
                    · intro w'
                      go_simp
                      with_reducible rfl
                    rotate_left
                    · simp only [Act.put, List.setIfInBounds_toArray, List.set_cons_zero, List.set_cons_succ, i64_w, i32_w]
                      rfl
                    refine pure_ (i := 10) (N := some 29) (v := ?_) (a' := ?_) #[true, true, true, true, true, true, true, false, false, false, true, false, false, false, false, false, false, false, false] rfl rfl (any_of HT_.out (by kernel_rfl)) (fun _ _ _ h => h) (Or.inl ⟨by rfl, ?_⟩) ?_ ?_
                    rotate_left
                    · intro w'
                      go_simp
                      with_reducible rfl
                    rotate_left
                    · simp only [Act.put, List.setIfInBounds_toArray, List.set_cons_zero, List.set_cons_succ, i64_w, i32_w]
                      rfl
                    refine pure_ (i := 11) (N := some 30) (v := ?_) (a' := ?_) #[true, true, true, true, true, true, true, false, false, false, true, true, false, false, false, false, false, false, false] rfl rfl (any_of HT_.out (by kernel_rfl)) (fun _ _ _ h => h) (Or.inl ⟨by rfl, ?_⟩) ?_ ?_
                    rotate_left
                    · intro w'
                      go_simp
                      with_reducible rfl
                    rotate_left
                    · simp only [Act.put, List.setIfInBounds_toArray, List.set_cons_zero, List.set_cons_succ, i64_w, i32_w]
                      rfl
                    refine pure_ (i := 12) (N := some 31) (v := ?_) (a' := ?_) #[true, true, true, true, true, true, true, false, false, false, true, true, true, false, false, false, false, false, false] rfl rfl (any_of HT_.out (by kernel_rfl)) (fun _ _ _ h => h) (Or.inl ⟨by rfl, ?_⟩) ?_ ?_
                    rotate_left
                    · intro w'
                      go_simp
                      with_reducible rfl
                    rotate_left
                    · simp only [Act.put, List.setIfInBounds_toArray, List.set_cons_zero, List.set_cons_succ, i64_w, i32_w]
                      rfl
                    refine pure_ (i := 13) (N := some 32) (v := ?_) (a' := ?_) #[true, true, true, true, true, true, true, false, false, false, true, true, true, true, false, false, false, false, false] rfl rfl (any_of HT_.out (by kernel_rfl)) (fun _ _ _ h => h) (Or.inl ⟨by rfl, ?_⟩) ?_ ?_
                    rotate_left
                    · intro w'
                      go_simp
                      with_reducible rfl
                    rotate_left
                    · simp only [Act.put, List.setIfInBounds_toArray, List.set_cons_zero, List.set_cons_succ, i64_w, i32_w]
                      rfl
                    refine take_ (i := 7) (N := some 26) (v := ?_) (a' := ?_) #[true, true, true, true, true, true, true, true, false, false, true, true, true, true, false, false, false, false, false] rfl rfl (take_ofW HT_.out HW_.out (by kernel_rfl)) (fun _ _ _ h => h) (Or.inl ⟨by rfl, ?_⟩) hHeld ?_ ?_
                    rotate_left
                    · rintro w' ⟨s0, s1, s2, s3⟩
                      go_simp
                      with_reducible rfl
                    rotate_left
                    · simp only [Act.put, List.setIfInBounds_toArray, List.set_cons_zero, List.set_cons_succ, i64_w, i32_w]
                      rfl
                    refine take_ (i := 14) (N := some 33) (v := ?_) (a' := ?_) #[true, true, true, true, true, true, true, true, false, false, true, true, true, true, true, false, false, false, false] rfl rfl (take_ofW HT_.out HW_.out (by kernel_rfl)) (fun _ _ _ h => h) (Or.inl ⟨by rfl, ?_⟩) hHeld ?_ ?_
                    rotate_left
                    · rintro w' ⟨s0, s1, s2, s3⟩
                      go_simp
                      with_reducible rfl
                    rotate_left
                    · simp only [Act.put, List.setIfInBounds_toArray, List.set_cons_zero, List.set_cons_succ, i64_w, i32_w]
                      rfl
                    refine one_ (i := 8) (N := some 27) #[true, true, true, true, true, true, true, true, true, false, true, true, true, true, true, false, false, false, false] rfl rfl (one_of HT_.out (by kernel_rfl)) (by decide) (fun K hK => ?_)
                    refine goes_ Tryz.func81 (by kernel_rfl) rfl #[.int .i64 a0, .int .i64 a1, .int .i64 ((rd_T67 l2 x8_1).f0)] (by rfl) rfl rfl (by (try simp only [List.map_toArray, List.map_cons, List.map_nil]); first | done | rfl | (simp only [List.length_drop, List.length_take]; rfl)) ?_
                    with_reducible refine (spec_l26Pitch.calls k1 a0 a1 ((rd_T67 l2 x8_1).f0) t102 _ A8.out).mono ?_
                    rintro e w14 ⟨rfl, hb⟩
                    refine ⟨_, rfl, ?_⟩
                    have n0_ := Aside0.mk (below_step (by repeat (first | (with_reducible first | exact HB.out | apply below_alloc | apply pw_below_drewN | apply below_drew1) | exact HB.out)) hb)
                    clear HB
                    have HB := n0_
                    clear n0_
                    (try clear hb)
                    (try clear hb2)
                    (try clear hk)
                    (try clear hi)
                    refine hK.out _ _ ⟨((HB.out.cell (World.block_lt_of_cell? w _ hw101_0)).trans hw101_0), ((HB.out.cell (World.block_lt_of_cell? w _ hw101_1)).trans hw101_1), ((HB.out.cell (World.block_lt_of_cell? w _ hw103_0)).trans hw103_0), ((HB.out.cell (World.block_lt_of_cell? w _ hw103_1)).trans hw103_1)⟩ (fun hHeld => ?_)
                    clear hK K
                    refine norm_ (a' := ?_) ?_ ?_
                    rotate_left
                    · show Act.put _ (some 27) _ = _
                      simp only [Act.put, List.setIfInBounds_toArray, List.set_cons_zero, List.set_cons_succ, i64_w, i32_w]
                      rfl
                    refine pure_ (i := 9) (N := some 28) (v := ?_) (a' := ?_) #[true, true, true, true, true, true, true, true, true, true, true, true, true, true, true, false, false, false, false] rfl rfl (any_of HT_.out (by kernel_rfl)) (fun _ _ _ h => h) (Or.inl ⟨by rfl, ?_⟩) ?_ ?_
                    rotate_left
                    · intro w'
                      go_simp
                      with_reducible rfl
                    rotate_left
                    · simp only [Act.put, List.setIfInBounds_toArray, List.set_cons_zero, List.set_cons_succ, i64_w, i32_w]
                      rfl
                    refine one_ (i := 15) (N := some 34) #[true, true, true, true, true, true, true, true, true, true, true, true, true, true, true, true, false, false, false] rfl rfl (one_of HT_.out (by kernel_rfl)) (by decide) (fun K hK => ?_)
                    refine goes_ Tryz.func82 (by kernel_rfl) rfl #[.int .i64 ((rd_T67 l2 x8_1).f1)] (by rfl) rfl rfl (by (try simp only [List.map_toArray, List.map_cons, List.map_nil]); first | done | rfl | (simp only [List.length_drop, List.length_take]; rfl)) ?_
                    with_reducible refine (spec_l01Dec.calls k1 ((rd_T67 l2 x8_1).f1) t104 _ A10.out).mono ?_
                    rintro e w15 ⟨rfl, hb⟩
                    refine ⟨_, rfl, ?_⟩
                    have n0_ := Aside0.mk (below_step (by repeat (first | (with_reducible first | exact HB.out | apply below_alloc | apply pw_below_drewN | apply below_drew1) | exact HB.out)) hb)
                    clear HB
                    have HB := n0_
                    clear n0_
                    (try clear hb)
                    (try clear hb2)
                    (try clear hk)
                    (try clear hi)
                    refine hK.out _ _ ⟨((HB.out.cell (World.block_lt_of_cell? w _ hw101_0)).trans hw101_0), ((HB.out.cell (World.block_lt_of_cell? w _ hw101_1)).trans hw101_1), ((HB.out.cell (World.block_lt_of_cell? w _ hw103_0)).trans hw103_0), ((HB.out.cell (World.block_lt_of_cell? w _ hw103_1)).trans hw103_1)⟩ (fun hHeld => ?_)
                    clear hK K
                    refine norm_ (a' := ?_) ?_ ?_
                    rotate_left
                    · show Act.put _ (some 34) _ = _
                      simp only [Act.put, List.setIfInBounds_toArray, List.set_cons_zero, List.set_cons_succ, i64_w, i32_w]
                      rfl
                    refine pure_ (i := 16) (N := some 35) (v := ?_) (a' := ?_) #[true, true, true, true, true, true, true, true, true, true, true, true, true, true, true, true, true, false, false] rfl rfl (any_of HT_.out (by kernel_rfl)) (fun _ _ _ h => h) (Or.inl ⟨by rfl, ?_⟩) ?_ ?_
                    rotate_left
                    · intro w'
                      go_simp
                      with_reducible rfl
                    rotate_left
                    · simp only [Act.put, List.setIfInBounds_toArray, List.set_cons_zero, List.set_cons_succ, i64_w, i32_w]
                      rfl
                    refine pure_ (i := 17) (N := some 36) (v := ?_) (a' := ?_) #[true, true, true, true, true, true, true, true, true, true, true, true, true, true, true, true, true, true, false] rfl rfl (any_of HT_.out (by kernel_rfl)) (fun _ _ _ h => h) (Or.inl ⟨by rfl, ?_⟩) ?_ ?_
                    rotate_left
                    · intro w'
                      go_simp
                      with_reducible rfl
                    rotate_left
                    · simp only [Act.put, List.setIfInBounds_toArray, List.set_cons_zero, List.set_cons_succ, i64_w, i32_w]
                      rfl
                    refine pure_ (i := 18) (N := some 7) (v := ?_) (a' := ?_) #[true, true, true, true, true, true, true, true, true, true, true, true, true, true, true, true, true, true, true] rfl rfl (any_of HT_.out (by kernel_rfl)) (fun _ _ _ h => h) (Or.inl ⟨by rfl, ?_⟩) ?_ ?_
                    rotate_left
                    · intro w'
                      go_simp
                      with_reducible rfl
                    rotate_left
                    · simp only [Act.put, List.setIfInBounds_toArray, List.set_cons_zero, List.set_cons_succ, i64_w, i32_w]
                      rfl
                    refine done_ (done_of HT_.out (by kernel_rfl)) ?_
                    try go_wp2
                    go_roundg k1
                    case measure => have := HK1.out; omega
                    case rel => exact ⟨((x7_1 ++ (⟨#[32]⟩ : ByteArray)) ++ ((t102 ++ (⟨#[58]⟩ : ByteArray)) ++ t104)), (wrap64 (x8_1 + 1)), (by first | rfl | (simp; done) | (simp [*]; done)), (by first | rfl | (simp; done) | (simp [*]; done)), H', ⟨by have := HK1.out; omega⟩, ⟨by repeat (first | (with_reducible first | exact HB.out | apply below_alloc | apply pw_below_drewN | apply below_drew1) | exact HB.out)⟩⟩
                  · rw [if_neg c12] at H
                    exact absurd H (by simp)
                · rw [if_neg c11] at H
                  exact absurd H (by simp)
              · rw [if_neg c9] at H
                exact absurd H (by simp)
            · rw [if_neg c7] at H
              exact absurd H (by simp)
          · rw [if_neg c6] at H
            exact absurd H (by simp)
        · rw [if_neg c5] at H
          have c5b0 : decide (0 < x8_1) = false := decide_eq_false c5
          clear c5
          by_cases c16 : 0 ≤ x8_1
          · rw [if_pos c16] at H
            have c16b0 : decide (0 ≤ x8_1) = true := decide_eq_true c16
            clear c16
            replace H := Option.bind_eq_some_iff.mp H
            obtain ⟨t106, A170, H⟩ := H
            replace H : (if t106.size + 1 ≤ 9223372036854775807 then ((spec_l01Dec.f k1 ((rd_T67 l2 x8_1).f1)).bind fun t108 => (if (t106 ++ (⟨#[58]⟩ : ByteArray)).size + t108.size ≤ 9223372036854775807 then (if x7_1.size + ((t106 ++ (⟨#[58]⟩ : ByteArray)) ++ t108).size ≤ 9223372036854775807 then (spec_l26Notes.l0 k1 a0 a1 l2 (x7_1 ++ ((t106 ++ (⟨#[58]⟩ : ByteArray)) ++ t108)) (wrap64 (x8_1 + 1))) else (none)) else (none))) else (none)) = some r := H
            have A17 := Aside0.mk A170
            clear A170
            by_cases c18 : t106.size + 1 ≤ 9223372036854775807
            · rw [if_pos c18] at H
              have c18b0 := eq_true c18
              have c18b1 : decide (t106.size + 1 ≤ 9223372036854775807) = true := decide_eq_true c18
              try have c18b2 : (9223372036854775807 < t106.size + 1) = False := eq_false (Nat.not_lt.2 c18)
              replace H := Option.bind_eq_some_iff.mp H
              obtain ⟨t108, A190, H⟩ := H
              replace H : (if (t106 ++ (⟨#[58]⟩ : ByteArray)).size + t108.size ≤ 9223372036854775807 then (if x7_1.size + ((t106 ++ (⟨#[58]⟩ : ByteArray)) ++ t108).size ≤ 9223372036854775807 then (spec_l26Notes.l0 k1 a0 a1 l2 (x7_1 ++ ((t106 ++ (⟨#[58]⟩ : ByteArray)) ++ t108)) (wrap64 (x8_1 + 1))) else (none)) else (none)) = some r := H
              have A19 := Aside0.mk A190
              clear A190
              by_cases c20 : (t106 ++ (⟨#[58]⟩ : ByteArray)).size + t108.size ≤ 9223372036854775807
              · rw [if_pos c20] at H
                have c20b0 := eq_true c20
                have c20b1 : decide ((t106 ++ (⟨#[58]⟩ : ByteArray)).size + t108.size ≤ 9223372036854775807) = true := decide_eq_true c20
                try have c20b2 : (9223372036854775807 < (t106 ++ (⟨#[58]⟩ : ByteArray)).size + t108.size) = False := eq_false (Nat.not_lt.2 c20)
                try have c20b3 : (9223372036854775807 < t106.size + 1 + t108.size) = False := eq_false (by have h_ := c20; simp only [ByteArray.size_append] at h_; exact Nat.not_lt.2 h_)
                by_cases c21 : x7_1.size + ((t106 ++ (⟨#[58]⟩ : ByteArray)) ++ t108).size ≤ 9223372036854775807
                · rw [if_pos c21] at H
                  have c21b0 := eq_true c21
                  have c21b1 : decide (x7_1.size + ((t106 ++ (⟨#[58]⟩ : ByteArray)) ++ t108).size ≤ 9223372036854775807) = true := decide_eq_true c21
                  try have c21b2 : (9223372036854775807 < x7_1.size + ((t106 ++ (⟨#[58]⟩ : ByteArray)) ++ t108).size) = False := eq_false (Nat.not_lt.2 c21)
                  try have c21b3 : (9223372036854775807 < x7_1.size + (t106.size + 1 + t108.size)) = False := eq_false (by have h_ := c21; simp only [ByteArray.size_append] at h_; exact Nat.not_lt.2 h_)
                  have H' := Aside0.mk H
                  clear H
                  try go_wp2
                  have n0_ := Aside0.mk (below_drew1 HB.out)
                  clear HB
                  have HB := n0_
                  clear n0_
                  have p105 : 0 ≤ (x8_1 : Int) := of_decide_eq_true (by first | (with_reducible assumption) | assumption)
                  have q105 : x8_1 < (l2.length : Int) := of_decide_eq_true (by first | (with_reducible assumption) | assumption)
                  obtain ⟨ad105, e105, hx105_0, hx105_1⟩ := at_T67 HR2.out x8_1 p105 q105
                  have hw105_1 := hx105_1
                  have hw105_0 := hx105_0
                  cases e105
                  replace hx105_0 := (HB.out.cell (World.block_lt_of_cell? w _ hx105_0)).trans hx105_0
                  replace hx105_1 := (HB.out.cell (World.block_lt_of_cell? w _ hx105_1)).trans hx105_1
                  replace p105 := eq_true p105
                  replace q105 := eq_true q105
                  have p107 : 0 ≤ (x8_1 : Int) := of_decide_eq_true (by first | (with_reducible assumption) | assumption)
                  have q107 : x8_1 < (l2.length : Int) := of_decide_eq_true (by first | (with_reducible assumption) | assumption)
                  obtain ⟨ad107, e107, hx107_0, hx107_1⟩ := at_T67 HR2.out x8_1 p107 q107
                  have hw107_1 := hx107_1
                  have hw107_0 := hx107_0
                  obtain rfl : ad105 = ad107 := (by injection e107)
                  replace hx107_0 := (HB.out.cell (World.block_lt_of_cell? w _ hx107_0)).trans hx107_0
                  replace hx107_1 := (HB.out.cell (World.block_lt_of_cell? w _ hx107_1)).trans hx107_1
                  replace p107 := eq_true p107
                  replace q107 := eq_true q107
                  refine start_ (n := 19) (S := fun w' => w'.cell? (ad105.add ((x8_1).toNat * 2)) = some (.int .i64 ((rd_T67 l2 x8_1).f0)) ∧ w'.cell? ⟨(ad105.add ((x8_1).toNat * 2)).block, (ad105.add ((x8_1).toNat * 2)).off + 1, none⟩ = some (.int .i64 ((rd_T67 l2 x8_1).f1)) ∧ w'.cell? (ad105.add ((x8_1).toNat * 2)) = some (.int .i64 ((rd_T67 l2 x8_1).f0)) ∧ w'.cell? ⟨(ad105.add ((x8_1).toNat * 2)).block, (ad105.add ((x8_1).toNat * 2)).off + 1, none⟩ = some (.int .i64 ((rd_T67 l2 x8_1).f1))) (ds := []) #[false, false, false, false, false, false, false, false, false, false, false, false, false, false, false, false, false, false, false] (by kernel_rfl) rfl rfl ⟨((HB.out.cell (World.block_lt_of_cell? w _ hw105_0)).trans hw105_0), ((HB.out.cell (World.block_lt_of_cell? w _ hw105_1)).trans hw105_1), ((HB.out.cell (World.block_lt_of_cell? w _ hw107_0)).trans hw107_0), ((HB.out.cell (World.block_lt_of_cell? w _ hw107_1)).trans hw107_1)⟩ (fun hHeld => ?_); refine with_tabW spec_l26Notes.tab7 spec_l26Notes.bits7 (fun HT_ HW_ => ?_)
                  generalize wr.drew = w22 at HB hx105_0 hx105_1 hx107_0 hx107_1 hHeld ⊢
                  refine pure_ (i := 0) (N := some 19) (v := ?_) (a' := ?_) #[true, false, false, false, false, false, false, false, false, false, false, false, false, false, false, false, false, false, false] rfl rfl (any_of HT_.out (by kernel_rfl)) (fun _ _ _ h => h) (Or.inl ⟨by rfl, ?_⟩) ?_ ?_
                  rotate_left
                  · intro w'
                    go_simp
                    with_reducible rfl
                  rotate_left
                  · simp only [Act.put, List.setIfInBounds_toArray, List.set_cons_zero, List.set_cons_succ, i64_w, i32_w]
                    rfl
                  refine pure_ (i := 1) (N := some 20) (v := ?_) (a' := ?_) #[true, true, false, false, false, false, false, false, false, false, false, false, false, false, false, false, false, false, false] rfl rfl (any_of HT_.out (by kernel_rfl)) (fun _ _ _ h => h) (Or.inl ⟨by rfl, ?_⟩) ?_ ?_
                  rotate_left
                  · intro w'
                    go_simp
                    with_reducible rfl
                  rotate_left
                  · simp only [Act.put, List.setIfInBounds_toArray, List.set_cons_zero, List.set_cons_succ, i64_w, i32_w]
                    rfl
                  refine pure_ (i := 2) (N := some 21) (v := ?_) (a' := ?_) #[true, true, true, false, false, false, false, false, false, false, false, false, false, false, false, false, false, false, false] rfl rfl (any_of HT_.out (by kernel_rfl)) (fun _ _ _ h => h) (Or.inl ⟨by rfl, ?_⟩) ?_ ?_
                  rotate_left
                  · intro w'
                    go_simp
                    with_reducible rfl
                  rotate_left
                  · simp only [Act.put, List.setIfInBounds_toArray, List.set_cons_zero, List.set_cons_succ, i64_w, i32_w]
                    rfl
                  refine pure_ (i := 3) (N := some 22) (v := ?_) (a' := ?_) #[true, true, true, true, false, false, false, false, false, false, false, false, false, false, false, false, false, false, false] rfl rfl (any_of HT_.out (by kernel_rfl)) (fun _ _ _ h => h) (Or.inl ⟨by rfl, ?_⟩) ?_ ?_
                  rotate_left
                  · intro w'
                    go_simp
                    with_reducible rfl
                  rotate_left
                  · simp only [Act.put, List.setIfInBounds_toArray, List.set_cons_zero, List.set_cons_succ, i64_w, i32_w]
                    rfl
                  refine pure_ (i := 4) (N := some 23) (v := ?_) (a' := ?_) #[true, true, true, true, true, false, false, false, false, false, false, false, false, false, false, false, false, false, false] rfl rfl (any_of HT_.out (by kernel_rfl)) (fun _ _ _ h => h) (Or.inl ⟨by rfl, ?_⟩) ?_ ?_
                  rotate_left
                  · intro w'
                    go_simp
                    with_reducible rfl
                  rotate_left
                  · simp only [Act.put, List.setIfInBounds_toArray, List.set_cons_zero, List.set_cons_succ, i64_w, i32_w]
                    rfl
                  refine pure_ (i := 5) (N := some 24) (v := ?_) (a' := ?_) #[true, true, true, true, true, true, false, false, false, false, false, false, false, false, false, false, false, false, false] rfl rfl (any_of HT_.out (by kernel_rfl)) (fun _ _ _ h => h) (Or.inl ⟨by rfl, ?_⟩) ?_ ?_
                  rotate_left
                  · intro w'
                    go_simp
                    with_reducible rfl
                  rotate_left
                  · simp only [Act.put, List.setIfInBounds_toArray, List.set_cons_zero, List.set_cons_succ, i64_w, i32_w]
                    rfl
                  refine pure_ (i := 6) (N := some 25) (v := ?_) (a' := ?_) #[true, true, true, true, true, true, true, false, false, false, false, false, false, false, false, false, false, false, false] rfl rfl (any_of HT_.out (by kernel_rfl)) (fun _ _ _ h => h) (Or.inl ⟨by rfl, ?_⟩) ?_ ?_
                  rotate_left
                  · intro w'
                    go_simp
                    with_reducible rfl
                  rotate_left
                  · simp only [Act.put, List.setIfInBounds_toArray, List.set_cons_zero, List.set_cons_succ, i64_w, i32_w]
                    rfl
                  refine pure_ (i := 10) (N := some 29) (v := ?_) (a' := ?_) #[true, true, true, true, true, true, true, false, false, false, true, false, false, false, false, false, false, false, false] rfl rfl (any_of HT_.out (by kernel_rfl)) (fun _ _ _ h => h) (Or.inl ⟨by rfl, ?_⟩) ?_ ?_
                  rotate_left
                  · intro w'
                    go_simp
                    with_reducible rfl
                  rotate_left
                  · simp only [Act.put, List.setIfInBounds_toArray, List.set_cons_zero, List.set_cons_succ, i64_w, i32_w]
                    rfl
                  refine pure_ (i := 11) (N := some 30) (v := ?_) (a' := ?_) #[true, true, true, true, true, true, true, false, false, false, true, true, false, false, false, false, false, false, false] rfl rfl (any_of HT_.out (by kernel_rfl)) (fun _ _ _ h => h) (Or.inl ⟨by rfl, ?_⟩) ?_ ?_
                  rotate_left
                  · intro w'
                    go_simp
                    with_reducible rfl
                  rotate_left
                  · simp only [Act.put, List.setIfInBounds_toArray, List.set_cons_zero, List.set_cons_succ, i64_w, i32_w]
                    rfl
                  refine pure_ (i := 12) (N := some 31) (v := ?_) (a' := ?_) #[true, true, true, true, true, true, true, false, false, false, true, true, true, false, false, false, false, false, false] rfl rfl (any_of HT_.out (by kernel_rfl)) (fun _ _ _ h => h) (Or.inl ⟨by rfl, ?_⟩) ?_ ?_
                  rotate_left
                  · intro w'
                    go_simp
                    with_reducible rfl
                  rotate_left
                  · simp only [Act.put, List.setIfInBounds_toArray, List.set_cons_zero, List.set_cons_succ, i64_w, i32_w]
                    rfl
                  refine pure_ (i := 13) (N := some 32) (v := ?_) (a' := ?_) #[true, true, true, true, true, true, true, false, false, false, true, true, true, true, false, false, false, false, false] rfl rfl (any_of HT_.out (by kernel_rfl)) (fun _ _ _ h => h) (Or.inl ⟨by rfl, ?_⟩) ?_ ?_
                  rotate_left
                  · intro w'
                    go_simp
                    with_reducible rfl
                  rotate_left
                  · simp only [Act.put, List.setIfInBounds_toArray, List.set_cons_zero, List.set_cons_succ, i64_w, i32_w]
                    rfl
                  refine take_ (i := 7) (N := some 26) (v := ?_) (a' := ?_) #[true, true, true, true, true, true, true, true, false, false, true, true, true, true, false, false, false, false, false] rfl rfl (take_ofW HT_.out HW_.out (by kernel_rfl)) (fun _ _ _ h => h) (Or.inl ⟨by rfl, ?_⟩) hHeld ?_ ?_
                  rotate_left
                  · rintro w' ⟨s0, s1, s2, s3⟩
                    go_simp
                    with_reducible rfl
                  rotate_left
                  · simp only [Act.put, List.setIfInBounds_toArray, List.set_cons_zero, List.set_cons_succ, i64_w, i32_w]
                    rfl
                  refine take_ (i := 14) (N := some 33) (v := ?_) (a' := ?_) #[true, true, true, true, true, true, true, true, false, false, true, true, true, true, true, false, false, false, false] rfl rfl (take_ofW HT_.out HW_.out (by kernel_rfl)) (fun _ _ _ h => h) (Or.inl ⟨by rfl, ?_⟩) hHeld ?_ ?_
                  rotate_left
                  · rintro w' ⟨s0, s1, s2, s3⟩
                    go_simp
                    with_reducible rfl
                  rotate_left
                  · simp only [Act.put, List.setIfInBounds_toArray, List.set_cons_zero, List.set_cons_succ, i64_w, i32_w]
                    rfl
                  refine one_ (i := 8) (N := some 27) #[true, true, true, true, true, true, true, true, true, false, true, true, true, true, true, false, false, false, false] rfl rfl (one_of HT_.out (by kernel_rfl)) (by decide) (fun K hK => ?_)
                  refine goes_ Tryz.func81 (by kernel_rfl) rfl #[.int .i64 a0, .int .i64 a1, .int .i64 ((rd_T67 l2 x8_1).f0)] (by rfl) rfl rfl (by (try simp only [List.map_toArray, List.map_cons, List.map_nil]); first | done | rfl | (simp only [List.length_drop, List.length_take]; rfl)) ?_
                  with_reducible refine (spec_l26Pitch.calls k1 a0 a1 ((rd_T67 l2 x8_1).f0) t106 _ A17.out).mono ?_
                  rintro e w23 ⟨rfl, hb⟩
                  refine ⟨_, rfl, ?_⟩
                  have n0_ := Aside0.mk (below_step (by repeat (first | (with_reducible first | exact HB.out | apply below_alloc | apply pw_below_drewN | apply below_drew1) | exact HB.out)) hb)
                  clear HB
                  have HB := n0_
                  clear n0_
                  (try clear hb)
                  (try clear hb2)
                  (try clear hk)
                  (try clear hi)
                  refine hK.out _ _ ⟨((HB.out.cell (World.block_lt_of_cell? w _ hw105_0)).trans hw105_0), ((HB.out.cell (World.block_lt_of_cell? w _ hw105_1)).trans hw105_1), ((HB.out.cell (World.block_lt_of_cell? w _ hw107_0)).trans hw107_0), ((HB.out.cell (World.block_lt_of_cell? w _ hw107_1)).trans hw107_1)⟩ (fun hHeld => ?_)
                  clear hK K
                  refine norm_ (a' := ?_) ?_ ?_
                  rotate_left
                  · show Act.put _ (some 27) _ = _
                    simp only [Act.put, List.setIfInBounds_toArray, List.set_cons_zero, List.set_cons_succ, i64_w, i32_w]
                    rfl
                  refine pure_ (i := 9) (N := some 28) (v := ?_) (a' := ?_) #[true, true, true, true, true, true, true, true, true, true, true, true, true, true, true, false, false, false, false] rfl rfl (any_of HT_.out (by kernel_rfl)) (fun _ _ _ h => h) (Or.inl ⟨by rfl, ?_⟩) ?_ ?_
                  rotate_left
                  · intro w'
                    go_simp
                    with_reducible rfl
                  rotate_left
                  · simp only [Act.put, List.setIfInBounds_toArray, List.set_cons_zero, List.set_cons_succ, i64_w, i32_w]
                    rfl
                  refine one_ (i := 15) (N := some 34) #[true, true, true, true, true, true, true, true, true, true, true, true, true, true, true, true, false, false, false] rfl rfl (one_of HT_.out (by kernel_rfl)) (by decide) (fun K hK => ?_)
                  refine goes_ Tryz.func82 (by kernel_rfl) rfl #[.int .i64 ((rd_T67 l2 x8_1).f1)] (by rfl) rfl rfl (by (try simp only [List.map_toArray, List.map_cons, List.map_nil]); first | done | rfl | (simp only [List.length_drop, List.length_take]; rfl)) ?_
                  with_reducible refine (spec_l01Dec.calls k1 ((rd_T67 l2 x8_1).f1) t108 _ A19.out).mono ?_
                  rintro e w24 ⟨rfl, hb⟩
                  refine ⟨_, rfl, ?_⟩
                  have n0_ := Aside0.mk (below_step (by repeat (first | (with_reducible first | exact HB.out | apply below_alloc | apply pw_below_drewN | apply below_drew1) | exact HB.out)) hb)
                  clear HB
                  have HB := n0_
                  clear n0_
                  (try clear hb)
                  (try clear hb2)
                  (try clear hk)
                  (try clear hi)
                  refine hK.out _ _ ⟨((HB.out.cell (World.block_lt_of_cell? w _ hw105_0)).trans hw105_0), ((HB.out.cell (World.block_lt_of_cell? w _ hw105_1)).trans hw105_1), ((HB.out.cell (World.block_lt_of_cell? w _ hw107_0)).trans hw107_0), ((HB.out.cell (World.block_lt_of_cell? w _ hw107_1)).trans hw107_1)⟩ (fun hHeld => ?_)
                  clear hK K
                  refine norm_ (a' := ?_) ?_ ?_
                  rotate_left
                  · show Act.put _ (some 34) _ = _
                    simp only [Act.put, List.setIfInBounds_toArray, List.set_cons_zero, List.set_cons_succ, i64_w, i32_w]
                    rfl
                  refine pure_ (i := 16) (N := some 35) (v := ?_) (a' := ?_) #[true, true, true, true, true, true, true, true, true, true, true, true, true, true, true, true, true, false, false] rfl rfl (any_of HT_.out (by kernel_rfl)) (fun _ _ _ h => h) (Or.inl ⟨by rfl, ?_⟩) ?_ ?_
                  rotate_left
                  · intro w'
                    go_simp
                    with_reducible rfl
                  rotate_left
                  · simp only [Act.put, List.setIfInBounds_toArray, List.set_cons_zero, List.set_cons_succ, i64_w, i32_w]
                    rfl
                  refine pure_ (i := 17) (N := some 36) (v := ?_) (a' := ?_) #[true, true, true, true, true, true, true, true, true, true, true, true, true, true, true, true, true, true, false] rfl rfl (any_of HT_.out (by kernel_rfl)) (fun _ _ _ h => h) (Or.inl ⟨by rfl, ?_⟩) ?_ ?_
                  rotate_left
                  · intro w'
                    go_simp
                    with_reducible rfl
                  rotate_left
                  · simp only [Act.put, List.setIfInBounds_toArray, List.set_cons_zero, List.set_cons_succ, i64_w, i32_w]
                    rfl
                  refine pure_ (i := 18) (N := some 7) (v := ?_) (a' := ?_) #[true, true, true, true, true, true, true, true, true, true, true, true, true, true, true, true, true, true, true] rfl rfl (any_of HT_.out (by kernel_rfl)) (fun _ _ _ h => h) (Or.inl ⟨by rfl, ?_⟩) ?_ ?_
                  rotate_left
                  · intro w'
                    go_simp
                    with_reducible rfl
                  rotate_left
                  · simp only [Act.put, List.setIfInBounds_toArray, List.set_cons_zero, List.set_cons_succ, i64_w, i32_w]
                    rfl
                  refine done_ (done_of HT_.out (by kernel_rfl)) ?_
                  try go_wp2
                  go_roundg k1
                  case measure => have := HK1.out; omega
                  case rel => exact ⟨(x7_1 ++ ((t106 ++ (⟨#[58]⟩ : ByteArray)) ++ t108)), (wrap64 (x8_1 + 1)), (by first | rfl | (simp; done) | (simp [*]; done)), (by first | rfl | (simp; done) | (simp [*]; done)), H', ⟨by have := HK1.out; omega⟩, ⟨by repeat (first | (with_reducible first | exact HB.out | apply below_alloc | apply pw_below_drewN | apply below_drew1) | exact HB.out)⟩⟩
                · rw [if_neg c21] at H
                  exact absurd H (by simp)
              · rw [if_neg c20] at H
                exact absurd H (by simp)
            · rw [if_neg c18] at H
              exact absurd H (by simp)
          · rw [if_neg c16] at H
            exact absurd H (by simp)
      · rw [if_neg c4] at H
        have c4b0 : decide (x8_1 < (l2.length : Int)) = false := decide_eq_false c4
        clear c4
        obtain rfl := Option.some.inj H
        go_wp2
        go_ret
        exact ⟨by first | rfl | (simp [errW_none, errW_some] <;> rfl) | (simp [*, errW_none, errW_some] <;> rfl), by repeat (first | (with_reducible first | exact HB.out | apply below_alloc | apply pw_below_drewN | apply below_drew1) | exact HB.out)⟩

def spec_l00Src_next.f (s0_0 : List Int) (s0_1 : Int) (s0_2 : Int) : Option (Int × Int × Int) := if s0_1 < (s0_0.length : Int) then (if 0 ≤ s0_1 then (if (wrap64 (s0_1 + 1)) ≤ (s0_0.length : Int) then (some (wrap64 (rd s0_0 s0_1), wrap64 (s0_1 + 1), IntKind.u64.wrap ((IntKind.u64.wrap ((IntKind.u64.wrap (s0_2 * 6364136223846793005)) + (IntKind.u64.wrap (wrap64 (rd s0_0 s0_1))))) + 1442695040888963407))) else (some (wrap64 (Go.bits .and .u64 ((IntKind.u64.wrap ((IntKind.u64.wrap ((IntKind.u64.wrap (s0_2 * 6364136223846793005)) + (IntKind.u64.wrap (wrap64 (rd s0_0 s0_1))))) + 1442695040888963407)) / 1099511627776) 255), wrap64 (s0_1 + 1), IntKind.u64.wrap ((IntKind.u64.wrap ((IntKind.u64.wrap (s0_2 * 6364136223846793005)) + (IntKind.u64.wrap (wrap64 (rd s0_0 s0_1))))) + 1442695040888963407)))) else (none)) else (if (wrap64 (s0_1 + 1)) ≤ (s0_0.length : Int) then (some (0, wrap64 (s0_1 + 1), IntKind.u64.wrap ((IntKind.u64.wrap ((IntKind.u64.wrap (s0_2 * 6364136223846793005)) + 0)) + 1442695040888963407))) else (some (wrap64 (Go.bits .and .u64 ((IntKind.u64.wrap ((IntKind.u64.wrap ((IntKind.u64.wrap (s0_2 * 6364136223846793005)) + 0)) + 1442695040888963407)) / 1099511627776) 255), wrap64 (s0_1 + 1), IntKind.u64.wrap ((IntKind.u64.wrap ((IntKind.u64.wrap (s0_2 * 6364136223846793005)) + 0)) + 1442695040888963407))))
set_option maxHeartbeats 8000000 in
set_option maxRecDepth 100000 in
theorem spec_l00Src_next.calls (g : Nat) (s0_0 : List Int) (s0_1 : Int) (s0_2 : Int) (r1 : Int) (r2 : Int) (r3 : Int) (w0 w : World) (hI : IsS119 w0 w g s0_0 s0_1 s0_2) (hB : Below w0.heap.size w0 w) (h : spec_l00Src_next.f s0_0 s0_1 s0_2 = some (r1, r2, r3)) :
    Calls Tryz.prog 96 #[.pointer (some ⟨g, 0, none⟩)] w fun e w' => e = .returned (.int .i64 r1) ∧ IsS119 w0 w' g s0_0 r2 r3 ∧ Below w0.heap.size w0 w' ∧ KeepBut w w' g none := by
  have HI0 := Aside0.mk hI
  have HK := Aside0.mk (KeepBut.refl w g none)
  have HL := Aside0.mk hB.size
  clear hI
  have HW0 := Aside0.mk hB.size
  have HB := Aside0.mk hB
  clear hB
  have H : (if s0_1 < (s0_0.length : Int) then (if 0 ≤ s0_1 then (if (wrap64 (s0_1 + 1)) ≤ (s0_0.length : Int) then (some (wrap64 (rd s0_0 s0_1), wrap64 (s0_1 + 1), IntKind.u64.wrap ((IntKind.u64.wrap ((IntKind.u64.wrap (s0_2 * 6364136223846793005)) + (IntKind.u64.wrap (wrap64 (rd s0_0 s0_1))))) + 1442695040888963407))) else (some (wrap64 (Go.bits .and .u64 ((IntKind.u64.wrap ((IntKind.u64.wrap ((IntKind.u64.wrap (s0_2 * 6364136223846793005)) + (IntKind.u64.wrap (wrap64 (rd s0_0 s0_1))))) + 1442695040888963407)) / 1099511627776) 255), wrap64 (s0_1 + 1), IntKind.u64.wrap ((IntKind.u64.wrap ((IntKind.u64.wrap (s0_2 * 6364136223846793005)) + (IntKind.u64.wrap (wrap64 (rd s0_0 s0_1))))) + 1442695040888963407)))) else (none)) else (if (wrap64 (s0_1 + 1)) ≤ (s0_0.length : Int) then (some (0, wrap64 (s0_1 + 1), IntKind.u64.wrap ((IntKind.u64.wrap ((IntKind.u64.wrap (s0_2 * 6364136223846793005)) + 0)) + 1442695040888963407))) else (some (wrap64 (Go.bits .and .u64 ((IntKind.u64.wrap ((IntKind.u64.wrap ((IntKind.u64.wrap (s0_2 * 6364136223846793005)) + 0)) + 1442695040888963407)) / 1099511627776) 255), wrap64 (s0_1 + 1), IntKind.u64.wrap ((IntKind.u64.wrap ((IntKind.u64.wrap (s0_2 * 6364136223846793005)) + 0)) + 1442695040888963407))))) = some (r1, r2, r3) := h
  clear h
  by_cases c2 : s0_1 < (s0_0.length : Int)
  · rw [if_pos c2] at H
    have c2b0 : decide (s0_1 < (s0_0.length : Int)) = true := decide_eq_true c2
    clear c2
    by_cases c3 : 0 ≤ s0_1
    · rw [if_pos c3] at H
      have c3b0 : decide (0 ≤ s0_1) = true := decide_eq_true c3
      clear c3
      by_cases c4 : (wrap64 (s0_1 + 1)) ≤ (s0_0.length : Int)
      · rw [if_pos c4] at H
        have c4b0 : decide ((wrap64 (s0_1 + 1)) ≤ (s0_0.length : Int)) = true := decide_eq_true c4
        clear c4
        simp only [Option.some.injEq, Prod.mk.injEq] at H
        obtain ⟨rfl, rfl, rfl⟩ := H
        obtain ⟨ASz5_0, cSz5_0, HGz5, hgz5, HSz5_0⟩ := HI0.out
        have hcz5_0 := cellS119_0 HGz5
        have hcz5_1 := cellS119_1 HGz5
        have hcz5_2 := cellS119_2 HGz5
        have hfz5_1 := blk_frozen HGz5 1
        have hfz5_2 := blk_frozen HGz5 2
        clear HGz5 hgz5
        have p101 : 0 ≤ (s0_1 : Int) := of_decide_eq_true (by first | (with_reducible assumption) | assumption)
        have q101 : s0_1 < (s0_0.length : Int) := of_decide_eq_true (by first | (with_reducible assumption) | assumption)
        obtain ⟨ad101, e101, hx101_0⟩ := Kd.at_int HSz5_0 s0_1 p101 q101
        cases e101
        replace hx101_0 := pw_cell_below HB.out hx101_0
        replace p101 := eq_true p101
        replace q101 := eq_true q101
        go_enter Tryz.func96, Tryz.ntmps96
        go_wp2
        repeat (go_quiet (fail); try go_wp2)
        go_ret
        exact ⟨by first | rfl | (simp [errW_none, errW_some] <;> rfl) | (simp [*, errW_none, errW_some] <;> rfl), by (try simp only [Int.add_zero]); repeat (first | (with_reducible first | exact HI0.out | apply IsS119.alloc | apply IsS119.drewN | apply IsS119.drew | apply IsS119.set_1 | apply IsS119.set_2) | exact HI0.out), by repeat (first | (with_reducible first | exact HB.out | apply below_alloc | apply pw_below_drewN | apply below_drew1 | refine below_set ?_ (IsS119.ge HI0.out)) | exact HB.out), by repeat (first | (with_reducible first | exact HK.out | apply KeepBut.set_ | apply keep_drewN | apply keep_drew | apply keep_alloc) | exact HK.out)⟩
      · rw [if_neg c4] at H
        have c4b0 : decide ((wrap64 (s0_1 + 1)) ≤ (s0_0.length : Int)) = false := decide_eq_false c4
        clear c4
        simp only [Option.some.injEq, Prod.mk.injEq] at H
        obtain ⟨rfl, rfl, rfl⟩ := H
        obtain ⟨ASz6_0, cSz6_0, HGz6, hgz6, HSz6_0⟩ := HI0.out
        have hcz6_0 := cellS119_0 HGz6
        have hcz6_1 := cellS119_1 HGz6
        have hcz6_2 := cellS119_2 HGz6
        have hfz6_1 := blk_frozen HGz6 1
        have hfz6_2 := blk_frozen HGz6 2
        clear HGz6 hgz6
        have p101 : 0 ≤ (s0_1 : Int) := of_decide_eq_true (by first | (with_reducible assumption) | assumption)
        have q101 : s0_1 < (s0_0.length : Int) := of_decide_eq_true (by first | (with_reducible assumption) | assumption)
        obtain ⟨ad101, e101, hx101_0⟩ := Kd.at_int HSz6_0 s0_1 p101 q101
        cases e101
        replace hx101_0 := pw_cell_below HB.out hx101_0
        replace p101 := eq_true p101
        replace q101 := eq_true q101
        go_enter Tryz.func96, Tryz.ntmps96
        go_wp2
        repeat (go_quiet (fail); try go_wp2)
        go_ret
        exact ⟨by first | rfl | (simp [errW_none, errW_some] <;> rfl) | (simp [*, errW_none, errW_some] <;> rfl), by (try simp only [Int.add_zero]); repeat (first | (with_reducible first | exact HI0.out | apply IsS119.alloc | apply IsS119.drewN | apply IsS119.drew | apply IsS119.set_1 | apply IsS119.set_2) | exact HI0.out), by repeat (first | (with_reducible first | exact HB.out | apply below_alloc | apply pw_below_drewN | apply below_drew1 | refine below_set ?_ (IsS119.ge HI0.out)) | exact HB.out), by repeat (first | (with_reducible first | exact HK.out | apply KeepBut.set_ | apply keep_drewN | apply keep_drew | apply keep_alloc) | exact HK.out)⟩
    · rw [if_neg c3] at H
      exact absurd H (by simp)
  · rw [if_neg c2] at H
    have c2b0 : decide (s0_1 < (s0_0.length : Int)) = false := decide_eq_false c2
    clear c2
    by_cases c7 : (wrap64 (s0_1 + 1)) ≤ (s0_0.length : Int)
    · rw [if_pos c7] at H
      have c7b0 : decide ((wrap64 (s0_1 + 1)) ≤ (s0_0.length : Int)) = true := decide_eq_true c7
      clear c7
      simp only [Option.some.injEq, Prod.mk.injEq] at H
      obtain ⟨rfl, rfl, rfl⟩ := H
      obtain ⟨ASz8_0, cSz8_0, HGz8, hgz8, HSz8_0⟩ := HI0.out
      have hcz8_0 := cellS119_0 HGz8
      have hcz8_1 := cellS119_1 HGz8
      have hcz8_2 := cellS119_2 HGz8
      have hfz8_1 := blk_frozen HGz8 1
      have hfz8_2 := blk_frozen HGz8 2
      clear HGz8 hgz8
      go_enter Tryz.func96, Tryz.ntmps96
      go_wp2
      repeat (go_quiet (fail); try go_wp2)
      go_ret
      exact ⟨by first | rfl | (simp [errW_none, errW_some] <;> rfl) | (simp [*, errW_none, errW_some] <;> rfl), by (try simp only [Int.add_zero]); repeat (first | (with_reducible first | exact HI0.out | apply IsS119.alloc | apply IsS119.drewN | apply IsS119.drew | apply IsS119.set_1 | apply IsS119.set_2) | exact HI0.out), by repeat (first | (with_reducible first | exact HB.out | apply below_alloc | apply pw_below_drewN | apply below_drew1 | refine below_set ?_ (IsS119.ge HI0.out)) | exact HB.out), by repeat (first | (with_reducible first | exact HK.out | apply KeepBut.set_ | apply keep_drewN | apply keep_drew | apply keep_alloc) | exact HK.out)⟩
    · rw [if_neg c7] at H
      have c7b0 : decide ((wrap64 (s0_1 + 1)) ≤ (s0_0.length : Int)) = false := decide_eq_false c7
      clear c7
      simp only [Option.some.injEq, Prod.mk.injEq] at H
      obtain ⟨rfl, rfl, rfl⟩ := H
      obtain ⟨ASz9_0, cSz9_0, HGz9, hgz9, HSz9_0⟩ := HI0.out
      have hcz9_0 := cellS119_0 HGz9
      have hcz9_1 := cellS119_1 HGz9
      have hcz9_2 := cellS119_2 HGz9
      have hfz9_1 := blk_frozen HGz9 1
      have hfz9_2 := blk_frozen HGz9 2
      clear HGz9 hgz9
      go_enter Tryz.func96, Tryz.ntmps96
      go_wp2
      repeat (go_quiet (fail); try go_wp2)
      go_ret
      exact ⟨by first | rfl | (simp [errW_none, errW_some] <;> rfl) | (simp [*, errW_none, errW_some] <;> rfl), by (try simp only [Int.add_zero]); repeat (first | (with_reducible first | exact HI0.out | apply IsS119.alloc | apply IsS119.drewN | apply IsS119.drew | apply IsS119.set_1 | apply IsS119.set_2) | exact HI0.out), by repeat (first | (with_reducible first | exact HB.out | apply below_alloc | apply pw_below_drewN | apply below_drew1 | refine below_set ?_ (IsS119.ge HI0.out)) | exact HB.out), by repeat (first | (with_reducible first | exact HK.out | apply KeepBut.set_ | apply keep_drewN | apply keep_drew | apply keep_alloc) | exact HK.out)⟩

def spec_l00Src_pick.f (s0_0 : List Int) (s0_1 : Int) (s0_2 : Int) (a1 : Int) : Option (Int × Int × Int) := if a1 ≤ 1 then (some (0, s0_1, s0_2)) else ((spec_l00Src_next.f s0_0 s0_1 s0_2).bind fun bt101 => (if a1 > 200 then ((spec_l00Src_next.f s0_0 bt101.2.1 bt101.2.2).bind fun bt104 => (if a1 = 0 then (none) else (some (Int.tmod (wrap64 ((wrap64 (bt101.1 * 256)) + bt104.1)) a1, bt104.2.1, bt104.2.2)))) else (if a1 = 0 then (none) else (some (Int.tmod bt101.1 a1, bt101.2.1, bt101.2.2)))))
set_option maxHeartbeats 8000000 in
set_option maxRecDepth 100000 in
theorem spec_l00Src_pick.calls (g : Nat) (s0_0 : List Int) (s0_1 : Int) (s0_2 : Int) (a1 : Int) (r1 : Int) (r2 : Int) (r3 : Int) (w0 w : World) (hI : IsS119 w0 w g s0_0 s0_1 s0_2) (hB : Below w0.heap.size w0 w) (h : spec_l00Src_pick.f s0_0 s0_1 s0_2 a1 = some (r1, r2, r3)) :
    Calls Tryz.prog 57 #[.pointer (some ⟨g, 0, none⟩), .int .i64 a1] w fun e w' => e = .returned (.int .i64 r1) ∧ IsS119 w0 w' g s0_0 r2 r3 ∧ Below w0.heap.size w0 w' ∧ KeepBut w w' g none := by
  have HI0 := Aside0.mk hI
  have HK := Aside0.mk (KeepBut.refl w g none)
  have HL := Aside0.mk hB.size
  clear hI
  have HW0 := Aside0.mk hB.size
  have HB := Aside0.mk hB
  clear hB
  have H : (if a1 ≤ 1 then (some (0, s0_1, s0_2)) else ((spec_l00Src_next.f s0_0 s0_1 s0_2).bind fun bt101 => (if a1 > 200 then ((spec_l00Src_next.f s0_0 bt101.2.1 bt101.2.2).bind fun bt104 => (if a1 = 0 then (none) else (some (Int.tmod (wrap64 ((wrap64 (bt101.1 * 256)) + bt104.1)) a1, bt104.2.1, bt104.2.2)))) else (if a1 = 0 then (none) else (some (Int.tmod bt101.1 a1, bt101.2.1, bt101.2.2)))))) = some (r1, r2, r3) := h
  clear h
  by_cases c3 : a1 ≤ 1
  · rw [if_pos c3] at H
    have c3b0 : decide (a1 ≤ 1) = true := decide_eq_true c3
    clear c3
    simp only [Option.some.injEq, Prod.mk.injEq] at H
    obtain ⟨rfl, rfl, rfl⟩ := H
    go_enter Tryz.func57, Tryz.ntmps57
    go_wp2
    go_ret
    exact ⟨by first | rfl | (simp [errW_none, errW_some] <;> rfl) | (simp [*, errW_none, errW_some] <;> rfl), by repeat (first | (with_reducible first | exact HI0.out | apply IsS119.alloc | apply IsS119.drewN | apply IsS119.drew | apply IsS119.set_1 | apply IsS119.set_2) | exact HI0.out), by repeat (first | (with_reducible first | exact HB.out | apply below_alloc | apply pw_below_drewN | apply below_drew1 | refine below_set ?_ (IsS119.ge HI0.out)) | exact HB.out), by repeat (first | (with_reducible first | exact HK.out | apply KeepBut.set_ | apply keep_drewN | apply keep_drew | apply keep_alloc) | exact HK.out)⟩
  · rw [if_neg c3] at H
    have c3b0 : decide (a1 ≤ 1) = false := decide_eq_false c3
    clear c3
    replace H := Option.bind_eq_some_iff.mp H
    obtain ⟨⟨t101, t102, t103⟩, A40, H⟩ := H
    replace H : (if a1 > 200 then ((spec_l00Src_next.f s0_0 t102 t103).bind fun bt104 => (if a1 = 0 then (none) else (some (Int.tmod (wrap64 ((wrap64 (t101 * 256)) + bt104.1)) a1, bt104.2.1, bt104.2.2)))) else (if a1 = 0 then (none) else (some (Int.tmod t101 a1, t102, t103)))) = some (r1, r2, r3) := H
    have A4 := Aside0.mk A40
    clear A40
    by_cases c5 : a1 > 200
    · rw [if_pos c5] at H
      have c5b0 : decide (200 < a1) = true := decide_eq_true c5
      clear c5
      replace H := Option.bind_eq_some_iff.mp H
      obtain ⟨⟨t104, t105, t106⟩, A60, H⟩ := H
      replace H : (if a1 = 0 then (none) else (some (Int.tmod (wrap64 ((wrap64 (t101 * 256)) + t104)) a1, t105, t106))) = some (r1, r2, r3) := H
      have A6 := Aside0.mk A60
      clear A60
      by_cases c7 : a1 = 0
      · rw [if_pos c7] at H
        exact absurd H (by simp)
      · rw [if_neg c7] at H
        have c7b0 : (a1 == 0) = false := beq_eq_false_iff_ne.mpr c7
        have c7b1 : (a1 != 0) = true := bne_iff_ne.mpr c7
        simp only [Option.some.injEq, Prod.mk.injEq] at H
        obtain ⟨rfl, rfl, rfl⟩ := H
        go_enter Tryz.func57, Tryz.ntmps57
        go_wp2_with (first | ((with_reducible refine gate_callee (f := 96) rfl ?_); refine goesL_ (some 9) rfl rfl Tryz.func96 (by kernel_rfl) rfl #[.pointer (some ⟨g, 0, none⟩)] rfl (by (try simp only [List.map_toArray, List.map_cons, List.map_nil]); first | done | rfl | (simp only [List.length_drop, List.length_take]; rfl)) ?_; (with_reducible refine (spec_l00Src_next.calls g s0_0 s0_1 s0_2 t101 t102 t103 w0 _ ?side1 ?side2 A4.out).mono ?_); (case side1 => repeat (first | (with_reducible first | exact HI0.out | apply IsS119.alloc | apply IsS119.drewN | apply IsS119.drew | apply IsS119.set_1 | apply IsS119.set_2) | exact HI0.out)); (case side2 => repeat (first | (with_reducible first | exact HB.out | apply below_alloc | apply pw_below_drewN | apply below_drew1 | refine below_set ?_ (IsS119.ge HI0.out)) | exact HB.out)); rintro e w8 ⟨rfl, hi, hb, hk⟩; refine ⟨_, rfl, ?_⟩; have n0_ := Aside0.mk (KeepBut.trans (by repeat (first | (with_reducible first | exact HK.out | apply KeepBut.set_ | apply keep_drewN | apply keep_drew | apply keep_alloc) | exact HK.out)) hk (.inl rfl)); have n1_ := Aside0.mk (hb); have n2_ := Aside0.mk (hi); clear HK; clear HB; clear HI0; have HK := n0_; have HB := n1_; have HI0 := n2_; clear n0_ n1_ n2_; (try clear hb); (try clear hb2); (try clear hk); (try clear hi)) | ((with_reducible refine gate_callee (f := 96) rfl ?_); refine goesL_ (some 15) rfl rfl Tryz.func96 (by kernel_rfl) rfl #[.pointer (some ⟨g, 0, none⟩)] rfl (by (try simp only [List.map_toArray, List.map_cons, List.map_nil]); first | done | rfl | (simp only [List.length_drop, List.length_take]; rfl)) ?_; (with_reducible refine (spec_l00Src_next.calls g s0_0 t102 t103 t104 t105 t106 w0 _ ?side1 ?side2 A6.out).mono ?_); (case side1 => repeat (first | (with_reducible first | exact HI0.out | apply IsS119.alloc | apply IsS119.drewN | apply IsS119.drew | apply IsS119.set_1 | apply IsS119.set_2) | exact HI0.out)); (case side2 => repeat (first | (with_reducible first | exact HB.out | apply below_alloc | apply pw_below_drewN | apply below_drew1 | refine below_set ?_ (IsS119.ge HI0.out)) | exact HB.out)); rintro e w9 ⟨rfl, hi, hb, hk⟩; refine ⟨_, rfl, ?_⟩; have n0_ := Aside0.mk (KeepBut.trans (by repeat (first | (with_reducible first | exact HK.out | apply KeepBut.set_ | apply keep_drewN | apply keep_drew | apply keep_alloc) | exact HK.out)) hk (.inl rfl)); have n1_ := Aside0.mk (hb); have n2_ := Aside0.mk (hi); clear HK; clear HB; clear HI0; have HK := n0_; have HB := n1_; have HI0 := n2_; clear n0_ n1_ n2_; (try clear hb); (try clear hb2); (try clear hk); (try clear hi)))
        go_ret
        exact ⟨by first | rfl | (simp [errW_none, errW_some] <;> rfl) | (simp [*, errW_none, errW_some] <;> rfl), by repeat (first | (with_reducible first | exact HI0.out | apply IsS119.alloc | apply IsS119.drewN | apply IsS119.drew | apply IsS119.set_1 | apply IsS119.set_2) | exact HI0.out), by repeat (first | (with_reducible first | exact HB.out | apply below_alloc | apply pw_below_drewN | apply below_drew1 | refine below_set ?_ (IsS119.ge HI0.out)) | exact HB.out), by repeat (first | (with_reducible first | exact HK.out | apply KeepBut.set_ | apply keep_drewN | apply keep_drew | apply keep_alloc) | exact HK.out)⟩
    · rw [if_neg c5] at H
      have c5b0 : decide (200 < a1) = false := decide_eq_false c5
      clear c5
      by_cases c10 : a1 = 0
      · rw [if_pos c10] at H
        exact absurd H (by simp)
      · rw [if_neg c10] at H
        have c10b0 : (a1 == 0) = false := beq_eq_false_iff_ne.mpr c10
        have c10b1 : (a1 != 0) = true := bne_iff_ne.mpr c10
        simp only [Option.some.injEq, Prod.mk.injEq] at H
        obtain ⟨rfl, rfl, rfl⟩ := H
        go_enter Tryz.func57, Tryz.ntmps57
        go_wp2_with (first | ((with_reducible refine gate_callee (f := 96) rfl ?_); refine goesL_ (some 9) rfl rfl Tryz.func96 (by kernel_rfl) rfl #[.pointer (some ⟨g, 0, none⟩)] rfl (by (try simp only [List.map_toArray, List.map_cons, List.map_nil]); first | done | rfl | (simp only [List.length_drop, List.length_take]; rfl)) ?_; (with_reducible refine (spec_l00Src_next.calls g s0_0 s0_1 s0_2 t101 t102 t103 w0 _ ?side1 ?side2 A4.out).mono ?_); (case side1 => repeat (first | (with_reducible first | exact HI0.out | apply IsS119.alloc | apply IsS119.drewN | apply IsS119.drew | apply IsS119.set_1 | apply IsS119.set_2) | exact HI0.out)); (case side2 => repeat (first | (with_reducible first | exact HB.out | apply below_alloc | apply pw_below_drewN | apply below_drew1 | refine below_set ?_ (IsS119.ge HI0.out)) | exact HB.out)); rintro e w11 ⟨rfl, hi, hb, hk⟩; refine ⟨_, rfl, ?_⟩; have n0_ := Aside0.mk (KeepBut.trans (by repeat (first | (with_reducible first | exact HK.out | apply KeepBut.set_ | apply keep_drewN | apply keep_drew | apply keep_alloc) | exact HK.out)) hk (.inl rfl)); have n1_ := Aside0.mk (hb); have n2_ := Aside0.mk (hi); clear HK; clear HB; clear HI0; have HK := n0_; have HB := n1_; have HI0 := n2_; clear n0_ n1_ n2_; (try clear hb); (try clear hb2); (try clear hk); (try clear hi)))
        go_ret
        exact ⟨by first | rfl | (simp [errW_none, errW_some] <;> rfl) | (simp [*, errW_none, errW_some] <;> rfl), by repeat (first | (with_reducible first | exact HI0.out | apply IsS119.alloc | apply IsS119.drewN | apply IsS119.drew | apply IsS119.set_1 | apply IsS119.set_2) | exact HI0.out), by repeat (first | (with_reducible first | exact HB.out | apply below_alloc | apply pw_below_drewN | apply below_drew1 | refine below_set ?_ (IsS119.ge HI0.out)) | exact HB.out), by repeat (first | (with_reducible first | exact HK.out | apply KeepBut.set_ | apply keep_drewN | apply keep_drew | apply keep_alloc) | exact HK.out)⟩

def spec_l00Src_among.f (s0_0 : List Int) (s0_1 : Int) (s0_2 : Int) (l1 : List Int) : Option (Int × Int × Int) := (spec_l00Src_pick.f s0_0 s0_1 s0_2 (l1.length : Int)).bind fun bt101 => (if 0 ≤ bt101.1 then (if bt101.1 < (l1.length : Int) then (some (rd l1 bt101.1, bt101.2.1, bt101.2.2)) else (none)) else (none))
set_option maxHeartbeats 8000000 in
set_option maxRecDepth 100000 in
theorem spec_l00Src_among.calls (g : Nat) (s0_0 : List Int) (s0_1 : Int) (s0_2 : Int) (A1 : Option Addr) (c1 : Nat) (l1 : List Int) (r1 : Int) (r2 : Int) (r3 : Int) (w0 w : World) (hI : IsS119 w0 w g s0_0 s0_1 s0_2) (hB : Below w0.heap.size w0 w) (hr1 : Kd.C (Kd.int .i64) w A1 l1.length l1) (hc1 : l1.length ≤ c1) (hf1 : ∀ ad, A1 = some ad → 0 < l1.length → ad.block ≠ g) (h : spec_l00Src_among.f s0_0 s0_1 s0_2 l1 = some (r1, r2, r3)) :
    Calls Tryz.prog 95 #[.pointer (some ⟨g, 0, none⟩), .slice A1 l1.length c1] w fun e w' => e = .returned (.int .i64 r1) ∧ IsS119 w0 w' g s0_0 r2 r3 ∧ Below w0.heap.size w0 w' ∧ KeepBut w w' g none := by
  have HR1 := Aside0.mk hr1
  have HC1 := Aside0.mk hc1
  clear hr1 hc1
  have HI0 := Aside0.mk hI
  have HK := Aside0.mk (KeepBut.refl w g none)
  have HL := Aside0.mk hB.size
  clear hI
  have HW0 := Aside0.mk hB.size
  have HB := Aside0.mk hB
  clear hB
  have H : ((spec_l00Src_pick.f s0_0 s0_1 s0_2 (l1.length : Int)).bind fun bt101 => (if 0 ≤ bt101.1 then (if bt101.1 < (l1.length : Int) then (some (rd l1 bt101.1, bt101.2.1, bt101.2.2)) else (none)) else (none))) = some (r1, r2, r3) := h
  clear h
  replace H := Option.bind_eq_some_iff.mp H
  obtain ⟨⟨t101, t102, t103⟩, A30, H⟩ := H
  replace H : (if 0 ≤ t101 then (if t101 < (l1.length : Int) then (some (rd l1 t101, t102, t103)) else (none)) else (none)) = some (r1, r2, r3) := H
  have A3 := Aside0.mk A30
  clear A30
  by_cases c4 : 0 ≤ t101
  · rw [if_pos c4] at H
    have c4b0 : decide (0 ≤ t101) = true := decide_eq_true c4
    clear c4
    by_cases c5 : t101 < (l1.length : Int)
    · rw [if_pos c5] at H
      have c5b0 : decide (t101 < (l1.length : Int)) = true := decide_eq_true c5
      clear c5
      simp only [Option.some.injEq, Prod.mk.injEq] at H
      obtain ⟨rfl, rfl, rfl⟩ := H
      go_enter Tryz.func95, Tryz.ntmps95
      go_wp2_with (first | ((with_reducible refine gate_callee (f := 57) rfl ?_); refine goesL_ (some 9) rfl rfl Tryz.func57 (by kernel_rfl) rfl #[.pointer (some ⟨g, 0, none⟩), .int .i64 (l1.length : Int)] rfl (by (try simp only [List.map_toArray, List.map_cons, List.map_nil]); first | done | rfl | (simp only [List.length_drop, List.length_take]; rfl)) ?_; (with_reducible refine (spec_l00Src_pick.calls g s0_0 s0_1 s0_2 (l1.length : Int) t101 t102 t103 w0 _ ?side1 ?side2 A3.out).mono ?_); (case side1 => repeat (first | (with_reducible first | exact HI0.out | apply IsS119.alloc | apply IsS119.drewN | apply IsS119.drew | apply IsS119.set_1 | apply IsS119.set_2) | exact HI0.out)); (case side2 => repeat (first | (with_reducible first | exact HB.out | apply below_alloc | apply pw_below_drewN | apply below_drew1 | refine below_set ?_ (IsS119.ge HI0.out)) | exact HB.out)); rintro e w6 ⟨rfl, hi, hb, hk⟩; refine ⟨_, rfl, ?_⟩; have n0_ := Aside0.mk (KeepBut.trans (by repeat (first | (with_reducible first | exact HK.out | apply KeepBut.set_ | apply keep_drewN | apply keep_drew | apply keep_alloc) | exact HK.out)) hk (.inl rfl)); have n1_ := Aside0.mk (hb); have n2_ := Aside0.mk (hi); clear HK; clear HB; clear HI0; have HK := n0_; have HB := n1_; have HI0 := n2_; clear n0_ n1_ n2_; (try clear hb); (try clear hb2); (try clear hk); (try clear hi); have p104 : 0 ≤ (t101 : Int) := of_decide_eq_true (by first | (with_reducible assumption) | assumption); have q104 : t101 < (l1.length : Int) := of_decide_eq_true (by first | (with_reducible assumption) | assumption); obtain ⟨ad104, e104, hx104_0⟩ := Kd.at_int HR1.out t101 p104 q104; cases e104; replace hx104_0 := keep_cell HK.out hx104_0 (by first | (rw [add_block]; exact hf1 _ rfl (by omega)) | exact hf1 _ rfl (by omega) | exact hf1 ad104 rfl (by omega)); replace p104 := eq_true p104; replace q104 := eq_true q104))
      go_ret
      exact ⟨by first | rfl | (simp [errW_none, errW_some] <;> rfl) | (simp [*, errW_none, errW_some] <;> rfl), by repeat (first | (with_reducible first | exact HI0.out | apply IsS119.alloc | apply IsS119.drewN | apply IsS119.drew | apply IsS119.set_1 | apply IsS119.set_2) | exact HI0.out), by repeat (first | (with_reducible first | exact HB.out | apply below_alloc | apply pw_below_drewN | apply below_drew1 | refine below_set ?_ (IsS119.ge HI0.out)) | exact HB.out), by repeat (first | (with_reducible first | exact HK.out | apply KeepBut.set_ | apply keep_drewN | apply keep_drew | apply keep_alloc) | exact HK.out)⟩
    · rw [if_neg c5] at H
      exact absurd H (by simp)
  · rw [if_neg c4] at H
    exact absurd H (by simp)

def spec_l26DrawScript.f (s0_0 : List Int) (s0_1 : Int) (s0_2 : Int) : Option (Int × Int × Int) := (spec_l00Src_among.f s0_0 s0_1 s0_2 (([1, 2, 3, 4, 1, 2, 3, 4, 0, 5] : List Int))).bind fun bt104 => (some (bt104.1, bt104.2.1, bt104.2.2))
set_option maxHeartbeats 8000000 in
set_option maxRecDepth 100000 in
theorem spec_l26DrawScript.calls (g : Nat) (s0_0 : List Int) (s0_1 : Int) (s0_2 : Int) (r1 : Int) (r2 : Int) (r3 : Int) (w0 w : World) (hI : IsS119 w0 w g s0_0 s0_1 s0_2) (hB : Below w0.heap.size w0 w) (h : spec_l26DrawScript.f s0_0 s0_1 s0_2 = some (r1, r2, r3)) :
    Calls Tryz.prog 54 #[.pointer (some ⟨g, 0, none⟩)] w fun e w' => e = .returned (.int .i64 r1) ∧ IsS119 w0 w' g s0_0 r2 r3 ∧ Below w0.heap.size w0 w' ∧ KeepBut w w' g none := by
  have HI0 := Aside0.mk hI
  have HK := Aside0.mk (KeepBut.refl w g none)
  have HL := Aside0.mk hB.size
  clear hI
  have HW0 := Aside0.mk hB.size
  have HB := Aside0.mk hB
  clear hB
  have H : ((spec_l00Src_among.f s0_0 s0_1 s0_2 (([1, 2, 3, 4, 1, 2, 3, 4, 0, 5] : List Int))).bind fun bt104 => (some (bt104.1, bt104.2.1, bt104.2.2))) = some (r1, r2, r3) := h
  clear h
  obtain ⟨y101, hy101⟩ : ∃ y_ : List Int, y_ = (([1, 2, 3, 4, 1, 2, 3, 4, 0, 5] : List Int)) := ⟨_, rfl⟩
  replace H : ((spec_l00Src_among.f s0_0 s0_1 s0_2 y101).bind fun bt104 => (some (bt104.1, bt104.2.1, bt104.2.2))) = some (r1, r2, r3) := by first | (rw [hy101]; with_reducible exact H) | (have H2_ := (Option.bind_some _ _).symm.trans H; rw [hy101]; with_reducible exact H2_) | (have H2_ := (Option.bind_some _ _).symm.trans H; with_reducible exact H2_) | with_reducible exact H | (rw [hy101]; exact H) | exact H
  have Ny101 := Aside0.mk hy101
  clear hy101
  replace H := Option.bind_eq_some_iff.mp H
  obtain ⟨⟨t104, t105, t106⟩, A20, H⟩ := H
  replace H : (some (t104, t105, t106)) = some (r1, r2, r3) := H
  have A2 := Aside0.mk A20
  clear A20
  simp only [Option.some.injEq, Prod.mk.injEq] at H
  obtain ⟨rfl, rfl, rfl⟩ := H
  go_enter Tryz.func54, Tryz.ntmps54
  go_wp2_with (first | ((with_reducible refine gate_dst (N := 4) rfl ?_); refine Kd.R_lit (Kd.int .i64) _ 2 ?hg (N := 4) ?hd (xs := ([1, 2, 3, 4, 1, 2, 3, 4, 0, 5] : List Int)) (inner := [.int .i64 1, .int .i64 2, .int .i64 3, .int .i64 4, .int .i64 1, .int .i64 2, .int .i64 3, .int .i64 4, .int .i64 0, .int .i64 5]) (ok := fun _ => True) (okp := fun _ => True) ?hr ?hp (fun _ hk => hk) trivial (Below.refl _ _) (Nat.le_refl _) (by simp) ?_; (case hd => rfl); (case hg => rfl); (case hr => first | (go_simp; done) | (go_simp; rfl)); (case hp => exact (Reps.one (show Kd.M (Kd.int .i64) _ _ _ 1 [.int .i64 1] from rfl) (Reps.one (show Kd.M (Kd.int .i64) _ _ _ 2 [.int .i64 2] from rfl) (Reps.one (show Kd.M (Kd.int .i64) _ _ _ 3 [.int .i64 3] from rfl) (Reps.one (show Kd.M (Kd.int .i64) _ _ _ 4 [.int .i64 4] from rfl) (Reps.one (show Kd.M (Kd.int .i64) _ _ _ 1 [.int .i64 1] from rfl) (Reps.one (show Kd.M (Kd.int .i64) _ _ _ 2 [.int .i64 2] from rfl) (Reps.one (show Kd.M (Kd.int .i64) _ _ _ 3 [.int .i64 3] from rfl) (Reps.one (show Kd.M (Kd.int .i64) _ _ _ 4 [.int .i64 4] from rfl) (Reps.one (show Kd.M (Kd.int .i64) _ _ _ 0 [.int .i64 0] from rfl) (Reps.one (show Kd.M (Kd.int .i64) _ _ _ 5 [.int .i64 5] from rfl) (Reps.none _ _)))))))))))); intro v102 w3 ho4 hb hg_ hnew_; clear hg_ hnew_; (first | rw [← Ny101.out] at ho4 | (simp only [Int.reduceToNat] at ho4; rw [← Ny101.out] at ho4)); have n0_ := Aside0.mk (Kd.R_lower ho4 (keep_size (w := w) (g := g) (row := none) (by repeat (first | (with_reducible first | exact HK.out | apply KeepBut.set_ | apply keep_drewN | apply keep_drew | apply keep_alloc) | exact HK.out)))); have n1_ := Aside0.mk (IsS119.below (by repeat (first | (with_reducible first | exact HI0.out | apply IsS119.alloc | apply IsS119.drewN | apply IsS119.drew | apply IsS119.set_1 | apply IsS119.set_2) | exact HI0.out)) hb); have n2_ := Aside0.mk (KeepBut.trans (by repeat (first | (with_reducible first | exact HK.out | apply KeepBut.set_ | apply keep_drewN | apply keep_drew | apply keep_alloc) | exact HK.out)) (KeepBut.of_below hb g none) (.inl rfl)); have n3_ := Aside0.mk (below_step (by repeat (first | (with_reducible first | exact HB.out | apply below_alloc | apply pw_below_drewN | apply below_drew1 | refine below_set ?_ (IsS119.ge HI0.out)) | exact HB.out)) hb); clear HI0; clear HK; clear HB; have HO103 := n0_; have HI0 := n1_; have HK := n2_; have HB := n3_; clear n0_ n1_ n2_ n3_; clear hb ho4; obtain ⟨Ao5, co5, eo5⟩ := Kd.R_slice HO103.out; subst eo5) | ((with_reducible refine gate_callee (f := 95) rfl ?_); refine goesL_ (some 5) rfl rfl Tryz.func95 (by kernel_rfl) rfl #[.pointer (some ⟨g, 0, none⟩), .slice Ao5 y101.length co5] rfl (by (try simp only [List.map_toArray, List.map_cons, List.map_nil]); first | done | rfl | (simp only [List.length_drop, List.length_take]; rfl)) ?_; (with_reducible refine (spec_l00Src_among.calls g s0_0 s0_1 s0_2 _ _ y101 t104 t105 t106 w0 _ ?side1 ?side2 ?side3 ?side4 ?side5 A2.out).mono ?_); (case side1 => repeat (first | (with_reducible first | exact HI0.out | apply IsS119.alloc | apply IsS119.drewN | apply IsS119.drew | apply IsS119.set_1 | apply IsS119.set_2) | exact HI0.out)); (case side2 => repeat (first | (with_reducible first | exact HB.out | apply below_alloc | apply pw_below_drewN | apply below_drew1 | refine below_set ?_ (IsS119.ge HI0.out)) | exact HB.out)); (case side3 => repeat (first | exact (Kd.R_reads' HO103.out).2.2 | (with_reducible refine Kd.C_alloc ?_ _) | (with_reducible refine Kd.C_drewN ?_ _) | (with_reducible refine Kd.C_drew ?_))); (case side4 => exact (Kd.R_reads' HO103.out).2.1); (case side5 => exact far_slice (IsS119.own_ne HI0.out HO103.out (by decide))); rintro e w6 ⟨rfl, hi, hb, hk⟩; refine ⟨_, rfl, ?_⟩; have n0_ := Aside0.mk (Kd.R_mono (Kd.R_keep (IsS119.apart (show IsS119 w0 _ g s0_0 s0_1 s0_2 from by repeat (first | (with_reducible first | exact HI0.out | apply IsS119.alloc | apply IsS119.drewN | apply IsS119.drew | apply IsS119.set_1 | apply IsS119.set_2) | exact HI0.out)) (by (with_reducible repeat (first | apply Kd.R_alloc | apply Kd.R_drewN | apply Kd.R_drew)); exact HO103.out) (by decide)) hk (fun _ h => h.2)) (fun _ h => h.1)); have n1_ := Aside0.mk (KeepBut.trans (by repeat (first | (with_reducible first | exact HK.out | apply KeepBut.set_ | apply keep_drewN | apply keep_drew | apply keep_alloc) | exact HK.out)) hk (.inl rfl)); have n2_ := Aside0.mk (hb); have n3_ := Aside0.mk (hi); clear HO103; clear HK; clear HB; clear HI0; have HO103 := n0_; have HK := n1_; have HB := n2_; have HI0 := n3_; clear n0_ n1_ n2_ n3_; (try clear hb); (try clear hb2); (try clear hk); (try clear hi)))
  go_ret
  exact ⟨by first | rfl | (simp [errW_none, errW_some] <;> rfl) | (simp [*, errW_none, errW_some] <;> rfl), by repeat (first | (with_reducible first | exact HI0.out | apply IsS119.alloc | apply IsS119.drewN | apply IsS119.drew | apply IsS119.set_1 | apply IsS119.set_2) | exact HI0.out), by repeat (first | (with_reducible first | exact HB.out | apply below_alloc | apply pw_below_drewN | apply below_drew1 | refine below_set ?_ (IsS119.ge HI0.out)) | exact HB.out), by repeat (first | (with_reducible first | exact HK.out | apply KeepBut.set_ | apply keep_drewN | apply keep_drew | apply keep_alloc) | exact HK.out)⟩

def spec_l26DrawKey.f (s0_0 : List Int) (s0_1 : Int) (s0_2 : Int) : Option (Int × Int × Int) := (spec_l00Src_among.f s0_0 s0_1 s0_2 (([0, 2, 5, 7, 11, 0, 12, (-1), 1] : List Int))).bind fun bt104 => (some (bt104.1, bt104.2.1, bt104.2.2))
set_option maxHeartbeats 8000000 in
set_option maxRecDepth 100000 in
theorem spec_l26DrawKey.calls (g : Nat) (s0_0 : List Int) (s0_1 : Int) (s0_2 : Int) (r1 : Int) (r2 : Int) (r3 : Int) (w0 w : World) (hI : IsS119 w0 w g s0_0 s0_1 s0_2) (hB : Below w0.heap.size w0 w) (h : spec_l26DrawKey.f s0_0 s0_1 s0_2 = some (r1, r2, r3)) :
    Calls Tryz.prog 55 #[.pointer (some ⟨g, 0, none⟩)] w fun e w' => e = .returned (.int .i64 r1) ∧ IsS119 w0 w' g s0_0 r2 r3 ∧ Below w0.heap.size w0 w' ∧ KeepBut w w' g none := by
  have HI0 := Aside0.mk hI
  have HK := Aside0.mk (KeepBut.refl w g none)
  have HL := Aside0.mk hB.size
  clear hI
  have HW0 := Aside0.mk hB.size
  have HB := Aside0.mk hB
  clear hB
  have H : ((spec_l00Src_among.f s0_0 s0_1 s0_2 (([0, 2, 5, 7, 11, 0, 12, (-1), 1] : List Int))).bind fun bt104 => (some (bt104.1, bt104.2.1, bt104.2.2))) = some (r1, r2, r3) := h
  clear h
  obtain ⟨y101, hy101⟩ : ∃ y_ : List Int, y_ = (([0, 2, 5, 7, 11, 0, 12, (-1), 1] : List Int)) := ⟨_, rfl⟩
  replace H : ((spec_l00Src_among.f s0_0 s0_1 s0_2 y101).bind fun bt104 => (some (bt104.1, bt104.2.1, bt104.2.2))) = some (r1, r2, r3) := by first | (rw [hy101]; with_reducible exact H) | (have H2_ := (Option.bind_some _ _).symm.trans H; rw [hy101]; with_reducible exact H2_) | (have H2_ := (Option.bind_some _ _).symm.trans H; with_reducible exact H2_) | with_reducible exact H | (rw [hy101]; exact H) | exact H
  have Ny101 := Aside0.mk hy101
  clear hy101
  replace H := Option.bind_eq_some_iff.mp H
  obtain ⟨⟨t104, t105, t106⟩, A20, H⟩ := H
  replace H : (some (t104, t105, t106)) = some (r1, r2, r3) := H
  have A2 := Aside0.mk A20
  clear A20
  simp only [Option.some.injEq, Prod.mk.injEq] at H
  obtain ⟨rfl, rfl, rfl⟩ := H
  go_enter Tryz.func55, Tryz.ntmps55
  go_wp2_with (first | ((with_reducible refine gate_dst (N := 4) rfl ?_); refine Kd.R_lit (Kd.int .i64) _ 2 ?hg (N := 4) ?hd (xs := ([0, 2, 5, 7, 11, 0, 12, (-1), 1] : List Int)) (inner := [.int .i64 0, .int .i64 2, .int .i64 5, .int .i64 7, .int .i64 11, .int .i64 0, .int .i64 12, .int .i64 (-1), .int .i64 1]) (ok := fun _ => True) (okp := fun _ => True) ?hr ?hp (fun _ hk => hk) trivial (Below.refl _ _) (Nat.le_refl _) (by simp) ?_; (case hd => rfl); (case hg => rfl); (case hr => first | (go_simp; done) | (go_simp; rfl)); (case hp => exact (Reps.one (show Kd.M (Kd.int .i64) _ _ _ 0 [.int .i64 0] from rfl) (Reps.one (show Kd.M (Kd.int .i64) _ _ _ 2 [.int .i64 2] from rfl) (Reps.one (show Kd.M (Kd.int .i64) _ _ _ 5 [.int .i64 5] from rfl) (Reps.one (show Kd.M (Kd.int .i64) _ _ _ 7 [.int .i64 7] from rfl) (Reps.one (show Kd.M (Kd.int .i64) _ _ _ 11 [.int .i64 11] from rfl) (Reps.one (show Kd.M (Kd.int .i64) _ _ _ 0 [.int .i64 0] from rfl) (Reps.one (show Kd.M (Kd.int .i64) _ _ _ 12 [.int .i64 12] from rfl) (Reps.one (show Kd.M (Kd.int .i64) _ _ _ (-1) [.int .i64 (-1)] from rfl) (Reps.one (show Kd.M (Kd.int .i64) _ _ _ 1 [.int .i64 1] from rfl) (Reps.none _ _))))))))))); intro v102 w3 ho4 hb hg_ hnew_; clear hg_ hnew_; (first | rw [← Ny101.out] at ho4 | (simp only [Int.reduceToNat] at ho4; rw [← Ny101.out] at ho4)); have n0_ := Aside0.mk (Kd.R_lower ho4 (keep_size (w := w) (g := g) (row := none) (by repeat (first | (with_reducible first | exact HK.out | apply KeepBut.set_ | apply keep_drewN | apply keep_drew | apply keep_alloc) | exact HK.out)))); have n1_ := Aside0.mk (IsS119.below (by repeat (first | (with_reducible first | exact HI0.out | apply IsS119.alloc | apply IsS119.drewN | apply IsS119.drew | apply IsS119.set_1 | apply IsS119.set_2) | exact HI0.out)) hb); have n2_ := Aside0.mk (KeepBut.trans (by repeat (first | (with_reducible first | exact HK.out | apply KeepBut.set_ | apply keep_drewN | apply keep_drew | apply keep_alloc) | exact HK.out)) (KeepBut.of_below hb g none) (.inl rfl)); have n3_ := Aside0.mk (below_step (by repeat (first | (with_reducible first | exact HB.out | apply below_alloc | apply pw_below_drewN | apply below_drew1 | refine below_set ?_ (IsS119.ge HI0.out)) | exact HB.out)) hb); clear HI0; clear HK; clear HB; have HO103 := n0_; have HI0 := n1_; have HK := n2_; have HB := n3_; clear n0_ n1_ n2_ n3_; clear hb ho4; obtain ⟨Ao5, co5, eo5⟩ := Kd.R_slice HO103.out; subst eo5) | ((with_reducible refine gate_callee (f := 95) rfl ?_); refine goesL_ (some 5) rfl rfl Tryz.func95 (by kernel_rfl) rfl #[.pointer (some ⟨g, 0, none⟩), .slice Ao5 y101.length co5] rfl (by (try simp only [List.map_toArray, List.map_cons, List.map_nil]); first | done | rfl | (simp only [List.length_drop, List.length_take]; rfl)) ?_; (with_reducible refine (spec_l00Src_among.calls g s0_0 s0_1 s0_2 _ _ y101 t104 t105 t106 w0 _ ?side1 ?side2 ?side3 ?side4 ?side5 A2.out).mono ?_); (case side1 => repeat (first | (with_reducible first | exact HI0.out | apply IsS119.alloc | apply IsS119.drewN | apply IsS119.drew | apply IsS119.set_1 | apply IsS119.set_2) | exact HI0.out)); (case side2 => repeat (first | (with_reducible first | exact HB.out | apply below_alloc | apply pw_below_drewN | apply below_drew1 | refine below_set ?_ (IsS119.ge HI0.out)) | exact HB.out)); (case side3 => repeat (first | exact (Kd.R_reads' HO103.out).2.2 | (with_reducible refine Kd.C_alloc ?_ _) | (with_reducible refine Kd.C_drewN ?_ _) | (with_reducible refine Kd.C_drew ?_))); (case side4 => exact (Kd.R_reads' HO103.out).2.1); (case side5 => exact far_slice (IsS119.own_ne HI0.out HO103.out (by decide))); rintro e w6 ⟨rfl, hi, hb, hk⟩; refine ⟨_, rfl, ?_⟩; have n0_ := Aside0.mk (Kd.R_mono (Kd.R_keep (IsS119.apart (show IsS119 w0 _ g s0_0 s0_1 s0_2 from by repeat (first | (with_reducible first | exact HI0.out | apply IsS119.alloc | apply IsS119.drewN | apply IsS119.drew | apply IsS119.set_1 | apply IsS119.set_2) | exact HI0.out)) (by (with_reducible repeat (first | apply Kd.R_alloc | apply Kd.R_drewN | apply Kd.R_drew)); exact HO103.out) (by decide)) hk (fun _ h => h.2)) (fun _ h => h.1)); have n1_ := Aside0.mk (KeepBut.trans (by repeat (first | (with_reducible first | exact HK.out | apply KeepBut.set_ | apply keep_drewN | apply keep_drew | apply keep_alloc) | exact HK.out)) hk (.inl rfl)); have n2_ := Aside0.mk (hb); have n3_ := Aside0.mk (hi); clear HO103; clear HK; clear HB; clear HI0; have HO103 := n0_; have HK := n1_; have HB := n2_; have HI0 := n3_; clear n0_ n1_ n2_ n3_; (try clear hb); (try clear hb2); (try clear hk); (try clear hi)))
  go_ret
  exact ⟨by first | rfl | (simp [errW_none, errW_some] <;> rfl) | (simp [*, errW_none, errW_some] <;> rfl), by repeat (first | (with_reducible first | exact HI0.out | apply IsS119.alloc | apply IsS119.drewN | apply IsS119.drew | apply IsS119.set_1 | apply IsS119.set_2) | exact HI0.out), by repeat (first | (with_reducible first | exact HB.out | apply below_alloc | apply pw_below_drewN | apply below_drew1 | refine below_set ?_ (IsS119.ge HI0.out)) | exact HB.out), by repeat (first | (with_reducible first | exact HK.out | apply KeepBut.set_ | apply keep_drewN | apply keep_drew | apply keep_alloc) | exact HK.out)⟩

def spec_l00Max.f (a0 : Int) (a1 : Int) : Option (Int) := if a0 > a1 then (some a0) else (some a1)
set_option maxHeartbeats 8000000 in
set_option maxRecDepth 100000 in
theorem spec_l00Max.calls (a0 : Int) (a1 : Int) (r : Int) (w : World) (h : spec_l00Max.f a0 a1 = some r) :
    Calls Tryz.prog 97 #[.int .i64 a0, .int .i64 a1] w fun e w' => e = .returned (.int .i64 r) ∧ Drawn0 w w' := by
  have H : (if a0 > a1 then (some a0) else (some a1)) = some r := h
  clear h
  by_cases c3 : a0 > a1
  · rw [if_pos c3] at H
    have c3b0 : decide (a1 < a0) = true := decide_eq_true c3
    clear c3
    obtain rfl := Option.some.inj H
    go_enter Tryz.func97, Tryz.ntmps97
    go_wp2
    go_ret
    exact ⟨by first | rfl | (simp; done) | (simp [*]; done), by repeat (first | exact Drawn0.refl _ | apply Drawn0.step)⟩
  · rw [if_neg c3] at H
    have c3b0 : decide (a1 < a0) = false := decide_eq_false c3
    clear c3
    obtain rfl := Option.some.inj H
    go_enter Tryz.func97, Tryz.ntmps97
    go_wp2
    go_ret
    exact ⟨by first | rfl | (simp; done) | (simp [*]; done), by repeat (first | exact Drawn0.refl _ | apply Drawn0.step)⟩

def spec_l00Min.f (a0 : Int) (a1 : Int) : Option (Int) := if a0 < a1 then (some a0) else (some a1)
set_option maxHeartbeats 8000000 in
set_option maxRecDepth 100000 in
theorem spec_l00Min.calls (a0 : Int) (a1 : Int) (r : Int) (w : World) (h : spec_l00Min.f a0 a1 = some r) :
    Calls Tryz.prog 98 #[.int .i64 a0, .int .i64 a1] w fun e w' => e = .returned (.int .i64 r) ∧ Drawn0 w w' := by
  have H : (if a0 < a1 then (some a0) else (some a1)) = some r := h
  clear h
  by_cases c3 : a0 < a1
  · rw [if_pos c3] at H
    have c3b0 : decide (a0 < a1) = true := decide_eq_true c3
    clear c3
    obtain rfl := Option.some.inj H
    go_enter Tryz.func98, Tryz.ntmps98
    go_wp2
    go_ret
    exact ⟨by first | rfl | (simp; done) | (simp [*]; done), by repeat (first | exact Drawn0.refl _ | apply Drawn0.step)⟩
  · rw [if_neg c3] at H
    have c3b0 : decide (a0 < a1) = false := decide_eq_false c3
    clear c3
    obtain rfl := Option.some.inj H
    go_enter Tryz.func98, Tryz.ntmps98
    go_wp2
    go_ret
    exact ⟨by first | rfl | (simp; done) | (simp [*]; done), by repeat (first | exact Drawn0.refl _ | apply Drawn0.step)⟩

def spec_l09Draw.l0 : Nat → List (S67) → Int → Int → List Int → Int → Int → Option ((List (S67)) × Int × Int)
  | 0, _, _, _, _, _, _ => none
  | k + 1, x3, x4, x5, x1000, x1001, x1002 => if x5 > 0 then ((spec_l00Src_pick.f x1000 x1001 x1002 9).bind fun bt110 => ((spec_l00Min.f 23 (wrap64 ((wrap64 (x4 + bt110.1)) - 4))).bind fun t113 => ((spec_l00Max.f (-12) t113).bind fun t114 => ((spec_l00Src_among.f x1000 bt110.2.1 bt110.2.2 (([1, 1, 2, 2, 3, 4, 6] : List Int))).bind fun bt118 => (if x3.length < 8796093022208 then (spec_l09Draw.l0 k (x3 ++ [(⟨t114, bt118.1⟩ : S67)]) t114 (wrap64 (x5 - 1)) x1000 bt118.2.1 bt118.2.2) else (none)))))) else (some (x3, x1001, x1002))
def spec_l09Draw.f (k : Nat) (s0_0 : List Int) (s0_1 : Int) (s0_2 : Int) : Option ((List (S67)) × Int × Int) := (spec_l00Src_pick.f s0_0 s0_1 s0_2 12).bind fun bt104 => ((spec_l00Src_pick.f s0_0 bt104.2.1 bt104.2.2 10).bind fun bt107 => (spec_l09Draw.l0 k (([] : List (S67))) bt104.1 bt107.1 s0_0 bt107.2.1 bt107.2.2))
set_option maxHeartbeats 8000000 in
set_option maxRecDepth 100000 in
theorem spec_l09Draw.calls (k : Nat) (g : Nat) (s0_0 : List Int) (s0_1 : Int) (s0_2 : Int) (r1 : List (S67)) (r2 : Int) (r3 : Int) (w0 w : World) (hI : IsS119 w0 w g s0_0 s0_1 s0_2) (hB : Below w0.heap.size w0 w) (h : spec_l09Draw.f k s0_0 s0_1 s0_2 = some (r1, r2, r3)) :
    Calls Tryz.prog 58 #[.pointer (some ⟨g, 0, none⟩)] w fun e w' => ∃ v0_ : Value, e = .returned (v0_) ∧ Kd.R k67 67 w' w.heap.size (fun _ => True) v0_ r1 ∧ IsS119 w0 w' g s0_0 r2 r3 ∧ Below w0.heap.size w0 w' ∧ KeepBut w w' g none := by
  have hu67 := Tryz.underlying67
  have HI0 := Aside0.mk hI
  have HK := Aside0.mk (KeepBut.refl w g none)
  have HL := Aside0.mk hB.size
  clear hI
  have HW0 := Aside0.mk hB.size
  have HB := Aside0.mk hB
  clear hB
  have H : ((spec_l00Src_pick.f s0_0 s0_1 s0_2 12).bind fun bt104 => ((spec_l00Src_pick.f s0_0 bt104.2.1 bt104.2.2 10).bind fun bt107 => (spec_l09Draw.l0 k (([] : List (S67))) bt104.1 bt107.1 s0_0 bt107.2.1 bt107.2.2))) = some (r1, r2, r3) := h
  clear h
  obtain ⟨y101, hy101⟩ : ∃ y_ : List (S67), y_ = (([] : List (S67))) := ⟨_, rfl⟩
  replace H : ((spec_l00Src_pick.f s0_0 s0_1 s0_2 12).bind fun bt104 => ((spec_l00Src_pick.f s0_0 bt104.2.1 bt104.2.2 10).bind fun bt107 => (spec_l09Draw.l0 k y101 bt104.1 bt107.1 s0_0 bt107.2.1 bt107.2.2))) = some (r1, r2, r3) := by first | (rw [hy101]; with_reducible exact H) | (have H2_ := (Option.bind_some _ _).symm.trans H; rw [hy101]; with_reducible exact H2_) | (have H2_ := (Option.bind_some _ _).symm.trans H; with_reducible exact H2_) | with_reducible exact H | (rw [hy101]; exact H) | exact H
  have Ny101 := Aside0.mk hy101
  clear hy101
  replace H := Option.bind_eq_some_iff.mp H
  obtain ⟨⟨t104, t105, t106⟩, A20, H⟩ := H
  replace H : ((spec_l00Src_pick.f s0_0 t105 t106 10).bind fun bt107 => (spec_l09Draw.l0 k y101 t104 bt107.1 s0_0 bt107.2.1 bt107.2.2)) = some (r1, r2, r3) := H
  have A2 := Aside0.mk A20
  clear A20
  replace H := Option.bind_eq_some_iff.mp H
  obtain ⟨⟨t107, t108, t109⟩, A30, H⟩ := H
  replace H : (spec_l09Draw.l0 k y101 t104 t107 s0_0 t108 t109) = some (r1, r2, r3) := H
  have A3 := Aside0.mk A30
  clear A30
  have H' := Aside0.mk H
  clear H
  go_enter Tryz.func58, Tryz.ntmps58
  go_wp2_with (first | ((with_reducible refine gate_dst (N := 6) rfl ?_); refine Kd.R_lit k67 _ 67 ?hg (N := 6) ?hd (xs := ([] : List (S67))) (inner := []) (ok := fun _ => True) (okp := fun _ => True) ?hr ?hp (fun _ hk => hk) trivial (Below.refl _ _) (Nat.le_refl _) (by simp) ?_; (case hd => rfl); (case hg => rfl); (case hr => first | (go_simp; done) | (go_simp; rfl)); (case hp => exact (Reps.none _ _)); intro v102 w4 ho5 hb hg_ hnew_; clear hg_ hnew_; (first | rw [← Ny101.out] at ho5 | (simp only [Int.reduceToNat] at ho5; rw [← Ny101.out] at ho5)); have n0_ := Aside0.mk (Kd.R_lower ho5 (keep_size (w := w) (g := g) (row := none) (by repeat (first | (with_reducible first | exact HK.out | apply KeepBut.set_ | apply keep_drewN | apply keep_drew | apply keep_alloc) | exact HK.out)))); have n1_ := Aside0.mk (IsS119.below (by repeat (first | (with_reducible first | exact HI0.out | apply IsS119.alloc | apply IsS119.drewN | apply IsS119.drew | apply IsS119.set_1 | apply IsS119.set_2) | exact HI0.out)) hb); have n2_ := Aside0.mk (KeepBut.trans (by repeat (first | (with_reducible first | exact HK.out | apply KeepBut.set_ | apply keep_drewN | apply keep_drew | apply keep_alloc) | exact HK.out)) (KeepBut.of_below hb g none) (.inl rfl)); have n3_ := Aside0.mk (below_step (by repeat (first | (with_reducible first | exact HB.out | apply below_alloc | apply pw_below_drewN | apply below_drew1 | refine below_set ?_ (IsS119.ge HI0.out)) | exact HB.out)) hb); clear HI0; clear HK; clear HB; have HO103 := n0_; have HI0 := n1_; have HK := n2_; have HB := n3_; clear n0_ n1_ n2_ n3_; clear hb ho5) | ((with_reducible refine gate_callee (f := 57) rfl ?_); refine goesL_ (some 8) rfl rfl Tryz.func57 (by kernel_rfl) rfl #[.pointer (some ⟨g, 0, none⟩), .int .i64 12] rfl (by (try simp only [List.map_toArray, List.map_cons, List.map_nil]); first | done | rfl | (simp only [List.length_drop, List.length_take]; rfl)) ?_; (with_reducible refine (spec_l00Src_pick.calls g s0_0 s0_1 s0_2 12 t104 t105 t106 w0 _ ?side1 ?side2 A2.out).mono ?_); (case side1 => repeat (first | (with_reducible first | exact HI0.out | apply IsS119.alloc | apply IsS119.drewN | apply IsS119.drew | apply IsS119.set_1 | apply IsS119.set_2) | exact HI0.out)); (case side2 => repeat (first | (with_reducible first | exact HB.out | apply below_alloc | apply pw_below_drewN | apply below_drew1 | refine below_set ?_ (IsS119.ge HI0.out)) | exact HB.out)); rintro e w6 ⟨rfl, hi, hb, hk⟩; refine ⟨_, rfl, ?_⟩; have n0_ := Aside0.mk (Kd.R_mono (Kd.R_keep (IsS119.apart (show IsS119 w0 _ g s0_0 s0_1 s0_2 from by repeat (first | (with_reducible first | exact HI0.out | apply IsS119.alloc | apply IsS119.drewN | apply IsS119.drew | apply IsS119.set_1 | apply IsS119.set_2) | exact HI0.out)) (by (with_reducible repeat (first | apply Kd.R_alloc | apply Kd.R_drewN | apply Kd.R_drew)); exact HO103.out) (by decide)) hk (fun _ h => h.2)) (fun _ h => h.1)); have n1_ := Aside0.mk (KeepBut.trans (by repeat (first | (with_reducible first | exact HK.out | apply KeepBut.set_ | apply keep_drewN | apply keep_drew | apply keep_alloc) | exact HK.out)) hk (.inl rfl)); have n2_ := Aside0.mk (hb); have n3_ := Aside0.mk (hi); clear HO103; clear HK; clear HB; clear HI0; have HO103 := n0_; have HK := n1_; have HB := n2_; have HI0 := n3_; clear n0_ n1_ n2_ n3_; (try clear hb); (try clear hb2); (try clear hk); (try clear hi)) | ((with_reducible refine gate_callee (f := 57) rfl ?_); refine goesL_ (some 10) rfl rfl Tryz.func57 (by kernel_rfl) rfl #[.pointer (some ⟨g, 0, none⟩), .int .i64 10] rfl (by (try simp only [List.map_toArray, List.map_cons, List.map_nil]); first | done | rfl | (simp only [List.length_drop, List.length_take]; rfl)) ?_; (with_reducible refine (spec_l00Src_pick.calls g s0_0 t105 t106 10 t107 t108 t109 w0 _ ?side1 ?side2 A3.out).mono ?_); (case side1 => repeat (first | (with_reducible first | exact HI0.out | apply IsS119.alloc | apply IsS119.drewN | apply IsS119.drew | apply IsS119.set_1 | apply IsS119.set_2) | exact HI0.out)); (case side2 => repeat (first | (with_reducible first | exact HB.out | apply below_alloc | apply pw_below_drewN | apply below_drew1 | refine below_set ?_ (IsS119.ge HI0.out)) | exact HB.out)); rintro e w7 ⟨rfl, hi, hb, hk⟩; refine ⟨_, rfl, ?_⟩; have n0_ := Aside0.mk (Kd.R_mono (Kd.R_keep (IsS119.apart (show IsS119 w0 _ g s0_0 t105 t106 from by repeat (first | (with_reducible first | exact HI0.out | apply IsS119.alloc | apply IsS119.drewN | apply IsS119.drew | apply IsS119.set_1 | apply IsS119.set_2) | exact HI0.out)) (by (with_reducible repeat (first | apply Kd.R_alloc | apply Kd.R_drewN | apply Kd.R_drew)); exact HO103.out) (by decide)) hk (fun _ h => h.2)) (fun _ h => h.1)); have n1_ := Aside0.mk (KeepBut.trans (by repeat (first | (with_reducible first | exact HK.out | apply KeepBut.set_ | apply keep_drewN | apply keep_drew | apply keep_alloc) | exact HK.out)) hk (.inl rfl)); have n2_ := Aside0.mk (hb); have n3_ := Aside0.mk (hi); clear HO103; clear HK; clear HB; clear HI0; have HO103 := n0_; have HK := n1_; have HB := n2_; have HI0 := n3_; clear n0_ n1_ n2_ n3_; (try clear hb); (try clear hb2); (try clear hk); (try clear hi)))
  go_loopg [3, 4, 5] k (fun kq v3 v4 v5 w' => ∃ (x3_1 : List (S67)) (x4_1 : Int) (x5_1 : Int) (x1001_1 : Int) (x1002_1 : Int), v4 = .int .i64 x4_1 ∧ v5 = .int .i64 x5_1 ∧ Aside0 (spec_l09Draw.l0 kq x3_1 x4_1 x5_1 s0_0 x1001_1 x1002_1 = some (r1, r2, r3)) ∧ Aside0 (kq ≤ k) ∧ Aside0 (Kd.R k67 67 w' w.heap.size (fun _ => True) v3 x3_1) ∧ Aside0 (IsS119 w0 w' g s0_0 x1001_1 x1002_1) ∧ Aside0 (KeepBut w w' g none) ∧ Aside0 (Below w0.heap.size w0 w'))
  case atStart => exact ⟨(y101), (t104), (t107), (t108), (t109), (by first | rfl | (simp; done) | (simp [*]; done)), (by first | rfl | (simp; done) | (simp [*]; done)), H', ⟨Nat.le_refl _⟩, ⟨by (with_reducible repeat (first | apply Kd.R_alloc | apply Kd.R_drewN | apply Kd.R_drew)); exact HO103.out⟩, ⟨by repeat (first | (with_reducible first | exact HI0.out | apply IsS119.alloc | apply IsS119.drewN | apply IsS119.drew | apply IsS119.set_1 | apply IsS119.set_2) | exact HI0.out)⟩, ⟨by repeat (first | (with_reducible first | exact HK.out | apply KeepBut.set_ | apply keep_drewN | apply keep_drew | apply keep_alloc) | exact HK.out)⟩, ⟨by repeat (first | (with_reducible first | exact HB.out | apply below_alloc | apply pw_below_drewN | apply below_drew1 | refine below_set ?_ (IsS119.ge HI0.out)) | exact HB.out)⟩⟩
  case round =>
    clear H'
    try clear p2
    try clear c5
    obtain ⟨x3_1, x4_1, x5_1, x1001_1, x1002_1, rfl, rfl, HA, HK1, HO_3, HI0, HK, HB⟩ := hrel
    cases gk with
    | zero => exact absurd HA.out (by simp [spec_l09Draw.l0])
    | succ k1 =>
      have H := HA.out
      clear HA
      simp only [spec_l09Draw.l0] at H
      by_cases c8 : x5_1 > 0
      · rw [if_pos c8] at H
        have c8b0 : decide (0 < x5_1) = true := decide_eq_true c8
        clear c8
        replace H := Option.bind_eq_some_iff.mp H
        obtain ⟨⟨t110, t111, t112⟩, A90, H⟩ := H
        replace H : ((spec_l00Min.f 23 (wrap64 ((wrap64 (x4_1 + t110)) - 4))).bind fun t113 => ((spec_l00Max.f (-12) t113).bind fun t114 => ((spec_l00Src_among.f s0_0 t111 t112 (([1, 1, 2, 2, 3, 4, 6] : List Int))).bind fun bt118 => (if x3_1.length < 8796093022208 then (spec_l09Draw.l0 k1 (x3_1 ++ [(⟨t114, bt118.1⟩ : S67)]) t114 (wrap64 (x5_1 - 1)) s0_0 bt118.2.1 bt118.2.2) else (none))))) = some (r1, r2, r3) := H
        have A9 := Aside0.mk A90
        clear A90
        replace H := Option.bind_eq_some_iff.mp H
        obtain ⟨t113, A100, H⟩ := H
        replace H : ((spec_l00Max.f (-12) t113).bind fun t114 => ((spec_l00Src_among.f s0_0 t111 t112 (([1, 1, 2, 2, 3, 4, 6] : List Int))).bind fun bt118 => (if x3_1.length < 8796093022208 then (spec_l09Draw.l0 k1 (x3_1 ++ [(⟨t114, bt118.1⟩ : S67)]) t114 (wrap64 (x5_1 - 1)) s0_0 bt118.2.1 bt118.2.2) else (none)))) = some (r1, r2, r3) := H
        have A10 := Aside0.mk A100
        clear A100
        replace H := Option.bind_eq_some_iff.mp H
        obtain ⟨t114, A110, H⟩ := H
        replace H : ((spec_l00Src_among.f s0_0 t111 t112 (([1, 1, 2, 2, 3, 4, 6] : List Int))).bind fun bt118 => (if x3_1.length < 8796093022208 then (spec_l09Draw.l0 k1 (x3_1 ++ [(⟨t114, bt118.1⟩ : S67)]) t114 (wrap64 (x5_1 - 1)) s0_0 bt118.2.1 bt118.2.2) else (none))) = some (r1, r2, r3) := H
        have A11 := Aside0.mk A110
        clear A110
        obtain ⟨y115, hy115⟩ : ∃ y_ : List Int, y_ = (([1, 1, 2, 2, 3, 4, 6] : List Int)) := ⟨_, rfl⟩
        replace H : ((spec_l00Src_among.f s0_0 t111 t112 y115).bind fun bt118 => (if x3_1.length < 8796093022208 then (spec_l09Draw.l0 k1 (x3_1 ++ [(⟨t114, bt118.1⟩ : S67)]) t114 (wrap64 (x5_1 - 1)) s0_0 bt118.2.1 bt118.2.2) else (none))) = some (r1, r2, r3) := by first | (rw [hy115]; with_reducible exact H) | (have H2_ := (Option.bind_some _ _).symm.trans H; rw [hy115]; with_reducible exact H2_) | (have H2_ := (Option.bind_some _ _).symm.trans H; with_reducible exact H2_) | with_reducible exact H | (rw [hy115]; exact H) | exact H
        have Ny115 := Aside0.mk hy115
        clear hy115
        replace H := Option.bind_eq_some_iff.mp H
        obtain ⟨⟨t118, t119, t120⟩, A120, H⟩ := H
        replace H : (if x3_1.length < 8796093022208 then (spec_l09Draw.l0 k1 (x3_1 ++ [(⟨t114, t118⟩ : S67)]) t114 (wrap64 (x5_1 - 1)) s0_0 t119 t120) else (none)) = some (r1, r2, r3) := H
        have A12 := Aside0.mk A120
        clear A120
        by_cases c13 : x3_1.length < 8796093022208
        · rw [if_pos c13] at H
          have LMc13 := Aside0.mk c13
          clear c13
          obtain ⟨y121, hy121⟩ : ∃ y_ : List (S67), y_ = (x3_1 ++ [(⟨t114, t118⟩ : S67)]) := ⟨_, rfl⟩
          replace H : (spec_l09Draw.l0 k1 y121 t114 (wrap64 (x5_1 - 1)) s0_0 t119 t120) = some (r1, r2, r3) := by first | (rw [hy121]; with_reducible exact H) | (have H2_ := (Option.bind_some _ _).symm.trans H; rw [hy121]; with_reducible exact H2_) | (have H2_ := (Option.bind_some _ _).symm.trans H; with_reducible exact H2_) | with_reducible exact H | (rw [hy121]; exact H) | exact H
          have Ny121 := Aside0.mk hy121
          clear hy121
          have H' := Aside0.mk H
          clear H
          go_wp2_with (first | ((with_reducible refine gate_callee (f := 57) rfl ?_); refine goesL_ (some 17) rfl rfl Tryz.func57 (by kernel_rfl) rfl #[.pointer (some ⟨g, 0, none⟩), .int .i64 9] rfl (by (try simp only [List.map_toArray, List.map_cons, List.map_nil]); first | done | rfl | (simp only [List.length_drop, List.length_take]; rfl)) ?_; (with_reducible refine (spec_l00Src_pick.calls g s0_0 x1001_1 x1002_1 9 t110 t111 t112 w0 _ ?side1 ?side2 A9.out).mono ?_); (case side1 => repeat (first | (with_reducible first | exact HI0.out | apply IsS119.alloc | apply IsS119.drewN | apply IsS119.drew | apply IsS119.set_1 | apply IsS119.set_2) | exact HI0.out)); (case side2 => repeat (first | (with_reducible first | exact HB.out | apply below_alloc | apply pw_below_drewN | apply below_drew1 | refine below_set ?_ (IsS119.ge HI0.out)) | exact HB.out)); rintro e w14 ⟨rfl, hi, hb, hk⟩; refine ⟨_, rfl, ?_⟩; have n0_ := Aside0.mk (Kd.R_mono (Kd.R_keep (IsS119.apart (show IsS119 w0 _ g s0_0 x1001_1 x1002_1 from by repeat (first | (with_reducible first | exact HI0.out | apply IsS119.alloc | apply IsS119.drewN | apply IsS119.drew | apply IsS119.set_1 | apply IsS119.set_2) | exact HI0.out)) (by (with_reducible repeat (first | apply Kd.R_alloc | apply Kd.R_drewN | apply Kd.R_drew)); exact HO_3.out) (by decide)) hk (fun _ h => h.2)) (fun _ h => h.1)); have n1_ := Aside0.mk (KeepBut.trans (by repeat (first | (with_reducible first | exact HK.out | apply KeepBut.set_ | apply keep_drewN | apply keep_drew | apply keep_alloc) | exact HK.out)) hk (.inl rfl)); have n2_ := Aside0.mk (hb); have n3_ := Aside0.mk (hi); clear HO_3; clear HK; clear HB; clear HI0; have HO_3 := n0_; have HK := n1_; have HB := n2_; have HI0 := n3_; clear n0_ n1_ n2_ n3_; (try clear hb); (try clear hb2); (try clear hk); (try clear hi)) | ((with_reducible refine gate_callee (f := 98) rfl ?_); refine goesL_ (some 20) rfl rfl Tryz.func98 (by kernel_rfl) rfl #[.int .i64 23, .int .i64 (wrap64 ((wrap64 (x4_1 + t110)) - 4))] rfl (by (try simp only [List.map_toArray, List.map_cons, List.map_nil]); first | done | rfl | (simp only [List.length_drop, List.length_take]; rfl)) ?_; (with_reducible refine (spec_l00Min.calls 23 (wrap64 ((wrap64 (x4_1 + t110)) - 4)) t113 _ A10.out).mono ?_); rintro e w' ⟨rfl, ⟨nd, rfl⟩⟩; refine ⟨_, rfl, ?_⟩) | ((with_reducible refine gate_callee (f := 97) rfl ?_); refine goesL_ (some 21) rfl rfl Tryz.func97 (by kernel_rfl) rfl #[.int .i64 (-12), .int .i64 t113] rfl (by (try simp only [List.map_toArray, List.map_cons, List.map_nil]); first | done | rfl | (simp only [List.length_drop, List.length_take]; rfl)) ?_; (with_reducible refine (spec_l00Max.calls (-12) t113 t114 _ A11.out).mono ?_); rintro e w' ⟨rfl, ⟨nd, rfl⟩⟩; refine ⟨_, rfl, ?_⟩) | ((with_reducible refine gate_dst (N := 25) rfl ?_); refine Kd.R_lit (Kd.int .i64) _ 2 ?hg (N := 25) ?hd (xs := ([1, 1, 2, 2, 3, 4, 6] : List Int)) (inner := [.int .i64 1, .int .i64 1, .int .i64 2, .int .i64 2, .int .i64 3, .int .i64 4, .int .i64 6]) (ok := fun _ => True) (okp := fun _ => True) ?hr ?hp (fun _ hk => hk) trivial (Below.refl _ _) (Nat.le_refl _) (by simp) ?_; (case hd => rfl); (case hg => rfl); (case hr => first | (go_simp; done) | (go_simp; rfl)); (case hp => exact (Reps.one (show Kd.M (Kd.int .i64) _ _ _ 1 [.int .i64 1] from rfl) (Reps.one (show Kd.M (Kd.int .i64) _ _ _ 1 [.int .i64 1] from rfl) (Reps.one (show Kd.M (Kd.int .i64) _ _ _ 2 [.int .i64 2] from rfl) (Reps.one (show Kd.M (Kd.int .i64) _ _ _ 2 [.int .i64 2] from rfl) (Reps.one (show Kd.M (Kd.int .i64) _ _ _ 3 [.int .i64 3] from rfl) (Reps.one (show Kd.M (Kd.int .i64) _ _ _ 4 [.int .i64 4] from rfl) (Reps.one (show Kd.M (Kd.int .i64) _ _ _ 6 [.int .i64 6] from rfl) (Reps.none _ _))))))))); intro v116 w15 ho16 hb hg_ hnew_; clear hg_ hnew_; (first | rw [← Ny115.out] at ho16 | (simp only [Int.reduceToNat] at ho16; rw [← Ny115.out] at ho16)); have n0_ := Aside0.mk (Kd.R_below (by (with_reducible repeat (first | apply Kd.R_alloc | apply Kd.R_drewN | apply Kd.R_drew)); exact HO_3.out) hb); have n1_ := Aside0.mk (Kd.R_lower ho16 (keep_size (w := w) (g := g) (row := none) (by repeat (first | (with_reducible first | exact HK.out | apply KeepBut.set_ | apply keep_drewN | apply keep_drew | apply keep_alloc) | exact HK.out)))); have n2_ := Aside0.mk (IsS119.below (by repeat (first | (with_reducible first | exact HI0.out | apply IsS119.alloc | apply IsS119.drewN | apply IsS119.drew | apply IsS119.set_1 | apply IsS119.set_2) | exact HI0.out)) hb); have n3_ := Aside0.mk (KeepBut.trans (by repeat (first | (with_reducible first | exact HK.out | apply KeepBut.set_ | apply keep_drewN | apply keep_drew | apply keep_alloc) | exact HK.out)) (KeepBut.of_below hb g none) (.inl rfl)); have n4_ := Aside0.mk (below_step (by repeat (first | (with_reducible first | exact HB.out | apply below_alloc | apply pw_below_drewN | apply below_drew1 | refine below_set ?_ (IsS119.ge HI0.out)) | exact HB.out)) hb); clear HO_3; clear HI0; clear HK; clear HB; have HO_3 := n0_; have HO117 := n1_; have HI0 := n2_; have HK := n3_; have HB := n4_; clear n0_ n1_ n2_ n3_ n4_; clear hb ho16; obtain ⟨Ao17, co17, eo17⟩ := Kd.R_slice HO117.out; subst eo17) | ((with_reducible refine gate_callee (f := 95) rfl ?_); refine goesL_ (some 26) rfl rfl Tryz.func95 (by kernel_rfl) rfl #[.pointer (some ⟨g, 0, none⟩), .slice Ao17 y115.length co17] rfl (by (try simp only [List.map_toArray, List.map_cons, List.map_nil]); first | done | rfl | (simp only [List.length_drop, List.length_take]; rfl)) ?_; (with_reducible refine (spec_l00Src_among.calls g s0_0 t111 t112 _ _ y115 t118 t119 t120 w0 _ ?side1 ?side2 ?side3 ?side4 ?side5 A12.out).mono ?_); (case side1 => repeat (first | (with_reducible first | exact HI0.out | apply IsS119.alloc | apply IsS119.drewN | apply IsS119.drew | apply IsS119.set_1 | apply IsS119.set_2) | exact HI0.out)); (case side2 => repeat (first | (with_reducible first | exact HB.out | apply below_alloc | apply pw_below_drewN | apply below_drew1 | refine below_set ?_ (IsS119.ge HI0.out)) | exact HB.out)); (case side3 => repeat (first | exact (Kd.R_reads' HO117.out).2.2 | (with_reducible refine Kd.C_alloc ?_ _) | (with_reducible refine Kd.C_drewN ?_ _) | (with_reducible refine Kd.C_drew ?_))); (case side4 => exact (Kd.R_reads' HO117.out).2.1); (case side5 => exact far_slice (IsS119.own_ne HI0.out HO117.out (by decide))); rintro e w18 ⟨rfl, hi, hb, hk⟩; refine ⟨_, rfl, ?_⟩; have n0_ := Aside0.mk (Kd.R_mono (Kd.R_keep (IsS119.apart (show IsS119 w0 _ g s0_0 t111 t112 from by repeat (first | (with_reducible first | exact HI0.out | apply IsS119.alloc | apply IsS119.drewN | apply IsS119.drew | apply IsS119.set_1 | apply IsS119.set_2) | exact HI0.out)) (by (with_reducible repeat (first | apply Kd.R_alloc | apply Kd.R_drewN | apply Kd.R_drew)); exact HO_3.out) (by decide)) hk (fun _ h => h.2)) (fun _ h => h.1)); have n1_ := Aside0.mk (Kd.R_mono (Kd.R_keep (IsS119.apart (show IsS119 w0 _ g s0_0 t111 t112 from by repeat (first | (with_reducible first | exact HI0.out | apply IsS119.alloc | apply IsS119.drewN | apply IsS119.drew | apply IsS119.set_1 | apply IsS119.set_2) | exact HI0.out)) (by (with_reducible repeat (first | apply Kd.R_alloc | apply Kd.R_drewN | apply Kd.R_drew)); exact HO117.out) (by decide)) hk (fun _ h => h.2)) (fun _ h => h.1)); have n2_ := Aside0.mk (KeepBut.trans (by repeat (first | (with_reducible first | exact HK.out | apply KeepBut.set_ | apply keep_drewN | apply keep_drew | apply keep_alloc) | exact HK.out)) hk (.inl rfl)); have n3_ := Aside0.mk (hb); have n4_ := Aside0.mk (hi); clear HO_3; clear HO117; clear HK; clear HB; clear HI0; have HO_3 := n0_; have HO117 := n1_; have HK := n2_; have HB := n3_; have HI0 := n4_; clear n0_ n1_ n2_ n3_ n4_; (try clear hb); (try clear hb2); (try clear hk); (try clear hi)) | ((with_reducible refine gate_builtin (b := .append) (xs := #[.tmp 22, .tmp 28]) rfl ?_); at_builtin; refine Kd.R_append k67 w.heap.size rfl (.tmp 22) (.tmp 28) 30 67 (.agg #[(.int .i64 0), (.int .i64 0)]) 16 rfl Tryz.underlying30 info67 rfl (by decide) (by omega) u3 x3_1 (⟨t114, t118⟩ : S67) [.int .i64 t114, .int .i64 t118] (fun _ => True) (fun _ => False) rfl rfl ?aP (fun _ hk => hk.elim) ?aF ?aO (Below.refl _ _) ?aS ?aL ?_; (case aP => exact k67_mkM _ _ _ (⟨t114, t118⟩ : S67)); (case aF => exact (fun _ _ => trivial)); (case aO => exact (by (with_reducible repeat (first | apply Kd.R_alloc | apply Kd.R_drewN | apply Kd.R_drew)); exact HO_3.out)); (case aS => exact (keep_size (w := w) (g := g) (row := none) (by repeat (first | (with_reducible first | exact HK.out | apply KeepBut.set_ | apply keep_drewN | apply keep_drew | apply keep_alloc) | exact HK.out)))); (case aL => have := LMc13.out; omega); intro v122 w19 ho hb hg hat; rw [← Ny121.out] at ho; have n0_ := Aside0.mk (IsS119.grown (by repeat (first | (with_reducible first | exact HI0.out | apply IsS119.alloc | apply IsS119.drewN | apply IsS119.drew | apply IsS119.set_1 | apply IsS119.set_2) | exact HI0.out)) hg (IsS119.own_ne HI0.out HO_3.out (by decide))); have n1_ := Aside0.mk (Kd.R_over' (by (with_reducible repeat (first | apply Kd.R_alloc | apply Kd.R_drewN | apply Kd.R_drew)); exact HO117.out) (Kd.R_typed (by (with_reducible repeat (first | apply Kd.R_alloc | apply Kd.R_drewN | apply Kd.R_drew)); exact HO_3.out)) (by decide) hg); have n2_ := Aside0.mk (below_weaken (by repeat (first | (with_reducible first | exact HB.out | apply below_alloc | apply pw_below_drewN | apply below_drew1 | refine below_set ?_ (IsS119.ge HI0.out)) | exact HB.out)) HL.out hb); have n3_ := Aside0.mk (KeepBut.trans (by repeat (first | (with_reducible first | exact HK.out | apply KeepBut.set_ | apply keep_drewN | apply keep_drew | apply keep_alloc) | exact HK.out)) (KeepBut.of_grown hg g) (Kd.R_base2 HO_3.out)); have n4_ := Aside0.mk (ho); clear HI0; clear HO117; clear HB; clear HK; clear HO_3; have HI0 := n0_; have HO117 := n1_; have HB := n2_; have HK := n3_; have HO123 := n4_; clear n0_ n1_ n2_ n3_ n4_; clear ho hb hg hat))
          go_roundg k1
          case measure => have := HK1.out; omega
          case rel => exact ⟨(y121), (t114), (wrap64 (x5_1 - 1)), (t119), (t120), (by first | rfl | (simp; done) | (simp [*]; done)), (by first | rfl | (simp; done) | (simp [*]; done)), H', ⟨by have := HK1.out; omega⟩, ⟨by (with_reducible repeat (first | apply Kd.R_alloc | apply Kd.R_drewN | apply Kd.R_drew)); exact HO123.out⟩, ⟨by repeat (first | (with_reducible first | exact HI0.out | apply IsS119.alloc | apply IsS119.drewN | apply IsS119.drew | apply IsS119.set_1 | apply IsS119.set_2) | exact HI0.out)⟩, ⟨by repeat (first | (with_reducible first | exact HK.out | apply KeepBut.set_ | apply keep_drewN | apply keep_drew | apply keep_alloc) | exact HK.out)⟩, ⟨by repeat (first | (with_reducible first | exact HB.out | apply below_alloc | apply pw_below_drewN | apply below_drew1 | refine below_set ?_ (IsS119.ge HI0.out)) | exact HB.out)⟩⟩
        · rw [if_neg c13] at H
          exact absurd H (by simp)
      · rw [if_neg c8] at H
        have c8b0 : decide (0 < x5_1) = false := decide_eq_false c8
        clear c8
        simp only [Option.some.injEq, Prod.mk.injEq] at H
        obtain ⟨rfl, rfl, rfl⟩ := H
        go_wp2
        go_ret
        exact ⟨_, by first | rfl | (simp [errW_none, errW_some] <;> rfl) | (simp [*, errW_none, errW_some] <;> rfl), by (with_reducible repeat (first | apply Kd.R_alloc | apply Kd.R_drewN | apply Kd.R_drew)); exact HO_3.out, by repeat (first | (with_reducible first | exact HI0.out | apply IsS119.alloc | apply IsS119.drewN | apply IsS119.drew | apply IsS119.set_1 | apply IsS119.set_2) | exact HI0.out), by repeat (first | (with_reducible first | exact HB.out | apply below_alloc | apply pw_below_drewN | apply below_drew1 | refine below_set ?_ (IsS119.ge HI0.out)) | exact HB.out), by repeat (first | (with_reducible first | exact HK.out | apply KeepBut.set_ | apply keep_drewN | apply keep_drew | apply keep_alloc) | exact HK.out)⟩

def spec_l00Src_one.f (s0_0 : List Int) (s0_1 : Int) (s0_2 : Int) (a1 : Int) : Option (Bool × Int × Int) := (spec_l00Src_pick.f s0_0 s0_1 s0_2 a1).bind fun bt101 => (some ((bt101.1 == 0), bt101.2.1, bt101.2.2))
set_option maxHeartbeats 8000000 in
set_option maxRecDepth 100000 in
theorem spec_l00Src_one.calls (g : Nat) (s0_0 : List Int) (s0_1 : Int) (s0_2 : Int) (a1 : Int) (r1 : Bool) (r2 : Int) (r3 : Int) (w0 w : World) (hI : IsS119 w0 w g s0_0 s0_1 s0_2) (hB : Below w0.heap.size w0 w) (h : spec_l00Src_one.f s0_0 s0_1 s0_2 a1 = some (r1, r2, r3)) :
    Calls Tryz.prog 59 #[.pointer (some ⟨g, 0, none⟩), .int .i64 a1] w fun e w' => e = .returned (.bool r1) ∧ IsS119 w0 w' g s0_0 r2 r3 ∧ Below w0.heap.size w0 w' ∧ KeepBut w w' g none := by
  have HI0 := Aside0.mk hI
  have HK := Aside0.mk (KeepBut.refl w g none)
  have HL := Aside0.mk hB.size
  clear hI
  have HW0 := Aside0.mk hB.size
  have HB := Aside0.mk hB
  clear hB
  have H : ((spec_l00Src_pick.f s0_0 s0_1 s0_2 a1).bind fun bt101 => (some ((bt101.1 == 0), bt101.2.1, bt101.2.2))) = some (r1, r2, r3) := h
  clear h
  replace H := Option.bind_eq_some_iff.mp H
  obtain ⟨⟨t101, t102, t103⟩, A30, H⟩ := H
  replace H : (some ((t101 == 0), t102, t103)) = some (r1, r2, r3) := H
  have A3 := Aside0.mk A30
  clear A30
  simp only [Option.some.injEq, Prod.mk.injEq] at H
  obtain ⟨rfl, rfl, rfl⟩ := H
  go_enter Tryz.func59, Tryz.ntmps59
  go_wp2_with (first | ((with_reducible refine gate_callee (f := 57) rfl ?_); refine goesL_ (some 7) rfl rfl Tryz.func57 (by kernel_rfl) rfl #[.pointer (some ⟨g, 0, none⟩), .int .i64 a1] rfl (by (try simp only [List.map_toArray, List.map_cons, List.map_nil]); first | done | rfl | (simp only [List.length_drop, List.length_take]; rfl)) ?_; (with_reducible refine (spec_l00Src_pick.calls g s0_0 s0_1 s0_2 a1 t101 t102 t103 w0 _ ?side1 ?side2 A3.out).mono ?_); (case side1 => repeat (first | (with_reducible first | exact HI0.out | apply IsS119.alloc | apply IsS119.drewN | apply IsS119.drew | apply IsS119.set_1 | apply IsS119.set_2) | exact HI0.out)); (case side2 => repeat (first | (with_reducible first | exact HB.out | apply below_alloc | apply pw_below_drewN | apply below_drew1 | refine below_set ?_ (IsS119.ge HI0.out)) | exact HB.out)); rintro e w4 ⟨rfl, hi, hb, hk⟩; refine ⟨_, rfl, ?_⟩; have n0_ := Aside0.mk (KeepBut.trans (by repeat (first | (with_reducible first | exact HK.out | apply KeepBut.set_ | apply keep_drewN | apply keep_drew | apply keep_alloc) | exact HK.out)) hk (.inl rfl)); have n1_ := Aside0.mk (hb); have n2_ := Aside0.mk (hi); clear HK; clear HB; clear HI0; have HK := n0_; have HB := n1_; have HI0 := n2_; clear n0_ n1_ n2_; (try clear hb); (try clear hb2); (try clear hk); (try clear hi)))
  go_ret
  exact ⟨by first | rfl | (simp [errW_none, errW_some] <;> rfl) | (simp [*, errW_none, errW_some] <;> rfl), by repeat (first | (with_reducible first | exact HI0.out | apply IsS119.alloc | apply IsS119.drewN | apply IsS119.drew | apply IsS119.set_1 | apply IsS119.set_2) | exact HI0.out), by repeat (first | (with_reducible first | exact HB.out | apply below_alloc | apply pw_below_drewN | apply below_drew1 | refine below_set ?_ (IsS119.ge HI0.out)) | exact HB.out), by repeat (first | (with_reducible first | exact HK.out | apply KeepBut.set_ | apply keep_drewN | apply keep_drew | apply keep_alloc) | exact HK.out)⟩

def spec_l00Src_text.f (s0_0 : List Int) (s0_1 : Int) (s0_2 : Int) (l1 : List ByteArray) : Option (ByteArray × Int × Int) := (spec_l00Src_pick.f s0_0 s0_1 s0_2 (l1.length : Int)).bind fun bt101 => (if 0 ≤ bt101.1 then (if bt101.1 < (l1.length : Int) then (some (rdOf ByteArray.empty l1 bt101.1, bt101.2.1, bt101.2.2)) else (none)) else (none))
set_option maxHeartbeats 8000000 in
set_option maxRecDepth 100000 in
theorem spec_l00Src_text.calls (g : Nat) (s0_0 : List Int) (s0_1 : Int) (s0_2 : Int) (A1 : Option Addr) (c1 : Nat) (l1 : List ByteArray) (r1 : ByteArray) (r2 : Int) (r3 : Int) (w0 w : World) (hI : IsS119 w0 w g s0_0 s0_1 s0_2) (hB : Below w0.heap.size w0 w) (hr1 : Kd.C Kd.string w A1 l1.length l1) (hc1 : l1.length ≤ c1) (hf1 : ∀ ad, A1 = some ad → 0 < l1.length → ad.block ≠ g) (h : spec_l00Src_text.f s0_0 s0_1 s0_2 l1 = some (r1, r2, r3)) :
    Calls Tryz.prog 99 #[.pointer (some ⟨g, 0, none⟩), .slice A1 l1.length c1] w fun e w' => e = .returned (.string r1) ∧ IsS119 w0 w' g s0_0 r2 r3 ∧ Below w0.heap.size w0 w' ∧ KeepBut w w' g none := by
  have HR1 := Aside0.mk hr1
  have HC1 := Aside0.mk hc1
  clear hr1 hc1
  have HI0 := Aside0.mk hI
  have HK := Aside0.mk (KeepBut.refl w g none)
  have HL := Aside0.mk hB.size
  clear hI
  have HW0 := Aside0.mk hB.size
  have HB := Aside0.mk hB
  clear hB
  have H : ((spec_l00Src_pick.f s0_0 s0_1 s0_2 (l1.length : Int)).bind fun bt101 => (if 0 ≤ bt101.1 then (if bt101.1 < (l1.length : Int) then (some (rdOf ByteArray.empty l1 bt101.1, bt101.2.1, bt101.2.2)) else (none)) else (none))) = some (r1, r2, r3) := h
  clear h
  replace H := Option.bind_eq_some_iff.mp H
  obtain ⟨⟨t101, t102, t103⟩, A30, H⟩ := H
  replace H : (if 0 ≤ t101 then (if t101 < (l1.length : Int) then (some (rdOf ByteArray.empty l1 t101, t102, t103)) else (none)) else (none)) = some (r1, r2, r3) := H
  have A3 := Aside0.mk A30
  clear A30
  by_cases c4 : 0 ≤ t101
  · rw [if_pos c4] at H
    have c4b0 : decide (0 ≤ t101) = true := decide_eq_true c4
    clear c4
    by_cases c5 : t101 < (l1.length : Int)
    · rw [if_pos c5] at H
      have c5b0 : decide (t101 < (l1.length : Int)) = true := decide_eq_true c5
      clear c5
      simp only [Option.some.injEq, Prod.mk.injEq] at H
      obtain ⟨rfl, rfl, rfl⟩ := H
      go_enter Tryz.func99, Tryz.ntmps99
      go_wp2_with (first | ((with_reducible refine gate_callee (f := 57) rfl ?_); refine goesL_ (some 9) rfl rfl Tryz.func57 (by kernel_rfl) rfl #[.pointer (some ⟨g, 0, none⟩), .int .i64 (l1.length : Int)] rfl (by (try simp only [List.map_toArray, List.map_cons, List.map_nil]); first | done | rfl | (simp only [List.length_drop, List.length_take]; rfl)) ?_; (with_reducible refine (spec_l00Src_pick.calls g s0_0 s0_1 s0_2 (l1.length : Int) t101 t102 t103 w0 _ ?side1 ?side2 A3.out).mono ?_); (case side1 => repeat (first | (with_reducible first | exact HI0.out | apply IsS119.alloc | apply IsS119.drewN | apply IsS119.drew | apply IsS119.set_1 | apply IsS119.set_2) | exact HI0.out)); (case side2 => repeat (first | (with_reducible first | exact HB.out | apply below_alloc | apply pw_below_drewN | apply below_drew1 | refine below_set ?_ (IsS119.ge HI0.out)) | exact HB.out)); rintro e w6 ⟨rfl, hi, hb, hk⟩; refine ⟨_, rfl, ?_⟩; have n0_ := Aside0.mk (KeepBut.trans (by repeat (first | (with_reducible first | exact HK.out | apply KeepBut.set_ | apply keep_drewN | apply keep_drew | apply keep_alloc) | exact HK.out)) hk (.inl rfl)); have n1_ := Aside0.mk (hb); have n2_ := Aside0.mk (hi); clear HK; clear HB; clear HI0; have HK := n0_; have HB := n1_; have HI0 := n2_; clear n0_ n1_ n2_; (try clear hb); (try clear hb2); (try clear hk); (try clear hi); have p104 : 0 ≤ (t101 : Int) := of_decide_eq_true (by first | (with_reducible assumption) | assumption); have q104 : t101 < (l1.length : Int) := of_decide_eq_true (by first | (with_reducible assumption) | assumption); obtain ⟨ad104, e104, hx104_0⟩ := Kd.at_string HR1.out t101 p104 q104; cases e104; replace hx104_0 := keep_cell HK.out hx104_0 (by first | (rw [add_block]; exact hf1 _ rfl (by omega)) | exact hf1 _ rfl (by omega) | exact hf1 ad104 rfl (by omega)); replace p104 := eq_true p104; replace q104 := eq_true q104))
      go_ret
      exact ⟨by first | rfl | (simp [errW_none, errW_some] <;> rfl) | (simp [*, errW_none, errW_some] <;> rfl), by repeat (first | (with_reducible first | exact HI0.out | apply IsS119.alloc | apply IsS119.drewN | apply IsS119.drew | apply IsS119.set_1 | apply IsS119.set_2) | exact HI0.out), by repeat (first | (with_reducible first | exact HB.out | apply below_alloc | apply pw_below_drewN | apply below_drew1 | refine below_set ?_ (IsS119.ge HI0.out)) | exact HB.out), by repeat (first | (with_reducible first | exact HK.out | apply KeepBut.set_ | apply keep_drewN | apply keep_drew | apply keep_alloc) | exact HK.out)⟩
    · rw [if_neg c5] at H
      exact absurd H (by simp)
  · rw [if_neg c4] at H
    exact absurd H (by simp)

end Go.Proofs.YtmoamoopoifnlaaGreatDoor.P

namespace Go.Proofs.YtmoamoopoifnlaaGreatDoorL
open Go.RowKit Go.Proofs.YtmoamoopoifnlaaGreatDoorW.PrintWords
set_option linter.unusedVariables false
set_option linter.unusedSimpArgs false

theorem wrap_id {x : Int} (h0 : -9223372036854775808 ≤ x) (h1 : x ≤ 9223372036854775807) : wrap64 x = x := by unfold wrap64; omega
theorem wrap_succ {i n : Nat} (h : i < n) (hn : n ≤ 4611686018427387904) : wrap64 ((i : Int) + 1) = ((i + 1 : Nat) : Int) := by
  rw [wrap_id (by omega) (by omega)]; omega
theorem lt_cast {i n : Nat} (h : i < n) : (i : Int) < (n : Int) := by omega
theorem nn_cast (i : Nat) : 0 ≤ (i : Int) := by omega
theorem nlt_cast (n : Nat) : ¬ ((n : Int) < (n : Int)) := by omega
theorem drop_cons {α : Type} {l : List α} {i : Nat} (h : i < l.length) : l.drop i = l[i] :: l.drop (i + 1) := List.drop_eq_getElem_cons h

/-- A loop over a list: at each element it answers, or it goes on behind it. G: what it answers from a rest on. -/
theorem list_loop {α σ ρ : Type} (L : Nat → σ → Int → Option ρ) (l : List α) (G : List α → σ → ρ) (Inv : Nat → σ → Prop) (B : Nat)
    (step : ∀ (k i : Nat) (hi : i < l.length) (s : σ), Inv i s → B ≤ k →
      L (k + 1) s (i : Int) = some (G (l[i] :: l.drop (i + 1)) s) ∨ ∃ s', Inv (i + 1) s' ∧ G (l[i] :: l.drop (i + 1)) s = G (l.drop (i + 1)) s' ∧ L (k + 1) s (i : Int) = L k s' ((i + 1 : Nat) : Int))
    (stop : ∀ (k : Nat) (s : σ), Inv l.length s → L (k + 1) s (l.length : Int) = some (G [] s)) :
    ∀ (k : Nat) (s : σ), B + l.length < k → Inv 0 s → L k s 0 = some (G l s) := by
  have main : ∀ (d k i : Nat) (s : σ), i + d = l.length → B + d < k → Inv i s → L k s (i : Int) = some (G (l.drop i) s) := by
    intro d
    induction d with
    | zero =>
      intro k i s hi hk hI
      obtain ⟨k, rfl⟩ : ∃ m, k = m + 1 := ⟨k - 1, by omega⟩
      have : i = l.length := by omega
      subst this
      rw [stop k s hI, List.drop_length]
    | succ d ih =>
      intro k i s hi hk hI
      obtain ⟨k, rfl⟩ : ∃ m, k = m + 1 := ⟨k - 1, by omega⟩
      have hlt : i < l.length := by omega
      rw [drop_cons hlt]
      rcases step k i hlt s hI (by omega) with h | ⟨s', hI', hG, hL⟩
      · exact h
      · rw [hL, hG]
        exact ih k (i + 1) s' (by omega) (by omega) hI'
  intro k s hk hI
  have := main l.length k 0 s (by omega) hk hI
  simpa using this

/-- The same without a state. -/
theorem list_loop0 {α ρ : Type} (L : Nat → Int → Option ρ) (l : List α) (G : List α → ρ) (B : Nat)
    (step : ∀ (k i : Nat) (hi : i < l.length), B ≤ k →
      L (k + 1) (i : Int) = some (G (l[i] :: l.drop (i + 1))) ∨ (G (l[i] :: l.drop (i + 1)) = G (l.drop (i + 1)) ∧ L (k + 1) (i : Int) = L k ((i + 1 : Nat) : Int)))
    (stop : ∀ (k : Nat), L (k + 1) (l.length : Int) = some (G [])) :
    ∀ (k : Nat), B + l.length < k → L k 0 = some (G l) := by
  intro k hk
  exact list_loop (σ := Unit) (fun k _ i => L k i) l (fun l _ => G l) (fun _ _ => True) B (fun k i hi s _ hB => by
    rcases step k i hi hB with h | ⟨h1, h2⟩
    · exact .inl h
    · exact .inr ⟨(), trivial, h1, h2⟩) (fun k _ _ => stop k) k () hk trivial

theorem rd_get {l : List Int} {i : Nat} (h : i < l.length) : rd l (i : Int) = l[i] := by
  simp [rd, List.getD_eq_getElem?_getD, List.getElem?_eq_getElem h]
theorem rdOf_get {α : Type} {z : α} {l : List α} {i : Nat} (h : i < l.length) : rdOf z l (i : Int) = l[i] := by
  simp [rdOf, List.getD_eq_getElem?_getD, List.getElem?_eq_getElem h]

theorem bytes_eq {a b : ByteArray} : a.toList = b.toList ↔ a = b := by
  constructor
  · intro h
    have h2 : a.data.toList = b.data.toList := by
      have e : ∀ x : ByteArray, x.toList = x.data.toList := ByteArray.toList_eq
      rw [← e, ← e]; exact h
    cases a; cases b
    simp at h2
    rw [h2]
  · intro h; rw [h]
end Go.Proofs.YtmoamoopoifnlaaGreatDoorL

namespace Go.Proofs.YtmoamoopoifnlaaGreatDoor.P
open Go.RowKit Go.Proofs.YtmoamoopoifnlaaGreatDoorW.PrintWords
set_option linter.unusedVariables false
theorem byt_store (P : Program) (g o : Nat) (t : TypeId) (fz : Nat × Nat) : ∀ (vs : List Value) (i : Nat) (cur : Array Value) (w : World), w.heap[g]? = some (.cells cur t fz) → o + i + vs.length ≤ fz.1 → o + i + vs.length ≤ cur.size → (∀ u ∈ vs, u.oneCell' = true) →
    (storeCells ⟨g, o, none⟩ vs i).run P w = .ok () (w.setRow g (cur.toList.take (o + i) ++ vs ++ cur.toList.drop (o + i + vs.length)).toArray)
  | [], i, cur, w, hg, _, _, _ => by
    simp only [storeCells, List.append_nil, List.length_nil, Nat.add_zero, List.take_append_drop, Array.toArray_toList]
    rw [setRow_self w g cur t fz hg]
    rfl
  | v :: rest, i, cur, w, hg, hfz, hl, h1 => by
    have hi : o + i < cur.size := by simp at hl; omega
    have hadd : (⟨g, o, none⟩ : Addr).add i = ⟨g, o + i, none⟩ := by unfold Addr.add; split <;> simp_all
    have hcell : w.cell? ⟨g, o + i, none⟩ = some cur[o + i] := by simp [World.cell?, hg, hi]
    have hfro : w.frozen? ⟨g, o + i, none⟩ = false := by
      obtain ⟨lo, hi'⟩ := fz
      simp only [World.frozen?, hg, Bool.and_eq_false_iff, decide_eq_false_iff_not]
      left
      simp only [List.length_cons] at hfz
      omega
    have hst : (store ((⟨g, o, none⟩ : Addr).add i) v).run P w = .ok () (w.setRow g (cur.setIfInBounds (o + i) v)) := by
      rw [hadd, run_store P w _ v _ (h1 v (by simp)), hcell]
      simp [hfro, setCell_eq_setRow w g (o + i) cur t fz v hg]
    have ih := byt_store P g o t fz rest (i + 1) (cur.setIfInBounds (o + i) v) (w.setRow g (cur.setIfInBounds (o + i) v)) (setRow_heap w g cur _ t _ hg) (by simp at hfz; omega) (by simp at hl ⊢; omega) (fun x hx => h1 x (by simp [hx]))
    simp only [storeCells, Sem.run_bind, hst, Result.andThen_ok, ih, setRow_setRow]
    congr 3
    have e := list_seg_step cur.toList (o + i) v rest (by simp at hl ⊢; omega)
    simpa [Array.toList_setIfInBounds, Nat.add_assoc] using e
section
variable {P : Program} (w : World)
theorem byt_room (t ty e : TypeId) (i : TypeInfo) (ht : P.underlying t = some (.slice e)) (hi : P.info? e = some i) (hs : i.size = 1)
    (g sLen sCap : Nat) (cur : Array Value) (fz : Nat × Nat) (hg : w.heap[g]? = some (.cells cur e fz)) (a : Addr) (m c : Nat) (news : List Value) (hl : news.length = m) (hnews : ∀ j u, news[j]? = some u → w.cell? (a.add j) = some u) (h1 : ∀ u ∈ news, u.oneCell' = true)
    (hroom : sLen + m ≤ sCap) (hfit : sLen + m ≤ cur.size) (hfz : sLen + m ≤ fz.1) :
    (Builtin.append_ #[t, t] ty #[.slice (some ⟨g, 0, none⟩) sLen sCap, .slice (some a) m c]).run P w =
      .ok (.slice (some ⟨g, 0, none⟩) (sLen + m) sCap) (w.setRow g (cur.toList.take sLen ++ news ++ cur.toList.drop (sLen + m)).toArray) := by
  have hl1 : news.length = m * i.size := by rw [hs, Nat.mul_one]; exact hl
  have hf := run_firstCells_some (P := P) w i.size m a m c news hl1 hnews
  have hst := byt_store P g sLen e fz news 0 cur w hg (by rw [Nat.add_zero, hl]; exact hfz) (by rw [Nat.add_zero, hl]; exact hfit) h1
  simp only [Nat.add_zero, hl] at hst
  rw [hs] at hf
  simp [Builtin.append_, run_underlying ht, sizeOf, typeInfo, hi, hs, Builtin.lenOf, hroom, hf, Addr.add_lit, hst]
/-- Whatever is appended to the first n bytes: the bytes at hand afterwards, and what has changed. -/
theorem byt_append (t ty e : TypeId) (i : TypeInfo) (z : Value) (ht : P.underlying t = some (.slice e)) (hi : P.info? e = some i) (hz : i.zero = some z) (hs : i.size = 1) (hby : i.bytes = 1)
    (g n cap : Nat) (cur : Array Value) (fz : Nat × Nat) (hg : w.heap[g]? = some (.cells cur e fz)) (hcur : cur.size = cap) (hfz : cap ≤ fz.1) (hn : n ≤ cap)
    (a : Addr) (m c : Nat) (news : List Value) (hl : news.length = m) (hnews : ∀ j u, news[j]? = some u → w.cell? (a.add j) = some u) (h1 : ∀ u ∈ news, u.oneCell' = true) (hm : n + m ≤ 140737488355328) :
    ∃ g' c' w', (Builtin.append_ #[t, t] ty #[.slice (some ⟨g, 0, none⟩) n cap, .slice (some a) m c]).run P w = .ok (.slice (some ⟨g', 0, none⟩) (n + m) c') w' ∧ (∀ j u, (cur.toList.take n ++ news)[j]? = some u → w'.cell? ⟨g', j, none⟩ = some u) ∧ w.grownBy w' (some g) := by
  have htl : (cur.toList.take n).length = n := by rw [List.length_take, Array.length_toList]; omega
  by_cases hroom : n + m ≤ cap
  · refine ⟨g, cap, _, byt_room w t ty e i ht hi hs g n cap cur fz hg a m c news hl hnews h1 hroom (by omega) (by omega), ?_, ⟨rfl, rfl, rfl, by simp, fun k _ hk => setRow_other w g k _ (fun e => hk (by simp [e]))⟩⟩
    intro j u hj
    have hjl : j < (cur.toList.take n ++ news).length := by
      rcases Nat.lt_or_ge j (cur.toList.take n ++ news).length with h | h
      · exact h
      · rw [List.getElem?_eq_none h] at hj; cases hj
    have hb := setRow_heap w g cur (cur.toList.take n ++ news ++ cur.toList.drop (n + m)).toArray e fz hg
    simp only [World.cell?, hb]
    rw [List.getElem?_toArray, List.getElem?_append_left hjl]
    exact hj
  · have hlo : (cur.toList.take n).length = n * i.size := by rw [hs, Nat.mul_one]; exact htl
    have holds : ∀ j v, (cur.toList.take n)[j]? = some v → w.cell? ((⟨g, 0, none⟩ : Addr).add j) = some v := fun j v hj => by
      have hadd : (⟨g, 0, none⟩ : Addr).add j = ⟨g, 0 + j, none⟩ := by unfold Addr.add; split <;> simp_all
      have hj2 : j < n := by
        rcases Nat.lt_or_ge j n with h | h
        · exact h
        · rw [List.getElem?_eq_none (by omega)] at hj; cases hj
      rw [List.getElem?_take_of_lt hj2] at hj
      rw [hadd, Nat.zero_add]
      simp only [World.cell?, hg]
      rw [← Array.getElem?_toList]; exact hj
    have hfit : Builtin.nextslicecap (n + m) cap * i.bytes ≤ 281474976710656 := by
      rw [hby]
      exact growslice_fits (by omega) (by omega)
    have hr := run_append_grow (P := P) w t ty e i z ht hi hz ⟨g, 0, none⟩ n cap (cur.toList.take n) hlo holds a m c news (by rw [hs, Nat.mul_one]; exact hl) hnews (by omega) (by omega) hfit
    refine ⟨w.heap.size, _, _, hr, ?_, ?_⟩
    · intro j u hj
      have hjl : j < (cur.toList.take n ++ news).length := by
        rcases Nat.lt_or_ge j (cur.toList.take n ++ news).length with h | h
        · exact h
        · rw [List.getElem?_eq_none h] at hj; cases hj
      have hb := blk_new w.drew (.cells ((cur.toList.take n).toArray ++ news.toArray ++ Builtin.zeroCells z.cells (grownCap w (n + m) cap e - (n + m))) e (0, 0))
      have hb' : (w.drew.alloc (.cells ((cur.toList.take n).toArray ++ news.toArray ++ Builtin.zeroCells z.cells (grownCap w (n + m) cap e - (n + m))) e)).heap[w.heap.size]? = some (.cells ((cur.toList.take n).toArray ++ news.toArray ++ Builtin.zeroCells z.cells (grownCap w (n + m) cap e - (n + m))) e (0, 0)) := hb
      simp only [World.cell?, hb']
      have hsz : ((cur.toList.take n).toArray ++ news.toArray).toList = cur.toList.take n ++ news := by simp
      rw [Array.getElem?_append_left (by simp at hjl ⊢; omega), ← Array.getElem?_toList, hsz]
      exact hj
    · have h := World.grownBy_alloc w.drew (.cells ((cur.toList.take n).toArray ++ news.toArray ++ Builtin.zeroCells z.cells (grownCap w (n + m) cap e - (n + m))) e) (some g)
      exact ⟨h.os, h.tape, h.output, h.size, h.block⟩
end
/-- The bytes of a list as cells. -/
def bcl (l : List UInt8) : List Value := l.map fun b => Value.int .u8 (b.toNat : Int)
theorem byt_back {P : Program} (src dst e : TypeId) (hs : P.underlying src = some (.slice e)) (he : P.underlying e = some (.int .u8)) (hd : P.underlying dst = some .string) {g c : Nat} {l : List UInt8} {n : Nat} (hn : l.length = n) {W : World}
    (h : ∀ j u, (bcl l)[j]? = some u → W.cell? ⟨g, j, none⟩ = some u) : (convert src dst (.slice (some ⟨g, 0, none⟩) n c)).run P W = .ok (.string ⟨l.toArray⟩) W := by
  subst hn
  refine run_convert_bytes_back W src dst e ⟨g, 0, none⟩ c l hs he hd (fun j hj => ?_)
  have hadd : (⟨g, 0, none⟩ : Addr).add j = ⟨g, 0 + j, none⟩ := by unfold Addr.add; split <;> simp_all
  rw [hadd, Nat.zero_add]
  exact h j _ (by unfold bcl; rw [List.getElem?_map, List.getElem?_eq_getElem hj]; rfl)
theorem byt_row (s : ByteArray) (c : Nat) (h : s.size ≤ c) : (bytesRow s c).size = c ∧ (bytesRow s c).toList.take s.size = bcl s.data.toList := by
  have hz : s.data.size = s.size := rfl
  constructor
  · unfold bytesRow
    rw [Array.size_append, Array.size_map, Array.size_replicate]; omega
  · unfold bytesRow bcl
    rw [Array.toList_append, Array.toList_map, List.take_left' (by rw [List.length_map, Array.length_toList]; exact hz)]
/-- One event of a plain region: the bytes of a string. -/
theorem byt_event {P : Program} {ops : Array Oper} {rest : List Oper} {o : Oper} {a : Act} {Q : Exit → Act → World → Prop} {W : World} (hgd : o.guard = none) {N : Tmp} (_hd : o.dst = some N) (src dst e : TypeId) (s : ByteArray)
    (hrun : (execOp a.eval o).run P W = .ok (.value (.slice (some ⟨W.heap.size, 0, none⟩) s.size (grownCap W s.size 0 e))) (W.drew.alloc (.cells (bytesRow s (grownCap W s.size 0 e)) e ((bytesRow s (grownCap W s.size 0 e)).size, (bytesRow s (grownCap W s.size 0 e)).size + 1))))
    (h : ∀ (g c : Nat) (cur : Array Value) (w1 : World), g = W.heap.size → s.size ≤ c → c ≤ maxLen ∨ maxLen < s.size → cur.size = c → cur.toList.take s.size = bcl s.data.toList → w1.heap[g]? = some (.cells cur e (c, c + 1)) → Below W.heap.size W w1 → wpList P ops Q rest (a.put o.dst (.slice (some ⟨g, 0, none⟩) s.size c)) w1) : wpList P ops Q (o :: rest) a W := by
  have hc := grownCap_ge W s.size 0 e
  obtain ⟨b1, b2⟩ := byt_row s _ hc
  refine Kd.event_run hgd hrun (h _ _ _ _ rfl hc ?_ b1 b2 ?_ ?_)
  · by_cases hm : s.size ≤ maxLen
    · exact .inl (grownCap_le_maxLen W s.size 0 e hm)
    · exact .inr (by omega)
  · rw [b1]; exact blk_new W.drew _
  · exact below_alloc (below_drew1 (Below.refl _ _)) _
theorem byt_size (s : ByteArray) : s.data.toList.length = s.size := Array.length_toList
theorem byt_info {P : Program} {e : TypeId} (h : (P.info? e).map (fun i => (i.zero, i.size, i.bytes)) = some (some (.int .u8 0), 1, 1)) : ∃ i, P.info? e = some i ∧ i.zero = some (.int .u8 0) ∧ i.size = 1 ∧ i.bytes = 1 := by
  cases hi : P.info? e with
  | none => rw [hi] at h; cases h
  | some i =>
    rw [hi] at h
    simp only [Option.map_some, Option.some.injEq, Prod.mk.injEq] at h
    exact ⟨i, rfl, h.1, h.2.1, h.2.2⟩
theorem byt_cell {W : World} {g c : Nat} {cur : Array Value} {fz : Nat × Nat} {e : TypeId} (hb : W.heap[g]? = some (.cells cur e fz)) {l : List UInt8} {n : Nat} (ht : cur.toList.take n = bcl l) {j : Nat} {u : Value} (hj : (bcl l)[j]? = some u) : W.cell? ⟨g, j, none⟩ = some u := by
  simp only [World.cell?, hb]
  rw [← Array.getElem?_toList]
  rw [← ht] at hj
  rcases Nat.lt_or_ge j n with h | h
  · rwa [List.getElem?_take_of_lt h] at hj
  · rw [List.getElem?_eq_none (by rw [List.length_take]; omega)] at hj; cases hj
/-- One byte set: what stands at its place, and what is at hand afterwards. -/
theorem byt_set {W : World} {g c : Nat} {cur : Array Value} {e : TypeId} {s : ByteArray} (hb : W.heap[g]? = some (.cells cur e (c, c + 1))) (hcs : cur.size = c) (hsz : s.size ≤ c) (ht : cur.toList.take s.size = bcl s.data.toList) {k : Nat} (hk : k < s.size) (b : UInt8) :
    (∃ v, W.cell? ⟨g, k, none⟩ = some v) ∧ W.frozen? ⟨g, k, none⟩ = false ∧ (∀ j u, (bcl (s.data.toList.set k b))[j]? = some u → (W.setCell ⟨g, k, none⟩ (.int .u8 (b.toNat : Int))).cell? ⟨g, j, none⟩ = some u) := by
  have hl : (bcl s.data.toList).length = s.size := by unfold bcl; rw [List.length_map, byt_size]
  have hc0 := byt_cell (c := c) hb ht (j := k) (u := (bcl s.data.toList)[k]'(by omega)) (List.getElem?_eq_getElem _)
  refine ⟨⟨_, hc0⟩, ?_, ?_⟩
  · simp only [World.frozen?, hb, Bool.and_eq_false_iff, decide_eq_false_iff_not]
    left; omega
  · intro j u hj
    by_cases h : j = k
    · subst h
      rw [World.cell?_setCell_same _ _ _ hc0]
      unfold bcl at hj
      rw [List.getElem?_map, List.getElem?_set_self (by rw [byt_size]; exact hk)] at hj
      exact hj
    · rw [World.cell?_setCell_other _ _ _ _ (by simp; try omega)]
      refine byt_cell (c := c) hb ht ?_
      unfold bcl at hj ⊢
      rw [List.getElem?_map, List.getElem?_set_ne (by omega)] at hj
      rw [List.getElem?_map]; exact hj
theorem byt_take {W : World} {g c : Nat} {cur : Array Value} {e : TypeId} {s : ByteArray} (hb : W.heap[g]? = some (.cells cur e (c, c + 1))) (hcs : cur.size = c) (hsz : s.size ≤ c) (ht : cur.toList.take s.size = bcl s.data.toList) {k : Nat} (hk : k ≤ s.size) :
    ∀ j u, (bcl (s.data.toList.take k))[j]? = some u → W.cell? ⟨g, j, none⟩ = some u := by
  intro j u hj
  refine byt_cell (c := c) hb ht ?_
  unfold bcl at hj ⊢
  rw [List.getElem?_map] at hj ⊢
  rcases Nat.lt_or_ge j k with h | h
  · rwa [List.getElem?_take_of_lt h] at hj
  · rw [List.getElem?_eq_none (by rw [List.length_take]; omega)] at hj; cases hj
/-- A literal's row: one event of a plain region. -/
theorem byt_lit {P : Program} {ops : Array Oper} {rest : List Oper} {o : Oper} {a : Act} {Q : Exit → Act → World → Prop} {W : World} (hgd : o.guard = none) {N : Tmp} (_hd : o.dst = some N) {cs : Array Value} {t : TypeId} {n : Nat}
    (hrun : (execOp a.eval o).run P W = .ok (.value (.slice (some ⟨W.heap.size, 0, none⟩) n n)) (W.alloc (.cells cs t)))
    (h : ∀ g, g = W.heap.size → ∀ w1, w1.heap[g]? = some (.cells cs t (0, 0)) → Below W.heap.size W w1 → wpList P ops Q rest (a.put o.dst (.slice (some ⟨g, 0, none⟩) n n)) w1) : wpList P ops Q (o :: rest) a W :=
  Kd.event_run hgd hrun (h _ rfl _ (blk_new W _) (below_alloc (Below.refl _ _) _))
theorem byt_from {P : Program} (t e : TypeId) {i : TypeInfo} (ht : P.underlying t = some (.slice e)) (hi : P.info? e = some i) (hs : i.size = 1) {g n c : Nat} {p : Int} (p0 : 0 ≤ p) (p1 : p < (n : Int)) (hn : n ≤ 1048576) :
    ∃ ad : Addr, (p.toNat + 1 < c → ad = ⟨g, p.toNat + 1, none⟩) ∧ ∀ W : World, (Instr.slice t (.slice (some ⟨g, 0, none⟩) n c) (some (.int .i64 (IntKind.i64.wrap (p + 1)))) none none).run P W = .ok (.slice (some ad) (n - (p.toNat + 1)) (c - (p.toNat + 1))) W := by
  have hw : IntKind.i64.wrap (p + 1) = p + 1 := by rw [IntWalk.i64_left]; exact Go.Proofs.YtmoamoopoifnlaaGreatDoorL.wrap_id (by omega) (by omega)
  have hj : (p + 1).toNat = p.toNat + 1 := by omega
  have h := cut_from (P := P) t e .i64 ht hi 1 hs (some ⟨g, 0, none⟩) n c (p + 1) (by omega) (by omega)
  rw [hj] at h
  rw [hw]
  have hadd : (⟨g, 0, none⟩ : Addr).add ((p.toNat + 1) * 1) = ⟨g, p.toNat + 1, none⟩ := by unfold Addr.add; split <;> simp_all
  by_cases hc : c = p.toNat + 1
  · rw [if_pos hc] at h
    exact ⟨_, fun hh => by omega, h⟩
  · rw [if_neg hc] at h
    exact ⟨⟨g, p.toNat + 1, none⟩, fun _ => rfl, fun W => by rw [h W]; simp only [Option.map_some, hadd]⟩
theorem bcl_one (b : UInt8) : bcl [b] = [.int .u8 (b.toNat : Int)] := rfl
theorem bcl_app (l m : List UInt8) : bcl (l ++ m) = bcl l ++ bcl m := by unfold bcl; rw [List.map_append]
theorem bcl_cell (l : List UInt8) : ∀ u ∈ bcl l, u.oneCell' = true := fun u hu => by
  unfold bcl at hu
  obtain ⟨b, _, rfl⟩ := List.mem_map.1 hu
  rfl
theorem bcl_len (l : List UInt8) : (bcl l).length = l.length := by unfold bcl; rw [List.length_map]
/-- One byte appended to all. -/
theorem byt_more {P : Program} (t ty e : TypeId) (src : P.underlying t = some (.slice e)) {i : TypeInfo} (hi : P.info? e = some i) (hz : i.zero = some (.int .u8 0)) (hs : i.size = 1) (hb : i.bytes = 1) {W : World} {g c : Nat} {cur : Array Value} {s : ByteArray} (hg : W.heap[g]? = some (.cells cur e (c, c + 1))) (hcs : cur.size = c) (hsz : s.size ≤ c) (ht : cur.toList.take s.size = bcl s.data.toList) (hz2 : s.size ≤ 1048576)
    {gl : Nat} (b : UInt8) (hl : W.heap[gl]? = some (.cells #[.int .u8 (b.toNat : Int)] e (0, 0))) :
    ∃ g' c' w', (Builtin.append_ #[t, t] ty #[.slice (some ⟨g, 0, none⟩) s.size c, .slice (some ⟨gl, 0, none⟩) 1 1]).run P W = .ok (.slice (some ⟨g', 0, none⟩) (s.size + 1) c') w' ∧ (∀ j u, (bcl (s.data.toList ++ [b]))[j]? = some u → w'.cell? ⟨g', j, none⟩ = some u) ∧ W.grownBy w' (some g) := by
  obtain ⟨g', c', w', h1, h2, h3⟩ := byt_append (P := P) W t ty e i (.int .u8 0) src hi hz hs hb g s.size c cur (c, c + 1) hg hcs (Nat.le_refl _) hsz ⟨gl, 0, none⟩ 1 1 (bcl [b]) rfl (fun j u hj => by
    have hadd : (⟨gl, 0, none⟩ : Addr).add j = ⟨gl, 0 + j, none⟩ := by unfold Addr.add; split <;> simp_all
    rw [hadd, Nat.zero_add]
    simp only [World.cell?, hl]
    rw [bcl_one] at hj
    simpa using hj) (bcl_cell _) (by omega)
  rw [ht, ← bcl_app] at h2
  exact ⟨g', c', w', h1, h2, h3⟩
/-- One byte taken out: what stands behind it is appended to what stands ahead. -/
theorem byt_less {P : Program} (t ty e : TypeId) (src : P.underlying t = some (.slice e)) {i : TypeInfo} (hi : P.info? e = some i) (hz : i.zero = some (.int .u8 0)) (hs : i.size = 1) (hb : i.bytes = 1) {W : World} {g c : Nat} {cur : Array Value} {s : ByteArray} (hg : W.heap[g]? = some (.cells cur e (c, c + 1))) (hcs : cur.size = c) (hsz : s.size ≤ c) (ht : cur.toList.take s.size = bcl s.data.toList) (hz2 : s.size ≤ 1048576)
    {k : Nat} (hk : k < s.size) {ad : Addr} (had : k + 1 < c → ad = ⟨g, k + 1, none⟩) (c2 : Nat) :
    ∃ g' c' w', (Builtin.append_ #[t, t] ty #[.slice (some ⟨g, 0, none⟩) k c, .slice (some ad) (s.size - (k + 1)) c2]).run P W = .ok (.slice (some ⟨g', 0, none⟩) (k + (s.size - (k + 1))) c') w' ∧ (∀ j u, (bcl (s.data.toList.take k ++ s.data.toList.drop (k + 1)))[j]? = some u → w'.cell? ⟨g', j, none⟩ = some u) ∧ W.grownBy w' (some g) := by
  have hn := byt_size s
  obtain ⟨g', c', w', h1, h2, h3⟩ := byt_append (P := P) W t ty e i (.int .u8 0) src hi hz hs hb g k c cur (c, c + 1) hg hcs (Nat.le_refl _) (by omega) ad (s.size - (k + 1)) c2 (bcl (s.data.toList.drop (k + 1))) (by rw [bcl_len, List.length_drop, hn]) (fun j u hj => by
    have hj2 : j < s.size - (k + 1) := by
      rcases Nat.lt_or_ge j (s.size - (k + 1)) with h | h
      · exact h
      · rw [List.getElem?_eq_none (by rw [bcl_len, List.length_drop]; omega)] at hj; cases hj
    rw [had (by omega)]
    have hadd : (⟨g, k + 1, none⟩ : Addr).add j = ⟨g, k + 1 + j, none⟩ := by unfold Addr.add; split <;> simp_all
    rw [hadd]
    refine byt_cell (c := c) hg ht ?_
    unfold bcl at hj ⊢
    rw [List.getElem?_map, List.getElem?_drop] at hj
    rw [List.getElem?_map]; exact hj) (bcl_cell _) (by omega)
  have e1 : cur.toList.take k = bcl (s.data.toList.take k) := by
    have h := congrArg (List.take k) ht
    rw [List.take_take, Nat.min_eq_left (by omega)] at h
    rw [h]; unfold bcl; rw [List.map_take]
  rw [e1, ← bcl_app] at h2
  exact ⟨g', c', w', h1, h2, h3⟩
/-- An append whose run is known: one event of a plain region, one step of a region that draws. -/
theorem byt_app {P : Program} {ops : Array Oper} {rest : List Oper} {o : Oper} {a : Act} {Q : Exit → Act → World → Prop} {W w1 : World} (hgd : o.guard = none) (s x : Operand) (t : TypeId) (ho : o.op = .call { callee := .builtin .append, args := #[s, x], argTypes := #[t, t] }) {v y v' : Value} (hs : a.eval s = v) (hx : a.eval x = y)
    (hr : (Builtin.append_ #[t, t] o.type #[v, y]).run P W = .ok v' w1) (h : wpList P ops Q rest (a.put o.dst v') w1) : wpList P ops Q (o :: rest) a W := by
  refine Kd.event_run hgd ?_ h
  unfold execOp
  simp only [ho, resolve, invoke, builtin, Sem.run_bind, Sem.run_pure, Result.andThen_ok, List.map_toArray, List.map_cons, List.map_nil, hs, hx, hr]
theorem byt_app_step {P : Program} {ops : Array Oper} {o : Oper} {a : Act} {Q : Exit → Act → World → Prop} {Kc : Act → World → Prop} {E : Prop} {W w1 : World} (hgd : o.guard = none) (s x : Operand) (t : TypeId) (ho : o.op = .call { callee := .builtin .append, args := #[s, x], argTypes := #[t, t] }) {v y v' : Value} (hs : a.eval s = v) (hx : a.eval x = y)
    (hr : (Builtin.append_ #[t, t] o.type #[v, y]).run P W = .ok v' w1) (h : Kc (a.put o.dst v') w1) : if Region.wanted o (yielded ops a.tmps) = true then Oper.wp P o a W Kc Q else E := by
  have hw : Region.wanted o (yielded ops a.tmps) = true := by simp [Region.wanted, hgd]
  rw [if_pos hw]
  unfold Oper.wp execOp
  simp only [ho, resolve, invoke, builtin, Sem.run_bind, Sem.run_pure, Result.andThen_ok, List.map_toArray, List.map_cons, List.map_nil, hs, hx, hr]
  exact h
end Go.Proofs.YtmoamoopoifnlaaGreatDoor.P

namespace Go.Proofs.YtmoamoopoifnlaaGreatDoor.P
open Go.RowKit Go.Proofs.YtmoamoopoifnlaaGreatDoorW.PrintWords Go.Proofs.YtmoamoopoifnlaaGreatDoorW.PrintLast Go.Proofs.YtmoamoopoifnlaaGreatDoorW.PrintMore
attribute [local go_sem] max2_int min2_int max_two min_two max_three min_three max_four min_four str_leq str_gtr str_geq
set_option linter.unusedVariables false
set_option linter.unusedSimpArgs false

def spec_l01Spoil.b (c : Int) : UInt8 := UInt8.ofNat (IntKind.u8.wrap c).toNat
def spec_l01Spoil.s0 (a : ByteArray) (p c : Int) : ByteArray := ⟨(a.data.toList.set p.toNat (spec_l01Spoil.b c)).toArray⟩
def spec_l01Spoil.s1 (a : ByteArray) (p : Int) : ByteArray := ⟨(a.data.toList.take p.toNat ++ a.data.toList.drop (p.toNat + 1)).toArray⟩
def spec_l01Spoil.s2 (a : ByteArray) (c : Int) : ByteArray := ⟨(a.data.toList ++ [spec_l01Spoil.b c]).toArray⟩
def spec_l01Spoil.s3 (a : ByteArray) (p : Int) : ByteArray := ⟨(a.data.toList.take p.toNat).toArray⟩
def spec_l01Spoil.f (s0_0 : List Int) (s0_1 : Int) (s0_2 : Int) (a1 : ByteArray) : Option (ByteArray × Int × Int) :=
  if a1.size = 0 then spec_l00Src_text.f s0_0 s0_1 s0_2 [⟨#[]⟩, ⟨#[32]⟩, ⟨#[120]⟩, ⟨#[10]⟩]
  else if 1048576 < a1.size then none
  else (spec_l00Src_pick.f s0_0 s0_1 s0_2 (a1.size : Int)).bind fun p => if 0 ≤ p.1 ∧ p.1 < (a1.size : Int) then (spec_l00Src_pick.f s0_0 p.2.1 p.2.2 4).bind fun q =>
      if q.1 = 0 then (spec_l00Src_next.f s0_0 q.2.1 q.2.2).bind fun c => some (spec_l01Spoil.s0 a1 p.1 c.1, c.2.1, c.2.2)
      else if q.1 = 1 then some (spec_l01Spoil.s1 a1 p.1, q.2.1, q.2.2)
      else if q.1 = 2 then (spec_l00Src_among.f s0_0 q.2.1 q.2.2 [32, 10, 48, 44, 120]).bind fun c => some (spec_l01Spoil.s2 a1 c.1, c.2.1, c.2.2)
      else if q.1 = 3 then some (spec_l01Spoil.s3 a1 p.1, q.2.1, q.2.2) else none
    else none
theorem spec_l01Spoil.bn (c : Int) : ((spec_l01Spoil.b c).toNat : Int) = c % 256 := by
  have h := IntKind.wrap_u8 c
  unfold spec_l01Spoil.b
  rw [h]
  rw [UInt8.toNat_ofNat']
  omega
set_option maxHeartbeats 3200000 in
set_option maxRecDepth 100000 in
theorem spec_l01Spoil.c0 (g : Nat) (s0_0 : List Int) (s0_1 s0_2 : Int) (a1 : ByteArray) (p i1 t1 i2 t2 c i3 t3 : Int) (w0 w : World) (hI : IsS119 w0 w g s0_0 s0_1 s0_2) (hB : Below w0.heap.size w0 w) (hz : ¬ a1.size = 0) (hz2 : a1.size ≤ 1048576) (e1 : spec_l00Src_pick.f s0_0 s0_1 s0_2 (a1.size : Int) = some (p, i1, t1)) (p0 : 0 ≤ p) (p1 : p < (a1.size : Int)) (e2 : spec_l00Src_pick.f s0_0 i1 t1 4 = some (0, i2, t2)) (e3 : spec_l00Src_next.f s0_0 i2 t2 = some (c, i3, t3)) :
    Calls Tryz.prog 60 #[.pointer (some ⟨g, 0, none⟩), .string a1] w fun e w' => e = .returned (.string (spec_l01Spoil.s0 a1 p c)) ∧ IsS119 w0 w' g s0_0 i3 t3 ∧ Below w0.heap.size w0 w' ∧ KeepBut w w' g none := by
  have HI0 := Aside0.mk hI
  have HK := Aside0.mk (KeepBut.refl w g none)
  have HW0 := Aside0.mk hB.size
  have HB := Aside0.mk hB
  have HC := Aside0.mk (fun W => run_bytes_of_string (P := Tryz.prog) W 9 25 5 a1 Tryz.underlying9 Tryz.underlying25 Tryz.underlying5)
  clear hI hB
  have b0 : ((a1.size : Int) == 0) = false := beq_eq_false_iff_ne.2 (by omega)
  have A1 := Aside0.mk (fun W h1 h2 => spec_l00Src_pick.calls g s0_0 s0_1 s0_2 (a1.size : Int) p i1 t1 w0 W h1 h2 e1)
  have A2 := Aside0.mk (fun W h1 h2 => spec_l00Src_pick.calls g s0_0 i1 t1 4 0 i2 t2 w0 W h1 h2 e2)
  have P0 := Aside0.mk p0
  have P1 := Aside0.mk p1
  have HZ := Aside0.mk hz2
  have A3 := Aside0.mk (fun W h1 h2 => spec_l00Src_next.calls g s0_0 i2 t2 c i3 t3 w0 W h1 h2 e3)
  clear e1 e2 e3 hz hz2
  have q0 : (0 ≤ p) = True := eq_true p0
  have q1 : (p < (a1.size : Int)) = True := eq_true p1
  clear p0 p1
  go_enter Tryz.func60, Tryz.ntmps60
  go_wp2_with (first
    | (((with_reducible refine gate_dst (N := 8) rfl ?_); refine byt_event ?hg (N := 8) ?hd 9 25 5 a1 ?hr ?_; (case hd => rfl); (case hg => rfl); (case hr => go_simp; first | done | (simp only [HC.out]; rfl) | (simp [HC.out]; rfl) | simp [HC.out])); intro gb cb cur wb hgb hcb hcm hcs htk hbk hb; have NE := Aside0.mk (show g ≠ gb from by rw [hgb]; exact Nat.ne_of_lt (IsS119.lt (show IsS119 w0 _ g s0_0 s0_1 s0_2 from (by repeat (first | (with_reducible first | exact HI0.out | apply IsS119.alloc | apply IsS119.drewN | apply IsS119.drew) | exact HI0.out))))); have GW := Aside0.mk (show w.heap.size ≤ gb from by rw [hgb]; exact keep_size (by repeat (first | (with_reducible first | exact HK.out | apply keep_drewN | apply keep_drew | apply keep_alloc) | exact HK.out))); have GE := Aside0.mk (show w0.heap.size ≤ gb from Nat.le_trans HW0.out GW.out); have n1_ := Aside0.mk (IsS119.below (by repeat (first | (with_reducible first | exact HI0.out | apply IsS119.alloc | apply IsS119.drewN | apply IsS119.drew) | exact HI0.out)) hb); have n2_ := Aside0.mk (KeepBut.trans (by repeat (first | (with_reducible first | exact HK.out | apply keep_drewN | apply keep_drew | apply keep_alloc) | exact HK.out)) (KeepBut.of_below hb g none) (.inl rfl)); have n3_ := Aside0.mk (below_step (by repeat (first | (with_reducible first | exact HB.out | apply below_alloc | apply pw_below_drewN | apply below_drew1) | exact HB.out)) hb); clear HI0 HK HB; have HI0 := n1_; have HK := n2_; have HB := n3_; have BK := Aside0.mk hbk; have CB := Aside0.mk hcb; have CS := Aside0.mk hcs; have TK := Aside0.mk htk; clear n1_ n2_ n3_ hb hbk hcb hcs htk hgb hcm)
    | (go_at_call 57; (with_reducible refine (A1.out _ ?h1 ?h2).mono ?_); (case h1 => exact (by repeat (first | (with_reducible first | exact HI0.out | apply IsS119.alloc | apply IsS119.drewN | apply IsS119.drew) | exact HI0.out))); (case h2 => exact (by repeat (first | (with_reducible first | exact HB.out | apply below_alloc | apply pw_below_drewN | apply below_drew1) | exact HB.out))); rintro e w1 ⟨rfl, hi, hb, hk⟩; have n1_ := Aside0.mk (KeepBut.blk hk (by (with_reducible repeat (first | refine blk_drewN ?_ _ | refine blk_drew ?_ | refine blk_alloc ?_ _)); exact BK.out) (Ne.symm NE.out) (by simp)); have n2_ := Aside0.mk (KeepBut.trans (by repeat (first | (with_reducible first | exact HK.out | apply keep_drewN | apply keep_drew | apply keep_alloc) | exact HK.out)) hk (.inl rfl)); have n3_ := Aside0.mk hb; have n4_ := Aside0.mk hi; clear BK HK HB HI0; have BK := n1_; have HK := n2_; have HB := n3_; have HI0 := n4_; clear n1_ n2_ n3_ n4_ hb hk hi)
    | (go_at_call 57; (with_reducible refine (A2.out _ ?h1 ?h2).mono ?_); (case h1 => exact (by repeat (first | (with_reducible first | exact HI0.out | apply IsS119.alloc | apply IsS119.drewN | apply IsS119.drew) | exact HI0.out))); (case h2 => exact (by repeat (first | (with_reducible first | exact HB.out | apply below_alloc | apply pw_below_drewN | apply below_drew1) | exact HB.out))); rintro e w2 ⟨rfl, hi, hb, hk⟩; have n1_ := Aside0.mk (KeepBut.blk hk (by (with_reducible repeat (first | refine blk_drewN ?_ _ | refine blk_drew ?_ | refine blk_alloc ?_ _)); exact BK.out) (Ne.symm NE.out) (by simp)); have n2_ := Aside0.mk (KeepBut.trans (by repeat (first | (with_reducible first | exact HK.out | apply keep_drewN | apply keep_drew | apply keep_alloc) | exact HK.out)) hk (.inl rfl)); have n3_ := Aside0.mk hb; have n4_ := Aside0.mk hi; clear BK HK HB HI0; have BK := n1_; have HK := n2_; have HB := n3_; have HI0 := n4_; clear n1_ n2_ n3_ n4_ hb hk hi)
    | (go_at_call 96; (with_reducible refine (A3.out _ ?h1 ?h2).mono ?_); (case h1 => exact (by repeat (first | (with_reducible first | exact HI0.out | apply IsS119.alloc | apply IsS119.drewN | apply IsS119.drew) | exact HI0.out))); (case h2 => exact (by repeat (first | (with_reducible first | exact HB.out | apply below_alloc | apply pw_below_drewN | apply below_drew1) | exact HB.out))); rintro e w3 ⟨rfl, hi, hb, hk⟩; have n1_ := Aside0.mk (KeepBut.blk hk (by (with_reducible repeat (first | refine blk_drewN ?_ _ | refine blk_drew ?_ | refine blk_alloc ?_ _)); exact BK.out) (Ne.symm NE.out) (by simp)); have n2_ := Aside0.mk (KeepBut.trans (by repeat (first | (with_reducible first | exact HK.out | apply keep_drewN | apply keep_drew | apply keep_alloc) | exact HK.out)) hk (.inl rfl)); have n3_ := Aside0.mk hb; have n4_ := Aside0.mk hi; clear BK HK HB HI0; have BK := n1_; have HK := n2_; have HB := n3_; have HI0 := n4_; clear n1_ n2_ n3_ n4_ hb hk hi; obtain ⟨⟨v0, hx⟩, hf, hs⟩ := byt_set BK.out CS.out CB.out TK.out (k := p.toNat) (by have := P0.out; have := P1.out; omega) (spec_l01Spoil.b c); rw [spec_l01Spoil.bn] at hs; have hback := byt_back (P := Tryz.prog) 25 9 5 Tryz.underlying25 Tryz.underlying5 Tryz.underlying9 (c := cb) (l := a1.data.toList.set p.toNat (spec_l01Spoil.b c)) (n := a1.size) (by rw [List.length_set]; exact byt_size a1) hs))
  go_ret
  exact ⟨rfl, IsS119.far (by repeat (first | (with_reducible first | exact HI0.out | apply IsS119.alloc | apply IsS119.drewN | apply IsS119.drew) | exact HI0.out)) NE.out _, below_set (by repeat (first | (with_reducible first | exact HB.out | apply below_alloc | apply pw_below_drewN | apply below_drew1) | exact HB.out)) GE.out, keep_far (by repeat (first | (with_reducible first | exact HK.out | apply keep_drewN | apply keep_drew | apply keep_alloc) | exact HK.out)) GW.out _⟩
set_option maxHeartbeats 3200000 in
set_option maxRecDepth 100000 in
theorem spec_l01Spoil.c3 (g : Nat) (s0_0 : List Int) (s0_1 s0_2 : Int) (a1 : ByteArray) (p i1 t1 i2 t2 : Int) (w0 w : World) (hI : IsS119 w0 w g s0_0 s0_1 s0_2) (hB : Below w0.heap.size w0 w) (hz : ¬ a1.size = 0) (hz2 : a1.size ≤ 1048576) (e1 : spec_l00Src_pick.f s0_0 s0_1 s0_2 (a1.size : Int) = some (p, i1, t1)) (p0 : 0 ≤ p) (p1 : p < (a1.size : Int)) (e2 : spec_l00Src_pick.f s0_0 i1 t1 4 = some (3, i2, t2)) :
    Calls Tryz.prog 60 #[.pointer (some ⟨g, 0, none⟩), .string a1] w fun e w' => e = .returned (.string (spec_l01Spoil.s3 a1 p)) ∧ IsS119 w0 w' g s0_0 i2 t2 ∧ Below w0.heap.size w0 w' ∧ KeepBut w w' g none := by
  have HI0 := Aside0.mk hI
  have HK := Aside0.mk (KeepBut.refl w g none)
  have HW0 := Aside0.mk hB.size
  have HB := Aside0.mk hB
  have HC := Aside0.mk (fun W => run_bytes_of_string (P := Tryz.prog) W 9 25 5 a1 Tryz.underlying9 Tryz.underlying25 Tryz.underlying5)
  clear hI hB
  have b0 : ((a1.size : Int) == 0) = false := beq_eq_false_iff_ne.2 (by omega)
  have A1 := Aside0.mk (fun W h1 h2 => spec_l00Src_pick.calls g s0_0 s0_1 s0_2 (a1.size : Int) p i1 t1 w0 W h1 h2 e1)
  have A2 := Aside0.mk (fun W h1 h2 => spec_l00Src_pick.calls g s0_0 i1 t1 4 3 i2 t2 w0 W h1 h2 e2)
  have P0 := Aside0.mk p0
  have P1 := Aside0.mk p1
  have HZ := Aside0.mk hz2
  obtain ⟨i5, hi5, hz5, hs5, hb5⟩ := byt_info (P := Tryz.prog) (e := 5) (by kernel_rfl)
  have HI5 := Aside0.mk hi5
  clear hi5 hz5 hs5 hb5
  clear e1 e2 hz hz2 p0 p1
  go_enter Tryz.func60, Tryz.ntmps60
  go_wp2_with (first
    | (((with_reducible refine gate_dst (N := 8) rfl ?_); refine byt_event ?hg (N := 8) ?hd 9 25 5 a1 ?hr ?_; (case hd => rfl); (case hg => rfl); (case hr => go_simp; first | done | (simp only [HC.out]; rfl) | (simp [HC.out]; rfl) | simp [HC.out])); intro gb cb cur wb hgb hcb hcm hcs htk hbk hb; have NE := Aside0.mk (show g ≠ gb from by rw [hgb]; exact Nat.ne_of_lt (IsS119.lt (show IsS119 w0 _ g s0_0 s0_1 s0_2 from (by repeat (first | (with_reducible first | exact HI0.out | apply IsS119.alloc | apply IsS119.drewN | apply IsS119.drew) | exact HI0.out))))); have GW := Aside0.mk (show w.heap.size ≤ gb from by rw [hgb]; exact keep_size (by repeat (first | (with_reducible first | exact HK.out | apply keep_drewN | apply keep_drew | apply keep_alloc) | exact HK.out))); have GE := Aside0.mk (show w0.heap.size ≤ gb from Nat.le_trans HW0.out GW.out); have n1_ := Aside0.mk (IsS119.below (by repeat (first | (with_reducible first | exact HI0.out | apply IsS119.alloc | apply IsS119.drewN | apply IsS119.drew) | exact HI0.out)) hb); have n2_ := Aside0.mk (KeepBut.trans (by repeat (first | (with_reducible first | exact HK.out | apply keep_drewN | apply keep_drew | apply keep_alloc) | exact HK.out)) (KeepBut.of_below hb g none) (.inl rfl)); have n3_ := Aside0.mk (below_step (by repeat (first | (with_reducible first | exact HB.out | apply below_alloc | apply pw_below_drewN | apply below_drew1) | exact HB.out)) hb); clear HI0 HK HB; have HI0 := n1_; have HK := n2_; have HB := n3_; have BK := Aside0.mk hbk; have CB := Aside0.mk hcb; have CS := Aside0.mk hcs; have TK := Aside0.mk htk; clear n1_ n2_ n3_ hb hbk hcb hcs htk hgb hcm)
    | (go_at_call 57; (with_reducible refine (A1.out _ ?h1 ?h2).mono ?_); (case h1 => exact (by repeat (first | (with_reducible first | exact HI0.out | apply IsS119.alloc | apply IsS119.drewN | apply IsS119.drew) | exact HI0.out))); (case h2 => exact (by repeat (first | (with_reducible first | exact HB.out | apply below_alloc | apply pw_below_drewN | apply below_drew1) | exact HB.out))); rintro e w1 ⟨rfl, hi, hb, hk⟩; have n1_ := Aside0.mk (KeepBut.blk hk (by (with_reducible repeat (first | refine blk_drewN ?_ _ | refine blk_drew ?_ | refine blk_alloc ?_ _)); exact BK.out) (Ne.symm NE.out) (by simp)); have n2_ := Aside0.mk (KeepBut.trans (by repeat (first | (with_reducible first | exact HK.out | apply keep_drewN | apply keep_drew | apply keep_alloc) | exact HK.out)) hk (.inl rfl)); have n3_ := Aside0.mk hb; have n4_ := Aside0.mk hi; clear BK HK HB HI0; have BK := n1_; have HK := n2_; have HB := n3_; have HI0 := n4_; clear n1_ n2_ n3_ n4_ hb hk hi)
    | (go_at_call 57; (with_reducible refine (A2.out _ ?h1 ?h2).mono ?_); (case h1 => exact (by repeat (first | (with_reducible first | exact HI0.out | apply IsS119.alloc | apply IsS119.drewN | apply IsS119.drew) | exact HI0.out))); (case h2 => exact (by repeat (first | (with_reducible first | exact HB.out | apply below_alloc | apply pw_below_drewN | apply below_drew1) | exact HB.out))); rintro e w2 ⟨rfl, hi, hb, hk⟩; have n1_ := Aside0.mk (KeepBut.blk hk (by (with_reducible repeat (first | refine blk_drewN ?_ _ | refine blk_drew ?_ | refine blk_alloc ?_ _)); exact BK.out) (Ne.symm NE.out) (by simp)); have n2_ := Aside0.mk (KeepBut.trans (by repeat (first | (with_reducible first | exact HK.out | apply keep_drewN | apply keep_drew | apply keep_alloc) | exact HK.out)) hk (.inl rfl)); have n3_ := Aside0.mk hb; have n4_ := Aside0.mk hi; clear BK HK HB HI0; have BK := n1_; have HK := n2_; have HB := n3_; have HI0 := n4_; clear n1_ n2_ n3_ n4_ hb hk hi; have hcut := cut_to (P := Tryz.prog) 25 5 .i64 Tryz.underlying25 (i := i5) HI5.out (some ⟨gb, 0, none⟩) a1.size cb p P0.out (by have := P1.out; omega) CB.out; have hback := byt_back (P := Tryz.prog) 25 9 5 Tryz.underlying25 Tryz.underlying5 Tryz.underlying9 (g := gb) (c := cb) (l := a1.data.toList.take p.toNat) (n := p.toNat) (W := w2) (by rw [List.length_take]; have := byt_size a1; have := P0.out; have := P1.out; omega) (byt_take BK.out CS.out CB.out TK.out (by have := P0.out; have := P1.out; omega))))
  go_ret
  exact ⟨rfl, (by repeat (first | (with_reducible first | exact HI0.out | apply IsS119.alloc | apply IsS119.drewN | apply IsS119.drew) | exact HI0.out)), (by repeat (first | (with_reducible first | exact HB.out | apply below_alloc | apply pw_below_drewN | apply below_drew1) | exact HB.out)), (by repeat (first | (with_reducible first | exact HK.out | apply keep_drewN | apply keep_drew | apply keep_alloc) | exact HK.out))⟩
set_option maxHeartbeats 3200000 in
set_option maxRecDepth 100000 in
theorem spec_l01Spoil.c2 (g : Nat) (s0_0 : List Int) (s0_1 s0_2 : Int) (a1 : ByteArray) (p i1 t1 i2 t2 c i3 t3 : Int) (w0 w : World) (hI : IsS119 w0 w g s0_0 s0_1 s0_2) (hB : Below w0.heap.size w0 w) (hz : ¬ a1.size = 0) (hz2 : a1.size ≤ 1048576) (e1 : spec_l00Src_pick.f s0_0 s0_1 s0_2 (a1.size : Int) = some (p, i1, t1)) (p0 : 0 ≤ p) (p1 : p < (a1.size : Int)) (e2 : spec_l00Src_pick.f s0_0 i1 t1 4 = some (2, i2, t2)) (e3 : spec_l00Src_among.f s0_0 i2 t2 [32, 10, 48, 44, 120] = some (c, i3, t3)) :
    Calls Tryz.prog 60 #[.pointer (some ⟨g, 0, none⟩), .string a1] w fun e w' => e = .returned (.string (spec_l01Spoil.s2 a1 c)) ∧ IsS119 w0 w' g s0_0 i3 t3 ∧ Below w0.heap.size w0 w' ∧ KeepBut w w' g none := by
  have HI0 := Aside0.mk hI
  have HK := Aside0.mk (KeepBut.refl w g none)
  have HW0 := Aside0.mk hB.size
  have HB := Aside0.mk hB
  have HC := Aside0.mk (fun W => run_bytes_of_string (P := Tryz.prog) W 9 25 5 a1 Tryz.underlying9 Tryz.underlying25 Tryz.underlying5)
  clear hI hB
  have b0 : ((a1.size : Int) == 0) = false := beq_eq_false_iff_ne.2 (by omega)
  have A1 := Aside0.mk (fun W h1 h2 => spec_l00Src_pick.calls g s0_0 s0_1 s0_2 (a1.size : Int) p i1 t1 w0 W h1 h2 e1)
  have A2 := Aside0.mk (fun W h1 h2 => spec_l00Src_pick.calls g s0_0 i1 t1 4 2 i2 t2 w0 W h1 h2 e2)
  have P0 := Aside0.mk p0
  have P1 := Aside0.mk p1
  have HZ := Aside0.mk hz2
  obtain ⟨y, hy⟩ : ∃ y_ : List Int, y_ = (([32, 10, 48, 44, 120] : List Int)) := ⟨_, rfl⟩
  rw [← hy] at e3
  have Ny := Aside0.mk hy
  clear hy
  have A3 := Aside0.mk (fun W A1 c1 h1 h2 hr1 hc1 hf1 => spec_l00Src_among.calls g s0_0 i2 t2 A1 c1 y c i3 t3 w0 W h1 h2 hr1 hc1 hf1 e3)
  obtain ⟨i5, hi5, hz5, hs5, hb5⟩ := byt_info (P := Tryz.prog) (e := 5) (by kernel_rfl)
  have I1 := Aside0.mk hi5
  have I2 := Aside0.mk hz5
  have I3 := Aside0.mk hs5
  have I4 := Aside0.mk hb5
  clear e1 e2 e3 hz hz2 p0 p1 hi5 hz5 hs5 hb5
  go_enter Tryz.func60, Tryz.ntmps60
  go_wp2_with (first
    | (((with_reducible refine gate_dst (N := 8) rfl ?_); refine byt_event ?hg (N := 8) ?hd 9 25 5 a1 ?hr ?_; (case hd => rfl); (case hg => rfl); (case hr => go_simp; first | done | (simp only [HC.out]; rfl) | (simp [HC.out]; rfl) | simp [HC.out])); intro gb cb cur wb hgb hcb hcm hcs htk hbk hb; have NE := Aside0.mk (show g ≠ gb from by rw [hgb]; exact Nat.ne_of_lt (IsS119.lt (show IsS119 w0 _ g s0_0 s0_1 s0_2 from (by repeat (first | (with_reducible first | exact HI0.out | apply IsS119.alloc | apply IsS119.drewN | apply IsS119.drew) | exact HI0.out))))); have GW := Aside0.mk (show w.heap.size ≤ gb from by rw [hgb]; exact keep_size (by repeat (first | (with_reducible first | exact HK.out | apply keep_drewN | apply keep_drew | apply keep_alloc) | exact HK.out))); have GE := Aside0.mk (show w0.heap.size ≤ gb from Nat.le_trans HW0.out GW.out); have n1_ := Aside0.mk (IsS119.below (by repeat (first | (with_reducible first | exact HI0.out | apply IsS119.alloc | apply IsS119.drewN | apply IsS119.drew) | exact HI0.out)) hb); have n2_ := Aside0.mk (KeepBut.trans (by repeat (first | (with_reducible first | exact HK.out | apply keep_drewN | apply keep_drew | apply keep_alloc) | exact HK.out)) (KeepBut.of_below hb g none) (.inl rfl)); have n3_ := Aside0.mk (below_step (by repeat (first | (with_reducible first | exact HB.out | apply below_alloc | apply pw_below_drewN | apply below_drew1) | exact HB.out)) hb); clear HI0 HK HB; have HI0 := n1_; have HK := n2_; have HB := n3_; have BK := Aside0.mk hbk; have CB := Aside0.mk hcb; have CS := Aside0.mk hcs; have TK := Aside0.mk htk; clear n1_ n2_ n3_ hb hbk hcb hcs htk hgb hcm)
    | (go_at_call 57; (with_reducible refine (A1.out _ ?h1 ?h2).mono ?_); (case h1 => exact (by repeat (first | (with_reducible first | exact HI0.out | apply IsS119.alloc | apply IsS119.drewN | apply IsS119.drew) | exact HI0.out))); (case h2 => exact (by repeat (first | (with_reducible first | exact HB.out | apply below_alloc | apply pw_below_drewN | apply below_drew1) | exact HB.out))); rintro e w1 ⟨rfl, hi, hb, hk⟩; have n1_ := Aside0.mk (KeepBut.blk hk (by (with_reducible repeat (first | refine blk_drewN ?_ _ | refine blk_drew ?_ | refine blk_alloc ?_ _)); exact BK.out) (Ne.symm NE.out) (by simp)); have n2_ := Aside0.mk (KeepBut.trans (by repeat (first | (with_reducible first | exact HK.out | apply keep_drewN | apply keep_drew | apply keep_alloc) | exact HK.out)) hk (.inl rfl)); have n3_ := Aside0.mk hb; have n4_ := Aside0.mk hi; clear BK HK HB HI0; have BK := n1_; have HK := n2_; have HB := n3_; have HI0 := n4_; clear n1_ n2_ n3_ n4_ hb hk hi)
    | (go_at_call 57; (with_reducible refine (A2.out _ ?h1 ?h2).mono ?_); (case h1 => exact (by repeat (first | (with_reducible first | exact HI0.out | apply IsS119.alloc | apply IsS119.drewN | apply IsS119.drew) | exact HI0.out))); (case h2 => exact (by repeat (first | (with_reducible first | exact HB.out | apply below_alloc | apply pw_below_drewN | apply below_drew1) | exact HB.out))); rintro e w2 ⟨rfl, hi, hb, hk⟩; have n1_ := Aside0.mk (KeepBut.blk hk (by (with_reducible repeat (first | refine blk_drewN ?_ _ | refine blk_drew ?_ | refine blk_alloc ?_ _)); exact BK.out) (Ne.symm NE.out) (by simp)); have n2_ := Aside0.mk (KeepBut.trans (by repeat (first | (with_reducible first | exact HK.out | apply keep_drewN | apply keep_drew | apply keep_alloc) | exact HK.out)) hk (.inl rfl)); have n3_ := Aside0.mk hb; have n4_ := Aside0.mk hi; clear BK HK HB HI0; have BK := n1_; have HK := n2_; have HB := n3_; have HI0 := n4_; clear n1_ n2_ n3_ n4_ hb hk hi)
    | ((with_reducible refine gate_dst (N := 43) rfl ?_); refine Kd.R_lit (Kd.int .i64) _ 2 ?hg (N := 43) ?hd (xs := ([32, 10, 48, 44, 120] : List Int)) (inner := [.int .i64 32, .int .i64 10, .int .i64 48, .int .i64 44, .int .i64 120]) (ok := fun _ => True) (okp := fun _ => True) ?hr ?hp (fun _ hk => hk) trivial (Below.refl _ _) (Nat.le_refl _) (by simp) ?_; (case hd => rfl); (case hg => rfl); (case hr => first | (go_simp; done) | (go_simp; rfl)); (case hp => exact (Reps.one (show Kd.M (Kd.int .i64) _ _ _ 32 [.int .i64 32] from rfl) (Reps.one (show Kd.M (Kd.int .i64) _ _ _ 10 [.int .i64 10] from rfl) (Reps.one (show Kd.M (Kd.int .i64) _ _ _ 48 [.int .i64 48] from rfl) (Reps.one (show Kd.M (Kd.int .i64) _ _ _ 44 [.int .i64 44] from rfl) (Reps.one (show Kd.M (Kd.int .i64) _ _ _ 120 [.int .i64 120] from rfl) (Reps.none _ _))))))); intro v102 wl ho4 hb hg_ hnew_; clear hg_ hnew_; (first | rw [← Ny.out] at ho4 | (simp only [Int.reduceToNat] at ho4; rw [← Ny.out] at ho4)); have n1_ := Aside0.mk (IsS119.below (by repeat (first | (with_reducible first | exact HI0.out | apply IsS119.alloc | apply IsS119.drewN | apply IsS119.drew) | exact HI0.out)) hb); have n2_ := Aside0.mk (KeepBut.trans (by repeat (first | (with_reducible first | exact HK.out | apply keep_drewN | apply keep_drew | apply keep_alloc) | exact HK.out)) (KeepBut.of_below hb g none) (.inl rfl)); have n3_ := Aside0.mk (below_step (by repeat (first | (with_reducible first | exact HB.out | apply below_alloc | apply pw_below_drewN | apply below_drew1) | exact HB.out)) hb); have n4_ := Aside0.mk (blk_below (by (with_reducible repeat (first | refine blk_drewN ?_ _ | refine blk_drew ?_ | refine blk_alloc ?_ _)); exact BK.out) hb); have n5_ := Aside0.mk ho4; clear HI0 HK HB BK; have HI0 := n1_; have HK := n2_; have HB := n3_; have BK := n4_; have HO := n5_; clear n1_ n2_ n3_ n4_ n5_ hb ho4; obtain ⟨Ao, co, eo⟩ := Kd.R_slice HO.out; subst eo)
    | (go_at_call 95; (with_reducible refine (A3.out _ _ _ ?h1 ?h2 ?h3 ?h4 ?h5).mono ?_); (case h1 => exact (by repeat (first | (with_reducible first | exact HI0.out | apply IsS119.alloc | apply IsS119.drewN | apply IsS119.drew) | exact HI0.out))); (case h2 => exact (by repeat (first | (with_reducible first | exact HB.out | apply below_alloc | apply pw_below_drewN | apply below_drew1) | exact HB.out))); (case h3 => repeat (first | exact (Kd.R_reads' HO.out).2.2 | (with_reducible refine Kd.C_alloc ?_ _) | (with_reducible refine Kd.C_drewN ?_ _) | (with_reducible refine Kd.C_drew ?_))); (case h4 => exact (Kd.R_reads' HO.out).2.1); (case h5 => exact far_slice (IsS119.own_ne HI0.out HO.out (by decide))); rintro e w3 ⟨rfl, hi, hb, hk⟩; have n1_ := Aside0.mk (KeepBut.blk hk (by (with_reducible repeat (first | refine blk_drewN ?_ _ | refine blk_drew ?_ | refine blk_alloc ?_ _)); exact BK.out) (Ne.symm NE.out) (by simp)); have n2_ := Aside0.mk (KeepBut.trans (by repeat (first | (with_reducible first | exact HK.out | apply keep_drewN | apply keep_drew | apply keep_alloc) | exact HK.out)) hk (.inl rfl)); have n3_ := Aside0.mk hb; have n4_ := Aside0.mk hi; clear BK HK HB HI0; have BK := n1_; have HK := n2_; have HB := n3_; have HI0 := n4_; clear n1_ n2_ n3_ n4_ hb hk hi)
    | ((with_reducible refine gate_dst (N := 46) rfl ?_); refine byt_lit ?hg (N := 46) ?hd (cs := #[.int .u8 (c % 256)]) (t := 5) (n := 1) ?hr ?_; (case hd => rfl); (case hg => rfl); (case hr => first | (go_simp; done) | (go_simp; rfl)); intro gl hgl wl hll hb; have n1_ := Aside0.mk (IsS119.below (by repeat (first | (with_reducible first | exact HI0.out | apply IsS119.alloc | apply IsS119.drewN | apply IsS119.drew) | exact HI0.out)) hb); have n2_ := Aside0.mk (KeepBut.trans (by repeat (first | (with_reducible first | exact HK.out | apply keep_drewN | apply keep_drew | apply keep_alloc) | exact HK.out)) (KeepBut.of_below hb g none) (.inl rfl)); have n3_ := Aside0.mk (below_step (by repeat (first | (with_reducible first | exact HB.out | apply below_alloc | apply pw_below_drewN | apply below_drew1) | exact HB.out)) hb); have n4_ := Aside0.mk (blk_below (by (with_reducible repeat (first | refine blk_drewN ?_ _ | refine blk_drew ?_ | refine blk_alloc ?_ _)); exact BK.out) hb); clear HI0 HK HB BK; have HI0 := n1_; have HK := n2_; have HB := n3_; have BK := n4_; clear n1_ n2_ n3_ n4_ hb; rw [← spec_l01Spoil.bn] at hll; have HL := Aside0.mk hll; clear hll hgl)
    | ((with_reducible refine gate_dst (N := 47) rfl ?_); obtain ⟨g', c', w', hr, hc, hgr⟩ := byt_more (P := Tryz.prog) 25 25 5 Tryz.underlying25 I1.out I2.out I3.out I4.out BK.out CS.out CB.out TK.out HZ.out (spec_l01Spoil.b c) HL.out; refine byt_app (by rfl) _ _ _ (by rfl) (by rfl) (by rfl) hr ?_; have hback := byt_back (P := Tryz.prog) 25 9 5 Tryz.underlying25 Tryz.underlying5 Tryz.underlying9 (g := g') (c := c') (l := a1.data.toList ++ [spec_l01Spoil.b c]) (n := a1.size + 1) (W := w') (by rw [List.length_append, byt_size]; rfl) hc; have n1_ := Aside0.mk (IsS119.grown (by repeat (first | (with_reducible first | exact HI0.out | apply IsS119.alloc | apply IsS119.drewN | apply IsS119.drew) | exact HI0.out)) hgr (fun h => NE.out (Option.some.inj h))); have n2_ := Aside0.mk (KeepBut.trans (by repeat (first | (with_reducible first | exact HK.out | apply keep_drewN | apply keep_drew | apply keep_alloc) | exact HK.out)) (KeepBut.of_grown hgr g) (.inr ⟨gb, rfl, GW.out⟩)); have n3_ := Aside0.mk (Below.grown (by repeat (first | (with_reducible first | exact HB.out | apply below_alloc | apply pw_below_drewN | apply below_drew1) | exact HB.out)) hgr (HB.out.size) (fun k hk => by rw [← Option.some.inj hk]; exact GE.out)); clear HI0 HK HB; have HI0 := n1_; have HK := n2_; have HB := n3_; clear n1_ n2_ n3_ hgr; clear hr hc))
  go_ret
  exact ⟨rfl, (by repeat (first | (with_reducible first | exact HI0.out | apply IsS119.alloc | apply IsS119.drewN | apply IsS119.drew) | exact HI0.out)), (by repeat (first | (with_reducible first | exact HB.out | apply below_alloc | apply pw_below_drewN | apply below_drew1) | exact HB.out)), (by repeat (first | (with_reducible first | exact HK.out | apply keep_drewN | apply keep_drew | apply keep_alloc) | exact HK.out))⟩
set_option maxHeartbeats 3200000 in
set_option maxRecDepth 100000 in
theorem spec_l01Spoil.c1 (g : Nat) (s0_0 : List Int) (s0_1 s0_2 : Int) (a1 : ByteArray) (p i1 t1 i2 t2 : Int) (w0 w : World) (hI : IsS119 w0 w g s0_0 s0_1 s0_2) (hB : Below w0.heap.size w0 w) (hz : ¬ a1.size = 0) (hz2 : a1.size ≤ 1048576) (e1 : spec_l00Src_pick.f s0_0 s0_1 s0_2 (a1.size : Int) = some (p, i1, t1)) (p0 : 0 ≤ p) (p1 : p < (a1.size : Int)) (e2 : spec_l00Src_pick.f s0_0 i1 t1 4 = some (1, i2, t2)) :
    Calls Tryz.prog 60 #[.pointer (some ⟨g, 0, none⟩), .string a1] w fun e w' => e = .returned (.string (spec_l01Spoil.s1 a1 p)) ∧ IsS119 w0 w' g s0_0 i2 t2 ∧ Below w0.heap.size w0 w' ∧ KeepBut w w' g none := by
  have HI0 := Aside0.mk hI
  have HK := Aside0.mk (KeepBut.refl w g none)
  have HW0 := Aside0.mk hB.size
  have HB := Aside0.mk hB
  have HC := Aside0.mk (fun W => run_bytes_of_string (P := Tryz.prog) W 9 25 5 a1 Tryz.underlying9 Tryz.underlying25 Tryz.underlying5)
  clear hI hB
  have b0 : ((a1.size : Int) == 0) = false := beq_eq_false_iff_ne.2 (by omega)
  have A1 := Aside0.mk (fun W h1 h2 => spec_l00Src_pick.calls g s0_0 s0_1 s0_2 (a1.size : Int) p i1 t1 w0 W h1 h2 e1)
  have A2 := Aside0.mk (fun W h1 h2 => spec_l00Src_pick.calls g s0_0 i1 t1 4 1 i2 t2 w0 W h1 h2 e2)
  have P0 := Aside0.mk p0
  have P1 := Aside0.mk p1
  have HZ := Aside0.mk hz2
  obtain ⟨i5, hi5, hz5, hs5, hb5⟩ := byt_info (P := Tryz.prog) (e := 5) (by kernel_rfl)
  have I1 := Aside0.mk hi5
  have I2 := Aside0.mk hz5
  have I3 := Aside0.mk hs5
  have I4 := Aside0.mk hb5
  clear e1 e2 hz hz2 p0 p1 hi5 hz5 hs5 hb5
  go_enter Tryz.func60, Tryz.ntmps60
  go_upto_region 9 with (first
    | (((with_reducible refine gate_dst (N := 8) rfl ?_); refine byt_event ?hg (N := 8) ?hd 9 25 5 a1 ?hr ?_; (case hd => rfl); (case hg => rfl); (case hr => go_simp; first | done | (simp only [HC.out]; rfl) | (simp [HC.out]; rfl) | simp [HC.out])); intro gb cb cur wb hgb hcb hcm hcs htk hbk hb; have NE := Aside0.mk (show g ≠ gb from by rw [hgb]; exact Nat.ne_of_lt (IsS119.lt (show IsS119 w0 _ g s0_0 s0_1 s0_2 from (by repeat (first | (with_reducible first | exact HI0.out | apply IsS119.alloc | apply IsS119.drewN | apply IsS119.drew) | exact HI0.out))))); have GW := Aside0.mk (show w.heap.size ≤ gb from by rw [hgb]; exact keep_size (by repeat (first | (with_reducible first | exact HK.out | apply keep_drewN | apply keep_drew | apply keep_alloc) | exact HK.out))); have GE := Aside0.mk (show w0.heap.size ≤ gb from Nat.le_trans HW0.out GW.out); have n1_ := Aside0.mk (IsS119.below (by repeat (first | (with_reducible first | exact HI0.out | apply IsS119.alloc | apply IsS119.drewN | apply IsS119.drew) | exact HI0.out)) hb); have n2_ := Aside0.mk (KeepBut.trans (by repeat (first | (with_reducible first | exact HK.out | apply keep_drewN | apply keep_drew | apply keep_alloc) | exact HK.out)) (KeepBut.of_below hb g none) (.inl rfl)); have n3_ := Aside0.mk (below_step (by repeat (first | (with_reducible first | exact HB.out | apply below_alloc | apply pw_below_drewN | apply below_drew1) | exact HB.out)) hb); clear HI0 HK HB; have HI0 := n1_; have HK := n2_; have HB := n3_; have BK := Aside0.mk hbk; have CB := Aside0.mk hcb; have CS := Aside0.mk hcs; have TK := Aside0.mk htk; clear n1_ n2_ n3_ hb hbk hcb hcs htk hgb hcm)
    | (go_at_call 57; (with_reducible refine (A1.out _ ?h1 ?h2).mono ?_); (case h1 => exact (by repeat (first | (with_reducible first | exact HI0.out | apply IsS119.alloc | apply IsS119.drewN | apply IsS119.drew) | exact HI0.out))); (case h2 => exact (by repeat (first | (with_reducible first | exact HB.out | apply below_alloc | apply pw_below_drewN | apply below_drew1) | exact HB.out))); rintro e w1 ⟨rfl, hi, hb, hk⟩; have n1_ := Aside0.mk (KeepBut.blk hk (by (with_reducible repeat (first | refine blk_drewN ?_ _ | refine blk_drew ?_ | refine blk_alloc ?_ _)); exact BK.out) (Ne.symm NE.out) (by simp)); have n2_ := Aside0.mk (KeepBut.trans (by repeat (first | (with_reducible first | exact HK.out | apply keep_drewN | apply keep_drew | apply keep_alloc) | exact HK.out)) hk (.inl rfl)); have n3_ := Aside0.mk hb; have n4_ := Aside0.mk hi; clear BK HK HB HI0; have BK := n1_; have HK := n2_; have HB := n3_; have HI0 := n4_; clear n1_ n2_ n3_ n4_ hb hk hi)
    | (go_at_call 57; (with_reducible refine (A2.out _ ?h1 ?h2).mono ?_); (case h1 => exact (by repeat (first | (with_reducible first | exact HI0.out | apply IsS119.alloc | apply IsS119.drewN | apply IsS119.drew) | exact HI0.out))); (case h2 => exact (by repeat (first | (with_reducible first | exact HB.out | apply below_alloc | apply pw_below_drewN | apply below_drew1) | exact HB.out))); rintro e w2 ⟨rfl, hi, hb, hk⟩; have n1_ := Aside0.mk (KeepBut.blk hk (by (with_reducible repeat (first | refine blk_drewN ?_ _ | refine blk_drew ?_ | refine blk_alloc ?_ _)); exact BK.out) (Ne.symm NE.out) (by simp)); have n2_ := Aside0.mk (KeepBut.trans (by repeat (first | (with_reducible first | exact HK.out | apply keep_drewN | apply keep_drew | apply keep_alloc) | exact HK.out)) hk (.inl rfl)); have n3_ := Aside0.mk hb; have n4_ := Aside0.mk hi; clear BK HK HB HI0; have BK := n1_; have HK := n2_; have HB := n3_; have HI0 := n4_; clear n1_ n2_ n3_ n4_ hb hk hi; have hcut := cut_to (P := Tryz.prog) 25 5 .i64 Tryz.underlying25 (i := i5) I1.out (some ⟨gb, 0, none⟩) a1.size cb p P0.out (by have := P1.out; omega) CB.out; obtain ⟨ad, had, hfrom⟩ := byt_from (P := Tryz.prog) 25 5 Tryz.underlying25 I1.out I3.out (g := gb) (n := a1.size) (c := cb) P0.out P1.out HZ.out; have AD := Aside0.mk had; clear had))
  go_region_held3 (fun _ => True) (trivial) (first | (obtain ⟨g', c', w', hr, hc, hgr⟩ := byt_less (P := Tryz.prog) 25 25 5 Tryz.underlying25 I1.out I2.out I3.out I4.out (W := w2.drew) BK.out CS.out CB.out TK.out HZ.out (k := p.toNat) (by have := P0.out; have := P1.out; omega) AD.out (cb - (p.toNat + 1)); refine byt_app_step (by rfl) _ _ _ (by rfl) (by rfl) (by rfl) hr ?_; have hback := byt_back (P := Tryz.prog) 25 9 5 Tryz.underlying25 Tryz.underlying5 Tryz.underlying9 (g := g') (c := c') (l := a1.data.toList.take p.toNat ++ a1.data.toList.drop (p.toNat + 1)) (n := p.toNat + (a1.size - (p.toNat + 1))) (W := w') (by rw [List.length_append, List.length_take, List.length_drop, byt_size]; have := P0.out; have := P1.out; omega) hc; have n1_ := Aside0.mk (IsS119.grown (by repeat (first | (with_reducible first | exact HI0.out | apply IsS119.alloc | apply IsS119.drewN | apply IsS119.drew) | exact HI0.out)) hgr (fun h => NE.out (Option.some.inj h))); have n2_ := Aside0.mk (KeepBut.trans (by repeat (first | (with_reducible first | exact HK.out | apply keep_drewN | apply keep_drew | apply keep_alloc) | exact HK.out)) (KeepBut.of_grown hgr g) (.inr ⟨gb, rfl, GW.out⟩)); have n3_ := Aside0.mk (Below.grown (by repeat (first | (with_reducible first | exact HB.out | apply below_alloc | apply pw_below_drewN | apply below_drew1) | exact HB.out)) hgr (HB.out.size) (fun k hk => by rw [← Option.some.inj hk]; exact GE.out)); clear HI0 HK HB; have HI0 := n1_; have HK := n2_; have HB := n3_; clear n1_ n2_ n3_ hgr; clear hr hc))
  all_goals go_wp2
  all_goals go_ret
  all_goals exact ⟨rfl, (by repeat (first | (with_reducible first | exact HI0.out | apply IsS119.alloc | apply IsS119.drewN | apply IsS119.drew) | exact HI0.out)), (by repeat (first | (with_reducible first | exact HB.out | apply below_alloc | apply pw_below_drewN | apply below_drew1) | exact HB.out)), (by repeat (first | (with_reducible first | exact HK.out | apply keep_drewN | apply keep_drew | apply keep_alloc) | exact HK.out))⟩
set_option maxHeartbeats 3200000 in
set_option maxRecDepth 100000 in
theorem spec_l01Spoil.ce (g : Nat) (s0_0 : List Int) (s0_1 s0_2 : Int) (a1 r : ByteArray) (i1 t1 : Int) (w0 w : World) (hI : IsS119 w0 w g s0_0 s0_1 s0_2) (hB : Below w0.heap.size w0 w) (hz : a1.size = 0) (e1 : spec_l00Src_text.f s0_0 s0_1 s0_2 ([(⟨#[]⟩ : ByteArray), (⟨#[32]⟩ : ByteArray), (⟨#[120]⟩ : ByteArray), (⟨#[10]⟩ : ByteArray)] : List ByteArray) = some (r, i1, t1)) :
    Calls Tryz.prog 60 #[.pointer (some ⟨g, 0, none⟩), .string a1] w fun e w' => e = .returned (.string r) ∧ IsS119 w0 w' g s0_0 i1 t1 ∧ Below w0.heap.size w0 w' ∧ KeepBut w w' g none := by
  have HI0 := Aside0.mk hI
  have HK := Aside0.mk (KeepBut.refl w g none)
  have HW0 := Aside0.mk hB.size
  have HB := Aside0.mk hB
  have HC := Aside0.mk (fun W => run_bytes_of_string (P := Tryz.prog) W 9 25 5 a1 Tryz.underlying9 Tryz.underlying25 Tryz.underlying5)
  clear hI hB
  have b0 : ((a1.size : Int) == 0) = true := beq_iff_eq.2 (by omega)
  have b1 : (a1.size == 0) = true := beq_iff_eq.2 hz
  obtain ⟨y, hy⟩ : ∃ y_ : List ByteArray, y_ = ([(⟨#[]⟩ : ByteArray), (⟨#[32]⟩ : ByteArray), (⟨#[120]⟩ : ByteArray), (⟨#[10]⟩ : ByteArray)] : List ByteArray) := ⟨_, rfl⟩
  rw [← hy] at e1
  have Ny := Aside0.mk hy
  clear hy
  have A3 := Aside0.mk (fun W A1 c1 h1 h2 hr1 hc1 hf1 => spec_l00Src_text.calls g s0_0 s0_1 s0_2 A1 c1 y r i1 t1 w0 W h1 h2 hr1 hc1 hf1 e1)
  clear e1 hz
  go_enter Tryz.func60, Tryz.ntmps60
  go_wp2_with (first
    | (((with_reducible refine gate_dst (N := 8) rfl ?_); refine byt_event ?hg (N := 8) ?hd 9 25 5 a1 ?hr ?_; (case hd => rfl); (case hg => rfl); (case hr => go_simp; first | done | (simp only [HC.out]; rfl) | (simp [HC.out]; rfl) | simp [HC.out])); intro gb cb cur wb hgb hcb hcm hcs htk hbk hb; have NE := Aside0.mk (show g ≠ gb from by rw [hgb]; exact Nat.ne_of_lt (IsS119.lt (show IsS119 w0 _ g s0_0 s0_1 s0_2 from (by repeat (first | (with_reducible first | exact HI0.out | apply IsS119.alloc | apply IsS119.drewN | apply IsS119.drew) | exact HI0.out))))); have GW := Aside0.mk (show w.heap.size ≤ gb from by rw [hgb]; exact keep_size (by repeat (first | (with_reducible first | exact HK.out | apply keep_drewN | apply keep_drew | apply keep_alloc) | exact HK.out))); have GE := Aside0.mk (show w0.heap.size ≤ gb from Nat.le_trans HW0.out GW.out); have n1_ := Aside0.mk (IsS119.below (by repeat (first | (with_reducible first | exact HI0.out | apply IsS119.alloc | apply IsS119.drewN | apply IsS119.drew) | exact HI0.out)) hb); have n2_ := Aside0.mk (KeepBut.trans (by repeat (first | (with_reducible first | exact HK.out | apply keep_drewN | apply keep_drew | apply keep_alloc) | exact HK.out)) (KeepBut.of_below hb g none) (.inl rfl)); have n3_ := Aside0.mk (below_step (by repeat (first | (with_reducible first | exact HB.out | apply below_alloc | apply pw_below_drewN | apply below_drew1) | exact HB.out)) hb); clear HI0 HK HB; have HI0 := n1_; have HK := n2_; have HB := n3_; have BK := Aside0.mk hbk; have CB := Aside0.mk hcb; have CS := Aside0.mk hcs; have TK := Aside0.mk htk; clear n1_ n2_ n3_ hb hbk hcb hcs htk hgb hcm)
    | ((with_reducible refine gate_dst (N := 13) rfl ?_); refine Kd.R_lit Kd.string _ 9 ?hg (N := 13) ?hd (xs := ([(⟨#[]⟩ : ByteArray), (⟨#[32]⟩ : ByteArray), (⟨#[120]⟩ : ByteArray), (⟨#[10]⟩ : ByteArray)] : List ByteArray)) (inner := [.string (⟨#[]⟩ : ByteArray), .string (⟨#[32]⟩ : ByteArray), .string (⟨#[120]⟩ : ByteArray), .string (⟨#[10]⟩ : ByteArray)]) (ok := fun _ => True) (okp := fun _ => True) ?hr ?hp (fun _ hk => hk) trivial (Below.refl _ _) (Nat.le_refl _) (by simp) ?_; (case hd => rfl); (case hg => rfl); (case hr => first | (go_simp; done) | (go_simp; rfl)); (case hp => exact (Reps.one (show Kd.M Kd.string _ _ _ (⟨#[]⟩ : ByteArray) [.string (⟨#[]⟩ : ByteArray)] from rfl) (Reps.one (show Kd.M Kd.string _ _ _ (⟨#[32]⟩ : ByteArray) [.string (⟨#[32]⟩ : ByteArray)] from rfl) (Reps.one (show Kd.M Kd.string _ _ _ (⟨#[120]⟩ : ByteArray) [.string (⟨#[120]⟩ : ByteArray)] from rfl) (Reps.one (show Kd.M Kd.string _ _ _ (⟨#[10]⟩ : ByteArray) [.string (⟨#[10]⟩ : ByteArray)] from rfl) (Reps.none _ _)))))); intro v102 wl ho4 hb hg_ hnew_; clear hg_ hnew_; (first | rw [← Ny.out] at ho4 | (simp only [Int.reduceToNat] at ho4; rw [← Ny.out] at ho4)); have n1_ := Aside0.mk (IsS119.below (by repeat (first | (with_reducible first | exact HI0.out | apply IsS119.alloc | apply IsS119.drewN | apply IsS119.drew) | exact HI0.out)) hb); have n2_ := Aside0.mk (KeepBut.trans (by repeat (first | (with_reducible first | exact HK.out | apply keep_drewN | apply keep_drew | apply keep_alloc) | exact HK.out)) (KeepBut.of_below hb g none) (.inl rfl)); have n3_ := Aside0.mk (below_step (by repeat (first | (with_reducible first | exact HB.out | apply below_alloc | apply pw_below_drewN | apply below_drew1) | exact HB.out)) hb); have n4_ := Aside0.mk (blk_below (by (with_reducible repeat (first | refine blk_drewN ?_ _ | refine blk_drew ?_ | refine blk_alloc ?_ _)); exact BK.out) hb); have n5_ := Aside0.mk ho4; clear HI0 HK HB BK; have HI0 := n1_; have HK := n2_; have HB := n3_; have BK := n4_; have HO := n5_; clear n1_ n2_ n3_ n4_ n5_ hb ho4; obtain ⟨Ao, co, eo⟩ := Kd.R_slice HO.out; subst eo)
    | (go_at_call 99; (with_reducible refine (A3.out _ _ _ ?h1 ?h2 ?h3 ?h4 ?h5).mono ?_); (case h1 => exact (by repeat (first | (with_reducible first | exact HI0.out | apply IsS119.alloc | apply IsS119.drewN | apply IsS119.drew) | exact HI0.out))); (case h2 => exact (by repeat (first | (with_reducible first | exact HB.out | apply below_alloc | apply pw_below_drewN | apply below_drew1) | exact HB.out))); (case h3 => repeat (first | exact (Kd.R_reads' HO.out).2.2 | (with_reducible refine Kd.C_alloc ?_ _) | (with_reducible refine Kd.C_drewN ?_ _) | (with_reducible refine Kd.C_drew ?_))); (case h4 => exact (Kd.R_reads' HO.out).2.1); (case h5 => exact far_slice (IsS119.own_ne HI0.out HO.out (by decide))); rintro e w3 ⟨rfl, hi, hb, hk⟩; have n1_ := Aside0.mk (KeepBut.blk hk (by (with_reducible repeat (first | refine blk_drewN ?_ _ | refine blk_drew ?_ | refine blk_alloc ?_ _)); exact BK.out) (Ne.symm NE.out) (by simp)); have n2_ := Aside0.mk (KeepBut.trans (by repeat (first | (with_reducible first | exact HK.out | apply keep_drewN | apply keep_drew | apply keep_alloc) | exact HK.out)) hk (.inl rfl)); have n3_ := Aside0.mk hb; have n4_ := Aside0.mk hi; clear BK HK HB HI0; have BK := n1_; have HK := n2_; have HB := n3_; have HI0 := n4_; clear n1_ n2_ n3_ n4_ hb hk hi))
  go_ret
  exact ⟨rfl, (by repeat (first | (with_reducible first | exact HI0.out | apply IsS119.alloc | apply IsS119.drewN | apply IsS119.drew) | exact HI0.out)), (by repeat (first | (with_reducible first | exact HB.out | apply below_alloc | apply pw_below_drewN | apply below_drew1) | exact HB.out)), (by repeat (first | (with_reducible first | exact HK.out | apply keep_drewN | apply keep_drew | apply keep_alloc) | exact HK.out))⟩
theorem spec_l01Spoil.calls (g : Nat) (s0_0 : List Int) (s0_1 : Int) (s0_2 : Int) (a1 : ByteArray) (r1 : ByteArray) (r2 : Int) (r3 : Int) (w0 w : World) (hI : IsS119 w0 w g s0_0 s0_1 s0_2) (hB : Below w0.heap.size w0 w) (h : spec_l01Spoil.f s0_0 s0_1 s0_2 a1 = some (r1, r2, r3)) :
    Calls Tryz.prog 60 #[.pointer (some ⟨g, 0, none⟩), .string a1] w fun e w' => e = .returned (.string r1) ∧ IsS119 w0 w' g s0_0 r2 r3 ∧ Below w0.heap.size w0 w' ∧ KeepBut w w' g none := by
  unfold spec_l01Spoil.f at h
  by_cases hz : a1.size = 0
  · rw [if_pos hz] at h
    exact spec_l01Spoil.ce g s0_0 s0_1 s0_2 a1 r1 r2 r3 w0 w hI hB hz h
  rw [if_neg hz] at h
  by_cases hz2 : 1048576 < a1.size
  · rw [if_pos hz2] at h; cases h
  rw [if_neg hz2] at h
  obtain ⟨⟨p, i1, t1⟩, e1, h⟩ := Option.bind_eq_some_iff.1 h
  replace h : (if 0 ≤ p ∧ p < (a1.size : Int) then _ else none) = _ := h
  by_cases hp : 0 ≤ p ∧ p < (a1.size : Int)
  rotate_left
  · rw [if_neg hp] at h; cases h
  rw [if_pos hp] at h
  obtain ⟨⟨q, i2, t2⟩, e2, h⟩ := Option.bind_eq_some_iff.1 h
  replace h : (if q = 0 then _ else _) = _ := h
  by_cases q0 : q = 0
  · rw [if_pos q0] at h
    subst q0
    obtain ⟨⟨c, i3, t3⟩, e3, h⟩ := Option.bind_eq_some_iff.1 h
    simp only [Option.some.injEq, Prod.mk.injEq] at h
    obtain ⟨rfl, rfl, rfl⟩ := h
    exact spec_l01Spoil.c0 g s0_0 s0_1 s0_2 a1 p i1 t1 i2 t2 c _ _ w0 w hI hB hz (by omega) e1 hp.1 hp.2 e2 e3
  rw [if_neg q0] at h
  by_cases q1 : q = 1
  · rw [if_pos q1] at h
    subst q1
    simp only [Option.some.injEq, Prod.mk.injEq] at h
    obtain ⟨rfl, rfl, rfl⟩ := h
    exact spec_l01Spoil.c1 g s0_0 s0_1 s0_2 a1 p i1 t1 _ _ w0 w hI hB hz (by omega) e1 hp.1 hp.2 e2
  rw [if_neg q1] at h
  by_cases q2 : q = 2
  · rw [if_pos q2] at h
    subst q2
    obtain ⟨⟨c, i3, t3⟩, e3, h⟩ := Option.bind_eq_some_iff.1 h
    simp only [Option.some.injEq, Prod.mk.injEq] at h
    obtain ⟨rfl, rfl, rfl⟩ := h
    exact spec_l01Spoil.c2 g s0_0 s0_1 s0_2 a1 p i1 t1 i2 t2 c _ _ w0 w hI hB hz (by omega) e1 hp.1 hp.2 e2 e3
  rw [if_neg q2] at h
  by_cases q3 : q = 3
  · rw [if_pos q3] at h
    subst q3
    simp only [Option.some.injEq, Prod.mk.injEq] at h
    obtain ⟨rfl, rfl, rfl⟩ := h
    exact spec_l01Spoil.c3 g s0_0 s0_1 s0_2 a1 p i1 t1 _ _ w0 w hI hB hz (by omega) e1 hp.1 hp.2 e2
  rw [if_neg q3] at h; cases h

def spec_l26DrawText.f (k : Nat) (s0_0 : List Int) (s0_1 : Int) (s0_2 : Int) : Option (Int × Int × ByteArray × Int × Int) := (spec_l26DrawScript.f s0_0 s0_1 s0_2).bind fun bt101 => ((spec_l26DrawKey.f s0_0 bt101.2.1 bt101.2.2).bind fun bt104 => ((spec_l09Draw.f k s0_0 bt104.2.1 bt104.2.2).bind fun bt107 => ((spec_l26Script.f bt101.1 bt104.1).bind fun t112 => (if t112 = true then ((spec_l26Notes.f k bt101.1 bt104.1 bt107.1).bind fun t113 => ((spec_l00Src_one.f s0_0 bt107.2.1 bt107.2.2 5).bind fun bt114 => (if bt114.1 = true then ((spec_l01Spoil.f s0_0 bt114.2.1 bt114.2.2 t113).bind fun bt117 => (some (bt101.1, bt104.1, bt117.1, bt117.2.1, bt117.2.2))) else (some (bt101.1, bt104.1, t113, bt114.2.1, bt114.2.2))))) else (some (bt101.1, bt104.1, (⟨#[83, 58, 49]⟩ : ByteArray), bt107.2.1, bt107.2.2))))))
set_option maxHeartbeats 8000000 in
set_option maxRecDepth 100000 in
theorem spec_l26DrawText.calls (k : Nat) (g : Nat) (s0_0 : List Int) (s0_1 : Int) (s0_2 : Int) (r1 : Int) (r2 : Int) (r3 : ByteArray) (r4 : Int) (r5 : Int) (w0 w : World) (hI : IsS119 w0 w g s0_0 s0_1 s0_2) (hB : Below w0.heap.size w0 w) (h : spec_l26DrawText.f k s0_0 s0_1 s0_2 = some (r1, r2, r3, r4, r5)) :
    Calls Tryz.prog 53 #[.pointer (some ⟨g, 0, none⟩)] w fun e w' => e = .returned (.tuple #[.int .i64 r1, .int .i64 r2, .string r3]) ∧ IsS119 w0 w' g s0_0 r4 r5 ∧ Below w0.heap.size w0 w' ∧ KeepBut w w' g none := by
  have HI0 := Aside0.mk hI
  have HK := Aside0.mk (KeepBut.refl w g none)
  have HL := Aside0.mk hB.size
  clear hI
  have HW0 := Aside0.mk hB.size
  have HB := Aside0.mk hB
  clear hB
  have H : ((spec_l26DrawScript.f s0_0 s0_1 s0_2).bind fun bt101 => ((spec_l26DrawKey.f s0_0 bt101.2.1 bt101.2.2).bind fun bt104 => ((spec_l09Draw.f k s0_0 bt104.2.1 bt104.2.2).bind fun bt107 => ((spec_l26Script.f bt101.1 bt104.1).bind fun t112 => (if t112 = true then ((spec_l26Notes.f k bt101.1 bt104.1 bt107.1).bind fun t113 => ((spec_l00Src_one.f s0_0 bt107.2.1 bt107.2.2 5).bind fun bt114 => (if bt114.1 = true then ((spec_l01Spoil.f s0_0 bt114.2.1 bt114.2.2 t113).bind fun bt117 => (some (bt101.1, bt104.1, bt117.1, bt117.2.1, bt117.2.2))) else (some (bt101.1, bt104.1, t113, bt114.2.1, bt114.2.2))))) else (some (bt101.1, bt104.1, (⟨#[83, 58, 49]⟩ : ByteArray), bt107.2.1, bt107.2.2))))))) = some (r1, r2, r3, r4, r5) := h
  clear h
  replace H := Option.bind_eq_some_iff.mp H
  obtain ⟨⟨t101, t102, t103⟩, A20, H⟩ := H
  replace H : ((spec_l26DrawKey.f s0_0 t102 t103).bind fun bt104 => ((spec_l09Draw.f k s0_0 bt104.2.1 bt104.2.2).bind fun bt107 => ((spec_l26Script.f t101 bt104.1).bind fun t112 => (if t112 = true then ((spec_l26Notes.f k t101 bt104.1 bt107.1).bind fun t113 => ((spec_l00Src_one.f s0_0 bt107.2.1 bt107.2.2 5).bind fun bt114 => (if bt114.1 = true then ((spec_l01Spoil.f s0_0 bt114.2.1 bt114.2.2 t113).bind fun bt117 => (some (t101, bt104.1, bt117.1, bt117.2.1, bt117.2.2))) else (some (t101, bt104.1, t113, bt114.2.1, bt114.2.2))))) else (some (t101, bt104.1, (⟨#[83, 58, 49]⟩ : ByteArray), bt107.2.1, bt107.2.2)))))) = some (r1, r2, r3, r4, r5) := H
  have A2 := Aside0.mk A20
  clear A20
  replace H := Option.bind_eq_some_iff.mp H
  obtain ⟨⟨t104, t105, t106⟩, A30, H⟩ := H
  replace H : ((spec_l09Draw.f k s0_0 t105 t106).bind fun bt107 => ((spec_l26Script.f t101 t104).bind fun t112 => (if t112 = true then ((spec_l26Notes.f k t101 t104 bt107.1).bind fun t113 => ((spec_l00Src_one.f s0_0 bt107.2.1 bt107.2.2 5).bind fun bt114 => (if bt114.1 = true then ((spec_l01Spoil.f s0_0 bt114.2.1 bt114.2.2 t113).bind fun bt117 => (some (t101, t104, bt117.1, bt117.2.1, bt117.2.2))) else (some (t101, t104, t113, bt114.2.1, bt114.2.2))))) else (some (t101, t104, (⟨#[83, 58, 49]⟩ : ByteArray), bt107.2.1, bt107.2.2))))) = some (r1, r2, r3, r4, r5) := H
  have A3 := Aside0.mk A30
  clear A30
  replace H := Option.bind_eq_some_iff.mp H
  obtain ⟨⟨t107, t110, t111⟩, A40, H⟩ := H
  replace H : ((spec_l26Script.f t101 t104).bind fun t112 => (if t112 = true then ((spec_l26Notes.f k t101 t104 t107).bind fun t113 => ((spec_l00Src_one.f s0_0 t110 t111 5).bind fun bt114 => (if bt114.1 = true then ((spec_l01Spoil.f s0_0 bt114.2.1 bt114.2.2 t113).bind fun bt117 => (some (t101, t104, bt117.1, bt117.2.1, bt117.2.2))) else (some (t101, t104, t113, bt114.2.1, bt114.2.2))))) else (some (t101, t104, (⟨#[83, 58, 49]⟩ : ByteArray), t110, t111)))) = some (r1, r2, r3, r4, r5) := H
  have A4 := Aside0.mk A40
  clear A40
  replace H := Option.bind_eq_some_iff.mp H
  obtain ⟨t112, A50, H⟩ := H
  replace H : (if t112 = true then ((spec_l26Notes.f k t101 t104 t107).bind fun t113 => ((spec_l00Src_one.f s0_0 t110 t111 5).bind fun bt114 => (if bt114.1 = true then ((spec_l01Spoil.f s0_0 bt114.2.1 bt114.2.2 t113).bind fun bt117 => (some (t101, t104, bt117.1, bt117.2.1, bt117.2.2))) else (some (t101, t104, t113, bt114.2.1, bt114.2.2))))) else (some (t101, t104, (⟨#[83, 58, 49]⟩ : ByteArray), t110, t111))) = some (r1, r2, r3, r4, r5) := H
  have A5 := Aside0.mk A50
  clear A50
  by_cases c6 : t112 = true
  · subst c6
    have H1 : ((spec_l26Notes.f k t101 t104 t107).bind fun t113 => ((spec_l00Src_one.f s0_0 t110 t111 5).bind fun bt114 => (if bt114.1 = true then ((spec_l01Spoil.f s0_0 bt114.2.1 bt114.2.2 t113).bind fun bt117 => (some (t101, t104, bt117.1, bt117.2.1, bt117.2.2))) else (some (t101, t104, t113, bt114.2.1, bt114.2.2))))) = some (r1, r2, r3, r4, r5) := by rw [if_pos rfl] at H; exact H
    clear H
    have H := H1
    clear H1
    replace H := Option.bind_eq_some_iff.mp H
    obtain ⟨t113, A70, H⟩ := H
    replace H : ((spec_l00Src_one.f s0_0 t110 t111 5).bind fun bt114 => (if bt114.1 = true then ((spec_l01Spoil.f s0_0 bt114.2.1 bt114.2.2 t113).bind fun bt117 => (some (t101, t104, bt117.1, bt117.2.1, bt117.2.2))) else (some (t101, t104, t113, bt114.2.1, bt114.2.2)))) = some (r1, r2, r3, r4, r5) := H
    have A7 := Aside0.mk A70
    clear A70
    replace H := Option.bind_eq_some_iff.mp H
    obtain ⟨⟨t114, t115, t116⟩, A80, H⟩ := H
    replace H : (if t114 = true then ((spec_l01Spoil.f s0_0 t115 t116 t113).bind fun bt117 => (some (t101, t104, bt117.1, bt117.2.1, bt117.2.2))) else (some (t101, t104, t113, t115, t116))) = some (r1, r2, r3, r4, r5) := H
    have A8 := Aside0.mk A80
    clear A80
    by_cases c9 : t114 = true
    · subst c9
      have H1 : ((spec_l01Spoil.f s0_0 t115 t116 t113).bind fun bt117 => (some (t101, t104, bt117.1, bt117.2.1, bt117.2.2))) = some (r1, r2, r3, r4, r5) := by rw [if_pos rfl] at H; exact H
      clear H
      have H := H1
      clear H1
      replace H := Option.bind_eq_some_iff.mp H
      obtain ⟨⟨t117, t118, t119⟩, A100, H⟩ := H
      replace H : (some (t101, t104, t117, t118, t119)) = some (r1, r2, r3, r4, r5) := H
      have A10 := Aside0.mk A100
      clear A100
      simp only [Option.some.injEq, Prod.mk.injEq] at H
      obtain ⟨rfl, rfl, rfl, rfl, rfl⟩ := H
      go_enter Tryz.func53, Tryz.ntmps53
      go_wp2_with (first | ((with_reducible refine gate_callee (f := 54) rfl ?_); refine goesL_ (some 10) rfl rfl Tryz.func54 (by kernel_rfl) rfl #[.pointer (some ⟨g, 0, none⟩)] rfl (by (try simp only [List.map_toArray, List.map_cons, List.map_nil]); first | done | rfl | (simp only [List.length_drop, List.length_take]; rfl)) ?_; (with_reducible refine (spec_l26DrawScript.calls g s0_0 s0_1 s0_2 t101 t102 t103 w0 _ ?side1 ?side2 A2.out).mono ?_); (case side1 => repeat (first | (with_reducible first | exact HI0.out | apply IsS119.alloc | apply IsS119.drewN | apply IsS119.drew | apply IsS119.set_1 | apply IsS119.set_2) | exact HI0.out)); (case side2 => repeat (first | (with_reducible first | exact HB.out | apply below_alloc | apply pw_below_drewN | apply below_drew1 | refine below_set ?_ (IsS119.ge HI0.out)) | exact HB.out)); rintro e w11 ⟨rfl, hi, hb, hk⟩; refine ⟨_, rfl, ?_⟩; have n0_ := Aside0.mk (KeepBut.trans (by repeat (first | (with_reducible first | exact HK.out | apply KeepBut.set_ | apply keep_drewN | apply keep_drew | apply keep_alloc) | exact HK.out)) hk (.inl rfl)); have n1_ := Aside0.mk (hb); have n2_ := Aside0.mk (hi); clear HK; clear HB; clear HI0; have HK := n0_; have HB := n1_; have HI0 := n2_; clear n0_ n1_ n2_; (try clear hb); (try clear hb2); (try clear hk); (try clear hi)) | ((with_reducible refine gate_callee (f := 55) rfl ?_); refine goesL_ (some 12) rfl rfl Tryz.func55 (by kernel_rfl) rfl #[.pointer (some ⟨g, 0, none⟩)] rfl (by (try simp only [List.map_toArray, List.map_cons, List.map_nil]); first | done | rfl | (simp only [List.length_drop, List.length_take]; rfl)) ?_; (with_reducible refine (spec_l26DrawKey.calls g s0_0 t102 t103 t104 t105 t106 w0 _ ?side1 ?side2 A3.out).mono ?_); (case side1 => repeat (first | (with_reducible first | exact HI0.out | apply IsS119.alloc | apply IsS119.drewN | apply IsS119.drew | apply IsS119.set_1 | apply IsS119.set_2) | exact HI0.out)); (case side2 => repeat (first | (with_reducible first | exact HB.out | apply below_alloc | apply pw_below_drewN | apply below_drew1 | refine below_set ?_ (IsS119.ge HI0.out)) | exact HB.out)); rintro e w12 ⟨rfl, hi, hb, hk⟩; refine ⟨_, rfl, ?_⟩; have n0_ := Aside0.mk (KeepBut.trans (by repeat (first | (with_reducible first | exact HK.out | apply KeepBut.set_ | apply keep_drewN | apply keep_drew | apply keep_alloc) | exact HK.out)) hk (.inl rfl)); have n1_ := Aside0.mk (hb); have n2_ := Aside0.mk (hi); clear HK; clear HB; clear HI0; have HK := n0_; have HB := n1_; have HI0 := n2_; clear n0_ n1_ n2_; (try clear hb); (try clear hb2); (try clear hk); (try clear hi)) | ((with_reducible refine gate_callee (f := 58) rfl ?_); refine goesL_ (some 14) rfl rfl Tryz.func58 (by kernel_rfl) rfl #[.pointer (some ⟨g, 0, none⟩)] rfl (by (try simp only [List.map_toArray, List.map_cons, List.map_nil]); first | done | rfl | (simp only [List.length_drop, List.length_take]; rfl)) ?_; (with_reducible refine (spec_l09Draw.calls k g s0_0 t105 t106 t107 t110 t111 w0 _ ?side1 ?side2 A4.out).mono ?_); (case side1 => repeat (first | (with_reducible first | exact HI0.out | apply IsS119.alloc | apply IsS119.drewN | apply IsS119.drew | apply IsS119.set_1 | apply IsS119.set_2) | exact HI0.out)); (case side2 => repeat (first | (with_reducible first | exact HB.out | apply below_alloc | apply pw_below_drewN | apply below_drew1 | refine below_set ?_ (IsS119.ge HI0.out)) | exact HB.out)); rintro e w13 ⟨v108, rfl, ho0, hi, hb, hk⟩; refine ⟨_, rfl, ?_⟩; have n0_ := Aside0.mk (Kd.R_lower ho0 (keep_size (w := w) (g := g) (row := none) (by repeat (first | (with_reducible first | exact HK.out | apply KeepBut.set_ | apply keep_drewN | apply keep_drew | apply keep_alloc) | exact HK.out)))); have n1_ := Aside0.mk (KeepBut.trans (by repeat (first | (with_reducible first | exact HK.out | apply KeepBut.set_ | apply keep_drewN | apply keep_drew | apply keep_alloc) | exact HK.out)) hk (.inl rfl)); have n2_ := Aside0.mk (hb); have n3_ := Aside0.mk (hi); clear HK; clear HB; clear HI0; have HO109 := n0_; have HK := n1_; have HB := n2_; have HI0 := n3_; clear n0_ n1_ n2_ n3_; (try clear hb); (try clear hb2); (try clear hk); (try clear hi); (try clear ho0)) | ((with_reducible refine gate_callee (f := 42) rfl ?_); refine goesL_ (some 17) rfl rfl Tryz.func42 (by kernel_rfl) rfl #[.int .i64 t101, .int .i64 t104] rfl (by (try simp only [List.map_toArray, List.map_cons, List.map_nil]); first | done | rfl | (simp only [List.length_drop, List.length_take]; rfl)) ?_; (with_reducible refine (spec_l26Script.calls t101 t104 true _ A5.out).mono ?_); rintro e w' ⟨rfl, ⟨nd, rfl⟩⟩; refine ⟨_, rfl, ?_⟩; obtain ⟨Ao14, co14, eo14⟩ := Kd.R_slice HO109.out; subst eo14) | ((with_reducible refine gate_callee (f := 45) rfl ?_); refine goesL_ (some 24) rfl rfl Tryz.func45 (by kernel_rfl) rfl #[.int .i64 t101, .int .i64 t104, .slice Ao14 t107.length co14] rfl (by (try simp only [List.map_toArray, List.map_cons, List.map_nil]); first | done | rfl | (simp only [List.length_drop, List.length_take]; rfl)) ?_; (with_reducible refine (spec_l26Notes.calls k t101 t104 _ _ t107 t113 _ ?side1 ?side2 A7.out).mono ?_); (case side1 => repeat (first | exact (Kd.R_reads' HO109.out).2.2 | (with_reducible refine Kd.C_alloc ?_ _) | (with_reducible refine Kd.C_drewN ?_ _) | (with_reducible refine Kd.C_drew ?_))); (case side2 => exact (Kd.R_reads' HO109.out).2.1); rintro e w15 ⟨rfl, hb⟩; refine ⟨_, rfl, ?_⟩; have n0_ := Aside0.mk (Kd.R_below (by (with_reducible repeat (first | apply Kd.R_alloc | apply Kd.R_drewN | apply Kd.R_drew)); exact HO109.out) hb); have n1_ := Aside0.mk (IsS119.below (by repeat (first | (with_reducible first | exact HI0.out | apply IsS119.alloc | apply IsS119.drewN | apply IsS119.drew | apply IsS119.set_1 | apply IsS119.set_2) | exact HI0.out)) hb); have n2_ := Aside0.mk (KeepBut.trans (by repeat (first | (with_reducible first | exact HK.out | apply KeepBut.set_ | apply keep_drewN | apply keep_drew | apply keep_alloc) | exact HK.out)) (KeepBut.of_below hb g none) (.inl rfl)); have n3_ := Aside0.mk (below_step (by repeat (first | (with_reducible first | exact HB.out | apply below_alloc | apply pw_below_drewN | apply below_drew1 | refine below_set ?_ (IsS119.ge HI0.out)) | exact HB.out)) hb); clear HO109; clear HI0; clear HK; clear HB; have HO109 := n0_; have HI0 := n1_; have HK := n2_; have HB := n3_; clear n0_ n1_ n2_ n3_; (try clear hb); (try clear hb2); (try clear hk); (try clear hi)) | ((with_reducible refine gate_callee (f := 59) rfl ?_); refine goesL_ (some 26) rfl rfl Tryz.func59 (by kernel_rfl) rfl #[.pointer (some ⟨g, 0, none⟩), .int .i64 5] rfl (by (try simp only [List.map_toArray, List.map_cons, List.map_nil]); first | done | rfl | (simp only [List.length_drop, List.length_take]; rfl)) ?_; (with_reducible refine (spec_l00Src_one.calls g s0_0 t110 t111 5 true t115 t116 w0 _ ?side1 ?side2 A8.out).mono ?_); (case side1 => repeat (first | (with_reducible first | exact HI0.out | apply IsS119.alloc | apply IsS119.drewN | apply IsS119.drew | apply IsS119.set_1 | apply IsS119.set_2) | exact HI0.out)); (case side2 => repeat (first | (with_reducible first | exact HB.out | apply below_alloc | apply pw_below_drewN | apply below_drew1 | refine below_set ?_ (IsS119.ge HI0.out)) | exact HB.out)); rintro e w16 ⟨rfl, hi, hb, hk⟩; refine ⟨_, rfl, ?_⟩; have n0_ := Aside0.mk (Kd.R_mono (Kd.R_keep (IsS119.apart (show IsS119 w0 _ g s0_0 t110 t111 from by repeat (first | (with_reducible first | exact HI0.out | apply IsS119.alloc | apply IsS119.drewN | apply IsS119.drew | apply IsS119.set_1 | apply IsS119.set_2) | exact HI0.out)) (by (with_reducible repeat (first | apply Kd.R_alloc | apply Kd.R_drewN | apply Kd.R_drew)); exact HO109.out) (by decide)) hk (fun _ h => h.2)) (fun _ h => h.1)); have n1_ := Aside0.mk (KeepBut.trans (by repeat (first | (with_reducible first | exact HK.out | apply KeepBut.set_ | apply keep_drewN | apply keep_drew | apply keep_alloc) | exact HK.out)) hk (.inl rfl)); have n2_ := Aside0.mk (hb); have n3_ := Aside0.mk (hi); clear HO109; clear HK; clear HB; clear HI0; have HO109 := n0_; have HK := n1_; have HB := n2_; have HI0 := n3_; clear n0_ n1_ n2_ n3_; (try clear hb); (try clear hb2); (try clear hk); (try clear hi)) | ((with_reducible refine gate_callee (f := 60) rfl ?_); refine goesL_ (some 31) rfl rfl Tryz.func60 (by kernel_rfl) rfl #[.pointer (some ⟨g, 0, none⟩), .string t113] rfl (by (try simp only [List.map_toArray, List.map_cons, List.map_nil]); first | done | rfl | (simp only [List.length_drop, List.length_take]; rfl)) ?_; (with_reducible refine (spec_l01Spoil.calls g s0_0 t115 t116 t113 t117 t118 t119 w0 _ ?side1 ?side2 A10.out).mono ?_); (case side1 => repeat (first | (with_reducible first | exact HI0.out | apply IsS119.alloc | apply IsS119.drewN | apply IsS119.drew | apply IsS119.set_1 | apply IsS119.set_2) | exact HI0.out)); (case side2 => repeat (first | (with_reducible first | exact HB.out | apply below_alloc | apply pw_below_drewN | apply below_drew1 | refine below_set ?_ (IsS119.ge HI0.out)) | exact HB.out)); rintro e w17 ⟨rfl, hi, hb, hk⟩; refine ⟨_, rfl, ?_⟩; have n0_ := Aside0.mk (Kd.R_mono (Kd.R_keep (IsS119.apart (show IsS119 w0 _ g s0_0 t115 t116 from by repeat (first | (with_reducible first | exact HI0.out | apply IsS119.alloc | apply IsS119.drewN | apply IsS119.drew | apply IsS119.set_1 | apply IsS119.set_2) | exact HI0.out)) (by (with_reducible repeat (first | apply Kd.R_alloc | apply Kd.R_drewN | apply Kd.R_drew)); exact HO109.out) (by decide)) hk (fun _ h => h.2)) (fun _ h => h.1)); have n1_ := Aside0.mk (KeepBut.trans (by repeat (first | (with_reducible first | exact HK.out | apply KeepBut.set_ | apply keep_drewN | apply keep_drew | apply keep_alloc) | exact HK.out)) hk (.inl rfl)); have n2_ := Aside0.mk (hb); have n3_ := Aside0.mk (hi); clear HO109; clear HK; clear HB; clear HI0; have HO109 := n0_; have HK := n1_; have HB := n2_; have HI0 := n3_; clear n0_ n1_ n2_ n3_; (try clear hb); (try clear hb2); (try clear hk); (try clear hi)))
      go_ret3
      exact ⟨by first | rfl | (simp [errW_none, errW_some] <;> rfl) | (simp [*, errW_none, errW_some] <;> rfl), by repeat (first | (with_reducible first | exact HI0.out | apply IsS119.alloc | apply IsS119.drewN | apply IsS119.drew | apply IsS119.set_1 | apply IsS119.set_2) | exact HI0.out), by repeat (first | (with_reducible first | exact HB.out | apply below_alloc | apply pw_below_drewN | apply below_drew1 | refine below_set ?_ (IsS119.ge HI0.out)) | exact HB.out), by repeat (first | (with_reducible first | exact HK.out | apply KeepBut.set_ | apply keep_drewN | apply keep_drew | apply keep_alloc) | exact HK.out)⟩
    · replace c9 := Bool.eq_false_iff.mpr c9
      subst c9
      have H1 : (some (t101, t104, t113, t115, t116)) = some (r1, r2, r3, r4, r5) := by rw [if_neg (show ¬ (false = true) by decide)] at H; exact H
      clear H
      have H := H1
      clear H1
      simp only [Option.some.injEq, Prod.mk.injEq] at H
      obtain ⟨rfl, rfl, rfl, rfl, rfl⟩ := H
      go_enter Tryz.func53, Tryz.ntmps53
      go_wp2_with (first | ((with_reducible refine gate_callee (f := 54) rfl ?_); refine goesL_ (some 10) rfl rfl Tryz.func54 (by kernel_rfl) rfl #[.pointer (some ⟨g, 0, none⟩)] rfl (by (try simp only [List.map_toArray, List.map_cons, List.map_nil]); first | done | rfl | (simp only [List.length_drop, List.length_take]; rfl)) ?_; (with_reducible refine (spec_l26DrawScript.calls g s0_0 s0_1 s0_2 t101 t102 t103 w0 _ ?side1 ?side2 A2.out).mono ?_); (case side1 => repeat (first | (with_reducible first | exact HI0.out | apply IsS119.alloc | apply IsS119.drewN | apply IsS119.drew | apply IsS119.set_1 | apply IsS119.set_2) | exact HI0.out)); (case side2 => repeat (first | (with_reducible first | exact HB.out | apply below_alloc | apply pw_below_drewN | apply below_drew1 | refine below_set ?_ (IsS119.ge HI0.out)) | exact HB.out)); rintro e w18 ⟨rfl, hi, hb, hk⟩; refine ⟨_, rfl, ?_⟩; have n0_ := Aside0.mk (KeepBut.trans (by repeat (first | (with_reducible first | exact HK.out | apply KeepBut.set_ | apply keep_drewN | apply keep_drew | apply keep_alloc) | exact HK.out)) hk (.inl rfl)); have n1_ := Aside0.mk (hb); have n2_ := Aside0.mk (hi); clear HK; clear HB; clear HI0; have HK := n0_; have HB := n1_; have HI0 := n2_; clear n0_ n1_ n2_; (try clear hb); (try clear hb2); (try clear hk); (try clear hi)) | ((with_reducible refine gate_callee (f := 55) rfl ?_); refine goesL_ (some 12) rfl rfl Tryz.func55 (by kernel_rfl) rfl #[.pointer (some ⟨g, 0, none⟩)] rfl (by (try simp only [List.map_toArray, List.map_cons, List.map_nil]); first | done | rfl | (simp only [List.length_drop, List.length_take]; rfl)) ?_; (with_reducible refine (spec_l26DrawKey.calls g s0_0 t102 t103 t104 t105 t106 w0 _ ?side1 ?side2 A3.out).mono ?_); (case side1 => repeat (first | (with_reducible first | exact HI0.out | apply IsS119.alloc | apply IsS119.drewN | apply IsS119.drew | apply IsS119.set_1 | apply IsS119.set_2) | exact HI0.out)); (case side2 => repeat (first | (with_reducible first | exact HB.out | apply below_alloc | apply pw_below_drewN | apply below_drew1 | refine below_set ?_ (IsS119.ge HI0.out)) | exact HB.out)); rintro e w19 ⟨rfl, hi, hb, hk⟩; refine ⟨_, rfl, ?_⟩; have n0_ := Aside0.mk (KeepBut.trans (by repeat (first | (with_reducible first | exact HK.out | apply KeepBut.set_ | apply keep_drewN | apply keep_drew | apply keep_alloc) | exact HK.out)) hk (.inl rfl)); have n1_ := Aside0.mk (hb); have n2_ := Aside0.mk (hi); clear HK; clear HB; clear HI0; have HK := n0_; have HB := n1_; have HI0 := n2_; clear n0_ n1_ n2_; (try clear hb); (try clear hb2); (try clear hk); (try clear hi)) | ((with_reducible refine gate_callee (f := 58) rfl ?_); refine goesL_ (some 14) rfl rfl Tryz.func58 (by kernel_rfl) rfl #[.pointer (some ⟨g, 0, none⟩)] rfl (by (try simp only [List.map_toArray, List.map_cons, List.map_nil]); first | done | rfl | (simp only [List.length_drop, List.length_take]; rfl)) ?_; (with_reducible refine (spec_l09Draw.calls k g s0_0 t105 t106 t107 t110 t111 w0 _ ?side1 ?side2 A4.out).mono ?_); (case side1 => repeat (first | (with_reducible first | exact HI0.out | apply IsS119.alloc | apply IsS119.drewN | apply IsS119.drew | apply IsS119.set_1 | apply IsS119.set_2) | exact HI0.out)); (case side2 => repeat (first | (with_reducible first | exact HB.out | apply below_alloc | apply pw_below_drewN | apply below_drew1 | refine below_set ?_ (IsS119.ge HI0.out)) | exact HB.out)); rintro e w20 ⟨v108, rfl, ho0, hi, hb, hk⟩; refine ⟨_, rfl, ?_⟩; have n0_ := Aside0.mk (Kd.R_lower ho0 (keep_size (w := w) (g := g) (row := none) (by repeat (first | (with_reducible first | exact HK.out | apply KeepBut.set_ | apply keep_drewN | apply keep_drew | apply keep_alloc) | exact HK.out)))); have n1_ := Aside0.mk (KeepBut.trans (by repeat (first | (with_reducible first | exact HK.out | apply KeepBut.set_ | apply keep_drewN | apply keep_drew | apply keep_alloc) | exact HK.out)) hk (.inl rfl)); have n2_ := Aside0.mk (hb); have n3_ := Aside0.mk (hi); clear HK; clear HB; clear HI0; have HO109 := n0_; have HK := n1_; have HB := n2_; have HI0 := n3_; clear n0_ n1_ n2_ n3_; (try clear hb); (try clear hb2); (try clear hk); (try clear hi); (try clear ho0)) | ((with_reducible refine gate_callee (f := 42) rfl ?_); refine goesL_ (some 17) rfl rfl Tryz.func42 (by kernel_rfl) rfl #[.int .i64 t101, .int .i64 t104] rfl (by (try simp only [List.map_toArray, List.map_cons, List.map_nil]); first | done | rfl | (simp only [List.length_drop, List.length_take]; rfl)) ?_; (with_reducible refine (spec_l26Script.calls t101 t104 true _ A5.out).mono ?_); rintro e w' ⟨rfl, ⟨nd, rfl⟩⟩; refine ⟨_, rfl, ?_⟩; obtain ⟨Ao21, co21, eo21⟩ := Kd.R_slice HO109.out; subst eo21) | ((with_reducible refine gate_callee (f := 45) rfl ?_); refine goesL_ (some 24) rfl rfl Tryz.func45 (by kernel_rfl) rfl #[.int .i64 t101, .int .i64 t104, .slice Ao21 t107.length co21] rfl (by (try simp only [List.map_toArray, List.map_cons, List.map_nil]); first | done | rfl | (simp only [List.length_drop, List.length_take]; rfl)) ?_; (with_reducible refine (spec_l26Notes.calls k t101 t104 _ _ t107 t113 _ ?side1 ?side2 A7.out).mono ?_); (case side1 => repeat (first | exact (Kd.R_reads' HO109.out).2.2 | (with_reducible refine Kd.C_alloc ?_ _) | (with_reducible refine Kd.C_drewN ?_ _) | (with_reducible refine Kd.C_drew ?_))); (case side2 => exact (Kd.R_reads' HO109.out).2.1); rintro e w22 ⟨rfl, hb⟩; refine ⟨_, rfl, ?_⟩; have n0_ := Aside0.mk (Kd.R_below (by (with_reducible repeat (first | apply Kd.R_alloc | apply Kd.R_drewN | apply Kd.R_drew)); exact HO109.out) hb); have n1_ := Aside0.mk (IsS119.below (by repeat (first | (with_reducible first | exact HI0.out | apply IsS119.alloc | apply IsS119.drewN | apply IsS119.drew | apply IsS119.set_1 | apply IsS119.set_2) | exact HI0.out)) hb); have n2_ := Aside0.mk (KeepBut.trans (by repeat (first | (with_reducible first | exact HK.out | apply KeepBut.set_ | apply keep_drewN | apply keep_drew | apply keep_alloc) | exact HK.out)) (KeepBut.of_below hb g none) (.inl rfl)); have n3_ := Aside0.mk (below_step (by repeat (first | (with_reducible first | exact HB.out | apply below_alloc | apply pw_below_drewN | apply below_drew1 | refine below_set ?_ (IsS119.ge HI0.out)) | exact HB.out)) hb); clear HO109; clear HI0; clear HK; clear HB; have HO109 := n0_; have HI0 := n1_; have HK := n2_; have HB := n3_; clear n0_ n1_ n2_ n3_; (try clear hb); (try clear hb2); (try clear hk); (try clear hi)) | ((with_reducible refine gate_callee (f := 59) rfl ?_); refine goesL_ (some 26) rfl rfl Tryz.func59 (by kernel_rfl) rfl #[.pointer (some ⟨g, 0, none⟩), .int .i64 5] rfl (by (try simp only [List.map_toArray, List.map_cons, List.map_nil]); first | done | rfl | (simp only [List.length_drop, List.length_take]; rfl)) ?_; (with_reducible refine (spec_l00Src_one.calls g s0_0 t110 t111 5 false t115 t116 w0 _ ?side1 ?side2 A8.out).mono ?_); (case side1 => repeat (first | (with_reducible first | exact HI0.out | apply IsS119.alloc | apply IsS119.drewN | apply IsS119.drew | apply IsS119.set_1 | apply IsS119.set_2) | exact HI0.out)); (case side2 => repeat (first | (with_reducible first | exact HB.out | apply below_alloc | apply pw_below_drewN | apply below_drew1 | refine below_set ?_ (IsS119.ge HI0.out)) | exact HB.out)); rintro e w23 ⟨rfl, hi, hb, hk⟩; refine ⟨_, rfl, ?_⟩; have n0_ := Aside0.mk (Kd.R_mono (Kd.R_keep (IsS119.apart (show IsS119 w0 _ g s0_0 t110 t111 from by repeat (first | (with_reducible first | exact HI0.out | apply IsS119.alloc | apply IsS119.drewN | apply IsS119.drew | apply IsS119.set_1 | apply IsS119.set_2) | exact HI0.out)) (by (with_reducible repeat (first | apply Kd.R_alloc | apply Kd.R_drewN | apply Kd.R_drew)); exact HO109.out) (by decide)) hk (fun _ h => h.2)) (fun _ h => h.1)); have n1_ := Aside0.mk (KeepBut.trans (by repeat (first | (with_reducible first | exact HK.out | apply KeepBut.set_ | apply keep_drewN | apply keep_drew | apply keep_alloc) | exact HK.out)) hk (.inl rfl)); have n2_ := Aside0.mk (hb); have n3_ := Aside0.mk (hi); clear HO109; clear HK; clear HB; clear HI0; have HO109 := n0_; have HK := n1_; have HB := n2_; have HI0 := n3_; clear n0_ n1_ n2_ n3_; (try clear hb); (try clear hb2); (try clear hk); (try clear hi)))
      go_ret3
      exact ⟨by first | rfl | (simp [errW_none, errW_some] <;> rfl) | (simp [*, errW_none, errW_some] <;> rfl), by repeat (first | (with_reducible first | exact HI0.out | apply IsS119.alloc | apply IsS119.drewN | apply IsS119.drew | apply IsS119.set_1 | apply IsS119.set_2) | exact HI0.out), by repeat (first | (with_reducible first | exact HB.out | apply below_alloc | apply pw_below_drewN | apply below_drew1 | refine below_set ?_ (IsS119.ge HI0.out)) | exact HB.out), by repeat (first | (with_reducible first | exact HK.out | apply KeepBut.set_ | apply keep_drewN | apply keep_drew | apply keep_alloc) | exact HK.out)⟩
  · replace c6 := Bool.eq_false_iff.mpr c6
    subst c6
    have H1 : (some (t101, t104, (⟨#[83, 58, 49]⟩ : ByteArray), t110, t111)) = some (r1, r2, r3, r4, r5) := by rw [if_neg (show ¬ (false = true) by decide)] at H; exact H
    clear H
    have H := H1
    clear H1
    simp only [Option.some.injEq, Prod.mk.injEq] at H
    obtain ⟨rfl, rfl, rfl, rfl, rfl⟩ := H
    go_enter Tryz.func53, Tryz.ntmps53
    go_wp2_with (first | ((with_reducible refine gate_callee (f := 54) rfl ?_); refine goesL_ (some 10) rfl rfl Tryz.func54 (by kernel_rfl) rfl #[.pointer (some ⟨g, 0, none⟩)] rfl (by (try simp only [List.map_toArray, List.map_cons, List.map_nil]); first | done | rfl | (simp only [List.length_drop, List.length_take]; rfl)) ?_; (with_reducible refine (spec_l26DrawScript.calls g s0_0 s0_1 s0_2 t101 t102 t103 w0 _ ?side1 ?side2 A2.out).mono ?_); (case side1 => repeat (first | (with_reducible first | exact HI0.out | apply IsS119.alloc | apply IsS119.drewN | apply IsS119.drew | apply IsS119.set_1 | apply IsS119.set_2) | exact HI0.out)); (case side2 => repeat (first | (with_reducible first | exact HB.out | apply below_alloc | apply pw_below_drewN | apply below_drew1 | refine below_set ?_ (IsS119.ge HI0.out)) | exact HB.out)); rintro e w24 ⟨rfl, hi, hb, hk⟩; refine ⟨_, rfl, ?_⟩; have n0_ := Aside0.mk (KeepBut.trans (by repeat (first | (with_reducible first | exact HK.out | apply KeepBut.set_ | apply keep_drewN | apply keep_drew | apply keep_alloc) | exact HK.out)) hk (.inl rfl)); have n1_ := Aside0.mk (hb); have n2_ := Aside0.mk (hi); clear HK; clear HB; clear HI0; have HK := n0_; have HB := n1_; have HI0 := n2_; clear n0_ n1_ n2_; (try clear hb); (try clear hb2); (try clear hk); (try clear hi)) | ((with_reducible refine gate_callee (f := 55) rfl ?_); refine goesL_ (some 12) rfl rfl Tryz.func55 (by kernel_rfl) rfl #[.pointer (some ⟨g, 0, none⟩)] rfl (by (try simp only [List.map_toArray, List.map_cons, List.map_nil]); first | done | rfl | (simp only [List.length_drop, List.length_take]; rfl)) ?_; (with_reducible refine (spec_l26DrawKey.calls g s0_0 t102 t103 t104 t105 t106 w0 _ ?side1 ?side2 A3.out).mono ?_); (case side1 => repeat (first | (with_reducible first | exact HI0.out | apply IsS119.alloc | apply IsS119.drewN | apply IsS119.drew | apply IsS119.set_1 | apply IsS119.set_2) | exact HI0.out)); (case side2 => repeat (first | (with_reducible first | exact HB.out | apply below_alloc | apply pw_below_drewN | apply below_drew1 | refine below_set ?_ (IsS119.ge HI0.out)) | exact HB.out)); rintro e w25 ⟨rfl, hi, hb, hk⟩; refine ⟨_, rfl, ?_⟩; have n0_ := Aside0.mk (KeepBut.trans (by repeat (first | (with_reducible first | exact HK.out | apply KeepBut.set_ | apply keep_drewN | apply keep_drew | apply keep_alloc) | exact HK.out)) hk (.inl rfl)); have n1_ := Aside0.mk (hb); have n2_ := Aside0.mk (hi); clear HK; clear HB; clear HI0; have HK := n0_; have HB := n1_; have HI0 := n2_; clear n0_ n1_ n2_; (try clear hb); (try clear hb2); (try clear hk); (try clear hi)) | ((with_reducible refine gate_callee (f := 58) rfl ?_); refine goesL_ (some 14) rfl rfl Tryz.func58 (by kernel_rfl) rfl #[.pointer (some ⟨g, 0, none⟩)] rfl (by (try simp only [List.map_toArray, List.map_cons, List.map_nil]); first | done | rfl | (simp only [List.length_drop, List.length_take]; rfl)) ?_; (with_reducible refine (spec_l09Draw.calls k g s0_0 t105 t106 t107 t110 t111 w0 _ ?side1 ?side2 A4.out).mono ?_); (case side1 => repeat (first | (with_reducible first | exact HI0.out | apply IsS119.alloc | apply IsS119.drewN | apply IsS119.drew | apply IsS119.set_1 | apply IsS119.set_2) | exact HI0.out)); (case side2 => repeat (first | (with_reducible first | exact HB.out | apply below_alloc | apply pw_below_drewN | apply below_drew1 | refine below_set ?_ (IsS119.ge HI0.out)) | exact HB.out)); rintro e w26 ⟨v108, rfl, ho0, hi, hb, hk⟩; refine ⟨_, rfl, ?_⟩; have n0_ := Aside0.mk (Kd.R_lower ho0 (keep_size (w := w) (g := g) (row := none) (by repeat (first | (with_reducible first | exact HK.out | apply KeepBut.set_ | apply keep_drewN | apply keep_drew | apply keep_alloc) | exact HK.out)))); have n1_ := Aside0.mk (KeepBut.trans (by repeat (first | (with_reducible first | exact HK.out | apply KeepBut.set_ | apply keep_drewN | apply keep_drew | apply keep_alloc) | exact HK.out)) hk (.inl rfl)); have n2_ := Aside0.mk (hb); have n3_ := Aside0.mk (hi); clear HK; clear HB; clear HI0; have HO109 := n0_; have HK := n1_; have HB := n2_; have HI0 := n3_; clear n0_ n1_ n2_ n3_; (try clear hb); (try clear hb2); (try clear hk); (try clear hi); (try clear ho0)) | ((with_reducible refine gate_callee (f := 42) rfl ?_); refine goesL_ (some 17) rfl rfl Tryz.func42 (by kernel_rfl) rfl #[.int .i64 t101, .int .i64 t104] rfl (by (try simp only [List.map_toArray, List.map_cons, List.map_nil]); first | done | rfl | (simp only [List.length_drop, List.length_take]; rfl)) ?_; (with_reducible refine (spec_l26Script.calls t101 t104 false _ A5.out).mono ?_); rintro e w' ⟨rfl, ⟨nd, rfl⟩⟩; refine ⟨_, rfl, ?_⟩))
    go_ret3
    exact ⟨by first | rfl | (simp [errW_none, errW_some] <;> rfl) | (simp [*, errW_none, errW_some] <;> rfl), by repeat (first | (with_reducible first | exact HI0.out | apply IsS119.alloc | apply IsS119.drewN | apply IsS119.drew | apply IsS119.set_1 | apply IsS119.set_2) | exact HI0.out), by repeat (first | (with_reducible first | exact HB.out | apply below_alloc | apply pw_below_drewN | apply below_drew1 | refine below_set ?_ (IsS119.ge HI0.out)) | exact HB.out), by repeat (first | (with_reducible first | exact HK.out | apply KeepBut.set_ | apply keep_drewN | apply keep_drew | apply keep_alloc) | exact HK.out)⟩

def spec_DrawConvertNotes.f (k : Nat) (l0 : List Int) : Option (Int × Int × Int × Int × ByteArray) := (spec_l00From.f l0).bind fun bt101 => ((spec_l26DrawText.f k bt101.1 bt101.2.1 bt101.2.2).bind fun bt105 => ((spec_l26DrawScript.f bt101.1 bt105.2.2.2.1 bt105.2.2.2.2).bind fun bt110 => ((spec_l26DrawKey.f bt101.1 bt110.2.1 bt110.2.2).bind fun bt113 => (some (bt105.1, bt105.2.1, bt110.1, bt113.1, bt105.2.2.1)))))
set_option maxHeartbeats 8000000 in
set_option maxRecDepth 100000 in
theorem spec_DrawConvertNotes.calls (k : Nat) (A0 : Option Addr) (c0 : Nat) (l0 : List Int) (r1 : Int) (r2 : Int) (r3 : Int) (r4 : Int) (r5 : ByteArray) (w : World) (hr0 : Kd.C (Kd.int .u8) w A0 l0.length l0) (hc0 : l0.length ≤ c0) (h : spec_DrawConvertNotes.f k l0 = some (r1, r2, r3, r4, r5)) :
    Calls Tryz.prog 12 #[.slice A0 l0.length c0] w fun e w' => e = .returned (.tuple #[.int .i64 r1, .int .i64 r2, .int .i64 r3, .int .i64 r4, .string r5]) ∧ Below w.heap.size w w' := by
  have HR0 := Aside0.mk hr0
  have HC0 := Aside0.mk hc0
  clear hr0 hc0
  have HB := Aside0.mk (Below.refl w.heap.size w)
  have H : ((spec_l00From.f l0).bind fun bt101 => ((spec_l26DrawText.f k bt101.1 bt101.2.1 bt101.2.2).bind fun bt105 => ((spec_l26DrawScript.f bt101.1 bt105.2.2.2.1 bt105.2.2.2.2).bind fun bt110 => ((spec_l26DrawKey.f bt101.1 bt110.2.1 bt110.2.2).bind fun bt113 => (some (bt105.1, bt105.2.1, bt110.1, bt113.1, bt105.2.2.1)))))) = some (r1, r2, r3, r4, r5) := h
  clear h
  replace H := Option.bind_eq_some_iff.mp H
  obtain ⟨⟨t101, t102, t103⟩, A20, H⟩ := H
  replace H : ((spec_l26DrawText.f k t101 t102 t103).bind fun bt105 => ((spec_l26DrawScript.f t101 bt105.2.2.2.1 bt105.2.2.2.2).bind fun bt110 => ((spec_l26DrawKey.f t101 bt110.2.1 bt110.2.2).bind fun bt113 => (some (bt105.1, bt105.2.1, bt110.1, bt113.1, bt105.2.2.1))))) = some (r1, r2, r3, r4, r5) := H
  have A2 := Aside0.mk A20
  clear A20
  replace H := Option.bind_eq_some_iff.mp H
  obtain ⟨⟨t105, t106, t107, t108, t109⟩, A30, H⟩ := H
  replace H : ((spec_l26DrawScript.f t101 t108 t109).bind fun bt110 => ((spec_l26DrawKey.f t101 bt110.2.1 bt110.2.2).bind fun bt113 => (some (t105, t106, bt110.1, bt113.1, t107)))) = some (r1, r2, r3, r4, r5) := H
  have A3 := Aside0.mk A30
  clear A30
  replace H := Option.bind_eq_some_iff.mp H
  obtain ⟨⟨t110, t111, t112⟩, A40, H⟩ := H
  replace H : ((spec_l26DrawKey.f t101 t111 t112).bind fun bt113 => (some (t105, t106, t110, bt113.1, t107))) = some (r1, r2, r3, r4, r5) := H
  have A4 := Aside0.mk A40
  clear A40
  replace H := Option.bind_eq_some_iff.mp H
  obtain ⟨⟨t113, t114, t115⟩, A50, H⟩ := H
  replace H : (some (t105, t106, t110, t113, t107)) = some (r1, r2, r3, r4, r5) := H
  have A5 := Aside0.mk A50
  clear A50
  simp only [Option.some.injEq, Prod.mk.injEq] at H
  obtain ⟨rfl, rfl, rfl, rfl, rfl⟩ := H
  go_enter Tryz.func12, Tryz.ntmps12
  go_wp2_with (first | ((with_reducible refine gate_callee (f := 52) rfl ?_); refine goesL_ (some 13) rfl rfl Tryz.func52 (by kernel_rfl) rfl #[.slice A0 l0.length c0] rfl (by (try simp only [List.map_toArray, List.map_cons, List.map_nil]); first | done | rfl | (simp only [List.length_drop, List.length_take]; rfl)) ?_; (with_reducible refine (spec_l00From.calls _ _ l0 t101 t102 t103 w _ ?side1 ?side2 ?side3 A2.out).mono ?_); (case side1 => repeat (first | (with_reducible first | exact HB.out | apply below_alloc | apply pw_below_drewN | apply below_drew1) | exact HB.out)); (case side2 => exact HR0.out); (case side3 => exact HC0.out); rintro e w6 ⟨g104, rfl, hi, hb, hb2⟩; refine ⟨_, rfl, ?_⟩; have n0_ := Aside0.mk (hb); have n1_ := Aside0.mk (hi); clear HB; have HB := n0_; have HI104 := n1_; clear n0_ n1_; (try clear hb); (try clear hb2); (try clear hk); (try clear hi)) | ((with_reducible refine gate_callee (f := 53) rfl ?_); refine goesL_ (some 16) rfl rfl Tryz.func53 (by kernel_rfl) rfl #[.pointer (some ⟨g104, 0, none⟩)] rfl (by (try simp only [List.map_toArray, List.map_cons, List.map_nil]); first | done | rfl | (simp only [List.length_drop, List.length_take]; rfl)) ?_; (with_reducible refine (spec_l26DrawText.calls k g104 t101 t102 t103 t105 t106 t107 t108 t109 w _ ?side1 ?side2 A3.out).mono ?_); (case side1 => repeat (first | (with_reducible first | exact HI104.out | apply IsS119.alloc | apply IsS119.drewN | apply IsS119.drew | apply IsS119.set_1 | apply IsS119.set_2) | exact HI104.out)); (case side2 => repeat (first | (with_reducible first | exact HB.out | apply below_alloc | apply pw_below_drewN | apply below_drew1 | refine below_set ?_ (IsS119.ge HI104.out)) | exact HB.out)); rintro e w7 ⟨rfl, hi, hb, hk⟩; refine ⟨_, rfl, ?_⟩; have n0_ := Aside0.mk (hb); have n1_ := Aside0.mk (hi); clear HB; clear HI104; have HB := n0_; have HI104 := n1_; clear n0_ n1_; (try clear hb); (try clear hb2); (try clear hk); (try clear hi)) | ((with_reducible refine gate_callee (f := 54) rfl ?_); refine goesL_ (some 21) rfl rfl Tryz.func54 (by kernel_rfl) rfl #[.pointer (some ⟨g104, 0, none⟩)] rfl (by (try simp only [List.map_toArray, List.map_cons, List.map_nil]); first | done | rfl | (simp only [List.length_drop, List.length_take]; rfl)) ?_; (with_reducible refine (spec_l26DrawScript.calls g104 t101 t108 t109 t110 t111 t112 w _ ?side1 ?side2 A4.out).mono ?_); (case side1 => repeat (first | (with_reducible first | exact HI104.out | apply IsS119.alloc | apply IsS119.drewN | apply IsS119.drew | apply IsS119.set_1 | apply IsS119.set_2) | exact HI104.out)); (case side2 => repeat (first | (with_reducible first | exact HB.out | apply below_alloc | apply pw_below_drewN | apply below_drew1 | refine below_set ?_ (IsS119.ge HI104.out)) | exact HB.out)); rintro e w8 ⟨rfl, hi, hb, hk⟩; refine ⟨_, rfl, ?_⟩; have n0_ := Aside0.mk (hb); have n1_ := Aside0.mk (hi); clear HB; clear HI104; have HB := n0_; have HI104 := n1_; clear n0_ n1_; (try clear hb); (try clear hb2); (try clear hk); (try clear hi)) | ((with_reducible refine gate_callee (f := 55) rfl ?_); refine goesL_ (some 26) rfl rfl Tryz.func55 (by kernel_rfl) rfl #[.pointer (some ⟨g104, 0, none⟩)] rfl (by (try simp only [List.map_toArray, List.map_cons, List.map_nil]); first | done | rfl | (simp only [List.length_drop, List.length_take]; rfl)) ?_; (with_reducible refine (spec_l26DrawKey.calls g104 t101 t111 t112 t113 t114 t115 w _ ?side1 ?side2 A5.out).mono ?_); (case side1 => repeat (first | (with_reducible first | exact HI104.out | apply IsS119.alloc | apply IsS119.drewN | apply IsS119.drew | apply IsS119.set_1 | apply IsS119.set_2) | exact HI104.out)); (case side2 => repeat (first | (with_reducible first | exact HB.out | apply below_alloc | apply pw_below_drewN | apply below_drew1 | refine below_set ?_ (IsS119.ge HI104.out)) | exact HB.out)); rintro e w9 ⟨rfl, hi, hb, hk⟩; refine ⟨_, rfl, ?_⟩; have n0_ := Aside0.mk (hb); have n1_ := Aside0.mk (hi); clear HB; clear HI104; have HB := n0_; have HI104 := n1_; clear n0_ n1_; (try clear hb); (try clear hb2); (try clear hk); (try clear hi)))
  refine bodyPost_ret (results_list (rs := [.tmp 2, .tmp 3, .tmp 4, .tmp 5, .tmp 6]) rfl (by simp) (.tmp (.tmp (.tmp (.tmp (.tmp .nil)))))) rfl ?_
  exact ⟨by first | rfl | (simp [errW_none, errW_some] <;> rfl) | (simp [*, errW_none, errW_some] <;> rfl), by repeat (first | (with_reducible first | exact HB.out | apply below_alloc | apply pw_below_drewN | apply below_drew1 | refine below_set ?_ (IsS119.ge HI104.out)) | exact HB.out)⟩

end Go.Proofs.YtmoamoopoifnlaaGreatDoor.P
