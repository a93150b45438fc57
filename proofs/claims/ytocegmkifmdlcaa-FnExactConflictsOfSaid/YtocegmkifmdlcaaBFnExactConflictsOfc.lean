/- Part c of what FnExactConflictsOf stands on: functions of the program as Lean functions with their walks, and plain lemmas. -/
import Derived.Lib.Hide
import Derived.Deep.RegionHeld3
import Derived.Test.YtocegmkifmdlcaaK
import Derived.Test.YtocegmkifmdlcaaBFnExactConflictsOfb
import Derived.Test.YtocegmkifmdlcaaBFnExactConflictsOfa
import Derived.ChangeOld
import Derived.ChangeArms
import Derived.WideShapes
import Derived.Test.YtocegmkifmdlcaaWWords
import Derived.KernelRfl
namespace Go.Proofs.Ytocegmkifmdlcaa.P
open Go.RowKit Go.Proofs.YtocegmkifmdlcaaW.PrintWords Go.Proofs.YtocegmkifmdlcaaW.PrintLast Go.Proofs.YtocegmkifmdlcaaW.PrintMore
attribute [local go_sem] max2_int min2_int max_two min_two max_three min_three max_four min_four str_leq str_gtr str_geq
set_option linter.unusedVariables false
set_option linter.unusedSimpArgs false

set_option maxHeartbeats 8000000
set_option maxRecDepth 100000
theorem impl_conflictsOf.cnt : ∀ (l : List Bool) (i : Nat), l[i]? = some false → (l.set i true).countP (fun b => !b) + 1 = l.countP (fun b => !b)
  | [], i, h => by simp at h
  | b :: r, 0, h => by
    simp at h
    subst h
    simp
  | b :: r, i + 1, h => by
    have ih := impl_conflictsOf.cnt r i (by simpa using h)
    rw [List.set_cons_succ, List.countP_cons, List.countP_cons]
    omega
/-- A region in whatever order, by a condition that each operation keeps. -/
theorem impl_conflictsOf.inv {P : Program} {ops : Array Oper} {Q : Exit → Act → World → Prop} {md : Region.Mode} (I : Array Bool → Act → World → Prop)
    (hsz : ∀ l a w, I l a w → l.size = ops.size) (hdone : ∀ l a w, I l a w → Region.ready md ops l = [] → Q .normal a w)
    (hstep : ∀ l a w, I l a w → ∀ i ∈ Region.ready md ops l, wpOp P ops Q i (fun a' w' => I (l.setIfInBounds i true) a' w') a w) :
    ∀ (fuel : Nat) (l : Array Bool) (a : Act) (w : World), I l a w → l.toList.countP (fun b => !b) ≤ fuel → wpAny P md ops Q fuel l a w := by
  have hr : ∀ l i, i ∈ Region.ready md ops l → i < ops.size ∧ l.getD i true = false := fun l i hi => by
    unfold Region.ready at hi
    obtain ⟨h1, h2⟩ := List.mem_filter.1 hi
    rw [Bool.and_eq_true] at h2
    exact ⟨List.mem_range.1 h1, by simpa using h2.1⟩
  have hf : ∀ (l : Array Bool) i, l.getD i true = false → l.toList[i]? = some false := fun l i h => by
    rw [Array.getElem?_toList]
    rw [Array.getD_eq_getD_getElem?] at h
    cases hx : l[i]? with
    | none => rw [hx] at h; cases h
    | some b => rw [hx] at h; simp at h; rw [h]
  intro fuel
  induction fuel with
  | zero =>
    intro l a w hI hc
    have hnil : Region.ready md ops l = [] := List.eq_nil_iff_forall_not_mem.2 (fun i hi => by
      have := impl_conflictsOf.cnt l.toList i (hf l i (hr l i hi).2)
      omega)
    exact ⟨hnil, hdone l a w hI hnil⟩
  | succ fuel ih =>
    intro l a w hI hc
    refine ⟨hdone l a w hI, fun i hi => wpOp_mono (fun a' w' h => ih _ _ _ h ?_) (hstep l a w hI i hi)⟩
    have := impl_conflictsOf.cnt l.toList i (hf l i (hr l i hi).2)
    rw [Array.toList_setIfInBounds]
    omega
theorem impl_conflictsOf.dep {ops : Array Oper} {l : Array Bool} {i : Nat} {o : Oper} {e : Edge} (hi : i ∈ Region.ready .any ops l) (ho : ops[i]? = some o) (he : e ∈ o.after.toList) (hb : Region.binds .any e = true) : l.getD e.on false = true := by
  unfold Region.ready at hi
  have h2 := (List.mem_filter.1 hi).2
  rw [Bool.and_eq_true, ho] at h2
  have h3 : (o.after.all fun e => !Region.binds .any e || l.getD e.on false) = true := by simpa using h2.2
  rw [← Array.all_toList] at h3
  have h4 := List.all_eq_true.1 h3 e he
  rw [hb] at h4
  simpa using h4
theorem impl_conflictsOf.new {ops : Array Oper} {l : Array Bool} {i : Nat} (hi : i ∈ Region.ready .any ops l) : l.getD i true = false := by
  unfold Region.ready at hi
  have h2 := (List.mem_filter.1 hi).2
  rw [Bool.and_eq_true] at h2
  simpa using h2.1
theorem impl_conflictsOf.all {ops : Array Oper} {l : Array Bool} {i : Nat} {o : Oper} (hr : Region.ready .any ops l = []) (hs : i < l.size) (ho : ops[i]? = some o) (ha : (o.after.all fun e => !Region.binds .any e || l.getD e.on false) = true) : l.getD i false = true := by
  have hi : i < ops.size := by
    by_cases h : i < ops.size
    · exact h
    · rw [Array.getElem?_eq_none (by omega)] at ho; cases ho
  cases hx : l.getD i false
  · have h1 : l.getD i true = false := by
      rw [Array.getD_eq_getD_getElem?, Array.getElem?_eq_getElem hs] at hx ⊢
      exact hx
    have : i ∈ Region.ready .any ops l := by
      unfold Region.ready
      refine List.mem_filter.2 ⟨List.mem_range.2 hi, ?_⟩
      rw [h1, ho]
      simpa using ha
    rw [hr] at this
    cases this
  · rfl
theorem impl_conflictsOf.gdo {l : Array Bool} {i j : Nat} (h : i ≠ j) : (l.setIfInBounds i true).getD j false = l.getD j false := by
  rw [Array.getD_eq_getD_getElem?, Array.getD_eq_getD_getElem?, Array.getElem?_setIfInBounds_ne h]
theorem impl_conflictsOf.gds {l : Array Bool} {i : Nat} (h : i < l.size) : (l.setIfInBounds i true).getD i false = true := by
  rw [Array.getD_eq_getD_getElem?, Array.getElem?_setIfInBounds_self_of_lt h]; rfl
theorem impl_conflictsOf.gdf {l : Array Bool} {i : Nat} (hs : i < l.size) (h : l.getD i true = false) : l.getD i false = false := by
  rw [Array.getD_eq_getD_getElem?, Array.getElem?_eq_getElem hs] at h ⊢
  exact h
def impl_conflictsOf.F (l : Array Bool) (j : Nat) (p : Prop) : Prop := l.getD j false = true → p
theorem impl_conflictsOf.Fo {l : Array Bool} {i j : Nat} {p : Prop} (h : i ≠ j) (hp : impl_conflictsOf.F l j p) : impl_conflictsOf.F (l.setIfInBounds i true) j p := fun e => hp ((impl_conflictsOf.gdo h).symm.trans e)
def impl_conflictsOf.cc (l : Array Bool) (k : Nat) (X : Array Value) : Array Value := if l.getD k false = true then X else #[.int .i64 0, .bool false]
def impl_conflictsOf.BK (w W : World) (v : Value) (cs : Array Value) : Prop := ∃ g : Nat, v = .pointer (some ⟨g, 0, none⟩) ∧ w.heap.size ≤ g ∧ W.heap[g]? = some (.cells cs 102 (0, 0))
theorem impl_conflictsOf.cco {l : Array Bool} {i k : Nat} {X : Array Value} (h : i ≠ k) : impl_conflictsOf.cc (l.setIfInBounds i true) k X = impl_conflictsOf.cc l k X := by unfold impl_conflictsOf.cc; rw [impl_conflictsOf.gdo h]
structure impl_conflictsOf.RI (w : World) (nm : ByteArray) (A B C : Addr) (s0 s1 s2 : Value) (X Y Z : Array Value) (v6 v7 v8 v9 v10 v11 v12 v13 v14 v15 v16 v17 : Value) (l : Array Bool) (W : World) : Prop where
  sz : l.size = 15
  bl : Below w.heap.size w W
  c0 : impl_conflictsOf.F l 0 (v9 = s0)
  c1 : impl_conflictsOf.F l 1 (v10 = .string nm)
  c2 : impl_conflictsOf.F l 2 (v11 = .agg X)
  c3 : impl_conflictsOf.F l 3 (v12 = s1)
  c4 : impl_conflictsOf.F l 4 (v13 = .string nm)
  c5 : impl_conflictsOf.F l 5 (v14 = .agg Y)
  c6 : impl_conflictsOf.F l 6 (v15 = s2)
  c7 : impl_conflictsOf.F l 7 (v16 = .string nm)
  c8 : impl_conflictsOf.F l 8 (v17 = .agg Z)
  c9 : impl_conflictsOf.F l 9 (impl_conflictsOf.BK w W v6 (impl_conflictsOf.cc l 12 X))
  c10 : impl_conflictsOf.F l 10 (impl_conflictsOf.BK w W v7 (impl_conflictsOf.cc l 13 Y))
  c11 : impl_conflictsOf.F l 11 (impl_conflictsOf.BK w W v8 (impl_conflictsOf.cc l 14 Z))
  d0 : impl_conflictsOf.F l 9 (impl_conflictsOf.F l 10 (v6 ≠ v7))
  d1 : impl_conflictsOf.F l 9 (impl_conflictsOf.F l 11 (v6 ≠ v8))
  d2 : impl_conflictsOf.F l 10 (impl_conflictsOf.F l 11 (v7 ≠ v8))
  e0 : impl_conflictsOf.F l 12 (l.getD 9 false = true)
  e1 : impl_conflictsOf.F l 13 (l.getD 10 false = true)
  e2 : impl_conflictsOf.F l 14 (l.getD 11 false = true)
theorem impl_conflictsOf.BKb {w W W1 : World} {v : Value} {cs : Array Value} (h : impl_conflictsOf.BK w W v cs) (hb : Below W.heap.size W W1) : impl_conflictsOf.BK w W1 v cs := by
  obtain ⟨g, h1, h2, h3⟩ := h
  exact ⟨g, h1, h2, blk_below h3 hb⟩
theorem impl_conflictsOf.BKf {w W : World} {v : Value} {cs cs' : Array Value} {g : Nat} (h : impl_conflictsOf.BK w W v cs) (hg : W.heap[g]? = some (.cells cs' 102 (0, 0))) (hne : v ≠ .pointer (some ⟨g, 0, none⟩)) (u u' : Value) : impl_conflictsOf.BK w ((W.setCell ⟨g, 0, none⟩ u).setCell ⟨g, 1, none⟩ u') v cs := by
  obtain ⟨q, h1, h2, h3⟩ := h
  have hq : q ≠ g := fun e => hne (by rw [h1, e])
  exact ⟨q, h1, h2, blk_far (blk_far h3 hq u) hq u'⟩
theorem impl_conflictsOf.BKn {w W : World} {v : Value} {cs : Array Value} (h : impl_conflictsOf.BK w W v cs) : v ≠ .pointer (some ⟨W.heap.size, 0, none⟩) := by
  obtain ⟨q, h1, h2, h3⟩ := h
  have := blk_lt h3
  rw [h1]
  intro e
  injection e with e; injection e with e; injection e with e
  omega

set_option maxHeartbeats 64000000 in
theorem impl_conflictsOf.clo (A0 A1 A2 : Option Addr) (n0 n1 n2 c0 c1 c2 : Nat) (nm : ByteArray) (A B C : Addr) (w : World) (h1 : w.cell? A = some (.slice A0 n0 c0)) (h2 : w.cell? B = some (.slice A1 n1 c1)) (h3 : w.cell? C = some (.slice A2 n2 c2)) (x1 y1 z1 : Int) (x2 y2 z2 : Bool)
    (hx : ∀ W, Below w.heap.size w W → Calls Try.prog 71 #[.slice A0 n0 c0, .string nm] W fun e W' => e = .returned (.agg #[.int .i64 x1, .bool x2]) ∧ Below W.heap.size W W')
    (hy : ∀ W, Below w.heap.size w W → Calls Try.prog 71 #[.slice A1 n1 c1, .string nm] W fun e W' => e = .returned (.agg #[.int .i64 y1, .bool y2]) ∧ Below W.heap.size W W')
    (hz : ∀ W, Below w.heap.size w W → Calls Try.prog 71 #[.slice A2 n2 c2, .string nm] W fun e W' => e = .returned (.agg #[.int .i64 z1, .bool z2]) ∧ Below W.heap.size W W') :
    Calls Try.prog 116 #[.string nm, .pointer (some A), .pointer (some B), .pointer (some C)] w fun e w' => e = .returned (.bool (((y1 == z1) && (y2 == z2)) || ((y1 == x1) && (y2 == x2)) || ((z1 == x1) && (z2 == x2)))) ∧ Below w.heap.size w w' := by
  have HX := Aside0.mk hx
  have HY := Aside0.mk hy
  have HZ := Aside0.mk hz
  have HA := Aside0.mk h1
  have HBc := Aside0.mk h2
  have HC := Aside0.mk h3
  clear hx hy hz h1 h2 h3
  go_enter Try.func116, Try.ntmps116
  go_wp2_with fail
  rename_i Q0 K0 hK0
  have HK := Aside0.mk hK0
  clear hK0
  refine wp_region_any (by kernel_rfl) ?_
  refine impl_conflictsOf.inv (fun l a W => ∃ v6 v7 v8 v9 v10 v11 v12 v13 v14 v15 v16 v17 : Value, a = ⟨#[.string nm, .pointer (some A), .pointer (some B), .pointer (some C), undef, .bool false, v6, v7, v8, v9, v10, v11, v12, v13, v14, v15, v16, v17, undef, undef, undef, undef, undef, undef, undef, undef, undef, undef, undef, undef, undef], []⟩ ∧ impl_conflictsOf.RI w nm A B C (.slice A0 n0 c0) (.slice A1 n1 c1) (.slice A2 n2 c2) #[.int .i64 x1, .bool x2] #[.int .i64 y1, .bool y2] #[.int .i64 z1, .bool z2] v6 v7 v8 v9 v10 v11 v12 v13 v14 v15 v16 v17 l W) ?_ ?_ ?_ _ _ _ _ ?_ ?_
  · rintro l a W ⟨v6, v7, v8, v9, v10, v11, v12, v13, v14, v15, v16, v17, rfl, H⟩
    exact H.sz
  · rintro l a W ⟨v6, v7, v8, v9, v10, v11, v12, v13, v14, v15, v16, v17, rfl, H⟩ hr
    have hs := H.sz
    have g0 : l.getD 0 false = true := impl_conflictsOf.all hr (by omega) rfl (by simp [Region.binds])
    have k0 : l[0]?.getD false = true := by rw [← Array.getD_eq_getD_getElem?]; exact g0
    have g1 : l.getD 1 false = true := impl_conflictsOf.all hr (by omega) rfl (by simp [Region.binds, k0])
    have k1 : l[1]?.getD false = true := by rw [← Array.getD_eq_getD_getElem?]; exact g1
    have g2 : l.getD 2 false = true := impl_conflictsOf.all hr (by omega) rfl (by simp [Region.binds, k0, k1])
    have k2 : l[2]?.getD false = true := by rw [← Array.getD_eq_getD_getElem?]; exact g2
    have g3 : l.getD 3 false = true := impl_conflictsOf.all hr (by omega) rfl (by simp [Region.binds, k0, k1, k2])
    have k3 : l[3]?.getD false = true := by rw [← Array.getD_eq_getD_getElem?]; exact g3
    have g4 : l.getD 4 false = true := impl_conflictsOf.all hr (by omega) rfl (by simp [Region.binds, k0, k1, k2, k3])
    have k4 : l[4]?.getD false = true := by rw [← Array.getD_eq_getD_getElem?]; exact g4
    have g5 : l.getD 5 false = true := impl_conflictsOf.all hr (by omega) rfl (by simp [Region.binds, k0, k1, k2, k3, k4])
    have k5 : l[5]?.getD false = true := by rw [← Array.getD_eq_getD_getElem?]; exact g5
    have g6 : l.getD 6 false = true := impl_conflictsOf.all hr (by omega) rfl (by simp [Region.binds, k0, k1, k2, k3, k4, k5])
    have k6 : l[6]?.getD false = true := by rw [← Array.getD_eq_getD_getElem?]; exact g6
    have g7 : l.getD 7 false = true := impl_conflictsOf.all hr (by omega) rfl (by simp [Region.binds, k0, k1, k2, k3, k4, k5, k6])
    have k7 : l[7]?.getD false = true := by rw [← Array.getD_eq_getD_getElem?]; exact g7
    have g8 : l.getD 8 false = true := impl_conflictsOf.all hr (by omega) rfl (by simp [Region.binds, k0, k1, k2, k3, k4, k5, k6, k7])
    have k8 : l[8]?.getD false = true := by rw [← Array.getD_eq_getD_getElem?]; exact g8
    have g9 : l.getD 9 false = true := impl_conflictsOf.all hr (by omega) rfl (by simp [Region.binds, k0, k1, k2, k3, k4, k5, k6, k7, k8])
    have k9 : l[9]?.getD false = true := by rw [← Array.getD_eq_getD_getElem?]; exact g9
    have g10 : l.getD 10 false = true := impl_conflictsOf.all hr (by omega) rfl (by simp [Region.binds, k0, k1, k2, k3, k4, k5, k6, k7, k8, k9])
    have k10 : l[10]?.getD false = true := by rw [← Array.getD_eq_getD_getElem?]; exact g10
    have g11 : l.getD 11 false = true := impl_conflictsOf.all hr (by omega) rfl (by simp [Region.binds, k0, k1, k2, k3, k4, k5, k6, k7, k8, k9, k10])
    have k11 : l[11]?.getD false = true := by rw [← Array.getD_eq_getD_getElem?]; exact g11
    have g12 : l.getD 12 false = true := impl_conflictsOf.all hr (by omega) rfl (by simp [Region.binds, k0, k1, k2, k3, k4, k5, k6, k7, k8, k9, k10, k11])
    have k12 : l[12]?.getD false = true := by rw [← Array.getD_eq_getD_getElem?]; exact g12
    have g13 : l.getD 13 false = true := impl_conflictsOf.all hr (by omega) rfl (by simp [Region.binds, k0, k1, k2, k3, k4, k5, k6, k7, k8, k9, k10, k11, k12])
    have k13 : l[13]?.getD false = true := by rw [← Array.getD_eq_getD_getElem?]; exact g13
    have g14 : l.getD 14 false = true := impl_conflictsOf.all hr (by omega) rfl (by simp [Region.binds, k0, k1, k2, k3, k4, k5, k6, k7, k8, k9, k10, k11, k12, k13])
    have k14 : l[14]?.getD false = true := by rw [← Array.getD_eq_getD_getElem?]; exact g14
    obtain ⟨a6, rfl, b6, kk6⟩ := H.c9 g9
    obtain ⟨a7, rfl, b7, kk7⟩ := H.c10 g10
    obtain ⟨a8, rfl, b8, kk8⟩ := H.c11 g11
    unfold impl_conflictsOf.cc at kk6 kk7 kk8
    rw [if_pos g12] at kk6
    rw [if_pos g13] at kk7
    rw [if_pos g14] at kk8
    have HB := Aside0.mk H.bl
    have m6_0 : W.cell? ⟨a6, 0, none⟩ = some (.int .i64 x1) := (blk_cell kk6 0).trans rfl
    have m6_1 : W.cell? ⟨a6, 1, none⟩ = some (.bool x2) := (blk_cell kk6 1).trans rfl
    have m7_0 : W.cell? ⟨a7, 0, none⟩ = some (.int .i64 y1) := (blk_cell kk7 0).trans rfl
    have m7_1 : W.cell? ⟨a7, 1, none⟩ = some (.bool y2) := (blk_cell kk7 1).trans rfl
    have m8_0 : W.cell? ⟨a8, 0, none⟩ = some (.int .i64 z1) := (blk_cell kk8 0).trans rfl
    have m8_1 : W.cell? ⟨a8, 1, none⟩ = some (.bool z2) := (blk_cell kk8 1).trans rfl
    clear kk6 kk7 kk8 b6 b7 b8 H hr hs g0 k0 g1 k1 g2 k2 g3 k3 g4 k4 g5 k5 g6 k6 g7 k7 g8 k8 g9 k9 g10 k10 g11 k11 g12 k12 g13 k13 g14 k14
    refine HK.out _ _ ?_
    go_wp2
    all_goals go_ret
    all_goals exact ⟨by first | (simp [*]; done) | (simp [*]; refine ⟨fun h => ?_, fun h => ?_⟩ <;> omega) | (simp [*]; omega) | (simp [*]; intros; omega), HB.out⟩
  · rintro l a W ⟨v6, v7, v8, v9, v10, v11, v12, v13, v14, v15, v16, v17, rfl, H⟩ i hi
    have hn := impl_conflictsOf.new hi
    have hs := H.sz
    have hlt : i < 15 := by
      have := (List.mem_filter.1 hi).1
      exact List.mem_range.1 this
    have hB := H.bl
    have j1 : W.cell? A = some (.slice A0 n0 c0) := pw_cell_below hB HA.out
    have j2 : W.cell? B = some (.slice A1 n1 c1) := pw_cell_below hB HBc.out
    have j3 : W.cell? C = some (.slice A2 n2 c2) := pw_cell_below hB HC.out
    have hcases : i = 0 ∨ i = 1 ∨ i = 2 ∨ i = 3 ∨ i = 4 ∨ i = 5 ∨ i = 6 ∨ i = 7 ∨ i = 8 ∨ i = 9 ∨ i = 10 ∨ i = 11 ∨ i = 12 ∨ i = 13 ∨ i = 14 := by omega
    rcases hcases with rfl | rfl | rfl | rfl | rfl | rfl | rfl | rfl | rfl | rfl | rfl | rfl | rfl | rfl | rfl
    · refine wpOp_step (o := _) rfl (fun K' hK => ?_)
      rw [if_pos (by rfl)]
      go_simp
      exact hK _ _ ⟨_, _, _, _, _, _, _, _, _, _, _, _, rfl, { sz := by rw [Array.size_setIfInBounds]; exact H.sz, c0 := fun _ => rfl, c1 := impl_conflictsOf.Fo (by decide) H.c1, c2 := impl_conflictsOf.Fo (by decide) H.c2, c3 := impl_conflictsOf.Fo (by decide) H.c3, c4 := impl_conflictsOf.Fo (by decide) H.c4, c5 := impl_conflictsOf.Fo (by decide) H.c5, c6 := impl_conflictsOf.Fo (by decide) H.c6, c7 := impl_conflictsOf.Fo (by decide) H.c7, c8 := impl_conflictsOf.Fo (by decide) H.c8, c9 := fun e => by rw [impl_conflictsOf.cco (by decide)]; exact H.c9 ((impl_conflictsOf.gdo (by decide)).symm.trans e), c10 := fun e => by rw [impl_conflictsOf.cco (by decide)]; exact H.c10 ((impl_conflictsOf.gdo (by decide)).symm.trans e), c11 := fun e => by rw [impl_conflictsOf.cco (by decide)]; exact H.c11 ((impl_conflictsOf.gdo (by decide)).symm.trans e), d0 := fun e e2 => H.d0 ((impl_conflictsOf.gdo (by decide)).symm.trans e) ((impl_conflictsOf.gdo (by decide)).symm.trans e2), d1 := fun e e2 => H.d1 ((impl_conflictsOf.gdo (by decide)).symm.trans e) ((impl_conflictsOf.gdo (by decide)).symm.trans e2), d2 := fun e e2 => H.d2 ((impl_conflictsOf.gdo (by decide)).symm.trans e) ((impl_conflictsOf.gdo (by decide)).symm.trans e2), e0 := fun e => (impl_conflictsOf.gdo (by decide)).trans (H.e0 ((impl_conflictsOf.gdo (by decide)).symm.trans e)), e1 := fun e => (impl_conflictsOf.gdo (by decide)).trans (H.e1 ((impl_conflictsOf.gdo (by decide)).symm.trans e)), e2 := fun e => (impl_conflictsOf.gdo (by decide)).trans (H.e2 ((impl_conflictsOf.gdo (by decide)).symm.trans e)), bl := H.bl }⟩
    · refine wpOp_step (o := _) rfl (fun K' hK => ?_)
      rw [if_pos (by rfl)]
      go_simp
      exact hK _ _ ⟨_, _, _, _, _, _, _, _, _, _, _, _, rfl, { sz := by rw [Array.size_setIfInBounds]; exact H.sz, c0 := impl_conflictsOf.Fo (by decide) H.c0, c1 := fun _ => rfl, c2 := impl_conflictsOf.Fo (by decide) H.c2, c3 := impl_conflictsOf.Fo (by decide) H.c3, c4 := impl_conflictsOf.Fo (by decide) H.c4, c5 := impl_conflictsOf.Fo (by decide) H.c5, c6 := impl_conflictsOf.Fo (by decide) H.c6, c7 := impl_conflictsOf.Fo (by decide) H.c7, c8 := impl_conflictsOf.Fo (by decide) H.c8, c9 := fun e => by rw [impl_conflictsOf.cco (by decide)]; exact H.c9 ((impl_conflictsOf.gdo (by decide)).symm.trans e), c10 := fun e => by rw [impl_conflictsOf.cco (by decide)]; exact H.c10 ((impl_conflictsOf.gdo (by decide)).symm.trans e), c11 := fun e => by rw [impl_conflictsOf.cco (by decide)]; exact H.c11 ((impl_conflictsOf.gdo (by decide)).symm.trans e), d0 := fun e e2 => H.d0 ((impl_conflictsOf.gdo (by decide)).symm.trans e) ((impl_conflictsOf.gdo (by decide)).symm.trans e2), d1 := fun e e2 => H.d1 ((impl_conflictsOf.gdo (by decide)).symm.trans e) ((impl_conflictsOf.gdo (by decide)).symm.trans e2), d2 := fun e e2 => H.d2 ((impl_conflictsOf.gdo (by decide)).symm.trans e) ((impl_conflictsOf.gdo (by decide)).symm.trans e2), e0 := fun e => (impl_conflictsOf.gdo (by decide)).trans (H.e0 ((impl_conflictsOf.gdo (by decide)).symm.trans e)), e1 := fun e => (impl_conflictsOf.gdo (by decide)).trans (H.e1 ((impl_conflictsOf.gdo (by decide)).symm.trans e)), e2 := fun e => (impl_conflictsOf.gdo (by decide)).trans (H.e2 ((impl_conflictsOf.gdo (by decide)).symm.trans e)), bl := H.bl }⟩
    · refine wpOp_step (o := _) rfl (fun K' hK => ?_)
      have q1 := H.c0 (impl_conflictsOf.dep hi rfl (.head _) rfl)
      have q2 := H.c1 (impl_conflictsOf.dep hi rfl (.tail _ (.head _)) rfl)
      subst q1 q2
      rw [if_pos (by rfl)]
      go_wp2_with (go_at_call 71; refine (HX.out _ hB).mono ?_; rintro e w1 ⟨rfl, hb⟩)
      exact ⟨_, _, _, _, _, _, _, _, _, _, _, _, rfl, { sz := by rw [Array.size_setIfInBounds]; exact H.sz, c0 := impl_conflictsOf.Fo (by decide) H.c0, c1 := impl_conflictsOf.Fo (by decide) H.c1, c2 := fun _ => rfl, c3 := impl_conflictsOf.Fo (by decide) H.c3, c4 := impl_conflictsOf.Fo (by decide) H.c4, c5 := impl_conflictsOf.Fo (by decide) H.c5, c6 := impl_conflictsOf.Fo (by decide) H.c6, c7 := impl_conflictsOf.Fo (by decide) H.c7, c8 := impl_conflictsOf.Fo (by decide) H.c8, c9 := fun e => by rw [impl_conflictsOf.cco (by decide)]; exact impl_conflictsOf.BKb (H.c9 ((impl_conflictsOf.gdo (by decide)).symm.trans e)) hb, c10 := fun e => by rw [impl_conflictsOf.cco (by decide)]; exact impl_conflictsOf.BKb (H.c10 ((impl_conflictsOf.gdo (by decide)).symm.trans e)) hb, c11 := fun e => by rw [impl_conflictsOf.cco (by decide)]; exact impl_conflictsOf.BKb (H.c11 ((impl_conflictsOf.gdo (by decide)).symm.trans e)) hb, d0 := fun e e2 => H.d0 ((impl_conflictsOf.gdo (by decide)).symm.trans e) ((impl_conflictsOf.gdo (by decide)).symm.trans e2), d1 := fun e e2 => H.d1 ((impl_conflictsOf.gdo (by decide)).symm.trans e) ((impl_conflictsOf.gdo (by decide)).symm.trans e2), d2 := fun e e2 => H.d2 ((impl_conflictsOf.gdo (by decide)).symm.trans e) ((impl_conflictsOf.gdo (by decide)).symm.trans e2), e0 := fun e => (impl_conflictsOf.gdo (by decide)).trans (H.e0 ((impl_conflictsOf.gdo (by decide)).symm.trans e)), e1 := fun e => (impl_conflictsOf.gdo (by decide)).trans (H.e1 ((impl_conflictsOf.gdo (by decide)).symm.trans e)), e2 := fun e => (impl_conflictsOf.gdo (by decide)).trans (H.e2 ((impl_conflictsOf.gdo (by decide)).symm.trans e)), bl := below_step hB hb }⟩
    · refine wpOp_step (o := _) rfl (fun K' hK => ?_)
      rw [if_pos (by rfl)]
      go_simp
      exact hK _ _ ⟨_, _, _, _, _, _, _, _, _, _, _, _, rfl, { sz := by rw [Array.size_setIfInBounds]; exact H.sz, c0 := impl_conflictsOf.Fo (by decide) H.c0, c1 := impl_conflictsOf.Fo (by decide) H.c1, c2 := impl_conflictsOf.Fo (by decide) H.c2, c3 := fun _ => rfl, c4 := impl_conflictsOf.Fo (by decide) H.c4, c5 := impl_conflictsOf.Fo (by decide) H.c5, c6 := impl_conflictsOf.Fo (by decide) H.c6, c7 := impl_conflictsOf.Fo (by decide) H.c7, c8 := impl_conflictsOf.Fo (by decide) H.c8, c9 := fun e => by rw [impl_conflictsOf.cco (by decide)]; exact H.c9 ((impl_conflictsOf.gdo (by decide)).symm.trans e), c10 := fun e => by rw [impl_conflictsOf.cco (by decide)]; exact H.c10 ((impl_conflictsOf.gdo (by decide)).symm.trans e), c11 := fun e => by rw [impl_conflictsOf.cco (by decide)]; exact H.c11 ((impl_conflictsOf.gdo (by decide)).symm.trans e), d0 := fun e e2 => H.d0 ((impl_conflictsOf.gdo (by decide)).symm.trans e) ((impl_conflictsOf.gdo (by decide)).symm.trans e2), d1 := fun e e2 => H.d1 ((impl_conflictsOf.gdo (by decide)).symm.trans e) ((impl_conflictsOf.gdo (by decide)).symm.trans e2), d2 := fun e e2 => H.d2 ((impl_conflictsOf.gdo (by decide)).symm.trans e) ((impl_conflictsOf.gdo (by decide)).symm.trans e2), e0 := fun e => (impl_conflictsOf.gdo (by decide)).trans (H.e0 ((impl_conflictsOf.gdo (by decide)).symm.trans e)), e1 := fun e => (impl_conflictsOf.gdo (by decide)).trans (H.e1 ((impl_conflictsOf.gdo (by decide)).symm.trans e)), e2 := fun e => (impl_conflictsOf.gdo (by decide)).trans (H.e2 ((impl_conflictsOf.gdo (by decide)).symm.trans e)), bl := H.bl }⟩
    · refine wpOp_step (o := _) rfl (fun K' hK => ?_)
      rw [if_pos (by rfl)]
      go_simp
      exact hK _ _ ⟨_, _, _, _, _, _, _, _, _, _, _, _, rfl, { sz := by rw [Array.size_setIfInBounds]; exact H.sz, c0 := impl_conflictsOf.Fo (by decide) H.c0, c1 := impl_conflictsOf.Fo (by decide) H.c1, c2 := impl_conflictsOf.Fo (by decide) H.c2, c3 := impl_conflictsOf.Fo (by decide) H.c3, c4 := fun _ => rfl, c5 := impl_conflictsOf.Fo (by decide) H.c5, c6 := impl_conflictsOf.Fo (by decide) H.c6, c7 := impl_conflictsOf.Fo (by decide) H.c7, c8 := impl_conflictsOf.Fo (by decide) H.c8, c9 := fun e => by rw [impl_conflictsOf.cco (by decide)]; exact H.c9 ((impl_conflictsOf.gdo (by decide)).symm.trans e), c10 := fun e => by rw [impl_conflictsOf.cco (by decide)]; exact H.c10 ((impl_conflictsOf.gdo (by decide)).symm.trans e), c11 := fun e => by rw [impl_conflictsOf.cco (by decide)]; exact H.c11 ((impl_conflictsOf.gdo (by decide)).symm.trans e), d0 := fun e e2 => H.d0 ((impl_conflictsOf.gdo (by decide)).symm.trans e) ((impl_conflictsOf.gdo (by decide)).symm.trans e2), d1 := fun e e2 => H.d1 ((impl_conflictsOf.gdo (by decide)).symm.trans e) ((impl_conflictsOf.gdo (by decide)).symm.trans e2), d2 := fun e e2 => H.d2 ((impl_conflictsOf.gdo (by decide)).symm.trans e) ((impl_conflictsOf.gdo (by decide)).symm.trans e2), e0 := fun e => (impl_conflictsOf.gdo (by decide)).trans (H.e0 ((impl_conflictsOf.gdo (by decide)).symm.trans e)), e1 := fun e => (impl_conflictsOf.gdo (by decide)).trans (H.e1 ((impl_conflictsOf.gdo (by decide)).symm.trans e)), e2 := fun e => (impl_conflictsOf.gdo (by decide)).trans (H.e2 ((impl_conflictsOf.gdo (by decide)).symm.trans e)), bl := H.bl }⟩
    · refine wpOp_step (o := _) rfl (fun K' hK => ?_)
      have q1 := H.c3 (impl_conflictsOf.dep hi rfl (.head _) rfl)
      have q2 := H.c4 (impl_conflictsOf.dep hi rfl (.tail _ (.head _)) rfl)
      subst q1 q2
      rw [if_pos (by rfl)]
      go_wp2_with (go_at_call 71; refine (HY.out _ hB).mono ?_; rintro e w1 ⟨rfl, hb⟩)
      exact ⟨_, _, _, _, _, _, _, _, _, _, _, _, rfl, { sz := by rw [Array.size_setIfInBounds]; exact H.sz, c0 := impl_conflictsOf.Fo (by decide) H.c0, c1 := impl_conflictsOf.Fo (by decide) H.c1, c2 := impl_conflictsOf.Fo (by decide) H.c2, c3 := impl_conflictsOf.Fo (by decide) H.c3, c4 := impl_conflictsOf.Fo (by decide) H.c4, c5 := fun _ => rfl, c6 := impl_conflictsOf.Fo (by decide) H.c6, c7 := impl_conflictsOf.Fo (by decide) H.c7, c8 := impl_conflictsOf.Fo (by decide) H.c8, c9 := fun e => by rw [impl_conflictsOf.cco (by decide)]; exact impl_conflictsOf.BKb (H.c9 ((impl_conflictsOf.gdo (by decide)).symm.trans e)) hb, c10 := fun e => by rw [impl_conflictsOf.cco (by decide)]; exact impl_conflictsOf.BKb (H.c10 ((impl_conflictsOf.gdo (by decide)).symm.trans e)) hb, c11 := fun e => by rw [impl_conflictsOf.cco (by decide)]; exact impl_conflictsOf.BKb (H.c11 ((impl_conflictsOf.gdo (by decide)).symm.trans e)) hb, d0 := fun e e2 => H.d0 ((impl_conflictsOf.gdo (by decide)).symm.trans e) ((impl_conflictsOf.gdo (by decide)).symm.trans e2), d1 := fun e e2 => H.d1 ((impl_conflictsOf.gdo (by decide)).symm.trans e) ((impl_conflictsOf.gdo (by decide)).symm.trans e2), d2 := fun e e2 => H.d2 ((impl_conflictsOf.gdo (by decide)).symm.trans e) ((impl_conflictsOf.gdo (by decide)).symm.trans e2), e0 := fun e => (impl_conflictsOf.gdo (by decide)).trans (H.e0 ((impl_conflictsOf.gdo (by decide)).symm.trans e)), e1 := fun e => (impl_conflictsOf.gdo (by decide)).trans (H.e1 ((impl_conflictsOf.gdo (by decide)).symm.trans e)), e2 := fun e => (impl_conflictsOf.gdo (by decide)).trans (H.e2 ((impl_conflictsOf.gdo (by decide)).symm.trans e)), bl := below_step hB hb }⟩
    · refine wpOp_step (o := _) rfl (fun K' hK => ?_)
      rw [if_pos (by rfl)]
      go_simp
      exact hK _ _ ⟨_, _, _, _, _, _, _, _, _, _, _, _, rfl, { sz := by rw [Array.size_setIfInBounds]; exact H.sz, c0 := impl_conflictsOf.Fo (by decide) H.c0, c1 := impl_conflictsOf.Fo (by decide) H.c1, c2 := impl_conflictsOf.Fo (by decide) H.c2, c3 := impl_conflictsOf.Fo (by decide) H.c3, c4 := impl_conflictsOf.Fo (by decide) H.c4, c5 := impl_conflictsOf.Fo (by decide) H.c5, c6 := fun _ => rfl, c7 := impl_conflictsOf.Fo (by decide) H.c7, c8 := impl_conflictsOf.Fo (by decide) H.c8, c9 := fun e => by rw [impl_conflictsOf.cco (by decide)]; exact H.c9 ((impl_conflictsOf.gdo (by decide)).symm.trans e), c10 := fun e => by rw [impl_conflictsOf.cco (by decide)]; exact H.c10 ((impl_conflictsOf.gdo (by decide)).symm.trans e), c11 := fun e => by rw [impl_conflictsOf.cco (by decide)]; exact H.c11 ((impl_conflictsOf.gdo (by decide)).symm.trans e), d0 := fun e e2 => H.d0 ((impl_conflictsOf.gdo (by decide)).symm.trans e) ((impl_conflictsOf.gdo (by decide)).symm.trans e2), d1 := fun e e2 => H.d1 ((impl_conflictsOf.gdo (by decide)).symm.trans e) ((impl_conflictsOf.gdo (by decide)).symm.trans e2), d2 := fun e e2 => H.d2 ((impl_conflictsOf.gdo (by decide)).symm.trans e) ((impl_conflictsOf.gdo (by decide)).symm.trans e2), e0 := fun e => (impl_conflictsOf.gdo (by decide)).trans (H.e0 ((impl_conflictsOf.gdo (by decide)).symm.trans e)), e1 := fun e => (impl_conflictsOf.gdo (by decide)).trans (H.e1 ((impl_conflictsOf.gdo (by decide)).symm.trans e)), e2 := fun e => (impl_conflictsOf.gdo (by decide)).trans (H.e2 ((impl_conflictsOf.gdo (by decide)).symm.trans e)), bl := H.bl }⟩
    · refine wpOp_step (o := _) rfl (fun K' hK => ?_)
      rw [if_pos (by rfl)]
      go_simp
      exact hK _ _ ⟨_, _, _, _, _, _, _, _, _, _, _, _, rfl, { sz := by rw [Array.size_setIfInBounds]; exact H.sz, c0 := impl_conflictsOf.Fo (by decide) H.c0, c1 := impl_conflictsOf.Fo (by decide) H.c1, c2 := impl_conflictsOf.Fo (by decide) H.c2, c3 := impl_conflictsOf.Fo (by decide) H.c3, c4 := impl_conflictsOf.Fo (by decide) H.c4, c5 := impl_conflictsOf.Fo (by decide) H.c5, c6 := impl_conflictsOf.Fo (by decide) H.c6, c7 := fun _ => rfl, c8 := impl_conflictsOf.Fo (by decide) H.c8, c9 := fun e => by rw [impl_conflictsOf.cco (by decide)]; exact H.c9 ((impl_conflictsOf.gdo (by decide)).symm.trans e), c10 := fun e => by rw [impl_conflictsOf.cco (by decide)]; exact H.c10 ((impl_conflictsOf.gdo (by decide)).symm.trans e), c11 := fun e => by rw [impl_conflictsOf.cco (by decide)]; exact H.c11 ((impl_conflictsOf.gdo (by decide)).symm.trans e), d0 := fun e e2 => H.d0 ((impl_conflictsOf.gdo (by decide)).symm.trans e) ((impl_conflictsOf.gdo (by decide)).symm.trans e2), d1 := fun e e2 => H.d1 ((impl_conflictsOf.gdo (by decide)).symm.trans e) ((impl_conflictsOf.gdo (by decide)).symm.trans e2), d2 := fun e e2 => H.d2 ((impl_conflictsOf.gdo (by decide)).symm.trans e) ((impl_conflictsOf.gdo (by decide)).symm.trans e2), e0 := fun e => (impl_conflictsOf.gdo (by decide)).trans (H.e0 ((impl_conflictsOf.gdo (by decide)).symm.trans e)), e1 := fun e => (impl_conflictsOf.gdo (by decide)).trans (H.e1 ((impl_conflictsOf.gdo (by decide)).symm.trans e)), e2 := fun e => (impl_conflictsOf.gdo (by decide)).trans (H.e2 ((impl_conflictsOf.gdo (by decide)).symm.trans e)), bl := H.bl }⟩
    · refine wpOp_step (o := _) rfl (fun K' hK => ?_)
      have q1 := H.c6 (impl_conflictsOf.dep hi rfl (.head _) rfl)
      have q2 := H.c7 (impl_conflictsOf.dep hi rfl (.tail _ (.head _)) rfl)
      subst q1 q2
      rw [if_pos (by rfl)]
      go_wp2_with (go_at_call 71; refine (HZ.out _ hB).mono ?_; rintro e w1 ⟨rfl, hb⟩)
      exact ⟨_, _, _, _, _, _, _, _, _, _, _, _, rfl, { sz := by rw [Array.size_setIfInBounds]; exact H.sz, c0 := impl_conflictsOf.Fo (by decide) H.c0, c1 := impl_conflictsOf.Fo (by decide) H.c1, c2 := impl_conflictsOf.Fo (by decide) H.c2, c3 := impl_conflictsOf.Fo (by decide) H.c3, c4 := impl_conflictsOf.Fo (by decide) H.c4, c5 := impl_conflictsOf.Fo (by decide) H.c5, c6 := impl_conflictsOf.Fo (by decide) H.c6, c7 := impl_conflictsOf.Fo (by decide) H.c7, c8 := fun _ => rfl, c9 := fun e => by rw [impl_conflictsOf.cco (by decide)]; exact impl_conflictsOf.BKb (H.c9 ((impl_conflictsOf.gdo (by decide)).symm.trans e)) hb, c10 := fun e => by rw [impl_conflictsOf.cco (by decide)]; exact impl_conflictsOf.BKb (H.c10 ((impl_conflictsOf.gdo (by decide)).symm.trans e)) hb, c11 := fun e => by rw [impl_conflictsOf.cco (by decide)]; exact impl_conflictsOf.BKb (H.c11 ((impl_conflictsOf.gdo (by decide)).symm.trans e)) hb, d0 := fun e e2 => H.d0 ((impl_conflictsOf.gdo (by decide)).symm.trans e) ((impl_conflictsOf.gdo (by decide)).symm.trans e2), d1 := fun e e2 => H.d1 ((impl_conflictsOf.gdo (by decide)).symm.trans e) ((impl_conflictsOf.gdo (by decide)).symm.trans e2), d2 := fun e e2 => H.d2 ((impl_conflictsOf.gdo (by decide)).symm.trans e) ((impl_conflictsOf.gdo (by decide)).symm.trans e2), e0 := fun e => (impl_conflictsOf.gdo (by decide)).trans (H.e0 ((impl_conflictsOf.gdo (by decide)).symm.trans e)), e1 := fun e => (impl_conflictsOf.gdo (by decide)).trans (H.e1 ((impl_conflictsOf.gdo (by decide)).symm.trans e)), e2 := fun e => (impl_conflictsOf.gdo (by decide)).trans (H.e2 ((impl_conflictsOf.gdo (by decide)).symm.trans e)), bl := below_step hB hb }⟩
    · refine wpOp_step (o := _) rfl (fun K' hK => ?_)
      rw [if_pos (by rfl)]
      go_simp
      have hb := below_alloc (Below.refl W.heap.size W) (.cells #[.int .i64 0, .bool false] 102 (0, 0))
      exact hK _ _ ⟨_, _, _, _, _, _, _, _, _, _, _, _, rfl, { sz := by rw [Array.size_setIfInBounds]; exact H.sz, c0 := impl_conflictsOf.Fo (by decide) H.c0, c1 := impl_conflictsOf.Fo (by decide) H.c1, c2 := impl_conflictsOf.Fo (by decide) H.c2, c3 := impl_conflictsOf.Fo (by decide) H.c3, c4 := impl_conflictsOf.Fo (by decide) H.c4, c5 := impl_conflictsOf.Fo (by decide) H.c5, c6 := impl_conflictsOf.Fo (by decide) H.c6, c7 := impl_conflictsOf.Fo (by decide) H.c7, c8 := impl_conflictsOf.Fo (by decide) H.c8, c9 := fun _ => by rw [impl_conflictsOf.cco (by decide)]; unfold impl_conflictsOf.cc; rw [if_neg (fun e => by have := H.e0 e; rw [impl_conflictsOf.gdf (by omega) hn] at this; cases this)]; exact ⟨W.heap.size, rfl, hB.size, blk_new W _⟩, c10 := fun e => by rw [impl_conflictsOf.cco (by decide)]; exact impl_conflictsOf.BKb (H.c10 ((impl_conflictsOf.gdo (by decide)).symm.trans e)) hb, c11 := fun e => by rw [impl_conflictsOf.cco (by decide)]; exact impl_conflictsOf.BKb (H.c11 ((impl_conflictsOf.gdo (by decide)).symm.trans e)) hb, d0 := fun _ e2 => (impl_conflictsOf.BKn (H.c10 ((impl_conflictsOf.gdo (by decide)).symm.trans e2))).symm, d1 := fun _ e2 => (impl_conflictsOf.BKn (H.c11 ((impl_conflictsOf.gdo (by decide)).symm.trans e2))).symm, d2 := fun e e2 => H.d2 ((impl_conflictsOf.gdo (by decide)).symm.trans e) ((impl_conflictsOf.gdo (by decide)).symm.trans e2), e0 := fun e => impl_conflictsOf.gds (by omega), e1 := fun e => (impl_conflictsOf.gdo (by decide)).trans (H.e1 ((impl_conflictsOf.gdo (by decide)).symm.trans e)), e2 := fun e => (impl_conflictsOf.gdo (by decide)).trans (H.e2 ((impl_conflictsOf.gdo (by decide)).symm.trans e)), bl := below_step hB hb }⟩
    · refine wpOp_step (o := _) rfl (fun K' hK => ?_)
      rw [if_pos (by rfl)]
      go_simp
      have hb := below_alloc (Below.refl W.heap.size W) (.cells #[.int .i64 0, .bool false] 102 (0, 0))
      exact hK _ _ ⟨_, _, _, _, _, _, _, _, _, _, _, _, rfl, { sz := by rw [Array.size_setIfInBounds]; exact H.sz, c0 := impl_conflictsOf.Fo (by decide) H.c0, c1 := impl_conflictsOf.Fo (by decide) H.c1, c2 := impl_conflictsOf.Fo (by decide) H.c2, c3 := impl_conflictsOf.Fo (by decide) H.c3, c4 := impl_conflictsOf.Fo (by decide) H.c4, c5 := impl_conflictsOf.Fo (by decide) H.c5, c6 := impl_conflictsOf.Fo (by decide) H.c6, c7 := impl_conflictsOf.Fo (by decide) H.c7, c8 := impl_conflictsOf.Fo (by decide) H.c8, c9 := fun e => by rw [impl_conflictsOf.cco (by decide)]; exact impl_conflictsOf.BKb (H.c9 ((impl_conflictsOf.gdo (by decide)).symm.trans e)) hb, c10 := fun _ => by rw [impl_conflictsOf.cco (by decide)]; unfold impl_conflictsOf.cc; rw [if_neg (fun e => by have := H.e1 e; rw [impl_conflictsOf.gdf (by omega) hn] at this; cases this)]; exact ⟨W.heap.size, rfl, hB.size, blk_new W _⟩, c11 := fun e => by rw [impl_conflictsOf.cco (by decide)]; exact impl_conflictsOf.BKb (H.c11 ((impl_conflictsOf.gdo (by decide)).symm.trans e)) hb, d0 := fun e _ => impl_conflictsOf.BKn (H.c9 ((impl_conflictsOf.gdo (by decide)).symm.trans e)), d1 := fun e e2 => H.d1 ((impl_conflictsOf.gdo (by decide)).symm.trans e) ((impl_conflictsOf.gdo (by decide)).symm.trans e2), d2 := fun _ e2 => (impl_conflictsOf.BKn (H.c11 ((impl_conflictsOf.gdo (by decide)).symm.trans e2))).symm, e0 := fun e => (impl_conflictsOf.gdo (by decide)).trans (H.e0 ((impl_conflictsOf.gdo (by decide)).symm.trans e)), e1 := fun e => impl_conflictsOf.gds (by omega), e2 := fun e => (impl_conflictsOf.gdo (by decide)).trans (H.e2 ((impl_conflictsOf.gdo (by decide)).symm.trans e)), bl := below_step hB hb }⟩
    · refine wpOp_step (o := _) rfl (fun K' hK => ?_)
      rw [if_pos (by rfl)]
      go_simp
      have hb := below_alloc (Below.refl W.heap.size W) (.cells #[.int .i64 0, .bool false] 102 (0, 0))
      exact hK _ _ ⟨_, _, _, _, _, _, _, _, _, _, _, _, rfl, { sz := by rw [Array.size_setIfInBounds]; exact H.sz, c0 := impl_conflictsOf.Fo (by decide) H.c0, c1 := impl_conflictsOf.Fo (by decide) H.c1, c2 := impl_conflictsOf.Fo (by decide) H.c2, c3 := impl_conflictsOf.Fo (by decide) H.c3, c4 := impl_conflictsOf.Fo (by decide) H.c4, c5 := impl_conflictsOf.Fo (by decide) H.c5, c6 := impl_conflictsOf.Fo (by decide) H.c6, c7 := impl_conflictsOf.Fo (by decide) H.c7, c8 := impl_conflictsOf.Fo (by decide) H.c8, c9 := fun e => by rw [impl_conflictsOf.cco (by decide)]; exact impl_conflictsOf.BKb (H.c9 ((impl_conflictsOf.gdo (by decide)).symm.trans e)) hb, c10 := fun e => by rw [impl_conflictsOf.cco (by decide)]; exact impl_conflictsOf.BKb (H.c10 ((impl_conflictsOf.gdo (by decide)).symm.trans e)) hb, c11 := fun _ => by rw [impl_conflictsOf.cco (by decide)]; unfold impl_conflictsOf.cc; rw [if_neg (fun e => by have := H.e2 e; rw [impl_conflictsOf.gdf (by omega) hn] at this; cases this)]; exact ⟨W.heap.size, rfl, hB.size, blk_new W _⟩, d0 := fun e e2 => H.d0 ((impl_conflictsOf.gdo (by decide)).symm.trans e) ((impl_conflictsOf.gdo (by decide)).symm.trans e2), d1 := fun e _ => impl_conflictsOf.BKn (H.c9 ((impl_conflictsOf.gdo (by decide)).symm.trans e)), d2 := fun e _ => impl_conflictsOf.BKn (H.c10 ((impl_conflictsOf.gdo (by decide)).symm.trans e)), e0 := fun e => (impl_conflictsOf.gdo (by decide)).trans (H.e0 ((impl_conflictsOf.gdo (by decide)).symm.trans e)), e1 := fun e => (impl_conflictsOf.gdo (by decide)).trans (H.e1 ((impl_conflictsOf.gdo (by decide)).symm.trans e)), e2 := fun e => impl_conflictsOf.gds (by omega), bl := below_step hB hb }⟩
    · refine wpOp_step (o := _) rfl (fun K' hK => ?_)
      have gc : l.getD 9 false = true := impl_conflictsOf.dep hi rfl (.head _) rfl
      have q1 := H.c2 (impl_conflictsOf.dep hi rfl (.tail _ (.head _)) rfl)
      obtain ⟨g, hv, hg, hk⟩ := H.c9 gc
      subst q1 hv
      unfold impl_conflictsOf.cc at hk
      rw [impl_conflictsOf.gdf (by omega) hn, if_neg (by decide)] at hk
      have m0 : W.cell? ⟨g, 0, none⟩ = some (.int .i64 0) := (blk_cell hk 0).trans rfl
      have m1 : W.cell? ⟨g, 1, none⟩ = some (.bool false) := (blk_cell hk 1).trans rfl
      have f0 := blk_frozen hk 0
      have f1 := blk_frozen hk 1
      rw [if_pos (by rfl)]
      go_simp
      exact hK _ _ ⟨_, _, _, _, _, _, _, _, _, _, _, _, rfl, { sz := by rw [Array.size_setIfInBounds]; exact H.sz, c0 := impl_conflictsOf.Fo (by decide) H.c0, c1 := impl_conflictsOf.Fo (by decide) H.c1, c2 := impl_conflictsOf.Fo (by decide) H.c2, c3 := impl_conflictsOf.Fo (by decide) H.c3, c4 := impl_conflictsOf.Fo (by decide) H.c4, c5 := impl_conflictsOf.Fo (by decide) H.c5, c6 := impl_conflictsOf.Fo (by decide) H.c6, c7 := impl_conflictsOf.Fo (by decide) H.c7, c8 := impl_conflictsOf.Fo (by decide) H.c8, c9 := fun _ => by unfold impl_conflictsOf.cc; rw [if_pos (impl_conflictsOf.gds (by omega))]; exact ⟨g, rfl, hg, blk_put (cs := #[.int .i64 x1, .bool false]) (blk_put (cs := #[.int .i64 0, .bool false]) hk 0 _ rfl) 1 _ rfl⟩, c10 := fun e => by rw [impl_conflictsOf.cco (by decide)]; exact impl_conflictsOf.BKf (H.c10 ((impl_conflictsOf.gdo (by decide)).symm.trans e)) hk ((H.d0 gc ((impl_conflictsOf.gdo (by decide)).symm.trans e)).symm) _ _, c11 := fun e => by rw [impl_conflictsOf.cco (by decide)]; exact impl_conflictsOf.BKf (H.c11 ((impl_conflictsOf.gdo (by decide)).symm.trans e)) hk ((H.d1 gc ((impl_conflictsOf.gdo (by decide)).symm.trans e)).symm) _ _, d0 := fun e e2 => H.d0 ((impl_conflictsOf.gdo (by decide)).symm.trans e) ((impl_conflictsOf.gdo (by decide)).symm.trans e2), d1 := fun e e2 => H.d1 ((impl_conflictsOf.gdo (by decide)).symm.trans e) ((impl_conflictsOf.gdo (by decide)).symm.trans e2), d2 := fun e e2 => H.d2 ((impl_conflictsOf.gdo (by decide)).symm.trans e) ((impl_conflictsOf.gdo (by decide)).symm.trans e2), e0 := fun _ => (impl_conflictsOf.gdo (by decide)).trans gc, e1 := fun e => (impl_conflictsOf.gdo (by decide)).trans (H.e1 ((impl_conflictsOf.gdo (by decide)).symm.trans e)), e2 := fun e => (impl_conflictsOf.gdo (by decide)).trans (H.e2 ((impl_conflictsOf.gdo (by decide)).symm.trans e)), bl := below_set (below_set hB hg) hg }⟩
    · refine wpOp_step (o := _) rfl (fun K' hK => ?_)
      have gc : l.getD 10 false = true := impl_conflictsOf.dep hi rfl (.head _) rfl
      have q1 := H.c5 (impl_conflictsOf.dep hi rfl (.tail _ (.head _)) rfl)
      obtain ⟨g, hv, hg, hk⟩ := H.c10 gc
      subst q1 hv
      unfold impl_conflictsOf.cc at hk
      rw [impl_conflictsOf.gdf (by omega) hn, if_neg (by decide)] at hk
      have m0 : W.cell? ⟨g, 0, none⟩ = some (.int .i64 0) := (blk_cell hk 0).trans rfl
      have m1 : W.cell? ⟨g, 1, none⟩ = some (.bool false) := (blk_cell hk 1).trans rfl
      have f0 := blk_frozen hk 0
      have f1 := blk_frozen hk 1
      rw [if_pos (by rfl)]
      go_simp
      exact hK _ _ ⟨_, _, _, _, _, _, _, _, _, _, _, _, rfl, { sz := by rw [Array.size_setIfInBounds]; exact H.sz, c0 := impl_conflictsOf.Fo (by decide) H.c0, c1 := impl_conflictsOf.Fo (by decide) H.c1, c2 := impl_conflictsOf.Fo (by decide) H.c2, c3 := impl_conflictsOf.Fo (by decide) H.c3, c4 := impl_conflictsOf.Fo (by decide) H.c4, c5 := impl_conflictsOf.Fo (by decide) H.c5, c6 := impl_conflictsOf.Fo (by decide) H.c6, c7 := impl_conflictsOf.Fo (by decide) H.c7, c8 := impl_conflictsOf.Fo (by decide) H.c8, c9 := fun e => by rw [impl_conflictsOf.cco (by decide)]; exact impl_conflictsOf.BKf (H.c9 ((impl_conflictsOf.gdo (by decide)).symm.trans e)) hk (H.d0 ((impl_conflictsOf.gdo (by decide)).symm.trans e) gc) _ _, c10 := fun _ => by unfold impl_conflictsOf.cc; rw [if_pos (impl_conflictsOf.gds (by omega))]; exact ⟨g, rfl, hg, blk_put (cs := #[.int .i64 y1, .bool false]) (blk_put (cs := #[.int .i64 0, .bool false]) hk 0 _ rfl) 1 _ rfl⟩, c11 := fun e => by rw [impl_conflictsOf.cco (by decide)]; exact impl_conflictsOf.BKf (H.c11 ((impl_conflictsOf.gdo (by decide)).symm.trans e)) hk ((H.d2 gc ((impl_conflictsOf.gdo (by decide)).symm.trans e)).symm) _ _, d0 := fun e e2 => H.d0 ((impl_conflictsOf.gdo (by decide)).symm.trans e) ((impl_conflictsOf.gdo (by decide)).symm.trans e2), d1 := fun e e2 => H.d1 ((impl_conflictsOf.gdo (by decide)).symm.trans e) ((impl_conflictsOf.gdo (by decide)).symm.trans e2), d2 := fun e e2 => H.d2 ((impl_conflictsOf.gdo (by decide)).symm.trans e) ((impl_conflictsOf.gdo (by decide)).symm.trans e2), e0 := fun e => (impl_conflictsOf.gdo (by decide)).trans (H.e0 ((impl_conflictsOf.gdo (by decide)).symm.trans e)), e1 := fun _ => (impl_conflictsOf.gdo (by decide)).trans gc, e2 := fun e => (impl_conflictsOf.gdo (by decide)).trans (H.e2 ((impl_conflictsOf.gdo (by decide)).symm.trans e)), bl := below_set (below_set hB hg) hg }⟩
    · refine wpOp_step (o := _) rfl (fun K' hK => ?_)
      have gc : l.getD 11 false = true := impl_conflictsOf.dep hi rfl (.head _) rfl
      have q1 := H.c8 (impl_conflictsOf.dep hi rfl (.tail _ (.head _)) rfl)
      obtain ⟨g, hv, hg, hk⟩ := H.c11 gc
      subst q1 hv
      unfold impl_conflictsOf.cc at hk
      rw [impl_conflictsOf.gdf (by omega) hn, if_neg (by decide)] at hk
      have m0 : W.cell? ⟨g, 0, none⟩ = some (.int .i64 0) := (blk_cell hk 0).trans rfl
      have m1 : W.cell? ⟨g, 1, none⟩ = some (.bool false) := (blk_cell hk 1).trans rfl
      have f0 := blk_frozen hk 0
      have f1 := blk_frozen hk 1
      rw [if_pos (by rfl)]
      go_simp
      exact hK _ _ ⟨_, _, _, _, _, _, _, _, _, _, _, _, rfl, { sz := by rw [Array.size_setIfInBounds]; exact H.sz, c0 := impl_conflictsOf.Fo (by decide) H.c0, c1 := impl_conflictsOf.Fo (by decide) H.c1, c2 := impl_conflictsOf.Fo (by decide) H.c2, c3 := impl_conflictsOf.Fo (by decide) H.c3, c4 := impl_conflictsOf.Fo (by decide) H.c4, c5 := impl_conflictsOf.Fo (by decide) H.c5, c6 := impl_conflictsOf.Fo (by decide) H.c6, c7 := impl_conflictsOf.Fo (by decide) H.c7, c8 := impl_conflictsOf.Fo (by decide) H.c8, c9 := fun e => by rw [impl_conflictsOf.cco (by decide)]; exact impl_conflictsOf.BKf (H.c9 ((impl_conflictsOf.gdo (by decide)).symm.trans e)) hk (H.d1 ((impl_conflictsOf.gdo (by decide)).symm.trans e) gc) _ _, c10 := fun e => by rw [impl_conflictsOf.cco (by decide)]; exact impl_conflictsOf.BKf (H.c10 ((impl_conflictsOf.gdo (by decide)).symm.trans e)) hk (H.d2 ((impl_conflictsOf.gdo (by decide)).symm.trans e) gc) _ _, c11 := fun _ => by unfold impl_conflictsOf.cc; rw [if_pos (impl_conflictsOf.gds (by omega))]; exact ⟨g, rfl, hg, blk_put (cs := #[.int .i64 z1, .bool false]) (blk_put (cs := #[.int .i64 0, .bool false]) hk 0 _ rfl) 1 _ rfl⟩, d0 := fun e e2 => H.d0 ((impl_conflictsOf.gdo (by decide)).symm.trans e) ((impl_conflictsOf.gdo (by decide)).symm.trans e2), d1 := fun e e2 => H.d1 ((impl_conflictsOf.gdo (by decide)).symm.trans e) ((impl_conflictsOf.gdo (by decide)).symm.trans e2), d2 := fun e e2 => H.d2 ((impl_conflictsOf.gdo (by decide)).symm.trans e) ((impl_conflictsOf.gdo (by decide)).symm.trans e2), e0 := fun e => (impl_conflictsOf.gdo (by decide)).trans (H.e0 ((impl_conflictsOf.gdo (by decide)).symm.trans e)), e1 := fun e => (impl_conflictsOf.gdo (by decide)).trans (H.e1 ((impl_conflictsOf.gdo (by decide)).symm.trans e)), e2 := fun _ => (impl_conflictsOf.gdo (by decide)).trans gc, bl := below_set (below_set hB hg) hg }⟩
  · exact ⟨_, _, _, _, _, _, _, _, _, _, _, _, rfl, { sz := rfl, bl := below_drew1 (Below.refl _ _), c0 := (fun e => by cases e), c1 := (fun e => by cases e), c2 := (fun e => by cases e), c3 := (fun e => by cases e), c4 := (fun e => by cases e), c5 := (fun e => by cases e), c6 := (fun e => by cases e), c7 := (fun e => by cases e), c8 := (fun e => by cases e), c9 := (fun e => by cases e), c10 := (fun e => by cases e), c11 := (fun e => by cases e), d0 := (fun e => by cases e), d1 := (fun e => by cases e), d2 := (fun e => by cases e), e0 := (fun e => by cases e), e1 := (fun e => by cases e), e2 := (fun e => by cases e) }⟩
  · exact Nat.le_of_eq rfl
theorem impl_conflictsOf.idx (q : ByteArray → Bool) (cap0 cap1 cap2 : Value) (A0 : Option Addr) (c0 : Nat) (l0 : List ByteArray) (n : Int) (w0 w : World) (hB0 : Below w0.heap.size w0 w) (hr0 : Kd.C Kd.string w A0 l0.length l0)
    (hclo : ∀ x, x ∈ l0 → ∀ W : World, Below w0.heap.size w0 W → Calls Try.prog 116 #[.string x, cap0, cap1, cap2] W fun e W' => e = .returned (.bool (q x)) ∧ Below W.heap.size W W') (hn : Hit q l0 n) :
    Calls Try.prog 143 #[.slice A0 l0.length c0, .func (.func 116) #[] #[cap0, cap1, cap2]] w fun e w' => e = .returned (.int .i64 n) ∧ Below w.heap.size w w' := by
  have hlen : l0.length ≤ 9223372036854775807 := hr0.2.1
  have HR := Aside0.mk hr0
  have HCL := Aside0.mk hclo
  have HH := Aside0.mk hn
  have HB0 := Aside0.mk hB0
  clear hr0 hclo hn hB0
  go_enter Try.func143, Try.ntmps143
  go_wp2_with fail
  go_loopw [8] (fun i wr => ∃ k : Nat, k ≤ l0.length ∧ i = .int .i64 k ∧ Aside0 (∀ j (_ : j < l0.length), j < k → q l0[j] = false) ∧ Aside0 (Below w.heap.size w wr)) (fun i _ => l0.length - (intOf i).toNat)
  case atStart => exact ⟨0, Nat.zero_le _, rfl, ⟨fun j _ hj => absurd hj (Nat.not_lt_zero _)⟩, ⟨Below.refl _ _⟩⟩
  case round =>
    obtain ⟨k, hk, rfl, HN, HB⟩ := hrel
    by_cases hlt : k < l0.length
    · obtain ⟨ad, e0, hx0⟩ := Kd.at_string HR.out (k : Int) (by omega) (by omega)
      subst e0
      replace hx0 := (HB.out.cell (World.block_lt_of_cell? w _ hx0)).trans hx0
      have er : rdOf ByteArray.empty l0 (k : Int) = l0[k] := by simp [rdOf, List.getD_eq_getElem?_getD, List.getElem?_eq_getElem hlt]
      rw [er] at hx0
      (try simp only [Int.toNat_natCast] at hx0)
      have HG := Aside0.mk (HCL.out l0[k] (List.getElem_mem hlt) wr (below_step HB0.out HB.out))
      clear er
      cases hb : q l0[k] with
      | true =>
        have HE := Aside0.mk (hit_at HH.out hlt hb HN.out)
        rw [hb] at HG
        clear hb
        generalize l0[k] = x at hx0 HG
        go_wp2_with (go_at_call 116; refine HG.out.mono ?_; rintro e w1 ⟨rfl, hb1⟩; have HB1 := Aside0.mk (below_step HB.out hb1); clear hb1)
        go_ret
        exact ⟨by rw [HE.out]; rfl, HB1.out⟩
      | false =>
        have HQ := Aside0.mk hb
        rw [hb] at HG
        clear hb
        obtain ⟨x, hx⟩ : ∃ x, x = l0[k] := ⟨_, rfl⟩
        rw [← hx] at hx0 HG
        clear hx
        go_wp2_with (go_at_call 116; refine HG.out.mono ?_; rintro e w1 ⟨rfl, hb1⟩; have HB1 := Aside0.mk (below_step HB.out hb1); clear hb1)
        go_roundw
        case rel =>
          refine ⟨k + 1, by omega, by go_num, ⟨fun j hj hjk => ?_⟩, HB1⟩
          by_cases h : j < k
          · exact HN.out j hj h
          · obtain rfl : j = k := by omega
            exact HQ.out
        case measure => simp [intOf]; omega
    · have hkl : k = l0.length := by omega
      have hd1 : decide ((k : Int) < (l0.length : Int)) = false := decide_eq_false (by omega)
      have hd2 : decide (k < l0.length) = false := decide_eq_false (by omega)
      have HK := Aside0.mk hkl
      clear hkl
      go_wp2_with fail
      go_ret
      refine ⟨?_, HB.out⟩
      rw [hit_none HH.out (fun j hj => HN.out j hj (by have := HK.out; omega))]
      rfl
theorem impl_conflictsOf.del (q : ByteArray → Bool) (cap0 cap1 cap2 : Value) (P0_ : Nat → Prop) (u : Value) (l0 : List ByteArray) (w0 w : World) (hB0 : Below w0.heap.size w0 w) (ho0 : Kd.R Kd.string 9 w w0.heap.size P0_ u l0)
    (hclo : ∀ x, x ∈ l0 → ∀ W : World, Below w0.heap.size w0 W → Calls Try.prog 116 #[.string x, cap0, cap1, cap2] W fun e W' => e = .returned (.bool (q x)) ∧ Below W.heap.size W W') :
    Calls Try.prog 115 #[u, .func (.func 116) #[] #[cap0, cap1, cap2]] w fun e w' => ∃ v0 : Value, e = .returned v0 ∧ Kd.R Kd.string 9 w' w0.heap.size P0_ v0 (l0.filter fun x => !q x) ∧ Below w0.heap.size w0 w' ∧ Kept w w' P0_ := by
  obtain ⟨n, hn⟩ := hit_some q l0
  rcases own_shape ho0 with ⟨rfl, rfl⟩ | ⟨g, cap, rfl⟩
  · have hn1 := hit_none hn (fun j hj => absurd hj (Nat.not_lt_zero _))
    subst hn1
    have HI := Aside0.mk (impl_conflictsOf.idx q cap0 cap1 cap2 none 0 [] (-1) w0 w hB0 (Kd.R_reads' ho0).2.2 hclo hn)
    have HB0 := Aside0.mk hB0
    clear hn ho0 hclo hB0
    go_enter Try.func115, Try.ntmps115
    go_wp2_with (go_at_call 143; refine HI.out.mono ?_; rintro e w1 ⟨rfl, hb⟩; have HB1 := Aside0.mk hb; clear hb)
    go_ret
    exact ⟨_, rfl, Kd.R_nil _ _ _ _ _, below_step HB0.out HB1.out, Kept.of_below HB1.out _⟩
  obtain ⟨_, hcap, hC⟩ := Kd.R_reads' ho0
  have hmax : l0.length ≤ 9223372036854775807 := hC.2.1
  have HI := Aside0.mk (impl_conflictsOf.idx q cap0 cap1 cap2 (some ⟨g, 0, none⟩) cap l0 n w0 w hB0 hC hclo hn)
  have HB0 := Aside0.mk hB0
  have HO := Aside0.mk ho0
  have HCL := Aside0.mk hclo
  clear ho0 hclo hB0 hC
  rcases hn with ⟨rfl, hall⟩ | ⟨k0, hk0, rfl, ht, hall⟩
  · have HF := Aside0.mk (filter_all hall)
    clear hall
    go_enter Try.func115, Try.ntmps115
    go_wp2_with (go_at_call 143; refine HI.out.mono ?_; rintro e w1 ⟨rfl, hb⟩; have HB1 := Aside0.mk hb; clear hb)
    go_ret
    exact ⟨_, rfl, by rw [HF.out]; exact Kd.R_below HO.out HB1.out, below_step HB0.out HB1.out, Kept.of_below HB1.out _⟩
  have HF := Aside0.mk (filter_start hk0 ht hall)
  clear ht hall
  have hne : ((k0 : Int) == -1) = false := beq_eq_false_iff_ne.mpr (by omega)
  have hst : ∀ x : ByteArray, (Value.string x).oneCell' = true := fun _ => rfl
  go_enter Try.func115, Try.ntmps115
  go_wp2_with (go_at_call 143; refine HI.out.mono ?_; rintro e w1 ⟨rfl, hb⟩; have HO1 := Aside0.mk (Kd.R_below HO.out hb); have HB1 := Aside0.mk (below_step HB0.out hb); have HK1 := Aside0.mk (Kept.of_below hb P0_); clear hb HO HB0 HI)
  go_loopw [5, 6, 7] (fun v5 v6 _ wr => ∃ (i j : Nat) (L : List ByteArray), v5 = .int .i64 i ∧ v6 = .int .i64 j ∧ i < j ∧ j ≤ l0.length ∧ L.length = l0.length ∧ Aside0 (L.take i = (l0.take j).filter (fun x => !q x)) ∧ Aside0 (L.drop j = l0.drop j) ∧ Aside0 (Kd.R Kd.string 9 wr w0.heap.size P0_ (.slice (some ⟨g, 0, none⟩) l0.length cap) L) ∧ Aside0 (Kept w wr P0_) ∧ Aside0 (Below w0.heap.size w0 wr)) (fun _ v6 _ _ => l0.length - (intOf v6).toNat)
  case atStart => exact ⟨k0, k0 + 1, l0, rfl, by go_num, by omega, by omega, rfl, HF, ⟨rfl⟩, HO1, HK1, HB1⟩
  case round =>
    clear HF HO1 HK1 HB1 hne
    obtain ⟨i, j, L, rfl, rfl, hij, hj, hL, HT, HD, HO, HK, HB⟩ := hrel
    by_cases hlt : j < l0.length
    · have hd1 : decide ((j : Int) < (l0.length : Int)) = true := decide_eq_true (by omega)
      have hd2 : decide (j < l0.length) = true := decide_eq_true hlt
      obtain ⟨hsame, hdrop⟩ := drop_same hlt (by omega) HD.out
      obtain ⟨hxj, hfj⟩ := Kd.R_celln (⟨#[]⟩ : ByteArray) HO.out (j : Int) (by omega) (by omega)
      have er : rdOf ⟨#[]⟩ L (j : Int) = l0[j] := by rw [← hsame]; simp [rdOf, List.getD_eq_getElem?_getD, List.getElem?_eq_getElem (show j < L.length by omega)]
      rw [er] at hxj
      simp only [Int.toNat_natCast] at hxj
      have HG := Aside0.mk (HCL.out l0[j] (List.getElem_mem hlt) wr HB.out)
      have HDR := Aside0.mk hdrop
      clear er hsame hdrop hfj
      cases hq : q l0[j] with
      | true =>
        have HT1 := Aside0.mk (filter_drop hlt hq HT.out)
        rw [hq] at HG
        clear hq
        obtain ⟨x, hx⟩ : ∃ x, x = l0[j] := ⟨_, rfl⟩
        rw [← hx] at hxj HG
        clear hx
        go_wp2_with (go_at_call 116; refine HG.out.mono ?_; rintro e w1 ⟨rfl, hb1⟩; have HO1 := Aside0.mk (Kd.R_below HO.out hb1); have HK1 := Aside0.mk (Kept.below HK.out hb1); have HB1 := Aside0.mk (below_step HB.out hb1); clear hb1 HO HK HB)
        go_roundw
        case rel => exact ⟨i, j + 1, L, rfl, by go_num, by omega, by omega, hL, HT1, HDR, HO1, HK1, HB1⟩
        case measure => simp [intOf]; omega
      | false =>
        have HT1 := Aside0.mk (filter_keep hlt (show i < L.length by omega) hq HT.out)
        rw [hq] at HG
        clear hq
        obtain ⟨x, hx⟩ : ∃ x, x = l0[j] := ⟨_, rfl⟩
        rw [← hx] at hxj HG HT1
        clear hx
        have hp0 : (0 : Int) ≤ (i : Int) := by omega
        have hp1 : (i : Int) < (l0.length : Int) := by omega
        have HDS := Aside0.mk (show (L.set i x).drop (j + 1) = l0.drop (j + 1) from by rw [List.drop_set_of_lt (by omega)]; exact HDR.out)
        go_wp2_with (first
          | (go_at_call 116
             refine HG.out.mono ?_
             rintro e w1 ⟨rfl, hb1⟩
             have HO1 := Aside0.mk (Kd.R_below HO.out hb1)
             have HK1 := Aside0.mk (Kept.below HK.out hb1)
             have HB1 := Aside0.mk (below_step HB.out hb1)
             clear hb1 HO HK HB hxj
             obtain ⟨hxi, hfi⟩ := Kd.R_celln (⟨#[]⟩ : ByteArray) HO1.out (i : Int) (by omega) (by omega)
             simp only [Int.toNat_natCast] at hxi hfi
             have HG5 := Aside0.mk (HO1.out.1 g rfl)
             have GB5 := Aside0.mk (Kd.R_base HO1.out g rfl)
             have HP7 := Aside0.mk (Kd.R_putg HO1.out (i : Int) x))
          | ((with_reducible refine gate_store (t := 9) (p := 33) rfl ?_)
             refine store_event (t := 9) (p := 33) (v := ?vo_w8) (w1 := (w1.setCell ⟨g, i, none⟩ (.string x))) ?hg ?ho ?hn ?hr ?_
             (case ho => rfl)
             (case hg => rfl)
             (case hn => rfl)
             (case hr => first | (go_simp; done) | (go_simp; rfl))
             intro w8 hw
             have hg : w1.grownBy w8 (some g) := (by rw [hw]; exact HP7.out.2)
             have hp_ : Kd.R Kd.string 9 w8 w0.heap.size P0_ (.slice (some ⟨g, 0, none⟩) l0.length cap) (L.set i x) := (by rw [hw]; exact HP7.out.1)
             have n0_ := Aside0.mk hp_
             have n1_ := Aside0.mk ((by rw [hw]; exact below_set (HB1.out) GB5.out : Below w0.heap.size w0 w8))
             have n2_ := Aside0.mk (Kept.of_grown (S := P0_) hg HK1.out (fun k_ e_ => by injection e_ with e_; subst e_; exact .inl HG5.out))
             clear HO1 HB1 HK1 HP7
             have HO1 := n0_
             have HB1 := n1_
             have HK1 := n2_
             clear n0_ n1_ n2_ hg hw hp_ hxi hfi))
        go_roundw
        case rel => exact ⟨i + 1, j + 1, L.set i x, by go_num, by go_num, by omega, by omega, by rw [List.length_set]; exact hL, HT1, HDS, HO1, HK1, HB1⟩
        case measure => simp [intOf]; omega
    · obtain rfl : j = l0.length := by omega
      have hd1 : decide ((l0.length : Int) < (l0.length : Int)) = false := decide_eq_false (by omega)
      have hd2 : decide (l0.length < l0.length) = false := decide_eq_false (by omega)
      have hcells : ∀ t, t < l0.length → (wr.cell? ⟨g, t, none⟩).isSome = true ∧ wr.frozen? ⟨g, t, none⟩ = false := fun t ht => by
        obtain ⟨h1, h2⟩ := Kd.R_celln (⟨#[]⟩ : ByteArray) HO.out (t : Int) (by omega) (by omega)
        simp only [Int.toNat_natCast] at h1 h2
        exact ⟨by rw [h1]; rfl, h2⟩
      have hcl : ∀ ty, (Builtin.clear_ #[37] ty #[.slice (some ⟨g, i, none⟩) (l0.length - i) (cap - i)]).run Try.prog wr = .ok (.tuple #[]) (wr.setCells g i (List.replicate (l0.length - i) (.string ⟨#[]⟩))) := fun ty =>
        Lib.run_clear_slice wr 37 9 ty (.string ⟨#[]⟩) Try.underlying37 (fun _ => rfl) rfl rfl g i (l0.length - i) (cap - i) (by omega) (fun t ht => (hcells (i + t) (by omega)).1) (fun t ht => (hcells (i + t) (by omega)).2)
      clear hcells
      have HF := Aside0.mk (show L.take i = l0.filter (fun x => !q x) from by rw [HT.out, List.take_length])
      have HCUT := Aside0.mk (own_cut (i := i) (zs := List.replicate (l0.length - i) (.string ⟨#[]⟩)) rfl HB.out HO.out hL (by omega) (by rw [List.length_replicate]; omega) rfl)
      clear HT HD
      go_wp2_with fail
      go_ret
      exact ⟨_, rfl, by rw [← HF.out]; exact HCUT.out.1, HCUT.out.2.1, (HK.out.then_ HCUT.out.2.2 (fun k hk => .inl hk))⟩
def impl_conflictsOf.eq2 (a b : Int × Bool) : Bool := (a.1 == b.1) && (a.2 == b.2)
def impl_conflictsOf.q (k : Nat) (l0 l1 l2 : List S80) (nm : ByteArray) : Option Bool := (impl_thingAt.f k l0 nm).bind fun x => (impl_thingAt.f k l1 nm).bind fun y => (impl_thingAt.f k l2 nm).bind fun z => some (impl_conflictsOf.eq2 y z || impl_conflictsOf.eq2 y x || impl_conflictsOf.eq2 z x)
def impl_conflictsOf.sel (q : ByteArray → Option Bool) : List ByteArray → Option (List ByteArray)
  | [] => some []
  | x :: r => (q x).bind fun b => (impl_conflictsOf.sel q r).bind fun t => some (if b = true then t else x :: t)
def impl_conflictsOf.f (k : Nat) (l0 l1 l2 : List S80) : Option (List ByteArray) := (impl_namesOf.f k [l0, l1, l2]).bind fun ns => impl_conflictsOf.sel (impl_conflictsOf.q k l0 l1 l2) ns
theorem impl_conflictsOf.sel_some {q : ByteArray → Option Bool} : ∀ {l r : List ByteArray}, impl_conflictsOf.sel q l = some r → (∀ x ∈ l, q x = some ((q x).getD false)) ∧ r = l.filter (fun x => !((q x).getD false))
  | [], r, h => ⟨fun x hx => (by cases hx), (Option.some.inj h).symm⟩
  | y :: l, r, h => by
    unfold impl_conflictsOf.sel at h
    obtain ⟨b, h1, h⟩ := Option.bind_eq_some_iff.1 h
    obtain ⟨t, h2, h⟩ := Option.bind_eq_some_iff.1 h
    obtain ⟨i1, i2⟩ := impl_conflictsOf.sel_some h2
    refine ⟨fun x hx => ?_, ?_⟩
    · rcases List.mem_cons.1 hx with rfl | hx
      · rw [h1]; rfl
      · exact i1 x hx
    · rw [← Option.some.inj h, List.filter_cons, h1]
      show (if b = true then t else y :: t) = if (!b) = true then _ else _
      cases b
      · rw [if_neg (by decide), if_pos (by decide), i2]
      · rw [if_pos rfl, if_neg (by decide), i2]
theorem impl_conflictsOf.row3 (W : World) (A0 A1 A2 : Option Addr) (c0 c1 c2 : Nat) (l0 l1 l2 : List S80) (hr0 : Kd.C k80 W A0 l0.length l0) (hc0 : l0.length ≤ c0) (hr1 : Kd.C k80 W A1 l1.length l1) (hc1 : l1.length ≤ c1) (hr2 : Kd.C k80 W A2 l2.length l2) (hc2 : l2.length ≤ c2) :
    Kd.C (Kd.slice 80 k80) (W.alloc (.cells #[.slice A0 l0.length c0, .slice A1 l1.length c1, .slice A2 l2.length c2] 26)) (some ⟨W.heap.size, 0, none⟩) 3 [l0, l1, l2] := by
  have hb := blk_new W (.cells #[.slice A0 l0.length c0, .slice A1 l1.length c1, .slice A2 l2.length c2] 26)
  refine ⟨rfl, by decide, fun _ => ⟨_, rfl, fun j p hj => ?_⟩⟩
  match j, hj with
  | 0, hj =>
    obtain rfl : l0 = p := Option.some.inj hj
    refine ⟨[.slice A0 l0.length c0], rfl, ⟨A0, c0, rfl, hc0, Kd.C_alloc hr0 _⟩, fun i u hu => ?_⟩
    match i, hu with
    | 0, hu => exact (blk_cell hb 0).trans hu
  | 1, hj =>
    obtain rfl : l1 = p := Option.some.inj hj
    refine ⟨[.slice A1 l1.length c1], rfl, ⟨A1, c1, rfl, hc1, Kd.C_alloc hr1 _⟩, fun i u hu => ?_⟩
    match i, hu with
    | 0, hu => exact (blk_cell hb 1).trans hu
  | 2, hj =>
    obtain rfl : l2 = p := Option.some.inj hj
    refine ⟨[.slice A2 l2.length c2], rfl, ⟨A2, c2, rfl, hc2, Kd.C_alloc hr2 _⟩, fun i u hu => ?_⟩
    match i, hu with
    | 0, hu => exact (blk_cell hb 2).trans hu
theorem impl_conflictsOf.calls (k : Nat) (A0 : Option Addr) (c0 : Nat) (l0 : List S80) (A1 : Option Addr) (c1 : Nat) (l1 : List S80) (A2 : Option Addr) (c2 : Nat) (l2 : List S80) (r : List ByteArray) (w : World) (hr0 : Kd.C k80 w A0 l0.length l0) (hc0 : l0.length ≤ c0) (hr1 : Kd.C k80 w A1 l1.length l1) (hc1 : l1.length ≤ c1) (hr2 : Kd.C k80 w A2 l2.length l2) (hc2 : l2.length ≤ c2) (h : impl_conflictsOf.f k l0 l1 l2 = some r) :
    Calls Try.prog 68 #[.slice A0 l0.length c0, .slice A1 l1.length c1, .slice A2 l2.length c2] w fun e w' => ∃ v0_ : Value, e = .returned (v0_) ∧ Kd.R Kd.string 9 w' w.heap.size (fun _ => True) v0_ r ∧ Below w.heap.size w w' := by
  unfold impl_conflictsOf.f at h
  obtain ⟨ns, hns, hsel⟩ := Option.bind_eq_some_iff.1 h
  obtain ⟨hq, hr⟩ := impl_conflictsOf.sel_some hsel
  clear h hsel
  have hmf : ∀ (fn : Fn) (first cap : Array Value) (w : World), (Instr.makeFunc fn first cap).run Try.prog w = .ok (.func fn first cap) w := fun _ _ _ _ => rfl
  have HW : ∀ W3 : World, W3 = ((w.alloc (.cells #[.slice A0 l0.length c0] 26)).alloc (.cells #[.slice A1 l1.length c1] 26)).alloc (.cells #[.slice A2 l2.length c2] 26) → Below w.heap.size w W3 ∧ W3.cell? ⟨w.heap.size, 0, none⟩ = some (.slice A0 l0.length c0) ∧ W3.cell? ⟨w.heap.size + 1, 0, none⟩ = some (.slice A1 l1.length c1) ∧ W3.cell? ⟨w.heap.size + 1 + 1, 0, none⟩ = some (.slice A2 l2.length c2) := by
    rintro W3 rfl
    have z1 : (w.alloc (.cells #[.slice A0 l0.length c0] 26)).heap.size = w.heap.size + 1 := by
      show (Array.push w.heap _).size = _
      simp only [Array.size_push]
    have z2 : ((w.alloc (.cells #[.slice A0 l0.length c0] 26)).alloc (.cells #[.slice A1 l1.length c1] 26)).heap.size = w.heap.size + 1 + 1 := by
      rw [← z1]
      show (Array.push (w.alloc (.cells #[.slice A0 l0.length c0] 26)).heap _).size = _
      simp only [Array.size_push]
    have c1' : (w.alloc (.cells #[.slice A0 l0.length c0] 26)).cell? ⟨w.heap.size, 0, none⟩ = some (.slice A0 l0.length c0) := (blk_cell (blk_new w _) 0).trans rfl
    have c2' := (blk_cell (blk_new (w.alloc (.cells #[.slice A0 l0.length c0] 26)) (.cells #[.slice A1 l1.length c1] 26)) 0).trans (rfl : _ = some (Value.slice A1 l1.length c1))
    have c3' := (blk_cell (blk_new ((w.alloc (.cells #[.slice A0 l0.length c0] 26)).alloc (.cells #[.slice A1 l1.length c1] 26)) (.cells #[.slice A2 l2.length c2] 26)) 0).trans (rfl : _ = some (Value.slice A2 l2.length c2))
    rw [z1] at c2'
    rw [z2] at c3'
    have bl : ∀ (W : World) (o : Obj), Below W.heap.size W (W.alloc o) := fun W o => below_alloc (Below.refl _ _) o
    exact ⟨below_step (below_step (bl _ _) (bl _ _)) (bl _ _), pw_cell_below (bl _ _) (pw_cell_below (bl _ _) c1'), pw_cell_below (bl _ _) c2', c3'⟩
  obtain ⟨hb3, k1, k2, k3⟩ := HW _ rfl
  generalize hw3 : ((w.alloc (.cells #[.slice A0 l0.length c0] 26)).alloc (.cells #[.slice A1 l1.length c1] 26)).alloc (.cells #[.slice A2 l2.length c2] 26) = W3 at hb3 k1 k2 k3
  have HB3 := Aside0.mk hb3
  have K1 := Aside0.mk k1
  have K2 := Aside0.mk k2
  have K3 := Aside0.mk k3
  have hC0 := Kd.C_below hr0 hb3
  have hC1 := Kd.C_below hr1 hb3
  have hC2 := Kd.C_below hr2 hb3
  have HCL : Aside0 (∀ x, x ∈ ns → ∀ W : World, Below W3.heap.size W3 W → Calls Try.prog 116 #[.string x, .pointer (some ⟨w.heap.size, 0, none⟩), .pointer (some ⟨w.heap.size + 1, 0, none⟩), .pointer (some ⟨w.heap.size + 1 + 1, 0, none⟩)] W fun e W' => e = .returned (.bool ((impl_conflictsOf.q k l0 l1 l2 x).getD false)) ∧ Below W.heap.size W W') := ⟨fun x hx W hW => by
    have hqx := hq x hx
    generalize hb : (impl_conflictsOf.q k l0 l1 l2 x).getD false = b at hqx ⊢
    clear hb
    unfold impl_conflictsOf.q at hqx
    obtain ⟨⟨x1, x2⟩, e1, hqx⟩ := Option.bind_eq_some_iff.1 hqx
    obtain ⟨⟨y1, y2⟩, e2, hqx⟩ := Option.bind_eq_some_iff.1 hqx
    obtain ⟨⟨z1, z2⟩, e3, hqx⟩ := Option.bind_eq_some_iff.1 hqx
    rw [← Option.some.inj hqx]
    exact impl_conflictsOf.clo A0 A1 A2 l0.length l1.length l2.length c0 c1 c2 x _ _ _ W (pw_cell_below hW K1.out) (pw_cell_below hW K2.out) (pw_cell_below hW K3.out) x1 y1 z1 x2 y2 z2
      (fun V hV => impl_thingAt.calls k A0 c0 l0 x x1 x2 V (Kd.C_below hC0 (below_step hW hV)) hc0 e1)
      (fun V hV => impl_thingAt.calls k A1 c1 l1 x y1 y2 V (Kd.C_below hC1 (below_step hW hV)) hc1 e2)
      (fun V hV => impl_thingAt.calls k A2 c2 l2 x z1 z2 V (Kd.C_below hC2 (below_step hW hV)) hc2 e3)⟩
  have hz3 : W3.heap.size = w.heap.size + 1 + 1 + 1 := by
    rw [← hw3]
    show (Array.push (Array.push (Array.push w.heap _) _) _).size = _
    simp only [Array.size_push]
  have HL : Aside0 (Calls Try.prog 70 #[.slice (some ⟨w.heap.size + 1 + 1 + 1, 0, none⟩) 3 3] (W3.alloc (.cells #[.slice A0 l0.length c0, .slice A1 l1.length c1, .slice A2 l2.length c2] 26)) fun e w' => ∃ v0_ : Value, e = .returned v0_ ∧ Kd.R Kd.string 9 w' W3.heap.size (fun _ => True) v0_ ns ∧ Below W3.heap.size W3 w') := ⟨by
    have hrow := impl_conflictsOf.row3 W3 A0 A1 A2 c0 c1 c2 l0 l1 l2 hC0 hc0 hC1 hc1 hC2 hc2
    rw [hz3] at hrow
    refine (impl_namesOf.calls k _ 3 [l0, l1, l2] ns _ hrow (Nat.le_refl 3) hns).mono ?_
    rintro e w1 ⟨v, rfl, ho, hb⟩
    have hba := below_step (below_alloc (Below.refl _ W3) (.cells #[.slice A0 l0.length c0, .slice A1 l1.length c1, .slice A2 l2.length c2] 26)) hb
    exact ⟨v, rfl, Kd.R_lower ho (below_size (below_alloc (Below.refl _ W3) _)), hba⟩⟩
  have HDEL : Aside0 (∀ (u : Value) (W1 : World), Kd.R Kd.string 9 W1 W3.heap.size (fun _ => True) u ns → Below W3.heap.size W3 W1 → Calls Try.prog 115 #[u, .func (.func 116) #[] #[.pointer (some ⟨w.heap.size, 0, none⟩), .pointer (some ⟨w.heap.size + 1, 0, none⟩), .pointer (some ⟨w.heap.size + 1 + 1, 0, none⟩)]] W1 fun e w' => ∃ v0 : Value, e = .returned v0 ∧ Kd.R Kd.string 9 w' w.heap.size (fun _ => True) v0 r ∧ Below w.heap.size w w') := ⟨fun u W1 ho hb => by
    refine (impl_conflictsOf.del (fun x => (impl_conflictsOf.q k l0 l1 l2 x).getD false) _ _ _ (fun _ => True) u ns W3 W1 hb ho HCL.out).mono ?_
    rintro e w2 ⟨v, rfl, ho2, hb2, _⟩
    exact ⟨v, rfl, by rw [hr]; exact Kd.R_lower ho2 (below_size hb3), below_step hb3 hb2⟩⟩
  clear hC0 hC1 hC2 hns hr hb3 k1 k2 k3 HW hq hr0 hr1 hr2 hz3
  subst hw3
  go_enter Try.func68, Try.ntmps68
  go_wp2_with (first
    | (go_at_call 70; refine HL.out.mono ?_; rintro e w1 ⟨v1, rfl, ho, hb⟩; have HO := Aside0.mk ho; have HB := Aside0.mk hb; clear ho hb)
    | (go_at_call 115; refine (HDEL.out _ _ HO.out HB.out).mono ?_; rintro e w2 ⟨v2, rfl, ho, hb⟩; have HO2 := Aside0.mk ho; have HB2 := Aside0.mk hb; clear ho hb))
  go_ret
  exact ⟨_, rfl, HO2.out, HB2.out⟩

end Go.Proofs.Ytocegmkifmdlcaa.P

namespace Go.Proofs.Ytocegmkifmdlcaa.P
open Go.RowKit Go.Proofs.YtocegmkifmdlcaaW.PrintWords Go.Proofs.YtocegmkifmdlcaaW.PrintLast Go.Proofs.YtocegmkifmdlcaaW.PrintMore
attribute [local go_sem] max2_int min2_int max_two min_two max_three min_three max_four min_four str_leq str_gtr str_geq
set_option linter.unusedVariables false
set_option linter.unusedSimpArgs false

def impl_ConflictsOf.f (k : Nat) (l0 : List (S80)) (l1 : List (S80)) (l2 : List (S80)) : Option (List ByteArray × Int) := (impl_ValidState.f k l0).bind fun t101 => (if t101 = true then ((impl_ValidState.f k l1).bind fun t102 => (if t102 = true then ((impl_ValidState.f k l2).bind fun t103 => (if t103 = true then ((impl_conflictsOf.f k l0 l1 l2).bind fun t104 => (some (t104, 0))) else (some (([] : List ByteArray), 1)))) else (some (([] : List ByteArray), 1)))) else (some (([] : List ByteArray), 1)))
set_option maxHeartbeats 8000000 in
set_option maxRecDepth 100000 in
theorem impl_ConflictsOf.calls (k : Nat) (A0 : Option Addr) (c0 : Nat) (l0 : List (S80)) (A1 : Option Addr) (c1 : Nat) (l1 : List (S80)) (A2 : Option Addr) (c2 : Nat) (l2 : List (S80)) (r1 : List ByteArray) (r2 : Int) (w : World) (hr0 : Kd.C k80 w A0 l0.length l0) (hc0 : l0.length ≤ c0) (hr1 : Kd.C k80 w A1 l1.length l1) (hc1 : l1.length ≤ c1) (hr2 : Kd.C k80 w A2 l2.length l2) (hc2 : l2.length ≤ c2) (h : impl_ConflictsOf.f k l0 l1 l2 = some (r1, r2)) :
    Calls Try.prog 20 #[.slice A0 l0.length c0, .slice A1 l1.length c1, .slice A2 l2.length c2] w fun e w' => ∃ v0_ : Value, e = .returned (.tuple #[v0_, .int .i64 r2]) ∧ Kd.R Kd.string 9 w' w.heap.size (fun _ => True) v0_ r1 ∧ Below w.heap.size w w' := by
  have HR0 := Aside0.mk hr0
  have HC0 := Aside0.mk hc0
  clear hr0 hc0
  have HR1 := Aside0.mk hr1
  have HC1 := Aside0.mk hc1
  clear hr1 hc1
  have HR2 := Aside0.mk hr2
  have HC2 := Aside0.mk hc2
  clear hr2 hc2
  have HB := Aside0.mk (Below.refl w.heap.size w)
  have H : ((impl_ValidState.f k l0).bind fun t101 => (if t101 = true then ((impl_ValidState.f k l1).bind fun t102 => (if t102 = true then ((impl_ValidState.f k l2).bind fun t103 => (if t103 = true then ((impl_conflictsOf.f k l0 l1 l2).bind fun t104 => (some (t104, 0))) else (some (([] : List ByteArray), 1)))) else (some (([] : List ByteArray), 1)))) else (some (([] : List ByteArray), 1)))) = some (r1, r2) := h
  clear h
  replace H := Option.bind_eq_some_iff.mp H
  obtain ⟨t101, A40, H⟩ := H
  replace H : (if t101 = true then ((impl_ValidState.f k l1).bind fun t102 => (if t102 = true then ((impl_ValidState.f k l2).bind fun t103 => (if t103 = true then ((impl_conflictsOf.f k l0 l1 l2).bind fun t104 => (some (t104, 0))) else (some (([] : List ByteArray), 1)))) else (some (([] : List ByteArray), 1)))) else (some (([] : List ByteArray), 1))) = some (r1, r2) := H
  have A4 := Aside0.mk A40
  clear A40
  by_cases c5 : t101 = true
  · subst c5
    have H1 : ((impl_ValidState.f k l1).bind fun t102 => (if t102 = true then ((impl_ValidState.f k l2).bind fun t103 => (if t103 = true then ((impl_conflictsOf.f k l0 l1 l2).bind fun t104 => (some (t104, 0))) else (some (([] : List ByteArray), 1)))) else (some (([] : List ByteArray), 1)))) = some (r1, r2) := by rw [if_pos rfl] at H; exact H
    clear H
    have H := H1
    clear H1
    replace H := Option.bind_eq_some_iff.mp H
    obtain ⟨t102, A60, H⟩ := H
    replace H : (if t102 = true then ((impl_ValidState.f k l2).bind fun t103 => (if t103 = true then ((impl_conflictsOf.f k l0 l1 l2).bind fun t104 => (some (t104, 0))) else (some (([] : List ByteArray), 1)))) else (some (([] : List ByteArray), 1))) = some (r1, r2) := H
    have A6 := Aside0.mk A60
    clear A60
    by_cases c7 : t102 = true
    · subst c7
      have H1 : ((impl_ValidState.f k l2).bind fun t103 => (if t103 = true then ((impl_conflictsOf.f k l0 l1 l2).bind fun t104 => (some (t104, 0))) else (some (([] : List ByteArray), 1)))) = some (r1, r2) := by rw [if_pos rfl] at H; exact H
      clear H
      have H := H1
      clear H1
      replace H := Option.bind_eq_some_iff.mp H
      obtain ⟨t103, A80, H⟩ := H
      replace H : (if t103 = true then ((impl_conflictsOf.f k l0 l1 l2).bind fun t104 => (some (t104, 0))) else (some (([] : List ByteArray), 1))) = some (r1, r2) := H
      have A8 := Aside0.mk A80
      clear A80
      by_cases c9 : t103 = true
      · subst c9
        have H1 : ((impl_conflictsOf.f k l0 l1 l2).bind fun t104 => (some (t104, 0))) = some (r1, r2) := by rw [if_pos rfl] at H; exact H
        clear H
        have H := H1
        clear H1
        replace H := Option.bind_eq_some_iff.mp H
        obtain ⟨t104, A100, H⟩ := H
        replace H : (some (t104, 0)) = some (r1, r2) := H
        have A10 := Aside0.mk A100
        clear A100
        simp only [Option.some.injEq, Prod.mk.injEq] at H
        obtain ⟨rfl, rfl⟩ := H
        go_enter Try.func20, Try.ntmps20
        go_wp2_with (first | ((with_reducible refine gate_callee (f := 57) rfl ?_); refine goesL_ (some 9) rfl rfl Try.func57 (by kernel_rfl) rfl #[.slice A0 l0.length c0] rfl (by (try simp only [List.map_toArray, List.map_cons, List.map_nil]); first | done | rfl | (simp only [List.length_drop, List.length_take]; rfl)) ?_; (with_reducible refine (impl_ValidState.calls k _ _ l0 true _ ?side1 ?side2 A4.out).mono ?_); (case side1 => repeat (first | exact HR0.out | (with_reducible refine Kd.C_alloc ?_ _) | (with_reducible refine Kd.C_drewN ?_ _) | (with_reducible refine Kd.C_drew ?_))); (case side2 => exact HC0.out); rintro e w11 ⟨rfl, hb⟩; refine ⟨_, rfl, ?_⟩; have n0_ := Aside0.mk (below_step (by repeat (first | (with_reducible first | exact HB.out | apply below_alloc | apply pw_below_drewN | apply below_drew1) | exact HB.out)) hb); clear HB; have HB := n0_; clear n0_; (try clear hb); (try clear hb2); (try clear hk); (try clear hi)) | (go_at_call 57; (with_reducible refine (impl_ValidState.calls k _ _ l1 true _ ?side1 ?side2 A6.out).mono ?_); (case side1 => repeat (first | exact (Kd.C_below HR1.out HB.out) | (with_reducible refine Kd.C_alloc ?_ _) | (with_reducible refine Kd.C_drewN ?_ _) | (with_reducible refine Kd.C_drew ?_))); (case side2 => exact HC1.out); rintro e w12 ⟨rfl, hb⟩; have n0_ := Aside0.mk (below_step (by repeat (first | (with_reducible first | exact HB.out | apply below_alloc | apply pw_below_drewN | apply below_drew1) | exact HB.out)) hb); clear HB; have HB := n0_; clear n0_; (try clear hb); (try clear hb2); (try clear hk); (try clear hi)) | (go_at_call 57; (with_reducible refine (impl_ValidState.calls k _ _ l2 true _ ?side1 ?side2 A8.out).mono ?_); (case side1 => repeat (first | exact (Kd.C_below HR2.out HB.out) | (with_reducible refine Kd.C_alloc ?_ _) | (with_reducible refine Kd.C_drewN ?_ _) | (with_reducible refine Kd.C_drew ?_))); (case side2 => exact HC2.out); rintro e w13 ⟨rfl, hb⟩; have n0_ := Aside0.mk (below_step (by repeat (first | (with_reducible first | exact HB.out | apply below_alloc | apply pw_below_drewN | apply below_drew1) | exact HB.out)) hb); clear HB; have HB := n0_; clear n0_; (try clear hb); (try clear hb2); (try clear hk); (try clear hi)) | ((with_reducible refine gate_callee (f := 68) rfl ?_); refine goesL_ (some 24) rfl rfl Try.func68 (by kernel_rfl) rfl #[.slice A0 l0.length c0, .slice A1 l1.length c1, .slice A2 l2.length c2] rfl (by (try simp only [List.map_toArray, List.map_cons, List.map_nil]); first | done | rfl | (simp only [List.length_drop, List.length_take]; rfl)) ?_; (with_reducible refine (impl_conflictsOf.calls k _ _ l0 _ _ l1 _ _ l2 t104 _ ?side1 ?side2 ?side3 ?side4 ?side5 ?side6 A10.out).mono ?_); (case side1 => repeat (first | exact (Kd.C_below HR0.out HB.out) | (with_reducible refine Kd.C_alloc ?_ _) | (with_reducible refine Kd.C_drewN ?_ _) | (with_reducible refine Kd.C_drew ?_))); (case side2 => exact HC0.out); (case side3 => repeat (first | exact (Kd.C_below HR1.out HB.out) | (with_reducible refine Kd.C_alloc ?_ _) | (with_reducible refine Kd.C_drewN ?_ _) | (with_reducible refine Kd.C_drew ?_))); (case side4 => exact HC1.out); (case side5 => repeat (first | exact (Kd.C_below HR2.out HB.out) | (with_reducible refine Kd.C_alloc ?_ _) | (with_reducible refine Kd.C_drewN ?_ _) | (with_reducible refine Kd.C_drew ?_))); (case side6 => exact HC2.out); rintro e w14 ⟨v105, rfl, ho0, hb⟩; refine ⟨_, rfl, ?_⟩; have n0_ := Aside0.mk (Kd.R_lower ho0 (below_size (by repeat (first | (with_reducible first | exact HB.out | apply below_alloc | apply pw_below_drewN | apply below_drew1) | exact HB.out)))); have n1_ := Aside0.mk (below_step (by repeat (first | (with_reducible first | exact HB.out | apply below_alloc | apply pw_below_drewN | apply below_drew1) | exact HB.out)) hb); clear HB; have HO106 := n0_; have HB := n1_; clear n0_ n1_; (try clear hb); (try clear hb2); (try clear hk); (try clear hi); (try clear ho0)))
        go_ret2
        exact ⟨_, by first | rfl | (simp [errW_none, errW_some] <;> rfl) | (simp [*, errW_none, errW_some] <;> rfl), by (with_reducible repeat (first | apply Kd.R_alloc | apply Kd.R_drewN | apply Kd.R_drew)); exact HO106.out, by repeat (first | (with_reducible first | exact HB.out | apply below_alloc | apply pw_below_drewN | apply below_drew1) | exact HB.out)⟩
      · replace c9 := Bool.eq_false_iff.mpr c9
        subst c9
        have H1 : (some (([] : List ByteArray), 1)) = some (r1, r2) := by rw [if_neg (show ¬ (false = true) by decide)] at H; exact H
        clear H
        have H := H1
        clear H1
        simp only [Option.some.injEq, Prod.mk.injEq] at H
        obtain ⟨rfl, rfl⟩ := H
        go_enter Try.func20, Try.ntmps20
        go_wp2_with (first | ((with_reducible refine gate_callee (f := 57) rfl ?_); refine goesL_ (some 9) rfl rfl Try.func57 (by kernel_rfl) rfl #[.slice A0 l0.length c0] rfl (by (try simp only [List.map_toArray, List.map_cons, List.map_nil]); first | done | rfl | (simp only [List.length_drop, List.length_take]; rfl)) ?_; (with_reducible refine (impl_ValidState.calls k _ _ l0 true _ ?side1 ?side2 A4.out).mono ?_); (case side1 => repeat (first | exact HR0.out | (with_reducible refine Kd.C_alloc ?_ _) | (with_reducible refine Kd.C_drewN ?_ _) | (with_reducible refine Kd.C_drew ?_))); (case side2 => exact HC0.out); rintro e w15 ⟨rfl, hb⟩; refine ⟨_, rfl, ?_⟩; have n0_ := Aside0.mk (below_step (by repeat (first | (with_reducible first | exact HB.out | apply below_alloc | apply pw_below_drewN | apply below_drew1) | exact HB.out)) hb); clear HB; have HB := n0_; clear n0_; (try clear hb); (try clear hb2); (try clear hk); (try clear hi)) | (go_at_call 57; (with_reducible refine (impl_ValidState.calls k _ _ l1 true _ ?side1 ?side2 A6.out).mono ?_); (case side1 => repeat (first | exact (Kd.C_below HR1.out HB.out) | (with_reducible refine Kd.C_alloc ?_ _) | (with_reducible refine Kd.C_drewN ?_ _) | (with_reducible refine Kd.C_drew ?_))); (case side2 => exact HC1.out); rintro e w16 ⟨rfl, hb⟩; have n0_ := Aside0.mk (below_step (by repeat (first | (with_reducible first | exact HB.out | apply below_alloc | apply pw_below_drewN | apply below_drew1) | exact HB.out)) hb); clear HB; have HB := n0_; clear n0_; (try clear hb); (try clear hb2); (try clear hk); (try clear hi)) | (go_at_call 57; (with_reducible refine (impl_ValidState.calls k _ _ l2 false _ ?side1 ?side2 A8.out).mono ?_); (case side1 => repeat (first | exact (Kd.C_below HR2.out HB.out) | (with_reducible refine Kd.C_alloc ?_ _) | (with_reducible refine Kd.C_drewN ?_ _) | (with_reducible refine Kd.C_drew ?_))); (case side2 => exact HC2.out); rintro e w17 ⟨rfl, hb⟩; have n0_ := Aside0.mk (below_step (by repeat (first | (with_reducible first | exact HB.out | apply below_alloc | apply pw_below_drewN | apply below_drew1) | exact HB.out)) hb); clear HB; have HB := n0_; clear n0_; (try clear hb); (try clear hb2); (try clear hk); (try clear hi)))
        go_ret2
        exact ⟨_, by first | rfl | (simp [errW_none, errW_some] <;> rfl) | (simp [*, errW_none, errW_some] <;> rfl), by first | exact Kd.R_nil _ _ _ _ _ | exact Kd.N_nil _ _ _ _ _ | exact Kd.V_nil _ _ _ _ _ | exact Kd.Q_nil _ _ _ _ _ | exact Kd.S_nil _ _ _ _ _, by repeat (first | (with_reducible first | exact HB.out | apply below_alloc | apply pw_below_drewN | apply below_drew1) | exact HB.out)⟩
    · replace c7 := Bool.eq_false_iff.mpr c7
      subst c7
      have H1 : (some (([] : List ByteArray), 1)) = some (r1, r2) := by rw [if_neg (show ¬ (false = true) by decide)] at H; exact H
      clear H
      have H := H1
      clear H1
      simp only [Option.some.injEq, Prod.mk.injEq] at H
      obtain ⟨rfl, rfl⟩ := H
      go_enter Try.func20, Try.ntmps20
      go_wp2_with (first | ((with_reducible refine gate_callee (f := 57) rfl ?_); refine goesL_ (some 9) rfl rfl Try.func57 (by kernel_rfl) rfl #[.slice A0 l0.length c0] rfl (by (try simp only [List.map_toArray, List.map_cons, List.map_nil]); first | done | rfl | (simp only [List.length_drop, List.length_take]; rfl)) ?_; (with_reducible refine (impl_ValidState.calls k _ _ l0 true _ ?side1 ?side2 A4.out).mono ?_); (case side1 => repeat (first | exact HR0.out | (with_reducible refine Kd.C_alloc ?_ _) | (with_reducible refine Kd.C_drewN ?_ _) | (with_reducible refine Kd.C_drew ?_))); (case side2 => exact HC0.out); rintro e w18 ⟨rfl, hb⟩; refine ⟨_, rfl, ?_⟩; have n0_ := Aside0.mk (below_step (by repeat (first | (with_reducible first | exact HB.out | apply below_alloc | apply pw_below_drewN | apply below_drew1) | exact HB.out)) hb); clear HB; have HB := n0_; clear n0_; (try clear hb); (try clear hb2); (try clear hk); (try clear hi)) | (go_at_call 57; (with_reducible refine (impl_ValidState.calls k _ _ l1 false _ ?side1 ?side2 A6.out).mono ?_); (case side1 => repeat (first | exact (Kd.C_below HR1.out HB.out) | (with_reducible refine Kd.C_alloc ?_ _) | (with_reducible refine Kd.C_drewN ?_ _) | (with_reducible refine Kd.C_drew ?_))); (case side2 => exact HC1.out); rintro e w19 ⟨rfl, hb⟩; have n0_ := Aside0.mk (below_step (by repeat (first | (with_reducible first | exact HB.out | apply below_alloc | apply pw_below_drewN | apply below_drew1) | exact HB.out)) hb); clear HB; have HB := n0_; clear n0_; (try clear hb); (try clear hb2); (try clear hk); (try clear hi)))
      go_ret2
      exact ⟨_, by first | rfl | (simp [errW_none, errW_some] <;> rfl) | (simp [*, errW_none, errW_some] <;> rfl), by first | exact Kd.R_nil _ _ _ _ _ | exact Kd.N_nil _ _ _ _ _ | exact Kd.V_nil _ _ _ _ _ | exact Kd.Q_nil _ _ _ _ _ | exact Kd.S_nil _ _ _ _ _, by repeat (first | (with_reducible first | exact HB.out | apply below_alloc | apply pw_below_drewN | apply below_drew1) | exact HB.out)⟩
  · replace c5 := Bool.eq_false_iff.mpr c5
    subst c5
    have H1 : (some (([] : List ByteArray), 1)) = some (r1, r2) := by rw [if_neg (show ¬ (false = true) by decide)] at H; exact H
    clear H
    have H := H1
    clear H1
    simp only [Option.some.injEq, Prod.mk.injEq] at H
    obtain ⟨rfl, rfl⟩ := H
    go_enter Try.func20, Try.ntmps20
    go_wp2_with (first | ((with_reducible refine gate_callee (f := 57) rfl ?_); refine goesL_ (some 9) rfl rfl Try.func57 (by kernel_rfl) rfl #[.slice A0 l0.length c0] rfl (by (try simp only [List.map_toArray, List.map_cons, List.map_nil]); first | done | rfl | (simp only [List.length_drop, List.length_take]; rfl)) ?_; (with_reducible refine (impl_ValidState.calls k _ _ l0 false _ ?side1 ?side2 A4.out).mono ?_); (case side1 => repeat (first | exact HR0.out | (with_reducible refine Kd.C_alloc ?_ _) | (with_reducible refine Kd.C_drewN ?_ _) | (with_reducible refine Kd.C_drew ?_))); (case side2 => exact HC0.out); rintro e w20 ⟨rfl, hb⟩; refine ⟨_, rfl, ?_⟩; have n0_ := Aside0.mk (below_step (by repeat (first | (with_reducible first | exact HB.out | apply below_alloc | apply pw_below_drewN | apply below_drew1) | exact HB.out)) hb); clear HB; have HB := n0_; clear n0_; (try clear hb); (try clear hb2); (try clear hk); (try clear hi)))
    go_ret2
    exact ⟨_, by first | rfl | (simp [errW_none, errW_some] <;> rfl) | (simp [*, errW_none, errW_some] <;> rfl), by first | exact Kd.R_nil _ _ _ _ _ | exact Kd.N_nil _ _ _ _ _ | exact Kd.V_nil _ _ _ _ _ | exact Kd.Q_nil _ _ _ _ _ | exact Kd.S_nil _ _ _ _ _, by repeat (first | (with_reducible first | exact HB.out | apply below_alloc | apply pw_below_drewN | apply below_drew1) | exact HB.out)⟩

end Go.Proofs.Ytocegmkifmdlcaa.P

namespace Go.Proofs.Ytocegmkifmdlcaa.P
open Go.RowKit Go.Proofs.YtocegmkifmdlcaaW.PrintWords Go.Proofs.YtocegmkifmdlcaaW.PrintLast Go.Proofs.YtocegmkifmdlcaaW.PrintMore
attribute [local go_sem] max2_int min2_int max_two min_two max_three min_three max_four min_four str_leq str_gtr str_geq
set_option linter.unusedVariables false
set_option linter.unusedSimpArgs false

def laws_eqStringS.l0 : Nat → List ByteArray → List ByteArray → Int → Option (Bool)
  | 0, _, _, _ => none
  | k + 1, x0, x1, x5 => if x5 < (x0.length : Int) then (if 0 ≤ x5 then (if x5 < (x1.length : Int) then (if (rdOf ByteArray.empty x0 x5).toList = (rdOf ByteArray.empty x1 x5).toList then (laws_eqStringS.l0 k x0 x1 (wrap64 (x5 + 1))) else (some false)) else (none)) else (none)) else (some true)
def laws_eqStringS.f (k : Nat) (l0 : List ByteArray) (l1 : List ByteArray) : Option (Bool) := if (l0.length : Int) = (l1.length : Int) then (laws_eqStringS.l0 k l0 l1 0) else (some false)
set_option maxHeartbeats 8000000 in
set_option maxRecDepth 100000 in
theorem laws_eqStringS.calls (k : Nat) (A0 : Option Addr) (c0 : Nat) (l0 : List ByteArray) (A1 : Option Addr) (c1 : Nat) (l1 : List ByteArray) (r : Bool) (w : World) (hr0 : Kd.C Kd.string w A0 l0.length l0) (hc0 : l0.length ≤ c0) (hr1 : Kd.C Kd.string w A1 l1.length l1) (hc1 : l1.length ≤ c1) (h : laws_eqStringS.f k l0 l1 = some r) :
    Calls Try.prog 21 #[.slice A0 l0.length c0, .slice A1 l1.length c1] w fun e w' => e = .returned (.bool r) ∧ Drawn0 w w' := by
  have HR0 := Aside0.mk hr0
  have HC0 := Aside0.mk hc0
  clear hr0 hc0
  have HR1 := Aside0.mk hr1
  have HC1 := Aside0.mk hc1
  clear hr1 hc1
  have H : (if (l0.length : Int) = (l1.length : Int) then (laws_eqStringS.l0 k l0 l1 0) else (some false)) = some r := h
  clear h
  by_cases c3 : (l0.length : Int) = (l1.length : Int)
  · rw [if_pos c3] at H
    have c3b0 : ((l0.length : Int) == (l1.length : Int)) = true := beq_iff_eq.mpr c3
    have c3b1 : ((l0.length : Int) != (l1.length : Int)) = false := bne_eq_false_iff_eq.mpr c3
    have c3b2 : (l0.length == l1.length) = true := by first | simpa using c3 | (simp at c3 ⊢; omega)
    clear c3
    have H' := Aside0.mk H
    clear H
    go_enter Try.func21, Try.ntmps21
    go_wp2
    repeat (go_quiet (fail); try go_wp2)
    go_loopg [5] k (fun kq v5 w' => ∃ (x5_1 : Int), v5 = .int .i64 x5_1 ∧ Aside0 (laws_eqStringS.l0 kq l0 l1 x5_1 = some r) ∧ Aside0 (kq ≤ k) ∧ Drawn0 w w')
    case atStart => exact ⟨(0), (by first | rfl | (simp; done) | (simp [*]; done)), H', ⟨Nat.le_refl _⟩, by repeat (first | exact Drawn0.refl _ | apply Drawn0.step)⟩
    case round =>
      clear H'
      try clear c1
      try clear c2
      try clear p2
      try clear c3
      try clear c3b0
      try clear c3b1
      try clear c3b2
      obtain ⟨x5_1, rfl, HA, HK1, ⟨m1, rfl⟩⟩ := hrel
      cases gk with
      | zero => exact absurd HA.out (by simp [laws_eqStringS.l0])
      | succ k1 =>
        have H := HA.out
        clear HA
        simp only [laws_eqStringS.l0] at H
        by_cases c4 : x5_1 < (l0.length : Int)
        · rw [if_pos c4] at H
          have c4b0 : decide (x5_1 < (l0.length : Int)) = true := decide_eq_true c4
          clear c4
          by_cases c5 : 0 ≤ x5_1
          · rw [if_pos c5] at H
            have c5b0 : decide (0 ≤ x5_1) = true := decide_eq_true c5
            clear c5
            by_cases c6 : x5_1 < (l1.length : Int)
            · rw [if_pos c6] at H
              have c6b0 : decide (x5_1 < (l1.length : Int)) = true := decide_eq_true c6
              clear c6
              by_cases c7 : (rdOf ByteArray.empty l0 x5_1).toList = (rdOf ByteArray.empty l1 x5_1).toList
              · rw [if_pos c7] at H
                have c7b0 : ((rdOf ByteArray.empty l0 x5_1).toList == (rdOf ByteArray.empty l1 x5_1).toList) = true := beq_iff_eq.mpr c7
                have c7b1 : ((rdOf ByteArray.empty l0 x5_1).toList != (rdOf ByteArray.empty l1 x5_1).toList) = false := bne_eq_false_iff_eq.mpr c7
                clear c7
                have H' := Aside0.mk H
                clear H
                have p101 : 0 ≤ (x5_1 : Int) := of_decide_eq_true (by first | (with_reducible assumption) | assumption)
                have q101 : x5_1 < (l0.length : Int) := of_decide_eq_true (by first | (with_reducible assumption) | assumption)
                obtain ⟨ad101, e101, hx101_0⟩ := Kd.at_string HR0.out x5_1 p101 q101
                cases e101
                replace p101 := eq_true p101
                replace q101 := eq_true q101
                have p102 : 0 ≤ (x5_1 : Int) := of_decide_eq_true (by first | (with_reducible assumption) | assumption)
                have q102 : x5_1 < (l1.length : Int) := of_decide_eq_true (by first | (with_reducible assumption) | assumption)
                obtain ⟨ad102, e102, hx102_0⟩ := Kd.at_string HR1.out x5_1 p102 q102
                cases e102
                replace p102 := eq_true p102
                replace q102 := eq_true q102
                go_wp2
                repeat (go_quiet (fail); try go_wp2)
                go_roundg k1
                case measure => have := HK1.out; omega
                case rel => exact ⟨(wrap64 (x5_1 + 1)), (by first | rfl | (simp; done) | (simp [*]; done)), H', ⟨by have := HK1.out; omega⟩, by repeat (first | exact Drawn0.refl _ | apply Drawn0.step)⟩
              · rw [if_neg c7] at H
                have c7b0 : ((rdOf ByteArray.empty l0 x5_1).toList == (rdOf ByteArray.empty l1 x5_1).toList) = false := beq_eq_false_iff_ne.mpr c7
                have c7b1 : ((rdOf ByteArray.empty l0 x5_1).toList != (rdOf ByteArray.empty l1 x5_1).toList) = true := bne_iff_ne.mpr c7
                obtain rfl := Option.some.inj H
                have p101 : 0 ≤ (x5_1 : Int) := of_decide_eq_true (by first | (with_reducible assumption) | assumption)
                have q101 : x5_1 < (l0.length : Int) := of_decide_eq_true (by first | (with_reducible assumption) | assumption)
                obtain ⟨ad101, e101, hx101_0⟩ := Kd.at_string HR0.out x5_1 p101 q101
                cases e101
                replace p101 := eq_true p101
                replace q101 := eq_true q101
                have p102 : 0 ≤ (x5_1 : Int) := of_decide_eq_true (by first | (with_reducible assumption) | assumption)
                have q102 : x5_1 < (l1.length : Int) := of_decide_eq_true (by first | (with_reducible assumption) | assumption)
                obtain ⟨ad102, e102, hx102_0⟩ := Kd.at_string HR1.out x5_1 p102 q102
                cases e102
                replace p102 := eq_true p102
                replace q102 := eq_true q102
                go_wp2
                repeat (go_quiet (fail); try go_wp2)
                go_ret
                exact ⟨by first | rfl | (simp; done) | (simp [*]; done), by repeat (first | exact Drawn0.refl _ | apply Drawn0.step)⟩
            · rw [if_neg c6] at H
              exact absurd H (by simp)
          · rw [if_neg c5] at H
            exact absurd H (by simp)
        · rw [if_neg c4] at H
          have c4b0 : decide (x5_1 < (l0.length : Int)) = false := decide_eq_false c4
          clear c4
          obtain rfl := Option.some.inj H
          go_wp2
          repeat (go_quiet (fail); try go_wp2)
          go_ret
          exact ⟨by first | rfl | (simp; done) | (simp [*]; done), by repeat (first | exact Drawn0.refl _ | apply Drawn0.step)⟩
  · rw [if_neg c3] at H
    have c3b0 : ((l0.length : Int) == (l1.length : Int)) = false := beq_eq_false_iff_ne.mpr c3
    have c3b1 : ((l0.length : Int) != (l1.length : Int)) = true := bne_iff_ne.mpr c3
    have c3b2 : (l0.length == l1.length) = false := by first | simpa using c3 | (simp at c3 ⊢; omega)
    obtain rfl := Option.some.inj H
    go_enter Try.func21, Try.ntmps21
    go_wp2
    repeat (go_quiet (fail); try go_wp2)
    go_ret
    exact ⟨by first | rfl | (simp; done) | (simp [*]; done), by repeat (first | exact Drawn0.refl _ | apply Drawn0.step)⟩

end Go.Proofs.Ytocegmkifmdlcaa.P

namespace Go.Proofs.Ytocegmkifmdlcaa.P
open Go.RowKit Go.Proofs.YtocegmkifmdlcaaW.PrintWords Go.Proofs.YtocegmkifmdlcaaW.PrintLast Go.Proofs.YtocegmkifmdlcaaW.PrintMore
attribute [local go_sem] max2_int min2_int max_two min_two max_three min_three max_four min_four str_leq str_gtr str_geq
set_option linter.unusedVariables false
set_option linter.unusedSimpArgs false

def laws_markStringS.l0 : Nat → List ByteArray → Int → Int → Option (Int × List ByteArray)
  | 0, _, _, _ => none
  | k + 1, x0, x1, x5 => if x5 < (x0.length : Int) then ((laws_markText.f k x1).bind fun t101 => (if 0 ≤ x5 then (laws_markStringS.l0 k (x0.set (x5 : Int).toNat t101) (wrap64 (x1 + 1)) (wrap64 (x5 + 1))) else (none))) else (some (x1, x0))
def laws_markStringS.f (k : Nat) (l0 : List ByteArray) (a1 : Int) : Option (Int × List ByteArray) := laws_markStringS.l0 k l0 a1 0
set_option maxHeartbeats 8000000 in
set_option maxRecDepth 100000 in
theorem laws_markStringS.calls (k : Nat) (P0_ : Nat → Prop) (u9000_ : Value) (l0 : List ByteArray) (a1 : Int) (r1 : Int) (r2 : List ByteArray) (w0 w : World) (hB : Below w0.heap.size w0 w) (ho0 : Kd.R Kd.string 9 w w0.heap.size P0_ u9000_ l0) (h : laws_markStringS.f k l0 a1 = some (r1, r2)) :
    Calls Try.prog 22 #[u9000_, .int .i64 a1] w fun e w' => e = .returned (.int .i64 r1) ∧ Kd.R Kd.string 9 w' w0.heap.size (fun k_ => (P0_ k_ ∨ w.heap.size ≤ k_)) u9000_ r2 ∧ Below w0.heap.size w0 w' ∧ Kept w w' (fun k_ => P0_ k_) := by
  have HO0 := Aside0.mk (show Kd.R Kd.string 9 w w0.heap.size (fun k_ => (P0_ k_ ∨ w.heap.size ≤ k_)) u9000_ l0 from Kd.R_mono ho0 (fun k_ hk => (.inl hk)))
  have HK := Aside0.mk (Kept.refl w (fun k_ => P0_ k_))
  have HW0 := Aside0.mk hB.size
  have HB := Aside0.mk hB
  clear hB
  have H : (laws_markStringS.l0 k l0 a1 0) = some (r1, r2) := h
  clear h
  have H' := Aside0.mk H
  clear H
  go_enter Try.func22, Try.ntmps22
  go_wp2
  go_loopg [1, 5] k (fun kq v1 v5 w' => ∃ (x0_1 : List ByteArray) (x1_1 : Int) (x5_1 : Int), v1 = .int .i64 x1_1 ∧ v5 = .int .i64 x5_1 ∧ Aside0 (laws_markStringS.l0 kq x0_1 x1_1 x5_1 = some (r1, r2)) ∧ Aside0 (kq ≤ k) ∧ Aside0 (Kd.R Kd.string 9 w' w0.heap.size (fun k_ => (P0_ k_ ∨ w.heap.size ≤ k_)) u9000_ x0_1) ∧ Aside0 (Kept w w' (fun k_ => P0_ k_)) ∧ Aside0 (Below w0.heap.size w0 w'))
  case atStart => exact ⟨(l0), (a1), (0), (by first | rfl | (simp; done) | (simp [*]; done)), (by first | rfl | (simp; done) | (simp [*]; done)), H', ⟨Nat.le_refl _⟩, ⟨by (with_reducible repeat (first | apply Kd.R_alloc | apply Kd.R_drewN | apply Kd.R_drew)); exact HO0.out⟩, ⟨by repeat (first | (with_reducible first | exact HK.out | apply Kept.alloc | apply Kept.drewN | apply Kept.drew) | exact HK.out)⟩, ⟨by repeat (first | (with_reducible first | exact HB.out | apply below_alloc | apply pw_below_drewN | apply below_drew1) | exact HB.out)⟩⟩
  case round =>
    clear H'
    try clear c2
    try clear p2
    obtain ⟨x0_1, x1_1, x5_1, rfl, rfl, HA, HK1, HO_0, HK, HB⟩ := hrel
    cases gk with
    | zero => exact absurd HA.out (by simp [laws_markStringS.l0])
    | succ k1 =>
      have H := HA.out
      clear HA
      simp only [laws_markStringS.l0] at H
      by_cases c3 : x5_1 < (x0_1.length : Int)
      · rw [if_pos c3] at H
        have c3b0 : decide (x5_1 < (x0_1.length : Int)) = true := decide_eq_true c3
        clear c3
        replace H := Option.bind_eq_some_iff.mp H
        obtain ⟨t101, A40, H⟩ := H
        replace H : (if 0 ≤ x5_1 then (laws_markStringS.l0 k1 (x0_1.set (x5_1 : Int).toNat t101) (wrap64 (x1_1 + 1)) (wrap64 (x5_1 + 1))) else (none)) = some (r1, r2) := H
        have A4 := Aside0.mk A40
        clear A40
        by_cases c5 : 0 ≤ x5_1
        · rw [if_pos c5] at H
          have c5b0 : decide (0 ≤ x5_1) = true := decide_eq_true c5
          clear c5
          obtain ⟨y102, hy102⟩ : ∃ y_ : List ByteArray, y_ = (x0_1.set (x5_1 : Int).toNat t101) := ⟨_, rfl⟩
          replace H : (laws_markStringS.l0 k1 y102 (wrap64 (x1_1 + 1)) (wrap64 (x5_1 + 1))) = some (r1, r2) := by first | (rw [hy102]; with_reducible exact H) | (have H2_ := (Option.bind_some _ _).symm.trans H; rw [hy102]; with_reducible exact H2_) | (have H2_ := (Option.bind_some _ _).symm.trans H; with_reducible exact H2_) | with_reducible exact H | (rw [hy102]; exact H) | exact H
          have Ny102 := Aside0.mk hy102
          clear hy102
          have H' := Aside0.mk H
          clear H
          obtain ⟨Ao7, co7, eo7⟩ := Kd.R_slice HO_0.out
          subst eo7
          go_wp2_with (first | ((with_reducible refine gate_callee (f := 66) rfl ?_); refine goesL_ (some 15) rfl rfl Try.func66 (by kernel_rfl) rfl #[.int .i64 x1_1] rfl (by (try simp only [List.map_toArray, List.map_cons, List.map_nil]); first | done | rfl | (simp only [List.length_drop, List.length_take]; rfl)) ?_; (with_reducible refine (laws_markText.calls k1 x1_1 t101 _ A4.out).mono ?_); rintro e w8 ⟨rfl, hb⟩; refine ⟨_, rfl, ?_⟩; have n0_ := Aside0.mk (Kd.R_below (by (with_reducible repeat (first | apply Kd.R_alloc | apply Kd.R_drewN | apply Kd.R_drew)); exact HO_0.out) hb); have n1_ := Aside0.mk (Kept.below (S := (fun k_ => P0_ k_)) (by repeat (first | (with_reducible first | exact HK.out | apply Kept.alloc | apply Kept.drewN | apply Kept.drew) | exact HK.out)) hb); have n2_ := Aside0.mk (below_step (by repeat (first | (with_reducible first | exact HB.out | apply below_alloc | apply pw_below_drewN | apply below_drew1) | exact HB.out)) hb); clear HO_0; clear HK; clear HB; have HO_0 := n0_; have HK := n1_; have HB := n2_; clear n0_ n1_ n2_; (try clear hb); (try clear hb2); (try clear hk); (try clear hi); have p6 : 0 ≤ (x5_1 : Int) := of_decide_eq_true (by first | (with_reducible assumption) | assumption); have q6 : (x5_1 : Int) < ((x0_1.length : Int) : Int) := of_decide_eq_true (by first | (with_reducible assumption) | assumption); obtain ⟨go6, co6, eo6, gb6, gl6, cl6, HG6⟩ := Kd.R_form HO_0.out (by omega); (first | cases eo6 | (injection eo6 with ea_ en_ ec_; (first | subst ea_ | (injection ea_ with ea_; subst ea_)); subst ec_; clear en_)); have GB6 := Aside0.mk gb6; have GG6 := Aside0.mk HG6; clear gb6 gl6 HG6; have HMgo6 := Aside0.mk (show (P0_ go6 ∨ w.heap.size ≤ go6) from (HO_0.out.1 _ rfl)); obtain ⟨hx6_0, hf6_0⟩ := Kd.R_celln (⟨#[]⟩ : ByteArray) HO_0.out (x5_1 : Int) p6 q6; replace p6 := eq_true p6; replace q6 := eq_true q6; obtain ⟨hy9_, hz9_⟩ := Kd.R_celln (⟨#[]⟩ : ByteArray) HO_0.out (x5_1 : Int) (of_decide_eq_true (by first | (with_reducible assumption) | assumption)) (of_decide_eq_true (by first | (with_reducible assumption) | assumption)); have HP9 := Kd.R_putg HO_0.out (x5_1 : Int) t101) | ((with_reducible refine gate_store (t := 9) (p := 16) rfl ?_); refine store_event (t := 9) (p := 16) (v := ?vo_w10) (w1 := (w8.setCell ⟨go6, (x5_1 : Int).toNat, none⟩ (.string t101))) ?hg ?ho ?hn ?hr ?_; (case ho => rfl); (case hg => rfl); (case hn => rfl); (case hr => first | (go_simp; done) | (go_simp; rfl)); intro w10 hw; have hg : w8.grownBy w10 (some go6) := (by rw [hw]; exact HP9.2); have hp_ : Kd.R Kd.string 9 w10 w0.heap.size (fun k_ => (P0_ k_ ∨ w.heap.size ≤ k_)) (.slice (some ⟨go6, 0, none⟩) x0_1.length co7) y102 := (by rw [hw, Ny102.out]; exact HP9.1); clear HP9; have n0_ := Aside0.mk (hp_); have n1_ := Aside0.mk ((by rw [hw]; exact below_set (HB.out) GB6.out : Below w0.heap.size w0 w10)); have n2_ := Aside0.mk (Kept.of_grown (S := (fun k_ => P0_ k_)) hg (by repeat (first | (with_reducible first | exact HK.out | apply Kept.alloc | apply Kept.drewN | apply Kept.drew) | exact HK.out)) (fun k_ e_ => (HO_0.out.1 k_ e_))); clear HO_0; clear HB; clear HK; have HO_0 := n0_; have HB := n1_; have HK := n2_; clear n0_ n1_ n2_; clear hg hw hp_))
          go_roundg k1
          case measure => have := HK1.out; omega
          case rel => exact ⟨(y102), (wrap64 (x1_1 + 1)), (wrap64 (x5_1 + 1)), (by first | rfl | (simp; done) | (simp [*]; done)), (by first | rfl | (simp; done) | (simp [*]; done)), H', ⟨by have := HK1.out; omega⟩, ⟨by (with_reducible repeat (first | apply Kd.R_alloc | apply Kd.R_drewN | apply Kd.R_drew)); exact HO_0.out⟩, ⟨by repeat (first | (with_reducible first | exact HK.out | apply Kept.alloc | apply Kept.drewN | apply Kept.drew) | exact HK.out)⟩, ⟨by repeat (first | (with_reducible first | exact HB.out | apply below_alloc | apply pw_below_drewN | apply below_drew1) | exact HB.out)⟩⟩
        · rw [if_neg c5] at H
          exact absurd H (by simp)
      · rw [if_neg c3] at H
        have c3b0 : decide (x5_1 < (x0_1.length : Int)) = false := decide_eq_false c3
        clear c3
        simp only [Option.some.injEq, Prod.mk.injEq] at H
        obtain ⟨rfl, rfl⟩ := H
        obtain ⟨Ao11, co11, eo11⟩ := Kd.R_slice HO_0.out
        subst eo11
        go_wp2
        go_ret
        exact ⟨by first | rfl | (simp [errW_none, errW_some] <;> rfl) | (simp [*, errW_none, errW_some] <;> rfl), by (with_reducible repeat (first | apply Kd.R_alloc | apply Kd.R_drewN | apply Kd.R_drew)); exact HO_0.out, by repeat (first | (with_reducible first | exact HB.out | apply below_alloc | apply pw_below_drewN | apply below_drew1) | exact HB.out), by repeat (first | (with_reducible first | exact HK.out | apply Kept.alloc | apply Kept.drewN | apply Kept.drew) | exact HK.out)⟩

end Go.Proofs.Ytocegmkifmdlcaa.P

namespace Go.Proofs.Ytocegmkifmdlcaa.P
open Go.RowKit Go.Proofs.YtocegmkifmdlcaaW.PrintWords Go.Proofs.YtocegmkifmdlcaaW.PrintLast Go.Proofs.YtocegmkifmdlcaaW.PrintMore
attribute [local go_sem] max2_int min2_int max_two min_two max_three min_three max_four min_four str_leq str_gtr str_geq
set_option linter.unusedVariables false
set_option linter.unusedSimpArgs false

def laws_heldStringS.l0 : Nat → List ByteArray → Int → Int → Option (Int)
  | 0, _, _, _ => none
  | k + 1, x0, x1, x5 => if x5 < (x0.length : Int) then (if 0 ≤ x5 then ((laws_markText.f k x1).bind fun t102 => (if (rdOf ByteArray.empty x0 x5).toList = t102.toList then (laws_heldStringS.l0 k x0 (wrap64 (x1 + 1)) (wrap64 (x5 + 1))) else (some (-1)))) else (none)) else (some x1)
def laws_heldStringS.f (k : Nat) (l0 : List ByteArray) (a1 : Int) : Option (Int) := laws_heldStringS.l0 k l0 a1 0
set_option maxHeartbeats 8000000 in
set_option maxRecDepth 100000 in
theorem laws_heldStringS.calls (k : Nat) (A0 : Option Addr) (c0 : Nat) (l0 : List ByteArray) (a1 : Int) (r : Int) (w : World) (hr0 : Kd.C Kd.string w A0 l0.length l0) (hc0 : l0.length ≤ c0) (h : laws_heldStringS.f k l0 a1 = some r) :
    Calls Try.prog 23 #[.slice A0 l0.length c0, .int .i64 a1] w fun e w' => e = .returned (.int .i64 r) ∧ Below w.heap.size w w' := by
  have HR0 := Aside0.mk hr0
  have HC0 := Aside0.mk hc0
  clear hr0 hc0
  have HB := Aside0.mk (Below.refl w.heap.size w)
  have H : (laws_heldStringS.l0 k l0 a1 0) = some r := h
  clear h
  have H' := Aside0.mk H
  clear H
  go_enter Try.func23, Try.ntmps23
  go_wp2
  go_loopg [1, 5] k (fun kq v1 v5 w' => ∃ (x1_1 : Int) (x5_1 : Int), v1 = .int .i64 x1_1 ∧ v5 = .int .i64 x5_1 ∧ Aside0 (laws_heldStringS.l0 kq l0 x1_1 x5_1 = some r) ∧ Aside0 (kq ≤ k) ∧ Aside0 (Below w.heap.size w w'))
  case atStart => exact ⟨(a1), (0), (by first | rfl | (simp; done) | (simp [*]; done)), (by first | rfl | (simp; done) | (simp [*]; done)), H', ⟨Nat.le_refl _⟩, ⟨by repeat (first | (with_reducible first | exact HB.out | apply below_alloc | apply pw_below_drewN | apply below_drew1) | exact HB.out)⟩⟩
  case round =>
    clear H'
    try clear c2
    try clear p2
    obtain ⟨x1_1, x5_1, rfl, rfl, HA, HK1, HB⟩ := hrel
    cases gk with
    | zero => exact absurd HA.out (by simp [laws_heldStringS.l0])
    | succ k1 =>
      have H := HA.out
      clear HA
      simp only [laws_heldStringS.l0] at H
      by_cases c3 : x5_1 < (l0.length : Int)
      · rw [if_pos c3] at H
        have c3b0 : decide (x5_1 < (l0.length : Int)) = true := decide_eq_true c3
        clear c3
        by_cases c4 : 0 ≤ x5_1
        · rw [if_pos c4] at H
          have c4b0 : decide (0 ≤ x5_1) = true := decide_eq_true c4
          clear c4
          replace H := Option.bind_eq_some_iff.mp H
          obtain ⟨t102, A50, H⟩ := H
          replace H : (if (rdOf ByteArray.empty l0 x5_1).toList = t102.toList then (laws_heldStringS.l0 k1 l0 (wrap64 (x1_1 + 1)) (wrap64 (x5_1 + 1))) else (some (-1))) = some r := H
          have A5 := Aside0.mk A50
          clear A50
          by_cases c6 : (rdOf ByteArray.empty l0 x5_1).toList = t102.toList
          · rw [if_pos c6] at H
            have c6b0 : ((rdOf ByteArray.empty l0 x5_1).toList == t102.toList) = true := beq_iff_eq.mpr c6
            have c6b1 : ((rdOf ByteArray.empty l0 x5_1).toList != t102.toList) = false := bne_eq_false_iff_eq.mpr c6
            clear c6
            have H' := Aside0.mk H
            clear H
            try go_wp2
            have n0_ := Aside0.mk (below_drew1 HB.out)
            clear HB
            have HB := n0_
            clear n0_
            have p101 : 0 ≤ (x5_1 : Int) := of_decide_eq_true (by first | (with_reducible assumption) | assumption)
            have q101 : x5_1 < (l0.length : Int) := of_decide_eq_true (by first | (with_reducible assumption) | assumption)
            obtain ⟨ad101, e101, hx101_0⟩ := Kd.at_string HR0.out x5_1 p101 q101
            have hw101_0 := hx101_0
            cases e101
            replace hx101_0 := (HB.out.cell (World.block_lt_of_cell? w _ hx101_0)).trans hx101_0
            replace p101 := eq_true p101
            replace q101 := eq_true q101
            refine start_ (n := 7) (S := fun w' => w'.cell? (ad101.add (x5_1).toNat) = some (.string (rdOf ByteArray.empty l0 x5_1))) (ds := []) #[false, false, false, false, false, false, false] (by kernel_rfl) rfl rfl (((HB.out.cell (World.block_lt_of_cell? w _ hw101_0)).trans hw101_0)) (fun hHeld => ?_)
            generalize wr.drew = w7 at HB hx101_0 hHeld ⊢
            refine pure_ (i := 0) (N := some 12) (v := ?_) (a' := ?_) #[true, false, false, false, false, false, false] rfl rfl (by kernel_rfl) (fun _ _ _ h => h) (Or.inl ⟨by rfl, ?_⟩) ?_ ?_
            rotate_left
            · intro w'
              go_simp
              with_reducible rfl
            rotate_left
            · simp only [Act.put, List.setIfInBounds_toArray, List.set_cons_zero, List.set_cons_succ, i64_w, i32_w]
              rfl
            refine pure_ (i := 1) (N := some 13) (v := ?_) (a' := ?_) #[true, true, false, false, false, false, false] rfl rfl (by kernel_rfl) (fun _ _ _ h => h) (Or.inl ⟨by rfl, ?_⟩) ?_ ?_
            rotate_left
            · intro w'
              go_simp
              with_reducible rfl
            rotate_left
            · simp only [Act.put, List.setIfInBounds_toArray, List.set_cons_zero, List.set_cons_succ, i64_w, i32_w]
              rfl
            refine pure_ (i := 2) (N := some 14) (v := ?_) (a' := ?_) #[true, true, true, false, false, false, false] rfl rfl (by kernel_rfl) (fun _ _ _ h => h) (Or.inl ⟨by rfl, ?_⟩) ?_ ?_
            rotate_left
            · intro w'
              go_simp
              with_reducible rfl
            rotate_left
            · simp only [Act.put, List.setIfInBounds_toArray, List.set_cons_zero, List.set_cons_succ, i64_w, i32_w]
              rfl
            refine pure_ (i := 4) (N := some 16) (v := ?_) (a' := ?_) #[true, true, true, false, true, false, false] rfl rfl (by kernel_rfl) (fun _ _ _ h => h) (Or.inl ⟨by rfl, ?_⟩) ?_ ?_
            rotate_left
            · intro w'
              go_simp
              with_reducible rfl
            rotate_left
            · simp only [Act.put, List.setIfInBounds_toArray, List.set_cons_zero, List.set_cons_succ, i64_w, i32_w]
              rfl
            refine take_ (i := 3) (N := some 15) (v := ?_) (a' := ?_) #[true, true, true, true, true, false, false] rfl rfl (by kernel_rfl) (fun _ _ _ h => h) (Or.inl ⟨by rfl, ?_⟩) hHeld ?_ ?_
            rotate_left
            · intro w' s0
              go_simp
              with_reducible rfl
            rotate_left
            · simp only [Act.put, List.setIfInBounds_toArray, List.set_cons_zero, List.set_cons_succ, i64_w, i32_w]
              rfl
            refine one_ (i := 5) (N := some 17) #[true, true, true, true, true, true, false] rfl rfl (by kernel_rfl) (by decide) (fun K hK => ?_)
            refine goes_ Try.func66 (by kernel_rfl) rfl #[.int .i64 x1_1] (by rfl) rfl rfl (by (try simp only [List.map_toArray, List.map_cons, List.map_nil]); first | done | rfl | (simp only [List.length_drop, List.length_take]; rfl)) ?_
            with_reducible refine (laws_markText.calls k1 x1_1 t102 _ A5.out).mono ?_
            rintro e w8 ⟨rfl, hb⟩
            refine ⟨_, rfl, ?_⟩
            have n0_ := Aside0.mk (below_step (by repeat (first | (with_reducible first | exact HB.out | apply below_alloc | apply pw_below_drewN | apply below_drew1) | exact HB.out)) hb)
            clear HB
            have HB := n0_
            clear n0_
            (try clear hb)
            (try clear hb2)
            (try clear hk)
            (try clear hi)
            refine hK.out _ _ (((HB.out.cell (World.block_lt_of_cell? w _ hw101_0)).trans hw101_0)) (fun hHeld => ?_)
            clear hK K
            refine norm_ (a' := ?_) ?_ ?_
            rotate_left
            · show Act.put _ (some 17) _ = _
              simp only [Act.put, List.setIfInBounds_toArray, List.set_cons_zero, List.set_cons_succ, i64_w, i32_w]
              rfl
            refine pure_ (i := 6) (N := some 18) (v := ?_) (a' := ?_) #[true, true, true, true, true, true, true] rfl rfl (by kernel_rfl) (fun _ _ _ h => h) (Or.inl ⟨by rfl, ?_⟩) ?_ ?_
            rotate_left
            · intro w'
              go_simp
              with_reducible rfl
            rotate_left
            · simp only [Act.put, List.setIfInBounds_toArray, List.set_cons_zero, List.set_cons_succ, i64_w, i32_w]
              rfl
            refine done_ (by kernel_rfl) ?_
            try go_wp2
            go_roundg k1
            case measure => have := HK1.out; omega
            case rel => exact ⟨(wrap64 (x1_1 + 1)), (wrap64 (x5_1 + 1)), (by first | rfl | (simp; done) | (simp [*]; done)), (by first | rfl | (simp; done) | (simp [*]; done)), H', ⟨by have := HK1.out; omega⟩, ⟨by repeat (first | (with_reducible first | exact HB.out | apply below_alloc | apply pw_below_drewN | apply below_drew1) | exact HB.out)⟩⟩
          · rw [if_neg c6] at H
            have c6b0 : ((rdOf ByteArray.empty l0 x5_1).toList == t102.toList) = false := beq_eq_false_iff_ne.mpr c6
            have c6b1 : ((rdOf ByteArray.empty l0 x5_1).toList != t102.toList) = true := bne_iff_ne.mpr c6
            obtain rfl := Option.some.inj H
            try go_wp2
            have n0_ := Aside0.mk (below_drew1 HB.out)
            clear HB
            have HB := n0_
            clear n0_
            have p101 : 0 ≤ (x5_1 : Int) := of_decide_eq_true (by first | (with_reducible assumption) | assumption)
            have q101 : x5_1 < (l0.length : Int) := of_decide_eq_true (by first | (with_reducible assumption) | assumption)
            obtain ⟨ad101, e101, hx101_0⟩ := Kd.at_string HR0.out x5_1 p101 q101
            have hw101_0 := hx101_0
            cases e101
            replace hx101_0 := (HB.out.cell (World.block_lt_of_cell? w _ hx101_0)).trans hx101_0
            replace p101 := eq_true p101
            replace q101 := eq_true q101
            refine start_ (n := 7) (S := fun w' => w'.cell? (ad101.add (x5_1).toNat) = some (.string (rdOf ByteArray.empty l0 x5_1))) (ds := []) #[false, false, false, false, false, false, false] (by kernel_rfl) rfl rfl (((HB.out.cell (World.block_lt_of_cell? w _ hw101_0)).trans hw101_0)) (fun hHeld => ?_)
            generalize wr.drew = w9 at HB hx101_0 hHeld ⊢
            refine pure_ (i := 0) (N := some 12) (v := ?_) (a' := ?_) #[true, false, false, false, false, false, false] rfl rfl (by kernel_rfl) (fun _ _ _ h => h) (Or.inl ⟨by rfl, ?_⟩) ?_ ?_
            rotate_left
            · intro w'
              go_simp
              with_reducible rfl
            rotate_left
            · simp only [Act.put, List.setIfInBounds_toArray, List.set_cons_zero, List.set_cons_succ, i64_w, i32_w]
              rfl
            refine pure_ (i := 1) (N := some 13) (v := ?_) (a' := ?_) #[true, true, false, false, false, false, false] rfl rfl (by kernel_rfl) (fun _ _ _ h => h) (Or.inl ⟨by rfl, ?_⟩) ?_ ?_
            rotate_left
            · intro w'
              go_simp
              with_reducible rfl
            rotate_left
            · simp only [Act.put, List.setIfInBounds_toArray, List.set_cons_zero, List.set_cons_succ, i64_w, i32_w]
              rfl
            refine pure_ (i := 2) (N := some 14) (v := ?_) (a' := ?_) #[true, true, true, false, false, false, false] rfl rfl (by kernel_rfl) (fun _ _ _ h => h) (Or.inl ⟨by rfl, ?_⟩) ?_ ?_
            rotate_left
            · intro w'
              go_simp
              with_reducible rfl
            rotate_left
            · simp only [Act.put, List.setIfInBounds_toArray, List.set_cons_zero, List.set_cons_succ, i64_w, i32_w]
              rfl
            refine pure_ (i := 4) (N := some 16) (v := ?_) (a' := ?_) #[true, true, true, false, true, false, false] rfl rfl (by kernel_rfl) (fun _ _ _ h => h) (Or.inl ⟨by rfl, ?_⟩) ?_ ?_
            rotate_left
            · intro w'
              go_simp
              with_reducible rfl
            rotate_left
            · simp only [Act.put, List.setIfInBounds_toArray, List.set_cons_zero, List.set_cons_succ, i64_w, i32_w]
              rfl
            refine take_ (i := 3) (N := some 15) (v := ?_) (a' := ?_) #[true, true, true, true, true, false, false] rfl rfl (by kernel_rfl) (fun _ _ _ h => h) (Or.inl ⟨by rfl, ?_⟩) hHeld ?_ ?_
            rotate_left
            · intro w' s0
              go_simp
              with_reducible rfl
            rotate_left
            · simp only [Act.put, List.setIfInBounds_toArray, List.set_cons_zero, List.set_cons_succ, i64_w, i32_w]
              rfl
            refine one_ (i := 5) (N := some 17) #[true, true, true, true, true, true, false] rfl rfl (by kernel_rfl) (by decide) (fun K hK => ?_)
            refine goes_ Try.func66 (by kernel_rfl) rfl #[.int .i64 x1_1] (by rfl) rfl rfl (by (try simp only [List.map_toArray, List.map_cons, List.map_nil]); first | done | rfl | (simp only [List.length_drop, List.length_take]; rfl)) ?_
            with_reducible refine (laws_markText.calls k1 x1_1 t102 _ A5.out).mono ?_
            rintro e w10 ⟨rfl, hb⟩
            refine ⟨_, rfl, ?_⟩
            have n0_ := Aside0.mk (below_step (by repeat (first | (with_reducible first | exact HB.out | apply below_alloc | apply pw_below_drewN | apply below_drew1) | exact HB.out)) hb)
            clear HB
            have HB := n0_
            clear n0_
            (try clear hb)
            (try clear hb2)
            (try clear hk)
            (try clear hi)
            refine hK.out _ _ (((HB.out.cell (World.block_lt_of_cell? w _ hw101_0)).trans hw101_0)) (fun hHeld => ?_)
            clear hK K
            refine norm_ (a' := ?_) ?_ ?_
            rotate_left
            · show Act.put _ (some 17) _ = _
              simp only [Act.put, List.setIfInBounds_toArray, List.set_cons_zero, List.set_cons_succ, i64_w, i32_w]
              rfl
            refine pure_ (i := 6) (N := some 18) (v := ?_) (a' := ?_) #[true, true, true, true, true, true, true] rfl rfl (by kernel_rfl) (fun _ _ _ h => h) (Or.inl ⟨by rfl, ?_⟩) ?_ ?_
            rotate_left
            · intro w'
              go_simp
              with_reducible rfl
            rotate_left
            · simp only [Act.put, List.setIfInBounds_toArray, List.set_cons_zero, List.set_cons_succ, i64_w, i32_w]
              rfl
            refine done_ (by kernel_rfl) ?_
            try go_wp2
            go_ret
            exact ⟨by first | rfl | (simp [errW_none, errW_some] <;> rfl) | (simp [*, errW_none, errW_some] <;> rfl), by repeat (first | (with_reducible first | exact HB.out | apply below_alloc | apply pw_below_drewN | apply below_drew1) | exact HB.out)⟩
        · rw [if_neg c4] at H
          exact absurd H (by simp)
      · rw [if_neg c3] at H
        have c3b0 : decide (x5_1 < (l0.length : Int)) = false := decide_eq_false c3
        clear c3
        obtain rfl := Option.some.inj H
        go_wp2
        go_ret
        exact ⟨by first | rfl | (simp [errW_none, errW_some] <;> rfl) | (simp [*, errW_none, errW_some] <;> rfl), by repeat (first | (with_reducible first | exact HB.out | apply below_alloc | apply pw_below_drewN | apply below_drew1) | exact HB.out)⟩

end Go.Proofs.Ytocegmkifmdlcaa.P

namespace Go.Proofs.Ytocegmkifmdlcaa.P
open Go.RowKit Go.Proofs.YtocegmkifmdlcaaW.PrintWords Go.Proofs.YtocegmkifmdlcaaW.PrintLast Go.Proofs.YtocegmkifmdlcaaW.PrintMore
def Iv (lo hi : Nat) : Nat → Prop := fun k => lo ≤ k ∧ k < hi
theorem sz_alloc {n : Nat} {W : World} (h : n ≤ W.heap.size) (o : Obj) : n ≤ (W.alloc o).heap.size := Nat.le_trans h (below_alloc (Below.refl _ _) o).size
theorem sz_drewN {n : Nat} {W : World} (h : n ≤ W.heap.size) (m : Nat) : n ≤ (W.drewN m).heap.size := h
theorem sz_drew {n : Nat} {W : World} (h : n ≤ W.heap.size) : n ≤ W.drew.heap.size := h
section
variable {α : Type} {d : Kd α} {e base lo : Nat} {ok : Nat → Prop} {W W1 : World} {v : Value} {xs : List α}
theorem Iv_R (h : d.R e W1 W.heap.size ok v xs) (hb : base ≤ W.heap.size) (hl : lo ≤ W.heap.size) : d.R e W1 base (Iv lo W1.heap.size) v xs :=
  Kd.R_mono (Kd.R_lower (Kd.R_bound h) hb) (fun _ hk => ⟨Nat.le_trans hl hk.2.1, hk.2.2.1⟩)
end
end Go.Proofs.Ytocegmkifmdlcaa.P

namespace Go.Proofs.Ytocegmkifmdlcaa.P
open Go.RowKit Go.Proofs.YtocegmkifmdlcaaW.PrintWords Go.Proofs.YtocegmkifmdlcaaW.PrintLast Go.Proofs.YtocegmkifmdlcaaW.PrintMore
attribute [local go_sem] max2_int min2_int max_two min_two max_three min_three max_four min_four str_leq str_gtr str_geq
set_option linter.unusedVariables false
set_option linter.unusedSimpArgs false

def laws_FnExactConflictsOf.g (k : Nat) (l0 : List S74) (l1 : List S74) (l2 : List S74) : Option Bool := (laws_toSettingS.f k l0).bind fun t7 => ((laws_toSettingS.f k l1).bind fun t10 => ((laws_toSettingS.f k l2).bind fun t13 => ((spec_ConflictsOf.f k t7 t10 t13).bind fun bt16 => ((laws_toSettingS.f k l0).bind fun t20 => ((laws_toSettingS.f k l1).bind fun t23 => ((laws_toSettingS.f k l2).bind fun t26 => ((impl_ConflictsOf.f k t20 t23 t26).bind fun bt29 => (if laws_eqStringS.f k bt29.1 bt16.1 = some true then (if bt29.2 = bt16.2 then ((laws_toSettingS.f k l0).bind fun t35 => (if laws_eqSettingS.f k t20 t35 = some true then ((laws_toSettingS.f k l1).bind fun t40 => (if laws_eqSettingS.f k t23 t40 = some true then ((laws_toSettingS.f k l2).bind fun t45 => (if laws_eqSettingS.f k t26 t45 = some true then ((laws_markSettingS.f k t20 1).bind fun bt50 => ((laws_markSettingS.f k t23 bt50.1).bind fun bt53 => ((laws_markSettingS.f k t26 bt53.1).bind fun bt56 => (if bt56.1 < 0 then none else (if laws_eqStringS.f k bt29.1 bt16.1 = some true then (if bt29.2 = bt16.2 then ((laws_markStringS.f k bt29.1 1).bind fun bt61 => ((laws_heldStringS.f k bt61.2 1).bind fun t64 => (if t64 < 0 then none else (if t64 = bt61.1 then ((laws_toSettingS.f k l0).bind fun t66 => ((laws_toSettingS.f k l1).bind fun t69 => ((laws_toSettingS.f k l2).bind fun t72 => ((impl_ConflictsOf.f k t66 t69 t72).bind fun bt75 => (if laws_eqStringS.f k bt75.1 bt16.1 = some true then (if bt75.2 = bt16.2 then ((laws_heldStringS.f k bt61.2 1).bind fun t81 => (if t81 < 0 then none else (if t81 = bt61.1 then (some true) else none))) else none) else none))))) else none)))) else none) else none))))) else none)) else none)) else none)) else none) else none))))))))
def laws_FnExactConflictsOf.f (k : Nat) (l0 : List S74) (l1 : List S74) (l2 : List S74) : Option Bool := (laws_szSettingS.f k l0 1048576).bind fun t1 => (if t1 < 0 then some true else ((laws_szSettingS.f k l1 t1).bind fun t3 => (if t3 < 0 then some true else ((laws_szSettingS.f k l2 t3).bind fun t5 => (if t5 < 0 then some true else (laws_FnExactConflictsOf.g k l0 l1 l2))))))
set_option maxHeartbeats 8000000 in
set_option maxRecDepth 100000 in
theorem laws_FnExactConflictsOf.early0 (k : Nat) (A0 : Option Addr) (c0 : Nat) (l0 : List S74) (A1 : Option Addr) (c1 : Nat) (l1 : List S74) (A2 : Option Addr) (c2 : Nat) (l2 : List S74) (w : World) (hr0 : Kd.C k74 w A0 l0.length l0) (hc0 : l0.length ≤ c0) (hr1 : Kd.C k74 w A1 l1.length l1) (hc1 : l1.length ≤ c1) (hr2 : Kd.C k74 w A2 l2.length l2) (hc2 : l2.length ≤ c2) (t1 : Int) (Q2 : Aside0 (laws_szSettingS.f k l0 1048576 = some t1)) (ef : t1 < 0) :
    Calls Try.prog 4 #[.slice A0 l0.length c0, .slice A1 l1.length c1, .slice A2 l2.length c2] w fun e w' => e = .returned (.bool true) ∧ Below w.heap.size w w' := by
  have efb : decide (t1 < 0) = true := decide_eq_true ef
  clear ef
  have HR0 := Aside0.mk hr0
  have HR1 := Aside0.mk hr1
  have HR2 := Aside0.mk hr2
  have HC0 := Aside0.mk hc0
  have HC1 := Aside0.mk hc1
  have HC2 := Aside0.mk hc2
  clear hr0 hc0 hr1 hc1 hr2 hc2
  have HB := Aside0.mk (Below.refl w.heap.size w)
  go_enter Try.func4, Try.ntmps4
  go_wp2_with fail
  refine (laws_szSettingS.calls k _ _ l0 1048576 t1 _ (by exact Kd.C_below HR0.out (by repeat (first | (with_reducible first | exact HB.out | apply below_alloc | apply pw_below_drewN | apply below_drew1) | exact HB.out))) HC0.out Q2.out).mono ?_
  rintro e w1 ⟨rfl, hb⟩
  have n0_ := Aside0.mk (below_step (by repeat (first | (with_reducible first | exact HB.out | apply below_alloc | apply pw_below_drewN | apply below_drew1) | exact HB.out)) hb)
  clear HB hb
  have HB := n0_
  clear n0_
  go_wp2_with fail
  go_ret
  exact ⟨rfl, (by repeat (first | (with_reducible first | exact HB.out | apply below_alloc | apply pw_below_drewN | apply below_drew1) | exact HB.out))⟩
set_option maxHeartbeats 8000000 in
set_option maxRecDepth 100000 in
theorem laws_FnExactConflictsOf.early1 (k : Nat) (A0 : Option Addr) (c0 : Nat) (l0 : List S74) (A1 : Option Addr) (c1 : Nat) (l1 : List S74) (A2 : Option Addr) (c2 : Nat) (l2 : List S74) (w : World) (hr0 : Kd.C k74 w A0 l0.length l0) (hc0 : l0.length ≤ c0) (hr1 : Kd.C k74 w A1 l1.length l1) (hc1 : l1.length ≤ c1) (hr2 : Kd.C k74 w A2 l2.length l2) (hc2 : l2.length ≤ c2) (t1 : Int) (t3 : Int) (Q2 : Aside0 (laws_szSettingS.f k l0 1048576 = some t1)) (e1 : ¬ t1 < 0) (Q4 : Aside0 (laws_szSettingS.f k l1 t1 = some t3)) (ef : t3 < 0) :
    Calls Try.prog 4 #[.slice A0 l0.length c0, .slice A1 l1.length c1, .slice A2 l2.length c2] w fun e w' => e = .returned (.bool true) ∧ Below w.heap.size w w' := by
  have e1b : decide (t1 < 0) = false := decide_eq_false e1
  clear e1
  have efb : decide (t3 < 0) = true := decide_eq_true ef
  clear ef
  have HR0 := Aside0.mk hr0
  have HR1 := Aside0.mk hr1
  have HR2 := Aside0.mk hr2
  have HC0 := Aside0.mk hc0
  have HC1 := Aside0.mk hc1
  have HC2 := Aside0.mk hc2
  clear hr0 hc0 hr1 hc1 hr2 hc2
  have HB := Aside0.mk (Below.refl w.heap.size w)
  go_enter Try.func4, Try.ntmps4
  go_wp2_with fail
  refine (laws_szSettingS.calls k _ _ l0 1048576 t1 _ (by exact Kd.C_below HR0.out (by repeat (first | (with_reducible first | exact HB.out | apply below_alloc | apply pw_below_drewN | apply below_drew1) | exact HB.out))) HC0.out Q2.out).mono ?_
  rintro e w1 ⟨rfl, hb⟩
  have n0_ := Aside0.mk (below_step (by repeat (first | (with_reducible first | exact HB.out | apply below_alloc | apply pw_below_drewN | apply below_drew1) | exact HB.out)) hb)
  clear HB hb
  have HB := n0_
  clear n0_
  go_wp2_with fail
  refine (laws_szSettingS.calls k _ _ l1 t1 t3 _ (by exact Kd.C_below HR1.out (by repeat (first | (with_reducible first | exact HB.out | apply below_alloc | apply pw_below_drewN | apply below_drew1) | exact HB.out))) HC1.out Q4.out).mono ?_
  rintro e w2 ⟨rfl, hb⟩
  have n0_ := Aside0.mk (below_step (by repeat (first | (with_reducible first | exact HB.out | apply below_alloc | apply pw_below_drewN | apply below_drew1) | exact HB.out)) hb)
  clear HB hb
  have HB := n0_
  clear n0_
  go_wp2_with fail
  go_ret
  exact ⟨rfl, (by repeat (first | (with_reducible first | exact HB.out | apply below_alloc | apply pw_below_drewN | apply below_drew1) | exact HB.out))⟩
set_option maxHeartbeats 8000000 in
set_option maxRecDepth 100000 in
theorem laws_FnExactConflictsOf.early2 (k : Nat) (A0 : Option Addr) (c0 : Nat) (l0 : List S74) (A1 : Option Addr) (c1 : Nat) (l1 : List S74) (A2 : Option Addr) (c2 : Nat) (l2 : List S74) (w : World) (hr0 : Kd.C k74 w A0 l0.length l0) (hc0 : l0.length ≤ c0) (hr1 : Kd.C k74 w A1 l1.length l1) (hc1 : l1.length ≤ c1) (hr2 : Kd.C k74 w A2 l2.length l2) (hc2 : l2.length ≤ c2) (t1 : Int) (t3 : Int) (t5 : Int) (Q2 : Aside0 (laws_szSettingS.f k l0 1048576 = some t1)) (e1 : ¬ t1 < 0) (Q4 : Aside0 (laws_szSettingS.f k l1 t1 = some t3)) (e3 : ¬ t3 < 0) (Q6 : Aside0 (laws_szSettingS.f k l2 t3 = some t5)) (ef : t5 < 0) :
    Calls Try.prog 4 #[.slice A0 l0.length c0, .slice A1 l1.length c1, .slice A2 l2.length c2] w fun e w' => e = .returned (.bool true) ∧ Below w.heap.size w w' := by
  have e1b : decide (t1 < 0) = false := decide_eq_false e1
  clear e1
  have e3b : decide (t3 < 0) = false := decide_eq_false e3
  clear e3
  have efb : decide (t5 < 0) = true := decide_eq_true ef
  clear ef
  have HR0 := Aside0.mk hr0
  have HR1 := Aside0.mk hr1
  have HR2 := Aside0.mk hr2
  have HC0 := Aside0.mk hc0
  have HC1 := Aside0.mk hc1
  have HC2 := Aside0.mk hc2
  clear hr0 hc0 hr1 hc1 hr2 hc2
  have HB := Aside0.mk (Below.refl w.heap.size w)
  go_enter Try.func4, Try.ntmps4
  go_wp2_with fail
  refine (laws_szSettingS.calls k _ _ l0 1048576 t1 _ (by exact Kd.C_below HR0.out (by repeat (first | (with_reducible first | exact HB.out | apply below_alloc | apply pw_below_drewN | apply below_drew1) | exact HB.out))) HC0.out Q2.out).mono ?_
  rintro e w1 ⟨rfl, hb⟩
  have n0_ := Aside0.mk (below_step (by repeat (first | (with_reducible first | exact HB.out | apply below_alloc | apply pw_below_drewN | apply below_drew1) | exact HB.out)) hb)
  clear HB hb
  have HB := n0_
  clear n0_
  go_wp2_with fail
  refine (laws_szSettingS.calls k _ _ l1 t1 t3 _ (by exact Kd.C_below HR1.out (by repeat (first | (with_reducible first | exact HB.out | apply below_alloc | apply pw_below_drewN | apply below_drew1) | exact HB.out))) HC1.out Q4.out).mono ?_
  rintro e w2 ⟨rfl, hb⟩
  have n0_ := Aside0.mk (below_step (by repeat (first | (with_reducible first | exact HB.out | apply below_alloc | apply pw_below_drewN | apply below_drew1) | exact HB.out)) hb)
  clear HB hb
  have HB := n0_
  clear n0_
  go_wp2_with fail
  refine (laws_szSettingS.calls k _ _ l2 t3 t5 _ (by exact Kd.C_below HR2.out (by repeat (first | (with_reducible first | exact HB.out | apply below_alloc | apply pw_below_drewN | apply below_drew1) | exact HB.out))) HC2.out Q6.out).mono ?_
  rintro e w3 ⟨rfl, hb⟩
  have n0_ := Aside0.mk (below_step (by repeat (first | (with_reducible first | exact HB.out | apply below_alloc | apply pw_below_drewN | apply below_drew1) | exact HB.out)) hb)
  clear HB hb
  have HB := n0_
  clear n0_
  go_wp2_with fail
  go_ret
  exact ⟨rfl, (by repeat (first | (with_reducible first | exact HB.out | apply below_alloc | apply pw_below_drewN | apply below_drew1) | exact HB.out))⟩
set_option maxHeartbeats 8000000 in
set_option maxRecDepth 100000 in
theorem laws_FnExactConflictsOf.main (k : Nat) (A0 : Option Addr) (c0 : Nat) (l0 : List S74) (A1 : Option Addr) (c1 : Nat) (l1 : List S74) (A2 : Option Addr) (c2 : Nat) (l2 : List S74) (w : World) (hr0 : Kd.C k74 w A0 l0.length l0) (hc0 : l0.length ≤ c0) (hr1 : Kd.C k74 w A1 l1.length l1) (hc1 : l1.length ≤ c1) (hr2 : Kd.C k74 w A2 l2.length l2) (hc2 : l2.length ≤ c2) (t1 : Int) (t3 : Int) (t5 : Int) (t7 : List (S80)) (t10 : List (S80)) (t13 : List (S80)) (t16 : List ByteArray) (t17 : Int) (t20 : List (S80)) (t23 : List (S80)) (t26 : List (S80)) (t29 : List ByteArray) (t30 : Int) (t35 : List (S80)) (t40 : List (S80)) (t45 : List (S80)) (t50 : Int) (t51 : List (S80)) (t53 : Int) (t54 : List (S80)) (t56 : Int) (t57 : List (S80)) (t61 : Int) (t62 : List ByteArray) (t64 : Int) (t66 : List (S80)) (t69 : List (S80)) (t72 : List (S80)) (t75 : List ByteArray) (t76 : Int) (t81 : Int) (Q2 : Aside0 (laws_szSettingS.f k l0 1048576 = some t1)) (e1 : ¬ t1 < 0) (Q4 : Aside0 (laws_szSettingS.f k l1 t1 = some t3)) (e3 : ¬ t3 < 0) (Q6 : Aside0 (laws_szSettingS.f k l2 t3 = some t5)) (e5 : ¬ t5 < 0) (Q8 : Aside0 (laws_toSettingS.f k l0 = some t7)) (Q11 : Aside0 (laws_toSettingS.f k l1 = some t10)) (Q14 : Aside0 (laws_toSettingS.f k l2 = some t13)) (Q18 : Aside0 (spec_ConflictsOf.f k t7 t10 t13 = some (t16, t17))) (Q21 : Aside0 (laws_toSettingS.f k l0 = some t20)) (Q24 : Aside0 (laws_toSettingS.f k l1 = some t23)) (Q27 : Aside0 (laws_toSettingS.f k l2 = some t26)) (Q31 : Aside0 (impl_ConflictsOf.f k t20 t23 t26 = some (t29, t30))) (Q34 : Aside0 (laws_eqStringS.f k t29 t16 = some true)) (e15 : t30 = t17) (Q36 : Aside0 (laws_toSettingS.f k l0 = some t35)) (Q39 : Aside0 (laws_eqSettingS.f k t20 t35 = some true)) (Q41 : Aside0 (laws_toSettingS.f k l1 = some t40)) (Q44 : Aside0 (laws_eqSettingS.f k t23 t40 = some true)) (Q46 : Aside0 (laws_toSettingS.f k l2 = some t45)) (Q49 : Aside0 (laws_eqSettingS.f k t26 t45 = some true)) (Q52 : Aside0 (laws_markSettingS.f k t20 1 = some (t50, t51))) (Q55 : Aside0 (laws_markSettingS.f k t23 t50 = some (t53, t54))) (Q58 : Aside0 (laws_markSettingS.f k t26 t53 = some (t56, t57))) (e25 : ¬ t56 < 0) (Q60 : Aside0 (laws_eqStringS.f k t29 t16 = some true)) (e27 : t30 = t17) (Q63 : Aside0 (laws_markStringS.f k t29 1 = some (t61, t62))) (Q65 : Aside0 (laws_heldStringS.f k t62 1 = some t64)) (e30 : ¬ t64 < 0) (e31 : t64 = t61) (Q67 : Aside0 (laws_toSettingS.f k l0 = some t66)) (Q70 : Aside0 (laws_toSettingS.f k l1 = some t69)) (Q73 : Aside0 (laws_toSettingS.f k l2 = some t72)) (Q77 : Aside0 (impl_ConflictsOf.f k t66 t69 t72 = some (t75, t76))) (Q80 : Aside0 (laws_eqStringS.f k t75 t16 = some true)) (e37 : t76 = t17) (Q82 : Aside0 (laws_heldStringS.f k t62 1 = some t81)) (e39 : ¬ t81 < 0) (e40 : t81 = t61) :
    Calls Try.prog 4 #[.slice A0 l0.length c0, .slice A1 l1.length c1, .slice A2 l2.length c2] w fun e w' => e = .returned (.bool true) ∧ Below w.heap.size w w' := by
  have e1b : decide (t1 < 0) = false := decide_eq_false e1
  clear e1
  have e3b : decide (t3 < 0) = false := decide_eq_false e3
  clear e3
  have e5b : decide (t5 < 0) = false := decide_eq_false e5
  clear e5
  have e15b : (t30 == t17) = true := beq_iff_eq.mpr e15
  have e15c : (t30 != t17) = false := bne_eq_false_iff_eq.mpr e15
  clear e15
  have e25b : decide (t56 < 0) = false := decide_eq_false e25
  clear e25
  have e27b : (t30 == t17) = true := beq_iff_eq.mpr e27
  have e27c : (t30 != t17) = false := bne_eq_false_iff_eq.mpr e27
  clear e27
  have e30b : decide (t64 < 0) = false := decide_eq_false e30
  clear e30
  have e31b : (t64 == t61) = true := beq_iff_eq.mpr e31
  have e31c : (t64 != t61) = false := bne_eq_false_iff_eq.mpr e31
  clear e31
  have e37b : (t76 == t17) = true := beq_iff_eq.mpr e37
  have e37c : (t76 != t17) = false := bne_eq_false_iff_eq.mpr e37
  clear e37
  have e39b : decide (t81 < 0) = false := decide_eq_false e39
  clear e39
  have e40b : (t81 == t61) = true := beq_iff_eq.mpr e40
  have e40c : (t81 != t61) = false := bne_eq_false_iff_eq.mpr e40
  clear e40
  have HR0 := Aside0.mk hr0
  have HR1 := Aside0.mk hr1
  have HR2 := Aside0.mk hr2
  have HC0 := Aside0.mk hc0
  have HC1 := Aside0.mk hc1
  have HC2 := Aside0.mk hc2
  clear hr0 hc0 hr1 hc1 hr2 hc2
  have HB := Aside0.mk (Below.refl w.heap.size w)
  go_enter Try.func4, Try.ntmps4
  go_wp2_with fail
  refine (laws_szSettingS.calls k _ _ l0 1048576 t1 _ (by exact Kd.C_below HR0.out (by repeat (first | (with_reducible first | exact HB.out | apply below_alloc | apply pw_below_drewN | apply below_drew1) | exact HB.out))) HC0.out Q2.out).mono ?_
  rintro e w1 ⟨rfl, hb⟩
  have n0_ := Aside0.mk (below_step (by repeat (first | (with_reducible first | exact HB.out | apply below_alloc | apply pw_below_drewN | apply below_drew1) | exact HB.out)) hb)
  clear HB hb
  have HB := n0_
  clear n0_
  go_wp2_with fail
  refine (laws_szSettingS.calls k _ _ l1 t1 t3 _ (by exact Kd.C_below HR1.out (by repeat (first | (with_reducible first | exact HB.out | apply below_alloc | apply pw_below_drewN | apply below_drew1) | exact HB.out))) HC1.out Q4.out).mono ?_
  rintro e w2 ⟨rfl, hb⟩
  have n0_ := Aside0.mk (below_step (by repeat (first | (with_reducible first | exact HB.out | apply below_alloc | apply pw_below_drewN | apply below_drew1) | exact HB.out)) hb)
  clear HB hb
  have HB := n0_
  clear n0_
  go_wp2_with fail
  refine (laws_szSettingS.calls k _ _ l2 t3 t5 _ (by exact Kd.C_below HR2.out (by repeat (first | (with_reducible first | exact HB.out | apply below_alloc | apply pw_below_drewN | apply below_drew1) | exact HB.out))) HC2.out Q6.out).mono ?_
  rintro e w3 ⟨rfl, hb⟩
  have n0_ := Aside0.mk (below_step (by repeat (first | (with_reducible first | exact HB.out | apply below_alloc | apply pw_below_drewN | apply below_drew1) | exact HB.out)) hb)
  clear HB hb
  have HB := n0_
  clear n0_
  go_wp2_with fail
  refine (laws_toSettingS.calls k _ _ l0 t7 _ (by exact Kd.C_below HR0.out (by repeat (first | (with_reducible first | exact HB.out | apply below_alloc | apply pw_below_drewN | apply below_drew1) | exact HB.out))) HC0.out Q8.out).mono ?_
  rintro e w4 ⟨v0, rfl, ho0, hb⟩
  have n0_ := Aside0.mk (Iv_R (lo := w.heap.size) (W := _) ho0 (below_size (by repeat (first | (with_reducible first | exact HB.out | apply below_alloc | apply pw_below_drewN | apply below_drew1) | exact HB.out))) (below_size (by repeat (first | (with_reducible first | exact HB.out | apply below_alloc | apply pw_below_drewN | apply below_drew1) | exact HB.out))))
  have n1_ := Aside0.mk (Nat.le_refl w4.heap.size)
  have n2_ := Aside0.mk (Nat.le_trans (below_size (by repeat (first | (with_reducible first | exact HB.out | apply below_alloc | apply pw_below_drewN | apply below_drew1) | exact HB.out))) hb.size)
  have n3_ := Aside0.mk (below_step (by repeat (first | (with_reducible first | exact HB.out | apply below_alloc | apply pw_below_drewN | apply below_drew1) | exact HB.out)) hb)
  clear HB hb ho0
  have HO_row9 := n0_
  have HS := n1_
  have M4 := n2_
  have HB := n3_
  clear n0_ n1_ n2_ n3_
  obtain ⟨A_row9, c_row9, rfl⟩ := Kd.R_slice HO_row9.out
  go_wp2_with fail
  refine (laws_toSettingS.calls k _ _ l1 t10 _ (by exact Kd.C_below HR1.out (by repeat (first | (with_reducible first | exact HB.out | apply below_alloc | apply pw_below_drewN | apply below_drew1) | exact HB.out))) HC1.out Q11.out).mono ?_
  rintro e w5 ⟨v0, rfl, ho0, hb⟩
  have n0_ := Aside0.mk (Kd.R_below (by (with_reducible repeat (first | apply Kd.R_alloc | apply Kd.R_drewN | apply Kd.R_drew)); exact HO_row9.out) hb)
  have n1_ := Aside0.mk (Iv_R (lo := w4.heap.size) (W := _) ho0 (below_size (by repeat (first | (with_reducible first | exact HB.out | apply below_alloc | apply pw_below_drewN | apply below_drew1) | exact HB.out))) (by repeat (first | (with_reducible first | exact HS.out | apply sz_alloc | apply sz_drewN | apply sz_drew) | exact HS.out)))
  have n2_ := Aside0.mk (Nat.le_refl w5.heap.size)
  have n3_ := Aside0.mk (Nat.le_trans (by repeat (first | (with_reducible first | exact HS.out | apply sz_alloc | apply sz_drewN | apply sz_drew) | exact HS.out)) hb.size)
  have n4_ := Aside0.mk (below_step (by repeat (first | (with_reducible first | exact HB.out | apply below_alloc | apply pw_below_drewN | apply below_drew1) | exact HB.out)) hb)
  clear HB HS HO_row9 hb ho0
  have HO_row9 := n0_
  have HO_row12 := n1_
  have HS := n2_
  have M5 := n3_
  have HB := n4_
  clear n0_ n1_ n2_ n3_ n4_
  obtain ⟨A_row12, c_row12, rfl⟩ := Kd.R_slice HO_row12.out
  go_wp2_with fail
  refine (laws_toSettingS.calls k _ _ l2 t13 _ (by exact Kd.C_below HR2.out (by repeat (first | (with_reducible first | exact HB.out | apply below_alloc | apply pw_below_drewN | apply below_drew1) | exact HB.out))) HC2.out Q14.out).mono ?_
  rintro e w6 ⟨v0, rfl, ho0, hb⟩
  have n0_ := Aside0.mk (Kd.R_below (by (with_reducible repeat (first | apply Kd.R_alloc | apply Kd.R_drewN | apply Kd.R_drew)); exact HO_row9.out) hb)
  have n1_ := Aside0.mk (Kd.R_below (by (with_reducible repeat (first | apply Kd.R_alloc | apply Kd.R_drewN | apply Kd.R_drew)); exact HO_row12.out) hb)
  have n2_ := Aside0.mk (Iv_R (lo := w5.heap.size) (W := _) ho0 (below_size (by repeat (first | (with_reducible first | exact HB.out | apply below_alloc | apply pw_below_drewN | apply below_drew1) | exact HB.out))) (by repeat (first | (with_reducible first | exact HS.out | apply sz_alloc | apply sz_drewN | apply sz_drew) | exact HS.out)))
  have n3_ := Aside0.mk (Nat.le_refl w6.heap.size)
  have n4_ := Aside0.mk (Nat.le_trans (by repeat (first | (with_reducible first | exact HS.out | apply sz_alloc | apply sz_drewN | apply sz_drew) | exact HS.out)) hb.size)
  have n5_ := Aside0.mk (below_step (by repeat (first | (with_reducible first | exact HB.out | apply below_alloc | apply pw_below_drewN | apply below_drew1) | exact HB.out)) hb)
  clear HB HS HO_row9 HO_row12 hb ho0
  have HO_row9 := n0_
  have HO_row12 := n1_
  have HO_row15 := n2_
  have HS := n3_
  have M6 := n4_
  have HB := n5_
  clear n0_ n1_ n2_ n3_ n4_ n5_
  obtain ⟨A_row15, c_row15, rfl⟩ := Kd.R_slice HO_row15.out
  go_wp2_with fail
  refine (spec_ConflictsOf.calls k _ _ t7 _ _ t10 _ _ t13 t16 t17 _ (by exact (Kd.R_reads' (by (with_reducible repeat (first | apply Kd.R_alloc | apply Kd.R_drewN | apply Kd.R_drew)); exact HO_row9.out)).2.2) (by exact (Kd.R_reads' HO_row9.out).2.1) (by exact (Kd.R_reads' (by (with_reducible repeat (first | apply Kd.R_alloc | apply Kd.R_drewN | apply Kd.R_drew)); exact HO_row12.out)).2.2) (by exact (Kd.R_reads' HO_row12.out).2.1) (by exact (Kd.R_reads' (by (with_reducible repeat (first | apply Kd.R_alloc | apply Kd.R_drewN | apply Kd.R_drew)); exact HO_row15.out)).2.2) (by exact (Kd.R_reads' HO_row15.out).2.1) Q18.out).mono ?_
  rintro e w7 ⟨v0, rfl, ho0, hb⟩
  have n0_ := Aside0.mk (Kd.R_below (by (with_reducible repeat (first | apply Kd.R_alloc | apply Kd.R_drewN | apply Kd.R_drew)); exact HO_row9.out) hb)
  have n1_ := Aside0.mk (Kd.R_below (by (with_reducible repeat (first | apply Kd.R_alloc | apply Kd.R_drewN | apply Kd.R_drew)); exact HO_row12.out) hb)
  have n2_ := Aside0.mk (Kd.R_below (by (with_reducible repeat (first | apply Kd.R_alloc | apply Kd.R_drewN | apply Kd.R_drew)); exact HO_row15.out) hb)
  have n3_ := Aside0.mk (Iv_R (lo := w6.heap.size) (W := _) ho0 (below_size (by repeat (first | (with_reducible first | exact HB.out | apply below_alloc | apply pw_below_drewN | apply below_drew1) | exact HB.out))) (by repeat (first | (with_reducible first | exact HS.out | apply sz_alloc | apply sz_drewN | apply sz_drew) | exact HS.out)))
  have n4_ := Aside0.mk (Nat.le_refl w7.heap.size)
  have n5_ := Aside0.mk (Nat.le_trans (by repeat (first | (with_reducible first | exact HS.out | apply sz_alloc | apply sz_drewN | apply sz_drew) | exact HS.out)) hb.size)
  have n6_ := Aside0.mk (below_step (by repeat (first | (with_reducible first | exact HB.out | apply below_alloc | apply pw_below_drewN | apply below_drew1) | exact HB.out)) hb)
  clear HB HS HO_row9 HO_row12 HO_row15 hb ho0
  have HO_row9 := n0_
  have HO_row12 := n1_
  have HO_row15 := n2_
  have HO_row19 := n3_
  have HS := n4_
  have M7 := n5_
  have HB := n6_
  clear n0_ n1_ n2_ n3_ n4_ n5_ n6_
  obtain ⟨A_row19, c_row19, rfl⟩ := Kd.R_slice HO_row19.out
  go_wp2_with fail
  refine (laws_toSettingS.calls k _ _ l0 t20 _ (by exact Kd.C_below HR0.out (by repeat (first | (with_reducible first | exact HB.out | apply below_alloc | apply pw_below_drewN | apply below_drew1) | exact HB.out))) HC0.out Q21.out).mono ?_
  rintro e w8 ⟨v0, rfl, ho0, hb⟩
  have n0_ := Aside0.mk (Kd.R_below (by (with_reducible repeat (first | apply Kd.R_alloc | apply Kd.R_drewN | apply Kd.R_drew)); exact HO_row9.out) hb)
  have n1_ := Aside0.mk (Kd.R_below (by (with_reducible repeat (first | apply Kd.R_alloc | apply Kd.R_drewN | apply Kd.R_drew)); exact HO_row12.out) hb)
  have n2_ := Aside0.mk (Kd.R_below (by (with_reducible repeat (first | apply Kd.R_alloc | apply Kd.R_drewN | apply Kd.R_drew)); exact HO_row15.out) hb)
  have n3_ := Aside0.mk (Kd.R_below (by (with_reducible repeat (first | apply Kd.R_alloc | apply Kd.R_drewN | apply Kd.R_drew)); exact HO_row19.out) hb)
  have n4_ := Aside0.mk (Iv_R (lo := w7.heap.size) (W := _) ho0 (below_size (by repeat (first | (with_reducible first | exact HB.out | apply below_alloc | apply pw_below_drewN | apply below_drew1) | exact HB.out))) (by repeat (first | (with_reducible first | exact HS.out | apply sz_alloc | apply sz_drewN | apply sz_drew) | exact HS.out)))
  have n5_ := Aside0.mk (Nat.le_refl w8.heap.size)
  have n6_ := Aside0.mk (Nat.le_trans (by repeat (first | (with_reducible first | exact HS.out | apply sz_alloc | apply sz_drewN | apply sz_drew) | exact HS.out)) hb.size)
  have n7_ := Aside0.mk (below_step (by repeat (first | (with_reducible first | exact HB.out | apply below_alloc | apply pw_below_drewN | apply below_drew1) | exact HB.out)) hb)
  clear HB HS HO_row9 HO_row12 HO_row15 HO_row19 hb ho0
  have HO_row9 := n0_
  have HO_row12 := n1_
  have HO_row15 := n2_
  have HO_row19 := n3_
  have HO_row22 := n4_
  have HS := n5_
  have M8 := n6_
  have HB := n7_
  clear n0_ n1_ n2_ n3_ n4_ n5_ n6_ n7_
  obtain ⟨A_row22, c_row22, rfl⟩ := Kd.R_slice HO_row22.out
  go_wp2_with fail
  refine (laws_toSettingS.calls k _ _ l1 t23 _ (by exact Kd.C_below HR1.out (by repeat (first | (with_reducible first | exact HB.out | apply below_alloc | apply pw_below_drewN | apply below_drew1) | exact HB.out))) HC1.out Q24.out).mono ?_
  rintro e w9 ⟨v0, rfl, ho0, hb⟩
  have n0_ := Aside0.mk (Kd.R_below (by (with_reducible repeat (first | apply Kd.R_alloc | apply Kd.R_drewN | apply Kd.R_drew)); exact HO_row9.out) hb)
  have n1_ := Aside0.mk (Kd.R_below (by (with_reducible repeat (first | apply Kd.R_alloc | apply Kd.R_drewN | apply Kd.R_drew)); exact HO_row12.out) hb)
  have n2_ := Aside0.mk (Kd.R_below (by (with_reducible repeat (first | apply Kd.R_alloc | apply Kd.R_drewN | apply Kd.R_drew)); exact HO_row15.out) hb)
  have n3_ := Aside0.mk (Kd.R_below (by (with_reducible repeat (first | apply Kd.R_alloc | apply Kd.R_drewN | apply Kd.R_drew)); exact HO_row19.out) hb)
  have n4_ := Aside0.mk (Kd.R_below (by (with_reducible repeat (first | apply Kd.R_alloc | apply Kd.R_drewN | apply Kd.R_drew)); exact HO_row22.out) hb)
  have n5_ := Aside0.mk (Iv_R (lo := w8.heap.size) (W := _) ho0 (below_size (by repeat (first | (with_reducible first | exact HB.out | apply below_alloc | apply pw_below_drewN | apply below_drew1) | exact HB.out))) (by repeat (first | (with_reducible first | exact HS.out | apply sz_alloc | apply sz_drewN | apply sz_drew) | exact HS.out)))
  have n6_ := Aside0.mk (Nat.le_refl w9.heap.size)
  have n7_ := Aside0.mk (Nat.le_trans (by repeat (first | (with_reducible first | exact HS.out | apply sz_alloc | apply sz_drewN | apply sz_drew) | exact HS.out)) hb.size)
  have n8_ := Aside0.mk (below_step (by repeat (first | (with_reducible first | exact HB.out | apply below_alloc | apply pw_below_drewN | apply below_drew1) | exact HB.out)) hb)
  clear HB HS HO_row9 HO_row12 HO_row15 HO_row19 HO_row22 hb ho0
  have HO_row9 := n0_
  have HO_row12 := n1_
  have HO_row15 := n2_
  have HO_row19 := n3_
  have HO_row22 := n4_
  have HO_row25 := n5_
  have HS := n6_
  have M9 := n7_
  have HB := n8_
  clear n0_ n1_ n2_ n3_ n4_ n5_ n6_ n7_ n8_
  obtain ⟨A_row25, c_row25, rfl⟩ := Kd.R_slice HO_row25.out
  go_wp2_with fail
  refine (laws_toSettingS.calls k _ _ l2 t26 _ (by exact Kd.C_below HR2.out (by repeat (first | (with_reducible first | exact HB.out | apply below_alloc | apply pw_below_drewN | apply below_drew1) | exact HB.out))) HC2.out Q27.out).mono ?_
  rintro e w10 ⟨v0, rfl, ho0, hb⟩
  have n0_ := Aside0.mk (Kd.R_below (by (with_reducible repeat (first | apply Kd.R_alloc | apply Kd.R_drewN | apply Kd.R_drew)); exact HO_row9.out) hb)
  have n1_ := Aside0.mk (Kd.R_below (by (with_reducible repeat (first | apply Kd.R_alloc | apply Kd.R_drewN | apply Kd.R_drew)); exact HO_row12.out) hb)
  have n2_ := Aside0.mk (Kd.R_below (by (with_reducible repeat (first | apply Kd.R_alloc | apply Kd.R_drewN | apply Kd.R_drew)); exact HO_row15.out) hb)
  have n3_ := Aside0.mk (Kd.R_below (by (with_reducible repeat (first | apply Kd.R_alloc | apply Kd.R_drewN | apply Kd.R_drew)); exact HO_row19.out) hb)
  have n4_ := Aside0.mk (Kd.R_below (by (with_reducible repeat (first | apply Kd.R_alloc | apply Kd.R_drewN | apply Kd.R_drew)); exact HO_row22.out) hb)
  have n5_ := Aside0.mk (Kd.R_below (by (with_reducible repeat (first | apply Kd.R_alloc | apply Kd.R_drewN | apply Kd.R_drew)); exact HO_row25.out) hb)
  have n6_ := Aside0.mk (Iv_R (lo := w9.heap.size) (W := _) ho0 (below_size (by repeat (first | (with_reducible first | exact HB.out | apply below_alloc | apply pw_below_drewN | apply below_drew1) | exact HB.out))) (by repeat (first | (with_reducible first | exact HS.out | apply sz_alloc | apply sz_drewN | apply sz_drew) | exact HS.out)))
  have n7_ := Aside0.mk (Nat.le_refl w10.heap.size)
  have n8_ := Aside0.mk (Nat.le_trans (by repeat (first | (with_reducible first | exact HS.out | apply sz_alloc | apply sz_drewN | apply sz_drew) | exact HS.out)) hb.size)
  have n9_ := Aside0.mk (below_step (by repeat (first | (with_reducible first | exact HB.out | apply below_alloc | apply pw_below_drewN | apply below_drew1) | exact HB.out)) hb)
  clear HB HS HO_row9 HO_row12 HO_row15 HO_row19 HO_row22 HO_row25 hb ho0
  have HO_row9 := n0_
  have HO_row12 := n1_
  have HO_row15 := n2_
  have HO_row19 := n3_
  have HO_row22 := n4_
  have HO_row25 := n5_
  have HO_row28 := n6_
  have HS := n7_
  have M10 := n8_
  have HB := n9_
  clear n0_ n1_ n2_ n3_ n4_ n5_ n6_ n7_ n8_ n9_
  obtain ⟨A_row28, c_row28, rfl⟩ := Kd.R_slice HO_row28.out
  go_wp2_with fail
  refine (impl_ConflictsOf.calls k _ _ t20 _ _ t23 _ _ t26 t29 t30 _ (by exact (Kd.R_reads' (by (with_reducible repeat (first | apply Kd.R_alloc | apply Kd.R_drewN | apply Kd.R_drew)); exact HO_row22.out)).2.2) (by exact (Kd.R_reads' HO_row22.out).2.1) (by exact (Kd.R_reads' (by (with_reducible repeat (first | apply Kd.R_alloc | apply Kd.R_drewN | apply Kd.R_drew)); exact HO_row25.out)).2.2) (by exact (Kd.R_reads' HO_row25.out).2.1) (by exact (Kd.R_reads' (by (with_reducible repeat (first | apply Kd.R_alloc | apply Kd.R_drewN | apply Kd.R_drew)); exact HO_row28.out)).2.2) (by exact (Kd.R_reads' HO_row28.out).2.1) Q31.out).mono ?_
  rintro e w11 ⟨v0, rfl, ho0, hb⟩
  have n0_ := Aside0.mk (Kd.R_below (by (with_reducible repeat (first | apply Kd.R_alloc | apply Kd.R_drewN | apply Kd.R_drew)); exact HO_row9.out) hb)
  have n1_ := Aside0.mk (Kd.R_below (by (with_reducible repeat (first | apply Kd.R_alloc | apply Kd.R_drewN | apply Kd.R_drew)); exact HO_row12.out) hb)
  have n2_ := Aside0.mk (Kd.R_below (by (with_reducible repeat (first | apply Kd.R_alloc | apply Kd.R_drewN | apply Kd.R_drew)); exact HO_row15.out) hb)
  have n3_ := Aside0.mk (Kd.R_below (by (with_reducible repeat (first | apply Kd.R_alloc | apply Kd.R_drewN | apply Kd.R_drew)); exact HO_row19.out) hb)
  have n4_ := Aside0.mk (Kd.R_below (by (with_reducible repeat (first | apply Kd.R_alloc | apply Kd.R_drewN | apply Kd.R_drew)); exact HO_row22.out) hb)
  have n5_ := Aside0.mk (Kd.R_below (by (with_reducible repeat (first | apply Kd.R_alloc | apply Kd.R_drewN | apply Kd.R_drew)); exact HO_row25.out) hb)
  have n6_ := Aside0.mk (Kd.R_below (by (with_reducible repeat (first | apply Kd.R_alloc | apply Kd.R_drewN | apply Kd.R_drew)); exact HO_row28.out) hb)
  have n7_ := Aside0.mk (Iv_R (lo := w10.heap.size) (W := _) ho0 (below_size (by repeat (first | (with_reducible first | exact HB.out | apply below_alloc | apply pw_below_drewN | apply below_drew1) | exact HB.out))) (by repeat (first | (with_reducible first | exact HS.out | apply sz_alloc | apply sz_drewN | apply sz_drew) | exact HS.out)))
  have n8_ := Aside0.mk (Nat.le_refl w11.heap.size)
  have n9_ := Aside0.mk (Nat.le_trans (by repeat (first | (with_reducible first | exact HS.out | apply sz_alloc | apply sz_drewN | apply sz_drew) | exact HS.out)) hb.size)
  have n10_ := Aside0.mk (below_step (by repeat (first | (with_reducible first | exact HB.out | apply below_alloc | apply pw_below_drewN | apply below_drew1) | exact HB.out)) hb)
  clear HB HS HO_row9 HO_row12 HO_row15 HO_row19 HO_row22 HO_row25 HO_row28 hb ho0
  have HO_row9 := n0_
  have HO_row12 := n1_
  have HO_row15 := n2_
  have HO_row19 := n3_
  have HO_row22 := n4_
  have HO_row25 := n5_
  have HO_row28 := n6_
  have HO_row32 := n7_
  have HS := n8_
  have M11 := n9_
  have HB := n10_
  clear n0_ n1_ n2_ n3_ n4_ n5_ n6_ n7_ n8_ n9_ n10_
  obtain ⟨A_row32, c_row32, rfl⟩ := Kd.R_slice HO_row32.out
  go_wp2_with fail
  refine (laws_eqStringS.calls k _ _ t29 _ _ t16 true _ (by exact (Kd.R_reads' (by (with_reducible repeat (first | apply Kd.R_alloc | apply Kd.R_drewN | apply Kd.R_drew)); exact HO_row32.out)).2.2) (by exact (Kd.R_reads' HO_row32.out).2.1) (by exact (Kd.R_reads' (by (with_reducible repeat (first | apply Kd.R_alloc | apply Kd.R_drewN | apply Kd.R_drew)); exact HO_row19.out)).2.2) (by exact (Kd.R_reads' HO_row19.out).2.1) Q34.out).mono ?_
  rintro e w12 ⟨rfl, hb⟩
  replace hb := hb.below
  have n0_ := Aside0.mk (Kd.R_below (by (with_reducible repeat (first | apply Kd.R_alloc | apply Kd.R_drewN | apply Kd.R_drew)); exact HO_row9.out) hb)
  have n1_ := Aside0.mk (Kd.R_below (by (with_reducible repeat (first | apply Kd.R_alloc | apply Kd.R_drewN | apply Kd.R_drew)); exact HO_row12.out) hb)
  have n2_ := Aside0.mk (Kd.R_below (by (with_reducible repeat (first | apply Kd.R_alloc | apply Kd.R_drewN | apply Kd.R_drew)); exact HO_row15.out) hb)
  have n3_ := Aside0.mk (Kd.R_below (by (with_reducible repeat (first | apply Kd.R_alloc | apply Kd.R_drewN | apply Kd.R_drew)); exact HO_row19.out) hb)
  have n4_ := Aside0.mk (Kd.R_below (by (with_reducible repeat (first | apply Kd.R_alloc | apply Kd.R_drewN | apply Kd.R_drew)); exact HO_row22.out) hb)
  have n5_ := Aside0.mk (Kd.R_below (by (with_reducible repeat (first | apply Kd.R_alloc | apply Kd.R_drewN | apply Kd.R_drew)); exact HO_row25.out) hb)
  have n6_ := Aside0.mk (Kd.R_below (by (with_reducible repeat (first | apply Kd.R_alloc | apply Kd.R_drewN | apply Kd.R_drew)); exact HO_row28.out) hb)
  have n7_ := Aside0.mk (Kd.R_below (by (with_reducible repeat (first | apply Kd.R_alloc | apply Kd.R_drewN | apply Kd.R_drew)); exact HO_row32.out) hb)
  have n8_ := Aside0.mk (Nat.le_trans (by repeat (first | (with_reducible first | exact HS.out | apply sz_alloc | apply sz_drewN | apply sz_drew) | exact HS.out)) hb.size)
  have n9_ := Aside0.mk (below_step (by repeat (first | (with_reducible first | exact HB.out | apply below_alloc | apply pw_below_drewN | apply below_drew1) | exact HB.out)) hb)
  clear HB HS HO_row9 HO_row12 HO_row15 HO_row19 HO_row22 HO_row25 HO_row28 HO_row32 hb
  have HO_row9 := n0_
  have HO_row12 := n1_
  have HO_row15 := n2_
  have HO_row19 := n3_
  have HO_row22 := n4_
  have HO_row25 := n5_
  have HO_row28 := n6_
  have HO_row32 := n7_
  have HS := n8_
  have HB := n9_
  clear n0_ n1_ n2_ n3_ n4_ n5_ n6_ n7_ n8_ n9_
  go_wp2_with fail
  refine (laws_toSettingS.calls k _ _ l0 t35 _ (by exact Kd.C_below HR0.out (by repeat (first | (with_reducible first | exact HB.out | apply below_alloc | apply pw_below_drewN | apply below_drew1) | exact HB.out))) HC0.out Q36.out).mono ?_
  rintro e w13 ⟨v0, rfl, ho0, hb⟩
  have n0_ := Aside0.mk (Kd.R_below (by (with_reducible repeat (first | apply Kd.R_alloc | apply Kd.R_drewN | apply Kd.R_drew)); exact HO_row9.out) hb)
  have n1_ := Aside0.mk (Kd.R_below (by (with_reducible repeat (first | apply Kd.R_alloc | apply Kd.R_drewN | apply Kd.R_drew)); exact HO_row12.out) hb)
  have n2_ := Aside0.mk (Kd.R_below (by (with_reducible repeat (first | apply Kd.R_alloc | apply Kd.R_drewN | apply Kd.R_drew)); exact HO_row15.out) hb)
  have n3_ := Aside0.mk (Kd.R_below (by (with_reducible repeat (first | apply Kd.R_alloc | apply Kd.R_drewN | apply Kd.R_drew)); exact HO_row19.out) hb)
  have n4_ := Aside0.mk (Kd.R_below (by (with_reducible repeat (first | apply Kd.R_alloc | apply Kd.R_drewN | apply Kd.R_drew)); exact HO_row22.out) hb)
  have n5_ := Aside0.mk (Kd.R_below (by (with_reducible repeat (first | apply Kd.R_alloc | apply Kd.R_drewN | apply Kd.R_drew)); exact HO_row25.out) hb)
  have n6_ := Aside0.mk (Kd.R_below (by (with_reducible repeat (first | apply Kd.R_alloc | apply Kd.R_drewN | apply Kd.R_drew)); exact HO_row28.out) hb)
  have n7_ := Aside0.mk (Kd.R_below (by (with_reducible repeat (first | apply Kd.R_alloc | apply Kd.R_drewN | apply Kd.R_drew)); exact HO_row32.out) hb)
  have n8_ := Aside0.mk (Iv_R (lo := w11.heap.size) (W := _) ho0 (below_size (by repeat (first | (with_reducible first | exact HB.out | apply below_alloc | apply pw_below_drewN | apply below_drew1) | exact HB.out))) (by repeat (first | (with_reducible first | exact HS.out | apply sz_alloc | apply sz_drewN | apply sz_drew) | exact HS.out)))
  have n9_ := Aside0.mk (Nat.le_refl w13.heap.size)
  have n10_ := Aside0.mk (Nat.le_trans (by repeat (first | (with_reducible first | exact HS.out | apply sz_alloc | apply sz_drewN | apply sz_drew) | exact HS.out)) hb.size)
  have n11_ := Aside0.mk (below_step (by repeat (first | (with_reducible first | exact HB.out | apply below_alloc | apply pw_below_drewN | apply below_drew1) | exact HB.out)) hb)
  clear HB HS HO_row9 HO_row12 HO_row15 HO_row19 HO_row22 HO_row25 HO_row28 HO_row32 hb ho0
  have HO_row9 := n0_
  have HO_row12 := n1_
  have HO_row15 := n2_
  have HO_row19 := n3_
  have HO_row22 := n4_
  have HO_row25 := n5_
  have HO_row28 := n6_
  have HO_row32 := n7_
  have HO_row37 := n8_
  have HS := n9_
  have M13 := n10_
  have HB := n11_
  clear n0_ n1_ n2_ n3_ n4_ n5_ n6_ n7_ n8_ n9_ n10_ n11_
  obtain ⟨A_row37, c_row37, rfl⟩ := Kd.R_slice HO_row37.out
  go_wp2_with fail
  refine (laws_eqSettingS.calls k _ _ t20 _ _ t35 true _ (by exact (Kd.R_reads' (by (with_reducible repeat (first | apply Kd.R_alloc | apply Kd.R_drewN | apply Kd.R_drew)); exact HO_row22.out)).2.2) (by exact (Kd.R_reads' HO_row22.out).2.1) (by exact (Kd.R_reads' (by (with_reducible repeat (first | apply Kd.R_alloc | apply Kd.R_drewN | apply Kd.R_drew)); exact HO_row37.out)).2.2) (by exact (Kd.R_reads' HO_row37.out).2.1) Q39.out).mono ?_
  rintro e w14 ⟨rfl, hb⟩
  have n0_ := Aside0.mk (Kd.R_below (by (with_reducible repeat (first | apply Kd.R_alloc | apply Kd.R_drewN | apply Kd.R_drew)); exact HO_row9.out) hb)
  have n1_ := Aside0.mk (Kd.R_below (by (with_reducible repeat (first | apply Kd.R_alloc | apply Kd.R_drewN | apply Kd.R_drew)); exact HO_row12.out) hb)
  have n2_ := Aside0.mk (Kd.R_below (by (with_reducible repeat (first | apply Kd.R_alloc | apply Kd.R_drewN | apply Kd.R_drew)); exact HO_row15.out) hb)
  have n3_ := Aside0.mk (Kd.R_below (by (with_reducible repeat (first | apply Kd.R_alloc | apply Kd.R_drewN | apply Kd.R_drew)); exact HO_row19.out) hb)
  have n4_ := Aside0.mk (Kd.R_below (by (with_reducible repeat (first | apply Kd.R_alloc | apply Kd.R_drewN | apply Kd.R_drew)); exact HO_row22.out) hb)
  have n5_ := Aside0.mk (Kd.R_below (by (with_reducible repeat (first | apply Kd.R_alloc | apply Kd.R_drewN | apply Kd.R_drew)); exact HO_row25.out) hb)
  have n6_ := Aside0.mk (Kd.R_below (by (with_reducible repeat (first | apply Kd.R_alloc | apply Kd.R_drewN | apply Kd.R_drew)); exact HO_row28.out) hb)
  have n7_ := Aside0.mk (Kd.R_below (by (with_reducible repeat (first | apply Kd.R_alloc | apply Kd.R_drewN | apply Kd.R_drew)); exact HO_row32.out) hb)
  have n8_ := Aside0.mk (Kd.R_below (by (with_reducible repeat (first | apply Kd.R_alloc | apply Kd.R_drewN | apply Kd.R_drew)); exact HO_row37.out) hb)
  have n9_ := Aside0.mk (Nat.le_trans (by repeat (first | (with_reducible first | exact HS.out | apply sz_alloc | apply sz_drewN | apply sz_drew) | exact HS.out)) hb.size)
  have n10_ := Aside0.mk (below_step (by repeat (first | (with_reducible first | exact HB.out | apply below_alloc | apply pw_below_drewN | apply below_drew1) | exact HB.out)) hb)
  clear HB HS HO_row9 HO_row12 HO_row15 HO_row19 HO_row22 HO_row25 HO_row28 HO_row32 HO_row37 hb
  have HO_row9 := n0_
  have HO_row12 := n1_
  have HO_row15 := n2_
  have HO_row19 := n3_
  have HO_row22 := n4_
  have HO_row25 := n5_
  have HO_row28 := n6_
  have HO_row32 := n7_
  have HO_row37 := n8_
  have HS := n9_
  have HB := n10_
  clear n0_ n1_ n2_ n3_ n4_ n5_ n6_ n7_ n8_ n9_ n10_
  go_wp2_with fail
  refine (laws_toSettingS.calls k _ _ l1 t40 _ (by exact Kd.C_below HR1.out (by repeat (first | (with_reducible first | exact HB.out | apply below_alloc | apply pw_below_drewN | apply below_drew1) | exact HB.out))) HC1.out Q41.out).mono ?_
  rintro e w15 ⟨v0, rfl, ho0, hb⟩
  have n0_ := Aside0.mk (Kd.R_below (by (with_reducible repeat (first | apply Kd.R_alloc | apply Kd.R_drewN | apply Kd.R_drew)); exact HO_row9.out) hb)
  have n1_ := Aside0.mk (Kd.R_below (by (with_reducible repeat (first | apply Kd.R_alloc | apply Kd.R_drewN | apply Kd.R_drew)); exact HO_row12.out) hb)
  have n2_ := Aside0.mk (Kd.R_below (by (with_reducible repeat (first | apply Kd.R_alloc | apply Kd.R_drewN | apply Kd.R_drew)); exact HO_row15.out) hb)
  have n3_ := Aside0.mk (Kd.R_below (by (with_reducible repeat (first | apply Kd.R_alloc | apply Kd.R_drewN | apply Kd.R_drew)); exact HO_row19.out) hb)
  have n4_ := Aside0.mk (Kd.R_below (by (with_reducible repeat (first | apply Kd.R_alloc | apply Kd.R_drewN | apply Kd.R_drew)); exact HO_row22.out) hb)
  have n5_ := Aside0.mk (Kd.R_below (by (with_reducible repeat (first | apply Kd.R_alloc | apply Kd.R_drewN | apply Kd.R_drew)); exact HO_row25.out) hb)
  have n6_ := Aside0.mk (Kd.R_below (by (with_reducible repeat (first | apply Kd.R_alloc | apply Kd.R_drewN | apply Kd.R_drew)); exact HO_row28.out) hb)
  have n7_ := Aside0.mk (Kd.R_below (by (with_reducible repeat (first | apply Kd.R_alloc | apply Kd.R_drewN | apply Kd.R_drew)); exact HO_row32.out) hb)
  have n8_ := Aside0.mk (Kd.R_below (by (with_reducible repeat (first | apply Kd.R_alloc | apply Kd.R_drewN | apply Kd.R_drew)); exact HO_row37.out) hb)
  have n9_ := Aside0.mk (Iv_R (lo := w13.heap.size) (W := _) ho0 (below_size (by repeat (first | (with_reducible first | exact HB.out | apply below_alloc | apply pw_below_drewN | apply below_drew1) | exact HB.out))) (by repeat (first | (with_reducible first | exact HS.out | apply sz_alloc | apply sz_drewN | apply sz_drew) | exact HS.out)))
  have n10_ := Aside0.mk (Nat.le_refl w15.heap.size)
  have n11_ := Aside0.mk (Nat.le_trans (by repeat (first | (with_reducible first | exact HS.out | apply sz_alloc | apply sz_drewN | apply sz_drew) | exact HS.out)) hb.size)
  have n12_ := Aside0.mk (below_step (by repeat (first | (with_reducible first | exact HB.out | apply below_alloc | apply pw_below_drewN | apply below_drew1) | exact HB.out)) hb)
  clear HB HS HO_row9 HO_row12 HO_row15 HO_row19 HO_row22 HO_row25 HO_row28 HO_row32 HO_row37 hb ho0
  have HO_row9 := n0_
  have HO_row12 := n1_
  have HO_row15 := n2_
  have HO_row19 := n3_
  have HO_row22 := n4_
  have HO_row25 := n5_
  have HO_row28 := n6_
  have HO_row32 := n7_
  have HO_row37 := n8_
  have HO_row42 := n9_
  have HS := n10_
  have M15 := n11_
  have HB := n12_
  clear n0_ n1_ n2_ n3_ n4_ n5_ n6_ n7_ n8_ n9_ n10_ n11_ n12_
  obtain ⟨A_row42, c_row42, rfl⟩ := Kd.R_slice HO_row42.out
  go_wp2_with fail
  refine (laws_eqSettingS.calls k _ _ t23 _ _ t40 true _ (by exact (Kd.R_reads' (by (with_reducible repeat (first | apply Kd.R_alloc | apply Kd.R_drewN | apply Kd.R_drew)); exact HO_row25.out)).2.2) (by exact (Kd.R_reads' HO_row25.out).2.1) (by exact (Kd.R_reads' (by (with_reducible repeat (first | apply Kd.R_alloc | apply Kd.R_drewN | apply Kd.R_drew)); exact HO_row42.out)).2.2) (by exact (Kd.R_reads' HO_row42.out).2.1) Q44.out).mono ?_
  rintro e w16 ⟨rfl, hb⟩
  have n0_ := Aside0.mk (Kd.R_below (by (with_reducible repeat (first | apply Kd.R_alloc | apply Kd.R_drewN | apply Kd.R_drew)); exact HO_row9.out) hb)
  have n1_ := Aside0.mk (Kd.R_below (by (with_reducible repeat (first | apply Kd.R_alloc | apply Kd.R_drewN | apply Kd.R_drew)); exact HO_row12.out) hb)
  have n2_ := Aside0.mk (Kd.R_below (by (with_reducible repeat (first | apply Kd.R_alloc | apply Kd.R_drewN | apply Kd.R_drew)); exact HO_row15.out) hb)
  have n3_ := Aside0.mk (Kd.R_below (by (with_reducible repeat (first | apply Kd.R_alloc | apply Kd.R_drewN | apply Kd.R_drew)); exact HO_row19.out) hb)
  have n4_ := Aside0.mk (Kd.R_below (by (with_reducible repeat (first | apply Kd.R_alloc | apply Kd.R_drewN | apply Kd.R_drew)); exact HO_row22.out) hb)
  have n5_ := Aside0.mk (Kd.R_below (by (with_reducible repeat (first | apply Kd.R_alloc | apply Kd.R_drewN | apply Kd.R_drew)); exact HO_row25.out) hb)
  have n6_ := Aside0.mk (Kd.R_below (by (with_reducible repeat (first | apply Kd.R_alloc | apply Kd.R_drewN | apply Kd.R_drew)); exact HO_row28.out) hb)
  have n7_ := Aside0.mk (Kd.R_below (by (with_reducible repeat (first | apply Kd.R_alloc | apply Kd.R_drewN | apply Kd.R_drew)); exact HO_row32.out) hb)
  have n8_ := Aside0.mk (Kd.R_below (by (with_reducible repeat (first | apply Kd.R_alloc | apply Kd.R_drewN | apply Kd.R_drew)); exact HO_row37.out) hb)
  have n9_ := Aside0.mk (Kd.R_below (by (with_reducible repeat (first | apply Kd.R_alloc | apply Kd.R_drewN | apply Kd.R_drew)); exact HO_row42.out) hb)
  have n10_ := Aside0.mk (Nat.le_trans (by repeat (first | (with_reducible first | exact HS.out | apply sz_alloc | apply sz_drewN | apply sz_drew) | exact HS.out)) hb.size)
  have n11_ := Aside0.mk (below_step (by repeat (first | (with_reducible first | exact HB.out | apply below_alloc | apply pw_below_drewN | apply below_drew1) | exact HB.out)) hb)
  clear HB HS HO_row9 HO_row12 HO_row15 HO_row19 HO_row22 HO_row25 HO_row28 HO_row32 HO_row37 HO_row42 hb
  have HO_row9 := n0_
  have HO_row12 := n1_
  have HO_row15 := n2_
  have HO_row19 := n3_
  have HO_row22 := n4_
  have HO_row25 := n5_
  have HO_row28 := n6_
  have HO_row32 := n7_
  have HO_row37 := n8_
  have HO_row42 := n9_
  have HS := n10_
  have HB := n11_
  clear n0_ n1_ n2_ n3_ n4_ n5_ n6_ n7_ n8_ n9_ n10_ n11_
  go_wp2_with fail
  refine (laws_toSettingS.calls k _ _ l2 t45 _ (by exact Kd.C_below HR2.out (by repeat (first | (with_reducible first | exact HB.out | apply below_alloc | apply pw_below_drewN | apply below_drew1) | exact HB.out))) HC2.out Q46.out).mono ?_
  rintro e w17 ⟨v0, rfl, ho0, hb⟩
  have n0_ := Aside0.mk (Kd.R_below (by (with_reducible repeat (first | apply Kd.R_alloc | apply Kd.R_drewN | apply Kd.R_drew)); exact HO_row9.out) hb)
  have n1_ := Aside0.mk (Kd.R_below (by (with_reducible repeat (first | apply Kd.R_alloc | apply Kd.R_drewN | apply Kd.R_drew)); exact HO_row12.out) hb)
  have n2_ := Aside0.mk (Kd.R_below (by (with_reducible repeat (first | apply Kd.R_alloc | apply Kd.R_drewN | apply Kd.R_drew)); exact HO_row15.out) hb)
  have n3_ := Aside0.mk (Kd.R_below (by (with_reducible repeat (first | apply Kd.R_alloc | apply Kd.R_drewN | apply Kd.R_drew)); exact HO_row19.out) hb)
  have n4_ := Aside0.mk (Kd.R_below (by (with_reducible repeat (first | apply Kd.R_alloc | apply Kd.R_drewN | apply Kd.R_drew)); exact HO_row22.out) hb)
  have n5_ := Aside0.mk (Kd.R_below (by (with_reducible repeat (first | apply Kd.R_alloc | apply Kd.R_drewN | apply Kd.R_drew)); exact HO_row25.out) hb)
  have n6_ := Aside0.mk (Kd.R_below (by (with_reducible repeat (first | apply Kd.R_alloc | apply Kd.R_drewN | apply Kd.R_drew)); exact HO_row28.out) hb)
  have n7_ := Aside0.mk (Kd.R_below (by (with_reducible repeat (first | apply Kd.R_alloc | apply Kd.R_drewN | apply Kd.R_drew)); exact HO_row32.out) hb)
  have n8_ := Aside0.mk (Kd.R_below (by (with_reducible repeat (first | apply Kd.R_alloc | apply Kd.R_drewN | apply Kd.R_drew)); exact HO_row37.out) hb)
  have n9_ := Aside0.mk (Kd.R_below (by (with_reducible repeat (first | apply Kd.R_alloc | apply Kd.R_drewN | apply Kd.R_drew)); exact HO_row42.out) hb)
  have n10_ := Aside0.mk (Iv_R (lo := w15.heap.size) (W := _) ho0 (below_size (by repeat (first | (with_reducible first | exact HB.out | apply below_alloc | apply pw_below_drewN | apply below_drew1) | exact HB.out))) (by repeat (first | (with_reducible first | exact HS.out | apply sz_alloc | apply sz_drewN | apply sz_drew) | exact HS.out)))
  have n11_ := Aside0.mk (Nat.le_refl w17.heap.size)
  have n12_ := Aside0.mk (Nat.le_trans (by repeat (first | (with_reducible first | exact HS.out | apply sz_alloc | apply sz_drewN | apply sz_drew) | exact HS.out)) hb.size)
  have n13_ := Aside0.mk (below_step (by repeat (first | (with_reducible first | exact HB.out | apply below_alloc | apply pw_below_drewN | apply below_drew1) | exact HB.out)) hb)
  clear HB HS HO_row9 HO_row12 HO_row15 HO_row19 HO_row22 HO_row25 HO_row28 HO_row32 HO_row37 HO_row42 hb ho0
  have HO_row9 := n0_
  have HO_row12 := n1_
  have HO_row15 := n2_
  have HO_row19 := n3_
  have HO_row22 := n4_
  have HO_row25 := n5_
  have HO_row28 := n6_
  have HO_row32 := n7_
  have HO_row37 := n8_
  have HO_row42 := n9_
  have HO_row47 := n10_
  have HS := n11_
  have M17 := n12_
  have HB := n13_
  clear n0_ n1_ n2_ n3_ n4_ n5_ n6_ n7_ n8_ n9_ n10_ n11_ n12_ n13_
  obtain ⟨A_row47, c_row47, rfl⟩ := Kd.R_slice HO_row47.out
  go_wp2_with fail
  refine (laws_eqSettingS.calls k _ _ t26 _ _ t45 true _ (by exact (Kd.R_reads' (by (with_reducible repeat (first | apply Kd.R_alloc | apply Kd.R_drewN | apply Kd.R_drew)); exact HO_row28.out)).2.2) (by exact (Kd.R_reads' HO_row28.out).2.1) (by exact (Kd.R_reads' (by (with_reducible repeat (first | apply Kd.R_alloc | apply Kd.R_drewN | apply Kd.R_drew)); exact HO_row47.out)).2.2) (by exact (Kd.R_reads' HO_row47.out).2.1) Q49.out).mono ?_
  rintro e w18 ⟨rfl, hb⟩
  have n0_ := Aside0.mk (Kd.R_below (by (with_reducible repeat (first | apply Kd.R_alloc | apply Kd.R_drewN | apply Kd.R_drew)); exact HO_row9.out) hb)
  have n1_ := Aside0.mk (Kd.R_below (by (with_reducible repeat (first | apply Kd.R_alloc | apply Kd.R_drewN | apply Kd.R_drew)); exact HO_row12.out) hb)
  have n2_ := Aside0.mk (Kd.R_below (by (with_reducible repeat (first | apply Kd.R_alloc | apply Kd.R_drewN | apply Kd.R_drew)); exact HO_row15.out) hb)
  have n3_ := Aside0.mk (Kd.R_below (by (with_reducible repeat (first | apply Kd.R_alloc | apply Kd.R_drewN | apply Kd.R_drew)); exact HO_row19.out) hb)
  have n4_ := Aside0.mk (Kd.R_below (by (with_reducible repeat (first | apply Kd.R_alloc | apply Kd.R_drewN | apply Kd.R_drew)); exact HO_row22.out) hb)
  have n5_ := Aside0.mk (Kd.R_below (by (with_reducible repeat (first | apply Kd.R_alloc | apply Kd.R_drewN | apply Kd.R_drew)); exact HO_row25.out) hb)
  have n6_ := Aside0.mk (Kd.R_below (by (with_reducible repeat (first | apply Kd.R_alloc | apply Kd.R_drewN | apply Kd.R_drew)); exact HO_row28.out) hb)
  have n7_ := Aside0.mk (Kd.R_below (by (with_reducible repeat (first | apply Kd.R_alloc | apply Kd.R_drewN | apply Kd.R_drew)); exact HO_row32.out) hb)
  have n8_ := Aside0.mk (Kd.R_below (by (with_reducible repeat (first | apply Kd.R_alloc | apply Kd.R_drewN | apply Kd.R_drew)); exact HO_row37.out) hb)
  have n9_ := Aside0.mk (Kd.R_below (by (with_reducible repeat (first | apply Kd.R_alloc | apply Kd.R_drewN | apply Kd.R_drew)); exact HO_row42.out) hb)
  have n10_ := Aside0.mk (Kd.R_below (by (with_reducible repeat (first | apply Kd.R_alloc | apply Kd.R_drewN | apply Kd.R_drew)); exact HO_row47.out) hb)
  have n11_ := Aside0.mk (Nat.le_trans (by repeat (first | (with_reducible first | exact HS.out | apply sz_alloc | apply sz_drewN | apply sz_drew) | exact HS.out)) hb.size)
  have n12_ := Aside0.mk (below_step (by repeat (first | (with_reducible first | exact HB.out | apply below_alloc | apply pw_below_drewN | apply below_drew1) | exact HB.out)) hb)
  clear HB HS HO_row9 HO_row12 HO_row15 HO_row19 HO_row22 HO_row25 HO_row28 HO_row32 HO_row37 HO_row42 HO_row47 hb
  have HO_row9 := n0_
  have HO_row12 := n1_
  have HO_row15 := n2_
  have HO_row19 := n3_
  have HO_row22 := n4_
  have HO_row25 := n5_
  have HO_row28 := n6_
  have HO_row32 := n7_
  have HO_row37 := n8_
  have HO_row42 := n9_
  have HO_row47 := n10_
  have HS := n11_
  have HB := n12_
  clear n0_ n1_ n2_ n3_ n4_ n5_ n6_ n7_ n8_ n9_ n10_ n11_ n12_
  go_wp2_with fail
  refine (laws_markSettingS.calls k (Iv w7.heap.size w8.heap.size) _ t20 1 t50 t51 w _ (by repeat (first | (with_reducible first | exact HB.out | apply below_alloc | apply pw_below_drewN | apply below_drew1) | exact HB.out)) (by (with_reducible repeat (first | apply Kd.R_alloc | apply Kd.R_drewN | apply Kd.R_drew)); exact HO_row22.out) Q52.out).mono ?_
  rintro e w19 ⟨rfl, ho0, hb, hk⟩
  have n0_ := Aside0.mk (Kd.R_mono (Kd.R_tight rfl ho0) (fun k_ hk_ => HO_row22.out.1 k_ hk_.symm))
  have n1_ := Aside0.mk (Kd.R_kept (by (with_reducible repeat (first | apply Kd.R_alloc | apply Kd.R_drewN | apply Kd.R_drew)); exact HO_row9.out) hk (fun k_ h1_ h2_ => by unfold Iv at h1_ h2_; have m4_ := M4.out; have m5_ := M5.out; have m6_ := M6.out; have m7_ := M7.out; have m8_ := M8.out; have m9_ := M9.out; have m10_ := M10.out; have m11_ := M11.out; have m13_ := M13.out; have m15_ := M15.out; have m17_ := M17.out; omega))
  have n2_ := Aside0.mk (Kd.R_kept (by (with_reducible repeat (first | apply Kd.R_alloc | apply Kd.R_drewN | apply Kd.R_drew)); exact HO_row12.out) hk (fun k_ h1_ h2_ => by unfold Iv at h1_ h2_; have m4_ := M4.out; have m5_ := M5.out; have m6_ := M6.out; have m7_ := M7.out; have m8_ := M8.out; have m9_ := M9.out; have m10_ := M10.out; have m11_ := M11.out; have m13_ := M13.out; have m15_ := M15.out; have m17_ := M17.out; omega))
  have n3_ := Aside0.mk (Kd.R_kept (by (with_reducible repeat (first | apply Kd.R_alloc | apply Kd.R_drewN | apply Kd.R_drew)); exact HO_row15.out) hk (fun k_ h1_ h2_ => by unfold Iv at h1_ h2_; have m4_ := M4.out; have m5_ := M5.out; have m6_ := M6.out; have m7_ := M7.out; have m8_ := M8.out; have m9_ := M9.out; have m10_ := M10.out; have m11_ := M11.out; have m13_ := M13.out; have m15_ := M15.out; have m17_ := M17.out; omega))
  have n4_ := Aside0.mk (Kd.R_kept (by (with_reducible repeat (first | apply Kd.R_alloc | apply Kd.R_drewN | apply Kd.R_drew)); exact HO_row19.out) hk (fun k_ h1_ h2_ => by unfold Iv at h1_ h2_; have m4_ := M4.out; have m5_ := M5.out; have m6_ := M6.out; have m7_ := M7.out; have m8_ := M8.out; have m9_ := M9.out; have m10_ := M10.out; have m11_ := M11.out; have m13_ := M13.out; have m15_ := M15.out; have m17_ := M17.out; omega))
  have n5_ := Aside0.mk (Kd.R_kept (by (with_reducible repeat (first | apply Kd.R_alloc | apply Kd.R_drewN | apply Kd.R_drew)); exact HO_row25.out) hk (fun k_ h1_ h2_ => by unfold Iv at h1_ h2_; have m4_ := M4.out; have m5_ := M5.out; have m6_ := M6.out; have m7_ := M7.out; have m8_ := M8.out; have m9_ := M9.out; have m10_ := M10.out; have m11_ := M11.out; have m13_ := M13.out; have m15_ := M15.out; have m17_ := M17.out; omega))
  have n6_ := Aside0.mk (Kd.R_kept (by (with_reducible repeat (first | apply Kd.R_alloc | apply Kd.R_drewN | apply Kd.R_drew)); exact HO_row28.out) hk (fun k_ h1_ h2_ => by unfold Iv at h1_ h2_; have m4_ := M4.out; have m5_ := M5.out; have m6_ := M6.out; have m7_ := M7.out; have m8_ := M8.out; have m9_ := M9.out; have m10_ := M10.out; have m11_ := M11.out; have m13_ := M13.out; have m15_ := M15.out; have m17_ := M17.out; omega))
  have n7_ := Aside0.mk (Kd.R_kept (by (with_reducible repeat (first | apply Kd.R_alloc | apply Kd.R_drewN | apply Kd.R_drew)); exact HO_row32.out) hk (fun k_ h1_ h2_ => by unfold Iv at h1_ h2_; have m4_ := M4.out; have m5_ := M5.out; have m6_ := M6.out; have m7_ := M7.out; have m8_ := M8.out; have m9_ := M9.out; have m10_ := M10.out; have m11_ := M11.out; have m13_ := M13.out; have m15_ := M15.out; have m17_ := M17.out; omega))
  have n8_ := Aside0.mk (Kd.R_kept (by (with_reducible repeat (first | apply Kd.R_alloc | apply Kd.R_drewN | apply Kd.R_drew)); exact HO_row37.out) hk (fun k_ h1_ h2_ => by unfold Iv at h1_ h2_; have m4_ := M4.out; have m5_ := M5.out; have m6_ := M6.out; have m7_ := M7.out; have m8_ := M8.out; have m9_ := M9.out; have m10_ := M10.out; have m11_ := M11.out; have m13_ := M13.out; have m15_ := M15.out; have m17_ := M17.out; omega))
  have n9_ := Aside0.mk (Kd.R_kept (by (with_reducible repeat (first | apply Kd.R_alloc | apply Kd.R_drewN | apply Kd.R_drew)); exact HO_row42.out) hk (fun k_ h1_ h2_ => by unfold Iv at h1_ h2_; have m4_ := M4.out; have m5_ := M5.out; have m6_ := M6.out; have m7_ := M7.out; have m8_ := M8.out; have m9_ := M9.out; have m10_ := M10.out; have m11_ := M11.out; have m13_ := M13.out; have m15_ := M15.out; have m17_ := M17.out; omega))
  have n10_ := Aside0.mk (Kd.R_kept (by (with_reducible repeat (first | apply Kd.R_alloc | apply Kd.R_drewN | apply Kd.R_drew)); exact HO_row47.out) hk (fun k_ h1_ h2_ => by unfold Iv at h1_ h2_; have m4_ := M4.out; have m5_ := M5.out; have m6_ := M6.out; have m7_ := M7.out; have m8_ := M8.out; have m9_ := M9.out; have m10_ := M10.out; have m11_ := M11.out; have m13_ := M13.out; have m15_ := M15.out; have m17_ := M17.out; omega))
  have n11_ := Aside0.mk (Nat.le_trans (by repeat (first | (with_reducible first | exact HS.out | apply sz_alloc | apply sz_drewN | apply sz_drew) | exact HS.out)) hk.1)
  have n12_ := Aside0.mk (hb)
  clear HB HS HO_row9 HO_row12 HO_row15 HO_row19 HO_row22 HO_row25 HO_row28 HO_row32 HO_row37 HO_row42 HO_row47 hb hk ho0
  have HO_row22 := n0_
  have HO_row9 := n1_
  have HO_row12 := n2_
  have HO_row15 := n3_
  have HO_row19 := n4_
  have HO_row25 := n5_
  have HO_row28 := n6_
  have HO_row32 := n7_
  have HO_row37 := n8_
  have HO_row42 := n9_
  have HO_row47 := n10_
  have HS := n11_
  have HB := n12_
  clear n0_ n1_ n2_ n3_ n4_ n5_ n6_ n7_ n8_ n9_ n10_ n11_ n12_
  have LN_row22 := Aside0.mk (Kd.R_reads' HO_row22.out).1
  go_wp2_with fail
  refine (laws_markSettingS.calls k (Iv w8.heap.size w9.heap.size) _ t23 t50 t53 t54 w _ (by repeat (first | (with_reducible first | exact HB.out | apply below_alloc | apply pw_below_drewN | apply below_drew1) | exact HB.out)) (by (with_reducible repeat (first | apply Kd.R_alloc | apply Kd.R_drewN | apply Kd.R_drew)); exact HO_row25.out) Q55.out).mono ?_
  rintro e w20 ⟨rfl, ho0, hb, hk⟩
  have n0_ := Aside0.mk (Kd.R_mono (Kd.R_tight rfl ho0) (fun k_ hk_ => HO_row25.out.1 k_ hk_.symm))
  have n1_ := Aside0.mk (Kd.R_kept (by (with_reducible repeat (first | apply Kd.R_alloc | apply Kd.R_drewN | apply Kd.R_drew)); exact HO_row9.out) hk (fun k_ h1_ h2_ => by unfold Iv at h1_ h2_; have m4_ := M4.out; have m5_ := M5.out; have m6_ := M6.out; have m7_ := M7.out; have m8_ := M8.out; have m9_ := M9.out; have m10_ := M10.out; have m11_ := M11.out; have m13_ := M13.out; have m15_ := M15.out; have m17_ := M17.out; omega))
  have n2_ := Aside0.mk (Kd.R_kept (by (with_reducible repeat (first | apply Kd.R_alloc | apply Kd.R_drewN | apply Kd.R_drew)); exact HO_row12.out) hk (fun k_ h1_ h2_ => by unfold Iv at h1_ h2_; have m4_ := M4.out; have m5_ := M5.out; have m6_ := M6.out; have m7_ := M7.out; have m8_ := M8.out; have m9_ := M9.out; have m10_ := M10.out; have m11_ := M11.out; have m13_ := M13.out; have m15_ := M15.out; have m17_ := M17.out; omega))
  have n3_ := Aside0.mk (Kd.R_kept (by (with_reducible repeat (first | apply Kd.R_alloc | apply Kd.R_drewN | apply Kd.R_drew)); exact HO_row15.out) hk (fun k_ h1_ h2_ => by unfold Iv at h1_ h2_; have m4_ := M4.out; have m5_ := M5.out; have m6_ := M6.out; have m7_ := M7.out; have m8_ := M8.out; have m9_ := M9.out; have m10_ := M10.out; have m11_ := M11.out; have m13_ := M13.out; have m15_ := M15.out; have m17_ := M17.out; omega))
  have n4_ := Aside0.mk (Kd.R_kept (by (with_reducible repeat (first | apply Kd.R_alloc | apply Kd.R_drewN | apply Kd.R_drew)); exact HO_row19.out) hk (fun k_ h1_ h2_ => by unfold Iv at h1_ h2_; have m4_ := M4.out; have m5_ := M5.out; have m6_ := M6.out; have m7_ := M7.out; have m8_ := M8.out; have m9_ := M9.out; have m10_ := M10.out; have m11_ := M11.out; have m13_ := M13.out; have m15_ := M15.out; have m17_ := M17.out; omega))
  have n5_ := Aside0.mk (Kd.R_kept (by (with_reducible repeat (first | apply Kd.R_alloc | apply Kd.R_drewN | apply Kd.R_drew)); exact HO_row22.out) hk (fun k_ h1_ h2_ => by unfold Iv at h1_ h2_; have m4_ := M4.out; have m5_ := M5.out; have m6_ := M6.out; have m7_ := M7.out; have m8_ := M8.out; have m9_ := M9.out; have m10_ := M10.out; have m11_ := M11.out; have m13_ := M13.out; have m15_ := M15.out; have m17_ := M17.out; omega))
  have n6_ := Aside0.mk (Kd.R_kept (by (with_reducible repeat (first | apply Kd.R_alloc | apply Kd.R_drewN | apply Kd.R_drew)); exact HO_row28.out) hk (fun k_ h1_ h2_ => by unfold Iv at h1_ h2_; have m4_ := M4.out; have m5_ := M5.out; have m6_ := M6.out; have m7_ := M7.out; have m8_ := M8.out; have m9_ := M9.out; have m10_ := M10.out; have m11_ := M11.out; have m13_ := M13.out; have m15_ := M15.out; have m17_ := M17.out; omega))
  have n7_ := Aside0.mk (Kd.R_kept (by (with_reducible repeat (first | apply Kd.R_alloc | apply Kd.R_drewN | apply Kd.R_drew)); exact HO_row32.out) hk (fun k_ h1_ h2_ => by unfold Iv at h1_ h2_; have m4_ := M4.out; have m5_ := M5.out; have m6_ := M6.out; have m7_ := M7.out; have m8_ := M8.out; have m9_ := M9.out; have m10_ := M10.out; have m11_ := M11.out; have m13_ := M13.out; have m15_ := M15.out; have m17_ := M17.out; omega))
  have n8_ := Aside0.mk (Kd.R_kept (by (with_reducible repeat (first | apply Kd.R_alloc | apply Kd.R_drewN | apply Kd.R_drew)); exact HO_row37.out) hk (fun k_ h1_ h2_ => by unfold Iv at h1_ h2_; have m4_ := M4.out; have m5_ := M5.out; have m6_ := M6.out; have m7_ := M7.out; have m8_ := M8.out; have m9_ := M9.out; have m10_ := M10.out; have m11_ := M11.out; have m13_ := M13.out; have m15_ := M15.out; have m17_ := M17.out; omega))
  have n9_ := Aside0.mk (Kd.R_kept (by (with_reducible repeat (first | apply Kd.R_alloc | apply Kd.R_drewN | apply Kd.R_drew)); exact HO_row42.out) hk (fun k_ h1_ h2_ => by unfold Iv at h1_ h2_; have m4_ := M4.out; have m5_ := M5.out; have m6_ := M6.out; have m7_ := M7.out; have m8_ := M8.out; have m9_ := M9.out; have m10_ := M10.out; have m11_ := M11.out; have m13_ := M13.out; have m15_ := M15.out; have m17_ := M17.out; omega))
  have n10_ := Aside0.mk (Kd.R_kept (by (with_reducible repeat (first | apply Kd.R_alloc | apply Kd.R_drewN | apply Kd.R_drew)); exact HO_row47.out) hk (fun k_ h1_ h2_ => by unfold Iv at h1_ h2_; have m4_ := M4.out; have m5_ := M5.out; have m6_ := M6.out; have m7_ := M7.out; have m8_ := M8.out; have m9_ := M9.out; have m10_ := M10.out; have m11_ := M11.out; have m13_ := M13.out; have m15_ := M15.out; have m17_ := M17.out; omega))
  have n11_ := Aside0.mk (Nat.le_trans (by repeat (first | (with_reducible first | exact HS.out | apply sz_alloc | apply sz_drewN | apply sz_drew) | exact HS.out)) hk.1)
  have n12_ := Aside0.mk (hb)
  clear HB HS HO_row9 HO_row12 HO_row15 HO_row19 HO_row22 HO_row25 HO_row28 HO_row32 HO_row37 HO_row42 HO_row47 hb hk ho0
  have HO_row25 := n0_
  have HO_row9 := n1_
  have HO_row12 := n2_
  have HO_row15 := n3_
  have HO_row19 := n4_
  have HO_row22 := n5_
  have HO_row28 := n6_
  have HO_row32 := n7_
  have HO_row37 := n8_
  have HO_row42 := n9_
  have HO_row47 := n10_
  have HS := n11_
  have HB := n12_
  clear n0_ n1_ n2_ n3_ n4_ n5_ n6_ n7_ n8_ n9_ n10_ n11_ n12_
  have LN_row25 := Aside0.mk (Kd.R_reads' HO_row25.out).1
  go_wp2_with fail
  refine (laws_markSettingS.calls k (Iv w9.heap.size w10.heap.size) _ t26 t53 t56 t57 w _ (by repeat (first | (with_reducible first | exact HB.out | apply below_alloc | apply pw_below_drewN | apply below_drew1) | exact HB.out)) (by (with_reducible repeat (first | apply Kd.R_alloc | apply Kd.R_drewN | apply Kd.R_drew)); exact HO_row28.out) Q58.out).mono ?_
  rintro e w21 ⟨rfl, ho0, hb, hk⟩
  have n0_ := Aside0.mk (Kd.R_mono (Kd.R_tight rfl ho0) (fun k_ hk_ => HO_row28.out.1 k_ hk_.symm))
  have n1_ := Aside0.mk (Kd.R_kept (by (with_reducible repeat (first | apply Kd.R_alloc | apply Kd.R_drewN | apply Kd.R_drew)); exact HO_row9.out) hk (fun k_ h1_ h2_ => by unfold Iv at h1_ h2_; have m4_ := M4.out; have m5_ := M5.out; have m6_ := M6.out; have m7_ := M7.out; have m8_ := M8.out; have m9_ := M9.out; have m10_ := M10.out; have m11_ := M11.out; have m13_ := M13.out; have m15_ := M15.out; have m17_ := M17.out; omega))
  have n2_ := Aside0.mk (Kd.R_kept (by (with_reducible repeat (first | apply Kd.R_alloc | apply Kd.R_drewN | apply Kd.R_drew)); exact HO_row12.out) hk (fun k_ h1_ h2_ => by unfold Iv at h1_ h2_; have m4_ := M4.out; have m5_ := M5.out; have m6_ := M6.out; have m7_ := M7.out; have m8_ := M8.out; have m9_ := M9.out; have m10_ := M10.out; have m11_ := M11.out; have m13_ := M13.out; have m15_ := M15.out; have m17_ := M17.out; omega))
  have n3_ := Aside0.mk (Kd.R_kept (by (with_reducible repeat (first | apply Kd.R_alloc | apply Kd.R_drewN | apply Kd.R_drew)); exact HO_row15.out) hk (fun k_ h1_ h2_ => by unfold Iv at h1_ h2_; have m4_ := M4.out; have m5_ := M5.out; have m6_ := M6.out; have m7_ := M7.out; have m8_ := M8.out; have m9_ := M9.out; have m10_ := M10.out; have m11_ := M11.out; have m13_ := M13.out; have m15_ := M15.out; have m17_ := M17.out; omega))
  have n4_ := Aside0.mk (Kd.R_kept (by (with_reducible repeat (first | apply Kd.R_alloc | apply Kd.R_drewN | apply Kd.R_drew)); exact HO_row19.out) hk (fun k_ h1_ h2_ => by unfold Iv at h1_ h2_; have m4_ := M4.out; have m5_ := M5.out; have m6_ := M6.out; have m7_ := M7.out; have m8_ := M8.out; have m9_ := M9.out; have m10_ := M10.out; have m11_ := M11.out; have m13_ := M13.out; have m15_ := M15.out; have m17_ := M17.out; omega))
  have n5_ := Aside0.mk (Kd.R_kept (by (with_reducible repeat (first | apply Kd.R_alloc | apply Kd.R_drewN | apply Kd.R_drew)); exact HO_row22.out) hk (fun k_ h1_ h2_ => by unfold Iv at h1_ h2_; have m4_ := M4.out; have m5_ := M5.out; have m6_ := M6.out; have m7_ := M7.out; have m8_ := M8.out; have m9_ := M9.out; have m10_ := M10.out; have m11_ := M11.out; have m13_ := M13.out; have m15_ := M15.out; have m17_ := M17.out; omega))
  have n6_ := Aside0.mk (Kd.R_kept (by (with_reducible repeat (first | apply Kd.R_alloc | apply Kd.R_drewN | apply Kd.R_drew)); exact HO_row25.out) hk (fun k_ h1_ h2_ => by unfold Iv at h1_ h2_; have m4_ := M4.out; have m5_ := M5.out; have m6_ := M6.out; have m7_ := M7.out; have m8_ := M8.out; have m9_ := M9.out; have m10_ := M10.out; have m11_ := M11.out; have m13_ := M13.out; have m15_ := M15.out; have m17_ := M17.out; omega))
  have n7_ := Aside0.mk (Kd.R_kept (by (with_reducible repeat (first | apply Kd.R_alloc | apply Kd.R_drewN | apply Kd.R_drew)); exact HO_row32.out) hk (fun k_ h1_ h2_ => by unfold Iv at h1_ h2_; have m4_ := M4.out; have m5_ := M5.out; have m6_ := M6.out; have m7_ := M7.out; have m8_ := M8.out; have m9_ := M9.out; have m10_ := M10.out; have m11_ := M11.out; have m13_ := M13.out; have m15_ := M15.out; have m17_ := M17.out; omega))
  have n8_ := Aside0.mk (Kd.R_kept (by (with_reducible repeat (first | apply Kd.R_alloc | apply Kd.R_drewN | apply Kd.R_drew)); exact HO_row37.out) hk (fun k_ h1_ h2_ => by unfold Iv at h1_ h2_; have m4_ := M4.out; have m5_ := M5.out; have m6_ := M6.out; have m7_ := M7.out; have m8_ := M8.out; have m9_ := M9.out; have m10_ := M10.out; have m11_ := M11.out; have m13_ := M13.out; have m15_ := M15.out; have m17_ := M17.out; omega))
  have n9_ := Aside0.mk (Kd.R_kept (by (with_reducible repeat (first | apply Kd.R_alloc | apply Kd.R_drewN | apply Kd.R_drew)); exact HO_row42.out) hk (fun k_ h1_ h2_ => by unfold Iv at h1_ h2_; have m4_ := M4.out; have m5_ := M5.out; have m6_ := M6.out; have m7_ := M7.out; have m8_ := M8.out; have m9_ := M9.out; have m10_ := M10.out; have m11_ := M11.out; have m13_ := M13.out; have m15_ := M15.out; have m17_ := M17.out; omega))
  have n10_ := Aside0.mk (Kd.R_kept (by (with_reducible repeat (first | apply Kd.R_alloc | apply Kd.R_drewN | apply Kd.R_drew)); exact HO_row47.out) hk (fun k_ h1_ h2_ => by unfold Iv at h1_ h2_; have m4_ := M4.out; have m5_ := M5.out; have m6_ := M6.out; have m7_ := M7.out; have m8_ := M8.out; have m9_ := M9.out; have m10_ := M10.out; have m11_ := M11.out; have m13_ := M13.out; have m15_ := M15.out; have m17_ := M17.out; omega))
  have n11_ := Aside0.mk (Nat.le_trans (by repeat (first | (with_reducible first | exact HS.out | apply sz_alloc | apply sz_drewN | apply sz_drew) | exact HS.out)) hk.1)
  have n12_ := Aside0.mk (hb)
  clear HB HS HO_row9 HO_row12 HO_row15 HO_row19 HO_row22 HO_row25 HO_row28 HO_row32 HO_row37 HO_row42 HO_row47 hb hk ho0
  have HO_row28 := n0_
  have HO_row9 := n1_
  have HO_row12 := n2_
  have HO_row15 := n3_
  have HO_row19 := n4_
  have HO_row22 := n5_
  have HO_row25 := n6_
  have HO_row32 := n7_
  have HO_row37 := n8_
  have HO_row42 := n9_
  have HO_row47 := n10_
  have HS := n11_
  have HB := n12_
  clear n0_ n1_ n2_ n3_ n4_ n5_ n6_ n7_ n8_ n9_ n10_ n11_ n12_
  have LN_row28 := Aside0.mk (Kd.R_reads' HO_row28.out).1
  go_wp2_with fail
  refine (laws_eqStringS.calls k _ _ t29 _ _ t16 true _ (by exact (Kd.R_reads' (by (with_reducible repeat (first | apply Kd.R_alloc | apply Kd.R_drewN | apply Kd.R_drew)); exact HO_row32.out)).2.2) (by exact (Kd.R_reads' HO_row32.out).2.1) (by exact (Kd.R_reads' (by (with_reducible repeat (first | apply Kd.R_alloc | apply Kd.R_drewN | apply Kd.R_drew)); exact HO_row19.out)).2.2) (by exact (Kd.R_reads' HO_row19.out).2.1) Q60.out).mono ?_
  rintro e w22 ⟨rfl, hb⟩
  replace hb := hb.below
  have n0_ := Aside0.mk (Kd.R_below (by (with_reducible repeat (first | apply Kd.R_alloc | apply Kd.R_drewN | apply Kd.R_drew)); exact HO_row9.out) hb)
  have n1_ := Aside0.mk (Kd.R_below (by (with_reducible repeat (first | apply Kd.R_alloc | apply Kd.R_drewN | apply Kd.R_drew)); exact HO_row12.out) hb)
  have n2_ := Aside0.mk (Kd.R_below (by (with_reducible repeat (first | apply Kd.R_alloc | apply Kd.R_drewN | apply Kd.R_drew)); exact HO_row15.out) hb)
  have n3_ := Aside0.mk (Kd.R_below (by (with_reducible repeat (first | apply Kd.R_alloc | apply Kd.R_drewN | apply Kd.R_drew)); exact HO_row19.out) hb)
  have n4_ := Aside0.mk (Kd.R_below (by (with_reducible repeat (first | apply Kd.R_alloc | apply Kd.R_drewN | apply Kd.R_drew)); exact HO_row22.out) hb)
  have n5_ := Aside0.mk (Kd.R_below (by (with_reducible repeat (first | apply Kd.R_alloc | apply Kd.R_drewN | apply Kd.R_drew)); exact HO_row25.out) hb)
  have n6_ := Aside0.mk (Kd.R_below (by (with_reducible repeat (first | apply Kd.R_alloc | apply Kd.R_drewN | apply Kd.R_drew)); exact HO_row28.out) hb)
  have n7_ := Aside0.mk (Kd.R_below (by (with_reducible repeat (first | apply Kd.R_alloc | apply Kd.R_drewN | apply Kd.R_drew)); exact HO_row32.out) hb)
  have n8_ := Aside0.mk (Kd.R_below (by (with_reducible repeat (first | apply Kd.R_alloc | apply Kd.R_drewN | apply Kd.R_drew)); exact HO_row37.out) hb)
  have n9_ := Aside0.mk (Kd.R_below (by (with_reducible repeat (first | apply Kd.R_alloc | apply Kd.R_drewN | apply Kd.R_drew)); exact HO_row42.out) hb)
  have n10_ := Aside0.mk (Kd.R_below (by (with_reducible repeat (first | apply Kd.R_alloc | apply Kd.R_drewN | apply Kd.R_drew)); exact HO_row47.out) hb)
  have n11_ := Aside0.mk (Nat.le_trans (by repeat (first | (with_reducible first | exact HS.out | apply sz_alloc | apply sz_drewN | apply sz_drew) | exact HS.out)) hb.size)
  have n12_ := Aside0.mk (below_step (by repeat (first | (with_reducible first | exact HB.out | apply below_alloc | apply pw_below_drewN | apply below_drew1) | exact HB.out)) hb)
  clear HB HS HO_row9 HO_row12 HO_row15 HO_row19 HO_row22 HO_row25 HO_row28 HO_row32 HO_row37 HO_row42 HO_row47 hb
  have HO_row9 := n0_
  have HO_row12 := n1_
  have HO_row15 := n2_
  have HO_row19 := n3_
  have HO_row22 := n4_
  have HO_row25 := n5_
  have HO_row28 := n6_
  have HO_row32 := n7_
  have HO_row37 := n8_
  have HO_row42 := n9_
  have HO_row47 := n10_
  have HS := n11_
  have HB := n12_
  clear n0_ n1_ n2_ n3_ n4_ n5_ n6_ n7_ n8_ n9_ n10_ n11_ n12_
  go_wp2_with fail
  refine (laws_markStringS.calls k (Iv w10.heap.size w11.heap.size) _ t29 1 t61 t62 w _ (by repeat (first | (with_reducible first | exact HB.out | apply below_alloc | apply pw_below_drewN | apply below_drew1) | exact HB.out)) (by (with_reducible repeat (first | apply Kd.R_alloc | apply Kd.R_drewN | apply Kd.R_drew)); exact HO_row32.out) Q63.out).mono ?_
  rintro e w23 ⟨rfl, ho0, hb, hk⟩
  have n0_ := Aside0.mk (Kd.R_mono (Kd.R_tight rfl ho0) (fun k_ hk_ => HO_row32.out.1 k_ hk_.symm))
  have n1_ := Aside0.mk (Kd.R_kept (by (with_reducible repeat (first | apply Kd.R_alloc | apply Kd.R_drewN | apply Kd.R_drew)); exact HO_row9.out) hk (fun k_ h1_ h2_ => by unfold Iv at h1_ h2_; have m4_ := M4.out; have m5_ := M5.out; have m6_ := M6.out; have m7_ := M7.out; have m8_ := M8.out; have m9_ := M9.out; have m10_ := M10.out; have m11_ := M11.out; have m13_ := M13.out; have m15_ := M15.out; have m17_ := M17.out; omega))
  have n2_ := Aside0.mk (Kd.R_kept (by (with_reducible repeat (first | apply Kd.R_alloc | apply Kd.R_drewN | apply Kd.R_drew)); exact HO_row12.out) hk (fun k_ h1_ h2_ => by unfold Iv at h1_ h2_; have m4_ := M4.out; have m5_ := M5.out; have m6_ := M6.out; have m7_ := M7.out; have m8_ := M8.out; have m9_ := M9.out; have m10_ := M10.out; have m11_ := M11.out; have m13_ := M13.out; have m15_ := M15.out; have m17_ := M17.out; omega))
  have n3_ := Aside0.mk (Kd.R_kept (by (with_reducible repeat (first | apply Kd.R_alloc | apply Kd.R_drewN | apply Kd.R_drew)); exact HO_row15.out) hk (fun k_ h1_ h2_ => by unfold Iv at h1_ h2_; have m4_ := M4.out; have m5_ := M5.out; have m6_ := M6.out; have m7_ := M7.out; have m8_ := M8.out; have m9_ := M9.out; have m10_ := M10.out; have m11_ := M11.out; have m13_ := M13.out; have m15_ := M15.out; have m17_ := M17.out; omega))
  have n4_ := Aside0.mk (Kd.R_kept (by (with_reducible repeat (first | apply Kd.R_alloc | apply Kd.R_drewN | apply Kd.R_drew)); exact HO_row19.out) hk (fun k_ h1_ h2_ => by unfold Iv at h1_ h2_; have m4_ := M4.out; have m5_ := M5.out; have m6_ := M6.out; have m7_ := M7.out; have m8_ := M8.out; have m9_ := M9.out; have m10_ := M10.out; have m11_ := M11.out; have m13_ := M13.out; have m15_ := M15.out; have m17_ := M17.out; omega))
  have n5_ := Aside0.mk (Kd.R_kept (by (with_reducible repeat (first | apply Kd.R_alloc | apply Kd.R_drewN | apply Kd.R_drew)); exact HO_row22.out) hk (fun k_ h1_ h2_ => by unfold Iv at h1_ h2_; have m4_ := M4.out; have m5_ := M5.out; have m6_ := M6.out; have m7_ := M7.out; have m8_ := M8.out; have m9_ := M9.out; have m10_ := M10.out; have m11_ := M11.out; have m13_ := M13.out; have m15_ := M15.out; have m17_ := M17.out; omega))
  have n6_ := Aside0.mk (Kd.R_kept (by (with_reducible repeat (first | apply Kd.R_alloc | apply Kd.R_drewN | apply Kd.R_drew)); exact HO_row25.out) hk (fun k_ h1_ h2_ => by unfold Iv at h1_ h2_; have m4_ := M4.out; have m5_ := M5.out; have m6_ := M6.out; have m7_ := M7.out; have m8_ := M8.out; have m9_ := M9.out; have m10_ := M10.out; have m11_ := M11.out; have m13_ := M13.out; have m15_ := M15.out; have m17_ := M17.out; omega))
  have n7_ := Aside0.mk (Kd.R_kept (by (with_reducible repeat (first | apply Kd.R_alloc | apply Kd.R_drewN | apply Kd.R_drew)); exact HO_row28.out) hk (fun k_ h1_ h2_ => by unfold Iv at h1_ h2_; have m4_ := M4.out; have m5_ := M5.out; have m6_ := M6.out; have m7_ := M7.out; have m8_ := M8.out; have m9_ := M9.out; have m10_ := M10.out; have m11_ := M11.out; have m13_ := M13.out; have m15_ := M15.out; have m17_ := M17.out; omega))
  have n8_ := Aside0.mk (Kd.R_kept (by (with_reducible repeat (first | apply Kd.R_alloc | apply Kd.R_drewN | apply Kd.R_drew)); exact HO_row37.out) hk (fun k_ h1_ h2_ => by unfold Iv at h1_ h2_; have m4_ := M4.out; have m5_ := M5.out; have m6_ := M6.out; have m7_ := M7.out; have m8_ := M8.out; have m9_ := M9.out; have m10_ := M10.out; have m11_ := M11.out; have m13_ := M13.out; have m15_ := M15.out; have m17_ := M17.out; omega))
  have n9_ := Aside0.mk (Kd.R_kept (by (with_reducible repeat (first | apply Kd.R_alloc | apply Kd.R_drewN | apply Kd.R_drew)); exact HO_row42.out) hk (fun k_ h1_ h2_ => by unfold Iv at h1_ h2_; have m4_ := M4.out; have m5_ := M5.out; have m6_ := M6.out; have m7_ := M7.out; have m8_ := M8.out; have m9_ := M9.out; have m10_ := M10.out; have m11_ := M11.out; have m13_ := M13.out; have m15_ := M15.out; have m17_ := M17.out; omega))
  have n10_ := Aside0.mk (Kd.R_kept (by (with_reducible repeat (first | apply Kd.R_alloc | apply Kd.R_drewN | apply Kd.R_drew)); exact HO_row47.out) hk (fun k_ h1_ h2_ => by unfold Iv at h1_ h2_; have m4_ := M4.out; have m5_ := M5.out; have m6_ := M6.out; have m7_ := M7.out; have m8_ := M8.out; have m9_ := M9.out; have m10_ := M10.out; have m11_ := M11.out; have m13_ := M13.out; have m15_ := M15.out; have m17_ := M17.out; omega))
  have n11_ := Aside0.mk (Nat.le_trans (by repeat (first | (with_reducible first | exact HS.out | apply sz_alloc | apply sz_drewN | apply sz_drew) | exact HS.out)) hk.1)
  have n12_ := Aside0.mk (hb)
  clear HB HS HO_row9 HO_row12 HO_row15 HO_row19 HO_row22 HO_row25 HO_row28 HO_row32 HO_row37 HO_row42 HO_row47 hb hk ho0
  have HO_row32 := n0_
  have HO_row9 := n1_
  have HO_row12 := n2_
  have HO_row15 := n3_
  have HO_row19 := n4_
  have HO_row22 := n5_
  have HO_row25 := n6_
  have HO_row28 := n7_
  have HO_row37 := n8_
  have HO_row42 := n9_
  have HO_row47 := n10_
  have HS := n11_
  have HB := n12_
  clear n0_ n1_ n2_ n3_ n4_ n5_ n6_ n7_ n8_ n9_ n10_ n11_ n12_
  have LN_row32 := Aside0.mk (Kd.R_reads' HO_row32.out).1
  go_wp2_with fail
  refine calls_of_args (args' := #[.slice _ t62.length _, _]) (by rw [← LN_row32.out]) ?_
  refine (laws_heldStringS.calls k _ _ t62 1 t64 _ (by exact (Kd.R_reads' (by (with_reducible repeat (first | apply Kd.R_alloc | apply Kd.R_drewN | apply Kd.R_drew)); exact HO_row32.out)).2.2) (by rw [← LN_row32.out]; exact (Kd.R_reads' HO_row32.out).2.1) Q65.out).mono ?_
  rintro e w24 ⟨rfl, hb⟩
  have n0_ := Aside0.mk (Kd.R_below (by (with_reducible repeat (first | apply Kd.R_alloc | apply Kd.R_drewN | apply Kd.R_drew)); exact HO_row9.out) hb)
  have n1_ := Aside0.mk (Kd.R_below (by (with_reducible repeat (first | apply Kd.R_alloc | apply Kd.R_drewN | apply Kd.R_drew)); exact HO_row12.out) hb)
  have n2_ := Aside0.mk (Kd.R_below (by (with_reducible repeat (first | apply Kd.R_alloc | apply Kd.R_drewN | apply Kd.R_drew)); exact HO_row15.out) hb)
  have n3_ := Aside0.mk (Kd.R_below (by (with_reducible repeat (first | apply Kd.R_alloc | apply Kd.R_drewN | apply Kd.R_drew)); exact HO_row19.out) hb)
  have n4_ := Aside0.mk (Kd.R_below (by (with_reducible repeat (first | apply Kd.R_alloc | apply Kd.R_drewN | apply Kd.R_drew)); exact HO_row22.out) hb)
  have n5_ := Aside0.mk (Kd.R_below (by (with_reducible repeat (first | apply Kd.R_alloc | apply Kd.R_drewN | apply Kd.R_drew)); exact HO_row25.out) hb)
  have n6_ := Aside0.mk (Kd.R_below (by (with_reducible repeat (first | apply Kd.R_alloc | apply Kd.R_drewN | apply Kd.R_drew)); exact HO_row28.out) hb)
  have n7_ := Aside0.mk (Kd.R_below (by (with_reducible repeat (first | apply Kd.R_alloc | apply Kd.R_drewN | apply Kd.R_drew)); exact HO_row32.out) hb)
  have n8_ := Aside0.mk (Kd.R_below (by (with_reducible repeat (first | apply Kd.R_alloc | apply Kd.R_drewN | apply Kd.R_drew)); exact HO_row37.out) hb)
  have n9_ := Aside0.mk (Kd.R_below (by (with_reducible repeat (first | apply Kd.R_alloc | apply Kd.R_drewN | apply Kd.R_drew)); exact HO_row42.out) hb)
  have n10_ := Aside0.mk (Kd.R_below (by (with_reducible repeat (first | apply Kd.R_alloc | apply Kd.R_drewN | apply Kd.R_drew)); exact HO_row47.out) hb)
  have n11_ := Aside0.mk (Nat.le_trans (by repeat (first | (with_reducible first | exact HS.out | apply sz_alloc | apply sz_drewN | apply sz_drew) | exact HS.out)) hb.size)
  have n12_ := Aside0.mk (below_step (by repeat (first | (with_reducible first | exact HB.out | apply below_alloc | apply pw_below_drewN | apply below_drew1) | exact HB.out)) hb)
  clear HB HS HO_row9 HO_row12 HO_row15 HO_row19 HO_row22 HO_row25 HO_row28 HO_row32 HO_row37 HO_row42 HO_row47 hb
  have HO_row9 := n0_
  have HO_row12 := n1_
  have HO_row15 := n2_
  have HO_row19 := n3_
  have HO_row22 := n4_
  have HO_row25 := n5_
  have HO_row28 := n6_
  have HO_row32 := n7_
  have HO_row37 := n8_
  have HO_row42 := n9_
  have HO_row47 := n10_
  have HS := n11_
  have HB := n12_
  clear n0_ n1_ n2_ n3_ n4_ n5_ n6_ n7_ n8_ n9_ n10_ n11_ n12_
  go_wp2_with fail
  refine (laws_toSettingS.calls k _ _ l0 t66 _ (by exact Kd.C_below HR0.out (by repeat (first | (with_reducible first | exact HB.out | apply below_alloc | apply pw_below_drewN | apply below_drew1) | exact HB.out))) HC0.out Q67.out).mono ?_
  rintro e w25 ⟨v0, rfl, ho0, hb⟩
  have n0_ := Aside0.mk (Kd.R_below (by (with_reducible repeat (first | apply Kd.R_alloc | apply Kd.R_drewN | apply Kd.R_drew)); exact HO_row9.out) hb)
  have n1_ := Aside0.mk (Kd.R_below (by (with_reducible repeat (first | apply Kd.R_alloc | apply Kd.R_drewN | apply Kd.R_drew)); exact HO_row12.out) hb)
  have n2_ := Aside0.mk (Kd.R_below (by (with_reducible repeat (first | apply Kd.R_alloc | apply Kd.R_drewN | apply Kd.R_drew)); exact HO_row15.out) hb)
  have n3_ := Aside0.mk (Kd.R_below (by (with_reducible repeat (first | apply Kd.R_alloc | apply Kd.R_drewN | apply Kd.R_drew)); exact HO_row19.out) hb)
  have n4_ := Aside0.mk (Kd.R_below (by (with_reducible repeat (first | apply Kd.R_alloc | apply Kd.R_drewN | apply Kd.R_drew)); exact HO_row22.out) hb)
  have n5_ := Aside0.mk (Kd.R_below (by (with_reducible repeat (first | apply Kd.R_alloc | apply Kd.R_drewN | apply Kd.R_drew)); exact HO_row25.out) hb)
  have n6_ := Aside0.mk (Kd.R_below (by (with_reducible repeat (first | apply Kd.R_alloc | apply Kd.R_drewN | apply Kd.R_drew)); exact HO_row28.out) hb)
  have n7_ := Aside0.mk (Kd.R_below (by (with_reducible repeat (first | apply Kd.R_alloc | apply Kd.R_drewN | apply Kd.R_drew)); exact HO_row32.out) hb)
  have n8_ := Aside0.mk (Kd.R_below (by (with_reducible repeat (first | apply Kd.R_alloc | apply Kd.R_drewN | apply Kd.R_drew)); exact HO_row37.out) hb)
  have n9_ := Aside0.mk (Kd.R_below (by (with_reducible repeat (first | apply Kd.R_alloc | apply Kd.R_drewN | apply Kd.R_drew)); exact HO_row42.out) hb)
  have n10_ := Aside0.mk (Kd.R_below (by (with_reducible repeat (first | apply Kd.R_alloc | apply Kd.R_drewN | apply Kd.R_drew)); exact HO_row47.out) hb)
  have n11_ := Aside0.mk (Iv_R (lo := w17.heap.size) (W := _) ho0 (below_size (by repeat (first | (with_reducible first | exact HB.out | apply below_alloc | apply pw_below_drewN | apply below_drew1) | exact HB.out))) (by repeat (first | (with_reducible first | exact HS.out | apply sz_alloc | apply sz_drewN | apply sz_drew) | exact HS.out)))
  have n12_ := Aside0.mk (Nat.le_refl w25.heap.size)
  have n13_ := Aside0.mk (Nat.le_trans (by repeat (first | (with_reducible first | exact HS.out | apply sz_alloc | apply sz_drewN | apply sz_drew) | exact HS.out)) hb.size)
  have n14_ := Aside0.mk (below_step (by repeat (first | (with_reducible first | exact HB.out | apply below_alloc | apply pw_below_drewN | apply below_drew1) | exact HB.out)) hb)
  clear HB HS HO_row9 HO_row12 HO_row15 HO_row19 HO_row22 HO_row25 HO_row28 HO_row32 HO_row37 HO_row42 HO_row47 hb ho0
  have HO_row9 := n0_
  have HO_row12 := n1_
  have HO_row15 := n2_
  have HO_row19 := n3_
  have HO_row22 := n4_
  have HO_row25 := n5_
  have HO_row28 := n6_
  have HO_row32 := n7_
  have HO_row37 := n8_
  have HO_row42 := n9_
  have HO_row47 := n10_
  have HO_row68 := n11_
  have HS := n12_
  have M25 := n13_
  have HB := n14_
  clear n0_ n1_ n2_ n3_ n4_ n5_ n6_ n7_ n8_ n9_ n10_ n11_ n12_ n13_ n14_
  obtain ⟨A_row68, c_row68, rfl⟩ := Kd.R_slice HO_row68.out
  go_wp2_with fail
  refine (laws_toSettingS.calls k _ _ l1 t69 _ (by exact Kd.C_below HR1.out (by repeat (first | (with_reducible first | exact HB.out | apply below_alloc | apply pw_below_drewN | apply below_drew1) | exact HB.out))) HC1.out Q70.out).mono ?_
  rintro e w26 ⟨v0, rfl, ho0, hb⟩
  have n0_ := Aside0.mk (Kd.R_below (by (with_reducible repeat (first | apply Kd.R_alloc | apply Kd.R_drewN | apply Kd.R_drew)); exact HO_row9.out) hb)
  have n1_ := Aside0.mk (Kd.R_below (by (with_reducible repeat (first | apply Kd.R_alloc | apply Kd.R_drewN | apply Kd.R_drew)); exact HO_row12.out) hb)
  have n2_ := Aside0.mk (Kd.R_below (by (with_reducible repeat (first | apply Kd.R_alloc | apply Kd.R_drewN | apply Kd.R_drew)); exact HO_row15.out) hb)
  have n3_ := Aside0.mk (Kd.R_below (by (with_reducible repeat (first | apply Kd.R_alloc | apply Kd.R_drewN | apply Kd.R_drew)); exact HO_row19.out) hb)
  have n4_ := Aside0.mk (Kd.R_below (by (with_reducible repeat (first | apply Kd.R_alloc | apply Kd.R_drewN | apply Kd.R_drew)); exact HO_row22.out) hb)
  have n5_ := Aside0.mk (Kd.R_below (by (with_reducible repeat (first | apply Kd.R_alloc | apply Kd.R_drewN | apply Kd.R_drew)); exact HO_row25.out) hb)
  have n6_ := Aside0.mk (Kd.R_below (by (with_reducible repeat (first | apply Kd.R_alloc | apply Kd.R_drewN | apply Kd.R_drew)); exact HO_row28.out) hb)
  have n7_ := Aside0.mk (Kd.R_below (by (with_reducible repeat (first | apply Kd.R_alloc | apply Kd.R_drewN | apply Kd.R_drew)); exact HO_row32.out) hb)
  have n8_ := Aside0.mk (Kd.R_below (by (with_reducible repeat (first | apply Kd.R_alloc | apply Kd.R_drewN | apply Kd.R_drew)); exact HO_row37.out) hb)
  have n9_ := Aside0.mk (Kd.R_below (by (with_reducible repeat (first | apply Kd.R_alloc | apply Kd.R_drewN | apply Kd.R_drew)); exact HO_row42.out) hb)
  have n10_ := Aside0.mk (Kd.R_below (by (with_reducible repeat (first | apply Kd.R_alloc | apply Kd.R_drewN | apply Kd.R_drew)); exact HO_row47.out) hb)
  have n11_ := Aside0.mk (Kd.R_below (by (with_reducible repeat (first | apply Kd.R_alloc | apply Kd.R_drewN | apply Kd.R_drew)); exact HO_row68.out) hb)
  have n12_ := Aside0.mk (Iv_R (lo := w25.heap.size) (W := _) ho0 (below_size (by repeat (first | (with_reducible first | exact HB.out | apply below_alloc | apply pw_below_drewN | apply below_drew1) | exact HB.out))) (by repeat (first | (with_reducible first | exact HS.out | apply sz_alloc | apply sz_drewN | apply sz_drew) | exact HS.out)))
  have n13_ := Aside0.mk (Nat.le_refl w26.heap.size)
  have n14_ := Aside0.mk (Nat.le_trans (by repeat (first | (with_reducible first | exact HS.out | apply sz_alloc | apply sz_drewN | apply sz_drew) | exact HS.out)) hb.size)
  have n15_ := Aside0.mk (below_step (by repeat (first | (with_reducible first | exact HB.out | apply below_alloc | apply pw_below_drewN | apply below_drew1) | exact HB.out)) hb)
  clear HB HS HO_row9 HO_row12 HO_row15 HO_row19 HO_row22 HO_row25 HO_row28 HO_row32 HO_row37 HO_row42 HO_row47 HO_row68 hb ho0
  have HO_row9 := n0_
  have HO_row12 := n1_
  have HO_row15 := n2_
  have HO_row19 := n3_
  have HO_row22 := n4_
  have HO_row25 := n5_
  have HO_row28 := n6_
  have HO_row32 := n7_
  have HO_row37 := n8_
  have HO_row42 := n9_
  have HO_row47 := n10_
  have HO_row68 := n11_
  have HO_row71 := n12_
  have HS := n13_
  have M26 := n14_
  have HB := n15_
  clear n0_ n1_ n2_ n3_ n4_ n5_ n6_ n7_ n8_ n9_ n10_ n11_ n12_ n13_ n14_ n15_
  obtain ⟨A_row71, c_row71, rfl⟩ := Kd.R_slice HO_row71.out
  go_wp2_with fail
  refine (laws_toSettingS.calls k _ _ l2 t72 _ (by exact Kd.C_below HR2.out (by repeat (first | (with_reducible first | exact HB.out | apply below_alloc | apply pw_below_drewN | apply below_drew1) | exact HB.out))) HC2.out Q73.out).mono ?_
  rintro e w27 ⟨v0, rfl, ho0, hb⟩
  have n0_ := Aside0.mk (Kd.R_below (by (with_reducible repeat (first | apply Kd.R_alloc | apply Kd.R_drewN | apply Kd.R_drew)); exact HO_row9.out) hb)
  have n1_ := Aside0.mk (Kd.R_below (by (with_reducible repeat (first | apply Kd.R_alloc | apply Kd.R_drewN | apply Kd.R_drew)); exact HO_row12.out) hb)
  have n2_ := Aside0.mk (Kd.R_below (by (with_reducible repeat (first | apply Kd.R_alloc | apply Kd.R_drewN | apply Kd.R_drew)); exact HO_row15.out) hb)
  have n3_ := Aside0.mk (Kd.R_below (by (with_reducible repeat (first | apply Kd.R_alloc | apply Kd.R_drewN | apply Kd.R_drew)); exact HO_row19.out) hb)
  have n4_ := Aside0.mk (Kd.R_below (by (with_reducible repeat (first | apply Kd.R_alloc | apply Kd.R_drewN | apply Kd.R_drew)); exact HO_row22.out) hb)
  have n5_ := Aside0.mk (Kd.R_below (by (with_reducible repeat (first | apply Kd.R_alloc | apply Kd.R_drewN | apply Kd.R_drew)); exact HO_row25.out) hb)
  have n6_ := Aside0.mk (Kd.R_below (by (with_reducible repeat (first | apply Kd.R_alloc | apply Kd.R_drewN | apply Kd.R_drew)); exact HO_row28.out) hb)
  have n7_ := Aside0.mk (Kd.R_below (by (with_reducible repeat (first | apply Kd.R_alloc | apply Kd.R_drewN | apply Kd.R_drew)); exact HO_row32.out) hb)
  have n8_ := Aside0.mk (Kd.R_below (by (with_reducible repeat (first | apply Kd.R_alloc | apply Kd.R_drewN | apply Kd.R_drew)); exact HO_row37.out) hb)
  have n9_ := Aside0.mk (Kd.R_below (by (with_reducible repeat (first | apply Kd.R_alloc | apply Kd.R_drewN | apply Kd.R_drew)); exact HO_row42.out) hb)
  have n10_ := Aside0.mk (Kd.R_below (by (with_reducible repeat (first | apply Kd.R_alloc | apply Kd.R_drewN | apply Kd.R_drew)); exact HO_row47.out) hb)
  have n11_ := Aside0.mk (Kd.R_below (by (with_reducible repeat (first | apply Kd.R_alloc | apply Kd.R_drewN | apply Kd.R_drew)); exact HO_row68.out) hb)
  have n12_ := Aside0.mk (Kd.R_below (by (with_reducible repeat (first | apply Kd.R_alloc | apply Kd.R_drewN | apply Kd.R_drew)); exact HO_row71.out) hb)
  have n13_ := Aside0.mk (Iv_R (lo := w26.heap.size) (W := _) ho0 (below_size (by repeat (first | (with_reducible first | exact HB.out | apply below_alloc | apply pw_below_drewN | apply below_drew1) | exact HB.out))) (by repeat (first | (with_reducible first | exact HS.out | apply sz_alloc | apply sz_drewN | apply sz_drew) | exact HS.out)))
  have n14_ := Aside0.mk (Nat.le_refl w27.heap.size)
  have n15_ := Aside0.mk (Nat.le_trans (by repeat (first | (with_reducible first | exact HS.out | apply sz_alloc | apply sz_drewN | apply sz_drew) | exact HS.out)) hb.size)
  have n16_ := Aside0.mk (below_step (by repeat (first | (with_reducible first | exact HB.out | apply below_alloc | apply pw_below_drewN | apply below_drew1) | exact HB.out)) hb)
  clear HB HS HO_row9 HO_row12 HO_row15 HO_row19 HO_row22 HO_row25 HO_row28 HO_row32 HO_row37 HO_row42 HO_row47 HO_row68 HO_row71 hb ho0
  have HO_row9 := n0_
  have HO_row12 := n1_
  have HO_row15 := n2_
  have HO_row19 := n3_
  have HO_row22 := n4_
  have HO_row25 := n5_
  have HO_row28 := n6_
  have HO_row32 := n7_
  have HO_row37 := n8_
  have HO_row42 := n9_
  have HO_row47 := n10_
  have HO_row68 := n11_
  have HO_row71 := n12_
  have HO_row74 := n13_
  have HS := n14_
  have M27 := n15_
  have HB := n16_
  clear n0_ n1_ n2_ n3_ n4_ n5_ n6_ n7_ n8_ n9_ n10_ n11_ n12_ n13_ n14_ n15_ n16_
  obtain ⟨A_row74, c_row74, rfl⟩ := Kd.R_slice HO_row74.out
  go_wp2_with fail
  refine (impl_ConflictsOf.calls k _ _ t66 _ _ t69 _ _ t72 t75 t76 _ (by exact (Kd.R_reads' (by (with_reducible repeat (first | apply Kd.R_alloc | apply Kd.R_drewN | apply Kd.R_drew)); exact HO_row68.out)).2.2) (by exact (Kd.R_reads' HO_row68.out).2.1) (by exact (Kd.R_reads' (by (with_reducible repeat (first | apply Kd.R_alloc | apply Kd.R_drewN | apply Kd.R_drew)); exact HO_row71.out)).2.2) (by exact (Kd.R_reads' HO_row71.out).2.1) (by exact (Kd.R_reads' (by (with_reducible repeat (first | apply Kd.R_alloc | apply Kd.R_drewN | apply Kd.R_drew)); exact HO_row74.out)).2.2) (by exact (Kd.R_reads' HO_row74.out).2.1) Q77.out).mono ?_
  rintro e w28 ⟨v0, rfl, ho0, hb⟩
  have n0_ := Aside0.mk (Kd.R_below (by (with_reducible repeat (first | apply Kd.R_alloc | apply Kd.R_drewN | apply Kd.R_drew)); exact HO_row9.out) hb)
  have n1_ := Aside0.mk (Kd.R_below (by (with_reducible repeat (first | apply Kd.R_alloc | apply Kd.R_drewN | apply Kd.R_drew)); exact HO_row12.out) hb)
  have n2_ := Aside0.mk (Kd.R_below (by (with_reducible repeat (first | apply Kd.R_alloc | apply Kd.R_drewN | apply Kd.R_drew)); exact HO_row15.out) hb)
  have n3_ := Aside0.mk (Kd.R_below (by (with_reducible repeat (first | apply Kd.R_alloc | apply Kd.R_drewN | apply Kd.R_drew)); exact HO_row19.out) hb)
  have n4_ := Aside0.mk (Kd.R_below (by (with_reducible repeat (first | apply Kd.R_alloc | apply Kd.R_drewN | apply Kd.R_drew)); exact HO_row22.out) hb)
  have n5_ := Aside0.mk (Kd.R_below (by (with_reducible repeat (first | apply Kd.R_alloc | apply Kd.R_drewN | apply Kd.R_drew)); exact HO_row25.out) hb)
  have n6_ := Aside0.mk (Kd.R_below (by (with_reducible repeat (first | apply Kd.R_alloc | apply Kd.R_drewN | apply Kd.R_drew)); exact HO_row28.out) hb)
  have n7_ := Aside0.mk (Kd.R_below (by (with_reducible repeat (first | apply Kd.R_alloc | apply Kd.R_drewN | apply Kd.R_drew)); exact HO_row32.out) hb)
  have n8_ := Aside0.mk (Kd.R_below (by (with_reducible repeat (first | apply Kd.R_alloc | apply Kd.R_drewN | apply Kd.R_drew)); exact HO_row37.out) hb)
  have n9_ := Aside0.mk (Kd.R_below (by (with_reducible repeat (first | apply Kd.R_alloc | apply Kd.R_drewN | apply Kd.R_drew)); exact HO_row42.out) hb)
  have n10_ := Aside0.mk (Kd.R_below (by (with_reducible repeat (first | apply Kd.R_alloc | apply Kd.R_drewN | apply Kd.R_drew)); exact HO_row47.out) hb)
  have n11_ := Aside0.mk (Kd.R_below (by (with_reducible repeat (first | apply Kd.R_alloc | apply Kd.R_drewN | apply Kd.R_drew)); exact HO_row68.out) hb)
  have n12_ := Aside0.mk (Kd.R_below (by (with_reducible repeat (first | apply Kd.R_alloc | apply Kd.R_drewN | apply Kd.R_drew)); exact HO_row71.out) hb)
  have n13_ := Aside0.mk (Kd.R_below (by (with_reducible repeat (first | apply Kd.R_alloc | apply Kd.R_drewN | apply Kd.R_drew)); exact HO_row74.out) hb)
  have n14_ := Aside0.mk (Iv_R (lo := w27.heap.size) (W := _) ho0 (below_size (by repeat (first | (with_reducible first | exact HB.out | apply below_alloc | apply pw_below_drewN | apply below_drew1) | exact HB.out))) (by repeat (first | (with_reducible first | exact HS.out | apply sz_alloc | apply sz_drewN | apply sz_drew) | exact HS.out)))
  have n15_ := Aside0.mk (Nat.le_refl w28.heap.size)
  have n16_ := Aside0.mk (Nat.le_trans (by repeat (first | (with_reducible first | exact HS.out | apply sz_alloc | apply sz_drewN | apply sz_drew) | exact HS.out)) hb.size)
  have n17_ := Aside0.mk (below_step (by repeat (first | (with_reducible first | exact HB.out | apply below_alloc | apply pw_below_drewN | apply below_drew1) | exact HB.out)) hb)
  clear HB HS HO_row9 HO_row12 HO_row15 HO_row19 HO_row22 HO_row25 HO_row28 HO_row32 HO_row37 HO_row42 HO_row47 HO_row68 HO_row71 HO_row74 hb ho0
  have HO_row9 := n0_
  have HO_row12 := n1_
  have HO_row15 := n2_
  have HO_row19 := n3_
  have HO_row22 := n4_
  have HO_row25 := n5_
  have HO_row28 := n6_
  have HO_row32 := n7_
  have HO_row37 := n8_
  have HO_row42 := n9_
  have HO_row47 := n10_
  have HO_row68 := n11_
  have HO_row71 := n12_
  have HO_row74 := n13_
  have HO_row78 := n14_
  have HS := n15_
  have M28 := n16_
  have HB := n17_
  clear n0_ n1_ n2_ n3_ n4_ n5_ n6_ n7_ n8_ n9_ n10_ n11_ n12_ n13_ n14_ n15_ n16_ n17_
  obtain ⟨A_row78, c_row78, rfl⟩ := Kd.R_slice HO_row78.out
  go_wp2_with fail
  refine (laws_eqStringS.calls k _ _ t75 _ _ t16 true _ (by exact (Kd.R_reads' (by (with_reducible repeat (first | apply Kd.R_alloc | apply Kd.R_drewN | apply Kd.R_drew)); exact HO_row78.out)).2.2) (by exact (Kd.R_reads' HO_row78.out).2.1) (by exact (Kd.R_reads' (by (with_reducible repeat (first | apply Kd.R_alloc | apply Kd.R_drewN | apply Kd.R_drew)); exact HO_row19.out)).2.2) (by exact (Kd.R_reads' HO_row19.out).2.1) Q80.out).mono ?_
  rintro e w29 ⟨rfl, hb⟩
  replace hb := hb.below
  have n0_ := Aside0.mk (Kd.R_below (by (with_reducible repeat (first | apply Kd.R_alloc | apply Kd.R_drewN | apply Kd.R_drew)); exact HO_row9.out) hb)
  have n1_ := Aside0.mk (Kd.R_below (by (with_reducible repeat (first | apply Kd.R_alloc | apply Kd.R_drewN | apply Kd.R_drew)); exact HO_row12.out) hb)
  have n2_ := Aside0.mk (Kd.R_below (by (with_reducible repeat (first | apply Kd.R_alloc | apply Kd.R_drewN | apply Kd.R_drew)); exact HO_row15.out) hb)
  have n3_ := Aside0.mk (Kd.R_below (by (with_reducible repeat (first | apply Kd.R_alloc | apply Kd.R_drewN | apply Kd.R_drew)); exact HO_row19.out) hb)
  have n4_ := Aside0.mk (Kd.R_below (by (with_reducible repeat (first | apply Kd.R_alloc | apply Kd.R_drewN | apply Kd.R_drew)); exact HO_row22.out) hb)
  have n5_ := Aside0.mk (Kd.R_below (by (with_reducible repeat (first | apply Kd.R_alloc | apply Kd.R_drewN | apply Kd.R_drew)); exact HO_row25.out) hb)
  have n6_ := Aside0.mk (Kd.R_below (by (with_reducible repeat (first | apply Kd.R_alloc | apply Kd.R_drewN | apply Kd.R_drew)); exact HO_row28.out) hb)
  have n7_ := Aside0.mk (Kd.R_below (by (with_reducible repeat (first | apply Kd.R_alloc | apply Kd.R_drewN | apply Kd.R_drew)); exact HO_row32.out) hb)
  have n8_ := Aside0.mk (Kd.R_below (by (with_reducible repeat (first | apply Kd.R_alloc | apply Kd.R_drewN | apply Kd.R_drew)); exact HO_row37.out) hb)
  have n9_ := Aside0.mk (Kd.R_below (by (with_reducible repeat (first | apply Kd.R_alloc | apply Kd.R_drewN | apply Kd.R_drew)); exact HO_row42.out) hb)
  have n10_ := Aside0.mk (Kd.R_below (by (with_reducible repeat (first | apply Kd.R_alloc | apply Kd.R_drewN | apply Kd.R_drew)); exact HO_row47.out) hb)
  have n11_ := Aside0.mk (Kd.R_below (by (with_reducible repeat (first | apply Kd.R_alloc | apply Kd.R_drewN | apply Kd.R_drew)); exact HO_row68.out) hb)
  have n12_ := Aside0.mk (Kd.R_below (by (with_reducible repeat (first | apply Kd.R_alloc | apply Kd.R_drewN | apply Kd.R_drew)); exact HO_row71.out) hb)
  have n13_ := Aside0.mk (Kd.R_below (by (with_reducible repeat (first | apply Kd.R_alloc | apply Kd.R_drewN | apply Kd.R_drew)); exact HO_row74.out) hb)
  have n14_ := Aside0.mk (Kd.R_below (by (with_reducible repeat (first | apply Kd.R_alloc | apply Kd.R_drewN | apply Kd.R_drew)); exact HO_row78.out) hb)
  have n15_ := Aside0.mk (Nat.le_trans (by repeat (first | (with_reducible first | exact HS.out | apply sz_alloc | apply sz_drewN | apply sz_drew) | exact HS.out)) hb.size)
  have n16_ := Aside0.mk (below_step (by repeat (first | (with_reducible first | exact HB.out | apply below_alloc | apply pw_below_drewN | apply below_drew1) | exact HB.out)) hb)
  clear HB HS HO_row9 HO_row12 HO_row15 HO_row19 HO_row22 HO_row25 HO_row28 HO_row32 HO_row37 HO_row42 HO_row47 HO_row68 HO_row71 HO_row74 HO_row78 hb
  have HO_row9 := n0_
  have HO_row12 := n1_
  have HO_row15 := n2_
  have HO_row19 := n3_
  have HO_row22 := n4_
  have HO_row25 := n5_
  have HO_row28 := n6_
  have HO_row32 := n7_
  have HO_row37 := n8_
  have HO_row42 := n9_
  have HO_row47 := n10_
  have HO_row68 := n11_
  have HO_row71 := n12_
  have HO_row74 := n13_
  have HO_row78 := n14_
  have HS := n15_
  have HB := n16_
  clear n0_ n1_ n2_ n3_ n4_ n5_ n6_ n7_ n8_ n9_ n10_ n11_ n12_ n13_ n14_ n15_ n16_
  go_wp2_with fail
  refine calls_of_args (args' := #[.slice _ t62.length _, _]) (by rw [← LN_row32.out]) ?_
  refine (laws_heldStringS.calls k _ _ t62 1 t81 _ (by exact (Kd.R_reads' (by (with_reducible repeat (first | apply Kd.R_alloc | apply Kd.R_drewN | apply Kd.R_drew)); exact HO_row32.out)).2.2) (by rw [← LN_row32.out]; exact (Kd.R_reads' HO_row32.out).2.1) Q82.out).mono ?_
  rintro e w30 ⟨rfl, hb⟩
  have n0_ := Aside0.mk (Kd.R_below (by (with_reducible repeat (first | apply Kd.R_alloc | apply Kd.R_drewN | apply Kd.R_drew)); exact HO_row9.out) hb)
  have n1_ := Aside0.mk (Kd.R_below (by (with_reducible repeat (first | apply Kd.R_alloc | apply Kd.R_drewN | apply Kd.R_drew)); exact HO_row12.out) hb)
  have n2_ := Aside0.mk (Kd.R_below (by (with_reducible repeat (first | apply Kd.R_alloc | apply Kd.R_drewN | apply Kd.R_drew)); exact HO_row15.out) hb)
  have n3_ := Aside0.mk (Kd.R_below (by (with_reducible repeat (first | apply Kd.R_alloc | apply Kd.R_drewN | apply Kd.R_drew)); exact HO_row19.out) hb)
  have n4_ := Aside0.mk (Kd.R_below (by (with_reducible repeat (first | apply Kd.R_alloc | apply Kd.R_drewN | apply Kd.R_drew)); exact HO_row22.out) hb)
  have n5_ := Aside0.mk (Kd.R_below (by (with_reducible repeat (first | apply Kd.R_alloc | apply Kd.R_drewN | apply Kd.R_drew)); exact HO_row25.out) hb)
  have n6_ := Aside0.mk (Kd.R_below (by (with_reducible repeat (first | apply Kd.R_alloc | apply Kd.R_drewN | apply Kd.R_drew)); exact HO_row28.out) hb)
  have n7_ := Aside0.mk (Kd.R_below (by (with_reducible repeat (first | apply Kd.R_alloc | apply Kd.R_drewN | apply Kd.R_drew)); exact HO_row32.out) hb)
  have n8_ := Aside0.mk (Kd.R_below (by (with_reducible repeat (first | apply Kd.R_alloc | apply Kd.R_drewN | apply Kd.R_drew)); exact HO_row37.out) hb)
  have n9_ := Aside0.mk (Kd.R_below (by (with_reducible repeat (first | apply Kd.R_alloc | apply Kd.R_drewN | apply Kd.R_drew)); exact HO_row42.out) hb)
  have n10_ := Aside0.mk (Kd.R_below (by (with_reducible repeat (first | apply Kd.R_alloc | apply Kd.R_drewN | apply Kd.R_drew)); exact HO_row47.out) hb)
  have n11_ := Aside0.mk (Kd.R_below (by (with_reducible repeat (first | apply Kd.R_alloc | apply Kd.R_drewN | apply Kd.R_drew)); exact HO_row68.out) hb)
  have n12_ := Aside0.mk (Kd.R_below (by (with_reducible repeat (first | apply Kd.R_alloc | apply Kd.R_drewN | apply Kd.R_drew)); exact HO_row71.out) hb)
  have n13_ := Aside0.mk (Kd.R_below (by (with_reducible repeat (first | apply Kd.R_alloc | apply Kd.R_drewN | apply Kd.R_drew)); exact HO_row74.out) hb)
  have n14_ := Aside0.mk (Kd.R_below (by (with_reducible repeat (first | apply Kd.R_alloc | apply Kd.R_drewN | apply Kd.R_drew)); exact HO_row78.out) hb)
  have n15_ := Aside0.mk (Nat.le_trans (by repeat (first | (with_reducible first | exact HS.out | apply sz_alloc | apply sz_drewN | apply sz_drew) | exact HS.out)) hb.size)
  have n16_ := Aside0.mk (below_step (by repeat (first | (with_reducible first | exact HB.out | apply below_alloc | apply pw_below_drewN | apply below_drew1) | exact HB.out)) hb)
  clear HB HS HO_row9 HO_row12 HO_row15 HO_row19 HO_row22 HO_row25 HO_row28 HO_row32 HO_row37 HO_row42 HO_row47 HO_row68 HO_row71 HO_row74 HO_row78 hb
  have HO_row9 := n0_
  have HO_row12 := n1_
  have HO_row15 := n2_
  have HO_row19 := n3_
  have HO_row22 := n4_
  have HO_row25 := n5_
  have HO_row28 := n6_
  have HO_row32 := n7_
  have HO_row37 := n8_
  have HO_row42 := n9_
  have HO_row47 := n10_
  have HO_row68 := n11_
  have HO_row71 := n12_
  have HO_row74 := n13_
  have HO_row78 := n14_
  have HS := n15_
  have HB := n16_
  clear n0_ n1_ n2_ n3_ n4_ n5_ n6_ n7_ n8_ n9_ n10_ n11_ n12_ n13_ n14_ n15_ n16_
  go_wp2_with fail
  go_ret
  exact ⟨rfl, (by repeat (first | (with_reducible first | exact HB.out | apply below_alloc | apply pw_below_drewN | apply below_drew1) | exact HB.out))⟩
theorem laws_FnExactConflictsOf.calls (k : Nat) (A0 : Option Addr) (c0 : Nat) (l0 : List S74) (A1 : Option Addr) (c1 : Nat) (l1 : List S74) (A2 : Option Addr) (c2 : Nat) (l2 : List S74) (r : Bool) (w : World) (hr0 : Kd.C k74 w A0 l0.length l0) (hc0 : l0.length ≤ c0) (hr1 : Kd.C k74 w A1 l1.length l1) (hc1 : l1.length ≤ c1) (hr2 : Kd.C k74 w A2 l2.length l2) (hc2 : l2.length ≤ c2) (h : laws_FnExactConflictsOf.f k l0 l1 l2 = some r) :
    Calls Try.prog 4 #[.slice A0 l0.length c0, .slice A1 l1.length c1, .slice A2 l2.length c2] w fun e w' => e = .returned (.bool r) ∧ Below w.heap.size w w' := by
  unfold laws_FnExactConflictsOf.f at h
  obtain ⟨t1, Q2, h⟩ := Option.bind_eq_some_iff.mp h
  by_cases e1 : t1 < 0
  · rw [if_pos e1] at h; obtain rfl := Option.some.inj h; exact laws_FnExactConflictsOf.early0 k A0 c0 l0 A1 c1 l1 A2 c2 l2 w hr0 hc0 hr1 hc1 hr2 hc2 t1 ⟨Q2⟩ e1
  rw [if_neg e1] at h
  obtain ⟨t3, Q4, h⟩ := Option.bind_eq_some_iff.mp h
  by_cases e3 : t3 < 0
  · rw [if_pos e3] at h; obtain rfl := Option.some.inj h; exact laws_FnExactConflictsOf.early1 k A0 c0 l0 A1 c1 l1 A2 c2 l2 w hr0 hc0 hr1 hc1 hr2 hc2 t1 t3 ⟨Q2⟩ e1 ⟨Q4⟩ e3
  rw [if_neg e3] at h
  obtain ⟨t5, Q6, h⟩ := Option.bind_eq_some_iff.mp h
  by_cases e5 : t5 < 0
  · rw [if_pos e5] at h; obtain rfl := Option.some.inj h; exact laws_FnExactConflictsOf.early2 k A0 c0 l0 A1 c1 l1 A2 c2 l2 w hr0 hc0 hr1 hc1 hr2 hc2 t1 t3 t5 ⟨Q2⟩ e1 ⟨Q4⟩ e3 ⟨Q6⟩ e5
  rw [if_neg e5] at h
  unfold laws_FnExactConflictsOf.g at h
  obtain ⟨t7, Q8, h⟩ := Option.bind_eq_some_iff.mp h
  obtain ⟨t10, Q11, h⟩ := Option.bind_eq_some_iff.mp h
  obtain ⟨t13, Q14, h⟩ := Option.bind_eq_some_iff.mp h
  obtain ⟨⟨t16, t17⟩, Q18, h⟩ := Option.bind_eq_some_iff.mp h
  dsimp only at h
  obtain ⟨t20, Q21, h⟩ := Option.bind_eq_some_iff.mp h
  obtain ⟨t23, Q24, h⟩ := Option.bind_eq_some_iff.mp h
  obtain ⟨t26, Q27, h⟩ := Option.bind_eq_some_iff.mp h
  obtain ⟨⟨t29, t30⟩, Q31, h⟩ := Option.bind_eq_some_iff.mp h
  dsimp only at h
  by_cases Q34 : laws_eqStringS.f k t29 t16 = some true
  rotate_left
  · rw [if_neg Q34] at h; exact absurd h (by simp)
  rw [if_pos Q34] at h
  by_cases e15 : t30 = t17
  rotate_left
  · rw [if_neg e15] at h; exact absurd h (by simp)
  rw [if_pos e15] at h
  obtain ⟨t35, Q36, h⟩ := Option.bind_eq_some_iff.mp h
  by_cases Q39 : laws_eqSettingS.f k t20 t35 = some true
  rotate_left
  · rw [if_neg Q39] at h; exact absurd h (by simp)
  rw [if_pos Q39] at h
  obtain ⟨t40, Q41, h⟩ := Option.bind_eq_some_iff.mp h
  by_cases Q44 : laws_eqSettingS.f k t23 t40 = some true
  rotate_left
  · rw [if_neg Q44] at h; exact absurd h (by simp)
  rw [if_pos Q44] at h
  obtain ⟨t45, Q46, h⟩ := Option.bind_eq_some_iff.mp h
  by_cases Q49 : laws_eqSettingS.f k t26 t45 = some true
  rotate_left
  · rw [if_neg Q49] at h; exact absurd h (by simp)
  rw [if_pos Q49] at h
  obtain ⟨⟨t50, t51⟩, Q52, h⟩ := Option.bind_eq_some_iff.mp h
  dsimp only at h
  obtain ⟨⟨t53, t54⟩, Q55, h⟩ := Option.bind_eq_some_iff.mp h
  dsimp only at h
  obtain ⟨⟨t56, t57⟩, Q58, h⟩ := Option.bind_eq_some_iff.mp h
  dsimp only at h
  by_cases e25 : t56 < 0
  · rw [if_pos e25] at h; exact absurd h (by simp)
  rw [if_neg e25] at h
  by_cases Q60 : laws_eqStringS.f k t29 t16 = some true
  rotate_left
  · rw [if_neg Q60] at h; exact absurd h (by simp)
  rw [if_pos Q60] at h
  by_cases e27 : t30 = t17
  rotate_left
  · rw [if_neg e27] at h; exact absurd h (by simp)
  rw [if_pos e27] at h
  obtain ⟨⟨t61, t62⟩, Q63, h⟩ := Option.bind_eq_some_iff.mp h
  dsimp only at h
  obtain ⟨t64, Q65, h⟩ := Option.bind_eq_some_iff.mp h
  by_cases e30 : t64 < 0
  · rw [if_pos e30] at h; exact absurd h (by simp)
  rw [if_neg e30] at h
  by_cases e31 : t64 = t61
  rotate_left
  · rw [if_neg e31] at h; exact absurd h (by simp)
  rw [if_pos e31] at h
  obtain ⟨t66, Q67, h⟩ := Option.bind_eq_some_iff.mp h
  obtain ⟨t69, Q70, h⟩ := Option.bind_eq_some_iff.mp h
  obtain ⟨t72, Q73, h⟩ := Option.bind_eq_some_iff.mp h
  obtain ⟨⟨t75, t76⟩, Q77, h⟩ := Option.bind_eq_some_iff.mp h
  dsimp only at h
  by_cases Q80 : laws_eqStringS.f k t75 t16 = some true
  rotate_left
  · rw [if_neg Q80] at h; exact absurd h (by simp)
  rw [if_pos Q80] at h
  by_cases e37 : t76 = t17
  rotate_left
  · rw [if_neg e37] at h; exact absurd h (by simp)
  rw [if_pos e37] at h
  obtain ⟨t81, Q82, h⟩ := Option.bind_eq_some_iff.mp h
  by_cases e39 : t81 < 0
  · rw [if_pos e39] at h; exact absurd h (by simp)
  rw [if_neg e39] at h
  by_cases e40 : t81 = t61
  rotate_left
  · rw [if_neg e40] at h; exact absurd h (by simp)
  rw [if_pos e40] at h
  obtain rfl := Option.some.inj h
  exact laws_FnExactConflictsOf.main k A0 c0 l0 A1 c1 l1 A2 c2 l2 w hr0 hc0 hr1 hc1 hr2 hc2 t1 t3 t5 t7 t10 t13 t16 t17 t20 t23 t26 t29 t30 t35 t40 t45 t50 t51 t53 t54 t56 t57 t61 t62 t64 t66 t69 t72 t75 t76 t81 ⟨Q2⟩ e1 ⟨Q4⟩ e3 ⟨Q6⟩ e5 ⟨Q8⟩ ⟨Q11⟩ ⟨Q14⟩ ⟨Q18⟩ ⟨Q21⟩ ⟨Q24⟩ ⟨Q27⟩ ⟨Q31⟩ ⟨Q34⟩ e15 ⟨Q36⟩ ⟨Q39⟩ ⟨Q41⟩ ⟨Q44⟩ ⟨Q46⟩ ⟨Q49⟩ ⟨Q52⟩ ⟨Q55⟩ ⟨Q58⟩ e25 ⟨Q60⟩ e27 ⟨Q63⟩ ⟨Q65⟩ e30 e31 ⟨Q67⟩ ⟨Q70⟩ ⟨Q73⟩ ⟨Q77⟩ ⟨Q80⟩ e37 ⟨Q82⟩ e39 e40

end Go.Proofs.Ytocegmkifmdlcaa.P

namespace Go.Proofs.YtocegmkifmdlcaaO
open Go.RowKit Go.WideShapes Go.Proofs.YtocegmkifmdlcaaW.PrintWords

theorem addr_add_add (a : Addr) (m i : Nat) : (a.add m).add i = a.add (m + i) := by
  unfold Addr.add
  by_cases h1 : m = 0
  · subst h1; simp
  · by_cases h2 : i = 0
    · subst h2; simp [h1]
    · have h3 : ¬ (m + i = 0) := by omega
      simp [h1, h2, Nat.add_assoc]

/-- Whatever the claim reads at this type is a value of this kind, of which G holds. -/
def Opens {α : Type} (P : Program) (t : TypeId) (d : Kd α) (G : α → Prop) : Prop :=
  ∀ (H : Type) (enc : TypeId × Value → H) (w : World) (base : Nat) (spare : Nat → Bool) (held : Bool) (fuel : Nat) (cs : List Value) (x : DataW H × List MemPlace),
    DataW.trod enc P w base spare held fuel t cs = some x → ∃ a : α, d.K w a cs ∧ G a

section
variable {α β : Type} {P : Program} {t e : TypeId} {d : Kd α} {G : α → Prop}

theorem opens_int {k : IntKind} (ht : P.underlying t = some (.int k)) : Opens P t (Kd.int k) (fun n => (Lit.int k n).wf = true) := by
  intro H enc w base spare held fuel cs x h
  obtain ⟨n, rfl, _, hw⟩ := DataW.trod_int ht h
  exact ⟨n, rfl, hw⟩
theorem opens_string (ht : P.underlying t = some .string) : Opens P t Kd.string (fun s => s.size ≤ maxLen) := by
  intro H enc w base spare held fuel cs x h
  obtain ⟨n, rfl, _, hs⟩ := DataW.trod_string ht h
  exact ⟨n, rfl, hs⟩

theorem list_of_each {p : Nat → α → Prop} : ∀ n : Nat, (∀ i, i < n → ∃ a, p i a) → ∃ l : List α, l.length = n ∧ ∀ i a, l[i]? = some a → p i a
  | 0, _ => ⟨[], rfl, fun i a h => by simp at h⟩
  | n + 1, h => by
    obtain ⟨l, hl, hp⟩ := list_of_each n (fun i hi => h i (by omega))
    obtain ⟨a, ha⟩ := h n (by omega)
    refine ⟨l ++ [a], by simp [hl], fun i b hb => ?_⟩
    by_cases hi : i < l.length
    · rw [List.getElem?_append_left hi] at hb
      exact hp i b hb
    · rw [List.getElem?_append_right (by omega)] at hb
      have h0 : i - l.length = 0 := by
        have := (List.getElem?_eq_some_iff.1 hb).1
        simp at this
        omega
      rw [h0] at hb
      have hi2 : i = n := by omega
      subst hi2
      simp at hb
      subst hb
      exact ha

theorem opens_slice (ht : P.underlying t = some (.slice e)) (hc : P.cellsOf e = d.sz) (hd : Opens P e d G) : Opens P t (Kd.slice e d) (fun l => l.length ≤ maxLen ∧ ∀ x ∈ l, G x) := by
  intro H enc w base spare held fuel cs x h
  rcases DataW.trod_slice ht h with ⟨rfl, _⟩ | ⟨a, len, cap, elems, rest, n, _, rfl, _, hb, hl, hm, hlen, hel, _, _⟩
  · exact ⟨[], ⟨none, 0, rfl, Nat.le_refl _, rfl, by simp, fun hp => by simp at hp⟩, by simp, by simp⟩
  · have each : ∀ i, i < len → ∃ x : α, G x ∧ ∃ c, c.length = d.sz ∧ d.K w x c ∧ ∀ j u, c[j]? = some u → w.cell? (a.add (i * d.sz + j)) = some u := by
      intro i hi
      have h1 := hel i hi
      have h2 : ∃ y, elems[i]? = some y := ⟨elems[i]'(by omega), List.getElem?_eq_getElem (by omega)⟩
      obtain ⟨y, hy⟩ := h2
      rw [hy, Option.bind_eq_some_iff] at h1
      obtain ⟨c, hcs, hy'⟩ := h1
      obtain ⟨x, hK, hG⟩ := hd H enc w base spare held n c y hy'
      refine ⟨x, hG, c, d.K_len hK, hK, fun j u hu => ?_⟩
      have hx := World.cells?_some hcs
      have hj : j < P.cellsOf e := by
        have := (List.getElem?_eq_some_iff.1 hu).1
        have := hx.2.1
        omega
      have hz := hx.2.2 j hj
      rw [addr_add_add, hc, hu] at hz
      exact hz
    obtain ⟨l, hll, hp⟩ := list_of_each len each
    refine ⟨l, ⟨some a, cap, by rw [hll], by omega, rfl, by simp only [maxLen] at hm; omega, fun _ => ⟨a, rfl, fun j p hj => ?_⟩⟩, by simp only [maxLen] at hm ⊢; omega, fun x hx => ?_⟩
    · exact (hp j p hj).2
    · obtain ⟨i, hi, hi2⟩ := List.getElem_of_mem hx
      exact (hp i x (by rw [List.getElem?_eq_getElem hi, hi2])).1

def OpensFs {α : Type} (P : Program) (fs : List Field) (o : Nat) (d : Kd α) (G : α → Prop) : Prop :=
  ∀ (H : Type) (enc : TypeId × Value → H) (w : World) (base : Nat) (spare : Nat → Bool) (held : Bool) (fuel : Nat) (cs : List Value),
    cs.length = o + d.sz → (∀ (i : Nat) (f : Field), fs[i]? = some f → ∃ x, DataW.trod enc P w base spare held fuel f.type ((cs.drop f.offset).take (P.cellsOf f.type)) = some x) → ∃ a : α, d.K w a (cs.drop o) ∧ G a
theorem opensFs_last {f : Field} {o : Nat} (ho : f.offset = o) (hc : P.cellsOf f.type = d.sz) (h : Opens P f.type d G) : OpensFs P [f] o d G := by
  intro H enc w base spare held fuel cs hl hx
  obtain ⟨x, hx⟩ := hx 0 f rfl
  rw [ho, hc, List.take_of_length_le (by rw [List.length_drop]; omega)] at hx
  exact h H enc w base spare held fuel _ x hx
theorem opensFs_cons {f : Field} {fs : List Field} {o : Nat} {d2 : Kd β} {G2 : β → Prop} (ho : f.offset = o) (hc : P.cellsOf f.type = d.sz) (h : Opens P f.type d G) (h2 : OpensFs P fs (o + d.sz) d2 G2) :
    OpensFs P (f :: fs) o (Kd.pair d d2) (fun x => G x.1 ∧ G2 x.2) := by
  intro H enc w base spare held fuel cs hl hx
  have hl' : cs.length = o + (d.sz + d2.sz) := hl
  obtain ⟨x, hx0⟩ := hx 0 f rfl
  rw [ho, hc] at hx0
  obtain ⟨a, hK, hG⟩ := h H enc w base spare held fuel _ x hx0
  obtain ⟨b, hK2, hG2⟩ := h2 H enc w base spare held fuel cs (by omega) (fun i f2 hf => hx (i + 1) f2 (by simpa using hf))
  refine ⟨(a, b), ⟨_, _, ?_, hK, hK2⟩, hG, hG2⟩
  rw [← List.drop_drop]
  exact (List.take_append_drop d.sz (cs.drop o)).symm
theorem opens_struct {fs : Array Field} (ht : P.underlying t = some (.struct fs)) (hc : P.cellsOf t = d.sz) (h : OpensFs P fs.toList 0 d G) : Opens P t d G := by
  intro H enc w base spare held fuel cs x hx
  obtain ⟨xs, n, _, _, hl, hxl, hf⟩ := DataW.trod_struct ht hx
  have := h H enc w base spare held n cs (by omega) (fun i f hif => by
    have hif' : fs[i]? = some f := by simpa using hif
    have hi : i < xs.length := by
      rw [hxl]
      exact (Array.getElem?_eq_some_iff.1 hif').1
    exact ⟨xs[i], by rw [hf i f hif', List.getElem?_eq_getElem hi]⟩)
  simpa using this
theorem opens_iso (f : β → α) (g : α → β) (hfg : ∀ a, f (g a) = a) (h : Opens P t d G) : Opens P t (Kd.iso d f) (fun b => G (f b)) := by
  intro H enc w base spare held fuel cs x hx
  obtain ⟨a, hK, hG⟩ := h H enc w base spare held fuel cs x hx
  exact ⟨g a, by show d.K w (f (g a)) cs; rw [hfg]; exact hK, by show G (f (g a)); rw [hfg]; exact hG⟩
end
end Go.Proofs.YtocegmkifmdlcaaO

namespace Go.Proofs.Ytocegmkifmdlcaa
open Go.RowKit Go.Proofs.YtocegmkifmdlcaaO Go.Proofs.YtocegmkifmdlcaaW.PrintWords
def g74 (x : P.S74) : Prop := x.f0.size ≤ maxLen ∧ (Lit.int .i64 x.f1).wf = true
theorem open74 : Opens Try.prog 74 P.k74 g74 :=
  opens_iso (fun x : P.S74 => (x.f0, x.f1)) (fun a => ⟨a.1, a.2⟩) (fun _ => rfl) (opens_struct Try.underlying74 (by kernel_rfl) (opensFs_cons (by rfl) (by kernel_rfl) (opens_string Try.underlying9) (opensFs_last (by rfl) (by kernel_rfl) (opens_int Try.underlying2))))
end Go.Proofs.Ytocegmkifmdlcaa

namespace Go.Proofs.YtocegmkifmdlcaaL
open Go.RowKit Go.Proofs.YtocegmkifmdlcaaW.PrintWords

theorem wrap_id {x : Int} (h0 : -9223372036854775808 ≤ x) (h1 : x ≤ 9223372036854775807) : wrap64 x = x := by unfold wrap64; omega
theorem wrap_succ {i n : Nat} (h : i < n) (hn : n ≤ 4611686018427387904) : wrap64 ((i : Int) + 1) = ((i + 1 : Nat) : Int) := by
  rw [wrap_id (by omega) (by omega)]; omega
theorem lt_cast {i n : Nat} (h : i < n) : (i : Int) < (n : Int) := by omega
theorem nn_cast (i : Nat) : 0 ≤ (i : Int) := by omega
theorem nlt_cast (n : Nat) : ¬ ((n : Int) < (n : Int)) := by omega
theorem drop_cons {α : Type} {l : List α} {i : Nat} (h : i < l.length) : l.drop i = l[i] :: l.drop (i + 1) := List.drop_eq_getElem_cons h

/-- A loop that fills a list that was made, place by place. -/
theorem set_loop {α β : Type} (L : Nat → List β → Int → Option (List β)) (l : List α) (g : α → β) (B : Nat)
    (step : ∀ (k i : Nat) (hi : i < l.length) (acc : List β), acc.length = l.length → B ≤ k → L (k + 1) acc (i : Int) = L k (acc.set i (g l[i])) ((i + 1 : Nat) : Int))
    (stop : ∀ (k : Nat) (acc : List β), L (k + 1) acc (l.length : Int) = some acc) :
    ∀ (k : Nat) (acc : List β), B + l.length < k → acc.length = l.length → L k acc 0 = some (l.map g) := by
  have main : ∀ (d k i : Nat) (acc : List β), i + d = l.length → B + d < k → acc.length = l.length → L k acc (i : Int) = some (acc.take i ++ (l.drop i).map g) := by
    intro d
    induction d with
    | zero =>
      intro k i acc hi hk ha
      obtain ⟨k, rfl⟩ : ∃ m, k = m + 1 := ⟨k - 1, by omega⟩
      have : i = l.length := by omega
      subst this
      rw [stop k acc, List.drop_length, List.take_of_length_le (by omega)]
      simp
    | succ d ih =>
      intro k i acc hi hk ha
      obtain ⟨k, rfl⟩ : ∃ m, k = m + 1 := ⟨k - 1, by omega⟩
      have hlt : i < l.length := by omega
      rw [step k i hlt acc ha (by omega), ih k (i + 1) _ (by omega) (by omega) (by simpa using ha), drop_cons hlt]
      have h2 : (acc.set i (g l[i])).take (i + 1) = acc.take i ++ [g l[i]] := by
        rw [List.take_succ_eq_append_getElem (by simp; omega)]
        have h3 : (acc.set i (g l[i])).take i = acc.take i := by
          apply List.ext_getElem
          · simp
          · intro j h1 h2
            simp at h1
            simp [List.getElem_set_ne (show i ≠ j by omega)]
        rw [h3]
        simp
      rw [h2]
      simp only [List.append_assoc, List.singleton_append, List.map_cons]
  intro k acc hk ha
  have := main l.length k 0 acc (by omega) hk ha
  simpa using this

/-- A loop that compares two lists of one length, place by place. -/
theorem eq_loop {α : Type} [DecidableEq α] (L : Nat → Int → Option Bool) (a b : List α) (hab : a.length = b.length) (B : Nat)
    (step : ∀ (k i : Nat) (h : i < a.length) (h2 : i < b.length), B ≤ k → L (k + 1) (i : Int) = if a[i] = b[i] then L k ((i + 1 : Nat) : Int) else some false)
    (stop : ∀ (k : Nat), L (k + 1) (a.length : Int) = some true) :
    ∀ (k : Nat), B + a.length < k → L k 0 = some (decide (a = b)) := by
  have main : ∀ (d k i : Nat), i + d = a.length → B + d < k → L k (i : Int) = some (decide (a.drop i = b.drop i)) := by
    intro d
    induction d with
    | zero =>
      intro k i hi hk
      obtain ⟨k, rfl⟩ : ∃ m, k = m + 1 := ⟨k - 1, by omega⟩
      obtain rfl : i = a.length := by omega
      rw [stop k, List.drop_length, hab, List.drop_length]
      rfl
    | succ d ih =>
      intro k i hi hk
      obtain ⟨k, rfl⟩ : ∃ m, k = m + 1 := ⟨k - 1, by omega⟩
      have h1 : i < a.length := by omega
      have h2 : i < b.length := by omega
      rw [step k i h1 h2 (by omega), ih k (i + 1) (by omega) (by omega)]
      rw [show (decide (a.drop i = b.drop i)) = decide (a[i] = b[i] ∧ a.drop (i + 1) = b.drop (i + 1)) from by
        congr 1; rw [drop_cons h1, drop_cons h2, List.cons.injEq]]
      by_cases e : a[i] = b[i]
      · rw [if_pos e]; simp [e]
      · rw [if_neg e]; simp [e]
  intro k hk
  have := main a.length k 0 (by omega) hk
  simpa using this

/-- A loop that asks each index below n and stops at the first that says no. -/
theorem all_loop (L : Nat → Int → Option Bool) (n : Nat) (p : Nat → Bool) (fin : Bool) (B : Nat)
    (step : ∀ (k i : Nat), i < n → B ≤ k → L (k + 1) (i : Int) = if p i = true then L k ((i + 1 : Nat) : Int) else some false)
    (stop : ∀ (k : Nat), B ≤ k → L (k + 1) (n : Int) = some fin) :
    ∀ (k : Nat), B + n < k → L k 0 = some ((List.range n).all p && fin) := by
  have main : ∀ (d k i : Nat), i + d = n → B + d < k → L k (i : Int) = some ((List.range' i d).all p && fin) := by
    intro d
    induction d with
    | zero =>
      intro k i hi hk
      obtain ⟨k, rfl⟩ : ∃ m, k = m + 1 := ⟨k - 1, by omega⟩
      obtain rfl : i = n := by omega
      rw [stop k (by omega)]; simp
    | succ d ih =>
      intro k i hi hk
      obtain ⟨k, rfl⟩ : ∃ m, k = m + 1 := ⟨k - 1, by omega⟩
      rw [step k i (by omega) (by omega), List.range'_succ, List.all_cons]
      by_cases h : p i = true
      · rw [if_pos h, ih k (i + 1) (by omega) (by omega), h]; simp
      · rw [if_neg h]; simp [h]
  intro k hk
  have := main n k 0 (by omega) hk
  rw [List.range_eq_range']
  exact this

theorem pred_cast {i n : Nat} (h0 : 0 < i) (h : i < n) (hn : n ≤ 4611686018427387904) : wrap64 ((i : Int) - 1) = ((i - 1 : Nat) : Int) := by
  rw [wrap_id (by omega) (by omega)]; omega

theorem rdOf_get {α : Type} {z : α} {l : List α} {i : Nat} (h : i < l.length) : rdOf z l (i : Int) = l[i] := by
  simp [rdOf, List.getD_eq_getElem?_getD, List.getElem?_eq_getElem h]

/-- A list marked with rising numbers from m on (each element takes c x of them), and the number behind. -/
def mkl {α : Type} (g : α → Int → α) (c : α → Int) : List α → Int → List α
  | [], _ => []
  | x :: r, m => g x m :: mkl g c r (m + c x)
def mtot {α : Type} (c : α → Int) : List α → Int → Int
  | [], m => m
  | x :: r, m => mtot c r (m + c x)
theorem mtot_ge {α : Type} {c : α → Int} (hc : ∀ x, 0 ≤ c x) : ∀ (l : List α) (m : Int), m ≤ mtot c l m
  | [], m => by simp [mtot]
  | x :: r, m => by
    have := mtot_ge hc r (m + c x)
    have := hc x
    simp only [mtot]; omega
theorem mtot_const {α : Type} (n : Int) : ∀ (l : List α) (m : Int), mtot (fun _ => n) l m = m + n * l.length
  | [], m => by simp [mtot]
  | x :: r, m => by
    simp only [mtot, mtot_const n r, List.length_cons]
    rw [show ((r.length + 1 : Nat) : Int) = (r.length : Int) + 1 from by omega, Int.mul_add]
    omega
theorem mark_loop {α : Type} (L : Nat → List α → Int → Int → Option (Int × List α)) (g : α → Int → α) (c : α → Int) (M : Int) (B : Nat) (hc : ∀ x, 0 ≤ c x)
    (step : ∀ (k : Nat) (pre : List α) (x : α) (rest : List α) (m : Int), B ≤ k → pre.length < 4611686018427387904 → 0 ≤ m → m + c x ≤ M →
      L (k + 1) (pre ++ x :: rest) m (pre.length : Int) = L k (pre ++ g x m :: rest) (m + c x) ((pre.length + 1 : Nat) : Int))
    (stop : ∀ (k : Nat) (l : List α) (m : Int), L (k + 1) l m (l.length : Int) = some (m, l)) :
    ∀ (k : Nat) (l : List α) (m : Int), B + l.length < k → l.length ≤ 4611686018427387904 → 0 ≤ m → mtot c l m ≤ M → L k l m 0 = some (mtot c l m, mkl g c l m) := by
  have main : ∀ (rest : List α) (k : Nat) (pre : List α) (m : Int), B + rest.length < k → pre.length + rest.length ≤ 4611686018427387904 → 0 ≤ m → mtot c rest m ≤ M →
      L k (pre ++ rest) m (pre.length : Int) = some (mtot c rest m, pre ++ mkl g c rest m) := by
    intro rest
    induction rest with
    | nil =>
      intro k pre m hk _ _ _
      obtain ⟨k, rfl⟩ : ∃ m, k = m + 1 := ⟨k - 1, by omega⟩
      have := stop k pre m
      simpa [mtot, mkl] using this
    | cons x r ih =>
      intro k pre m hk hl hm hM
      obtain ⟨k, rfl⟩ : ∃ m, k = m + 1 := ⟨k - 1, by omega⟩
      simp only [List.length_cons] at hk hl
      have h1 := mtot_ge hc r (m + c x)
      have h2 := hc x
      simp only [mtot] at hM
      rw [step k pre x r m (by omega) (by omega) hm (by omega)]
      have h3 := ih k (pre ++ [g x m]) (m + c x) (by omega) (by simp; omega) (by omega) hM
      simpa [mtot, mkl, List.append_assoc] using h3
  intro k l m hk hl hm hM
  have := main l k [] m hk (by simpa using hl) hm hM
  simpa using this
theorem held_loop {α : Type} (L : Nat → Int → Int → Option Int) (g : α → Int → α) (c : α → Int) (M : Int) (B : Nat) (hc : ∀ x, 0 ≤ c x) (l' : List α)
    (step : ∀ (k : Nat) (pre : List α) (x : α) (rest : List α) (m : Int), l' = pre ++ g x m :: rest → B ≤ k → pre.length < 4611686018427387904 → 0 ≤ m → m + c x ≤ M →
      L (k + 1) m (pre.length : Int) = L k (m + c x) ((pre.length + 1 : Nat) : Int))
    (stop : ∀ (k : Nat) (m : Int), L (k + 1) m (l'.length : Int) = some m) :
    ∀ (k : Nat) (l : List α) (m : Int), l' = mkl g c l m → B + l.length < k → l.length ≤ 4611686018427387904 → 0 ≤ m → mtot c l m ≤ M → L k m 0 = some (mtot c l m) := by
  have main : ∀ (rest : List α) (k : Nat) (pre : List α) (m : Int), l' = pre ++ mkl g c rest m → B + rest.length < k → pre.length + rest.length ≤ 4611686018427387904 → 0 ≤ m → mtot c rest m ≤ M →
      L k m (pre.length : Int) = some (mtot c rest m) := by
    intro rest
    induction rest with
    | nil =>
      intro k pre m he hk _ _ _
      obtain ⟨k, rfl⟩ : ∃ m, k = m + 1 := ⟨k - 1, by omega⟩
      have := stop k m
      have e : l'.length = pre.length := by rw [he]; simp [mkl]
      rw [e] at this
      simpa [mtot] using this
    | cons x r ih =>
      intro k pre m he hk hl hm hM
      obtain ⟨k, rfl⟩ : ∃ m, k = m + 1 := ⟨k - 1, by omega⟩
      simp only [List.length_cons] at hk hl
      have h1 := mtot_ge hc r (m + c x)
      have h2 := hc x
      simp only [mtot] at hM
      rw [step k pre x (mkl g c r (m + c x)) m (by simpa [mkl] using he) (by omega) (by omega) hm (by omega)]
      have h3 := ih k (pre ++ [g x m]) (m + c x) (by simpa [mkl, List.append_assoc] using he) (by omega) (by simp; omega) (by omega) hM
      simpa [mtot] using h3
  intro k l m he hk hl hm hM
  have := main l k [] m (by simpa using he) hk (by simpa using hl) hm hM
  simpa using this
theorem rdOf_mid {α : Type} {z : α} {pre rest : List α} {x : α} : rdOf z (pre ++ x :: rest) (pre.length : Int) = x := by simp [rdOf]
theorem set_mid {α : Type} {pre rest : List α} {x v : α} : (pre ++ x :: rest).set ((pre.length : Int)).toNat v = pre ++ v :: rest := by simp

theorem bytes_eq {a b : ByteArray} : a.toList = b.toList ↔ a = b := by
  constructor
  · intro h
    have h2 : a.data.toList = b.data.toList := by
      have e : ∀ x : ByteArray, x.toList = x.data.toList := ByteArray.toList_eq
      rw [← e, ← e]; exact h
    cases a; cases b
    simp at h2
    rw [h2]
  · intro h; rw [h]
end Go.Proofs.YtocegmkifmdlcaaL

namespace Go.Proofs.Ytocegmkifmdlcaa.P
open Go.RowKit Go.Proofs.YtocegmkifmdlcaaW.PrintWords Go.Proofs.YtocegmkifmdlcaaL

def nameByte (c : Int) : Bool := (decide (97 ≤ c) && decide (c ≤ 122)) || (decide (48 ≤ c) && decide (c ≤ 57))
def nameB (s : ByteArray) : Bool := decide (1 ≤ s.size) && decide (s.size ≤ 10) && (decide (97 ≤ bt s 0) && decide (bt s 0 ≤ 122)) && (List.range s.size).all fun i => nameByte (bt s (i : Int))
theorem size_zero {s : ByteArray} : s.toList = ([] : List UInt8) ↔ s.size = 0 := by
  rw [ByteArray.toList_eq]
  constructor
  · intro h; have := congrArg List.length h; simpa using this
  · intro h
    apply List.eq_nil_of_length_eq_zero
    simpa using h
theorem l01Name_eq (s : ByteArray) {k : Nat} (hk : 20 ≤ k) : spec_l01Name.f k s = some (nameB s) := by
  obtain ⟨k, rfl⟩ : ∃ m, k = m + 1 := ⟨k - 1, by omega⟩
  unfold spec_l01Name.f nameB
  by_cases h0 : s.size = 0
  · rw [if_pos (size_zero.2 h0)]; simp [spec_l01Name.j0, h0]
  rw [if_neg (fun e => h0 (size_zero.1 e))]
  by_cases h1 : (s.size : Int) > 10
  · rw [if_pos h1]
    have : ¬ s.size ≤ 10 := by omega
    simp [spec_l01Name.j0, this]
  rw [if_neg h1, if_pos (by omega)]
  unfold spec_l01Small.f
  have h1' : s.size ≤ 10 := by omega
  have h0' : 1 ≤ s.size := by omega
  by_cases h2 : bt s 0 ≥ 97
  · rw [if_pos h2]; simp only [Option.bind_some, spec_l01Name.j0]
    by_cases h3 : bt s 0 ≤ 122
    · rw [if_neg (by simp [h3])]
      rw [all_loop (fun k i => spec_l01Name.l0 k s i) s.size (fun i => nameByte (bt s (i : Int))) true 1 (fun k i hi hB => ?_) (fun k _ => ?_) k (by omega)]
      · simp [h1', h0', h3, ge_iff_le.1 h2]
      · obtain ⟨k, rfl⟩ : ∃ m, k = m + 1 := ⟨k - 1, by omega⟩
        show spec_l01Name.l0 (k + 1 + 1) s (i : Int) = _
        rw [spec_l01Name.l0]
        rw [if_pos (by omega), if_pos (nn_cast i), wrap_succ hi (by omega)]
        unfold spec_l01Small.f spec_l01Digit.f nameByte
        by_cases e1 : bt s (i : Int) ≥ 97
        · rw [if_pos e1]
          by_cases e2 : bt s (i : Int) ≤ 122
          · simp [e2, ge_iff_le.1 e1]
          · have e3 : bt s (i : Int) ≥ 48 := by omega
            have e4 : ¬ bt s (i : Int) ≤ 57 := by omega
            simp [e2, e4, ge_iff_le.1 e3]
        · rw [if_neg e1]
          have e1' : ¬ 97 ≤ bt s (i : Int) := e1
          by_cases e2 : bt s (i : Int) ≥ 48
          · rw [if_pos e2]
            by_cases e3 : bt s (i : Int) ≤ 57
            · simp [e3, ge_iff_le.1 e2]
            · simp [e3, e1']
          · rw [if_neg e2]
            have e2' : ¬ 48 ≤ bt s (i : Int) := e2
            simp [e1', e2']
      · show spec_l01Name.l0 (_ + 1) s (s.size : Int) = _
        rw [spec_l01Name.l0, if_neg (nlt_cast _)]
    · rw [if_pos (by simp [h3])]; simp [h3]
  · rw [if_neg h2]; simp only [Option.bind_some, spec_l01Name.j0]
    have h2' : ¬ 97 ≤ bt s 0 := h2
    rw [if_pos (by rfl)]; simp [h2']

theorem IsName_eq (s : ByteArray) {k : Nat} (hk : 20 ≤ k) : impl_IsName.f k s = some (nameB s) := by
  unfold impl_IsName.f nameB
  by_cases h0 : (s.size : Int) < 1
  · rw [if_pos h0]
    have : ¬ 1 ≤ s.size := by omega
    simp [this]
  rw [if_neg h0]
  by_cases h1 : (s.size : Int) > 10
  · rw [if_pos h1]
    have : ¬ s.size ≤ 10 := by omega
    simp [this]
  rw [if_neg h1, if_pos (by omega)]
  have h1' : s.size ≤ 10 := by omega
  have h0' : 1 ≤ s.size := by omega
  by_cases h2 : bt s 0 < 97
  · rw [if_pos h2]
    have h2' : ¬ 97 ≤ bt s 0 := by omega
    simp [h2']
  rw [if_neg h2]
  by_cases h3 : bt s 0 > 122
  · rw [if_pos h3]
    have h3' : ¬ bt s 0 ≤ 122 := by omega
    simp [h3']
  rw [if_neg h3]
  have h2' : 97 ≤ bt s 0 := by omega
  have h3' : bt s 0 ≤ 122 := by omega
  unfold impl_onlyNameBytes.f
  rw [all_loop (fun k i => impl_onlyNameBytes.l0 k s (s.size : Int) i) s.size (fun i => nameByte (bt s (i : Int))) true 0 (fun k i hi hB => ?_) (fun k _ => ?_) k (by omega)]
  · simp [h1', h0', h3', h2']
  · show impl_onlyNameBytes.l0 (k + 1) s (s.size : Int) (i : Int) = _
    rw [impl_onlyNameBytes.l0]
    rw [if_pos (lt_cast hi), if_pos (nn_cast i), if_pos (lt_cast hi), wrap_succ hi (by omega)]
    unfold nameByte
    repeat' split
    all_goals first | rfl | (exfalso; simp_all; done) | (exfalso; simp_all; omega)
  · show impl_onlyNameBytes.l0 (k + 1) s (s.size : Int) (s.size : Int) = _
    rw [impl_onlyNameBytes.l0, if_neg (nlt_cast _)]

theorem in_eq (a b c : Int) : spec_l00In.f a b c = some (decide (b ≤ a) && decide (a ≤ c)) := by
  unfold spec_l00In.f
  by_cases h : a ≥ b
  · rw [if_pos h]; simp [ge_iff_le.1 h]
  · rw [if_neg h]
    have h' : ¬ b ≤ a := h
    simp [h']
theorem within_eq (a b c : Int) : impl_within.f a b c = some (decide (b ≤ a) && decide (a ≤ c)) := by
  unfold impl_within.f
  by_cases h : a ≥ b
  · rw [if_pos h]; simp [ge_iff_le.1 h]
  · rw [if_neg h]
    have h' : ¬ b ≤ a := h
    simp [h']
end Go.Proofs.Ytocegmkifmdlcaa.P

namespace Go.Proofs.Ytocegmkifmdlcaa.P
open Go.RowKit Go.Proofs.YtocegmkifmdlcaaW.PrintWords Go.Proofs.YtocegmkifmdlcaaW.PrintLast Go.Proofs.YtocegmkifmdlcaaW.PrintMore
attribute [local go_sem] max2_int min2_int max_two min_two max_three min_three max_four min_four str_leq str_gtr str_geq
set_option linter.unusedVariables false
set_option linter.unusedSimpArgs false

def laws_heldSettingS.l0 : Nat → List (S80) → Int → Int → Option (Int)
  | 0, _, _, _ => none
  | k + 1, x0, x1, x5 => if x5 < (x0.length : Int) then (if 0 ≤ x5 then ((laws_markText.f k x1).bind fun t102 => (if ((rd_T80 x0 x5).f0).toList = t102.toList then (if ((rd_T80 x0 x5).f1) = (wrap64 (x1 + 1)) then (laws_heldSettingS.l0 k x0 (wrap64 ((wrap64 (x1 + 1)) + 1)) (wrap64 (x5 + 1))) else (some (-1))) else (some (-1)))) else (none)) else (some x1)
def laws_heldSettingS.f (k : Nat) (l0 : List (S80)) (a1 : Int) : Option (Int) := laws_heldSettingS.l0 k l0 a1 0
end Go.Proofs.Ytocegmkifmdlcaa.P

namespace Go.Proofs.Ytocegmkifmdlcaa.P
open Go.RowKit Go.Proofs.YtocegmkifmdlcaaW.PrintWords Go.Proofs.YtocegmkifmdlcaaL
set_option linter.unusedVariables false
set_option linter.unusedSimpArgs false

theorem eqStringS_eq {a b : List ByteArray} (hl : a.length ≤ 1048576) {k : Nat} (hk : 1048600 ≤ k) : laws_eqStringS.f k a b = some (decide (a = b)) := by
  unfold laws_eqStringS.f
  by_cases h : a.length = b.length
  · rw [if_pos (by omega)]
    refine eq_loop (fun k i => laws_eqStringS.l0 k a b i) a b h 0 (fun k i h1 h2 _ => ?_) (fun k => ?_) k (by omega)
    · simp only [laws_eqStringS.l0]
      rw [if_pos (lt_cast h1), if_pos (nn_cast i), if_pos (lt_cast h2), rdOf_get h1, rdOf_get h2, wrap_succ h1 (by omega)]
      by_cases e0 : a[i].toList = b[i].toList
      · rw [if_pos e0, if_pos (bytes_eq.1 e0)]
      · rw [if_neg e0, if_neg (fun e => e0 (bytes_eq.2 e))]
    · simp only [laws_eqStringS.l0]
      rw [if_neg (nlt_cast _)]
  · rw [if_neg (by omega)]
    have : a ≠ b := fun e => h (by rw [e])
    simp [this]
theorem ext_iAnswer {a b : S125} : a = b ↔ a.f0.toList = b.f0.toList ∧ a.f1.toList = b.f1.toList ∧ a.f2 = b.f2 := by
  simp only [bytes_eq]; cases a; cases b; simp
instance : DecidableEq S125 := fun _ _ => decidable_of_iff _ ext_iAnswer.symm
-- Change: fields of other kinds
def cSetting (x : S74) : S80 := ⟨x.f0, x.f1⟩
def smSetting (x : S74) : Prop := x.f0.size ≤ 1048576
theorem rd_lSetting {l : List S74} {i : Nat} (h : i < l.length) : rd_T74 l (i : Int) = l[i] := by
  simp [rd_T74, List.getD_eq_getElem?_getD, List.getElem?_eq_getElem h]
theorem rd_iSetting {l : List S80} {i : Nat} (h : i < l.length) : rd_T80 l (i : Int) = l[i] := by
  simp [rd_T80, List.getD_eq_getElem?_getD, List.getElem?_eq_getElem h]
theorem ext_iSetting {a b : S80} : a = b ↔ a.f0.toList = b.f0.toList ∧ a.f1 = b.f1 := by
  simp only [bytes_eq]; cases a; cases b; simp
instance : DecidableEq S80 := fun _ _ => decidable_of_iff _ ext_iSetting.symm
theorem szSetting_some {x : S74} (hg : Go.Proofs.Ytocegmkifmdlcaa.g74 x) {a : Int} (ha0 : 0 ≤ a) (ha : a ≤ 1048576) : ∃ r, laws_szSetting.f x.f0 x.f1 a = some r ∧ (r < 0 ∨ (0 ≤ r ∧ r ≤ a ∧ smSetting x)) := by
  unfold laws_szSetting.f smSetting
  have hs0 : x.f0.size ≤ 9223372036854775807 := by have := hg.1; simpa only [maxLen] using this
  rw [wrap_id (x := a - (x.f0.size : Int)) (by omega) (by omega)]
  by_cases h0 : a - (x.f0.size : Int) < 0
  · rw [if_pos h0]; exact ⟨-1, rfl, .inl (by omega)⟩
  rw [if_neg h0]
  exact ⟨_, rfl, .inr ⟨by omega, by omega, by omega⟩⟩
theorem szSettingS_some {l : List S74} (hl : l.length ≤ maxLen) (hg : ∀ y ∈ l, Go.Proofs.Ytocegmkifmdlcaa.g74 y) {a : Int} (ha0 : 0 ≤ a) (ha : a ≤ 1048576) {k : Nat} (hk : 1048600 ≤ k) : ∃ r, laws_szSettingS.f k l a = some r ∧ (r < 0 ∨ (0 ≤ r ∧ r ≤ a ∧ l.length ≤ 1048576 ∧ ∀ y ∈ l, smSetting y)) := by
  have hl' : l.length ≤ 9223372036854775807 := by simpa only [maxLen] using hl
  unfold laws_szSettingS.f
  rw [wrap_id (by omega) (by omega)]
  by_cases h0 : a - (l.length : Int) < 0
  · rw [if_pos h0]; exact ⟨-1, rfl, .inl (by omega)⟩
  · rw [if_neg h0]
    have main : ∀ (d k i : Nat) (s : Int), i + d = l.length → 0 + d < k → 0 ≤ s → s ≤ a - l.length → ∃ r, laws_szSettingS.l0 k l s (i : Int) = some r ∧ (r < 0 ∨ (0 ≤ r ∧ r ≤ s ∧ ∀ y ∈ l.drop i, smSetting y)) := by
      intro d
      induction d with
      | zero =>
        intro k i s hi hk h0 h1
        obtain ⟨k, rfl⟩ : ∃ m, k = m + 1 := ⟨k - 1, by omega⟩
        obtain rfl : i = l.length := by omega
        simp only [laws_szSettingS.l0]
        rw [if_neg (nlt_cast _)]
        exact ⟨s, rfl, .inr ⟨h0, by omega, by simp⟩⟩
      | succ d ih =>
        intro k i s hi hk h0 h1
        obtain ⟨k, rfl⟩ : ∃ m, k = m + 1 := ⟨k - 1, by omega⟩
        have hlt : i < l.length := by omega
        simp only [laws_szSettingS.l0]
        rw [if_pos (lt_cast hlt), if_pos (nn_cast i), rd_lSetting hlt, wrap_succ hlt (by omega)]
        obtain ⟨r1, hr1, e1⟩ := szSetting_some (hg l[i] (List.getElem_mem hlt)) (a := s) (by omega) (by omega)
        rw [hr1]; simp only [Option.bind_some]
        by_cases h2 : r1 < 0
        · rw [if_pos h2]
          exact ⟨-1, rfl, .inl (by omega)⟩
        · rw [if_neg h2]
          have e1' := e1.resolve_left h2
          obtain ⟨r, hr, h3⟩ := ih k (i + 1) r1 (by omega) (by omega) (by omega) (by omega)
          refine ⟨r, hr, h3.imp id fun h3 => ⟨h3.1, by omega, ?_⟩⟩
          rw [drop_cons hlt]
          intro y hy
          rcases List.mem_cons.1 hy with rfl | hy
          · exact e1'.2.2
          · exact h3.2.2 y hy
    obtain ⟨r, hr, h⟩ := main l.length k 0 (a - l.length) (by omega) (by omega) (by omega) (by omega)
    refine ⟨r, hr, h.imp id fun h => ⟨h.1, by omega, by omega, ?_⟩⟩
    simpa using h.2.2
theorem toSetting_eq {x : S74} (hs : smSetting x) : laws_toSetting.f x.f0 x.f1 = some ((cSetting x).f0, (cSetting x).f1) := by
  unfold smSetting at hs
  unfold laws_toSetting.f
  rfl
theorem toSettingS_eq {l : List S74} (hl : l.length ≤ 1048576) (hs : ∀ y ∈ l, smSetting y) {k : Nat} (hk : 1048600 ≤ k) : laws_toSettingS.f k l = some (l.map cSetting) := by
  unfold laws_toSettingS.f
  rw [if_pos (nn_cast _), if_pos (by simp; omega)]
  refine set_loop (fun k acc i => laws_toSettingS.l0 k l acc i) l cSetting 0 (fun k i hi acc ha hB => ?_) (fun k acc => ?_) k _ (by omega) (by simp)
  · simp only [laws_toSettingS.l0]
    rw [if_pos (lt_cast hi), if_pos (nn_cast i), rd_lSetting hi, wrap_succ hi (by omega), toSetting_eq (hs _ (List.getElem_mem hi))]
    simp only [Option.bind_some]
    rw [if_pos (by omega)]
    rfl
  · simp only [laws_toSettingS.l0]
    rw [if_neg (nlt_cast _)]
def smiSetting (x : S80) : Prop := True
theorem smi_cSetting {x : S74} (hs : smSetting x) : smiSetting (cSetting x) := by
  unfold smSetting at hs
  unfold smiSetting
  trivial
theorem eqSetting_eq {a b : S80} (hs : smiSetting a) : laws_eqSetting.f a.f0 a.f1 b.f0 b.f1 = some (decide (a = b)) := by
  unfold smiSetting at hs
  unfold laws_eqSetting.f
  by_cases e0 : a.f0.toList = b.f0.toList
  rotate_left
  · rw [if_neg e0]; have hne : ¬ a = b := fun e => e0 (ext_iSetting.1 e).1; simp [hne]
  rw [if_pos e0]
  by_cases e1 : a.f1 = b.f1
  rotate_left
  · rw [if_neg e1]; have hne : ¬ a = b := fun e => e1 (ext_iSetting.1 e).2; simp [hne]
  rw [if_pos e1]
  rw [decide_eq_true (ext_iSetting.2 ⟨e0, e1⟩)]
theorem eqSettingS_eq {a b : List S80} (hl : a.length ≤ 1048576) (hs : ∀ y ∈ a, smiSetting y) {k : Nat} (hk : 1048600 ≤ k) : laws_eqSettingS.f k a b = some (decide (a = b)) := by
  unfold laws_eqSettingS.f
  by_cases h : a.length = b.length
  · rw [if_pos (by omega)]
    refine eq_loop (fun k i => laws_eqSettingS.l0 k a b i) a b h 0 (fun k i h1 h2 hB => ?_) (fun k => ?_) k (by omega)
    · simp only [laws_eqSettingS.l0]
      rw [if_pos (lt_cast h1), if_pos (nn_cast i), if_pos (lt_cast h2), rd_iSetting h1, rd_iSetting h2, wrap_succ h1 (by omega), eqSetting_eq (hs _ (List.getElem_mem h1))]
      simp only [Option.bind_some, decide_eq_true_eq]
    · simp only [laws_eqSettingS.l0]
      rw [if_neg (nlt_cast _)]
  · rw [if_neg (by omega)]
    have : a ≠ b := fun e => h (by rw [e])
    simp [this]
theorem ext_iTurn {a b : S127} : a = b ↔ a.f0.toList = b.f0.toList ∧ a.f1 = b.f1 ∧ a.f2 = b.f2 := by
  simp only [bytes_eq]; cases a; cases b; simp
instance : DecidableEq S127 := fun _ _ => decidable_of_iff _ ext_iTurn.symm
def mt (n : Int) : ByteArray := (laws_markText.f 100 n).getD ⟨#[]⟩
theorem strOf_one (x : Int) : (strOfNums [x]).size = 1 := rfl
theorem markText_some : ∀ (d k : Nat) (n : Int) (s : ByteArray), 0 ≤ n → n ≤ 9223372036854775807 → n < 10 ^ d → s.size + d ≤ 1000 → d < k → ∃ r, laws_markText.l0 k n s = some r := by
  intro d
  induction d with
  | zero =>
    intro k n s h0 hb h1 hs hk
    obtain ⟨k, rfl⟩ : ∃ m, k = m + 1 := ⟨k - 1, by omega⟩
    have : n = 0 := by simp at h1; omega
    subst this
    simp only [laws_markText.l0]
    rw [if_neg (by omega), if_pos (by omega)]
    exact ⟨_, rfl⟩
  | succ d ih =>
    intro k n s h0 hb h1 hs hk
    obtain ⟨k, rfl⟩ : ∃ m, k = m + 1 := ⟨k - 1, by omega⟩
    simp only [laws_markText.l0]
    by_cases h : n > 0
    · rw [if_pos h]
      simp only [Option.bind_some]
      rw [if_pos (by rw [strOf_one]; omega)]
      have e : wrap64 (n.tdiv 10) = n / 10 := by
        rw [Int.tdiv_eq_ediv_of_nonneg h0, wrap_id (by omega) (by omega)]
      rw [e]
      refine ih k _ _ (by omega) (by omega) ?_ ?_ (by omega)
      · have : (10 : Int) ^ (d + 1) = 10 ^ d * 10 := by rw [Int.pow_succ]
        rw [this] at h1
        exact Int.ediv_lt_of_lt_mul (by omega) h1
      · rw [ByteArray.size_append, strOf_one]; omega
    · rw [if_neg h, if_pos (by omega)]
      exact ⟨_, rfl⟩
theorem markText_eq {n : Int} (h0 : 0 ≤ n) (h : n ≤ 1073741824) {k : Nat} (hk : 100 ≤ k) : laws_markText.f k n = some (mt n) := by
  have hs : ∃ r, laws_markText.f 100 n = some r := by
    unfold laws_markText.f
    by_cases h1 : n ≤ 0
    · rw [if_pos h1]; exact ⟨_, rfl⟩
    · rw [if_neg h1]
      exact markText_some 12 100 n _ h0 (by omega) (by omega) (by decide) (by omega)
  obtain ⟨r, hr⟩ := hs
  have := at_rounds (fun k => laws_markText.mono n k) hk hr
  rw [this]
  unfold mt
  rw [hr]; rfl
def mkStringS (l : List ByteArray) (m : Int) : List ByteArray := mkl (fun _ m => mt m) (fun _ => 1) l m
theorem markStringS_eq {l : List ByteArray} {m : Int} (hm : 0 ≤ m) (hb : m + l.length ≤ 1073741824) {k : Nat} (hk : 200 + l.length ≤ k) : laws_markStringS.f k l m = some (m + l.length, mkStringS l m) := by
  unfold laws_markStringS.f mkStringS
  have h := mark_loop (fun k l m i => laws_markStringS.l0 k l m i) (fun _ m => mt m) (fun _ => 1) 1073741824 100 (fun _ => by omega) (fun k pre x rest m hB hp hm hM => ?_) (fun k l m => ?_) k l m (by omega) (by omega) hm (by rw [mtot_const]; omega)
  · rw [mtot_const] at h
    rw [show m + (l.length : Int) = m + 1 * l.length from by omega]
    exact h
  · simp only [laws_markStringS.l0]
    rw [if_pos (by simp; omega), markText_eq hm (by omega) hB]
    simp only [Option.bind_some]
    rw [if_pos (nn_cast _), set_mid, wrap_id (x := m + 1) (by omega) (by omega), wrap_succ (i := pre.length) (n := pre.length + 1) (by omega) (by omega)]
  · simp only [laws_markStringS.l0]
    rw [if_neg (nlt_cast _)]
theorem heldStringS_mk {l : List ByteArray} {m0 : Int} (hm : 0 ≤ m0) (hb : m0 + l.length ≤ 1073741824) {k : Nat} (hk : 200 + l.length ≤ k) : laws_heldStringS.f k (mkStringS l m0) m0 = some (m0 + l.length) := by
  unfold laws_heldStringS.f
  have h := held_loop (fun k m i => laws_heldStringS.l0 k (mkStringS l m0) m i) (fun _ m => mt m) (fun _ => 1) 1073741824 100 (fun _ => by omega) (mkStringS l m0) (fun k pre x rest m he hB hp hm hM => ?_) (fun k m => ?_) k l m0 rfl (by omega) (by omega) hm (by rw [mtot_const]; omega)
  · rw [mtot_const] at h
    rw [show m0 + (l.length : Int) = m0 + 1 * l.length from by omega]
    exact h
  · simp only [laws_heldStringS.l0]
    rw [if_pos (by rw [he]; simp; omega), if_pos (nn_cast _), markText_eq hm (by omega) hB]
    simp only [Option.bind_some]
    rw [he, rdOf_mid, if_pos rfl, wrap_id (x := m + 1) (by omega) (by omega), wrap_succ (i := pre.length) (n := pre.length + 1) (by omega) (by omega)]
  · simp only [laws_heldStringS.l0]
    rw [if_neg (nlt_cast _)]
theorem rdm_iSetting {pre rest : List S80} {x : S80} : rd_T80 (pre ++ x :: rest) (pre.length : Int) = x := by simp [rd_T80]
def mkSettingS (l : List S80) (m : Int) : List S80 := mkl (fun (_ : S80) m => (⟨mt (m), m + 1⟩ : S80)) (fun _ => 2) l m
theorem markSettingS_eq {l : List S80} {m : Int} (hm : 0 ≤ m) (hb : m + 2 * l.length ≤ 1073741824) {k : Nat} (hk : 200 + l.length ≤ k) : laws_markSettingS.f k l m = some (m + 2 * l.length, mkSettingS l m) := by
  unfold laws_markSettingS.f mkSettingS
  have h := mark_loop (fun k l m i => laws_markSettingS.l0 k l m i) (fun (_ : S80) m => (⟨mt (m), m + 1⟩ : S80)) (fun _ => 2) 1073741824 100 (fun _ => by omega) (fun k pre x rest m hB hp hm hM => ?_) (fun k l m => ?_) k l m (by omega) (by omega) hm (by rw [mtot_const]; omega)
  · rw [mtot_const] at h
    exact h
  · simp only [laws_markSettingS.l0]
    have w1 : wrap64 (m + 1) = m + 1 := wrap_id (by omega) (by omega)
    have w2 : wrap64 ((m + 1) + 1) = m + 1 + 1 := wrap_id (by omega) (by omega)
    have t0 := fun k (hB : 100 ≤ k) => markText_eq (n := m) (by omega) (by omega) hB
    rw [if_pos (by simp; omega)]
    simp only [Option.bind_some, w1, w2, t0 _ hB]
    (try rw [if_pos (nn_cast _)])
    simp only [Option.bind_some, rdm_iSetting, set_mid, w1, w2, t0 _ hB]
    (try rw [if_pos (nn_cast _)])
    (try simp only [Option.bind_some, rdm_iSetting, set_mid, w1, w2])
    rw [wrap_succ (i := pre.length) (n := pre.length + 1) (by omega) (by omega), show m + (2 : Int) = m + 1 + 1 from by omega]
  · simp only [laws_markSettingS.l0]
    rw [if_neg (nlt_cast _)]
theorem heldSettingS_mk {l : List S80} {m0 : Int} (hm : 0 ≤ m0) (hb : m0 + 2 * l.length ≤ 1073741824) {k : Nat} (hk : 200 + l.length ≤ k) : laws_heldSettingS.f k (mkSettingS l m0) m0 = some (m0 + 2 * l.length) := by
  unfold laws_heldSettingS.f
  have h := held_loop (fun k m i => laws_heldSettingS.l0 k (mkSettingS l m0) m i) (fun (_ : S80) m => (⟨mt (m), m + 1⟩ : S80)) (fun _ => 2) 1073741824 100 (fun _ => by omega) (mkSettingS l m0) (fun k pre x rest m he hB hp hm hM => ?_) (fun k m => ?_) k l m0 rfl (by omega) (by omega) hm (by rw [mtot_const]; omega)
  · rw [mtot_const] at h
    exact h
  · simp only [laws_heldSettingS.l0]
    have w1 : wrap64 (m + 1) = m + 1 := wrap_id (by omega) (by omega)
    have w2 : wrap64 ((m + 1) + 1) = m + 1 + 1 := wrap_id (by omega) (by omega)
    have t0 := fun k (hB : 100 ≤ k) => markText_eq (n := m) (by omega) (by omega) hB
    rw [if_pos (by rw [he]; simp; omega), if_pos (nn_cast _)]
    simp only [he, rdm_iSetting, Option.bind_some, w1, w2, t0 _ hB, if_true]
    rw [wrap_succ (i := pre.length) (n := pre.length + 1) (by omega) (by omega), show m + (2 : Int) = m + 1 + 1 from by omega]
  · simp only [laws_heldSettingS.l0]
    rw [if_neg (nlt_cast _)]
end Go.Proofs.Ytocegmkifmdlcaa.P

namespace Go.Proofs.Ytocegmkifmdlcaa.P
open Go.RowKit Go.Proofs.YtocegmkifmdlcaaW.PrintWords Go.Proofs.YtocegmkifmdlcaaL

def settingB (x : S80) : Bool := nameB x.f0 && (decide (0 ≤ x.f1) && decide (x.f1 ≤ 1000))
def stateAt (l : List S80) (i : Nat) : Bool := settingB (rd_T80 l (i : Int)) && (decide (i = 0) || Op.bytesLess (rd_T80 l ((i - 1 : Nat) : Int)).f0.toList (rd_T80 l (i : Int)).f0.toList)
def stateB (l : List S80) : Bool := (List.range l.length).all (stateAt l) && decide (l.length ≤ 24)

theorem l27Setting_e_eq (l : List S80) (i : Int) {k : Nat} (hk : 20 ≤ k) : spec_l27Setting_e.f k l i = some (settingB (rd_T80 l i)) := by
  unfold spec_l27Setting_e.f settingB
  rw [l01Name_eq _ hk]; simp only [Option.bind_some, in_eq]
  by_cases h : nameB (rd_T80 l i).f0 = true
  · rw [if_pos h]; simp [h]
  · rw [if_neg h]; simp [h]
theorem Setting_valid_eq (x : S80) {k : Nat} (hk : 20 ≤ k) : impl_Setting_valid.f k x.f0 x.f1 = some (settingB x) := by
  unfold impl_Setting_valid.f settingB
  rw [IsName_eq _ hk]; simp only [Option.bind_some, within_eq]
  by_cases h : nameB x.f0 = true
  · rw [if_pos h]; simp [h]
  · rw [if_neg h]; simp [h]

theorem l27State_eq {l : List S80} (hl : l.length ≤ 1048576) {k : Nat} (hk : 1048600 ≤ k) : spec_l27State.f k l = some (stateB l) := by
  unfold spec_l27State.f stateB
  refine all_loop (fun k i => spec_l27State.l0 k l i) l.length (stateAt l) (decide (l.length ≤ 24)) 20 (fun k i hi hB => ?_) (fun k _ => ?_) k (by omega)
  · simp only [spec_l27State.l0]
    rw [if_pos (lt_cast hi), if_pos (nn_cast i), l27Setting_e_eq _ _ hB, wrap_succ hi (by omega)]
    simp only [Option.bind_some, stateAt]
    by_cases h : settingB (rd_T80 l (i : Int)) = true
    · rw [if_pos h]
      by_cases h0 : i = 0
      · rw [if_neg (by omega)]; simp only [h, decide_eq_true h0, Bool.true_or, Bool.and_self, if_true]
      · rw [if_pos (by omega), pred_cast (by omega) hi (by omega), if_pos (nn_cast _), if_pos (by omega)]
        simp [h, h0]
    · rw [if_neg h]; simp [h]
  · simp only [spec_l27State.l0]
    rw [if_neg (nlt_cast _)]
    congr 2
    exact propext (by omega)
theorem ValidState_eq {l : List S80} (hl : l.length ≤ 1048576) {k : Nat} (hk : 1048600 ≤ k) : impl_ValidState.f k l = some (stateB l) := by
  unfold impl_ValidState.f stateB
  by_cases h24 : (l.length : Int) > 24
  · rw [if_pos h24]
    have : ¬ l.length ≤ 24 := by omega
    simp [this]
  · rw [if_neg h24]
    have h24' : l.length ≤ 24 := by omega
    rw [decide_eq_true h24']
    refine all_loop (fun k i => impl_ValidState.l0 k l l (l.length : Int) i) l.length (stateAt l) true 20 (fun k i hi hB => ?_) (fun k _ => ?_) k (by omega)
    · simp only [impl_ValidState.l0]
      rw [if_pos (lt_cast hi), if_pos (nn_cast i), if_pos (lt_cast hi), Setting_valid_eq _ hB, wrap_succ hi (by omega)]
      simp only [Option.bind_some, stateAt]
      by_cases h : settingB (rd_T80 l (i : Int)) = true
      · rw [if_pos h]
        by_cases h0 : i = 0
        · rw [if_neg (by omega)]; simp only [h, decide_eq_true h0, Bool.true_or, Bool.and_self, if_true]
        · rw [if_pos (by omega), pred_cast (by omega) hi (by omega), if_pos (nn_cast _), if_pos (by omega)]
          simp [h, h0]
      · rw [if_neg h]; simp [h]
    · simp only [impl_ValidState.l0]
      rw [if_neg (nlt_cast _)]
end Go.Proofs.Ytocegmkifmdlcaa.P

namespace Go.Proofs.Ytocegmkifmdlcaa.P
open Go.RowKit Go.Proofs.YtocegmkifmdlcaaW.PrintWords Go.Proofs.YtocegmkifmdlcaaL
theorem Ev.le {α : Type} {g : Nat → Option α} {r : α} (K : Nat) (h : ∀ k, K ≤ k → g k = some r) : Ev g r := ⟨K, h⟩
theorem Ev.yes {α : Type} {c : Nat → Option Bool} {f : Nat → Option α} {r : α} (h : Ev c true) (k : Ev f r) : Ev (fun n => if c n = some true then f n else none) r := by
  obtain ⟨K, hK⟩ := h
  obtain ⟨K', hK'⟩ := k
  exact ⟨max K K', fun n hn => by
    show (if c n = some true then f n else none) = some r
    rw [if_pos (hK n (by omega))]; exact hK' n (by omega)⟩
theorem Ev.pos {α : Type} {c : Prop} [Decidable c] {f g : Nat → Option α} {r : α} (h : c) (k : Ev f r) : Ev (fun n => if c then f n else g n) r := Ev.congr (fun _ => if_pos h) k
theorem Ev.neg {α : Type} {c : Prop} [Decidable c] {f g : Nat → Option α} {r : α} (h : ¬ c) (k : Ev g r) : Ev (fun n => if c then f n else g n) r := Ev.congr (fun _ => if_neg h) k
end Go.Proofs.Ytocegmkifmdlcaa.P

namespace Go.Proofs.Ytocegmkifmdlcaa.P
open Go.RowKit Go.Proofs.YtocegmkifmdlcaaW.PrintWords Go.Proofs.YtocegmkifmdlcaaL
theorem rd_set27 {l : List S80} {i : Nat} (h : i < l.length) : rd_T80 l (i : Int) = l[i] := by simp [rd_T80, List.getD_eq_getElem?_getD, List.getElem?_eq_getElem h]
def at27 (nm : ByteArray) : Nat → List S80 → Int
  | _, [] => -1
  | n, x :: r => if x.f0.toList = nm.toList then (n : Int) else at27 nm (n + 1) r
def val27 (nm : ByteArray) : List S80 → Int × Bool
  | [] => (0, false)
  | x :: r => if x.f0.toList = nm.toList then (x.f1, true) else val27 nm r
theorem at27_ev {l : List S80} (hl : l.length ≤ 1048576) (nm : ByteArray) : Ev (fun k => spec_l27At.f k l nm) (at27 nm 0 l) := by
  unfold spec_l27At.f
  have main : ∀ (d i : Nat), i + d = l.length → Ev (fun k => spec_l27At.l0 k l nm (i : Int)) (at27 nm i (l.drop i)) := by
    intro d
    induction d with
    | zero =>
      intro i hi
      obtain rfl : i = l.length := by omega
      refine Ev.step (f := fun _ => some (-1)) (fun k => ?_) ?_
      · simp only [spec_l27At.l0]; rw [if_neg (nlt_cast _)]
      · rw [List.drop_length]; exact Ev.now _
    | succ d ih =>
      intro i hi
      have hlt : i < l.length := by omega
      rw [drop_cons hlt, at27]
      by_cases h1 : l[i].f0.toList = nm.toList
      · rw [if_pos h1]
        refine Ev.step (f := fun _ => some (i : Int)) (fun k => ?_) (Ev.now _)
        simp only [spec_l27At.l0]
        rw [if_pos (lt_cast hlt), if_pos (nn_cast i), rd_set27 hlt, if_pos h1]
      · rw [if_neg h1]
        refine Ev.step (fun k => ?_) (ih (i + 1) (by omega))
        simp only [spec_l27At.l0]
        rw [if_pos (lt_cast hlt), if_pos (nn_cast i), rd_set27 hlt, if_neg h1, wrap_succ hlt (by omega)]
  have := main l.length 0 (by omega)
  simpa using this
theorem val27_ev {l : List S80} (hl : l.length ≤ 1048576) (nm : ByteArray) : Ev (fun k => impl_valueAt.f k l nm) (val27 nm l) := by
  unfold impl_valueAt.f
  have main : ∀ (d i : Nat), i + d = l.length → Ev (fun k => impl_valueAt.l0 k nm l (l.length : Int) (i : Int)) (val27 nm (l.drop i)) := by
    intro d
    induction d with
    | zero =>
      intro i hi
      obtain rfl : i = l.length := by omega
      refine Ev.step (f := fun _ => some (0, false)) (fun k => ?_) ?_
      · simp only [impl_valueAt.l0]; rw [if_neg (nlt_cast _)]
      · rw [List.drop_length]; exact Ev.now _
    | succ d ih =>
      intro i hi
      have hlt : i < l.length := by omega
      rw [drop_cons hlt, val27]
      by_cases h1 : l[i].f0.toList = nm.toList
      · rw [if_pos h1]
        refine Ev.step (f := fun _ => some (l[i].f1, true)) (fun k => ?_) (Ev.now _)
        simp only [impl_valueAt.l0]
        rw [if_pos (lt_cast hlt), if_pos (nn_cast i), if_pos (lt_cast hlt), rd_set27 hlt, if_pos h1]
      · rw [if_neg h1]
        refine Ev.step (fun k => ?_) (ih (i + 1) (by omega))
        simp only [impl_valueAt.l0]
        rw [if_pos (lt_cast hlt), if_pos (nn_cast i), if_pos (lt_cast hlt), rd_set27 hlt, if_neg h1, wrap_succ hlt (by omega)]
  have := main l.length 0 (by omega)
  simpa using this
theorem at27_cases (nm : ByteArray) : ∀ (l : List S80) (n : Nat), (at27 nm n l = -1 ∧ val27 nm l = (0, false) ∧ ∀ x ∈ l, x.f0.toList ≠ nm.toList) ∨ ∃ (j : Nat) (h : j < l.length), at27 nm n l = ((n + j : Nat) : Int) ∧ val27 nm l = (l[j].f1, true) ∧ l[j].f0.toList = nm.toList
  | [], n => .inl ⟨rfl, rfl, by simp⟩
  | x :: r, n => by
    by_cases h : x.f0.toList = nm.toList
    · exact .inr ⟨0, by simp, by rw [at27, if_pos h]; rfl, by rw [val27, if_pos h]; rfl, h⟩
    · rcases at27_cases nm r (n + 1) with ⟨h1, h2, h3⟩ | ⟨j, hj, h1, h2, h3⟩
      · refine .inl ⟨by rw [at27, if_neg h]; exact h1, by rw [val27, if_neg h]; exact h2, fun y hy => ?_⟩
        rcases List.mem_cons.1 hy with e | hy
        · subst e; exact h
        · exact h3 y hy
      · exact .inr ⟨j + 1, by simp; omega, by rw [at27, if_neg h, h1]; congr 1; omega, by rw [val27, if_neg h, h2]; rfl, h3⟩
theorem State_spec_ev {l : List S80} (hl : l.length ≤ 1048576) : Ev (fun k => spec_l27State.f k l) (stateB l) := Ev.le 1048600 (fun k hk => l27State_eq hl hk)
theorem State_impl_ev {l : List S80} (hl : l.length ≤ 1048576) : Ev (fun k => impl_ValidState.f k l) (stateB l) := Ev.le 1048600 (fun k hk => ValidState_eq hl hk)
theorem state_len {l : List S80} (h : stateB l = true) : l.length ≤ 24 := by
  unfold stateB at h; simp only [Bool.and_eq_true, decide_eq_true_iff] at h; exact h.2
end Go.Proofs.Ytocegmkifmdlcaa.P
