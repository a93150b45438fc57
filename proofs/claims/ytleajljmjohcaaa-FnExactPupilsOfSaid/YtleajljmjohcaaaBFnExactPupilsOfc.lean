/- Part c of what FnExactPupilsOf stands on: functions of the program as Lean functions with their walks, and plain lemmas. -/
import Derived.Test.YtleajljmjohcaaaK
import Derived.Test.YtleajljmjohcaaaBFnExactPupilsOfb
import Derived.Test.YtleajljmjohcaaaBFnExactPupilsOfa
import Derived.ChangeOld
import Derived.ChangeArms
import Derived.WideShapes
import Derived.Test.YtleajljmjohcaaaWWords
import Derived.KernelRfl
namespace Go.Proofs.Ytleajljmjohcaaa.P
open Go.RowKit Go.Proofs.YtleajljmjohcaaaW.PrintWords Go.Proofs.YtleajljmjohcaaaW.PrintLast Go.Proofs.YtleajljmjohcaaaW.PrintMore
attribute [local go_sem] max2_int min2_int max_two min_two max_three min_three max_four min_four str_leq str_gtr str_geq
set_option linter.unusedVariables false
set_option linter.unusedSimpArgs false

def laws_markStringS.l0 : Nat → List ByteArray → Int → Int → Option (Int × List ByteArray)
  | 0, _, _, _ => none
  | k + 1, x0, x1, x5 => if x5 < (x0.length : Int) then ((laws_markText.f k x1).bind fun t101 => (if 0 ≤ x5 then (laws_markStringS.l0 k (x0.set (x5 : Int).toNat t101) (wrap64 (x1 + 1)) (wrap64 (x5 + 1))) else (none))) else (some (x1, x0))
def laws_markStringS.f (k : Nat) (l0 : List ByteArray) (a1 : Int) : Option (Int × List ByteArray) := laws_markStringS.l0 k l0 a1 0
set_option maxHeartbeats 8000000 in
set_option maxRecDepth 100000 in
theorem laws_markStringS.calls (k : Nat) (P0_ : Nat → Prop) (u9000_ : Value) (l0 : List ByteArray) (a1 : Int) (r1 : Int) (r2 : List ByteArray) (w0 w : World) (hB : Below w0.heap.size w0 w) (ho0 : Kd.R Kd.string 9 w w0.heap.size P0_ u9000_ l0) (h : laws_markStringS.f k l0 a1 = some (r1, r2)) :
    Calls Try.prog 22 #[u9000_, .int .i64 a1] w fun e w' => e = .returned (.int .i64 r1) ∧ Kd.R Kd.string 9 w' w0.heap.size (fun k_ => (P0_ k_ ∨ w.heap.size ≤ k_)) u9000_ r2 ∧ Below w0.heap.size w0 w' ∧ Kept w w' (fun k_ => P0_ k_) := by
  have HO0 := Aside0.mk (show Kd.R Kd.string 9 w w0.heap.size (fun k_ => (P0_ k_ ∨ w.heap.size ≤ k_)) u9000_ l0 from Kd.R_mono ho0 (fun k_ hk => (.inl hk)))
  have HK := Aside0.mk (Kept.refl w (fun k_ => P0_ k_))
  have HW0 := Aside0.mk hB.size
  have HB := Aside0.mk hB
  clear hB
  have H : (laws_markStringS.l0 k l0 a1 0) = some (r1, r2) := h
  clear h
  have H' := Aside0.mk H
  clear H
  go_enter Try.func22, Try.ntmps22
  go_wp2
  go_loopg [1, 5] k (fun kq v1 v5 w' => ∃ (x0_1 : List ByteArray) (x1_1 : Int) (x5_1 : Int), v1 = .int .i64 x1_1 ∧ v5 = .int .i64 x5_1 ∧ Aside0 (laws_markStringS.l0 kq x0_1 x1_1 x5_1 = some (r1, r2)) ∧ Aside0 (kq ≤ k) ∧ Aside0 (Kd.R Kd.string 9 w' w0.heap.size (fun k_ => (P0_ k_ ∨ w.heap.size ≤ k_)) u9000_ x0_1) ∧ Aside0 (Kept w w' (fun k_ => P0_ k_)) ∧ Aside0 (Below w0.heap.size w0 w'))
  case atStart => exact ⟨(l0), (a1), (0), (by first | rfl | (simp; done) | (simp [*]; done)), (by first | rfl | (simp; done) | (simp [*]; done)), H', ⟨Nat.le_refl _⟩, ⟨by (with_reducible repeat (first | apply Kd.R_alloc | apply Kd.R_drewN | apply Kd.R_drew)); exact HO0.out⟩, ⟨by repeat (first | (with_reducible first | exact HK.out | apply Kept.alloc | apply Kept.drewN | apply Kept.drew) | exact HK.out)⟩, ⟨by repeat (first | (with_reducible first | exact HB.out | apply below_alloc | apply pw_below_drewN | apply below_drew1) | exact HB.out)⟩⟩
  case round =>
    clear H'
    try clear c2
    try clear p2
    obtain ⟨x0_1, x1_1, x5_1, rfl, rfl, HA, HK1, HO_0, HK, HB⟩ := hrel
    cases gk with
    | zero => exact absurd HA.out (by simp [laws_markStringS.l0])
    | succ k1 =>
      have H := HA.out
      clear HA
      simp only [laws_markStringS.l0] at H
      by_cases c3 : x5_1 < (x0_1.length : Int)
      · rw [if_pos c3] at H
        have c3b0 : decide (x5_1 < (x0_1.length : Int)) = true := decide_eq_true c3
        clear c3
        replace H := Option.bind_eq_some_iff.mp H
        obtain ⟨t101, A40, H⟩ := H
        replace H : (if 0 ≤ x5_1 then (laws_markStringS.l0 k1 (x0_1.set (x5_1 : Int).toNat t101) (wrap64 (x1_1 + 1)) (wrap64 (x5_1 + 1))) else (none)) = some (r1, r2) := H
        have A4 := Aside0.mk A40
        clear A40
        by_cases c5 : 0 ≤ x5_1
        · rw [if_pos c5] at H
          have c5b0 : decide (0 ≤ x5_1) = true := decide_eq_true c5
          clear c5
          obtain ⟨y102, hy102⟩ : ∃ y_ : List ByteArray, y_ = (x0_1.set (x5_1 : Int).toNat t101) := ⟨_, rfl⟩
          replace H : (laws_markStringS.l0 k1 y102 (wrap64 (x1_1 + 1)) (wrap64 (x5_1 + 1))) = some (r1, r2) := by first | (rw [hy102]; with_reducible exact H) | (have H2_ := (Option.bind_some _ _).symm.trans H; rw [hy102]; with_reducible exact H2_) | (have H2_ := (Option.bind_some _ _).symm.trans H; with_reducible exact H2_) | with_reducible exact H | (rw [hy102]; exact H) | exact H
          have Ny102 := Aside0.mk hy102
          clear hy102
          have H' := Aside0.mk H
          clear H
          obtain ⟨Ao7, co7, eo7⟩ := Kd.R_slice HO_0.out
          subst eo7
          go_wp2_with (first | ((with_reducible refine gate_callee (f := 46) rfl ?_); refine goesL_ (some 15) rfl rfl Try.func46 (by kernel_rfl) rfl #[.int .i64 x1_1] rfl (by (try simp only [List.map_toArray, List.map_cons, List.map_nil]); first | done | rfl | (simp only [List.length_drop, List.length_take]; rfl)) ?_; (with_reducible refine (laws_markText.calls k1 x1_1 t101 _ A4.out).mono ?_); rintro e w8 ⟨rfl, hb⟩; refine ⟨_, rfl, ?_⟩; have n0_ := Aside0.mk (Kd.R_below (by (with_reducible repeat (first | apply Kd.R_alloc | apply Kd.R_drewN | apply Kd.R_drew)); exact HO_0.out) hb); have n1_ := Aside0.mk (Kept.below (S := (fun k_ => P0_ k_)) (by repeat (first | (with_reducible first | exact HK.out | apply Kept.alloc | apply Kept.drewN | apply Kept.drew) | exact HK.out)) hb); have n2_ := Aside0.mk (below_step (by repeat (first | (with_reducible first | exact HB.out | apply below_alloc | apply pw_below_drewN | apply below_drew1) | exact HB.out)) hb); clear HO_0; clear HK; clear HB; have HO_0 := n0_; have HK := n1_; have HB := n2_; clear n0_ n1_ n2_; (try clear hb); (try clear hb2); (try clear hk); (try clear hi); have p6 : 0 ≤ (x5_1 : Int) := of_decide_eq_true (by first | (with_reducible assumption) | assumption); have q6 : (x5_1 : Int) < ((x0_1.length : Int) : Int) := of_decide_eq_true (by first | (with_reducible assumption) | assumption); obtain ⟨go6, co6, eo6, gb6, gl6, cl6, HG6⟩ := Kd.R_form HO_0.out (by omega); (first | cases eo6 | (injection eo6 with ea_ en_ ec_; (first | subst ea_ | (injection ea_ with ea_; subst ea_)); subst ec_; clear en_)); have GB6 := Aside0.mk gb6; have GG6 := Aside0.mk HG6; clear gb6 gl6 HG6; have HMgo6 := Aside0.mk (show (P0_ go6 ∨ w.heap.size ≤ go6) from (HO_0.out.1 _ rfl)); obtain ⟨hx6_0, hf6_0⟩ := Kd.R_celln (⟨#[]⟩ : ByteArray) HO_0.out (x5_1 : Int) p6 q6; replace p6 := eq_true p6; replace q6 := eq_true q6; obtain ⟨hy9_, hz9_⟩ := Kd.R_celln (⟨#[]⟩ : ByteArray) HO_0.out (x5_1 : Int) (of_decide_eq_true (by first | (with_reducible assumption) | assumption)) (of_decide_eq_true (by first | (with_reducible assumption) | assumption)); have HP9 := Kd.R_putg HO_0.out (x5_1 : Int) t101) | ((with_reducible refine gate_store (t := 9) (p := 16) rfl ?_); refine store_event (t := 9) (p := 16) (v := ?vo_w10) (w1 := (w8.setCell ⟨go6, (x5_1 : Int).toNat, none⟩ (.string t101))) ?hg ?ho ?hn ?hr ?_; (case ho => rfl); (case hg => rfl); (case hn => rfl); (case hr => first | (go_simp; done) | (go_simp; rfl)); intro w10 hw; have hg : w8.grownBy w10 (some go6) := (by rw [hw]; exact HP9.2); have hp_ : Kd.R Kd.string 9 w10 w0.heap.size (fun k_ => (P0_ k_ ∨ w.heap.size ≤ k_)) (.slice (some ⟨go6, 0, none⟩) x0_1.length co7) y102 := (by rw [hw, Ny102.out]; exact HP9.1); clear HP9; have n0_ := Aside0.mk (hp_); have n1_ := Aside0.mk ((by rw [hw]; exact below_set (HB.out) GB6.out : Below w0.heap.size w0 w10)); have n2_ := Aside0.mk (Kept.of_grown (S := (fun k_ => P0_ k_)) hg (by repeat (first | (with_reducible first | exact HK.out | apply Kept.alloc | apply Kept.drewN | apply Kept.drew) | exact HK.out)) (fun k_ e_ => (HO_0.out.1 k_ e_))); clear HO_0; clear HB; clear HK; have HO_0 := n0_; have HB := n1_; have HK := n2_; clear n0_ n1_ n2_; clear hg hw hp_))
          go_roundg k1
          case measure => have := HK1.out; omega
          case rel => exact ⟨(y102), (wrap64 (x1_1 + 1)), (wrap64 (x5_1 + 1)), (by first | rfl | (simp; done) | (simp [*]; done)), (by first | rfl | (simp; done) | (simp [*]; done)), H', ⟨by have := HK1.out; omega⟩, ⟨by (with_reducible repeat (first | apply Kd.R_alloc | apply Kd.R_drewN | apply Kd.R_drew)); exact HO_0.out⟩, ⟨by repeat (first | (with_reducible first | exact HK.out | apply Kept.alloc | apply Kept.drewN | apply Kept.drew) | exact HK.out)⟩, ⟨by repeat (first | (with_reducible first | exact HB.out | apply below_alloc | apply pw_below_drewN | apply below_drew1) | exact HB.out)⟩⟩
        · rw [if_neg c5] at H
          exact absurd H (by simp)
      · rw [if_neg c3] at H
        have c3b0 : decide (x5_1 < (x0_1.length : Int)) = false := decide_eq_false c3
        clear c3
        simp only [Option.some.injEq, Prod.mk.injEq] at H
        obtain ⟨rfl, rfl⟩ := H
        obtain ⟨Ao11, co11, eo11⟩ := Kd.R_slice HO_0.out
        subst eo11
        go_wp2
        go_ret
        exact ⟨by first | rfl | (simp [errW_none, errW_some] <;> rfl) | (simp [*, errW_none, errW_some] <;> rfl), by (with_reducible repeat (first | apply Kd.R_alloc | apply Kd.R_drewN | apply Kd.R_drew)); exact HO_0.out, by repeat (first | (with_reducible first | exact HB.out | apply below_alloc | apply pw_below_drewN | apply below_drew1) | exact HB.out), by repeat (first | (with_reducible first | exact HK.out | apply Kept.alloc | apply Kept.drewN | apply Kept.drew) | exact HK.out)⟩

end Go.Proofs.Ytleajljmjohcaaa.P

namespace Go.Proofs.Ytleajljmjohcaaa.P
open Go.RowKit Go.Proofs.YtleajljmjohcaaaW.PrintWords Go.Proofs.YtleajljmjohcaaaW.PrintLast Go.Proofs.YtleajljmjohcaaaW.PrintMore
attribute [local go_sem] max2_int min2_int max_two min_two max_three min_three max_four min_four str_leq str_gtr str_geq
set_option linter.unusedVariables false
set_option linter.unusedSimpArgs false

def laws_heldStringS.l0 : Nat → List ByteArray → Int → Int → Option (Int)
  | 0, _, _, _ => none
  | k + 1, x0, x1, x5 => if x5 < (x0.length : Int) then (if 0 ≤ x5 then ((laws_markText.f k x1).bind fun t102 => (if (rdOf ByteArray.empty x0 x5).toList = t102.toList then (laws_heldStringS.l0 k x0 (wrap64 (x1 + 1)) (wrap64 (x5 + 1))) else (some (-1)))) else (none)) else (some x1)
def laws_heldStringS.f (k : Nat) (l0 : List ByteArray) (a1 : Int) : Option (Int) := laws_heldStringS.l0 k l0 a1 0
set_option maxHeartbeats 8000000 in
set_option maxRecDepth 100000 in
theorem laws_heldStringS.calls (k : Nat) (A0 : Option Addr) (c0 : Nat) (l0 : List ByteArray) (a1 : Int) (r : Int) (w : World) (hr0 : Kd.C Kd.string w A0 l0.length l0) (hc0 : l0.length ≤ c0) (h : laws_heldStringS.f k l0 a1 = some r) :
    Calls Try.prog 23 #[.slice A0 l0.length c0, .int .i64 a1] w fun e w' => e = .returned (.int .i64 r) ∧ Below w.heap.size w w' := by
  have HR0 := Aside0.mk hr0
  have HC0 := Aside0.mk hc0
  clear hr0 hc0
  have HB := Aside0.mk (Below.refl w.heap.size w)
  have H : (laws_heldStringS.l0 k l0 a1 0) = some r := h
  clear h
  have H' := Aside0.mk H
  clear H
  go_enter Try.func23, Try.ntmps23
  go_wp2
  go_loopg [1, 5] k (fun kq v1 v5 w' => ∃ (x1_1 : Int) (x5_1 : Int), v1 = .int .i64 x1_1 ∧ v5 = .int .i64 x5_1 ∧ Aside0 (laws_heldStringS.l0 kq l0 x1_1 x5_1 = some r) ∧ Aside0 (kq ≤ k) ∧ Aside0 (Below w.heap.size w w'))
  case atStart => exact ⟨(a1), (0), (by first | rfl | (simp; done) | (simp [*]; done)), (by first | rfl | (simp; done) | (simp [*]; done)), H', ⟨Nat.le_refl _⟩, ⟨by repeat (first | (with_reducible first | exact HB.out | apply below_alloc | apply pw_below_drewN | apply below_drew1) | exact HB.out)⟩⟩
  case round =>
    clear H'
    try clear c2
    try clear p2
    obtain ⟨x1_1, x5_1, rfl, rfl, HA, HK1, HB⟩ := hrel
    cases gk with
    | zero => exact absurd HA.out (by simp [laws_heldStringS.l0])
    | succ k1 =>
      have H := HA.out
      clear HA
      simp only [laws_heldStringS.l0] at H
      by_cases c3 : x5_1 < (l0.length : Int)
      · rw [if_pos c3] at H
        have c3b0 : decide (x5_1 < (l0.length : Int)) = true := decide_eq_true c3
        clear c3
        by_cases c4 : 0 ≤ x5_1
        · rw [if_pos c4] at H
          have c4b0 : decide (0 ≤ x5_1) = true := decide_eq_true c4
          clear c4
          replace H := Option.bind_eq_some_iff.mp H
          obtain ⟨t102, A50, H⟩ := H
          replace H : (if (rdOf ByteArray.empty l0 x5_1).toList = t102.toList then (laws_heldStringS.l0 k1 l0 (wrap64 (x1_1 + 1)) (wrap64 (x5_1 + 1))) else (some (-1))) = some r := H
          have A5 := Aside0.mk A50
          clear A50
          by_cases c6 : (rdOf ByteArray.empty l0 x5_1).toList = t102.toList
          · rw [if_pos c6] at H
            have c6b0 : ((rdOf ByteArray.empty l0 x5_1).toList == t102.toList) = true := beq_iff_eq.mpr c6
            have c6b1 : ((rdOf ByteArray.empty l0 x5_1).toList != t102.toList) = false := bne_eq_false_iff_eq.mpr c6
            clear c6
            have H' := Aside0.mk H
            clear H
            try go_wp2
            have n0_ := Aside0.mk (below_drew1 HB.out)
            clear HB
            have HB := n0_
            clear n0_
            have p101 : 0 ≤ (x5_1 : Int) := of_decide_eq_true (by first | (with_reducible assumption) | assumption)
            have q101 : x5_1 < (l0.length : Int) := of_decide_eq_true (by first | (with_reducible assumption) | assumption)
            obtain ⟨ad101, e101, hx101_0⟩ := Kd.at_string HR0.out x5_1 p101 q101
            have hw101_0 := hx101_0
            cases e101
            replace hx101_0 := (HB.out.cell (World.block_lt_of_cell? w _ hx101_0)).trans hx101_0
            replace p101 := eq_true p101
            replace q101 := eq_true q101
            refine start_ (n := 7) (S := fun w' => w'.cell? (ad101.add (x5_1).toNat) = some (.string (rdOf ByteArray.empty l0 x5_1))) (ds := []) #[false, false, false, false, false, false, false] (by kernel_rfl) rfl rfl (((HB.out.cell (World.block_lt_of_cell? w _ hw101_0)).trans hw101_0)) (fun hHeld => ?_)
            generalize wr.drew = w7 at HB hx101_0 hHeld ⊢
            refine pure_ (i := 0) (N := some 12) (v := ?_) (a' := ?_) #[true, false, false, false, false, false, false] rfl rfl (by kernel_rfl) (fun _ _ _ h => h) (Or.inl ⟨by rfl, ?_⟩) ?_ ?_
            rotate_left
            · intro w'
              go_simp
              with_reducible rfl
            rotate_left
            · simp only [Act.put, List.setIfInBounds_toArray, List.set_cons_zero, List.set_cons_succ, i64_w, i32_w]
              rfl
            refine pure_ (i := 1) (N := some 13) (v := ?_) (a' := ?_) #[true, true, false, false, false, false, false] rfl rfl (by kernel_rfl) (fun _ _ _ h => h) (Or.inl ⟨by rfl, ?_⟩) ?_ ?_
            rotate_left
            · intro w'
              go_simp
              with_reducible rfl
            rotate_left
            · simp only [Act.put, List.setIfInBounds_toArray, List.set_cons_zero, List.set_cons_succ, i64_w, i32_w]
              rfl
            refine pure_ (i := 2) (N := some 14) (v := ?_) (a' := ?_) #[true, true, true, false, false, false, false] rfl rfl (by kernel_rfl) (fun _ _ _ h => h) (Or.inl ⟨by rfl, ?_⟩) ?_ ?_
            rotate_left
            · intro w'
              go_simp
              with_reducible rfl
            rotate_left
            · simp only [Act.put, List.setIfInBounds_toArray, List.set_cons_zero, List.set_cons_succ, i64_w, i32_w]
              rfl
            refine pure_ (i := 4) (N := some 16) (v := ?_) (a' := ?_) #[true, true, true, false, true, false, false] rfl rfl (by kernel_rfl) (fun _ _ _ h => h) (Or.inl ⟨by rfl, ?_⟩) ?_ ?_
            rotate_left
            · intro w'
              go_simp
              with_reducible rfl
            rotate_left
            · simp only [Act.put, List.setIfInBounds_toArray, List.set_cons_zero, List.set_cons_succ, i64_w, i32_w]
              rfl
            refine take_ (i := 3) (N := some 15) (v := ?_) (a' := ?_) #[true, true, true, true, true, false, false] rfl rfl (by kernel_rfl) (fun _ _ _ h => h) (Or.inl ⟨by rfl, ?_⟩) hHeld ?_ ?_
            rotate_left
            · intro w' s0
              go_simp
              with_reducible rfl
            rotate_left
            · simp only [Act.put, List.setIfInBounds_toArray, List.set_cons_zero, List.set_cons_succ, i64_w, i32_w]
              rfl
            refine one_ (i := 5) (N := some 17) #[true, true, true, true, true, true, false] rfl rfl (by kernel_rfl) (by decide) (fun K hK => ?_)
            refine goes_ Try.func46 (by kernel_rfl) rfl #[.int .i64 x1_1] (by rfl) rfl rfl (by (try simp only [List.map_toArray, List.map_cons, List.map_nil]); first | done | rfl | (simp only [List.length_drop, List.length_take]; rfl)) ?_
            with_reducible refine (laws_markText.calls k1 x1_1 t102 _ A5.out).mono ?_
            rintro e w8 ⟨rfl, hb⟩
            refine ⟨_, rfl, ?_⟩
            have n0_ := Aside0.mk (below_step (by repeat (first | (with_reducible first | exact HB.out | apply below_alloc | apply pw_below_drewN | apply below_drew1) | exact HB.out)) hb)
            clear HB
            have HB := n0_
            clear n0_
            (try clear hb)
            (try clear hb2)
            (try clear hk)
            (try clear hi)
            refine hK.out _ _ (((HB.out.cell (World.block_lt_of_cell? w _ hw101_0)).trans hw101_0)) (fun hHeld => ?_)
            clear hK K
            refine norm_ (a' := ?_) ?_ ?_
            rotate_left
            · show Act.put _ (some 17) _ = _
              simp only [Act.put, List.setIfInBounds_toArray, List.set_cons_zero, List.set_cons_succ, i64_w, i32_w]
              rfl
            refine pure_ (i := 6) (N := some 18) (v := ?_) (a' := ?_) #[true, true, true, true, true, true, true] rfl rfl (by kernel_rfl) (fun _ _ _ h => h) (Or.inl ⟨by rfl, ?_⟩) ?_ ?_
            rotate_left
            · intro w'
              go_simp
              with_reducible rfl
            rotate_left
            · simp only [Act.put, List.setIfInBounds_toArray, List.set_cons_zero, List.set_cons_succ, i64_w, i32_w]
              rfl
            refine done_ (by kernel_rfl) ?_
            try go_wp2
            go_roundg k1
            case measure => have := HK1.out; omega
            case rel => exact ⟨(wrap64 (x1_1 + 1)), (wrap64 (x5_1 + 1)), (by first | rfl | (simp; done) | (simp [*]; done)), (by first | rfl | (simp; done) | (simp [*]; done)), H', ⟨by have := HK1.out; omega⟩, ⟨by repeat (first | (with_reducible first | exact HB.out | apply below_alloc | apply pw_below_drewN | apply below_drew1) | exact HB.out)⟩⟩
          · rw [if_neg c6] at H
            have c6b0 : ((rdOf ByteArray.empty l0 x5_1).toList == t102.toList) = false := beq_eq_false_iff_ne.mpr c6
            have c6b1 : ((rdOf ByteArray.empty l0 x5_1).toList != t102.toList) = true := bne_iff_ne.mpr c6
            obtain rfl := Option.some.inj H
            try go_wp2
            have n0_ := Aside0.mk (below_drew1 HB.out)
            clear HB
            have HB := n0_
            clear n0_
            have p101 : 0 ≤ (x5_1 : Int) := of_decide_eq_true (by first | (with_reducible assumption) | assumption)
            have q101 : x5_1 < (l0.length : Int) := of_decide_eq_true (by first | (with_reducible assumption) | assumption)
            obtain ⟨ad101, e101, hx101_0⟩ := Kd.at_string HR0.out x5_1 p101 q101
            have hw101_0 := hx101_0
            cases e101
            replace hx101_0 := (HB.out.cell (World.block_lt_of_cell? w _ hx101_0)).trans hx101_0
            replace p101 := eq_true p101
            replace q101 := eq_true q101
            refine start_ (n := 7) (S := fun w' => w'.cell? (ad101.add (x5_1).toNat) = some (.string (rdOf ByteArray.empty l0 x5_1))) (ds := []) #[false, false, false, false, false, false, false] (by kernel_rfl) rfl rfl (((HB.out.cell (World.block_lt_of_cell? w _ hw101_0)).trans hw101_0)) (fun hHeld => ?_)
            generalize wr.drew = w9 at HB hx101_0 hHeld ⊢
            refine pure_ (i := 0) (N := some 12) (v := ?_) (a' := ?_) #[true, false, false, false, false, false, false] rfl rfl (by kernel_rfl) (fun _ _ _ h => h) (Or.inl ⟨by rfl, ?_⟩) ?_ ?_
            rotate_left
            · intro w'
              go_simp
              with_reducible rfl
            rotate_left
            · simp only [Act.put, List.setIfInBounds_toArray, List.set_cons_zero, List.set_cons_succ, i64_w, i32_w]
              rfl
            refine pure_ (i := 1) (N := some 13) (v := ?_) (a' := ?_) #[true, true, false, false, false, false, false] rfl rfl (by kernel_rfl) (fun _ _ _ h => h) (Or.inl ⟨by rfl, ?_⟩) ?_ ?_
            rotate_left
            · intro w'
              go_simp
              with_reducible rfl
            rotate_left
            · simp only [Act.put, List.setIfInBounds_toArray, List.set_cons_zero, List.set_cons_succ, i64_w, i32_w]
              rfl
            refine pure_ (i := 2) (N := some 14) (v := ?_) (a' := ?_) #[true, true, true, false, false, false, false] rfl rfl (by kernel_rfl) (fun _ _ _ h => h) (Or.inl ⟨by rfl, ?_⟩) ?_ ?_
            rotate_left
            · intro w'
              go_simp
              with_reducible rfl
            rotate_left
            · simp only [Act.put, List.setIfInBounds_toArray, List.set_cons_zero, List.set_cons_succ, i64_w, i32_w]
              rfl
            refine pure_ (i := 4) (N := some 16) (v := ?_) (a' := ?_) #[true, true, true, false, true, false, false] rfl rfl (by kernel_rfl) (fun _ _ _ h => h) (Or.inl ⟨by rfl, ?_⟩) ?_ ?_
            rotate_left
            · intro w'
              go_simp
              with_reducible rfl
            rotate_left
            · simp only [Act.put, List.setIfInBounds_toArray, List.set_cons_zero, List.set_cons_succ, i64_w, i32_w]
              rfl
            refine take_ (i := 3) (N := some 15) (v := ?_) (a' := ?_) #[true, true, true, true, true, false, false] rfl rfl (by kernel_rfl) (fun _ _ _ h => h) (Or.inl ⟨by rfl, ?_⟩) hHeld ?_ ?_
            rotate_left
            · intro w' s0
              go_simp
              with_reducible rfl
            rotate_left
            · simp only [Act.put, List.setIfInBounds_toArray, List.set_cons_zero, List.set_cons_succ, i64_w, i32_w]
              rfl
            refine one_ (i := 5) (N := some 17) #[true, true, true, true, true, true, false] rfl rfl (by kernel_rfl) (by decide) (fun K hK => ?_)
            refine goes_ Try.func46 (by kernel_rfl) rfl #[.int .i64 x1_1] (by rfl) rfl rfl (by (try simp only [List.map_toArray, List.map_cons, List.map_nil]); first | done | rfl | (simp only [List.length_drop, List.length_take]; rfl)) ?_
            with_reducible refine (laws_markText.calls k1 x1_1 t102 _ A5.out).mono ?_
            rintro e w10 ⟨rfl, hb⟩
            refine ⟨_, rfl, ?_⟩
            have n0_ := Aside0.mk (below_step (by repeat (first | (with_reducible first | exact HB.out | apply below_alloc | apply pw_below_drewN | apply below_drew1) | exact HB.out)) hb)
            clear HB
            have HB := n0_
            clear n0_
            (try clear hb)
            (try clear hb2)
            (try clear hk)
            (try clear hi)
            refine hK.out _ _ (((HB.out.cell (World.block_lt_of_cell? w _ hw101_0)).trans hw101_0)) (fun hHeld => ?_)
            clear hK K
            refine norm_ (a' := ?_) ?_ ?_
            rotate_left
            · show Act.put _ (some 17) _ = _
              simp only [Act.put, List.setIfInBounds_toArray, List.set_cons_zero, List.set_cons_succ, i64_w, i32_w]
              rfl
            refine pure_ (i := 6) (N := some 18) (v := ?_) (a' := ?_) #[true, true, true, true, true, true, true] rfl rfl (by kernel_rfl) (fun _ _ _ h => h) (Or.inl ⟨by rfl, ?_⟩) ?_ ?_
            rotate_left
            · intro w'
              go_simp
              with_reducible rfl
            rotate_left
            · simp only [Act.put, List.setIfInBounds_toArray, List.set_cons_zero, List.set_cons_succ, i64_w, i32_w]
              rfl
            refine done_ (by kernel_rfl) ?_
            try go_wp2
            go_ret
            exact ⟨by first | rfl | (simp [errW_none, errW_some] <;> rfl) | (simp [*, errW_none, errW_some] <;> rfl), by repeat (first | (with_reducible first | exact HB.out | apply below_alloc | apply pw_below_drewN | apply below_drew1) | exact HB.out)⟩
        · rw [if_neg c4] at H
          exact absurd H (by simp)
      · rw [if_neg c3] at H
        have c3b0 : decide (x5_1 < (l0.length : Int)) = false := decide_eq_false c3
        clear c3
        obtain rfl := Option.some.inj H
        go_wp2
        go_ret
        exact ⟨by first | rfl | (simp [errW_none, errW_some] <;> rfl) | (simp [*, errW_none, errW_some] <;> rfl), by repeat (first | (with_reducible first | exact HB.out | apply below_alloc | apply pw_below_drewN | apply below_drew1) | exact HB.out)⟩

end Go.Proofs.Ytleajljmjohcaaa.P

namespace Go.Proofs.Ytleajljmjohcaaa.P
open Go.RowKit Go.Proofs.YtleajljmjohcaaaW.PrintWords Go.Proofs.YtleajljmjohcaaaW.PrintLast Go.Proofs.YtleajljmjohcaaaW.PrintMore
attribute [local go_sem] max2_int min2_int max_two min_two max_three min_three max_four min_four str_leq str_gtr str_geq
set_option linter.unusedVariables false
set_option linter.unusedSimpArgs false

mutual
def laws_FnExactPupilsOf.j0 : Nat → List (S48) → List ByteArray → Int → List (S49) → List ByteArray → Int → Bool → Option (Bool)
  | 0, _, _, _, _, _, _, _ => none
  | k + 1, x0, x4, x5, x6, x7, x8, x40 => if x40 = true then (some false) else ((laws_toLessonS.f k x0).bind fun t117 => ((laws_eqLessonS.f k x6 t117).bind fun t120 => (if t120 = true then ((laws_markLessonS.f k x6 1).bind fun bt121 => (if bt121.1 < 0 then (laws_FnExactPupilsOf.j1 k x0 x4 x5 x7 true) else ((laws_eqStringS.f k x7 x4).bind fun t123 => (if t123 = true then (laws_FnExactPupilsOf.j1 k x0 x4 x5 x7 (x8 != x5)) else (laws_FnExactPupilsOf.j1 k x0 x4 x5 x7 true))))) else (some false))))
def laws_FnExactPupilsOf.j1 : Nat → List (S48) → List ByteArray → Int → List ByteArray → Bool → Option (Bool)
  | 0, _, _, _, _, _ => none
  | k + 1, x0, x4, x5, x7, x61 => if x61 = true then (some false) else ((laws_markStringS.f k x7 1).bind fun bt124 => ((laws_heldStringS.f k bt124.2 1).bind fun t126 => (if t126 < 0 then (some false) else (if t126 = bt124.1 then ((laws_toLessonS.f k x0).bind fun t127 => ((impl_PupilsOf.f k t127).bind fun bt130 => ((laws_eqStringS.f k bt130.1 x4).bind fun t134 => (if t134 = true then (laws_FnExactPupilsOf.j2 k bt124.2 bt124.1 (bt130.2 != x5)) else (laws_FnExactPupilsOf.j2 k bt124.2 bt124.1 true))))) else (some false)))))
def laws_FnExactPupilsOf.j2 : Nat → List ByteArray → Int → Bool → Option (Bool)
  | 0, _, _, _ => none
  | k + 1, x7, x10, x87 => if x87 = true then (some false) else ((laws_heldStringS.f k x7 1).bind fun t135 => (if t135 < 0 then (some false) else (if t135 = x10 then (some true) else (some false))))
end
def laws_FnExactPupilsOf.f (k : Nat) (l0 : List (S48)) : Option (Bool) := (laws_szLessonS.f k l0 1048576).bind fun t101 => (if t101 < 0 then (some true) else ((laws_toLessonS.f k l0).bind fun t102 => ((spec_PupilsOf.f k t102).bind fun bt105 => ((laws_toLessonS.f k l0).bind fun t109 => ((impl_PupilsOf.f k t109).bind fun bt112 => ((laws_eqStringS.f k bt112.1 bt105.1).bind fun t116 => (if t116 = true then (laws_FnExactPupilsOf.j0 k l0 bt105.1 bt105.2 t109 bt112.1 bt112.2 (bt112.2 != bt105.2)) else (laws_FnExactPupilsOf.j0 k l0 bt105.1 bt105.2 t109 bt112.1 bt112.2 true))))))))
set_option maxHeartbeats 8000000 in
set_option maxRecDepth 100000 in
theorem laws_FnExactPupilsOf.calls (k : Nat) (A0 : Option Addr) (c0 : Nat) (l0 : List (S48)) (r : Bool) (w : World) (hr0 : Kd.C k48 w A0 l0.length l0) (hc0 : l0.length ≤ c0) (h : laws_FnExactPupilsOf.f k l0 = some r) :
    Calls Try.prog 5 #[.slice A0 l0.length c0] w fun e w' => e = .returned (.bool r) ∧ Below w.heap.size w w' := by
  have HR0 := Aside0.mk hr0
  have HC0 := Aside0.mk hc0
  clear hr0 hc0
  have HB := Aside0.mk (Below.refl w.heap.size w)
  have H : ((laws_szLessonS.f k l0 1048576).bind fun t101 => (if t101 < 0 then (some true) else ((laws_toLessonS.f k l0).bind fun t102 => ((spec_PupilsOf.f k t102).bind fun bt105 => ((laws_toLessonS.f k l0).bind fun t109 => ((impl_PupilsOf.f k t109).bind fun bt112 => ((laws_eqStringS.f k bt112.1 bt105.1).bind fun t116 => (if t116 = true then (laws_FnExactPupilsOf.j0 k l0 bt105.1 bt105.2 t109 bt112.1 bt112.2 (bt112.2 != bt105.2)) else (laws_FnExactPupilsOf.j0 k l0 bt105.1 bt105.2 t109 bt112.1 bt112.2 true))))))))) = some r := h
  clear h
  replace H := Option.bind_eq_some_iff.mp H
  obtain ⟨t101, A20, H⟩ := H
  replace H : (if t101 < 0 then (some true) else ((laws_toLessonS.f k l0).bind fun t102 => ((spec_PupilsOf.f k t102).bind fun bt105 => ((laws_toLessonS.f k l0).bind fun t109 => ((impl_PupilsOf.f k t109).bind fun bt112 => ((laws_eqStringS.f k bt112.1 bt105.1).bind fun t116 => (if t116 = true then (laws_FnExactPupilsOf.j0 k l0 bt105.1 bt105.2 t109 bt112.1 bt112.2 (bt112.2 != bt105.2)) else (laws_FnExactPupilsOf.j0 k l0 bt105.1 bt105.2 t109 bt112.1 bt112.2 true)))))))) = some r := H
  have A2 := Aside0.mk A20
  clear A20
  by_cases c3 : t101 < 0
  · rw [if_pos c3] at H
    have c3b0 : decide (t101 < 0) = true := decide_eq_true c3
    clear c3
    obtain rfl := Option.some.inj H
    go_enter Try.func5, Try.ntmps5
    go_wp2_with (first | ((with_reducible refine gate_callee (f := 11) rfl ?_); refine goesL_ (some 16) rfl rfl Try.func11 (by kernel_rfl) rfl #[.slice A0 l0.length c0, .int .i64 1048576] rfl (by (try simp only [List.map_toArray, List.map_cons, List.map_nil]); first | done | rfl | (simp only [List.length_drop, List.length_take]; rfl)) ?_; (with_reducible refine (laws_szLessonS.calls k _ _ l0 1048576 t101 _ ?side1 ?side2 A2.out).mono ?_); (case side1 => repeat (first | exact HR0.out | (with_reducible refine Kd.C_alloc ?_ _) | (with_reducible refine Kd.C_drewN ?_ _) | (with_reducible refine Kd.C_drew ?_))); (case side2 => exact HC0.out); rintro e w4 ⟨rfl, hb⟩; refine ⟨_, rfl, ?_⟩; have n0_ := Aside0.mk (below_step (by repeat (first | (with_reducible first | exact HB.out | apply below_alloc | apply pw_below_drewN | apply below_drew1) | exact HB.out)) hb); clear HB; have HB := n0_; clear n0_; (try clear hb); (try clear hb2); (try clear hk); (try clear hi)))
    go_ret
    exact ⟨by first | rfl | (simp [errW_none, errW_some] <;> rfl) | (simp [*, errW_none, errW_some] <;> rfl), by repeat (first | (with_reducible first | exact HB.out | apply below_alloc | apply pw_below_drewN | apply below_drew1) | exact HB.out)⟩
  · rw [if_neg c3] at H
    have c3b0 : decide (t101 < 0) = false := decide_eq_false c3
    clear c3
    replace H := Option.bind_eq_some_iff.mp H
    obtain ⟨t102, A50, H⟩ := H
    replace H : ((spec_PupilsOf.f k t102).bind fun bt105 => ((laws_toLessonS.f k l0).bind fun t109 => ((impl_PupilsOf.f k t109).bind fun bt112 => ((laws_eqStringS.f k bt112.1 bt105.1).bind fun t116 => (if t116 = true then (laws_FnExactPupilsOf.j0 k l0 bt105.1 bt105.2 t109 bt112.1 bt112.2 (bt112.2 != bt105.2)) else (laws_FnExactPupilsOf.j0 k l0 bt105.1 bt105.2 t109 bt112.1 bt112.2 true)))))) = some r := H
    have A5 := Aside0.mk A50
    clear A50
    replace H := Option.bind_eq_some_iff.mp H
    obtain ⟨⟨t105, t106⟩, A60, H⟩ := H
    replace H : ((laws_toLessonS.f k l0).bind fun t109 => ((impl_PupilsOf.f k t109).bind fun bt112 => ((laws_eqStringS.f k bt112.1 t105).bind fun t116 => (if t116 = true then (laws_FnExactPupilsOf.j0 k l0 t105 t106 t109 bt112.1 bt112.2 (bt112.2 != t106)) else (laws_FnExactPupilsOf.j0 k l0 t105 t106 t109 bt112.1 bt112.2 true))))) = some r := H
    have A6 := Aside0.mk A60
    clear A60
    replace H := Option.bind_eq_some_iff.mp H
    obtain ⟨t109, A70, H⟩ := H
    replace H : ((impl_PupilsOf.f k t109).bind fun bt112 => ((laws_eqStringS.f k bt112.1 t105).bind fun t116 => (if t116 = true then (laws_FnExactPupilsOf.j0 k l0 t105 t106 t109 bt112.1 bt112.2 (bt112.2 != t106)) else (laws_FnExactPupilsOf.j0 k l0 t105 t106 t109 bt112.1 bt112.2 true)))) = some r := H
    have A7 := Aside0.mk A70
    clear A70
    replace H := Option.bind_eq_some_iff.mp H
    obtain ⟨⟨t112, t113⟩, A80, H⟩ := H
    replace H : ((laws_eqStringS.f k t112 t105).bind fun t116 => (if t116 = true then (laws_FnExactPupilsOf.j0 k l0 t105 t106 t109 t112 t113 (t113 != t106)) else (laws_FnExactPupilsOf.j0 k l0 t105 t106 t109 t112 t113 true))) = some r := H
    have A8 := Aside0.mk A80
    clear A80
    have HC9 := Aside0.mk H
    clear H
    go_enter Try.func5, Try.ntmps5
    go_upto_region 8 with (first | ((with_reducible refine gate_callee (f := 11) rfl ?_); refine goesL_ (some 16) rfl rfl Try.func11 (by kernel_rfl) rfl #[.slice A0 l0.length c0, .int .i64 1048576] rfl (by (try simp only [List.map_toArray, List.map_cons, List.map_nil]); first | done | rfl | (simp only [List.length_drop, List.length_take]; rfl)) ?_; (with_reducible refine (laws_szLessonS.calls k _ _ l0 1048576 t101 _ ?side1 ?side2 A2.out).mono ?_); (case side1 => repeat (first | exact HR0.out | (with_reducible refine Kd.C_alloc ?_ _) | (with_reducible refine Kd.C_drewN ?_ _) | (with_reducible refine Kd.C_drew ?_))); (case side2 => exact HC0.out); rintro e w10 ⟨rfl, hb⟩; refine ⟨_, rfl, ?_⟩; have n0_ := Aside0.mk (below_step (by repeat (first | (with_reducible first | exact HB.out | apply below_alloc | apply pw_below_drewN | apply below_drew1) | exact HB.out)) hb); clear HB; have HB := n0_; clear n0_; (try clear hb); (try clear hb2); (try clear hk); (try clear hi)) | ((with_reducible refine gate_callee (f := 13) rfl ?_); refine goesL_ (some 21) rfl rfl Try.func13 (by kernel_rfl) rfl #[.slice A0 l0.length c0] rfl (by (try simp only [List.map_toArray, List.map_cons, List.map_nil]); first | done | rfl | (simp only [List.length_drop, List.length_take]; rfl)) ?_; (with_reducible refine (laws_toLessonS.calls k _ _ l0 t102 _ ?side1 ?side2 A5.out).mono ?_); (case side1 => repeat (first | exact (Kd.C_below HR0.out HB.out) | (with_reducible refine Kd.C_alloc ?_ _) | (with_reducible refine Kd.C_drewN ?_ _) | (with_reducible refine Kd.C_drew ?_))); (case side2 => exact HC0.out); rintro e w11 ⟨v103, rfl, ho0, hb⟩; refine ⟨_, rfl, ?_⟩; have n0_ := Aside0.mk (Kd.R_lower ho0 (below_size (by repeat (first | (with_reducible first | exact HB.out | apply below_alloc | apply pw_below_drewN | apply below_drew1) | exact HB.out)))); have n1_ := Aside0.mk (below_step (by repeat (first | (with_reducible first | exact HB.out | apply below_alloc | apply pw_below_drewN | apply below_drew1) | exact HB.out)) hb); clear HB; have HO104 := n0_; have HB := n1_; clear n0_ n1_; (try clear hb); (try clear hb2); (try clear hk); (try clear hi); (try clear ho0); obtain ⟨Ao12, co12, eo12⟩ := Kd.R_slice HO104.out; subst eo12) | ((with_reducible refine gate_callee (f := 18) rfl ?_); refine goesL_ (some 22) rfl rfl Try.func18 (by kernel_rfl) rfl #[.slice Ao12 t102.length co12] rfl (by (try simp only [List.map_toArray, List.map_cons, List.map_nil]); first | done | rfl | (simp only [List.length_drop, List.length_take]; rfl)) ?_; (with_reducible refine (spec_PupilsOf.calls k _ _ t102 t105 t106 _ ?side1 ?side2 A6.out).mono ?_); (case side1 => repeat (first | exact (Kd.R_reads' HO104.out).2.2 | (with_reducible refine Kd.C_alloc ?_ _) | (with_reducible refine Kd.C_drewN ?_ _) | (with_reducible refine Kd.C_drew ?_))); (case side2 => exact (Kd.R_reads' HO104.out).2.1); rintro e w13 ⟨v107, rfl, ho0, hb⟩; refine ⟨_, rfl, ?_⟩; have n0_ := Aside0.mk (Kd.R_below (by (with_reducible repeat (first | apply Kd.R_alloc | apply Kd.R_drewN | apply Kd.R_drew)); exact HO104.out) hb); have n1_ := Aside0.mk (Kd.R_lower ho0 (below_size (by repeat (first | (with_reducible first | exact HB.out | apply below_alloc | apply pw_below_drewN | apply below_drew1) | exact HB.out)))); have n2_ := Aside0.mk (below_step (by repeat (first | (with_reducible first | exact HB.out | apply below_alloc | apply pw_below_drewN | apply below_drew1) | exact HB.out)) hb); clear HO104; clear HB; have HO104 := n0_; have HO108 := n1_; have HB := n2_; clear n0_ n1_ n2_; (try clear hb); (try clear hb2); (try clear hk); (try clear hi); (try clear ho0)) | ((with_reducible refine gate_callee (f := 13) rfl ?_); refine goesL_ (some 26) rfl rfl Try.func13 (by kernel_rfl) rfl #[.slice A0 l0.length c0] rfl (by (try simp only [List.map_toArray, List.map_cons, List.map_nil]); first | done | rfl | (simp only [List.length_drop, List.length_take]; rfl)) ?_; (with_reducible refine (laws_toLessonS.calls k _ _ l0 t109 _ ?side1 ?side2 A7.out).mono ?_); (case side1 => repeat (first | exact (Kd.C_below HR0.out HB.out) | (with_reducible refine Kd.C_alloc ?_ _) | (with_reducible refine Kd.C_drewN ?_ _) | (with_reducible refine Kd.C_drew ?_))); (case side2 => exact HC0.out); rintro e w14 ⟨v110, rfl, ho0, hb⟩; refine ⟨_, rfl, ?_⟩; have n0_ := Aside0.mk (Kd.R_elder' (by (with_reducible repeat (first | apply Kd.R_alloc | apply Kd.R_drewN | apply Kd.R_drew)); exact HO104.out) (Kd.R_base ho0) hb); have n1_ := Aside0.mk (Kd.R_below (by (with_reducible repeat (first | apply Kd.R_alloc | apply Kd.R_drewN | apply Kd.R_drew)); exact HO108.out) hb); have n2_ := Aside0.mk (Kd.R_lower (Kd.R_new' ho0 (Kd.R_lt (by (with_reducible repeat (first | apply Kd.R_alloc | apply Kd.R_drewN | apply Kd.R_drew)); exact HO104.out))) (below_size (by repeat (first | (with_reducible first | exact HB.out | apply below_alloc | apply pw_below_drewN | apply below_drew1) | exact HB.out)))); have n3_ := Aside0.mk (below_step (by repeat (first | (with_reducible first | exact HB.out | apply below_alloc | apply pw_below_drewN | apply below_drew1) | exact HB.out)) hb); clear HO104; clear HO108; clear HB; have HO104 := n0_; have HO108 := n1_; have HO111 := n2_; have HB := n3_; clear n0_ n1_ n2_ n3_; (try clear hb); (try clear hb2); (try clear hk); (try clear hi); (try clear ho0); obtain ⟨Ao15, co15, eo15⟩ := Kd.R_slice HO111.out; subst eo15) | ((with_reducible refine gate_callee (f := 19) rfl ?_); refine goesL_ (some 29) rfl rfl Try.func19 (by kernel_rfl) rfl #[.slice Ao15 t109.length co15] rfl (by (try simp only [List.map_toArray, List.map_cons, List.map_nil]); first | done | rfl | (simp only [List.length_drop, List.length_take]; rfl)) ?_; (with_reducible refine (impl_PupilsOf.calls k _ _ t109 t112 t113 _ ?side1 ?side2 A8.out).mono ?_); (case side1 => repeat (first | exact (Kd.R_reads' HO111.out).2.2 | (with_reducible refine Kd.C_alloc ?_ _) | (with_reducible refine Kd.C_drewN ?_ _) | (with_reducible refine Kd.C_drew ?_))); (case side2 => exact (Kd.R_reads' HO111.out).2.1); rintro e w16 ⟨v114, rfl, ho0, hb⟩; refine ⟨_, rfl, ?_⟩; have n0_ := Aside0.mk (Kd.R_below (by (with_reducible repeat (first | apply Kd.R_alloc | apply Kd.R_drewN | apply Kd.R_drew)); exact HO104.out) hb); have n1_ := Aside0.mk (Kd.R_elder' (by (with_reducible repeat (first | apply Kd.R_alloc | apply Kd.R_drewN | apply Kd.R_drew)); exact HO108.out) (Kd.R_base ho0) hb); have n2_ := Aside0.mk (Kd.R_below (by (with_reducible repeat (first | apply Kd.R_alloc | apply Kd.R_drewN | apply Kd.R_drew)); exact HO111.out) hb); have n3_ := Aside0.mk (Kd.R_lower (Kd.R_new' ho0 (Kd.R_lt (by (with_reducible repeat (first | apply Kd.R_alloc | apply Kd.R_drewN | apply Kd.R_drew)); exact HO108.out))) (below_size (by repeat (first | (with_reducible first | exact HB.out | apply below_alloc | apply pw_below_drewN | apply below_drew1) | exact HB.out)))); have n4_ := Aside0.mk (below_step (by repeat (first | (with_reducible first | exact HB.out | apply below_alloc | apply pw_below_drewN | apply below_drew1) | exact HB.out)) hb); clear HO104; clear HO108; clear HO111; clear HB; have HO104 := n0_; have HO108 := n1_; have HO111 := n2_; have HO115 := n3_; have HB := n4_; clear n0_ n1_ n2_ n3_ n4_; (try clear hb); (try clear hb2); (try clear hk); (try clear hi); (try clear ho0)))
    (try simp only [Act.put, List.setIfInBounds_toArray, List.set_cons_zero, List.set_cons_succ])
    go_cut [40] (fun v40 wc => ∃ (kq : Nat) (x40_8 : Bool), v40 = .bool x40_8 ∧ Aside0 (laws_FnExactPupilsOf.j0 kq l0 t105 t106 t109 t112 t113 x40_8 = some r) ∧ Aside0 (kq ≤ k) ∧ Aside0 (Kd.R Kd.string 9 wc w.heap.size (fun k_ => some k_ ≠ (v114 : Value).ownBlock) v107 t105) ∧ Aside0 (Kd.R k49 49 wc w.heap.size (fun _ => True) (.slice Ao15 t109.length co15) t109) ∧ Aside0 (Kd.R Kd.string 9 wc w.heap.size (fun k_ => some k_ ≠ (v107 : Value).ownBlock) v114 t112) ∧ Aside0 (Below w.heap.size w wc))
    case first =>
      have H := HC9.out
      clear HC9
      replace H := Option.bind_eq_some_iff.mp H
      obtain ⟨t116, A170, H⟩ := H
      replace H : (if t116 = true then (laws_FnExactPupilsOf.j0 k l0 t105 t106 t109 t112 t113 (t113 != t106)) else (laws_FnExactPupilsOf.j0 k l0 t105 t106 t109 t112 t113 true)) = some r := H
      have A17 := Aside0.mk A170
      clear A170
      by_cases c18 : t116 = true
      · subst c18
        have H1 : (laws_FnExactPupilsOf.j0 k l0 t105 t106 t109 t112 t113 (t113 != t106)) = some r := by rw [if_pos rfl] at H; exact H
        clear H
        have H := H1
        clear H1
        have H' := Aside0.mk H
        clear H
        obtain ⟨Ao19, co19, eo19⟩ := Kd.R_slice HO115.out
        subst eo19
        obtain ⟨Ao20, co20, eo20⟩ := Kd.R_slice HO108.out
        subst eo20
        go_wp2_with (first | ((with_reducible refine gate_callee (f := 20) rfl ?_); refine goesL_ (some 34) rfl rfl Try.func20 (by kernel_rfl) rfl #[.slice Ao19 t112.length co19, .slice Ao20 t105.length co20] rfl (by (try simp only [List.map_toArray, List.map_cons, List.map_nil]); first | done | rfl | (simp only [List.length_drop, List.length_take]; rfl)) ?_; (with_reducible refine (laws_eqStringS.calls k _ _ t112 _ _ t105 true _ ?side1 ?side2 ?side3 ?side4 A17.out).mono ?_); (case side1 => repeat (first | exact (Kd.R_reads' HO115.out).2.2 | (with_reducible refine Kd.C_alloc ?_ _) | (with_reducible refine Kd.C_drewN ?_ _) | (with_reducible refine Kd.C_drew ?_))); (case side2 => exact (Kd.R_reads' HO115.out).2.1); (case side3 => repeat (first | exact (Kd.R_reads' HO108.out).2.2 | (with_reducible refine Kd.C_alloc ?_ _) | (with_reducible refine Kd.C_drewN ?_ _) | (with_reducible refine Kd.C_drew ?_))); (case side4 => exact (Kd.R_reads' HO108.out).2.1); rintro e w' ⟨rfl, ⟨nd, rfl⟩⟩; refine ⟨_, rfl, ?_⟩))
        go_meet
        case rel => exact ⟨_, ((t113 != t106)), (by first | rfl | (simp; done) | (simp [*]; done)), H', ⟨by first | omega | exact Nat.le_refl _⟩, ⟨by (with_reducible repeat (first | apply Kd.R_alloc | apply Kd.R_drewN | apply Kd.R_drew)); exact Kd.R_mono HO108.out (fun _ hk => hk.2)⟩, ⟨by (with_reducible repeat (first | apply Kd.R_alloc | apply Kd.R_drewN | apply Kd.R_drew)); exact Kd.R_mono HO111.out (fun _ hk => trivial)⟩, ⟨by (with_reducible repeat (first | apply Kd.R_alloc | apply Kd.R_drewN | apply Kd.R_drew)); exact Kd.R_mono HO115.out (fun _ hk => hk.2)⟩, ⟨by repeat (first | (with_reducible first | exact HB.out | apply below_alloc | apply pw_below_drewN | apply below_drew1) | exact HB.out)⟩⟩
      · replace c18 := Bool.eq_false_iff.mpr c18
        subst c18
        have H1 : (laws_FnExactPupilsOf.j0 k l0 t105 t106 t109 t112 t113 true) = some r := by rw [if_neg (show ¬ (false = true) by decide)] at H; exact H
        clear H
        have H := H1
        clear H1
        have H' := Aside0.mk H
        clear H
        obtain ⟨Ao21, co21, eo21⟩ := Kd.R_slice HO115.out
        subst eo21
        obtain ⟨Ao22, co22, eo22⟩ := Kd.R_slice HO108.out
        subst eo22
        go_wp2_with (first | ((with_reducible refine gate_callee (f := 20) rfl ?_); refine goesL_ (some 34) rfl rfl Try.func20 (by kernel_rfl) rfl #[.slice Ao21 t112.length co21, .slice Ao22 t105.length co22] rfl (by (try simp only [List.map_toArray, List.map_cons, List.map_nil]); first | done | rfl | (simp only [List.length_drop, List.length_take]; rfl)) ?_; (with_reducible refine (laws_eqStringS.calls k _ _ t112 _ _ t105 false _ ?side1 ?side2 ?side3 ?side4 A17.out).mono ?_); (case side1 => repeat (first | exact (Kd.R_reads' HO115.out).2.2 | (with_reducible refine Kd.C_alloc ?_ _) | (with_reducible refine Kd.C_drewN ?_ _) | (with_reducible refine Kd.C_drew ?_))); (case side2 => exact (Kd.R_reads' HO115.out).2.1); (case side3 => repeat (first | exact (Kd.R_reads' HO108.out).2.2 | (with_reducible refine Kd.C_alloc ?_ _) | (with_reducible refine Kd.C_drewN ?_ _) | (with_reducible refine Kd.C_drew ?_))); (case side4 => exact (Kd.R_reads' HO108.out).2.1); rintro e w' ⟨rfl, ⟨nd, rfl⟩⟩; refine ⟨_, rfl, ?_⟩))
        go_meet
        case rel => exact ⟨_, (true), (by first | rfl | (simp; done) | (simp [*]; done)), H', ⟨by first | omega | exact Nat.le_refl _⟩, ⟨by (with_reducible repeat (first | apply Kd.R_alloc | apply Kd.R_drewN | apply Kd.R_drew)); exact Kd.R_mono HO108.out (fun _ hk => hk.2)⟩, ⟨by (with_reducible repeat (first | apply Kd.R_alloc | apply Kd.R_drewN | apply Kd.R_drew)); exact Kd.R_mono HO111.out (fun _ hk => trivial)⟩, ⟨by (with_reducible repeat (first | apply Kd.R_alloc | apply Kd.R_drewN | apply Kd.R_drew)); exact Kd.R_mono HO115.out (fun _ hk => hk.2)⟩, ⟨by repeat (first | (with_reducible first | exact HB.out | apply below_alloc | apply pw_below_drewN | apply below_drew1) | exact HB.out)⟩⟩
    case rest =>
      clear HC9
      try clear c1
      try clear c2
      try clear p2
      try clear c3
      try clear c3b0
      try clear c5
      try clear c11
      try clear c13
      try clear c18
      try clear c19
      try clear c20
      obtain ⟨kq, x40_8, rfl, HA, HJ8, HO_4, HO_6, HO_7, HB⟩ := hcut
      cases kq with
      | zero => exact absurd HA.out (by simp [laws_FnExactPupilsOf.j0])
      | succ kj8 =>
        have H := HA.out
        clear HA
        simp only [laws_FnExactPupilsOf.j0] at H
        by_cases c23 : x40_8 = true
        · subst c23
          have H1 : (some false) = some r := by rw [if_pos rfl] at H; exact H
          clear H
          have H := H1
          clear H1
          obtain rfl := Option.some.inj H
          go_wp2
          go_ret
          exact ⟨by first | rfl | (simp [errW_none, errW_some] <;> rfl) | (simp [*, errW_none, errW_some] <;> rfl), by repeat (first | (with_reducible first | exact HB.out | apply below_alloc | apply pw_below_drewN | apply below_drew1) | exact HB.out)⟩
        · replace c23 := Bool.eq_false_iff.mpr c23
          subst c23
          have H1 : ((laws_toLessonS.f kj8 l0).bind fun t117 => ((laws_eqLessonS.f kj8 t109 t117).bind fun t120 => (if t120 = true then ((laws_markLessonS.f kj8 t109 1).bind fun bt121 => (if bt121.1 < 0 then (laws_FnExactPupilsOf.j1 kj8 l0 t105 t106 t112 true) else ((laws_eqStringS.f kj8 t112 t105).bind fun t123 => (if t123 = true then (laws_FnExactPupilsOf.j1 kj8 l0 t105 t106 t112 (t113 != t106)) else (laws_FnExactPupilsOf.j1 kj8 l0 t105 t106 t112 true))))) else (some false)))) = some r := by rw [if_neg (show ¬ (false = true) by decide)] at H; exact H
          clear H
          have H := H1
          clear H1
          replace H := Option.bind_eq_some_iff.mp H
          obtain ⟨t117, A240, H⟩ := H
          replace H : ((laws_eqLessonS.f kj8 t109 t117).bind fun t120 => (if t120 = true then ((laws_markLessonS.f kj8 t109 1).bind fun bt121 => (if bt121.1 < 0 then (laws_FnExactPupilsOf.j1 kj8 l0 t105 t106 t112 true) else ((laws_eqStringS.f kj8 t112 t105).bind fun t123 => (if t123 = true then (laws_FnExactPupilsOf.j1 kj8 l0 t105 t106 t112 (t113 != t106)) else (laws_FnExactPupilsOf.j1 kj8 l0 t105 t106 t112 true))))) else (some false))) = some r := H
          have A24 := Aside0.mk A240
          clear A240
          replace H := Option.bind_eq_some_iff.mp H
          obtain ⟨t120, A250, H⟩ := H
          replace H : (if t120 = true then ((laws_markLessonS.f kj8 t109 1).bind fun bt121 => (if bt121.1 < 0 then (laws_FnExactPupilsOf.j1 kj8 l0 t105 t106 t112 true) else ((laws_eqStringS.f kj8 t112 t105).bind fun t123 => (if t123 = true then (laws_FnExactPupilsOf.j1 kj8 l0 t105 t106 t112 (t113 != t106)) else (laws_FnExactPupilsOf.j1 kj8 l0 t105 t106 t112 true))))) else (some false)) = some r := H
          have A25 := Aside0.mk A250
          clear A250
          by_cases c26 : t120 = true
          · subst c26
            have H1 : ((laws_markLessonS.f kj8 t109 1).bind fun bt121 => (if bt121.1 < 0 then (laws_FnExactPupilsOf.j1 kj8 l0 t105 t106 t112 true) else ((laws_eqStringS.f kj8 t112 t105).bind fun t123 => (if t123 = true then (laws_FnExactPupilsOf.j1 kj8 l0 t105 t106 t112 (t113 != t106)) else (laws_FnExactPupilsOf.j1 kj8 l0 t105 t106 t112 true))))) = some r := by rw [if_pos rfl] at H; exact H
            clear H
            have H := H1
            clear H1
            replace H := Option.bind_eq_some_iff.mp H
            obtain ⟨⟨t121, t122⟩, A270, H⟩ := H
            replace H : (if t121 < 0 then (laws_FnExactPupilsOf.j1 kj8 l0 t105 t106 t112 true) else ((laws_eqStringS.f kj8 t112 t105).bind fun t123 => (if t123 = true then (laws_FnExactPupilsOf.j1 kj8 l0 t105 t106 t112 (t113 != t106)) else (laws_FnExactPupilsOf.j1 kj8 l0 t105 t106 t112 true)))) = some r := H
            have A27 := Aside0.mk A270
            clear A270
            have HC28 := Aside0.mk H
            clear H
            go_upto_region 14 with (first | ((with_reducible refine gate_callee (f := 13) rfl ?_); refine goesL_ (some 43) rfl rfl Try.func13 (by kernel_rfl) rfl #[.slice A0 l0.length c0] rfl (by (try simp only [List.map_toArray, List.map_cons, List.map_nil]); first | done | rfl | (simp only [List.length_drop, List.length_take]; rfl)) ?_; (with_reducible refine (laws_toLessonS.calls kj8 _ _ l0 t117 _ ?side1 ?side2 A24.out).mono ?_); (case side1 => repeat (first | exact (Kd.C_below HR0.out HB.out) | (with_reducible refine Kd.C_alloc ?_ _) | (with_reducible refine Kd.C_drewN ?_ _) | (with_reducible refine Kd.C_drew ?_))); (case side2 => exact HC0.out); rintro e w29 ⟨v118, rfl, ho0, hb⟩; refine ⟨_, rfl, ?_⟩; have n0_ := Aside0.mk (Kd.R_below (by (with_reducible repeat (first | apply Kd.R_alloc | apply Kd.R_drewN | apply Kd.R_drew)); exact HO_4.out) hb); have n1_ := Aside0.mk (Kd.R_elder' (by (with_reducible repeat (first | apply Kd.R_alloc | apply Kd.R_drewN | apply Kd.R_drew)); exact HO_6.out) (Kd.R_base ho0) hb); have n2_ := Aside0.mk (Kd.R_below (by (with_reducible repeat (first | apply Kd.R_alloc | apply Kd.R_drewN | apply Kd.R_drew)); exact HO_7.out) hb); have n3_ := Aside0.mk (Kd.R_lower (Kd.R_new' ho0 (Kd.R_lt (by (with_reducible repeat (first | apply Kd.R_alloc | apply Kd.R_drewN | apply Kd.R_drew)); exact HO_6.out))) (below_size (by repeat (first | (with_reducible first | exact HB.out | apply below_alloc | apply pw_below_drewN | apply below_drew1) | exact HB.out)))); have n4_ := Aside0.mk (below_step (by repeat (first | (with_reducible first | exact HB.out | apply below_alloc | apply pw_below_drewN | apply below_drew1) | exact HB.out)) hb); clear HO_4; clear HO_6; clear HO_7; clear HB; have HO_4 := n0_; have HO_6 := n1_; have HO_7 := n2_; have HO119 := n3_; have HB := n4_; clear n0_ n1_ n2_ n3_ n4_; (try clear hb); (try clear hb2); (try clear hk); (try clear hi); (try clear ho0); obtain ⟨Ao30, co30, eo30⟩ := Kd.R_slice HO119.out; subst eo30) | ((with_reducible refine gate_callee (f := 15) rfl ?_); refine goesL_ (some 44) rfl rfl Try.func15 (by kernel_rfl) rfl #[.slice Ao15 t109.length co15, .slice Ao30 t117.length co30] rfl (by (try simp only [List.map_toArray, List.map_cons, List.map_nil]); first | done | rfl | (simp only [List.length_drop, List.length_take]; rfl)) ?_; (with_reducible refine (laws_eqLessonS.calls kj8 _ _ t109 _ _ t117 true _ ?side1 ?side2 ?side3 ?side4 A25.out).mono ?_); (case side1 => repeat (first | exact (Kd.R_reads' HO_6.out).2.2 | (with_reducible refine Kd.C_alloc ?_ _) | (with_reducible refine Kd.C_drewN ?_ _) | (with_reducible refine Kd.C_drew ?_))); (case side2 => exact (Kd.R_reads' HO_6.out).2.1); (case side3 => repeat (first | exact (Kd.R_reads' HO119.out).2.2 | (with_reducible refine Kd.C_alloc ?_ _) | (with_reducible refine Kd.C_drewN ?_ _) | (with_reducible refine Kd.C_drew ?_))); (case side4 => exact (Kd.R_reads' HO119.out).2.1); rintro e w31 ⟨rfl, hb⟩; refine ⟨_, rfl, ?_⟩; have n0_ := Aside0.mk (Kd.R_below (by (with_reducible repeat (first | apply Kd.R_alloc | apply Kd.R_drewN | apply Kd.R_drew)); exact HO_4.out) hb); have n1_ := Aside0.mk (Kd.R_below (by (with_reducible repeat (first | apply Kd.R_alloc | apply Kd.R_drewN | apply Kd.R_drew)); exact HO_6.out) hb); have n2_ := Aside0.mk (Kd.R_below (by (with_reducible repeat (first | apply Kd.R_alloc | apply Kd.R_drewN | apply Kd.R_drew)); exact HO_7.out) hb); have n3_ := Aside0.mk (Kd.R_below (by (with_reducible repeat (first | apply Kd.R_alloc | apply Kd.R_drewN | apply Kd.R_drew)); exact HO119.out) hb); have n4_ := Aside0.mk (below_step (by repeat (first | (with_reducible first | exact HB.out | apply below_alloc | apply pw_below_drewN | apply below_drew1) | exact HB.out)) hb); clear HO_4; clear HO_6; clear HO_7; clear HO119; clear HB; have HO_4 := n0_; have HO_6 := n1_; have HO_7 := n2_; have HO119 := n3_; have HB := n4_; clear n0_ n1_ n2_ n3_ n4_; (try clear hb); (try clear hb2); (try clear hk); (try clear hi)) | ((with_reducible refine gate_callee (f := 21) rfl ?_); refine goesL_ (some 48) rfl rfl Try.func21 (by kernel_rfl) rfl #[.slice Ao15 t109.length co15, .int .i64 1] rfl (by (try simp only [List.map_toArray, List.map_cons, List.map_nil]); first | done | rfl | (simp only [List.length_drop, List.length_take]; rfl)) ?_; (with_reducible refine (laws_markLessonS.calls kj8 (fun k_ => some k_ = (.slice Ao15 t109.length co15 : Value).ownBlock) (.slice Ao15 t109.length co15) t109 1 t121 t122 w _ ?side1 ?side2 A27.out).mono ?_); (case side1 => repeat (first | (with_reducible first | exact HB.out | apply below_alloc | apply pw_below_drewN | apply below_drew1) | exact HB.out)); (case side2 => exact Kd.R_tight rfl HO_6.out); rintro e w32 ⟨rfl, hy0, hb, hkp⟩; refine ⟨_, rfl, ?_⟩; have n0_ := Aside0.mk (Kd.R_mono (ok' := fun k_ => some k_ ≠ (v114 : Value).ownBlock) (Kd.R_keptB ((Kd.R_apart' HO_4.out (Kd.R_typed HO_6.out) (by decide))) hkp (fun k_ hk_ hs_ => (hk_.2) hs_)) (fun k_ hk_ => hk_.1.1)); have n1_ := Aside0.mk (Kd.R_reok rfl hy0 (fun k_ e_ => HO_6.out.1 k_ e_)); have n2_ := Aside0.mk (Kd.R_mono (ok' := fun k_ => some k_ ≠ (v107 : Value).ownBlock) (Kd.R_keptB ((Kd.R_apart' HO_7.out (Kd.R_typed HO_6.out) (by decide))) hkp (fun k_ hk_ hs_ => (hk_.2) hs_)) (fun k_ hk_ => hk_.1.1)); have n3_ := Aside0.mk (Kd.R_mono (ok' := fun k_ => some k_ ≠ (.slice Ao15 t109.length co15 : Value).ownBlock) (Kd.R_keptB (HO119.out) hkp (fun k_ hk_ hs_ => (hk_.2) hs_)) (fun k_ hk_ => hk_.1.2)); have n4_ := Aside0.mk (hb); clear HO_4; clear HO_6; clear HO_7; clear HO119; clear HB; have HO_4 := n0_; have HO_6 := n1_; have HO_7 := n2_; have HO119 := n3_; have HB := n4_; clear n0_ n1_ n2_ n3_ n4_; (try clear hb); (try clear hkp); (try clear hy0)))
            (try simp only [Act.put, List.setIfInBounds_toArray, List.set_cons_zero, List.set_cons_succ])
            go_cut [61] (fun v61 wc => ∃ (kq : Nat) (x61_27 : Bool), v61 = .bool x61_27 ∧ Aside0 (laws_FnExactPupilsOf.j1 kq l0 t105 t106 t112 x61_27 = some r) ∧ Aside0 (kq ≤ kj8) ∧ Aside0 (Kd.R Kd.string 9 wc w.heap.size (fun k_ => some k_ ≠ (v114 : Value).ownBlock) v107 t105) ∧ Aside0 (Kd.R Kd.string 9 wc w.heap.size (fun k_ => some k_ ≠ (v107 : Value).ownBlock) v114 t112) ∧ Aside0 (Below w.heap.size w wc))
            case first =>
              have H := HC28.out
              clear HC28
              by_cases c33 : t121 < 0
              · rw [if_pos c33] at H
                have c33b0 : decide (t121 < 0) = true := decide_eq_true c33
                clear c33
                (first | rw [c33b0] | (simp only [i64_w, i32_w]; rw [c33b0]) | skip)
                have H' := Aside0.mk H
                clear H
                go_wp2
                go_meet
                case rel => exact ⟨_, (true), (by first | rfl | (simp; done) | (simp [*]; done)), H', ⟨by have := HJ8.out; first | omega | exact Nat.le_refl _⟩, ⟨by (with_reducible repeat (first | apply Kd.R_alloc | apply Kd.R_drewN | apply Kd.R_drew)); exact HO_4.out⟩, ⟨by (with_reducible repeat (first | apply Kd.R_alloc | apply Kd.R_drewN | apply Kd.R_drew)); exact HO_7.out⟩, ⟨by repeat (first | (with_reducible first | exact HB.out | apply below_alloc | apply pw_below_drewN | apply below_drew1) | exact HB.out)⟩⟩
              · rw [if_neg c33] at H
                have c33b0 : decide (t121 < 0) = false := decide_eq_false c33
                clear c33
                (first | rw [c33b0] | (simp only [i64_w, i32_w]; rw [c33b0]) | skip)
                replace H := Option.bind_eq_some_iff.mp H
                obtain ⟨t123, A340, H⟩ := H
                replace H : (if t123 = true then (laws_FnExactPupilsOf.j1 kj8 l0 t105 t106 t112 (t113 != t106)) else (laws_FnExactPupilsOf.j1 kj8 l0 t105 t106 t112 true)) = some r := H
                have A34 := Aside0.mk A340
                clear A340
                by_cases c35 : t123 = true
                · subst c35
                  have H1 : (laws_FnExactPupilsOf.j1 kj8 l0 t105 t106 t112 (t113 != t106)) = some r := by rw [if_pos rfl] at H; exact H
                  clear H
                  have H := H1
                  clear H1
                  have H' := Aside0.mk H
                  clear H
                  obtain ⟨Ao36, co36, eo36⟩ := Kd.R_slice HO_7.out
                  subst eo36
                  obtain ⟨Ao37, co37, eo37⟩ := Kd.R_slice HO_4.out
                  subst eo37
                  go_wp2_with (first | (go_at_call 20; (with_reducible refine (laws_eqStringS.calls kj8 _ _ t112 _ _ t105 true _ ?side1 ?side2 ?side3 ?side4 A34.out).mono ?_); (case side1 => repeat (first | exact (Kd.R_reads' HO_7.out).2.2 | (with_reducible refine Kd.C_alloc ?_ _) | (with_reducible refine Kd.C_drewN ?_ _) | (with_reducible refine Kd.C_drew ?_))); (case side2 => exact (Kd.R_reads' HO_7.out).2.1); (case side3 => repeat (first | exact (Kd.R_reads' HO_4.out).2.2 | (with_reducible refine Kd.C_alloc ?_ _) | (with_reducible refine Kd.C_drewN ?_ _) | (with_reducible refine Kd.C_drew ?_))); (case side4 => exact (Kd.R_reads' HO_4.out).2.1); rintro e w' ⟨rfl, ⟨nd, rfl⟩⟩))
                  go_meet
                  case rel => exact ⟨_, ((t113 != t106)), (by first | rfl | (simp; done) | (simp [*]; done)), H', ⟨by have := HJ8.out; first | omega | exact Nat.le_refl _⟩, ⟨by (with_reducible repeat (first | apply Kd.R_alloc | apply Kd.R_drewN | apply Kd.R_drew)); exact HO_4.out⟩, ⟨by (with_reducible repeat (first | apply Kd.R_alloc | apply Kd.R_drewN | apply Kd.R_drew)); exact HO_7.out⟩, ⟨by repeat (first | (with_reducible first | exact HB.out | apply below_alloc | apply pw_below_drewN | apply below_drew1) | exact HB.out)⟩⟩
                · replace c35 := Bool.eq_false_iff.mpr c35
                  subst c35
                  have H1 : (laws_FnExactPupilsOf.j1 kj8 l0 t105 t106 t112 true) = some r := by rw [if_neg (show ¬ (false = true) by decide)] at H; exact H
                  clear H
                  have H := H1
                  clear H1
                  have H' := Aside0.mk H
                  clear H
                  obtain ⟨Ao38, co38, eo38⟩ := Kd.R_slice HO_7.out
                  subst eo38
                  obtain ⟨Ao39, co39, eo39⟩ := Kd.R_slice HO_4.out
                  subst eo39
                  go_wp2_with (first | (go_at_call 20; (with_reducible refine (laws_eqStringS.calls kj8 _ _ t112 _ _ t105 false _ ?side1 ?side2 ?side3 ?side4 A34.out).mono ?_); (case side1 => repeat (first | exact (Kd.R_reads' HO_7.out).2.2 | (with_reducible refine Kd.C_alloc ?_ _) | (with_reducible refine Kd.C_drewN ?_ _) | (with_reducible refine Kd.C_drew ?_))); (case side2 => exact (Kd.R_reads' HO_7.out).2.1); (case side3 => repeat (first | exact (Kd.R_reads' HO_4.out).2.2 | (with_reducible refine Kd.C_alloc ?_ _) | (with_reducible refine Kd.C_drewN ?_ _) | (with_reducible refine Kd.C_drew ?_))); (case side4 => exact (Kd.R_reads' HO_4.out).2.1); rintro e w' ⟨rfl, ⟨nd, rfl⟩⟩))
                  go_meet
                  case rel => exact ⟨_, (true), (by first | rfl | (simp; done) | (simp [*]; done)), H', ⟨by have := HJ8.out; first | omega | exact Nat.le_refl _⟩, ⟨by (with_reducible repeat (first | apply Kd.R_alloc | apply Kd.R_drewN | apply Kd.R_drew)); exact HO_4.out⟩, ⟨by (with_reducible repeat (first | apply Kd.R_alloc | apply Kd.R_drewN | apply Kd.R_drew)); exact HO_7.out⟩, ⟨by repeat (first | (with_reducible first | exact HB.out | apply below_alloc | apply pw_below_drewN | apply below_drew1) | exact HB.out)⟩⟩
            case rest =>
              clear HC28
              try clear c1
              try clear c2
              try clear p2
              try clear c3
              try clear c3b0
              try clear c5
              try clear c11
              try clear c13
              try clear c15
              try clear c18
              try clear c19
              try clear c20
              try clear c21
              try clear c23
              try clear c26
              try clear c33
              try clear c33b0
              try clear c35
              try clear p2
              obtain ⟨kq, x61_27, rfl, HA, HJ27, HO_4, HO_7, HB⟩ := hcut
              cases kq with
              | zero => exact absurd HA.out (by simp [laws_FnExactPupilsOf.j1])
              | succ kj27 =>
                have H := HA.out
                clear HA
                simp only [laws_FnExactPupilsOf.j1] at H
                by_cases c40 : x61_27 = true
                · subst c40
                  have H1 : (some false) = some r := by rw [if_pos rfl] at H; exact H
                  clear H
                  have H := H1
                  clear H1
                  obtain rfl := Option.some.inj H
                  go_wp2
                  go_ret
                  exact ⟨by first | rfl | (simp [errW_none, errW_some] <;> rfl) | (simp [*, errW_none, errW_some] <;> rfl), by repeat (first | (with_reducible first | exact HB.out | apply below_alloc | apply pw_below_drewN | apply below_drew1) | exact HB.out)⟩
                · replace c40 := Bool.eq_false_iff.mpr c40
                  subst c40
                  have H1 : ((laws_markStringS.f kj27 t112 1).bind fun bt124 => ((laws_heldStringS.f kj27 bt124.2 1).bind fun t126 => (if t126 < 0 then (some false) else (if t126 = bt124.1 then ((laws_toLessonS.f kj27 l0).bind fun t127 => ((impl_PupilsOf.f kj27 t127).bind fun bt130 => ((laws_eqStringS.f kj27 bt130.1 t105).bind fun t134 => (if t134 = true then (laws_FnExactPupilsOf.j2 kj27 bt124.2 bt124.1 (bt130.2 != t106)) else (laws_FnExactPupilsOf.j2 kj27 bt124.2 bt124.1 true))))) else (some false))))) = some r := by rw [if_neg (show ¬ (false = true) by decide)] at H; exact H
                  clear H
                  have H := H1
                  clear H1
                  replace H := Option.bind_eq_some_iff.mp H
                  obtain ⟨⟨t124, t125⟩, A410, H⟩ := H
                  replace H : ((laws_heldStringS.f kj27 t125 1).bind fun t126 => (if t126 < 0 then (some false) else (if t126 = t124 then ((laws_toLessonS.f kj27 l0).bind fun t127 => ((impl_PupilsOf.f kj27 t127).bind fun bt130 => ((laws_eqStringS.f kj27 bt130.1 t105).bind fun t134 => (if t134 = true then (laws_FnExactPupilsOf.j2 kj27 t125 t124 (bt130.2 != t106)) else (laws_FnExactPupilsOf.j2 kj27 t125 t124 true))))) else (some false)))) = some r := H
                  have A41 := Aside0.mk A410
                  clear A410
                  replace H := Option.bind_eq_some_iff.mp H
                  obtain ⟨t126, A420, H⟩ := H
                  replace H : (if t126 < 0 then (some false) else (if t126 = t124 then ((laws_toLessonS.f kj27 l0).bind fun t127 => ((impl_PupilsOf.f kj27 t127).bind fun bt130 => ((laws_eqStringS.f kj27 bt130.1 t105).bind fun t134 => (if t134 = true then (laws_FnExactPupilsOf.j2 kj27 t125 t124 (bt130.2 != t106)) else (laws_FnExactPupilsOf.j2 kj27 t125 t124 true))))) else (some false))) = some r := H
                  have A42 := Aside0.mk A420
                  clear A420
                  by_cases c43 : t126 < 0
                  · rw [if_pos c43] at H
                    have c43b0 : decide (t126 < 0) = true := decide_eq_true c43
                    clear c43
                    obtain rfl := Option.some.inj H
                    obtain ⟨Ao44, co44, eo44⟩ := Kd.R_slice HO_7.out
                    subst eo44
                    go_wp2_with (first | ((with_reducible refine gate_callee (f := 22) rfl ?_); refine goesL_ (some 64) rfl rfl Try.func22 (by kernel_rfl) rfl #[.slice Ao44 t112.length co44, .int .i64 1] rfl (by (try simp only [List.map_toArray, List.map_cons, List.map_nil]); first | done | rfl | (simp only [List.length_drop, List.length_take]; rfl)) ?_; (with_reducible refine (laws_markStringS.calls kj27 (fun k_ => some k_ = (.slice Ao44 t112.length co44 : Value).ownBlock) (.slice Ao44 t112.length co44) t112 1 t124 t125 w _ ?side1 ?side2 A41.out).mono ?_); (case side1 => repeat (first | (with_reducible first | exact HB.out | apply below_alloc | apply pw_below_drewN | apply below_drew1) | exact HB.out)); (case side2 => exact Kd.R_tight rfl HO_7.out); rintro e w45 ⟨rfl, hy0, hb, hkp⟩; refine ⟨_, rfl, ?_⟩; have n0_ := Aside0.mk (Kd.R_mono (ok' := fun k_ => some k_ ≠ (.slice Ao44 t112.length co44 : Value).ownBlock) (Kd.R_keptB (HO_4.out) hkp (fun k_ hk_ hs_ => (hk_) hs_)) (fun k_ hk_ => hk_.1)); have n1_ := Aside0.mk (Kd.R_reok rfl hy0 (fun k_ e_ => HO_7.out.1 k_ e_)); have n2_ := Aside0.mk (hb); clear HO_4; clear HO_7; clear HB; have HO_4 := n0_; have HO_7 := n1_; have HB := n2_; clear n0_ n1_ n2_; (try clear hb); (try clear hkp); (try clear hy0)) | ((with_reducible refine gate_callee (f := 23) rfl ?_); refine goesL_ (some 67) rfl rfl Try.func23 (by kernel_rfl) rfl #[.slice Ao44 t125.length co44, .int .i64 1] rfl (by (try simp only [List.map_toArray, List.map_cons, List.map_nil]); first | done | (rw [show t125.length = t112.length from (Kd.R_reads' HO_7.out).1.symm] <;> rfl) | rfl | (simp only [List.length_drop, List.length_take]; rfl)) ?_; (with_reducible refine (laws_heldStringS.calls kj27 _ _ t125 1 t126 _ ?side1 ?side2 A42.out).mono ?_); (case side1 => repeat (first | exact (Kd.R_reads' HO_7.out).2.2 | (with_reducible refine Kd.C_alloc ?_ _) | (with_reducible refine Kd.C_drewN ?_ _) | (with_reducible refine Kd.C_drew ?_))); (case side2 => rw [show t125.length = t112.length from (Kd.R_reads' HO_7.out).1.symm]; exact (Kd.R_reads' HO_7.out).2.1); rintro e w46 ⟨rfl, hb⟩; refine ⟨_, rfl, ?_⟩; have n0_ := Aside0.mk (Kd.R_below (by (with_reducible repeat (first | apply Kd.R_alloc | apply Kd.R_drewN | apply Kd.R_drew)); exact HO_4.out) hb); have n1_ := Aside0.mk (Kd.R_below (by (with_reducible repeat (first | apply Kd.R_alloc | apply Kd.R_drewN | apply Kd.R_drew)); exact HO_7.out) hb); have n2_ := Aside0.mk (below_step (by repeat (first | (with_reducible first | exact HB.out | apply below_alloc | apply pw_below_drewN | apply below_drew1) | exact HB.out)) hb); clear HO_4; clear HO_7; clear HB; have HO_4 := n0_; have HO_7 := n1_; have HB := n2_; clear n0_ n1_ n2_; (try clear hb); (try clear hb2); (try clear hk); (try clear hi)))
                    go_ret
                    exact ⟨by first | rfl | (simp [errW_none, errW_some] <;> rfl) | (simp [*, errW_none, errW_some] <;> rfl), by repeat (first | (with_reducible first | exact HB.out | apply below_alloc | apply pw_below_drewN | apply below_drew1) | exact HB.out)⟩
                  · rw [if_neg c43] at H
                    have c43b0 : decide (t126 < 0) = false := decide_eq_false c43
                    clear c43
                    by_cases c47 : t126 = t124
                    · rw [if_pos c47] at H
                      have c47b0 : (t126 == t124) = true := beq_iff_eq.mpr c47
                      have c47b1 : (t126 != t124) = false := bne_eq_false_iff_eq.mpr c47
                      clear c47
                      replace H := Option.bind_eq_some_iff.mp H
                      obtain ⟨t127, A480, H⟩ := H
                      replace H : ((impl_PupilsOf.f kj27 t127).bind fun bt130 => ((laws_eqStringS.f kj27 bt130.1 t105).bind fun t134 => (if t134 = true then (laws_FnExactPupilsOf.j2 kj27 t125 t124 (bt130.2 != t106)) else (laws_FnExactPupilsOf.j2 kj27 t125 t124 true)))) = some r := H
                      have A48 := Aside0.mk A480
                      clear A480
                      replace H := Option.bind_eq_some_iff.mp H
                      obtain ⟨⟨t130, t131⟩, A490, H⟩ := H
                      replace H : ((laws_eqStringS.f kj27 t130 t105).bind fun t134 => (if t134 = true then (laws_FnExactPupilsOf.j2 kj27 t125 t124 (t131 != t106)) else (laws_FnExactPupilsOf.j2 kj27 t125 t124 true))) = some r := H
                      have A49 := Aside0.mk A490
                      clear A490
                      have HC50 := Aside0.mk H
                      clear H
                      obtain ⟨Ao51, co51, eo51⟩ := Kd.R_slice HO_7.out
                      subst eo51
                      go_upto_region 25 with (first | ((with_reducible refine gate_callee (f := 22) rfl ?_); refine goesL_ (some 64) rfl rfl Try.func22 (by kernel_rfl) rfl #[.slice Ao51 t112.length co51, .int .i64 1] rfl (by (try simp only [List.map_toArray, List.map_cons, List.map_nil]); first | done | rfl | (simp only [List.length_drop, List.length_take]; rfl)) ?_; (with_reducible refine (laws_markStringS.calls kj27 (fun k_ => some k_ = (.slice Ao51 t112.length co51 : Value).ownBlock) (.slice Ao51 t112.length co51) t112 1 t124 t125 w _ ?side1 ?side2 A41.out).mono ?_); (case side1 => repeat (first | (with_reducible first | exact HB.out | apply below_alloc | apply pw_below_drewN | apply below_drew1) | exact HB.out)); (case side2 => exact Kd.R_tight rfl HO_7.out); rintro e w52 ⟨rfl, hy0, hb, hkp⟩; refine ⟨_, rfl, ?_⟩; have n0_ := Aside0.mk (Kd.R_mono (ok' := fun k_ => some k_ ≠ (.slice Ao51 t112.length co51 : Value).ownBlock) (Kd.R_keptB (HO_4.out) hkp (fun k_ hk_ hs_ => (hk_) hs_)) (fun k_ hk_ => hk_.1)); have n1_ := Aside0.mk (Kd.R_reok rfl hy0 (fun k_ e_ => HO_7.out.1 k_ e_)); have n2_ := Aside0.mk (hb); clear HO_4; clear HO_7; clear HB; have HO_4 := n0_; have HO_7 := n1_; have HB := n2_; clear n0_ n1_ n2_; (try clear hb); (try clear hkp); (try clear hy0)) | ((with_reducible refine gate_callee (f := 23) rfl ?_); refine goesL_ (some 67) rfl rfl Try.func23 (by kernel_rfl) rfl #[.slice Ao51 t125.length co51, .int .i64 1] rfl (by (try simp only [List.map_toArray, List.map_cons, List.map_nil]); first | done | (rw [show t125.length = t112.length from (Kd.R_reads' HO_7.out).1.symm] <;> rfl) | rfl | (simp only [List.length_drop, List.length_take]; rfl)) ?_; (with_reducible refine (laws_heldStringS.calls kj27 _ _ t125 1 t126 _ ?side1 ?side2 A42.out).mono ?_); (case side1 => repeat (first | exact (Kd.R_reads' HO_7.out).2.2 | (with_reducible refine Kd.C_alloc ?_ _) | (with_reducible refine Kd.C_drewN ?_ _) | (with_reducible refine Kd.C_drew ?_))); (case side2 => rw [show t125.length = t112.length from (Kd.R_reads' HO_7.out).1.symm]; exact (Kd.R_reads' HO_7.out).2.1); rintro e w53 ⟨rfl, hb⟩; refine ⟨_, rfl, ?_⟩; have n0_ := Aside0.mk (Kd.R_below (by (with_reducible repeat (first | apply Kd.R_alloc | apply Kd.R_drewN | apply Kd.R_drew)); exact HO_4.out) hb); have n1_ := Aside0.mk (Kd.R_below (by (with_reducible repeat (first | apply Kd.R_alloc | apply Kd.R_drewN | apply Kd.R_drew)); exact HO_7.out) hb); have n2_ := Aside0.mk (below_step (by repeat (first | (with_reducible first | exact HB.out | apply below_alloc | apply pw_below_drewN | apply below_drew1) | exact HB.out)) hb); clear HO_4; clear HO_7; clear HB; have HO_4 := n0_; have HO_7 := n1_; have HB := n2_; clear n0_ n1_ n2_; (try clear hb); (try clear hb2); (try clear hk); (try clear hi)) | ((with_reducible refine gate_callee (f := 13) rfl ?_); refine goesL_ (some 75) rfl rfl Try.func13 (by kernel_rfl) rfl #[.slice A0 l0.length c0] rfl (by (try simp only [List.map_toArray, List.map_cons, List.map_nil]); first | done | rfl | (simp only [List.length_drop, List.length_take]; rfl)) ?_; (with_reducible refine (laws_toLessonS.calls kj27 _ _ l0 t127 _ ?side1 ?side2 A48.out).mono ?_); (case side1 => repeat (first | exact (Kd.C_below HR0.out HB.out) | (with_reducible refine Kd.C_alloc ?_ _) | (with_reducible refine Kd.C_drewN ?_ _) | (with_reducible refine Kd.C_drew ?_))); (case side2 => exact HC0.out); rintro e w54 ⟨v128, rfl, ho0, hb⟩; refine ⟨_, rfl, ?_⟩; have n0_ := Aside0.mk (Kd.R_below (by (with_reducible repeat (first | apply Kd.R_alloc | apply Kd.R_drewN | apply Kd.R_drew)); exact HO_4.out) hb); have n1_ := Aside0.mk (Kd.R_below (by (with_reducible repeat (first | apply Kd.R_alloc | apply Kd.R_drewN | apply Kd.R_drew)); exact HO_7.out) hb); have n2_ := Aside0.mk (Kd.R_lower ho0 (below_size (by repeat (first | (with_reducible first | exact HB.out | apply below_alloc | apply pw_below_drewN | apply below_drew1) | exact HB.out)))); have n3_ := Aside0.mk (below_step (by repeat (first | (with_reducible first | exact HB.out | apply below_alloc | apply pw_below_drewN | apply below_drew1) | exact HB.out)) hb); clear HO_4; clear HO_7; clear HB; have HO_4 := n0_; have HO_7 := n1_; have HO129 := n2_; have HB := n3_; clear n0_ n1_ n2_ n3_; (try clear hb); (try clear hb2); (try clear hk); (try clear hi); (try clear ho0); obtain ⟨Ao55, co55, eo55⟩ := Kd.R_slice HO129.out; subst eo55) | ((with_reducible refine gate_callee (f := 19) rfl ?_); refine goesL_ (some 76) rfl rfl Try.func19 (by kernel_rfl) rfl #[.slice Ao55 t127.length co55] rfl (by (try simp only [List.map_toArray, List.map_cons, List.map_nil]); first | done | rfl | (simp only [List.length_drop, List.length_take]; rfl)) ?_; (with_reducible refine (impl_PupilsOf.calls kj27 _ _ t127 t130 t131 _ ?side1 ?side2 A49.out).mono ?_); (case side1 => repeat (first | exact (Kd.R_reads' HO129.out).2.2 | (with_reducible refine Kd.C_alloc ?_ _) | (with_reducible refine Kd.C_drewN ?_ _) | (with_reducible refine Kd.C_drew ?_))); (case side2 => exact (Kd.R_reads' HO129.out).2.1); rintro e w56 ⟨v132, rfl, ho0, hb⟩; refine ⟨_, rfl, ?_⟩; have n0_ := Aside0.mk (Kd.R_elder' (by (with_reducible repeat (first | apply Kd.R_alloc | apply Kd.R_drewN | apply Kd.R_drew)); exact HO_4.out) (Kd.R_base ho0) hb); have n1_ := Aside0.mk (Kd.R_elder' (by (with_reducible repeat (first | apply Kd.R_alloc | apply Kd.R_drewN | apply Kd.R_drew)); exact HO_7.out) (Kd.R_base ho0) hb); have n2_ := Aside0.mk (Kd.R_below (by (with_reducible repeat (first | apply Kd.R_alloc | apply Kd.R_drewN | apply Kd.R_drew)); exact HO129.out) hb); have n3_ := Aside0.mk (Kd.R_lower (Kd.R_new' (Kd.R_new' ho0 (Kd.R_lt (by (with_reducible repeat (first | apply Kd.R_alloc | apply Kd.R_drewN | apply Kd.R_drew)); exact HO_4.out))) (Kd.R_lt (by (with_reducible repeat (first | apply Kd.R_alloc | apply Kd.R_drewN | apply Kd.R_drew)); exact HO_7.out))) (below_size (by repeat (first | (with_reducible first | exact HB.out | apply below_alloc | apply pw_below_drewN | apply below_drew1) | exact HB.out)))); have n4_ := Aside0.mk (below_step (by repeat (first | (with_reducible first | exact HB.out | apply below_alloc | apply pw_below_drewN | apply below_drew1) | exact HB.out)) hb); clear HO_4; clear HO_7; clear HO129; clear HB; have HO_4 := n0_; have HO_7 := n1_; have HO129 := n2_; have HO133 := n3_; have HB := n4_; clear n0_ n1_ n2_ n3_ n4_; (try clear hb); (try clear hb2); (try clear hk); (try clear hi); (try clear ho0)))
                      (try simp only [Act.put, List.setIfInBounds_toArray, List.set_cons_zero, List.set_cons_succ])
                      go_cut [87] (fun v87 wc => ∃ (kq : Nat) (x87_49 : Bool), v87 = .bool x87_49 ∧ Aside0 (laws_FnExactPupilsOf.j2 kq t125 t124 x87_49 = some r) ∧ Aside0 (kq ≤ kj27) ∧ Aside0 (Kd.R Kd.string 9 wc w.heap.size (fun _ => True) (.slice Ao51 t112.length co51) t125) ∧ Aside0 (Below w.heap.size w wc))
                      case first =>
                        have H := HC50.out
                        clear HC50
                        replace H := Option.bind_eq_some_iff.mp H
                        obtain ⟨t134, A570, H⟩ := H
                        replace H : (if t134 = true then (laws_FnExactPupilsOf.j2 kj27 t125 t124 (t131 != t106)) else (laws_FnExactPupilsOf.j2 kj27 t125 t124 true)) = some r := H
                        have A57 := Aside0.mk A570
                        clear A570
                        by_cases c58 : t134 = true
                        · subst c58
                          have H1 : (laws_FnExactPupilsOf.j2 kj27 t125 t124 (t131 != t106)) = some r := by rw [if_pos rfl] at H; exact H
                          clear H
                          have H := H1
                          clear H1
                          have H' := Aside0.mk H
                          clear H
                          obtain ⟨Ao59, co59, eo59⟩ := Kd.R_slice HO133.out
                          subst eo59
                          obtain ⟨Ao60, co60, eo60⟩ := Kd.R_slice HO_4.out
                          subst eo60
                          go_wp2_with (first | ((with_reducible refine gate_callee (f := 20) rfl ?_); refine goesL_ (some 81) rfl rfl Try.func20 (by kernel_rfl) rfl #[.slice Ao59 t130.length co59, .slice Ao60 t105.length co60] rfl (by (try simp only [List.map_toArray, List.map_cons, List.map_nil]); first | done | rfl | (simp only [List.length_drop, List.length_take]; rfl)) ?_; (with_reducible refine (laws_eqStringS.calls kj27 _ _ t130 _ _ t105 true _ ?side1 ?side2 ?side3 ?side4 A57.out).mono ?_); (case side1 => repeat (first | exact (Kd.R_reads' HO133.out).2.2 | (with_reducible refine Kd.C_alloc ?_ _) | (with_reducible refine Kd.C_drewN ?_ _) | (with_reducible refine Kd.C_drew ?_))); (case side2 => exact (Kd.R_reads' HO133.out).2.1); (case side3 => repeat (first | exact (Kd.R_reads' HO_4.out).2.2 | (with_reducible refine Kd.C_alloc ?_ _) | (with_reducible refine Kd.C_drewN ?_ _) | (with_reducible refine Kd.C_drew ?_))); (case side4 => exact (Kd.R_reads' HO_4.out).2.1); rintro e w' ⟨rfl, ⟨nd, rfl⟩⟩; refine ⟨_, rfl, ?_⟩))
                          go_meet
                          case rel => exact ⟨_, ((t131 != t106)), (by first | rfl | (simp; done) | (simp [*]; done)), H', ⟨by have := HJ8.out; have := HJ27.out; first | omega | exact Nat.le_refl _⟩, ⟨by (with_reducible repeat (first | apply Kd.R_alloc | apply Kd.R_drewN | apply Kd.R_drew)); exact Kd.R_mono HO_7.out (fun _ hk => trivial)⟩, ⟨by repeat (first | (with_reducible first | exact HB.out | apply below_alloc | apply pw_below_drewN | apply below_drew1) | exact HB.out)⟩⟩
                        · replace c58 := Bool.eq_false_iff.mpr c58
                          subst c58
                          have H1 : (laws_FnExactPupilsOf.j2 kj27 t125 t124 true) = some r := by rw [if_neg (show ¬ (false = true) by decide)] at H; exact H
                          clear H
                          have H := H1
                          clear H1
                          have H' := Aside0.mk H
                          clear H
                          obtain ⟨Ao61, co61, eo61⟩ := Kd.R_slice HO133.out
                          subst eo61
                          obtain ⟨Ao62, co62, eo62⟩ := Kd.R_slice HO_4.out
                          subst eo62
                          go_wp2_with (first | ((with_reducible refine gate_callee (f := 20) rfl ?_); refine goesL_ (some 81) rfl rfl Try.func20 (by kernel_rfl) rfl #[.slice Ao61 t130.length co61, .slice Ao62 t105.length co62] rfl (by (try simp only [List.map_toArray, List.map_cons, List.map_nil]); first | done | rfl | (simp only [List.length_drop, List.length_take]; rfl)) ?_; (with_reducible refine (laws_eqStringS.calls kj27 _ _ t130 _ _ t105 false _ ?side1 ?side2 ?side3 ?side4 A57.out).mono ?_); (case side1 => repeat (first | exact (Kd.R_reads' HO133.out).2.2 | (with_reducible refine Kd.C_alloc ?_ _) | (with_reducible refine Kd.C_drewN ?_ _) | (with_reducible refine Kd.C_drew ?_))); (case side2 => exact (Kd.R_reads' HO133.out).2.1); (case side3 => repeat (first | exact (Kd.R_reads' HO_4.out).2.2 | (with_reducible refine Kd.C_alloc ?_ _) | (with_reducible refine Kd.C_drewN ?_ _) | (with_reducible refine Kd.C_drew ?_))); (case side4 => exact (Kd.R_reads' HO_4.out).2.1); rintro e w' ⟨rfl, ⟨nd, rfl⟩⟩; refine ⟨_, rfl, ?_⟩))
                          go_meet
                          case rel => exact ⟨_, (true), (by first | rfl | (simp; done) | (simp [*]; done)), H', ⟨by have := HJ8.out; have := HJ27.out; first | omega | exact Nat.le_refl _⟩, ⟨by (with_reducible repeat (first | apply Kd.R_alloc | apply Kd.R_drewN | apply Kd.R_drew)); exact Kd.R_mono HO_7.out (fun _ hk => trivial)⟩, ⟨by repeat (first | (with_reducible first | exact HB.out | apply below_alloc | apply pw_below_drewN | apply below_drew1) | exact HB.out)⟩⟩
                      case rest =>
                        clear HC50
                        try clear c1
                        try clear c2
                        try clear p2
                        try clear c3
                        try clear c3b0
                        try clear c4
                        try clear c5
                        try clear c11
                        try clear c13
                        try clear c15
                        try clear c18
                        try clear c19
                        try clear c20
                        try clear c21
                        try clear c22
                        try clear c23
                        try clear c26
                        try clear c33
                        try clear c33b0
                        try clear c35
                        try clear c40
                        try clear c43
                        try clear c43b0
                        try clear c47
                        try clear c47b0
                        try clear c47b1
                        try clear c58
                        try clear p2
                        obtain ⟨kq, x87_49, rfl, HA, HJ49, HO_7, HB⟩ := hcut
                        have hl7_49 := (Kd.R_reads' HO_7.out).1
                        rw [hl7_49] at HO_7
                        (try simp only [hl7_49])
                        cases kq with
                        | zero => exact absurd HA.out (by simp [laws_FnExactPupilsOf.j2])
                        | succ kj49 =>
                          have H := HA.out
                          clear HA
                          simp only [laws_FnExactPupilsOf.j2] at H
                          by_cases c63 : x87_49 = true
                          · subst c63
                            have H1 : (some false) = some r := by rw [if_pos rfl] at H; exact H
                            clear H
                            have H := H1
                            clear H1
                            obtain rfl := Option.some.inj H
                            go_wp2
                            go_ret
                            exact ⟨by first | rfl | (simp [errW_none, errW_some] <;> rfl) | (simp [*, errW_none, errW_some] <;> rfl), by repeat (first | (with_reducible first | exact HB.out | apply below_alloc | apply pw_below_drewN | apply below_drew1) | exact HB.out)⟩
                          · replace c63 := Bool.eq_false_iff.mpr c63
                            subst c63
                            have H1 : ((laws_heldStringS.f kj49 t125 1).bind fun t135 => (if t135 < 0 then (some false) else (if t135 = t124 then (some true) else (some false)))) = some r := by rw [if_neg (show ¬ (false = true) by decide)] at H; exact H
                            clear H
                            have H := H1
                            clear H1
                            replace H := Option.bind_eq_some_iff.mp H
                            obtain ⟨t135, A640, H⟩ := H
                            replace H : (if t135 < 0 then (some false) else (if t135 = t124 then (some true) else (some false))) = some r := H
                            have A64 := Aside0.mk A640
                            clear A640
                            by_cases c65 : t135 < 0
                            · rw [if_pos c65] at H
                              have c65b0 : decide (t135 < 0) = true := decide_eq_true c65
                              clear c65
                              obtain rfl := Option.some.inj H
                              go_wp2_with (first | ((with_reducible refine gate_callee (f := 23) rfl ?_); refine goesL_ (some 90) rfl rfl Try.func23 (by kernel_rfl) rfl #[.slice Ao51 t125.length co51, .int .i64 1] rfl (by (try simp only [List.map_toArray, List.map_cons, List.map_nil]); first | done | rfl | (simp only [List.length_drop, List.length_take]; rfl)) ?_; (with_reducible refine (laws_heldStringS.calls kj49 _ _ t125 1 t135 _ ?side1 ?side2 A64.out).mono ?_); (case side1 => repeat (first | exact (Kd.R_reads' HO_7.out).2.2 | (with_reducible refine Kd.C_alloc ?_ _) | (with_reducible refine Kd.C_drewN ?_ _) | (with_reducible refine Kd.C_drew ?_))); (case side2 => exact (Kd.R_reads' HO_7.out).2.1); rintro e w66 ⟨rfl, hb⟩; refine ⟨_, rfl, ?_⟩; have n0_ := Aside0.mk (Kd.R_below (by (with_reducible repeat (first | apply Kd.R_alloc | apply Kd.R_drewN | apply Kd.R_drew)); exact HO_7.out) hb); have n1_ := Aside0.mk (below_step (by repeat (first | (with_reducible first | exact HB.out | apply below_alloc | apply pw_below_drewN | apply below_drew1) | exact HB.out)) hb); clear HO_7; clear HB; have HO_7 := n0_; have HB := n1_; clear n0_ n1_; (try clear hb); (try clear hb2); (try clear hk); (try clear hi)))
                              go_ret
                              exact ⟨by first | rfl | (simp [errW_none, errW_some] <;> rfl) | (simp [*, errW_none, errW_some] <;> rfl), by repeat (first | (with_reducible first | exact HB.out | apply below_alloc | apply pw_below_drewN | apply below_drew1) | exact HB.out)⟩
                            · rw [if_neg c65] at H
                              have c65b0 : decide (t135 < 0) = false := decide_eq_false c65
                              clear c65
                              by_cases c67 : t135 = t124
                              · rw [if_pos c67] at H
                                have c67b0 : (t135 == t124) = true := beq_iff_eq.mpr c67
                                have c67b1 : (t135 != t124) = false := bne_eq_false_iff_eq.mpr c67
                                clear c67
                                obtain rfl := Option.some.inj H
                                go_wp2_with (first | ((with_reducible refine gate_callee (f := 23) rfl ?_); refine goesL_ (some 90) rfl rfl Try.func23 (by kernel_rfl) rfl #[.slice Ao51 t125.length co51, .int .i64 1] rfl (by (try simp only [List.map_toArray, List.map_cons, List.map_nil]); first | done | rfl | (simp only [List.length_drop, List.length_take]; rfl)) ?_; (with_reducible refine (laws_heldStringS.calls kj49 _ _ t125 1 t135 _ ?side1 ?side2 A64.out).mono ?_); (case side1 => repeat (first | exact (Kd.R_reads' HO_7.out).2.2 | (with_reducible refine Kd.C_alloc ?_ _) | (with_reducible refine Kd.C_drewN ?_ _) | (with_reducible refine Kd.C_drew ?_))); (case side2 => exact (Kd.R_reads' HO_7.out).2.1); rintro e w68 ⟨rfl, hb⟩; refine ⟨_, rfl, ?_⟩; have n0_ := Aside0.mk (Kd.R_below (by (with_reducible repeat (first | apply Kd.R_alloc | apply Kd.R_drewN | apply Kd.R_drew)); exact HO_7.out) hb); have n1_ := Aside0.mk (below_step (by repeat (first | (with_reducible first | exact HB.out | apply below_alloc | apply pw_below_drewN | apply below_drew1) | exact HB.out)) hb); clear HO_7; clear HB; have HO_7 := n0_; have HB := n1_; clear n0_ n1_; (try clear hb); (try clear hb2); (try clear hk); (try clear hi)))
                                go_ret
                                exact ⟨by first | rfl | (simp [errW_none, errW_some] <;> rfl) | (simp [*, errW_none, errW_some] <;> rfl), by repeat (first | (with_reducible first | exact HB.out | apply below_alloc | apply pw_below_drewN | apply below_drew1) | exact HB.out)⟩
                              · rw [if_neg c67] at H
                                have c67b0 : (t135 == t124) = false := beq_eq_false_iff_ne.mpr c67
                                have c67b1 : (t135 != t124) = true := bne_iff_ne.mpr c67
                                obtain rfl := Option.some.inj H
                                go_wp2_with (first | ((with_reducible refine gate_callee (f := 23) rfl ?_); refine goesL_ (some 90) rfl rfl Try.func23 (by kernel_rfl) rfl #[.slice Ao51 t125.length co51, .int .i64 1] rfl (by (try simp only [List.map_toArray, List.map_cons, List.map_nil]); first | done | rfl | (simp only [List.length_drop, List.length_take]; rfl)) ?_; (with_reducible refine (laws_heldStringS.calls kj49 _ _ t125 1 t135 _ ?side1 ?side2 A64.out).mono ?_); (case side1 => repeat (first | exact (Kd.R_reads' HO_7.out).2.2 | (with_reducible refine Kd.C_alloc ?_ _) | (with_reducible refine Kd.C_drewN ?_ _) | (with_reducible refine Kd.C_drew ?_))); (case side2 => exact (Kd.R_reads' HO_7.out).2.1); rintro e w69 ⟨rfl, hb⟩; refine ⟨_, rfl, ?_⟩; have n0_ := Aside0.mk (Kd.R_below (by (with_reducible repeat (first | apply Kd.R_alloc | apply Kd.R_drewN | apply Kd.R_drew)); exact HO_7.out) hb); have n1_ := Aside0.mk (below_step (by repeat (first | (with_reducible first | exact HB.out | apply below_alloc | apply pw_below_drewN | apply below_drew1) | exact HB.out)) hb); clear HO_7; clear HB; have HO_7 := n0_; have HB := n1_; clear n0_ n1_; (try clear hb); (try clear hb2); (try clear hk); (try clear hi)))
                                go_ret
                                exact ⟨by first | rfl | (simp [errW_none, errW_some] <;> rfl) | (simp [*, errW_none, errW_some] <;> rfl), by repeat (first | (with_reducible first | exact HB.out | apply below_alloc | apply pw_below_drewN | apply below_drew1) | exact HB.out)⟩
                    · rw [if_neg c47] at H
                      have c47b0 : (t126 == t124) = false := beq_eq_false_iff_ne.mpr c47
                      have c47b1 : (t126 != t124) = true := bne_iff_ne.mpr c47
                      obtain rfl := Option.some.inj H
                      obtain ⟨Ao70, co70, eo70⟩ := Kd.R_slice HO_7.out
                      subst eo70
                      go_wp2_with (first | ((with_reducible refine gate_callee (f := 22) rfl ?_); refine goesL_ (some 64) rfl rfl Try.func22 (by kernel_rfl) rfl #[.slice Ao70 t112.length co70, .int .i64 1] rfl (by (try simp only [List.map_toArray, List.map_cons, List.map_nil]); first | done | rfl | (simp only [List.length_drop, List.length_take]; rfl)) ?_; (with_reducible refine (laws_markStringS.calls kj27 (fun k_ => some k_ = (.slice Ao70 t112.length co70 : Value).ownBlock) (.slice Ao70 t112.length co70) t112 1 t124 t125 w _ ?side1 ?side2 A41.out).mono ?_); (case side1 => repeat (first | (with_reducible first | exact HB.out | apply below_alloc | apply pw_below_drewN | apply below_drew1) | exact HB.out)); (case side2 => exact Kd.R_tight rfl HO_7.out); rintro e w71 ⟨rfl, hy0, hb, hkp⟩; refine ⟨_, rfl, ?_⟩; have n0_ := Aside0.mk (Kd.R_mono (ok' := fun k_ => some k_ ≠ (.slice Ao70 t112.length co70 : Value).ownBlock) (Kd.R_keptB (HO_4.out) hkp (fun k_ hk_ hs_ => (hk_) hs_)) (fun k_ hk_ => hk_.1)); have n1_ := Aside0.mk (Kd.R_reok rfl hy0 (fun k_ e_ => HO_7.out.1 k_ e_)); have n2_ := Aside0.mk (hb); clear HO_4; clear HO_7; clear HB; have HO_4 := n0_; have HO_7 := n1_; have HB := n2_; clear n0_ n1_ n2_; (try clear hb); (try clear hkp); (try clear hy0)) | ((with_reducible refine gate_callee (f := 23) rfl ?_); refine goesL_ (some 67) rfl rfl Try.func23 (by kernel_rfl) rfl #[.slice Ao70 t125.length co70, .int .i64 1] rfl (by (try simp only [List.map_toArray, List.map_cons, List.map_nil]); first | done | (rw [show t125.length = t112.length from (Kd.R_reads' HO_7.out).1.symm] <;> rfl) | rfl | (simp only [List.length_drop, List.length_take]; rfl)) ?_; (with_reducible refine (laws_heldStringS.calls kj27 _ _ t125 1 t126 _ ?side1 ?side2 A42.out).mono ?_); (case side1 => repeat (first | exact (Kd.R_reads' HO_7.out).2.2 | (with_reducible refine Kd.C_alloc ?_ _) | (with_reducible refine Kd.C_drewN ?_ _) | (with_reducible refine Kd.C_drew ?_))); (case side2 => rw [show t125.length = t112.length from (Kd.R_reads' HO_7.out).1.symm]; exact (Kd.R_reads' HO_7.out).2.1); rintro e w72 ⟨rfl, hb⟩; refine ⟨_, rfl, ?_⟩; have n0_ := Aside0.mk (Kd.R_below (by (with_reducible repeat (first | apply Kd.R_alloc | apply Kd.R_drewN | apply Kd.R_drew)); exact HO_4.out) hb); have n1_ := Aside0.mk (Kd.R_below (by (with_reducible repeat (first | apply Kd.R_alloc | apply Kd.R_drewN | apply Kd.R_drew)); exact HO_7.out) hb); have n2_ := Aside0.mk (below_step (by repeat (first | (with_reducible first | exact HB.out | apply below_alloc | apply pw_below_drewN | apply below_drew1) | exact HB.out)) hb); clear HO_4; clear HO_7; clear HB; have HO_4 := n0_; have HO_7 := n1_; have HB := n2_; clear n0_ n1_ n2_; (try clear hb); (try clear hb2); (try clear hk); (try clear hi)))
                      go_ret
                      exact ⟨by first | rfl | (simp [errW_none, errW_some] <;> rfl) | (simp [*, errW_none, errW_some] <;> rfl), by repeat (first | (with_reducible first | exact HB.out | apply below_alloc | apply pw_below_drewN | apply below_drew1) | exact HB.out)⟩
          · replace c26 := Bool.eq_false_iff.mpr c26
            subst c26
            have H1 : (some false) = some r := by rw [if_neg (show ¬ (false = true) by decide)] at H; exact H
            clear H
            have H := H1
            clear H1
            obtain rfl := Option.some.inj H
            go_wp2_with (first | ((with_reducible refine gate_callee (f := 13) rfl ?_); refine goesL_ (some 43) rfl rfl Try.func13 (by kernel_rfl) rfl #[.slice A0 l0.length c0] rfl (by (try simp only [List.map_toArray, List.map_cons, List.map_nil]); first | done | rfl | (simp only [List.length_drop, List.length_take]; rfl)) ?_; (with_reducible refine (laws_toLessonS.calls kj8 _ _ l0 t117 _ ?side1 ?side2 A24.out).mono ?_); (case side1 => repeat (first | exact (Kd.C_below HR0.out HB.out) | (with_reducible refine Kd.C_alloc ?_ _) | (with_reducible refine Kd.C_drewN ?_ _) | (with_reducible refine Kd.C_drew ?_))); (case side2 => exact HC0.out); rintro e w73 ⟨v118, rfl, ho0, hb⟩; refine ⟨_, rfl, ?_⟩; have n0_ := Aside0.mk (Kd.R_below (by (with_reducible repeat (first | apply Kd.R_alloc | apply Kd.R_drewN | apply Kd.R_drew)); exact HO_4.out) hb); have n1_ := Aside0.mk (Kd.R_elder' (by (with_reducible repeat (first | apply Kd.R_alloc | apply Kd.R_drewN | apply Kd.R_drew)); exact HO_6.out) (Kd.R_base ho0) hb); have n2_ := Aside0.mk (Kd.R_below (by (with_reducible repeat (first | apply Kd.R_alloc | apply Kd.R_drewN | apply Kd.R_drew)); exact HO_7.out) hb); have n3_ := Aside0.mk (Kd.R_lower (Kd.R_new' ho0 (Kd.R_lt (by (with_reducible repeat (first | apply Kd.R_alloc | apply Kd.R_drewN | apply Kd.R_drew)); exact HO_6.out))) (below_size (by repeat (first | (with_reducible first | exact HB.out | apply below_alloc | apply pw_below_drewN | apply below_drew1) | exact HB.out)))); have n4_ := Aside0.mk (below_step (by repeat (first | (with_reducible first | exact HB.out | apply below_alloc | apply pw_below_drewN | apply below_drew1) | exact HB.out)) hb); clear HO_4; clear HO_6; clear HO_7; clear HB; have HO_4 := n0_; have HO_6 := n1_; have HO_7 := n2_; have HO119 := n3_; have HB := n4_; clear n0_ n1_ n2_ n3_ n4_; (try clear hb); (try clear hb2); (try clear hk); (try clear hi); (try clear ho0); obtain ⟨Ao74, co74, eo74⟩ := Kd.R_slice HO119.out; subst eo74) | ((with_reducible refine gate_callee (f := 15) rfl ?_); refine goesL_ (some 44) rfl rfl Try.func15 (by kernel_rfl) rfl #[.slice Ao15 t109.length co15, .slice Ao74 t117.length co74] rfl (by (try simp only [List.map_toArray, List.map_cons, List.map_nil]); first | done | rfl | (simp only [List.length_drop, List.length_take]; rfl)) ?_; (with_reducible refine (laws_eqLessonS.calls kj8 _ _ t109 _ _ t117 false _ ?side1 ?side2 ?side3 ?side4 A25.out).mono ?_); (case side1 => repeat (first | exact (Kd.R_reads' HO_6.out).2.2 | (with_reducible refine Kd.C_alloc ?_ _) | (with_reducible refine Kd.C_drewN ?_ _) | (with_reducible refine Kd.C_drew ?_))); (case side2 => exact (Kd.R_reads' HO_6.out).2.1); (case side3 => repeat (first | exact (Kd.R_reads' HO119.out).2.2 | (with_reducible refine Kd.C_alloc ?_ _) | (with_reducible refine Kd.C_drewN ?_ _) | (with_reducible refine Kd.C_drew ?_))); (case side4 => exact (Kd.R_reads' HO119.out).2.1); rintro e w75 ⟨rfl, hb⟩; refine ⟨_, rfl, ?_⟩; have n0_ := Aside0.mk (Kd.R_below (by (with_reducible repeat (first | apply Kd.R_alloc | apply Kd.R_drewN | apply Kd.R_drew)); exact HO_4.out) hb); have n1_ := Aside0.mk (Kd.R_below (by (with_reducible repeat (first | apply Kd.R_alloc | apply Kd.R_drewN | apply Kd.R_drew)); exact HO_6.out) hb); have n2_ := Aside0.mk (Kd.R_below (by (with_reducible repeat (first | apply Kd.R_alloc | apply Kd.R_drewN | apply Kd.R_drew)); exact HO_7.out) hb); have n3_ := Aside0.mk (Kd.R_below (by (with_reducible repeat (first | apply Kd.R_alloc | apply Kd.R_drewN | apply Kd.R_drew)); exact HO119.out) hb); have n4_ := Aside0.mk (below_step (by repeat (first | (with_reducible first | exact HB.out | apply below_alloc | apply pw_below_drewN | apply below_drew1) | exact HB.out)) hb); clear HO_4; clear HO_6; clear HO_7; clear HO119; clear HB; have HO_4 := n0_; have HO_6 := n1_; have HO_7 := n2_; have HO119 := n3_; have HB := n4_; clear n0_ n1_ n2_ n3_ n4_; (try clear hb); (try clear hb2); (try clear hk); (try clear hi)))
            go_ret
            exact ⟨by first | rfl | (simp [errW_none, errW_some] <;> rfl) | (simp [*, errW_none, errW_some] <;> rfl), by repeat (first | (with_reducible first | exact HB.out | apply below_alloc | apply pw_below_drewN | apply below_drew1) | exact HB.out)⟩

end Go.Proofs.Ytleajljmjohcaaa.P

namespace Go.Proofs.YtleajljmjohcaaaO
open Go.RowKit Go.WideShapes Go.Proofs.YtleajljmjohcaaaW.PrintWords

theorem addr_add_add (a : Addr) (m i : Nat) : (a.add m).add i = a.add (m + i) := by
  unfold Addr.add
  by_cases h1 : m = 0
  · subst h1; simp
  · by_cases h2 : i = 0
    · subst h2; simp [h1]
    · have h3 : ¬ (m + i = 0) := by omega
      simp [h1, h2, Nat.add_assoc]

/-- Whatever the claim reads at this type is a value of this kind, of which G holds. -/
def Opens {α : Type} (P : Program) (t : TypeId) (d : Kd α) (G : α → Prop) : Prop :=
  ∀ (H : Type) (enc : TypeId × Value → H) (w : World) (base : Nat) (spare : Nat → Bool) (held : Bool) (fuel : Nat) (cs : List Value) (x : DataW H × List MemPlace),
    DataW.trod enc P w base spare held fuel t cs = some x → ∃ a : α, d.K w a cs ∧ G a

section
variable {α β : Type} {P : Program} {t e : TypeId} {d : Kd α} {G : α → Prop}

theorem opens_int {k : IntKind} (ht : P.underlying t = some (.int k)) : Opens P t (Kd.int k) (fun n => (Lit.int k n).wf = true) := by
  intro H enc w base spare held fuel cs x h
  obtain ⟨n, rfl, _, hw⟩ := DataW.trod_int ht h
  exact ⟨n, rfl, hw⟩
theorem opens_string (ht : P.underlying t = some .string) : Opens P t Kd.string (fun s => s.size ≤ maxLen) := by
  intro H enc w base spare held fuel cs x h
  obtain ⟨n, rfl, _, hs⟩ := DataW.trod_string ht h
  exact ⟨n, rfl, hs⟩

theorem list_of_each {p : Nat → α → Prop} : ∀ n : Nat, (∀ i, i < n → ∃ a, p i a) → ∃ l : List α, l.length = n ∧ ∀ i a, l[i]? = some a → p i a
  | 0, _ => ⟨[], rfl, fun i a h => by simp at h⟩
  | n + 1, h => by
    obtain ⟨l, hl, hp⟩ := list_of_each n (fun i hi => h i (by omega))
    obtain ⟨a, ha⟩ := h n (by omega)
    refine ⟨l ++ [a], by simp [hl], fun i b hb => ?_⟩
    by_cases hi : i < l.length
    · rw [List.getElem?_append_left hi] at hb
      exact hp i b hb
    · rw [List.getElem?_append_right (by omega)] at hb
      have h0 : i - l.length = 0 := by
        have := (List.getElem?_eq_some_iff.1 hb).1
        simp at this
        omega
      rw [h0] at hb
      have hi2 : i = n := by omega
      subst hi2
      simp at hb
      subst hb
      exact ha

theorem opens_slice (ht : P.underlying t = some (.slice e)) (hc : P.cellsOf e = d.sz) (hd : Opens P e d G) : Opens P t (Kd.slice e d) (fun l => l.length ≤ maxLen ∧ ∀ x ∈ l, G x) := by
  intro H enc w base spare held fuel cs x h
  rcases DataW.trod_slice ht h with ⟨rfl, _⟩ | ⟨a, len, cap, elems, rest, n, _, rfl, _, hb, hl, hm, hlen, hel, _, _⟩
  · exact ⟨[], ⟨none, 0, rfl, Nat.le_refl _, rfl, by simp, fun hp => by simp at hp⟩, by simp, by simp⟩
  · have each : ∀ i, i < len → ∃ x : α, G x ∧ ∃ c, c.length = d.sz ∧ d.K w x c ∧ ∀ j u, c[j]? = some u → w.cell? (a.add (i * d.sz + j)) = some u := by
      intro i hi
      have h1 := hel i hi
      have h2 : ∃ y, elems[i]? = some y := ⟨elems[i]'(by omega), List.getElem?_eq_getElem (by omega)⟩
      obtain ⟨y, hy⟩ := h2
      rw [hy, Option.bind_eq_some_iff] at h1
      obtain ⟨c, hcs, hy'⟩ := h1
      obtain ⟨x, hK, hG⟩ := hd H enc w base spare held n c y hy'
      refine ⟨x, hG, c, d.K_len hK, hK, fun j u hu => ?_⟩
      have hx := World.cells?_some hcs
      have hj : j < P.cellsOf e := by
        have := (List.getElem?_eq_some_iff.1 hu).1
        have := hx.2.1
        omega
      have hz := hx.2.2 j hj
      rw [addr_add_add, hc, hu] at hz
      exact hz
    obtain ⟨l, hll, hp⟩ := list_of_each len each
    refine ⟨l, ⟨some a, cap, by rw [hll], by omega, rfl, by simp only [maxLen] at hm; omega, fun _ => ⟨a, rfl, fun j p hj => ?_⟩⟩, by simp only [maxLen] at hm ⊢; omega, fun x hx => ?_⟩
    · exact (hp j p hj).2
    · obtain ⟨i, hi, hi2⟩ := List.getElem_of_mem hx
      exact (hp i x (by rw [List.getElem?_eq_getElem hi, hi2])).1

def OpensFs {α : Type} (P : Program) (fs : List Field) (o : Nat) (d : Kd α) (G : α → Prop) : Prop :=
  ∀ (H : Type) (enc : TypeId × Value → H) (w : World) (base : Nat) (spare : Nat → Bool) (held : Bool) (fuel : Nat) (cs : List Value),
    cs.length = o + d.sz → (∀ (i : Nat) (f : Field), fs[i]? = some f → ∃ x, DataW.trod enc P w base spare held fuel f.type ((cs.drop f.offset).take (P.cellsOf f.type)) = some x) → ∃ a : α, d.K w a (cs.drop o) ∧ G a
theorem opensFs_last {f : Field} {o : Nat} (ho : f.offset = o) (hc : P.cellsOf f.type = d.sz) (h : Opens P f.type d G) : OpensFs P [f] o d G := by
  intro H enc w base spare held fuel cs hl hx
  obtain ⟨x, hx⟩ := hx 0 f rfl
  rw [ho, hc, List.take_of_length_le (by rw [List.length_drop]; omega)] at hx
  exact h H enc w base spare held fuel _ x hx
theorem opensFs_cons {f : Field} {fs : List Field} {o : Nat} {d2 : Kd β} {G2 : β → Prop} (ho : f.offset = o) (hc : P.cellsOf f.type = d.sz) (h : Opens P f.type d G) (h2 : OpensFs P fs (o + d.sz) d2 G2) :
    OpensFs P (f :: fs) o (Kd.pair d d2) (fun x => G x.1 ∧ G2 x.2) := by
  intro H enc w base spare held fuel cs hl hx
  have hl' : cs.length = o + (d.sz + d2.sz) := hl
  obtain ⟨x, hx0⟩ := hx 0 f rfl
  rw [ho, hc] at hx0
  obtain ⟨a, hK, hG⟩ := h H enc w base spare held fuel _ x hx0
  obtain ⟨b, hK2, hG2⟩ := h2 H enc w base spare held fuel cs (by omega) (fun i f2 hf => hx (i + 1) f2 (by simpa using hf))
  refine ⟨(a, b), ⟨_, _, ?_, hK, hK2⟩, hG, hG2⟩
  rw [← List.drop_drop]
  exact (List.take_append_drop d.sz (cs.drop o)).symm
theorem opens_struct {fs : Array Field} (ht : P.underlying t = some (.struct fs)) (hc : P.cellsOf t = d.sz) (h : OpensFs P fs.toList 0 d G) : Opens P t d G := by
  intro H enc w base spare held fuel cs x hx
  obtain ⟨xs, n, _, _, hl, hxl, hf⟩ := DataW.trod_struct ht hx
  have := h H enc w base spare held n cs (by omega) (fun i f hif => by
    have hif' : fs[i]? = some f := by simpa using hif
    have hi : i < xs.length := by
      rw [hxl]
      exact (Array.getElem?_eq_some_iff.1 hif').1
    exact ⟨xs[i], by rw [hf i f hif', List.getElem?_eq_getElem hi]⟩)
  simpa using this
theorem opens_iso (f : β → α) (g : α → β) (hfg : ∀ a, f (g a) = a) (h : Opens P t d G) : Opens P t (Kd.iso d f) (fun b => G (f b)) := by
  intro H enc w base spare held fuel cs x hx
  obtain ⟨a, hK, hG⟩ := h H enc w base spare held fuel cs x hx
  exact ⟨g a, by show d.K w (f (g a)) cs; rw [hfg]; exact hK, by show G (f (g a)); rw [hfg]; exact hG⟩
end
end Go.Proofs.YtleajljmjohcaaaO

namespace Go.Proofs.Ytleajljmjohcaaa
open Go.RowKit Go.Proofs.YtleajljmjohcaaaO Go.Proofs.YtleajljmjohcaaaW.PrintWords
def g48 (x : P.S48) : Prop := (Lit.int .i64 x.f0).wf = true ∧ x.f1.size ≤ maxLen ∧ x.f2.size ≤ maxLen ∧ (Lit.int .i64 x.f3).wf = true ∧ (Lit.int .i64 x.f4).wf = true
theorem open48 : Opens Try.prog 48 P.k48 g48 :=
  opens_iso (fun x : P.S48 => (x.f0, x.f1, x.f2, x.f3, x.f4)) (fun a => ⟨a.1, a.2.1, a.2.2.1, a.2.2.2.1, a.2.2.2.2⟩) (fun _ => rfl) (opens_struct Try.underlying48 (by kernel_rfl) (opensFs_cons (by rfl) (by kernel_rfl) (opens_int Try.underlying2) (opensFs_cons (by rfl) (by kernel_rfl) (opens_string Try.underlying9) (opensFs_cons (by rfl) (by kernel_rfl) (opens_string Try.underlying9) (opensFs_cons (by rfl) (by kernel_rfl) (opens_int Try.underlying2) (opensFs_last (by rfl) (by kernel_rfl) (opens_int Try.underlying2)))))))
end Go.Proofs.Ytleajljmjohcaaa

namespace Go.Proofs.Ytleajljmjohcaaa.P
open Go.RowKit Go.Sort Go.Proofs.YtleajljmjohcaaaW.PrintWords
def ltB (a b : ByteArray) : Bool := Op.bytesLess a.toList b.toList
theorem bytesLess_eq' : ∀ (x y : List UInt8), Op.bytesLess x y = decide (x < y)
  | [], [] => by simp [Op.bytesLess]
  | _ :: _, [] => by simp [Op.bytesLess]
  | [], _ :: _ => by simp [Op.bytesLess]
  | a :: x, b :: y => by
    rw [Op.bytesLess, bytesLess_eq' x y]
    simp only [List.cons_lt_cons_iff]
    by_cases h1 : a < b <;> by_cases h2 : a = b <;> by_cases h3 : x < y <;> simp [h1, h2, h3]
theorem toList_data' (b : ByteArray) : b.toList = b.data.toList := by simp [ByteArray.toList_eq]
theorem ltB_iff {a b : ByteArray} : ltB a b = true ↔ a.data.toList < b.data.toList := by
  unfold ltB; rw [bytesLess_eq', toList_data', toList_data']; simp
theorem ba_ext {a b : ByteArray} : a.data.toList = b.data.toList ↔ a = b := by
  rw [← toList_data', ← toList_data']
  constructor
  · intro h
    have h2 : a.data.toList = b.data.toList := by rw [← toList_data', ← toList_data']; exact h
    have h3 : a.data = b.data := Array.ext' h2
    cases a; cases b; simp at h3; rw [h3]
  · intro h; rw [h]
theorem ltB_irrefl (a : ByteArray) : ¬ ltB a a = true := by rw [ltB_iff]; exact List.lt_irrefl _
theorem ltB_trans {a b c : ByteArray} (h : ltB a b = true) (h2 : ltB b c = true) : ltB a c = true := by rw [ltB_iff] at *; exact List.lt_trans h h2
theorem lt_of_le_ne {a b : List UInt8} (h : a ≤ b) (hne : a ≠ b) : a < b := Classical.byContradiction fun hn => hne (List.le_antisymm h (List.not_lt.1 hn))
theorem ltB_total {a b : ByteArray} (h : ¬ ltB a b = true) (hne : a ≠ b) : ltB b a = true := by
  rw [ltB_iff] at *
  rcases List.le_total a.data.toList b.data.toList with h1 | h1
  · exact absurd (lt_of_le_ne h1 (fun e => hne (ba_ext.1 e))) h
  · exact lt_of_le_ne h1 (fun e => hne (ba_ext.1 e).symm)
/-- Ascending, nothing twice. -/
def Asc (l : List ByteArray) : Prop := l.Pairwise fun a b => ltB a b = true
theorem asc_ext : ∀ {a b : List ByteArray}, Asc a → Asc b → (∀ x, x ∈ a ↔ x ∈ b) → a = b
  | [], [], _, _, _ => rfl
  | [], y :: _, _, _, h => absurd ((h y).2 List.mem_cons_self) (by simp)
  | x :: _, [], _, _, h => absurd ((h x).1 List.mem_cons_self) (by simp)
  | x :: r, y :: s, ha, hb, h => by
    obtain ⟨hx, hr⟩ := List.pairwise_cons.1 ha
    obtain ⟨hy, hs⟩ := List.pairwise_cons.1 hb
    have e : x = y := by
      have h1 := (h x).1 List.mem_cons_self
      have h2 := (h y).2 List.mem_cons_self
      rcases List.mem_cons.1 h1 with e | h1
      · exact e
      rcases List.mem_cons.1 h2 with e | h2
      · exact e.symm
      exact absurd (ltB_trans (hx y h2) (hy x h1)) (ltB_irrefl x)
    subst e
    congr 1
    refine asc_ext hr hs fun z => ⟨fun hz => ?_, fun hz => ?_⟩
    · rcases List.mem_cons.1 ((h z).1 (List.mem_cons_of_mem _ hz)) with e | h'
      · subst e; exact absurd (hx z hz) (ltB_irrefl z)
      · exact h'
    · rcases List.mem_cons.1 ((h z).2 (List.mem_cons_of_mem _ hz)) with e | h'
      · subst e; exact absurd (hy z hz) (ltB_irrefl z)
      · exact h'
/-- The reference's putting: what is less, the name, what is greater. -/
def putG (x : ByteArray) : List ByteArray → Bool → List ByteArray
  | [], d => if d = true then [] else [x]
  | y :: r, d => (if (!d && !ltB y x) = true then [x] else []) ++ ((if y.toList = x.toList then [] else [y]) ++ putG x r (d || !ltB y x))
theorem putG_true (x : ByteArray) : ∀ l, putG x l true = l.filter fun y => decide (y.toList ≠ x.toList)
  | [] => by simp [putG]
  | y :: r => by
    rw [putG, Bool.true_or, putG_true x r]
    by_cases h : y.toList = x.toList <;> simp [h]
theorem toList_iff {a b : ByteArray} : a.toList = b.toList ↔ a = b := by rw [toList_data', toList_data']; exact ba_ext
theorem mem_putG (x : ByteArray) : ∀ l z, z ∈ putG x l false ↔ z = x ∨ z ∈ l
  | [], z => by simp [putG]
  | y :: r, z => by
    rw [putG]
    by_cases h : ltB y x = true
    · have hne : ¬ y.toList = x.toList := fun e => ltB_irrefl x (by rw [toList_iff] at e; rwa [e] at h)
      simp only [h, Bool.not_true, Bool.and_false, Bool.false_eq_true, if_false, List.nil_append, if_neg hne, Bool.or_false, List.singleton_append, List.mem_cons, mem_putG x r z]
      constructor
      · rintro (h | h | h) <;> simp [h]
      · rintro (h | h | h) <;> simp [h]
    · rw [Bool.not_eq_true] at h
      simp only [h, Bool.not_false, Bool.and_self, if_true, Bool.or_true, putG_true]
      by_cases e : y.toList = x.toList
      · have e' := toList_iff.1 e
        subst e'
        simp only [if_true, List.nil_append, List.singleton_append, List.mem_cons, List.mem_filter, decide_eq_true_iff]
        constructor
        · rintro (h | h); exact .inl h; exact .inr (.inr h.1)
        · rintro (h | h | h)
          · exact .inl h
          · exact .inl h
          · by_cases e2 : z = y
            · exact .inl e2
            · exact .inr ⟨h, fun e3 => e2 (toList_iff.1 e3)⟩
      · simp only [if_neg e, List.singleton_append, List.mem_cons, List.mem_filter, decide_eq_true_iff]
        constructor
        · rintro (h | h | h); exact .inl h; exact .inr (.inl h); exact .inr (.inr h.1)
        · rintro (h | h | h)
          · exact .inl h
          · exact .inr (.inl h)
          · by_cases e2 : z = x
            · exact .inl e2
            · exact .inr (.inr ⟨h, fun e3 => e2 (toList_iff.1 e3)⟩)
theorem asc_putG (x : ByteArray) : ∀ {l}, Asc l → Asc (putG x l false)
  | [], _ => by simp [putG, Asc]
  | y :: r, ha => by
    obtain ⟨hy, hr⟩ := List.pairwise_cons.1 ha
    rw [putG]
    by_cases h : ltB y x = true
    · have hne : ¬ y.toList = x.toList := fun e => ltB_irrefl x (by rw [toList_iff] at e; rwa [e] at h)
      simp only [h, Bool.not_true, Bool.and_false, Bool.false_eq_true, if_false, List.nil_append, if_neg hne, Bool.or_false, List.singleton_append]
      refine List.pairwise_cons.2 ⟨fun z hz => ?_, asc_putG x hr⟩
      rcases (mem_putG x r z).1 hz with e | hz
      · rw [e]; exact h
      · exact hy z hz
    · have h' := h
      rw [Bool.not_eq_true] at h'
      simp only [h', Bool.not_false, Bool.and_self, if_true, Bool.or_true, putG_true]
      have hf : Asc (r.filter fun z => decide (z.toList ≠ x.toList)) := List.Pairwise.filter _ hr
      by_cases e : y.toList = x.toList
      · have e' := toList_iff.1 e
        subst e'
        simp only [if_true, List.nil_append, List.singleton_append]
        exact List.pairwise_cons.2 ⟨fun z hz => hy z (List.mem_filter.1 hz).1, hf⟩
      · have hxy : ltB x y = true := ltB_total h (fun e2 => e (toList_iff.2 e2))
        simp only [if_neg e, List.singleton_append]
        refine List.pairwise_cons.2 ⟨fun z hz => ?_, List.pairwise_cons.2 ⟨fun z hz => hy z (List.mem_filter.1 hz).1, hf⟩⟩
        rcases List.mem_cons.1 hz with e2 | hz
        · rw [e2]; exact hxy
        · exact ltB_trans hxy (hy z (List.mem_filter.1 hz).1)
theorem putG_length (x : ByteArray) : ∀ l d, (putG x l d).length ≤ l.length + 1
  | [], d => by rw [putG]; split <;> simp
  | y :: r, d => by
    rw [putG]
    cases d with
    | true =>
      have := putG_length x r true
      simp only [Bool.not_true, Bool.false_and, Bool.false_eq_true, if_false, List.nil_append, Bool.true_or, List.length_append, List.length_cons]
      split <;> simp <;> omega
    | false =>
      by_cases h : ltB y x = true
      · have := putG_length x r false
        simp only [h, Bool.not_true, Bool.and_false, Bool.false_eq_true, if_false, List.nil_append, Bool.or_false, List.length_append, List.length_cons]
        split <;> simp <;> omega
      · rw [Bool.not_eq_true] at h
        have h1 := List.length_filter_le (fun z => decide (z.toList ≠ x.toList)) r
        simp only [h, Bool.not_false, Bool.and_self, if_true, Bool.or_true, putG_true, List.length_append, List.length_cons]
        split <;> simp at h1 ⊢ <;> omega
/-- All of a list put, one behind the other. -/
def puts (l acc : List ByteArray) : List ByteArray := l.foldl (fun a x => putG x a false) acc
theorem asc_puts : ∀ (l : List ByteArray) {acc}, Asc acc → Asc (puts l acc)
  | [], _, h => h
  | x :: r, _, h => asc_puts r (asc_putG x h)
theorem mem_puts : ∀ (l : List ByteArray) (acc : List ByteArray) (z : ByteArray), z ∈ puts l acc ↔ z ∈ l ∨ z ∈ acc
  | [], acc, z => by simp [puts]
  | x :: r, acc, z => by
    show z ∈ puts r (putG x acc false) ↔ _
    rw [mem_puts r, mem_putG, List.mem_cons]
    constructor
    · rintro (h | h | h) <;> simp [h]
    · rintro ((h | h) | h) <;> simp [h]
theorem puts_length : ∀ (l acc : List ByteArray), (puts l acc).length ≤ l.length + acc.length
  | [], acc => by simp [puts]
  | x :: r, acc => by
    have h1 := puts_length r (putG x acc false)
    have h2 := putG_length x acc false
    show (puts r (putG x acc false)).length ≤ _
    rw [List.length_cons]; omega
theorem compactUpTo_mem {α : Type} [Inhabited α] [DecidableEq α] (d : Array α) : ∀ (m : Nat) (x : α), x ∈ Lib.compactUpTo d m ↔ ∃ j, j < m ∧ d[j]! = x
  | 0, x => by simp [Lib.compactUpTo]
  | m + 1, x => by
    rw [Lib.compactUpTo_succ, List.mem_append, compactUpTo_mem d m x]
    by_cases hk : Lib.keeps d m = true
    · rw [if_pos hk, List.mem_singleton]
      constructor
      · rintro (⟨j, hj, e⟩ | e)
        · exact ⟨j, by omega, e⟩
        · exact ⟨m, by omega, e.symm⟩
      · rintro ⟨j, hj, e⟩
        by_cases h : j = m
        · subst h; exact .inr e.symm
        · exact .inl ⟨j, by omega, e⟩
    · rw [if_neg hk]
      have hm : m ≠ 0 ∧ d[m]! = d[m - 1]! := by
        unfold Lib.keeps at hk
        simp only [decide_eq_true_iff, not_or, Classical.not_not] at hk
        exact hk
      constructor
      · rintro (⟨j, hj, e⟩ | e)
        · exact ⟨j, by omega, e⟩
        · simp at e
      · rintro ⟨j, hj, e⟩
        by_cases h : j = m
        · subst h; exact .inl ⟨j - 1, by omega, by rw [← hm.2]; exact e⟩
        · exact .inl ⟨j, by omega, e⟩
theorem compactUpTo_asc (d : Array (List UInt8)) (hs : ∀ i j, i ≤ j → j < d.size → d[i]! ≤ d[j]!) : ∀ m, m ≤ d.size → (Lib.compactUpTo d m).Pairwise (fun a b => a < b)
  | 0, _ => by simp [Lib.compactUpTo]
  | m + 1, hm => by
    rw [Lib.compactUpTo_succ]
    have ih := compactUpTo_asc d hs m (by omega)
    by_cases hk : Lib.keeps d m = true
    · rw [if_pos hk]
      refine List.pairwise_append.2 ⟨ih, by simp, fun a ha b hb => ?_⟩
      rw [List.mem_singleton] at hb; subst hb
      obtain ⟨j, hj, rfl⟩ := (compactUpTo_mem d m a).1 ha
      have h2 : d[m]! ≠ d[m - 1]! := by
        unfold Lib.keeps at hk
        rcases of_decide_eq_true hk with h | h
        · omega
        · exact h
      have h3 : d[m - 1]! < d[m]! := lt_of_le_ne (hs _ _ (by omega) (by omega)) (fun e => h2 e.symm)
      exact List.lt_of_le_of_lt (hs j (m - 1) (by omega) (by omega)) h3
    · rw [if_neg hk, List.append_nil]; exact ih
theorem unS_mkS (l : List (List UInt8)) : unS (mkS l) = l := by
  unfold unS mkS; rw [List.map_map]; exact (List.map_congr_left (fun _ _ => rfl)).trans (List.map_id l)
theorem compactSort_eq (l : List ByteArray) : compactS (sortS l) = puts l [] := by
  have hsp := List.pairwise_mergeSort (le := fun x y : List UInt8 => decide (x ≤ y)) (fun a b c h1 h2 => by simp at *; exact List.le_trans h1 h2) (fun a b => by simp; exact List.le_total a b) (unS l)
  have hpm := List.mergeSort_perm (unS l) (fun x y : List UInt8 => decide (x ≤ y))
  unfold compactS sortS
  rw [unS_mkS]
  generalize hz : (unS l).mergeSort (fun x y : List UInt8 => decide (x ≤ y)) = zs at hsp hpm ⊢
  have hs : ∀ i j, i ≤ j → j < zs.toArray.size → zs.toArray[i]! ≤ zs.toArray[j]! := by
    intro i j hij hj
    have hj' : j < zs.length := by simpa using hj
    rw [getElem!_pos _ i (by simp; omega), getElem!_pos _ j (by simpa using hj')]
    simp only [List.getElem_toArray]
    by_cases e : i = j
    · subst e; exact List.le_refl _
    · simpa using List.pairwise_iff_getElem.1 hsp i j (by omega) hj' (by omega)
  refine asc_ext ?_ (asc_puts l (by simp [Asc])) (fun x => ?_)
  · unfold Lib.compact mkS Asc
    rw [List.pairwise_map]
    refine (compactUpTo_asc zs.toArray hs zs.length (by simp)).imp fun {a b} h => ?_
    rw [ltB_iff]; simpa using h
  · rw [mem_puts]
    unfold Lib.compact mkS
    simp only [List.mem_map, compactUpTo_mem, List.not_mem_nil, or_false]
    constructor
    · rintro ⟨_, ⟨j, hj, rfl⟩, rfl⟩
      rw [getElem!_pos _ j (by simpa using hj)]
      have h1 : zs[j] ∈ unS l := hpm.mem_iff.1 (List.getElem_mem hj)
      unfold unS at h1
      obtain ⟨b, hb, e⟩ := List.mem_map.1 h1
      have : (⟨(zs.toArray[j]'(by simpa using hj)).toArray⟩ : ByteArray) = b := by
        simp only [List.getElem_toArray, ← e]
      rw [this]; exact hb
    · intro hx
      have h1 : x.data.toList ∈ zs := hpm.mem_iff.2 (List.mem_map.2 ⟨x, hx, rfl⟩)
      obtain ⟨j, hj, e⟩ := List.getElem_of_mem h1
      refine ⟨x.data.toList, ⟨j, hj, ?_⟩, rfl⟩
      rw [getElem!_pos _ j (by simpa using hj)]
      simpa using e
end Go.Proofs.Ytleajljmjohcaaa.P

namespace Go.Proofs.YtleajljmjohcaaaL
open Go.RowKit Go.Proofs.YtleajljmjohcaaaW.PrintWords

theorem wrap_id {x : Int} (h0 : -9223372036854775808 ≤ x) (h1 : x ≤ 9223372036854775807) : wrap64 x = x := by unfold wrap64; omega
theorem wrap_succ {i n : Nat} (h : i < n) (hn : n ≤ 4611686018427387904) : wrap64 ((i : Int) + 1) = ((i + 1 : Nat) : Int) := by
  rw [wrap_id (by omega) (by omega)]; omega
theorem lt_cast {i n : Nat} (h : i < n) : (i : Int) < (n : Int) := by omega
theorem nn_cast (i : Nat) : 0 ≤ (i : Int) := by omega
theorem nlt_cast (n : Nat) : ¬ ((n : Int) < (n : Int)) := by omega
theorem drop_cons {α : Type} {l : List α} {i : Nat} (h : i < l.length) : l.drop i = l[i] :: l.drop (i + 1) := List.drop_eq_getElem_cons h

/-- A loop over a list: at each element it answers, or it goes on behind it. G: what it answers from a rest on. -/
theorem list_loop {α σ ρ : Type} (L : Nat → σ → Int → Option ρ) (l : List α) (G : List α → σ → ρ) (Inv : Nat → σ → Prop) (B : Nat)
    (step : ∀ (k i : Nat) (hi : i < l.length) (s : σ), Inv i s → B ≤ k →
      L (k + 1) s (i : Int) = some (G (l[i] :: l.drop (i + 1)) s) ∨ ∃ s', Inv (i + 1) s' ∧ G (l[i] :: l.drop (i + 1)) s = G (l.drop (i + 1)) s' ∧ L (k + 1) s (i : Int) = L k s' ((i + 1 : Nat) : Int))
    (stop : ∀ (k : Nat) (s : σ), Inv l.length s → L (k + 1) s (l.length : Int) = some (G [] s)) :
    ∀ (k : Nat) (s : σ), B + l.length < k → Inv 0 s → L k s 0 = some (G l s) := by
  have main : ∀ (d k i : Nat) (s : σ), i + d = l.length → B + d < k → Inv i s → L k s (i : Int) = some (G (l.drop i) s) := by
    intro d
    induction d with
    | zero =>
      intro k i s hi hk hI
      obtain ⟨k, rfl⟩ : ∃ m, k = m + 1 := ⟨k - 1, by omega⟩
      have : i = l.length := by omega
      subst this
      rw [stop k s hI, List.drop_length]
    | succ d ih =>
      intro k i s hi hk hI
      obtain ⟨k, rfl⟩ : ∃ m, k = m + 1 := ⟨k - 1, by omega⟩
      have hlt : i < l.length := by omega
      rw [drop_cons hlt]
      rcases step k i hlt s hI (by omega) with h | ⟨s', hI', hG, hL⟩
      · exact h
      · rw [hL, hG]
        exact ih k (i + 1) s' (by omega) (by omega) hI'
  intro k s hk hI
  have := main l.length k 0 s (by omega) hk hI
  simpa using this

/-- A loop that fills a list that was made, place by place. -/
theorem set_loop {α β : Type} (L : Nat → List β → Int → Option (List β)) (l : List α) (g : α → β) (B : Nat)
    (step : ∀ (k i : Nat) (hi : i < l.length) (acc : List β), acc.length = l.length → B ≤ k → L (k + 1) acc (i : Int) = L k (acc.set i (g l[i])) ((i + 1 : Nat) : Int))
    (stop : ∀ (k : Nat) (acc : List β), L (k + 1) acc (l.length : Int) = some acc) :
    ∀ (k : Nat) (acc : List β), B + l.length < k → acc.length = l.length → L k acc 0 = some (l.map g) := by
  have main : ∀ (d k i : Nat) (acc : List β), i + d = l.length → B + d < k → acc.length = l.length → L k acc (i : Int) = some (acc.take i ++ (l.drop i).map g) := by
    intro d
    induction d with
    | zero =>
      intro k i acc hi hk ha
      obtain ⟨k, rfl⟩ : ∃ m, k = m + 1 := ⟨k - 1, by omega⟩
      have : i = l.length := by omega
      subst this
      rw [stop k acc, List.drop_length, List.take_of_length_le (by omega)]
      simp
    | succ d ih =>
      intro k i acc hi hk ha
      obtain ⟨k, rfl⟩ : ∃ m, k = m + 1 := ⟨k - 1, by omega⟩
      have hlt : i < l.length := by omega
      rw [step k i hlt acc ha (by omega), ih k (i + 1) _ (by omega) (by omega) (by simpa using ha), drop_cons hlt]
      have h2 : (acc.set i (g l[i])).take (i + 1) = acc.take i ++ [g l[i]] := by
        rw [List.take_succ_eq_append_getElem (by simp; omega)]
        have h3 : (acc.set i (g l[i])).take i = acc.take i := by
          apply List.ext_getElem
          · simp
          · intro j h1 h2
            simp at h1
            simp [List.getElem_set_ne (show i ≠ j by omega)]
        rw [h3]
        simp
      rw [h2]
      simp only [List.append_assoc, List.singleton_append, List.map_cons]
  intro k acc hk ha
  have := main l.length k 0 acc (by omega) hk ha
  simpa using this

/-- A loop that compares two lists of one length, place by place. -/
theorem eq_loop {α : Type} [DecidableEq α] (L : Nat → Int → Option Bool) (a b : List α) (hab : a.length = b.length) (B : Nat)
    (step : ∀ (k i : Nat) (h : i < a.length) (h2 : i < b.length), B ≤ k → L (k + 1) (i : Int) = if a[i] = b[i] then L k ((i + 1 : Nat) : Int) else some false)
    (stop : ∀ (k : Nat), L (k + 1) (a.length : Int) = some true) :
    ∀ (k : Nat), B + a.length < k → L k 0 = some (decide (a = b)) := by
  have main : ∀ (d k i : Nat), i + d = a.length → B + d < k → L k (i : Int) = some (decide (a.drop i = b.drop i)) := by
    intro d
    induction d with
    | zero =>
      intro k i hi hk
      obtain ⟨k, rfl⟩ : ∃ m, k = m + 1 := ⟨k - 1, by omega⟩
      obtain rfl : i = a.length := by omega
      rw [stop k, List.drop_length, hab, List.drop_length]
      rfl
    | succ d ih =>
      intro k i hi hk
      obtain ⟨k, rfl⟩ : ∃ m, k = m + 1 := ⟨k - 1, by omega⟩
      have h1 : i < a.length := by omega
      have h2 : i < b.length := by omega
      rw [step k i h1 h2 (by omega), ih k (i + 1) (by omega) (by omega)]
      rw [show (decide (a.drop i = b.drop i)) = decide (a[i] = b[i] ∧ a.drop (i + 1) = b.drop (i + 1)) from by
        congr 1; rw [drop_cons h1, drop_cons h2, List.cons.injEq]]
      by_cases e : a[i] = b[i]
      · rw [if_pos e]; simp [e]
      · rw [if_neg e]; simp [e]
  intro k hk
  have := main a.length k 0 (by omega) hk
  simpa using this

/-- A loop that asks each index below n and stops at the first that says no. -/
theorem all_loop (L : Nat → Int → Option Bool) (n : Nat) (p : Nat → Bool) (fin : Bool) (B : Nat)
    (step : ∀ (k i : Nat), i < n → B ≤ k → L (k + 1) (i : Int) = if p i = true then L k ((i + 1 : Nat) : Int) else some false)
    (stop : ∀ (k : Nat), B ≤ k → L (k + 1) (n : Int) = some fin) :
    ∀ (k : Nat), B + n < k → L k 0 = some ((List.range n).all p && fin) := by
  have main : ∀ (d k i : Nat), i + d = n → B + d < k → L k (i : Int) = some ((List.range' i d).all p && fin) := by
    intro d
    induction d with
    | zero =>
      intro k i hi hk
      obtain ⟨k, rfl⟩ : ∃ m, k = m + 1 := ⟨k - 1, by omega⟩
      obtain rfl : i = n := by omega
      rw [stop k (by omega)]; simp
    | succ d ih =>
      intro k i hi hk
      obtain ⟨k, rfl⟩ : ∃ m, k = m + 1 := ⟨k - 1, by omega⟩
      rw [step k i (by omega) (by omega), List.range'_succ, List.all_cons]
      by_cases h : p i = true
      · rw [if_pos h, ih k (i + 1) (by omega) (by omega), h]; simp
      · rw [if_neg h]; simp [h]
  intro k hk
  have := main n k 0 (by omega) hk
  rw [List.range_eq_range']
  exact this

theorem pred_cast {i n : Nat} (h0 : 0 < i) (h : i < n) (hn : n ≤ 4611686018427387904) : wrap64 ((i : Int) - 1) = ((i - 1 : Nat) : Int) := by
  rw [wrap_id (by omega) (by omega)]; omega

theorem rdOf_get {α : Type} {z : α} {l : List α} {i : Nat} (h : i < l.length) : rdOf z l (i : Int) = l[i] := by
  simp [rdOf, List.getD_eq_getElem?_getD, List.getElem?_eq_getElem h]

/-- A list marked with rising numbers from m on (each element takes c x of them), and the number behind. -/
def mkl {α : Type} (g : α → Int → α) (c : α → Int) : List α → Int → List α
  | [], _ => []
  | x :: r, m => g x m :: mkl g c r (m + c x)
def mtot {α : Type} (c : α → Int) : List α → Int → Int
  | [], m => m
  | x :: r, m => mtot c r (m + c x)
theorem mtot_ge {α : Type} {c : α → Int} (hc : ∀ x, 0 ≤ c x) : ∀ (l : List α) (m : Int), m ≤ mtot c l m
  | [], m => by simp [mtot]
  | x :: r, m => by
    have := mtot_ge hc r (m + c x)
    have := hc x
    simp only [mtot]; omega
theorem mtot_const {α : Type} (n : Int) : ∀ (l : List α) (m : Int), mtot (fun _ => n) l m = m + n * l.length
  | [], m => by simp [mtot]
  | x :: r, m => by
    simp only [mtot, mtot_const n r, List.length_cons]
    rw [show ((r.length + 1 : Nat) : Int) = (r.length : Int) + 1 from by omega, Int.mul_add]
    omega
theorem mark_loop {α : Type} (L : Nat → List α → Int → Int → Option (Int × List α)) (g : α → Int → α) (c : α → Int) (M : Int) (B : Nat) (hc : ∀ x, 0 ≤ c x)
    (step : ∀ (k : Nat) (pre : List α) (x : α) (rest : List α) (m : Int), B ≤ k → pre.length < 4611686018427387904 → 0 ≤ m → m + c x ≤ M →
      L (k + 1) (pre ++ x :: rest) m (pre.length : Int) = L k (pre ++ g x m :: rest) (m + c x) ((pre.length + 1 : Nat) : Int))
    (stop : ∀ (k : Nat) (l : List α) (m : Int), L (k + 1) l m (l.length : Int) = some (m, l)) :
    ∀ (k : Nat) (l : List α) (m : Int), B + l.length < k → l.length ≤ 4611686018427387904 → 0 ≤ m → mtot c l m ≤ M → L k l m 0 = some (mtot c l m, mkl g c l m) := by
  have main : ∀ (rest : List α) (k : Nat) (pre : List α) (m : Int), B + rest.length < k → pre.length + rest.length ≤ 4611686018427387904 → 0 ≤ m → mtot c rest m ≤ M →
      L k (pre ++ rest) m (pre.length : Int) = some (mtot c rest m, pre ++ mkl g c rest m) := by
    intro rest
    induction rest with
    | nil =>
      intro k pre m hk _ _ _
      obtain ⟨k, rfl⟩ : ∃ m, k = m + 1 := ⟨k - 1, by omega⟩
      have := stop k pre m
      simpa [mtot, mkl] using this
    | cons x r ih =>
      intro k pre m hk hl hm hM
      obtain ⟨k, rfl⟩ : ∃ m, k = m + 1 := ⟨k - 1, by omega⟩
      simp only [List.length_cons] at hk hl
      have h1 := mtot_ge hc r (m + c x)
      have h2 := hc x
      simp only [mtot] at hM
      rw [step k pre x r m (by omega) (by omega) hm (by omega)]
      have h3 := ih k (pre ++ [g x m]) (m + c x) (by omega) (by simp; omega) (by omega) hM
      simpa [mtot, mkl, List.append_assoc] using h3
  intro k l m hk hl hm hM
  have := main l k [] m hk (by simpa using hl) hm hM
  simpa using this
theorem held_loop {α : Type} (L : Nat → Int → Int → Option Int) (g : α → Int → α) (c : α → Int) (M : Int) (B : Nat) (hc : ∀ x, 0 ≤ c x) (l' : List α)
    (step : ∀ (k : Nat) (pre : List α) (x : α) (rest : List α) (m : Int), l' = pre ++ g x m :: rest → B ≤ k → pre.length < 4611686018427387904 → 0 ≤ m → m + c x ≤ M →
      L (k + 1) m (pre.length : Int) = L k (m + c x) ((pre.length + 1 : Nat) : Int))
    (stop : ∀ (k : Nat) (m : Int), L (k + 1) m (l'.length : Int) = some m) :
    ∀ (k : Nat) (l : List α) (m : Int), l' = mkl g c l m → B + l.length < k → l.length ≤ 4611686018427387904 → 0 ≤ m → mtot c l m ≤ M → L k m 0 = some (mtot c l m) := by
  have main : ∀ (rest : List α) (k : Nat) (pre : List α) (m : Int), l' = pre ++ mkl g c rest m → B + rest.length < k → pre.length + rest.length ≤ 4611686018427387904 → 0 ≤ m → mtot c rest m ≤ M →
      L k m (pre.length : Int) = some (mtot c rest m) := by
    intro rest
    induction rest with
    | nil =>
      intro k pre m he hk _ _ _
      obtain ⟨k, rfl⟩ : ∃ m, k = m + 1 := ⟨k - 1, by omega⟩
      have := stop k m
      have e : l'.length = pre.length := by rw [he]; simp [mkl]
      rw [e] at this
      simpa [mtot] using this
    | cons x r ih =>
      intro k pre m he hk hl hm hM
      obtain ⟨k, rfl⟩ : ∃ m, k = m + 1 := ⟨k - 1, by omega⟩
      simp only [List.length_cons] at hk hl
      have h1 := mtot_ge hc r (m + c x)
      have h2 := hc x
      simp only [mtot] at hM
      rw [step k pre x (mkl g c r (m + c x)) m (by simpa [mkl] using he) (by omega) (by omega) hm (by omega)]
      have h3 := ih k (pre ++ [g x m]) (m + c x) (by simpa [mkl, List.append_assoc] using he) (by omega) (by simp; omega) (by omega) hM
      simpa [mtot] using h3
  intro k l m he hk hl hm hM
  have := main l k [] m (by simpa using he) hk (by simpa using hl) hm hM
  simpa using this
theorem rdOf_mid {α : Type} {z : α} {pre rest : List α} {x : α} : rdOf z (pre ++ x :: rest) (pre.length : Int) = x := by simp [rdOf]
theorem set_mid {α : Type} {pre rest : List α} {x v : α} : (pre ++ x :: rest).set ((pre.length : Int)).toNat v = pre ++ v :: rest := by simp

theorem bytes_eq {a b : ByteArray} : a.toList = b.toList ↔ a = b := by
  constructor
  · intro h
    have h2 : a.data.toList = b.data.toList := by
      have e : ∀ x : ByteArray, x.toList = x.data.toList := ByteArray.toList_eq
      rw [← e, ← e]; exact h
    cases a; cases b
    simp at h2
    rw [h2]
  · intro h; rw [h]
end Go.Proofs.YtleajljmjohcaaaL

namespace Go.Proofs.YtleajljmjohcaaaL
open Go.RowKit Go.Proofs.YtleajljmjohcaaaW.PrintWords
theorem list_loopW {α σ τ : Type} (L : Nat → σ → Int → τ) (l : List α) (G : List α → σ → τ) (Inv : Nat → σ → Prop) (B c : Nat)
    (step : ∀ (k i : Nat) (hi : i < l.length) (s : σ), Inv i s → B ≤ k →
      L (k + c) s (i : Int) = G (l[i] :: l.drop (i + 1)) s ∨ ∃ s' k', k ≤ k' ∧ Inv (i + 1) s' ∧ G (l[i] :: l.drop (i + 1)) s = G (l.drop (i + 1)) s' ∧ L (k + c) s (i : Int) = L k' s' ((i + 1 : Nat) : Int))
    (stop : ∀ (k : Nat) (s : σ), Inv l.length s → B ≤ k → L (k + c) s (l.length : Int) = G [] s) :
    ∀ (k : Nat) (s : σ), B + c * (l.length + 1) ≤ k → Inv 0 s → L k s 0 = G l s := by
  have main : ∀ (d k i : Nat) (s : σ), i + d = l.length → B + c * (d + 1) ≤ k → Inv i s → L k s (i : Int) = G (l.drop i) s := by
    intro d
    induction d with
    | zero =>
      intro k i s hi hk hI
      have h1 : c * (0 + 1) = c := by simp
      obtain ⟨k, rfl⟩ : ∃ m, k = m + c := ⟨k - c, by omega⟩
      have : i = l.length := by omega
      subst this
      rw [stop k s hI (by omega), List.drop_length]
    | succ d ih =>
      intro k i s hi hk hI
      have h1 : c * (d + 1 + 1) = c * (d + 1) + c := Nat.mul_succ _ _
      obtain ⟨k, rfl⟩ : ∃ m, k = m + c := ⟨k - c, by omega⟩
      have hlt : i < l.length := by omega
      rw [List.drop_eq_getElem_cons hlt]
      rcases step k i hlt s hI (by omega) with h | ⟨s', k', hk', hI', hG, h⟩
      · exact h
      · rw [h, hG]; exact ih k' (i + 1) s' (by omega) (by omega) hI'
  intro k s hk hI
  have := main l.length k 0 s (by omega) hk hI
  simpa using this
theorem list_loopV {α σ ρ : Type} (L : Nat → σ → Int → Option ρ) (l : List α) (G : List α → σ → ρ) (Inv : Nat → σ → Prop) (B c : Nat)
    (step : ∀ (k i : Nat) (hi : i < l.length) (s : σ), Inv i s → B ≤ k →
      L (k + c) s (i : Int) = some (G (l[i] :: l.drop (i + 1)) s) ∨ ∃ s' k', k ≤ k' ∧ Inv (i + 1) s' ∧ G (l[i] :: l.drop (i + 1)) s = G (l.drop (i + 1)) s' ∧ L (k + c) s (i : Int) = L k' s' ((i + 1 : Nat) : Int))
    (stop : ∀ (k : Nat) (s : σ), Inv l.length s → B ≤ k → L (k + c) s (l.length : Int) = some (G [] s)) :
    ∀ (k : Nat) (s : σ), B + c * (l.length + 1) ≤ k → Inv 0 s → L k s 0 = some (G l s) :=
  list_loopW L l (fun r s => some (G r s)) Inv B c (fun k i hi s hI hB => by
    rcases step k i hi s hI hB with h | ⟨s', k', h1, h2, h3, h4⟩
    · exact .inl h
    · exact .inr ⟨s', k', h1, h2, by rw [h3], h4⟩) stop
end Go.Proofs.YtleajljmjohcaaaL

namespace Go.Proofs.Ytleajljmjohcaaa.P
open Go.RowKit Go.Proofs.YtleajljmjohcaaaW.PrintWords Go.Proofs.YtleajljmjohcaaaL

def nameByte (c : Int) : Bool := (decide (97 ≤ c) && decide (c ≤ 122)) || (decide (48 ≤ c) && decide (c ≤ 57))
def nameB (s : ByteArray) : Bool := decide (1 ≤ s.size) && decide (s.size ≤ 10) && (decide (97 ≤ bt s 0) && decide (bt s 0 ≤ 122)) && (List.range s.size).all fun i => nameByte (bt s (i : Int))
theorem size_zero {s : ByteArray} : s.toList = ([] : List UInt8) ↔ s.size = 0 := by
  rw [ByteArray.toList_eq]
  constructor
  · intro h; have := congrArg List.length h; simpa using this
  · intro h
    apply List.eq_nil_of_length_eq_zero
    simpa using h
theorem l01Name_eq (s : ByteArray) {k : Nat} (hk : 20 ≤ k) : spec_l01Name.f k s = some (nameB s) := by
  obtain ⟨k, rfl⟩ : ∃ m, k = m + 1 := ⟨k - 1, by omega⟩
  unfold spec_l01Name.f nameB
  by_cases h0 : s.size = 0
  · rw [if_pos (size_zero.2 h0)]; simp [spec_l01Name.j0, h0]
  rw [if_neg (fun e => h0 (size_zero.1 e))]
  by_cases h1 : (s.size : Int) > 10
  · rw [if_pos h1]
    have : ¬ s.size ≤ 10 := by omega
    simp [spec_l01Name.j0, this]
  rw [if_neg h1, if_pos (by omega)]
  unfold spec_l01Small.f
  have h1' : s.size ≤ 10 := by omega
  have h0' : 1 ≤ s.size := by omega
  by_cases h2 : bt s 0 ≥ 97
  · rw [if_pos h2]; simp only [Option.bind_some, spec_l01Name.j0]
    by_cases h3 : bt s 0 ≤ 122
    · rw [if_neg (by simp [h3])]
      rw [all_loop (fun k i => spec_l01Name.l0 k s i) s.size (fun i => nameByte (bt s (i : Int))) true 1 (fun k i hi hB => ?_) (fun k _ => ?_) k (by omega)]
      · simp [h1', h0', h3, ge_iff_le.1 h2]
      · obtain ⟨k, rfl⟩ : ∃ m, k = m + 1 := ⟨k - 1, by omega⟩
        show spec_l01Name.l0 (k + 1 + 1) s (i : Int) = _
        rw [spec_l01Name.l0]
        rw [if_pos (by omega), if_pos (nn_cast i), wrap_succ hi (by omega)]
        unfold spec_l01Small.f spec_l01Digit.f nameByte
        by_cases e1 : bt s (i : Int) ≥ 97
        · rw [if_pos e1]
          by_cases e2 : bt s (i : Int) ≤ 122
          · simp [e2, ge_iff_le.1 e1]
          · have e3 : bt s (i : Int) ≥ 48 := by omega
            have e4 : ¬ bt s (i : Int) ≤ 57 := by omega
            simp [e2, e4, ge_iff_le.1 e3]
        · rw [if_neg e1]
          have e1' : ¬ 97 ≤ bt s (i : Int) := e1
          by_cases e2 : bt s (i : Int) ≥ 48
          · rw [if_pos e2]
            by_cases e3 : bt s (i : Int) ≤ 57
            · simp [e3, ge_iff_le.1 e2]
            · simp [e3, e1']
          · rw [if_neg e2]
            have e2' : ¬ 48 ≤ bt s (i : Int) := e2
            simp [e1', e2']
      · show spec_l01Name.l0 (_ + 1) s (s.size : Int) = _
        rw [spec_l01Name.l0, if_neg (nlt_cast _)]
    · rw [if_pos (by simp [h3])]; simp [h3]
  · rw [if_neg h2]; simp only [Option.bind_some, spec_l01Name.j0]
    have h2' : ¬ 97 ≤ bt s 0 := h2
    rw [if_pos (by rfl)]; simp [h2']

theorem IsName_eq (s : ByteArray) {k : Nat} (hk : 20 ≤ k) : impl_IsName.f k s = some (nameB s) := by
  unfold impl_IsName.f nameB
  by_cases h0 : (s.size : Int) < 1
  · rw [if_pos h0]
    have : ¬ 1 ≤ s.size := by omega
    simp [this]
  rw [if_neg h0]
  by_cases h1 : (s.size : Int) > 10
  · rw [if_pos h1]
    have : ¬ s.size ≤ 10 := by omega
    simp [this]
  rw [if_neg h1, if_pos (by omega)]
  have h1' : s.size ≤ 10 := by omega
  have h0' : 1 ≤ s.size := by omega
  by_cases h2 : bt s 0 < 97
  · rw [if_pos h2]
    have h2' : ¬ 97 ≤ bt s 0 := by omega
    simp [h2']
  rw [if_neg h2]
  by_cases h3 : bt s 0 > 122
  · rw [if_pos h3]
    have h3' : ¬ bt s 0 ≤ 122 := by omega
    simp [h3']
  rw [if_neg h3]
  have h2' : 97 ≤ bt s 0 := by omega
  have h3' : bt s 0 ≤ 122 := by omega
  unfold impl_onlyNameBytes.f
  rw [all_loop (fun k i => impl_onlyNameBytes.l0 k s (s.size : Int) i) s.size (fun i => nameByte (bt s (i : Int))) true 0 (fun k i hi hB => ?_) (fun k _ => ?_) k (by omega)]
  · simp [h1', h0', h3', h2']
  · show impl_onlyNameBytes.l0 (k + 1) s (s.size : Int) (i : Int) = _
    rw [impl_onlyNameBytes.l0]
    rw [if_pos (lt_cast hi), if_pos (nn_cast i), if_pos (lt_cast hi), wrap_succ hi (by omega)]
    unfold nameByte
    repeat' split
    all_goals first | rfl | (exfalso; simp_all; done) | (exfalso; simp_all; omega)
  · show impl_onlyNameBytes.l0 (k + 1) s (s.size : Int) (s.size : Int) = _
    rw [impl_onlyNameBytes.l0, if_neg (nlt_cast _)]

theorem in_eq (a b c : Int) : spec_l00In.f a b c = some (decide (b ≤ a) && decide (a ≤ c)) := by
  unfold spec_l00In.f
  by_cases h : a ≥ b
  · rw [if_pos h]; simp [ge_iff_le.1 h]
  · rw [if_neg h]
    have h' : ¬ b ≤ a := h
    simp [h']
theorem within_eq (a b c : Int) : impl_within.f a b c = some (decide (b ≤ a) && decide (a ≤ c)) := by
  unfold impl_within.f
  by_cases h : a ≥ b
  · rw [if_pos h]; simp [ge_iff_le.1 h]
  · rw [if_neg h]
    have h' : ¬ b ≤ a := h
    simp [h']
end Go.Proofs.Ytleajljmjohcaaa.P

namespace Go.Proofs.Ytleajljmjohcaaa.P
open Go.RowKit Go.Proofs.YtleajljmjohcaaaW.PrintWords Go.Proofs.YtleajljmjohcaaaL
def cmpI (a b : Int) : Int := if a < b then -1 else if a > b then 1 else 0
def cmpS (a b : ByteArray) : Int := if Op.bytesLess a.toList b.toList = true then -1 else if Op.bytesLess b.toList a.toList = true then 1 else 0
theorem Compare_int64_eq (a b : Int) : cmp_Compare_int64.f a b = some (cmpI a b) := by
  unfold cmp_Compare_int64.f cmp_isNaN_int64.f cmpI
  simp only [bne_self_eq_false, Option.bind_some]
  simp only [Bool.false_eq_true, if_false]
  split
  · rfl
  · split <;> rfl
theorem Compare_string_eq (a b : ByteArray) : cmp_Compare_string.f a b = some (cmpS a b) := by
  unfold cmp_Compare_string.f cmp_isNaN_string.f cmpS
  simp only [bne_self_eq_false, Option.bind_some]
  simp only [Bool.false_eq_true, if_false]
  split
  · rfl
  · split <;> rfl
theorem Or3_eq (x y z : Int) {k : Nat} (hk : 10 ≤ k) : cmp_Or_int.f k [x, y, z] = some (if x = 0 then if y = 0 then z else y else x) := by
  obtain ⟨k, rfl⟩ : ∃ m, k = m + 4 := ⟨k - 4, by omega⟩
  have w0 : wrap64 (0 + 1) = 1 := by unfold wrap64; omega
  have w1 : wrap64 (1 + 1) = 2 := by unfold wrap64; omega
  have w2 : wrap64 (2 + 1) = 3 := by unfold wrap64; omega
  unfold cmp_Or_int.f
  simp only [cmp_Or_int.l0, w0, w1, w2, rd]
  by_cases h0 : x = 0
  · by_cases h1 : y = 0
    · by_cases h2 : z = 0
      · simp [h0, h1, h2]
      · simp [h0, h1, h2]
    · simp [h0, h1]
  · simp [h0]
theorem less_irrefl (a : List UInt8) : Op.bytesLess a a = false := by
  induction a with
  | nil => rfl
  | cons x r ih => simp [Op.bytesLess, ih]
theorem less_total {a b : List UInt8} (h : Op.bytesLess a b = false) (hne : a ≠ b) : Op.bytesLess b a = true := by
  have := bytesLess_total a b
  rw [h, beq_eq_false_iff_ne.2 hne] at this
  simpa using this.symm
end Go.Proofs.Ytleajljmjohcaaa.P

namespace Go.Proofs.Ytleajljmjohcaaa.P
open Go.RowKit Go.Proofs.YtleajljmjohcaaaW.PrintWords Go.Proofs.YtleajljmjohcaaaL
set_option linter.unusedVariables false
set_option linter.unusedSimpArgs false

theorem eqStringS_eq {a b : List ByteArray} (hl : a.length ≤ 1048576) {k : Nat} (hk : 1048600 ≤ k) : laws_eqStringS.f k a b = some (decide (a = b)) := by
  unfold laws_eqStringS.f
  by_cases h : a.length = b.length
  · rw [if_pos (by omega)]
    refine eq_loop (fun k i => laws_eqStringS.l0 k a b i) a b h 0 (fun k i h1 h2 _ => ?_) (fun k => ?_) k (by omega)
    · simp only [laws_eqStringS.l0]
      rw [if_pos (lt_cast h1), if_pos (nn_cast i), if_pos (lt_cast h2), rdOf_get h1, rdOf_get h2, wrap_succ h1 (by omega)]
      by_cases e0 : a[i].toList = b[i].toList
      · rw [if_pos e0, if_pos (bytes_eq.1 e0)]
      · rw [if_neg e0, if_neg (fun e => e0 (bytes_eq.2 e))]
    · simp only [laws_eqStringS.l0]
      rw [if_neg (nlt_cast _)]
  · rw [if_neg (by omega)]
    have : a ≠ b := fun e => h (by rw [e])
    simp [this]
def cLesson (x : S48) : S49 := ⟨x.f0, x.f1, x.f2, x.f3, x.f4⟩
def smLesson (x : S48) : Prop := x.f1.size ≤ 1048576 ∧ x.f2.size ≤ 1048576
theorem rd_lLesson {l : List S48} {i : Nat} (h : i < l.length) : rd_T48 l (i : Int) = l[i] := by
  simp [rd_T48, List.getD_eq_getElem?_getD, List.getElem?_eq_getElem h]
theorem rd_iLesson {l : List S49} {i : Nat} (h : i < l.length) : rd_T49 l (i : Int) = l[i] := by
  simp [rd_T49, List.getD_eq_getElem?_getD, List.getElem?_eq_getElem h]
theorem ext_iLesson {a b : S49} : a = b ↔ a.f0 = b.f0 ∧ a.f1.toList = b.f1.toList ∧ a.f2.toList = b.f2.toList ∧ a.f3 = b.f3 ∧ a.f4 = b.f4 := by
  simp only [bytes_eq]; cases a; cases b; simp
instance : DecidableEq S49 := fun _ _ => decidable_of_iff _ ext_iLesson.symm
theorem szLesson_some {x : S48} (hg : Go.Proofs.Ytleajljmjohcaaa.g48 x) {a : Int} (ha0 : 0 ≤ a) (ha : a ≤ 1048576) : ∃ r, laws_szLesson.f x.f0 x.f1 x.f2 x.f3 x.f4 a = some r ∧ (r < 0 ∨ (0 ≤ r ∧ r ≤ a ∧ smLesson x)) := by
  unfold laws_szLesson.f smLesson
  have hs1 : x.f1.size ≤ 9223372036854775807 := by have := hg.2.1; simpa only [maxLen] using this
  rw [wrap_id (x := a - (x.f1.size : Int)) (by omega) (by omega)]
  by_cases h1 : a - (x.f1.size : Int) < 0
  · rw [if_pos h1]; exact ⟨-1, rfl, .inl (by omega)⟩
  rw [if_neg h1]
  have hs2 : x.f2.size ≤ 9223372036854775807 := by have := hg.2.2.1; simpa only [maxLen] using this
  rw [wrap_id (x := (a - (x.f1.size : Int)) - (x.f2.size : Int)) (by omega) (by omega)]
  by_cases h2 : (a - (x.f1.size : Int)) - (x.f2.size : Int) < 0
  · rw [if_pos h2]; exact ⟨-1, rfl, .inl (by omega)⟩
  rw [if_neg h2]
  exact ⟨_, rfl, .inr ⟨by omega, by omega, by omega, by omega⟩⟩
theorem szLessonS_some {l : List S48} (hl : l.length ≤ maxLen) (hg : ∀ y ∈ l, Go.Proofs.Ytleajljmjohcaaa.g48 y) {a : Int} (ha0 : 0 ≤ a) (ha : a ≤ 1048576) {k : Nat} (hk : 1048600 ≤ k) : ∃ r, laws_szLessonS.f k l a = some r ∧ (r < 0 ∨ (0 ≤ r ∧ r ≤ a ∧ l.length ≤ 1048576 ∧ ∀ y ∈ l, smLesson y)) := by
  have hl' : l.length ≤ 9223372036854775807 := by simpa only [maxLen] using hl
  unfold laws_szLessonS.f
  rw [wrap_id (by omega) (by omega)]
  by_cases h0 : a - (l.length : Int) < 0
  · rw [if_pos h0]; exact ⟨-1, rfl, .inl (by omega)⟩
  · rw [if_neg h0]
    have main : ∀ (d k i : Nat) (s : Int), i + d = l.length → 0 + d < k → 0 ≤ s → s ≤ a - l.length → ∃ r, laws_szLessonS.l0 k l s (i : Int) = some r ∧ (r < 0 ∨ (0 ≤ r ∧ r ≤ s ∧ ∀ y ∈ l.drop i, smLesson y)) := by
      intro d
      induction d with
      | zero =>
        intro k i s hi hk h0 h1
        obtain ⟨k, rfl⟩ : ∃ m, k = m + 1 := ⟨k - 1, by omega⟩
        obtain rfl : i = l.length := by omega
        simp only [laws_szLessonS.l0]
        rw [if_neg (nlt_cast _)]
        exact ⟨s, rfl, .inr ⟨h0, by omega, by simp⟩⟩
      | succ d ih =>
        intro k i s hi hk h0 h1
        obtain ⟨k, rfl⟩ : ∃ m, k = m + 1 := ⟨k - 1, by omega⟩
        have hlt : i < l.length := by omega
        simp only [laws_szLessonS.l0]
        rw [if_pos (lt_cast hlt), if_pos (nn_cast i), rd_lLesson hlt, wrap_succ hlt (by omega)]
        obtain ⟨r1, hr1, e1⟩ := szLesson_some (hg l[i] (List.getElem_mem hlt)) (a := s) (by omega) (by omega)
        rw [hr1]; simp only [Option.bind_some]
        by_cases h2 : r1 < 0
        · rw [if_pos h2]
          exact ⟨-1, rfl, .inl (by omega)⟩
        · rw [if_neg h2]
          have e1' := e1.resolve_left h2
          obtain ⟨r, hr, h3⟩ := ih k (i + 1) r1 (by omega) (by omega) (by omega) (by omega)
          refine ⟨r, hr, h3.imp id fun h3 => ⟨h3.1, by omega, ?_⟩⟩
          rw [drop_cons hlt]
          intro y hy
          rcases List.mem_cons.1 hy with rfl | hy
          · exact e1'.2.2
          · exact h3.2.2 y hy
    obtain ⟨r, hr, h⟩ := main l.length k 0 (a - l.length) (by omega) (by omega) (by omega) (by omega)
    refine ⟨r, hr, h.imp id fun h => ⟨h.1, by omega, by omega, ?_⟩⟩
    simpa using h.2.2
theorem toLesson_eq {x : S48} (hs : smLesson x) : laws_toLesson.f x.f0 x.f1 x.f2 x.f3 x.f4 = some ((cLesson x).f0, (cLesson x).f1, (cLesson x).f2, (cLesson x).f3, (cLesson x).f4) := by
  unfold smLesson at hs
  unfold laws_toLesson.f
  rfl
theorem toLessonS_eq {l : List S48} (hl : l.length ≤ 1048576) (hs : ∀ y ∈ l, smLesson y) {k : Nat} (hk : 1048600 ≤ k) : laws_toLessonS.f k l = some (l.map cLesson) := by
  unfold laws_toLessonS.f
  rw [if_pos (nn_cast _), if_pos (by simp; omega)]
  refine set_loop (fun k acc i => laws_toLessonS.l0 k l acc i) l cLesson 0 (fun k i hi acc ha hB => ?_) (fun k acc => ?_) k _ (by omega) (by simp)
  · simp only [laws_toLessonS.l0]
    rw [if_pos (lt_cast hi), if_pos (nn_cast i), rd_lLesson hi, wrap_succ hi (by omega), toLesson_eq (hs _ (List.getElem_mem hi))]
    simp only [Option.bind_some]
    rw [if_pos (by omega)]
    rfl
  · simp only [laws_toLessonS.l0]
    rw [if_neg (nlt_cast _)]
def smiLesson (x : S49) : Prop := True
theorem eqLesson_eq {a b : S49} (hs : smiLesson a) : laws_eqLesson.f a.f0 a.f1 a.f2 a.f3 a.f4 b.f0 b.f1 b.f2 b.f3 b.f4 = some (decide (a = b)) := by
  unfold smiLesson at hs
  unfold laws_eqLesson.f
  by_cases e0 : a.f0 = b.f0
  rotate_left
  · rw [if_neg e0]; have hne : ¬ a = b := fun e => e0 (ext_iLesson.1 e).1; simp [hne]
  rw [if_pos e0]
  by_cases e1 : a.f1.toList = b.f1.toList
  rotate_left
  · rw [if_neg e1]; have hne : ¬ a = b := fun e => e1 (ext_iLesson.1 e).2.1; simp [hne]
  rw [if_pos e1]
  by_cases e2 : a.f2.toList = b.f2.toList
  rotate_left
  · rw [if_neg e2]; have hne : ¬ a = b := fun e => e2 (ext_iLesson.1 e).2.2.1; simp [hne]
  rw [if_pos e2]
  by_cases e3 : a.f3 = b.f3
  rotate_left
  · rw [if_neg e3]; have hne : ¬ a = b := fun e => e3 (ext_iLesson.1 e).2.2.2.1; simp [hne]
  rw [if_pos e3]
  by_cases e4 : a.f4 = b.f4
  rotate_left
  · rw [if_neg e4]; have hne : ¬ a = b := fun e => e4 (ext_iLesson.1 e).2.2.2.2; simp [hne]
  rw [if_pos e4]
  rw [decide_eq_true (ext_iLesson.2 ⟨e0, e1, e2, e3, e4⟩)]
theorem eqLessonS_eq {a b : List S49} (hl : a.length ≤ 1048576) (hs : ∀ y ∈ a, smiLesson y) {k : Nat} (hk : 1048600 ≤ k) : laws_eqLessonS.f k a b = some (decide (a = b)) := by
  unfold laws_eqLessonS.f
  by_cases h : a.length = b.length
  · rw [if_pos (by omega)]
    refine eq_loop (fun k i => laws_eqLessonS.l0 k a b i) a b h 0 (fun k i h1 h2 hB => ?_) (fun k => ?_) k (by omega)
    · simp only [laws_eqLessonS.l0]
      rw [if_pos (lt_cast h1), if_pos (nn_cast i), if_pos (lt_cast h2), rd_iLesson h1, rd_iLesson h2, wrap_succ h1 (by omega), eqLesson_eq (hs _ (List.getElem_mem h1))]
      simp only [Option.bind_some, decide_eq_true_eq]
    · simp only [laws_eqLessonS.l0]
      rw [if_neg (nlt_cast _)]
  · rw [if_neg (by omega)]
    have : a ≠ b := fun e => h (by rw [e])
    simp [this]
def mt (n : Int) : ByteArray := (laws_markText.f 100 n).getD ⟨#[]⟩
theorem strOf_one (x : Int) : (strOfNums [x]).size = 1 := rfl
theorem markText_some : ∀ (d k : Nat) (n : Int) (s : ByteArray), 0 ≤ n → n ≤ 9223372036854775807 → n < 10 ^ d → s.size + d ≤ 1000 → d < k → ∃ r, laws_markText.l0 k n s = some r := by
  intro d
  induction d with
  | zero =>
    intro k n s h0 hb h1 hs hk
    obtain ⟨k, rfl⟩ : ∃ m, k = m + 1 := ⟨k - 1, by omega⟩
    have : n = 0 := by simp at h1; omega
    subst this
    simp only [laws_markText.l0]
    rw [if_neg (by omega), if_pos (by omega)]
    exact ⟨_, rfl⟩
  | succ d ih =>
    intro k n s h0 hb h1 hs hk
    obtain ⟨k, rfl⟩ : ∃ m, k = m + 1 := ⟨k - 1, by omega⟩
    simp only [laws_markText.l0]
    by_cases h : n > 0
    · rw [if_pos h]
      simp only [Option.bind_some]
      rw [if_pos (by rw [strOf_one]; omega)]
      have e : wrap64 (n.tdiv 10) = n / 10 := by
        rw [Int.tdiv_eq_ediv_of_nonneg h0, wrap_id (by omega) (by omega)]
      rw [e]
      refine ih k _ _ (by omega) (by omega) ?_ ?_ (by omega)
      · have : (10 : Int) ^ (d + 1) = 10 ^ d * 10 := by rw [Int.pow_succ]
        rw [this] at h1
        exact Int.ediv_lt_of_lt_mul (by omega) h1
      · rw [ByteArray.size_append, strOf_one]; omega
    · rw [if_neg h, if_pos (by omega)]
      exact ⟨_, rfl⟩
theorem markText_eq {n : Int} (h0 : 0 ≤ n) (h : n ≤ 1073741824) {k : Nat} (hk : 100 ≤ k) : laws_markText.f k n = some (mt n) := by
  have hs : ∃ r, laws_markText.f 100 n = some r := by
    unfold laws_markText.f
    by_cases h1 : n ≤ 0
    · rw [if_pos h1]; exact ⟨_, rfl⟩
    · rw [if_neg h1]
      exact markText_some 12 100 n _ h0 (by omega) (by omega) (by decide) (by omega)
  obtain ⟨r, hr⟩ := hs
  have := at_rounds (fun k => laws_markText.mono n k) hk hr
  rw [this]
  unfold mt
  rw [hr]; rfl
def mkStringS (l : List ByteArray) (m : Int) : List ByteArray := mkl (fun _ m => mt m) (fun _ => 1) l m
theorem markStringS_eq {l : List ByteArray} {m : Int} (hm : 0 ≤ m) (hb : m + l.length ≤ 1073741824) {k : Nat} (hk : 200 + l.length ≤ k) : laws_markStringS.f k l m = some (m + l.length, mkStringS l m) := by
  unfold laws_markStringS.f mkStringS
  have h := mark_loop (fun k l m i => laws_markStringS.l0 k l m i) (fun _ m => mt m) (fun _ => 1) 1073741824 100 (fun _ => by omega) (fun k pre x rest m hB hp hm hM => ?_) (fun k l m => ?_) k l m (by omega) (by omega) hm (by rw [mtot_const]; omega)
  · rw [mtot_const] at h
    rw [show m + (l.length : Int) = m + 1 * l.length from by omega]
    exact h
  · simp only [laws_markStringS.l0]
    rw [if_pos (by simp; omega), markText_eq hm (by omega) hB]
    simp only [Option.bind_some]
    rw [if_pos (nn_cast _), set_mid, wrap_id (x := m + 1) (by omega) (by omega), wrap_succ (i := pre.length) (n := pre.length + 1) (by omega) (by omega)]
  · simp only [laws_markStringS.l0]
    rw [if_neg (nlt_cast _)]
theorem heldStringS_mk {l : List ByteArray} {m0 : Int} (hm : 0 ≤ m0) (hb : m0 + l.length ≤ 1073741824) {k : Nat} (hk : 200 + l.length ≤ k) : laws_heldStringS.f k (mkStringS l m0) m0 = some (m0 + l.length) := by
  unfold laws_heldStringS.f
  have h := held_loop (fun k m i => laws_heldStringS.l0 k (mkStringS l m0) m i) (fun _ m => mt m) (fun _ => 1) 1073741824 100 (fun _ => by omega) (mkStringS l m0) (fun k pre x rest m he hB hp hm hM => ?_) (fun k m => ?_) k l m0 rfl (by omega) (by omega) hm (by rw [mtot_const]; omega)
  · rw [mtot_const] at h
    rw [show m0 + (l.length : Int) = m0 + 1 * l.length from by omega]
    exact h
  · simp only [laws_heldStringS.l0]
    rw [if_pos (by rw [he]; simp; omega), if_pos (nn_cast _), markText_eq hm (by omega) hB]
    simp only [Option.bind_some]
    rw [he, rdOf_mid, if_pos rfl, wrap_id (x := m + 1) (by omega) (by omega), wrap_succ (i := pre.length) (n := pre.length + 1) (by omega) (by omega)]
  · simp only [laws_heldStringS.l0]
    rw [if_neg (nlt_cast _)]
theorem rdm_iLesson {pre rest : List S49} {x : S49} : rd_T49 (pre ++ x :: rest) (pre.length : Int) = x := by simp [rd_T49]
def mkLessonS (l : List S49) (m : Int) : List S49 := mkl (fun (_ : S49) m => (⟨m, mt (m + 1), mt (m + 1 + 1), m + 1 + 1 + 1, m + 1 + 1 + 1 + 1⟩ : S49)) (fun _ => 5) l m
theorem markLessonS_eq {l : List S49} {m : Int} (hm : 0 ≤ m) (hb : m + 5 * l.length ≤ 1073741824) {k : Nat} (hk : 200 + l.length ≤ k) : laws_markLessonS.f k l m = some (m + 5 * l.length, mkLessonS l m) := by
  unfold laws_markLessonS.f mkLessonS
  have h := mark_loop (fun k l m i => laws_markLessonS.l0 k l m i) (fun (_ : S49) m => (⟨m, mt (m + 1), mt (m + 1 + 1), m + 1 + 1 + 1, m + 1 + 1 + 1 + 1⟩ : S49)) (fun _ => 5) 1073741824 100 (fun _ => by omega) (fun k pre x rest m hB hp hm hM => ?_) (fun k l m => ?_) k l m (by omega) (by omega) hm (by rw [mtot_const]; omega)
  · rw [mtot_const] at h
    exact h
  · simp only [laws_markLessonS.l0]
    have w1 : wrap64 (m + 1) = m + 1 := wrap_id (by omega) (by omega)
    have w2 : wrap64 ((m + 1) + 1) = m + 1 + 1 := wrap_id (by omega) (by omega)
    have w3 : wrap64 ((m + 1 + 1) + 1) = m + 1 + 1 + 1 := wrap_id (by omega) (by omega)
    have w4 : wrap64 ((m + 1 + 1 + 1) + 1) = m + 1 + 1 + 1 + 1 := wrap_id (by omega) (by omega)
    have w5 : wrap64 ((m + 1 + 1 + 1 + 1) + 1) = m + 1 + 1 + 1 + 1 + 1 := wrap_id (by omega) (by omega)
    have t1 := fun k (hB : 100 ≤ k) => markText_eq (n := m + 1) (by omega) (by omega) hB
    have t2 := fun k (hB : 100 ≤ k) => markText_eq (n := m + 1 + 1) (by omega) (by omega) hB
    rw [if_pos (by simp; omega)]
    simp only [Option.bind_some, w1, w2, w3, w4, w5, t1 _ hB, t2 _ hB]
    (try rw [if_pos (nn_cast _)])
    simp only [Option.bind_some, rdm_iLesson, set_mid, w1, w2, w3, w4, w5, t1 _ hB, t2 _ hB]
    (try rw [if_pos (nn_cast _)])
    (try simp only [Option.bind_some, rdm_iLesson, set_mid, w1, w2, w3, w4, w5])
    rw [wrap_succ (i := pre.length) (n := pre.length + 1) (by omega) (by omega), show m + (5 : Int) = m + 1 + 1 + 1 + 1 + 1 from by omega]
  · simp only [laws_markLessonS.l0]
    rw [if_neg (nlt_cast _)]
end Go.Proofs.Ytleajljmjohcaaa.P

namespace Go.Proofs.Ytleajljmjohcaaa.P
open Go.RowKit Go.Proofs.YtleajljmjohcaaaW.PrintWords Go.Proofs.YtleajljmjohcaaaL
def lesB (x : S49) : Bool := (decide (0 ≤ x.f0) && decide (x.f0 ≤ 100000)) && (nameB x.f1 && (nameB x.f2 && ((decide (1 ≤ x.f3) && decide (x.f3 ≤ 480)) && (decide (0 ≤ x.f4) && decide (x.f4 ≤ 100)))))
def lesLess (a b : S49) : Bool := if a.f0 = b.f0 then (if a.f1.toList = b.f1.toList then Op.bytesLess a.f2.toList b.f2.toList else Op.bytesLess a.f1.toList b.f1.toList) else decide (a.f0 < b.f0)
def lesAt (l : List S49) (i : Nat) : Bool := lesB (rd_T49 l (i : Int)) && (decide (i = 0) || lesLess (rd_T49 l ((i - 1 : Nat) : Int)) (rd_T49 l (i : Int)))
def pupils (l : List S49) : List ByteArray := puts (l.map (·.f1)) []
def lessonsB (l : List S49) : Bool := (List.range l.length).all (lesAt l) && (decide (l.length ≤ 64) && decide ((pupils l).length ≤ 12))
def cmpL (a b : S49) : Int := if cmpI a.f0 b.f0 = 0 then (if cmpS a.f1 b.f1 = 0 then cmpS a.f2 b.f2 else cmpS a.f1 b.f1) else cmpI a.f0 b.f0

theorem l28One_e_eq (l : List S49) (i : Int) {k : Nat} (hk : 20 ≤ k) : spec_l28One_e.f k l i = some (lesB (rd_T49 l i)) := by
  unfold spec_l28One_e.f lesB
  rw [l01Name_eq _ hk, l01Name_eq _ hk]; simp only [Option.bind_some, in_eq]
  cases (decide (0 ≤ (rd_T49 l i).f0) && decide ((rd_T49 l i).f0 ≤ 100000)) <;> cases nameB (rd_T49 l i).f1 <;> cases nameB (rd_T49 l i).f2 <;> cases (decide (1 ≤ (rd_T49 l i).f3) && decide ((rd_T49 l i).f3 ≤ 480)) <;> simp
theorem l28Before_e_eq (l : List S49) (i j : Int) : spec_l28Before_e.f l i l j = some (lesLess (rd_T49 l i) (rd_T49 l j)) := by
  unfold spec_l28Before_e.f lesLess
  split
  · split <;> rfl
  · rfl
theorem Lesson_valid_eq (x : S49) {k : Nat} (hk : 20 ≤ k) : impl_Lesson_valid.f k x.f0 x.f1 x.f2 x.f3 x.f4 = some (lesB x) := by
  unfold impl_Lesson_valid.f lesB
  rw [IsName_eq _ hk, IsName_eq _ hk]; simp only [Option.bind_some, within_eq]
  cases (decide (0 ≤ x.f0) && decide (x.f0 ≤ 100000)) <;> cases nameB x.f1 <;> cases nameB x.f2 <;> cases (decide (1 ≤ x.f3) && decide (x.f3 ≤ 480)) <;> simp
theorem compareLessons_eq (a b : S49) {k : Nat} (hk : 10 ≤ k) : impl_compareLessons.f k a.f0 a.f1 a.f2 a.f3 a.f4 b.f0 b.f1 b.f2 b.f3 b.f4 = some (cmpL a b) := by
  unfold impl_compareLessons.f cmpL
  rw [Compare_int64_eq, Compare_string_eq, Compare_string_eq]
  simp only [Option.bind_some]
  rw [Or3_eq _ _ _ hk]; rfl
theorem cmpI_zero {a b : Int} : cmpI a b = 0 ↔ a = b := by
  unfold cmpI; constructor
  · intro h; split at h
    · omega
    · split at h <;> omega
  · intro h; rw [if_neg (by omega), if_neg (by omega)]
theorem cmpS_zero {a b : ByteArray} : cmpS a b = 0 ↔ a.toList = b.toList := by
  unfold cmpS; constructor
  · intro h
    by_cases h1 : Op.bytesLess a.toList b.toList = true
    · rw [if_pos h1] at h; omega
    · rw [if_neg h1] at h
      by_cases h2 : Op.bytesLess b.toList a.toList = true
      · rw [if_pos h2] at h; omega
      · by_cases e : a.toList = b.toList
        · exact e
        · exact absurd (less_total (by simpa using h1) e) h2
  · intro h; rw [h, less_irrefl]; rfl
theorem cmpS_neg (a b : ByteArray) : cmpS a b ≥ 0 ↔ Op.bytesLess a.toList b.toList = false := by
  unfold cmpS
  by_cases h3 : Op.bytesLess a.toList b.toList = true
  · rw [if_pos h3]; simp [h3]
  · rw [if_neg h3]; simp [h3]; split <;> omega
theorem cmpL_neg (a b : S49) : cmpL a b ≥ 0 ↔ lesLess a b = false := by
  unfold cmpL lesLess
  by_cases h1 : a.f0 = b.f0
  · rw [if_pos (cmpI_zero.2 h1), if_pos h1]
    by_cases h2 : a.f1.toList = b.f1.toList
    · rw [if_pos (cmpS_zero.2 h2), if_pos h2]; exact cmpS_neg _ _
    · rw [if_neg (fun e => h2 (cmpS_zero.1 e)), if_neg h2]; exact cmpS_neg _ _
  · rw [if_neg (fun e => h1 (cmpI_zero.1 e)), if_neg h1]
    unfold cmpI
    by_cases h3 : a.f0 < b.f0
    · rw [if_pos h3]; simp [h3]
    · rw [if_neg h3, if_pos (by omega)]; simp [h3]

theorem rds_get {l : List ByteArray} {i : Nat} (h : i < l.length) : rdOf ByteArray.empty l (i : Int) = l[i] := rdOf_get h
theorem l28Put_eq {l : List ByteArray} (hl : l.length ≤ 1048576) (x : ByteArray) {k : Nat} (hk : 2 * l.length + 10 ≤ k) : spec_l28Put.f k l x = some (putG x l false) := by
  unfold spec_l28Put.f
  have main := list_loopV (fun k (s : List ByteArray × Bool) i => spec_l28Put.l0 k l x s.1 s.2 i) l (fun r s => s.1 ++ putG x r s.2) (fun i s => s.1.length ≤ 2 * i) 0 2
    (fun k i hi s hI _ => ?_) (fun k s hI _ => ?_) k ([], false) (by omega) (by simp)
  · simpa using main
  · obtain ⟨out, done⟩ := s
    right
    have hb : out.length ≤ 2 * i := hI
    simp only [spec_l28Put.l0]
    rw [if_pos (lt_cast hi), if_pos (nn_cast i), rds_get hi]
    have hw := wrap_succ hi (by omega)
    cases done with
    | true =>
      rw [if_pos rfl]
      simp only [spec_l28Put.j1]
      rw [if_neg (by decide), if_pos (nn_cast i), if_pos (lt_cast hi), rds_get hi, hw]
      by_cases e : l[i].toList = x.toList
      · rw [if_pos e]
        exact ⟨(out, true), k, Nat.le_refl _, (by show out.length ≤ _; omega), by simp only [putG]; simp [e], rfl⟩
      · rw [if_neg e, if_pos (by omega)]
        exact ⟨(out ++ [l[i]], true), k, Nat.le_refl _, (by show (out ++ [l[i]]).length ≤ _; simp; omega), by simp only [putG]; simp [e], rfl⟩
    | false =>
      rw [if_neg (by decide)]
      simp only [spec_l28Put.j1]
      by_cases h : Op.bytesLess l[i].toList x.toList = true
      · have hlt : ltB l[i] x = true := h
        rw [h, if_neg (by decide), if_pos (nn_cast i), if_pos (lt_cast hi), rds_get hi, hw]
        have e : ¬ l[i].toList = x.toList := fun e => by rw [e, less_irrefl] at h; exact absurd h (by decide)
        rw [if_neg e, if_pos (by omega)]
        exact ⟨(out ++ [l[i]], false), k, Nat.le_refl _, (by show (out ++ [l[i]]).length ≤ _; simp; omega), by simp only [putG]; simp [e, hlt], rfl⟩
      · rw [Bool.not_eq_true] at h
        have hlt : ltB l[i] x = false := h
        rw [h, if_pos (by decide), if_pos (by omega), Option.bind_some, if_pos (nn_cast i), if_pos (lt_cast hi), rds_get hi, hw]
        by_cases e : l[i].toList = x.toList
        · rw [if_pos e]
          exact ⟨(out ++ [x], true), k, Nat.le_refl _, (by show (out ++ [x]).length ≤ _; simp; omega), by simp only [putG]; simp [e, hlt], rfl⟩
        · rw [if_neg e, if_pos (by simp; omega)]
          exact ⟨(out ++ [x] ++ [l[i]], true), k, Nat.le_refl _, (by show (out ++ [x] ++ [l[i]]).length ≤ _; simp; omega), by simp only [putG]; simp [e, hlt], rfl⟩
  · obtain ⟨out, done⟩ := s
    have hb : out.length ≤ 2 * l.length := hI
    simp only [spec_l28Put.l0]
    rw [if_neg (nlt_cast _)]
    cases done with
    | true => rw [if_pos rfl]; simp [putG]
    | false => rw [if_neg (by decide), if_pos (by omega)]; simp [putG]
theorem l28Pupils_eq {l : List S49} (hl : l.length ≤ 64) {k : Nat} (hk : 300 ≤ k) : spec_l28Pupils.f k l = some (pupils l) := by
  unfold spec_l28Pupils.f pupils
  refine list_loop (fun k s i => spec_l28Pupils.l0 k l s i) l (fun r s => puts (r.map (·.f1)) s) (fun i s => s.length ≤ i) 200 (fun k i hi s hI hB => ?_) (fun k s hI => ?_) k [] (by omega) (by simp)
  · right
    simp only [spec_l28Pupils.l0]
    rw [if_pos (lt_cast hi), if_pos (nn_cast i), rd_iLesson hi, l28Put_eq (by omega) _ (by omega), wrap_succ hi (by omega)]
    refine ⟨putG l[i].f1 s false, ?_, rfl, rfl⟩
    have := putG_length l[i].f1 s false
    omega
  · simp only [spec_l28Pupils.l0]
    rw [if_neg (nlt_cast _)]; rfl
theorem Sort_eq {l : List ByteArray} (hl : l.length ≤ 1048576) : slices_Sort_S_string.f l = some (sortS l) := by
  unfold slices_Sort_S_string.f; rw [if_pos (by omega)]
theorem pupilsOf_eq {l : List S49} (hl : l.length ≤ 1048576) {k : Nat} (hk : l.length + 10 ≤ k) : impl_pupilsOf.f k l = some (pupils l) := by
  unfold impl_pupilsOf.f pupils
  rw [← compactSort_eq]
  refine (list_loop (fun k s i => impl_pupilsOf.l0 k s l (l.length : Int) i) l (fun r s => compactS (sortS (s ++ r.map (·.f1)))) (fun i s => s.length = i) 0 (fun k i hi s hI hB => ?_) (fun k s hI => ?_) k [] (by omega) (by simp)).trans ?_
  · right
    simp only [impl_pupilsOf.l0]
    rw [if_pos (lt_cast hi), if_pos (nn_cast i), if_pos (lt_cast hi), if_pos (by omega), rd_iLesson hi, wrap_succ hi (by omega)]
    exact ⟨s ++ [l[i].f1], by simp [hI], by rw [List.map_cons, List.append_assoc]; rfl, rfl⟩
  · simp only [impl_pupilsOf.l0]
    rw [if_neg (nlt_cast _), Sort_eq (by omega)]
    simp [slices_Compact_S_string.f]
  · simp
theorem l28Ok_eq {l : List S49} (hl : l.length ≤ 1048576) {k : Nat} (hk : 1049000 ≤ k) : spec_l28Ok.f k l = some (lessonsB l) := by
  unfold spec_l28Ok.f lessonsB
  refine all_loop (fun k i => spec_l28Ok.l0 k l i) l.length (lesAt l) _ 310 (fun k i hi hB => ?_) (fun k hB => ?_) k (by omega)
  · simp only [spec_l28Ok.l0]
    rw [if_pos (lt_cast hi), if_pos (nn_cast i), l28One_e_eq _ _ (by omega), wrap_succ hi (by omega)]
    simp only [Option.bind_some, lesAt]
    by_cases h : lesB (rd_T49 l (i : Int)) = true
    · rw [if_pos h]
      by_cases h0 : i = 0
      · rw [if_neg (by omega)]; simp only [h, decide_eq_true h0, Bool.true_or, Bool.and_self, if_true]
      · rw [if_pos (by omega), pred_cast (by omega) hi (by omega), if_pos (nn_cast _), if_pos (by omega), l28Before_e_eq]
        simp [h, h0]
    · rw [if_neg h]; simp [h]
  · simp only [spec_l28Ok.l0]
    rw [if_neg (nlt_cast _)]
    by_cases h : l.length ≤ 64
    · rw [if_pos (by omega), l28Pupils_eq h (by omega), decide_eq_true h]
      simp only [Option.bind_some, Bool.true_and]
      congr 2
      exact propext (by omega)
    · rw [if_neg (by omega), decide_eq_false h]; simp
theorem ValidLessons_eq {l : List S49} {k : Nat} (hk : 400 ≤ k) : impl_ValidLessons.f k l = some (lessonsB l) := by
  obtain ⟨k, rfl⟩ : ∃ m, k = m + 1 := ⟨k - 1, by omega⟩
  unfold impl_ValidLessons.f lessonsB
  by_cases h64 : (l.length : Int) > 64
  · rw [if_pos h64]
    have : ¬ l.length ≤ 64 := by omega
    simp [this, impl_ValidLessons.j0]
  rw [if_neg h64]
  have h64' : l.length ≤ 64 := by omega
  rw [decide_eq_true h64', pupilsOf_eq (by omega) (by omega)]
  simp only [Option.bind_some, impl_ValidLessons.j0, Bool.true_and]
  by_cases h12 : (pupils l).length ≤ 12
  · rw [if_neg (by simp; omega), decide_eq_true h12]
    refine all_loop (fun k i => impl_ValidLessons.l0 k l l (l.length : Int) i) l.length (lesAt l) true 20 (fun k i hi hB => ?_) (fun k _ => ?_) k (by omega)
    · simp only [impl_ValidLessons.l0]
      rw [if_pos (lt_cast hi), if_pos (nn_cast i), if_pos (lt_cast hi), Lesson_valid_eq _ hB, wrap_succ hi (by omega)]
      simp only [Option.bind_some, lesAt]
      by_cases h : lesB (rd_T49 l (i : Int)) = true
      · rw [if_pos h]
        by_cases h0 : i = 0
        · rw [if_neg (by omega)]; simp only [h, decide_eq_true h0, Bool.true_or, Bool.and_self, if_true]
        · rw [if_pos (by omega), pred_cast (by omega) hi (by omega), if_pos (nn_cast _), if_pos (by omega), compareLessons_eq _ _ (by omega)]
          simp only [Option.bind_some, cmpL_neg, h, decide_eq_false h0, Bool.false_or, Bool.true_and]
          by_cases h3 : lesLess (rd_T49 l ((i - 1 : Nat) : Int)) (rd_T49 l (i : Int)) = true
          · rw [if_neg (by simp [h3]), if_pos h3]
          · rw [if_pos (by simpa using h3), if_neg h3]
      · rw [if_neg h]; simp [h]
    · simp only [impl_ValidLessons.l0]
      rw [if_neg (nlt_cast _)]
  · rw [if_pos (by simp; omega), decide_eq_false h12]; simp
theorem smi_lessons (l : List S49) : ∀ y ∈ l, smiLesson y := fun _ _ => trivial
end Go.Proofs.Ytleajljmjohcaaa.P

namespace Go.Proofs.Ytleajljmjohcaaa.P
open Go.RowKit Go.Proofs.YtleajljmjohcaaaW.PrintWords Go.Proofs.YtleajljmjohcaaaL
theorem lessons_len {l : List S49} (h : lessonsB l = true) : l.length ≤ 64 := by
  unfold lessonsB at h
  simp only [Bool.and_eq_true, decide_eq_true_iff] at h
  exact h.2.1
end Go.Proofs.Ytleajljmjohcaaa.P

namespace Go.Proofs.Ytleajljmjohcaaa.Pure
open Go.RowKit Go.Proofs.YtleajljmjohcaaaW.PrintWords Go.Proofs.YtleajljmjohcaaaL Go.Proofs.Ytleajljmjohcaaa.P
theorem FnExactPupilsOf : ∀ (x0 : List (P.S48)), (x0.length ≤ maxLen ∧ ∀ y ∈ x0, g48 y) → ∃ k : Nat, P.laws_FnExactPupilsOf.f k x0 = some true := by
  intro x0 ⟨hl0, hg0⟩
  refine ⟨2097200, ?_⟩
  unfold laws_FnExactPupilsOf.f
  obtain ⟨r, hr, h⟩ := szLessonS_some hl0 hg0 (a := 1048576) (by omega) (by omega) (k := 2097200) (by omega)
  rw [hr]; simp only [Option.bind_some]
  by_cases h0 : r < 0
  · rw [if_pos h0]
  rw [if_neg h0]
  obtain ⟨_, _, z0, s0⟩ := h.resolve_left h0
  have hz : (x0.map cLesson).length ≤ 1048576 := by simpa using z0
  have hT : ∀ k, 1048600 ≤ k → laws_toLessonS.f k x0 = some (x0.map cLesson) := fun k hk => toLessonS_eq z0 s0 hk
  have hE : ∀ k, 1048600 ≤ k → laws_eqLessonS.f k (x0.map cLesson) (x0.map cLesson) = some true := fun k hk => by rw [eqLessonS_eq hz (smi_lessons _) hk]; simp
  rw [hT _ (by omega)]
  simp only [Option.bind_some]
  generalize x0.map cLesson = l at hz hT hE ⊢
  obtain ⟨v, hS, hI, hb⟩ : ∃ v, (∀ k, 2097000 ≤ k → spec_PupilsOf.f k l = some v) ∧ (∀ k, 2097000 ≤ k → impl_PupilsOf.f k l = some v) ∧ v.1.length ≤ 100 := by
    by_cases hv : lessonsB l = true
    · have hl := lessons_len hv
      refine ⟨(pupils l, 0), fun k hk => ?_, fun k hk => ?_, ?_⟩
      · unfold spec_PupilsOf.f; rw [l28Ok_eq hz (by omega)]; simp only [Option.bind_some, if_pos hv]
        rw [l28Pupils_eq hl (by omega)]; rfl
      · unfold impl_PupilsOf.f; rw [ValidLessons_eq (by omega)]; simp only [Option.bind_some, if_pos hv]
        rw [pupilsOf_eq (by omega) (by omega)]; rfl
      · have := puts_length (l.map (·.f1)) []
        unfold pupils; simp at this ⊢; omega
    · refine ⟨([], 1), fun k hk => ?_, fun k hk => ?_, by simp⟩
      · unfold spec_PupilsOf.f; rw [l28Ok_eq hz (by omega)]; simp [hv]
      · unfold impl_PupilsOf.f; rw [ValidLessons_eq (by omega)]; simp [hv]
  rw [hS _ (by omega)]
  simp only [Option.bind_some]
  rw [hI _ (by omega)]
  simp only [Option.bind_some]
  have hQ : ∀ k, 1048600 ≤ k → laws_eqStringS.f k v.1 v.1 = some true := fun k hk => by rw [eqStringS_eq (by omega) hk]; simp
  rw [hQ _ (by omega)]
  simp only [Option.bind_some, if_true, bne_self_eq_false]
  rw [laws_FnExactPupilsOf.j0, if_neg (by decide), hT _ (by omega)]; simp only [Option.bind_some]
  rw [hE _ (by omega)]; simp only [Option.bind_some, if_true]
  rw [markLessonS_eq (by omega) (by omega) (by omega)]; simp only [Option.bind_some]
  rw [if_neg (by omega), hQ _ (by omega)]; simp only [Option.bind_some, if_true]
  rw [laws_FnExactPupilsOf.j1, if_neg (by simp), markStringS_eq (by omega) (by omega) (by omega)]; simp only [Option.bind_some]
  rw [heldStringS_mk (by omega) (by omega) (by omega)]; simp only [Option.bind_some]
  rw [if_neg (by omega), if_pos trivial, hT _ (by omega)]; simp only [Option.bind_some]
  rw [hI _ (by omega)]; simp only [Option.bind_some]
  rw [hQ _ (by omega)]; simp only [Option.bind_some, if_true]
  rw [laws_FnExactPupilsOf.j2, if_neg (by simp), heldStringS_mk (by omega) (by omega) (by omega)]; simp only [Option.bind_some]
  rw [if_neg (by omega), if_pos trivial]
end Go.Proofs.Ytleajljmjohcaaa.Pure
