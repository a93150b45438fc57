/- Part c of what FnExactHeadsOf stands on: functions of the program as Lean functions with their walks, and plain lemmas. -/
import Derived.Test.YtemafjbbopdheaaK
import Derived.Test.YtemafjbbopdheaaBFnExactHeadsOfb
import Derived.Test.YtemafjbbopdheaaBFnExactHeadsOfa
import Derived.ChangeOld
import Derived.ChangeArms
import Derived.WideShapes
import Derived.Test.YtemafjbbopdheaaWWords
import Derived.KernelRfl
/- laws_markVersionS: what it answers, and that the machine's call comes to it. -/
namespace Go.Proofs.Ytemafjbbopdheaa.P
open Go.RowKit Go.Proofs.YtemafjbbopdheaaW.PrintWords Go.Proofs.YtemafjbbopdheaaW.PrintLast Go.Proofs.YtemafjbbopdheaaW.PrintMore
attribute [local go_sem] max2_int min2_int max_two min_two max_three min_three max_four min_four str_leq str_gtr str_geq
set_option linter.unusedVariables false
set_option linter.unusedSimpArgs false

/-! ### laws_markVersionS: function 41 (by hand: markVersionS.lean) -/
def laws_markVersionS.l0 : Nat → List S89 → Int → Int → Option (Int × List S89)
  | 0, _, _, _ => none
  | k + 1, x0, x1, x5 => if x5 < (x0.length : Int) then (if 0 ≤ x5 then (((laws_markText.f k (wrap64 ((wrap64 (x1 + 1)) + 1))).bind fun t2 => ((laws_markSettingS.f k (rd_T89 x0 x5).f3 (wrap64 ((wrap64 ((wrap64 (x1 + 1)) + 1)) + 1))).bind fun t3 => laws_markVersionS.l0 k (x0.set (x5 : Int).toNat ⟨x1, (wrap64 (x1 + 1)), t2, t3.2⟩) t3.1 (wrap64 (x5 + 1))))) else none) else some (x1, x0)
def laws_markVersionS.f (k : Nat) (l0 : List S89) (a1 : Int) : Option (Int × List S89) := laws_markVersionS.l0 k l0 a1 0
set_option maxHeartbeats 8000000 in
set_option maxRecDepth 100000 in
theorem laws_markVersionS.calls (k : Nat) (P0_ : Nat → Prop) (u9000_ : Value) (l0 : List S89) (a1 : Int) (r1 : Int) (r2 : List S89) (w0 w : World) (hB : Below w0.heap.size w0 w) (ho0 : Kd.S k89 89 w w0.heap.size P0_ u9000_ l0) (h : laws_markVersionS.f k l0 a1 = some (r1, r2)) :
    Calls Try.prog 41 #[u9000_, .int .i64 a1] w fun e w' => e = .returned (.int .i64 r1) ∧ Kd.S k89 89 w' w0.heap.size P0_ u9000_ r2 ∧ Below w0.heap.size w0 w' ∧ Kept w w' P0_ := by
  have HO0 := Aside0.mk ho0
  have HK := Aside0.mk (Kept.refl w P0_)
  have HB := Aside0.mk hB
  clear hB ho0
  have H : (laws_markVersionS.l0 k l0 a1 0) = some (r1, r2) := h
  clear h
  have H' := Aside0.mk H
  clear H
  go_enter Try.func41, Try.ntmps41
  go_wp2
  go_loopg [1, 5] k (fun kq v1 v5 w' => ∃ (x0_1 : List S89) (x1_1 : Int) (x5_1 : Int), v1 = .int .i64 x1_1 ∧ v5 = .int .i64 x5_1 ∧ Aside0 (laws_markVersionS.l0 kq x0_1 x1_1 x5_1 = some (r1, r2)) ∧ Aside0 (kq ≤ k) ∧ Aside0 (Kd.S k89 89 w' w0.heap.size P0_ u9000_ x0_1) ∧ Aside0 (Kept w w' P0_) ∧ Aside0 (Below w0.heap.size w0 w'))
  case atStart => exact ⟨l0, a1, 0, rfl, rfl, H', ⟨Nat.le_refl _⟩, HO0, HK, HB⟩
  case round =>
    clear H' HO0
    obtain ⟨x0_1, x1_1, x5_1, rfl, rfl, HA, HK1, HO_0, HK, HB⟩ := hrel
    cases gk with
    | zero => exact absurd HA.out (by simp [laws_markVersionS.l0])
    | succ k1 =>
      have H := HA.out
      clear HA
      simp only [laws_markVersionS.l0] at H
      by_cases c3 : x5_1 < (x0_1.length : Int)
      · rw [if_pos c3] at H
        have c3b0 : decide (x5_1 < (x0_1.length : Int)) = true := decide_eq_true c3
        clear c3
        by_cases c4 : 0 ≤ x5_1
        · rw [if_pos c4] at H
          have c4b0 : decide (0 ≤ x5_1) = true := decide_eq_true c4
          clear c4
          obtain ⟨t2, A20, H⟩ := Option.bind_eq_some_iff.mp H
          have A2 := Aside0.mk A20
          clear A20
          obtain ⟨⟨m3, t3⟩, A30, H⟩ := Option.bind_eq_some_iff.mp H
          have A3 := Aside0.mk A30
          clear A30
          replace H : laws_markVersionS.l0 k1 (x0_1.set (x5_1 : Int).toNat ⟨x1_1, (wrap64 (x1_1 + 1)), t2, t3⟩) m3 (wrap64 (x5_1 + 1)) = some (r1, r2) := H
          have H' := Aside0.mk H
          clear H
          obtain ⟨Ao6, co6, eo6⟩ := Kd.S_slice HO_0.out
          subst eo6
          have p5 : 0 ≤ (x5_1 : Int) := of_decide_eq_true c4b0
          have q5 : (x5_1 : Int) < ((x0_1.length : Int) : Int) := of_decide_eq_true c3b0
          obtain ⟨go5, co5, eo5, gb5, gl5, cl5, HG5⟩ := Kd.S_form HO_0.out (by omega)
          (first | cases eo5 | (injection eo5 with ea_ en_ ec_; (first | subst ea_ | (injection ea_ with ea_; subst ea_)); subst ec_; clear en_))
          have GB5 := Aside0.mk gb5
          clear gb5 gl5 HG5
          have HG5 := Aside0.mk ((Kd.S_R HO_0.out).1 go5 rfl)
          have HRD1 := Aside0.mk (show rd_T89 (x0_1.set (x5_1 : Int).toNat ⟨x1_1, (rd_T89 x0_1 x5_1).f1, (rd_T89 x0_1 x5_1).f2, (rd_T89 x0_1 x5_1).f3⟩) x5_1 = ⟨x1_1, (rd_T89 x0_1 x5_1).f1, (rd_T89 x0_1 x5_1).f2, (rd_T89 x0_1 x5_1).f3⟩ from by
            have h1 := of_decide_eq_true c3b0
            have h2 := of_decide_eq_true c4b0
            unfold rd_T89
            rw [List.getD_eq_getElem?_getD, List.getElem?_set_self (by omega)]; rfl)
          have HRD2 := Aside0.mk (show rd_T89 (x0_1.set (x5_1 : Int).toNat ⟨x1_1, (wrap64 (x1_1 + 1)), (rd_T89 x0_1 x5_1).f2, (rd_T89 x0_1 x5_1).f3⟩) x5_1 = ⟨x1_1, (wrap64 (x1_1 + 1)), (rd_T89 x0_1 x5_1).f2, (rd_T89 x0_1 x5_1).f3⟩ from by
            have h1 := of_decide_eq_true c3b0
            have h2 := of_decide_eq_true c4b0
            unfold rd_T89
            rw [List.getD_eq_getElem?_getD, List.getElem?_set_self (by omega)]; rfl)
          have HRD3 := Aside0.mk (show rd_T89 (x0_1.set (x5_1 : Int).toNat ⟨x1_1, (wrap64 (x1_1 + 1)), t2, (rd_T89 x0_1 x5_1).f3⟩) x5_1 = ⟨x1_1, (wrap64 (x1_1 + 1)), t2, (rd_T89 x0_1 x5_1).f3⟩ from by
            have h1 := of_decide_eq_true c3b0
            have h2 := of_decide_eq_true c4b0
            unfold rd_T89
            rw [List.getD_eq_getElem?_getD, List.getElem?_set_self (by omega)]; rfl)
          obtain ⟨oki0, ce0, hcl0, hM0, hcc0, hfr0, hoki0, hH0⟩ := Kd.S_elem HO_0.out z89 (x5_1 : Int) (of_decide_eq_true c4b0) (of_decide_eq_true c3b0)
          have hM0x : k89.M wr w0.heap.size oki0 (rd_T89 x0_1 x5_1) ce0 := hM0
          obtain ⟨v0, rfl, hR0⟩ := k89_openM hM0x
          have hx0 : wr.cell? ⟨go5, (x5_1 : Int).toNat * 4, none⟩ = some (.int .i64 (rd_T89 x0_1 x5_1).f0) := hcc0 0 _ rfl
          have hf0 : wr.frozen? ⟨go5, (x5_1 : Int).toNat * 4, none⟩ = false := hfr0 0
          have HP0 := Kd.S_seg (okg := fun _ => False) (Kd.H_mono hH0 (fun k_ h_ => ⟨h_, id⟩)) (of_decide_eq_true c4b0) (of_decide_eq_true c3b0) (seg := [.int .i64 x1_1]) (j := 0) (show 1 ≤ 4 from by decide) (x' := (⟨x1_1, (rd_T89 x0_1 x5_1).f1, (rd_T89 x0_1 x5_1).f2, (rd_T89 x0_1 x5_1).f3⟩ : S89)) (k89_mkM wr w0.heap.size oki0 (⟨x1_1, (rd_T89 x0_1 x5_1).f1, (rd_T89 x0_1 x5_1).f2, (rd_T89 x0_1 x5_1).f3⟩ : S89) hR0) (fun _ hk => Or.inl hk) (fun _ hk => hk.elim)
          replace HP0 := Aside0.mk HP0
          clear hcl0 hM0 hM0x hcc0 hfr0 hoki0 hH0 hR0
          replace p5 := eq_true p5
          replace q5 := eq_true q5
          go_wp2_with (first
            | ((with_reducible refine gate_store (t := 2) (p := 16) rfl ?_)
               refine store_event (t := 2) (p := 16) (v := ?vo_w8) (w1 := (wr.setCell ⟨go5, (x5_1 : Int).toNat * 4, none⟩ (.int .i64 x1_1))) ?hg ?ho ?hn ?hr ?_
               (case ho => rfl)
               (case hg => rfl)
               (case hn => rfl)
               (case hr => first | (go_simp; done) | (go_simp; rfl))
               intro w8 hw
               have hg : wr.grownBy w8 (some go5) := (by rw [hw]; exact HP0.out.2)
               have hp_ := HP0.out.1
               replace hp_ : Kd.S k89 89 w8 w0.heap.size P0_ (.slice (some ⟨go5, 0, none⟩) x0_1.length co6) (x0_1.set (x5_1 : Int).toNat ⟨x1_1, (rd_T89 x0_1 x5_1).f1, (rd_T89 x0_1 x5_1).f2, (rd_T89 x0_1 x5_1).f3⟩) := by rw [hw]; exact hp_
               have n0_ := Aside0.mk hp_
               have n1_ := Aside0.mk ((by rw [hw]; exact below_set (HB.out) GB5.out : Below w0.heap.size w0 w8))
               have n2_ := Aside0.mk (Kept.of_grown (S := P0_) hg HK.out (fun k_ e_ => by injection e_ with e_; subst e_; exact .inl HG5.out))
               clear HO_0 HB HK HP0
               have HO_0 := n0_
               have HB := n1_
               have HK := n2_
               clear n0_ n1_ n2_ hg hw hp_ hx0 hf0
               obtain ⟨oki1, ce1, hcl1, hM1, hcc1, hfr1, hoki1, hH1⟩ := Kd.S_elem HO_0.out z89 (x5_1 : Int) (of_decide_eq_true c4b0) (of_decide_eq_true c3b0)
               have hM1x : k89.M w8 w0.heap.size oki1 ⟨x1_1, (rd_T89 x0_1 x5_1).f1, (rd_T89 x0_1 x5_1).f2, (rd_T89 x0_1 x5_1).f3⟩ ce1 := by
                have h3 : k89.M w8 w0.heap.size oki1 (rd_T89 (x0_1.set (x5_1 : Int).toNat ⟨x1_1, (rd_T89 x0_1 x5_1).f1, (rd_T89 x0_1 x5_1).f2, (rd_T89 x0_1 x5_1).f3⟩) x5_1) ce1 := hM1
                rw [HRD1.out] at h3; exact h3
               obtain ⟨v1, rfl, hR1⟩ := k89_openM hM1x
               have hx1 : w8.cell? ⟨go5, (x5_1 : Int).toNat * 4 + 1, none⟩ = some (.int .i64 (rd_T89 x0_1 x5_1).f1) := hcc1 1 _ rfl
               have hf1 : w8.frozen? ⟨go5, (x5_1 : Int).toNat * 4 + 1, none⟩ = false := hfr1 1
               have HP1 := Kd.S_seg (okg := fun _ => False) (Kd.H_mono hH1 (fun k_ h_ => ⟨h_, id⟩)) (of_decide_eq_true c4b0) (of_decide_eq_true c3b0) (seg := [.int .i64 (wrap64 (x1_1 + 1))]) (j := 1) (show 2 ≤ 4 from by decide) (x' := (⟨x1_1, (wrap64 (x1_1 + 1)), (rd_T89 x0_1 x5_1).f2, (rd_T89 x0_1 x5_1).f3⟩ : S89)) (k89_mkM w8 w0.heap.size oki1 (⟨x1_1, (wrap64 (x1_1 + 1)), (rd_T89 x0_1 x5_1).f2, (rd_T89 x0_1 x5_1).f3⟩ : S89) hR1) (fun _ hk => Or.inl hk) (fun _ hk => hk.elim)
               rw [List.set_set] at HP1
               replace HP1 := Aside0.mk HP1
               clear hcl1 hM1 hM1x hcc1 hfr1 hoki1 hH1 hR1)
            | ((with_reducible refine gate_store (t := 2) (p := 23) rfl ?_)
               refine store_event (t := 2) (p := 23) (v := ?vo_w9) (w1 := (w8.setCell ⟨go5, (x5_1 : Int).toNat * 4 + 1, none⟩ (.int .i64 (wrap64 (x1_1 + 1))))) ?hg ?ho ?hn ?hr ?_
               (case ho => rfl)
               (case hg => rfl)
               (case hn => rfl)
               (case hr => first | (go_simp; done) | (go_simp; rfl))
               intro w9 hw
               have hg : w8.grownBy w9 (some go5) := (by rw [hw]; exact HP1.out.2)
               have hp_ := HP1.out.1
               replace hp_ : Kd.S k89 89 w9 w0.heap.size P0_ (.slice (some ⟨go5, 0, none⟩) x0_1.length co6) (x0_1.set (x5_1 : Int).toNat ⟨x1_1, (wrap64 (x1_1 + 1)), (rd_T89 x0_1 x5_1).f2, (rd_T89 x0_1 x5_1).f3⟩) := by rw [hw]; exact hp_
               have n0_ := Aside0.mk hp_
               have n1_ := Aside0.mk ((by rw [hw]; exact below_set (HB.out) GB5.out : Below w0.heap.size w0 w9))
               have n2_ := Aside0.mk (Kept.of_grown (S := P0_) hg HK.out (fun k_ e_ => by injection e_ with e_; subst e_; exact .inl HG5.out))
               clear HO_0 HB HK HP1
               have HO_0 := n0_
               have HB := n1_
               have HK := n2_
               clear n0_ n1_ n2_ hg hw hp_ hx1 hf1)
            | (go_at_call 85
               refine (laws_markText.calls k1 (wrap64 ((wrap64 (x1_1 + 1)) + 1)) t2 _ A2.out).mono ?_
               rintro e w10 ⟨rfl, hb⟩
               have n0_ := Aside0.mk (Kd.S_below (by (with_reducible repeat (first | apply Kd.S_alloc | apply Kd.S_drewN | apply Kd.S_drew)); exact HO_0.out) hb)
               have n1_ := Aside0.mk (Kept.below (S := P0_) (by repeat (first | (with_reducible first | exact HK.out | apply Kept.alloc | apply Kept.drewN | apply Kept.drew) | exact HK.out)) hb)
               have n2_ := Aside0.mk (below_step (by repeat (first | (with_reducible first | exact HB.out | apply below_alloc | apply pw_below_drewN | apply below_drew1) | exact HB.out)) hb)
               clear HO_0 HK HB hb
               have HO_0 := n0_
               have HK := n1_
               have HB := n2_
               clear n0_ n1_ n2_
               obtain ⟨oki2, ce2, hcl2, hM2, hcc2, hfr2, hoki2, hH2⟩ := Kd.S_elem HO_0.out z89 (x5_1 : Int) (of_decide_eq_true c4b0) (of_decide_eq_true c3b0)
               have hM2x : k89.M w10 w0.heap.size oki2 ⟨x1_1, (wrap64 (x1_1 + 1)), (rd_T89 x0_1 x5_1).f2, (rd_T89 x0_1 x5_1).f3⟩ ce2 := by
                have h3 : k89.M w10 w0.heap.size oki2 (rd_T89 (x0_1.set (x5_1 : Int).toNat ⟨x1_1, (wrap64 (x1_1 + 1)), (rd_T89 x0_1 x5_1).f2, (rd_T89 x0_1 x5_1).f3⟩) x5_1) ce2 := hM2
                rw [HRD2.out] at h3; exact h3
               obtain ⟨v2, rfl, hR2⟩ := k89_openM hM2x
               have hx2 : w10.cell? ⟨go5, (x5_1 : Int).toNat * 4 + 2, none⟩ = some (.string (rd_T89 x0_1 x5_1).f2) := hcc2 2 _ rfl
               have hf2 : w10.frozen? ⟨go5, (x5_1 : Int).toNat * 4 + 2, none⟩ = false := hfr2 2
               have HP2 := Kd.S_seg (okg := fun _ => False) (Kd.H_mono hH2 (fun k_ h_ => ⟨h_, id⟩)) (of_decide_eq_true c4b0) (of_decide_eq_true c3b0) (seg := [.string t2]) (j := 2) (show 3 ≤ 4 from by decide) (x' := (⟨x1_1, (wrap64 (x1_1 + 1)), t2, (rd_T89 x0_1 x5_1).f3⟩ : S89)) (k89_mkM w10 w0.heap.size oki2 (⟨x1_1, (wrap64 (x1_1 + 1)), t2, (rd_T89 x0_1 x5_1).f3⟩ : S89) hR2) (fun _ hk => Or.inl hk) (fun _ hk => hk.elim)
               rw [List.set_set] at HP2
               replace HP2 := Aside0.mk HP2
               clear hcl2 hM2 hM2x hcc2 hfr2 hoki2 hH2 hR2)
            | ((with_reducible refine gate_store (t := 9) (p := 31) rfl ?_)
               refine store_event (t := 9) (p := 31) (v := ?vo_w11) (w1 := (w10.setCell ⟨go5, (x5_1 : Int).toNat * 4 + 2, none⟩ (.string t2))) ?hg ?ho ?hn ?hr ?_
               (case ho => rfl)
               (case hg => rfl)
               (case hn => rfl)
               (case hr => first | (go_simp; done) | (go_simp; rfl))
               intro w11 hw
               have hg : w10.grownBy w11 (some go5) := (by rw [hw]; exact HP2.out.2)
               have hp_ := HP2.out.1
               replace hp_ : Kd.S k89 89 w11 w0.heap.size P0_ (.slice (some ⟨go5, 0, none⟩) x0_1.length co6) (x0_1.set (x5_1 : Int).toNat ⟨x1_1, (wrap64 (x1_1 + 1)), t2, (rd_T89 x0_1 x5_1).f3⟩) := by rw [hw]; exact hp_
               have n0_ := Aside0.mk hp_
               have n1_ := Aside0.mk ((by rw [hw]; exact below_set (HB.out) GB5.out : Below w0.heap.size w0 w11))
               have n2_ := Aside0.mk (Kept.of_grown (S := P0_) hg HK.out (fun k_ e_ => by injection e_ with e_; subst e_; exact .inl HG5.out))
               clear HO_0 HB HK HP2
               have HO_0 := n0_
               have HB := n1_
               have HK := n2_
               clear n0_ n1_ n2_ hg hw hp_ hx2 hf2
               obtain ⟨oki3, ce3, hcl3, hM3, hcc3, hfr3, hoki3, hH3⟩ := Kd.S_elem HO_0.out z89 (x5_1 : Int) (of_decide_eq_true c4b0) (of_decide_eq_true c3b0)
               have hM3x : k89.M w11 w0.heap.size oki3 ⟨x1_1, (wrap64 (x1_1 + 1)), t2, (rd_T89 x0_1 x5_1).f3⟩ ce3 := by
                have h3 : k89.M w11 w0.heap.size oki3 (rd_T89 (x0_1.set (x5_1 : Int).toNat ⟨x1_1, (wrap64 (x1_1 + 1)), t2, (rd_T89 x0_1 x5_1).f3⟩) x5_1) ce3 := hM3
                rw [HRD3.out] at h3; exact h3
               obtain ⟨v3, rfl, hR3⟩ := k89_openM hM3x
               obtain ⟨Ai3, ci3, rfl⟩ := Kd.R_slice hR3
               have hx3 : w11.cell? ⟨go5, (x5_1 : Int).toNat * 4 + 3, none⟩ = some (.slice Ai3 ((rd_T89 x0_1 x5_1).f3).length ci3) := hcc3 3 _ rfl
               have HRR := Aside0.mk hR3
               have HOK := Aside0.mk hoki3
               have HHH := Aside0.mk hH3
               clear hcl3 hM3 hM3x hcc3 hfr3 hoki3 hH3 hR3)
            | (go_at_call 33
               refine (laws_markSettingS.calls k1 oki3 _ ((rd_T89 x0_1 x5_1).f3) (wrap64 ((wrap64 ((wrap64 (x1_1 + 1)) + 1)) + 1)) m3 t3 w0 w11 HB.out HRR.out A3.out).mono ?_
               rintro e w12 ⟨rfl, ho8, hb8, hk8⟩
               have hR8 : k81.R 81 w12 w0.heap.size oki3 (.slice Ai3 ((rd_T89 x0_1 x5_1).f3).length ci3) t3 := Kd.R_mono (Kd.R_tight rfl ho8) (fun k_ hk_ => HRR.out.1 k_ hk_.symm)
               have n0_ := Kd.H_back (Kd.H_kept HHH.out hk8 (fun k_ _ h2_ h3_ => h2_ h3_)) (x' := (⟨x1_1, (wrap64 (x1_1 + 1)), t2, t3⟩ : S89)) (k89_mkM w12 w0.heap.size oki3 (⟨x1_1, (wrap64 (x1_1 + 1)), t2, t3⟩ : S89) hR8) (fun _ h_ => h_)
               rw [List.set_set] at n0_
               replace n0_ := Aside0.mk n0_
               have n1_ := Aside0.mk (Kept.then_ HK.out hk8 (fun k_ h_ => .inl (HOK.out k_ h_).1))
               have n2_ := Aside0.mk hb8
               clear HO_0 HK HB HHH HRR ho8 hb8 hk8 hR8 hx3
               have HO_0 := n0_
               have HK := n1_
               have HB := n2_
               clear n0_ n1_ n2_))
          go_roundg k1
          case measure => have := HK1.out; omega
          case rel => exact ⟨_, _, _, rfl, rfl, H', ⟨by have := HK1.out; omega⟩, HO_0, HK, HB⟩
        · rw [if_neg c4] at H
          exact absurd H (by simp)
      · rw [if_neg c3] at H
        have c3b0 : decide (x5_1 < (x0_1.length : Int)) = false := decide_eq_false c3
        clear c3
        simp only [Option.some.injEq, Prod.mk.injEq] at H
        obtain ⟨rfl, rfl⟩ := H
        obtain ⟨Ao9, co9, eo9⟩ := Kd.S_slice HO_0.out
        subst eo9
        go_wp2
        go_ret
        exact ⟨rfl, HO_0.out, HB.out, HK.out⟩

end Go.Proofs.Ytemafjbbopdheaa.P

/- laws_markInt64S: what it answers, and that the machine's call comes to it. -/
namespace Go.Proofs.Ytemafjbbopdheaa.P
open Go.RowKit Go.Proofs.YtemafjbbopdheaaW.PrintWords Go.Proofs.YtemafjbbopdheaaW.PrintLast Go.Proofs.YtemafjbbopdheaaW.PrintMore
attribute [local go_sem] max2_int min2_int max_two min_two max_three min_three max_four min_four str_leq str_gtr str_geq
set_option linter.unusedVariables false
set_option linter.unusedSimpArgs false

/-! ### laws_markInt64S: function 42 -/
def laws_markInt64S.l0 : Nat → List Int → Int → Int → Option (Int × List Int)
  | 0, _, _, _ => none
  | k + 1, x0, x1, x5 => if x5 < (x0.length : Int) then (if 0 ≤ x5 then (laws_markInt64S.l0 k (x0.set (x5 : Int).toNat x1) (wrap64 (x1 + 1)) (wrap64 (x5 + 1))) else (none)) else (some (x1, x0))
def laws_markInt64S.f (k : Nat) (l0 : List Int) (a1 : Int) : Option (Int × List Int) := laws_markInt64S.l0 k l0 a1 0
theorem laws_markInt64S.mono_l : ∀ k, (∀ y0 y1 y2, LeO (laws_markInt64S.l0 k y0 y1 y2) (laws_markInt64S.l0 (k + 1) y0 y1 y2))
  | 0 => fun _ _ _ r h => by simp [laws_markInt64S.l0] at h
  | k + 1 => by
    have ih0 := laws_markInt64S.mono_l k
    · intro y0 y1 y2
      unfold laws_markInt64S.l0
      repeat' first
      | (with_reducible exact ih0 _ _ _)
      | (with_reducible exact LeO.refl _)
      | (with_reducible exact LeO.none _)
      | (with_reducible refine LeO.ite ?_ ?_)
      | (with_reducible refine LeO.bind ?_ (fun _ => ?_))
      | exact ih0 _ _ _
      | exact LeO.none _
      | refine LeO.ite ?_ ?_
      | refine LeO.bind ?_ (fun _ => ?_)
theorem laws_markInt64S.mono : ∀ a0 a1 k, LeO (laws_markInt64S.f k a0 a1) (laws_markInt64S.f (k + 1) a0 a1) := by
  intro a0 a1 k
  have ih0 := laws_markInt64S.mono_l k
  unfold laws_markInt64S.f
  repeat' first
      | (with_reducible exact ih0 _ _ _)
      | (with_reducible exact LeO.refl _)
      | (with_reducible exact LeO.none _)
      | (with_reducible refine LeO.ite ?_ ?_)
      | (with_reducible refine LeO.bind ?_ (fun _ => ?_))
      | exact ih0 _ _ _
      | exact LeO.none _
      | refine LeO.ite ?_ ?_
      | refine LeO.bind ?_ (fun _ => ?_)
set_option maxHeartbeats 8000000 in
set_option maxRecDepth 100000 in
theorem laws_markInt64S.calls (k : Nat) (P0_ : Nat → Prop) (u9000_ : Value) (l0 : List Int) (a1 : Int) (r1 : Int) (r2 : List Int) (w0 w : World) (hB : Below w0.heap.size w0 w) (ho0 : Kd.R (Kd.int .i64) 2 w w0.heap.size P0_ u9000_ l0) (h : laws_markInt64S.f k l0 a1 = some (r1, r2)) :
    Calls Try.prog 42 #[u9000_, .int .i64 a1] w fun e w' => e = .returned (.int .i64 r1) ∧ Kd.R (Kd.int .i64) 2 w' w0.heap.size (fun k_ => (P0_ k_ ∨ w.heap.size ≤ k_)) u9000_ r2 ∧ Below w0.heap.size w0 w' ∧ Kept w w' (fun k_ => P0_ k_) := by
  have HO0 := Aside0.mk (show Kd.R (Kd.int .i64) 2 w w0.heap.size (fun k_ => (P0_ k_ ∨ w.heap.size ≤ k_)) u9000_ l0 from Kd.R_mono ho0 (fun k_ hk => (.inl hk)))
  have HK := Aside0.mk (Kept.refl w (fun k_ => P0_ k_))
  have HW0 := Aside0.mk hB.size
  have HB := Aside0.mk hB
  clear hB
  have H : (laws_markInt64S.l0 k l0 a1 0) = some (r1, r2) := h
  clear h
  have H' := Aside0.mk H
  clear H
  go_enter Try.func42, Try.ntmps42
  go_wp2
  go_loopg [1, 5] k (fun kq v1 v5 w' => ∃ (x0_1 : List Int) (x1_1 : Int) (x5_1 : Int), v1 = .int .i64 x1_1 ∧ v5 = .int .i64 x5_1 ∧ Aside0 (laws_markInt64S.l0 kq x0_1 x1_1 x5_1 = some (r1, r2)) ∧ Aside0 (kq ≤ k) ∧ Aside0 (Kd.R (Kd.int .i64) 2 w' w0.heap.size (fun k_ => (P0_ k_ ∨ w.heap.size ≤ k_)) u9000_ x0_1) ∧ Aside0 (Kept w w' (fun k_ => P0_ k_)) ∧ Aside0 (Below w0.heap.size w0 w'))
  case atStart => exact ⟨(l0), (a1), (0), (by first | rfl | (simp; done) | (simp [*]; done)), (by first | rfl | (simp; done) | (simp [*]; done)), H', ⟨Nat.le_refl _⟩, ⟨by (with_reducible repeat (first | apply Kd.R_alloc | apply Kd.R_drewN | apply Kd.R_drew)); exact HO0.out⟩, ⟨by repeat (first | (with_reducible first | exact HK.out | apply Kept.alloc | apply Kept.drewN | apply Kept.drew) | exact HK.out)⟩, ⟨by repeat (first | (with_reducible first | exact HB.out | apply below_alloc | apply pw_below_drewN | apply below_drew1) | exact HB.out)⟩⟩
  case round =>
    clear H'
    try clear p2
    obtain ⟨x0_1, x1_1, x5_1, rfl, rfl, HA, HK1, HO_0, HK, HB⟩ := hrel
    cases gk with
    | zero => exact absurd HA.out (by simp [laws_markInt64S.l0])
    | succ k1 =>
      have H := HA.out
      clear HA
      simp only [laws_markInt64S.l0] at H
      by_cases c3 : x5_1 < (x0_1.length : Int)
      · rw [if_pos c3] at H
        have c3b0 : decide (x5_1 < (x0_1.length : Int)) = true := decide_eq_true c3
        clear c3
        by_cases c4 : 0 ≤ x5_1
        · rw [if_pos c4] at H
          have c4b0 : decide (0 ≤ x5_1) = true := decide_eq_true c4
          clear c4
          obtain ⟨y101, hy101⟩ : ∃ y_ : List Int, y_ = (x0_1.set (x5_1 : Int).toNat x1_1) := ⟨_, rfl⟩
          replace H : (laws_markInt64S.l0 k1 y101 (wrap64 (x1_1 + 1)) (wrap64 (x5_1 + 1))) = some (r1, r2) := by first | (rw [hy101]; with_reducible exact H) | (have H2_ := (Option.bind_some _ _).symm.trans H; rw [hy101]; with_reducible exact H2_) | (have H2_ := (Option.bind_some _ _).symm.trans H; with_reducible exact H2_) | with_reducible exact H | (rw [hy101]; exact H) | exact H
          have Ny101 := Aside0.mk hy101
          clear hy101
          have H' := Aside0.mk H
          clear H
          obtain ⟨Ao6, co6, eo6⟩ := Kd.R_slice HO_0.out
          subst eo6
          have p5 : 0 ≤ (x5_1 : Int) := of_decide_eq_true (by first | (with_reducible assumption) | assumption)
          have q5 : (x5_1 : Int) < ((x0_1.length : Int) : Int) := of_decide_eq_true (by first | (with_reducible assumption) | assumption)
          obtain ⟨go5, co5, eo5, gb5, gl5, cl5, HG5⟩ := Kd.R_form HO_0.out (by omega)
          (first | cases eo5 | (injection eo5 with ea_ en_ ec_; (first | subst ea_ | (injection ea_ with ea_; subst ea_)); subst ec_; clear en_))
          have GB5 := Aside0.mk gb5
          have GG5 := Aside0.mk HG5
          clear gb5 gl5 HG5
          have HMgo5 := Aside0.mk (show (P0_ go5 ∨ w.heap.size ≤ go5) from (HO_0.out.1 _ rfl))
          obtain ⟨hx5_0, hf5_0⟩ := Kd.R_celln 0 HO_0.out (x5_1 : Int) p5 q5
          replace p5 := eq_true p5
          replace q5 := eq_true q5
          have HP7 := Kd.R_putg HO_0.out (x5_1 : Int) x1_1
          go_wp2_with (first | ((with_reducible refine gate_store (t := 2) (p := 15) rfl ?_); refine store_event (t := 2) (p := 15) (v := ?vo_w8) (w1 := (wr.setCell ⟨go5, (x5_1 : Int).toNat, none⟩ (.int .i64 x1_1))) ?hg ?ho ?hn ?hr ?_; (case ho => rfl); (case hg => rfl); (case hn => rfl); (case hr => first | (go_simp; done) | (go_simp; rfl)); intro w8 hw; have hg : wr.grownBy w8 (some go5) := (by rw [hw]; exact HP7.2); have hp_ : Kd.R (Kd.int .i64) 2 w8 w0.heap.size (fun k_ => (P0_ k_ ∨ w.heap.size ≤ k_)) (.slice (some ⟨go5, 0, none⟩) x0_1.length co6) y101 := (by rw [hw, Ny101.out]; exact HP7.1); clear HP7; have n0_ := Aside0.mk (hp_); have n1_ := Aside0.mk ((by rw [hw]; exact below_set (HB.out) GB5.out : Below w0.heap.size w0 w8)); have n2_ := Aside0.mk (Kept.of_grown (S := (fun k_ => P0_ k_)) hg (by repeat (first | (with_reducible first | exact HK.out | apply Kept.alloc | apply Kept.drewN | apply Kept.drew) | exact HK.out)) (fun k_ e_ => (HO_0.out.1 k_ e_))); clear HO_0; clear HB; clear HK; have HO_0 := n0_; have HB := n1_; have HK := n2_; clear n0_ n1_ n2_; clear hg hw hp_))
          go_roundg k1
          case measure => have := HK1.out; omega
          case rel => exact ⟨(y101), (wrap64 (x1_1 + 1)), (wrap64 (x5_1 + 1)), (by first | rfl | (simp; done) | (simp [*]; done)), (by first | rfl | (simp; done) | (simp [*]; done)), H', ⟨by have := HK1.out; omega⟩, ⟨by (with_reducible repeat (first | apply Kd.R_alloc | apply Kd.R_drewN | apply Kd.R_drew)); exact HO_0.out⟩, ⟨by repeat (first | (with_reducible first | exact HK.out | apply Kept.alloc | apply Kept.drewN | apply Kept.drew) | exact HK.out)⟩, ⟨by repeat (first | (with_reducible first | exact HB.out | apply below_alloc | apply pw_below_drewN | apply below_drew1) | exact HB.out)⟩⟩
        · rw [if_neg c4] at H
          exact absurd H (by simp)
      · rw [if_neg c3] at H
        have c3b0 : decide (x5_1 < (x0_1.length : Int)) = false := decide_eq_false c3
        clear c3
        simp only [Option.some.injEq, Prod.mk.injEq] at H
        obtain ⟨rfl, rfl⟩ := H
        obtain ⟨Ao9, co9, eo9⟩ := Kd.R_slice HO_0.out
        subst eo9
        go_wp2
        go_ret
        exact ⟨by first | rfl | (simp [errW_none, errW_some] <;> rfl) | (simp [*, errW_none, errW_some] <;> rfl), by (with_reducible repeat (first | apply Kd.R_alloc | apply Kd.R_drewN | apply Kd.R_drew)); exact HO_0.out, by repeat (first | (with_reducible first | exact HB.out | apply below_alloc | apply pw_below_drewN | apply below_drew1) | exact HB.out), by repeat (first | (with_reducible first | exact HK.out | apply Kept.alloc | apply Kept.drewN | apply Kept.drew) | exact HK.out)⟩

end Go.Proofs.Ytemafjbbopdheaa.P

/- laws_heldInt64S: what it answers, and that the machine's call comes to it. -/
namespace Go.Proofs.Ytemafjbbopdheaa.P
open Go.RowKit Go.Proofs.YtemafjbbopdheaaW.PrintWords Go.Proofs.YtemafjbbopdheaaW.PrintLast Go.Proofs.YtemafjbbopdheaaW.PrintMore
attribute [local go_sem] max2_int min2_int max_two min_two max_three min_three max_four min_four str_leq str_gtr str_geq
set_option linter.unusedVariables false
set_option linter.unusedSimpArgs false

/-! ### laws_heldInt64S: function 43 -/
def laws_heldInt64S.l0 : Nat → List Int → Int → Int → Option (Int)
  | 0, _, _, _ => none
  | k + 1, x0, x1, x5 => if x5 < (x0.length : Int) then (if 0 ≤ x5 then (if (rd x0 x5) = x1 then (laws_heldInt64S.l0 k x0 (wrap64 (x1 + 1)) (wrap64 (x5 + 1))) else (some (-1))) else (none)) else (some x1)
def laws_heldInt64S.f (k : Nat) (l0 : List Int) (a1 : Int) : Option (Int) := laws_heldInt64S.l0 k l0 a1 0
theorem laws_heldInt64S.mono_l : ∀ k, (∀ y0 y1 y2, LeO (laws_heldInt64S.l0 k y0 y1 y2) (laws_heldInt64S.l0 (k + 1) y0 y1 y2))
  | 0 => fun _ _ _ r h => by simp [laws_heldInt64S.l0] at h
  | k + 1 => by
    have ih0 := laws_heldInt64S.mono_l k
    · intro y0 y1 y2
      unfold laws_heldInt64S.l0
      repeat' first
      | (with_reducible exact ih0 _ _ _)
      | (with_reducible exact LeO.refl _)
      | (with_reducible exact LeO.none _)
      | (with_reducible refine LeO.ite ?_ ?_)
      | (with_reducible refine LeO.bind ?_ (fun _ => ?_))
      | exact ih0 _ _ _
      | exact LeO.none _
      | refine LeO.ite ?_ ?_
      | refine LeO.bind ?_ (fun _ => ?_)
theorem laws_heldInt64S.mono : ∀ a0 a1 k, LeO (laws_heldInt64S.f k a0 a1) (laws_heldInt64S.f (k + 1) a0 a1) := by
  intro a0 a1 k
  have ih0 := laws_heldInt64S.mono_l k
  unfold laws_heldInt64S.f
  repeat' first
      | (with_reducible exact ih0 _ _ _)
      | (with_reducible exact LeO.refl _)
      | (with_reducible exact LeO.none _)
      | (with_reducible refine LeO.ite ?_ ?_)
      | (with_reducible refine LeO.bind ?_ (fun _ => ?_))
      | exact ih0 _ _ _
      | exact LeO.none _
      | refine LeO.ite ?_ ?_
      | refine LeO.bind ?_ (fun _ => ?_)
set_option maxHeartbeats 8000000 in
set_option maxRecDepth 100000 in
theorem laws_heldInt64S.calls (k : Nat) (A0 : Option Addr) (c0 : Nat) (l0 : List Int) (a1 : Int) (r : Int) (w : World) (hr0 : Kd.C (Kd.int .i64) w A0 l0.length l0) (hc0 : l0.length ≤ c0) (h : laws_heldInt64S.f k l0 a1 = some r) :
    Calls Try.prog 43 #[.slice A0 l0.length c0, .int .i64 a1] w fun e w' => e = .returned (.int .i64 r) ∧ Drawn0 w w' := by
  have HR0 := Aside0.mk hr0
  have HC0 := Aside0.mk hc0
  clear hr0 hc0
  have H : (laws_heldInt64S.l0 k l0 a1 0) = some r := h
  clear h
  have H' := Aside0.mk H
  clear H
  go_enter Try.func43, Try.ntmps43
  go_wp2
  go_loopg [1, 5] k (fun kq v1 v5 w' => ∃ (x1_1 : Int) (x5_1 : Int), v1 = .int .i64 x1_1 ∧ v5 = .int .i64 x5_1 ∧ Aside0 (laws_heldInt64S.l0 kq l0 x1_1 x5_1 = some r) ∧ Aside0 (kq ≤ k) ∧ Drawn0 w w')
  case atStart => exact ⟨(a1), (0), (by first | rfl | (simp; done) | (simp [*]; done)), (by first | rfl | (simp; done) | (simp [*]; done)), H', ⟨Nat.le_refl _⟩, by repeat (first | exact Drawn0.refl _ | apply Drawn0.step)⟩
  case round =>
    clear H'
    try clear p2
    obtain ⟨x1_1, x5_1, rfl, rfl, HA, HK1, ⟨m1, rfl⟩⟩ := hrel
    cases gk with
    | zero => exact absurd HA.out (by simp [laws_heldInt64S.l0])
    | succ k1 =>
      have H := HA.out
      clear HA
      simp only [laws_heldInt64S.l0] at H
      by_cases c3 : x5_1 < (l0.length : Int)
      · rw [if_pos c3] at H
        have c3b0 : decide (x5_1 < (l0.length : Int)) = true := decide_eq_true c3
        clear c3
        by_cases c4 : 0 ≤ x5_1
        · rw [if_pos c4] at H
          have c4b0 : decide (0 ≤ x5_1) = true := decide_eq_true c4
          clear c4
          by_cases c5 : (rd l0 x5_1) = x1_1
          · rw [if_pos c5] at H
            have c5b0 : ((rd l0 x5_1) == x1_1) = true := beq_iff_eq.mpr c5
            have c5b1 : ((rd l0 x5_1) != x1_1) = false := bne_eq_false_iff_eq.mpr c5
            clear c5
            have H' := Aside0.mk H
            clear H
            have p101 : 0 ≤ (x5_1 : Int) := of_decide_eq_true (by first | (with_reducible assumption) | assumption)
            have q101 : x5_1 < (l0.length : Int) := of_decide_eq_true (by first | (with_reducible assumption) | assumption)
            obtain ⟨ad101, e101, hx101_0⟩ := Kd.at_int HR0.out x5_1 p101 q101
            cases e101
            replace p101 := eq_true p101
            replace q101 := eq_true q101
            go_wp2
            go_roundg k1
            case measure => have := HK1.out; omega
            case rel => exact ⟨(wrap64 (x1_1 + 1)), (wrap64 (x5_1 + 1)), (by first | rfl | (simp; done) | (simp [*]; done)), (by first | rfl | (simp; done) | (simp [*]; done)), H', ⟨by have := HK1.out; omega⟩, by repeat (first | exact Drawn0.refl _ | apply Drawn0.step)⟩
          · rw [if_neg c5] at H
            have c5b0 : ((rd l0 x5_1) == x1_1) = false := beq_eq_false_iff_ne.mpr c5
            have c5b1 : ((rd l0 x5_1) != x1_1) = true := bne_iff_ne.mpr c5
            obtain rfl := Option.some.inj H
            have p101 : 0 ≤ (x5_1 : Int) := of_decide_eq_true (by first | (with_reducible assumption) | assumption)
            have q101 : x5_1 < (l0.length : Int) := of_decide_eq_true (by first | (with_reducible assumption) | assumption)
            obtain ⟨ad101, e101, hx101_0⟩ := Kd.at_int HR0.out x5_1 p101 q101
            cases e101
            replace p101 := eq_true p101
            replace q101 := eq_true q101
            go_wp2
            go_ret
            exact ⟨by first | rfl | (simp; done) | (simp [*]; done), by repeat (first | exact Drawn0.refl _ | apply Drawn0.step)⟩
        · rw [if_neg c4] at H
          exact absurd H (by simp)
      · rw [if_neg c3] at H
        have c3b0 : decide (x5_1 < (l0.length : Int)) = false := decide_eq_false c3
        clear c3
        obtain rfl := Option.some.inj H
        go_wp2
        go_ret
        exact ⟨by first | rfl | (simp; done) | (simp [*]; done), by repeat (first | exact Drawn0.refl _ | apply Drawn0.step)⟩

end Go.Proofs.Ytemafjbbopdheaa.P

/- Words for the walks of the laws' own functions: rows told by the stretch of blocks in which they were made. -/
namespace Go.Proofs.Ytemafjbbopdheaa.P
open Go.RowKit Go.Proofs.YtemafjbbopdheaaW.PrintWords Go.Proofs.YtemafjbbopdheaaW.PrintLast Go.Proofs.YtemafjbbopdheaaW.PrintMore
def Iv (lo hi : Nat) : Nat → Prop := fun k => lo ≤ k ∧ k < hi
theorem sz_alloc {n : Nat} {W : World} (h : n ≤ W.heap.size) (o : Obj) : n ≤ (W.alloc o).heap.size := Nat.le_trans h (below_alloc (Below.refl _ _) o).size
theorem sz_drewN {n : Nat} {W : World} (h : n ≤ W.heap.size) (m : Nat) : n ≤ (W.drewN m).heap.size := h
theorem sz_drew {n : Nat} {W : World} (h : n ≤ W.heap.size) : n ≤ W.drew.heap.size := h
section
variable {α : Type} {d : Kd α} {e base lo : Nat} {ok : Nat → Prop} {W W1 : World} {v : Value} {xs : List α}
theorem Iv_R (h : d.R e W1 W.heap.size ok v xs) (hb : base ≤ W.heap.size) (hl : lo ≤ W.heap.size) : d.R e W1 base (Iv lo W1.heap.size) v xs :=
  Kd.R_mono (Kd.R_lower (Kd.R_bound h) hb) (fun _ hk => ⟨Nat.le_trans hl hk.2.1, hk.2.2.1⟩)
theorem Iv_S (h : Kd.S d e W1 W.heap.size ok v xs) (hb : base ≤ W.heap.size) (hl : lo ≤ W.heap.size) : Kd.S d e W1 base (Iv lo W1.heap.size) v xs :=
  Kd.S_mono (Kd.S_lower (Kd.S_bound h) hb) (fun _ hk => ⟨Nat.le_trans hl hk.2.1, hk.2.2.1⟩)
end
end Go.Proofs.Ytemafjbbopdheaa.P

/- laws_FnExactHeadsOf: what it answers, and that the machine's call comes to it. -/
namespace Go.Proofs.Ytemafjbbopdheaa.P
open Go.RowKit Go.Proofs.YtemafjbbopdheaaW.PrintWords Go.Proofs.YtemafjbbopdheaaW.PrintLast Go.Proofs.YtemafjbbopdheaaW.PrintMore
attribute [local go_sem] max2_int min2_int max_two min_two max_three min_three max_four min_four str_leq str_gtr str_geq
set_option linter.unusedVariables false
set_option linter.unusedSimpArgs false

/-! ### laws_FnExactHeadsOf: function 9 (by hand: law_FnExactHeadsOf.lean) -/
def laws_FnExactHeadsOf.g (k : Nat) (l0 : List S87) : Option Bool := (laws_toVersionS.f k l0).bind fun t3 => ((spec_HeadsOf.f k t3).bind fun bt6 => ((laws_toVersionS.f k l0).bind fun t10 => ((impl_HeadsOf.f k t10).bind fun bt13 => (if laws_eqInt64S.f k bt13.1 bt6.1 = some true then (if bt13.2 = bt6.2 then ((laws_toVersionS.f k l0).bind fun t19 => (if laws_eqVersionS.f k t10 t19 = some true then ((laws_markVersionS.f k t10 1).bind fun bt24 => (if bt24.1 < 0 then none else (if laws_eqInt64S.f k bt13.1 bt6.1 = some true then (if bt13.2 = bt6.2 then ((laws_markInt64S.f k bt13.1 1).bind fun bt29 => ((laws_heldInt64S.f k bt29.2 1).bind fun t32 => (if t32 < 0 then none else (if t32 = bt29.1 then ((laws_toVersionS.f k l0).bind fun t34 => ((impl_HeadsOf.f k t34).bind fun bt37 => (if laws_eqInt64S.f k bt37.1 bt6.1 = some true then (if bt37.2 = bt6.2 then ((laws_heldInt64S.f k bt29.2 1).bind fun t43 => (if t43 < 0 then none else (if t43 = bt29.1 then (some true) else none))) else none) else none))) else none)))) else none) else none))) else none)) else none) else none))))
def laws_FnExactHeadsOf.f (k : Nat) (l0 : List S87) : Option Bool := (laws_szVersionS.f k l0 1048576).bind fun t1 => (if t1 < 0 then some true else (laws_FnExactHeadsOf.g k l0))
set_option maxHeartbeats 8000000 in
set_option maxRecDepth 100000 in
theorem laws_FnExactHeadsOf.early0 (k : Nat) (A0 : Option Addr) (c0 : Nat) (l0 : List S87) (w : World) (hr0 : Kd.C k87 w A0 l0.length l0) (hc0 : l0.length ≤ c0) (t1 : Int) (Q2 : Aside0 (laws_szVersionS.f k l0 1048576 = some t1)) (ef : t1 < 0) :
    Calls Try.prog 9 #[.slice A0 l0.length c0] w fun e w' => e = .returned (.bool true) ∧ Below w.heap.size w w' := by
  have efb : decide (t1 < 0) = true := decide_eq_true ef
  clear ef
  have HR0 := Aside0.mk hr0
  have HC0 := Aside0.mk hc0
  clear hr0 hc0
  have HB := Aside0.mk (Below.refl w.heap.size w)
  go_enter Try.func9, Try.ntmps9
  go_wp2_with fail
  refine (laws_szVersionS.calls k _ _ l0 1048576 t1 _ (by exact Kd.C_below HR0.out (by repeat (first | (with_reducible first | exact HB.out | apply below_alloc | apply pw_below_drewN | apply below_drew1) | exact HB.out))) HC0.out Q2.out).mono ?_
  rintro e w1 ⟨rfl, hb⟩
  have n0_ := Aside0.mk (below_step (by repeat (first | (with_reducible first | exact HB.out | apply below_alloc | apply pw_below_drewN | apply below_drew1) | exact HB.out)) hb)
  clear HB hb
  have HB := n0_
  clear n0_
  go_wp2_with fail
  go_ret
  exact ⟨rfl, (by repeat (first | (with_reducible first | exact HB.out | apply below_alloc | apply pw_below_drewN | apply below_drew1) | exact HB.out))⟩
set_option maxHeartbeats 8000000 in
set_option maxRecDepth 100000 in
theorem laws_FnExactHeadsOf.main (k : Nat) (A0 : Option Addr) (c0 : Nat) (l0 : List S87) (w : World) (hr0 : Kd.C k87 w A0 l0.length l0) (hc0 : l0.length ≤ c0) (t1 : Int) (t3 : List (S89)) (t6 : List Int) (t7 : Int) (t10 : List (S89)) (t13 : List Int) (t14 : Int) (t19 : List (S89)) (t24 : Int) (t25 : List S89) (t29 : Int) (t30 : List Int) (t32 : Int) (t34 : List (S89)) (t37 : List Int) (t38 : Int) (t43 : Int) (Q2 : Aside0 (laws_szVersionS.f k l0 1048576 = some t1)) (e1 : ¬ t1 < 0) (Q4 : Aside0 (laws_toVersionS.f k l0 = some t3)) (Q8 : Aside0 (spec_HeadsOf.f k t3 = some (t6, t7))) (Q11 : Aside0 (laws_toVersionS.f k l0 = some t10)) (Q15 : Aside0 (impl_HeadsOf.f k t10 = some (t13, t14))) (Q18 : Aside0 (laws_eqInt64S.f k t13 t6 = some true)) (e7 : t14 = t7) (Q20 : Aside0 (laws_toVersionS.f k l0 = some t19)) (Q23 : Aside0 (laws_eqVersionS.f k t10 t19 = some true)) (Q26 : Aside0 (laws_markVersionS.f k t10 1 = some (t24, t25))) (e11 : ¬ t24 < 0) (Q28 : Aside0 (laws_eqInt64S.f k t13 t6 = some true)) (e13 : t14 = t7) (Q31 : Aside0 (laws_markInt64S.f k t13 1 = some (t29, t30))) (Q33 : Aside0 (laws_heldInt64S.f k t30 1 = some t32)) (e16 : ¬ t32 < 0) (e17 : t32 = t29) (Q35 : Aside0 (laws_toVersionS.f k l0 = some t34)) (Q39 : Aside0 (impl_HeadsOf.f k t34 = some (t37, t38))) (Q42 : Aside0 (laws_eqInt64S.f k t37 t6 = some true)) (e21 : t38 = t7) (Q44 : Aside0 (laws_heldInt64S.f k t30 1 = some t43)) (e23 : ¬ t43 < 0) (e24 : t43 = t29) :
    Calls Try.prog 9 #[.slice A0 l0.length c0] w fun e w' => e = .returned (.bool true) ∧ Below w.heap.size w w' := by
  have e1b : decide (t1 < 0) = false := decide_eq_false e1
  clear e1
  have e7b : (t14 == t7) = true := beq_iff_eq.mpr e7
  have e7c : (t14 != t7) = false := bne_eq_false_iff_eq.mpr e7
  clear e7
  have e11b : decide (t24 < 0) = false := decide_eq_false e11
  clear e11
  have e13b : (t14 == t7) = true := beq_iff_eq.mpr e13
  have e13c : (t14 != t7) = false := bne_eq_false_iff_eq.mpr e13
  clear e13
  have e16b : decide (t32 < 0) = false := decide_eq_false e16
  clear e16
  have e17b : (t32 == t29) = true := beq_iff_eq.mpr e17
  have e17c : (t32 != t29) = false := bne_eq_false_iff_eq.mpr e17
  clear e17
  have e21b : (t38 == t7) = true := beq_iff_eq.mpr e21
  have e21c : (t38 != t7) = false := bne_eq_false_iff_eq.mpr e21
  clear e21
  have e23b : decide (t43 < 0) = false := decide_eq_false e23
  clear e23
  have e24b : (t43 == t29) = true := beq_iff_eq.mpr e24
  have e24c : (t43 != t29) = false := bne_eq_false_iff_eq.mpr e24
  clear e24
  have HR0 := Aside0.mk hr0
  have HC0 := Aside0.mk hc0
  clear hr0 hc0
  have HB := Aside0.mk (Below.refl w.heap.size w)
  go_enter Try.func9, Try.ntmps9
  go_wp2_with fail
  refine (laws_szVersionS.calls k _ _ l0 1048576 t1 _ (by exact Kd.C_below HR0.out (by repeat (first | (with_reducible first | exact HB.out | apply below_alloc | apply pw_below_drewN | apply below_drew1) | exact HB.out))) HC0.out Q2.out).mono ?_
  rintro e w1 ⟨rfl, hb⟩
  have n0_ := Aside0.mk (below_step (by repeat (first | (with_reducible first | exact HB.out | apply below_alloc | apply pw_below_drewN | apply below_drew1) | exact HB.out)) hb)
  clear HB hb
  have HB := n0_
  clear n0_
  go_wp2_with fail
  refine (laws_toVersionS.calls k _ _ l0 t3 _ (by exact Kd.C_below HR0.out (by repeat (first | (with_reducible first | exact HB.out | apply below_alloc | apply pw_below_drewN | apply below_drew1) | exact HB.out))) HC0.out Q4.out).mono ?_
  rintro e w2 ⟨v0, rfl, ho0, hb⟩
  have n0_ := Aside0.mk (Iv_S (lo := w.heap.size) (W := _) ho0 (below_size (by repeat (first | (with_reducible first | exact HB.out | apply below_alloc | apply pw_below_drewN | apply below_drew1) | exact HB.out))) (below_size (by repeat (first | (with_reducible first | exact HB.out | apply below_alloc | apply pw_below_drewN | apply below_drew1) | exact HB.out))))
  have n1_ := Aside0.mk (Nat.le_refl w2.heap.size)
  have n2_ := Aside0.mk (Nat.le_trans (below_size (by repeat (first | (with_reducible first | exact HB.out | apply below_alloc | apply pw_below_drewN | apply below_drew1) | exact HB.out))) hb.size)
  have n3_ := Aside0.mk (below_step (by repeat (first | (with_reducible first | exact HB.out | apply below_alloc | apply pw_below_drewN | apply below_drew1) | exact HB.out)) hb)
  clear HB hb ho0
  have HO_row5 := n0_
  have HS := n1_
  have M2 := n2_
  have HB := n3_
  clear n0_ n1_ n2_ n3_
  obtain ⟨A_row5, c_row5, rfl⟩ := Kd.S_slice HO_row5.out
  go_wp2_with fail
  refine (spec_HeadsOf.calls k _ _ t3 t6 t7 _ (by exact (Kd.S_reads' (by (with_reducible repeat (first | apply Kd.S_alloc | apply Kd.S_drewN | apply Kd.S_drew)); exact HO_row5.out)).2.2) (by exact (Kd.S_reads' HO_row5.out).2.1) Q8.out).mono ?_
  rintro e w3 ⟨v0, rfl, ho0, hb⟩
  have n0_ := Aside0.mk (Kd.S_below (by (with_reducible repeat (first | apply Kd.S_alloc | apply Kd.S_drewN | apply Kd.S_drew)); exact HO_row5.out) hb)
  have n1_ := Aside0.mk (Iv_R (lo := w2.heap.size) (W := _) ho0 (below_size (by repeat (first | (with_reducible first | exact HB.out | apply below_alloc | apply pw_below_drewN | apply below_drew1) | exact HB.out))) (by repeat (first | (with_reducible first | exact HS.out | apply sz_alloc | apply sz_drewN | apply sz_drew) | exact HS.out)))
  have n2_ := Aside0.mk (Nat.le_refl w3.heap.size)
  have n3_ := Aside0.mk (Nat.le_trans (by repeat (first | (with_reducible first | exact HS.out | apply sz_alloc | apply sz_drewN | apply sz_drew) | exact HS.out)) hb.size)
  have n4_ := Aside0.mk (below_step (by repeat (first | (with_reducible first | exact HB.out | apply below_alloc | apply pw_below_drewN | apply below_drew1) | exact HB.out)) hb)
  clear HB HS HO_row5 hb ho0
  have HO_row5 := n0_
  have HO_row9 := n1_
  have HS := n2_
  have M3 := n3_
  have HB := n4_
  clear n0_ n1_ n2_ n3_ n4_
  obtain ⟨A_row9, c_row9, rfl⟩ := Kd.R_slice HO_row9.out
  go_wp2_with fail
  refine (laws_toVersionS.calls k _ _ l0 t10 _ (by exact Kd.C_below HR0.out (by repeat (first | (with_reducible first | exact HB.out | apply below_alloc | apply pw_below_drewN | apply below_drew1) | exact HB.out))) HC0.out Q11.out).mono ?_
  rintro e w4 ⟨v0, rfl, ho0, hb⟩
  have n0_ := Aside0.mk (Kd.S_below (by (with_reducible repeat (first | apply Kd.S_alloc | apply Kd.S_drewN | apply Kd.S_drew)); exact HO_row5.out) hb)
  have n1_ := Aside0.mk (Kd.R_below (by (with_reducible repeat (first | apply Kd.R_alloc | apply Kd.R_drewN | apply Kd.R_drew)); exact HO_row9.out) hb)
  have n2_ := Aside0.mk (Iv_S (lo := w3.heap.size) (W := _) ho0 (below_size (by repeat (first | (with_reducible first | exact HB.out | apply below_alloc | apply pw_below_drewN | apply below_drew1) | exact HB.out))) (by repeat (first | (with_reducible first | exact HS.out | apply sz_alloc | apply sz_drewN | apply sz_drew) | exact HS.out)))
  have n3_ := Aside0.mk (Nat.le_refl w4.heap.size)
  have n4_ := Aside0.mk (Nat.le_trans (by repeat (first | (with_reducible first | exact HS.out | apply sz_alloc | apply sz_drewN | apply sz_drew) | exact HS.out)) hb.size)
  have n5_ := Aside0.mk (below_step (by repeat (first | (with_reducible first | exact HB.out | apply below_alloc | apply pw_below_drewN | apply below_drew1) | exact HB.out)) hb)
  clear HB HS HO_row5 HO_row9 hb ho0
  have HO_row5 := n0_
  have HO_row9 := n1_
  have HO_row12 := n2_
  have HS := n3_
  have M4 := n4_
  have HB := n5_
  clear n0_ n1_ n2_ n3_ n4_ n5_
  obtain ⟨A_row12, c_row12, rfl⟩ := Kd.S_slice HO_row12.out
  go_wp2_with fail
  refine (impl_HeadsOf.calls k _ _ t10 t13 t14 _ (by exact (Kd.S_reads' (by (with_reducible repeat (first | apply Kd.S_alloc | apply Kd.S_drewN | apply Kd.S_drew)); exact HO_row12.out)).2.2) (by exact (Kd.S_reads' HO_row12.out).2.1) Q15.out).mono ?_
  rintro e w5 ⟨v0, rfl, ho0, hb⟩
  have n0_ := Aside0.mk (Kd.S_below (by (with_reducible repeat (first | apply Kd.S_alloc | apply Kd.S_drewN | apply Kd.S_drew)); exact HO_row5.out) hb)
  have n1_ := Aside0.mk (Kd.R_below (by (with_reducible repeat (first | apply Kd.R_alloc | apply Kd.R_drewN | apply Kd.R_drew)); exact HO_row9.out) hb)
  have n2_ := Aside0.mk (Kd.S_below (by (with_reducible repeat (first | apply Kd.S_alloc | apply Kd.S_drewN | apply Kd.S_drew)); exact HO_row12.out) hb)
  have n3_ := Aside0.mk (Iv_R (lo := w4.heap.size) (W := _) ho0 (below_size (by repeat (first | (with_reducible first | exact HB.out | apply below_alloc | apply pw_below_drewN | apply below_drew1) | exact HB.out))) (by repeat (first | (with_reducible first | exact HS.out | apply sz_alloc | apply sz_drewN | apply sz_drew) | exact HS.out)))
  have n4_ := Aside0.mk (Nat.le_refl w5.heap.size)
  have n5_ := Aside0.mk (Nat.le_trans (by repeat (first | (with_reducible first | exact HS.out | apply sz_alloc | apply sz_drewN | apply sz_drew) | exact HS.out)) hb.size)
  have n6_ := Aside0.mk (below_step (by repeat (first | (with_reducible first | exact HB.out | apply below_alloc | apply pw_below_drewN | apply below_drew1) | exact HB.out)) hb)
  clear HB HS HO_row5 HO_row9 HO_row12 hb ho0
  have HO_row5 := n0_
  have HO_row9 := n1_
  have HO_row12 := n2_
  have HO_row16 := n3_
  have HS := n4_
  have M5 := n5_
  have HB := n6_
  clear n0_ n1_ n2_ n3_ n4_ n5_ n6_
  obtain ⟨A_row16, c_row16, rfl⟩ := Kd.R_slice HO_row16.out
  go_wp2_with fail
  refine (laws_eqInt64S.calls k _ _ t13 _ _ t6 true _ (by exact (Kd.R_reads' (by (with_reducible repeat (first | apply Kd.R_alloc | apply Kd.R_drewN | apply Kd.R_drew)); exact HO_row16.out)).2.2) (by exact (Kd.R_reads' HO_row16.out).2.1) (by exact (Kd.R_reads' (by (with_reducible repeat (first | apply Kd.R_alloc | apply Kd.R_drewN | apply Kd.R_drew)); exact HO_row9.out)).2.2) (by exact (Kd.R_reads' HO_row9.out).2.1) Q18.out).mono ?_
  rintro e w6 ⟨rfl, hb⟩
  replace hb := hb.below
  have n0_ := Aside0.mk (Kd.S_below (by (with_reducible repeat (first | apply Kd.S_alloc | apply Kd.S_drewN | apply Kd.S_drew)); exact HO_row5.out) hb)
  have n1_ := Aside0.mk (Kd.R_below (by (with_reducible repeat (first | apply Kd.R_alloc | apply Kd.R_drewN | apply Kd.R_drew)); exact HO_row9.out) hb)
  have n2_ := Aside0.mk (Kd.S_below (by (with_reducible repeat (first | apply Kd.S_alloc | apply Kd.S_drewN | apply Kd.S_drew)); exact HO_row12.out) hb)
  have n3_ := Aside0.mk (Kd.R_below (by (with_reducible repeat (first | apply Kd.R_alloc | apply Kd.R_drewN | apply Kd.R_drew)); exact HO_row16.out) hb)
  have n4_ := Aside0.mk (Nat.le_trans (by repeat (first | (with_reducible first | exact HS.out | apply sz_alloc | apply sz_drewN | apply sz_drew) | exact HS.out)) hb.size)
  have n5_ := Aside0.mk (below_step (by repeat (first | (with_reducible first | exact HB.out | apply below_alloc | apply pw_below_drewN | apply below_drew1) | exact HB.out)) hb)
  clear HB HS HO_row5 HO_row9 HO_row12 HO_row16 hb
  have HO_row5 := n0_
  have HO_row9 := n1_
  have HO_row12 := n2_
  have HO_row16 := n3_
  have HS := n4_
  have HB := n5_
  clear n0_ n1_ n2_ n3_ n4_ n5_
  go_wp2_with fail
  refine (laws_toVersionS.calls k _ _ l0 t19 _ (by exact Kd.C_below HR0.out (by repeat (first | (with_reducible first | exact HB.out | apply below_alloc | apply pw_below_drewN | apply below_drew1) | exact HB.out))) HC0.out Q20.out).mono ?_
  rintro e w7 ⟨v0, rfl, ho0, hb⟩
  have n0_ := Aside0.mk (Kd.S_below (by (with_reducible repeat (first | apply Kd.S_alloc | apply Kd.S_drewN | apply Kd.S_drew)); exact HO_row5.out) hb)
  have n1_ := Aside0.mk (Kd.R_below (by (with_reducible repeat (first | apply Kd.R_alloc | apply Kd.R_drewN | apply Kd.R_drew)); exact HO_row9.out) hb)
  have n2_ := Aside0.mk (Kd.S_below (by (with_reducible repeat (first | apply Kd.S_alloc | apply Kd.S_drewN | apply Kd.S_drew)); exact HO_row12.out) hb)
  have n3_ := Aside0.mk (Kd.R_below (by (with_reducible repeat (first | apply Kd.R_alloc | apply Kd.R_drewN | apply Kd.R_drew)); exact HO_row16.out) hb)
  have n4_ := Aside0.mk (Iv_S (lo := w5.heap.size) (W := _) ho0 (below_size (by repeat (first | (with_reducible first | exact HB.out | apply below_alloc | apply pw_below_drewN | apply below_drew1) | exact HB.out))) (by repeat (first | (with_reducible first | exact HS.out | apply sz_alloc | apply sz_drewN | apply sz_drew) | exact HS.out)))
  have n5_ := Aside0.mk (Nat.le_refl w7.heap.size)
  have n6_ := Aside0.mk (Nat.le_trans (by repeat (first | (with_reducible first | exact HS.out | apply sz_alloc | apply sz_drewN | apply sz_drew) | exact HS.out)) hb.size)
  have n7_ := Aside0.mk (below_step (by repeat (first | (with_reducible first | exact HB.out | apply below_alloc | apply pw_below_drewN | apply below_drew1) | exact HB.out)) hb)
  clear HB HS HO_row5 HO_row9 HO_row12 HO_row16 hb ho0
  have HO_row5 := n0_
  have HO_row9 := n1_
  have HO_row12 := n2_
  have HO_row16 := n3_
  have HO_row21 := n4_
  have HS := n5_
  have M7 := n6_
  have HB := n7_
  clear n0_ n1_ n2_ n3_ n4_ n5_ n6_ n7_
  obtain ⟨A_row21, c_row21, rfl⟩ := Kd.S_slice HO_row21.out
  go_wp2_with fail
  refine (laws_eqVersionS.calls k _ _ t10 _ _ t19 true _ (by exact (Kd.S_reads' (by (with_reducible repeat (first | apply Kd.S_alloc | apply Kd.S_drewN | apply Kd.S_drew)); exact HO_row12.out)).2.2) (by exact (Kd.S_reads' HO_row12.out).2.1) (by exact (Kd.S_reads' (by (with_reducible repeat (first | apply Kd.S_alloc | apply Kd.S_drewN | apply Kd.S_drew)); exact HO_row21.out)).2.2) (by exact (Kd.S_reads' HO_row21.out).2.1) Q23.out).mono ?_
  rintro e w8 ⟨rfl, hb⟩
  have n0_ := Aside0.mk (Kd.S_below (by (with_reducible repeat (first | apply Kd.S_alloc | apply Kd.S_drewN | apply Kd.S_drew)); exact HO_row5.out) hb)
  have n1_ := Aside0.mk (Kd.R_below (by (with_reducible repeat (first | apply Kd.R_alloc | apply Kd.R_drewN | apply Kd.R_drew)); exact HO_row9.out) hb)
  have n2_ := Aside0.mk (Kd.S_below (by (with_reducible repeat (first | apply Kd.S_alloc | apply Kd.S_drewN | apply Kd.S_drew)); exact HO_row12.out) hb)
  have n3_ := Aside0.mk (Kd.R_below (by (with_reducible repeat (first | apply Kd.R_alloc | apply Kd.R_drewN | apply Kd.R_drew)); exact HO_row16.out) hb)
  have n4_ := Aside0.mk (Kd.S_below (by (with_reducible repeat (first | apply Kd.S_alloc | apply Kd.S_drewN | apply Kd.S_drew)); exact HO_row21.out) hb)
  have n5_ := Aside0.mk (Nat.le_trans (by repeat (first | (with_reducible first | exact HS.out | apply sz_alloc | apply sz_drewN | apply sz_drew) | exact HS.out)) hb.size)
  have n6_ := Aside0.mk (below_step (by repeat (first | (with_reducible first | exact HB.out | apply below_alloc | apply pw_below_drewN | apply below_drew1) | exact HB.out)) hb)
  clear HB HS HO_row5 HO_row9 HO_row12 HO_row16 HO_row21 hb
  have HO_row5 := n0_
  have HO_row9 := n1_
  have HO_row12 := n2_
  have HO_row16 := n3_
  have HO_row21 := n4_
  have HS := n5_
  have HB := n6_
  clear n0_ n1_ n2_ n3_ n4_ n5_ n6_
  go_wp2_with fail
  refine (laws_markVersionS.calls k (Iv w3.heap.size w4.heap.size) _ t10 1 t24 t25 w _ (by repeat (first | (with_reducible first | exact HB.out | apply below_alloc | apply pw_below_drewN | apply below_drew1) | exact HB.out)) (by (with_reducible repeat (first | apply Kd.S_alloc | apply Kd.S_drewN | apply Kd.S_drew)); exact HO_row12.out) Q26.out).mono ?_
  rintro e w9 ⟨rfl, ho0, hb, hk⟩
  have n0_ := Aside0.mk (ho0)
  have n1_ := Aside0.mk (Kd.S_kept (by (with_reducible repeat (first | apply Kd.S_alloc | apply Kd.S_drewN | apply Kd.S_drew)); exact HO_row5.out) hk (fun k_ h1_ h2_ => by unfold Iv at h1_ h2_; have m2_ := M2.out; have m3_ := M3.out; have m4_ := M4.out; have m5_ := M5.out; have m7_ := M7.out; omega))
  have n2_ := Aside0.mk (Kd.R_kept (by (with_reducible repeat (first | apply Kd.R_alloc | apply Kd.R_drewN | apply Kd.R_drew)); exact HO_row9.out) hk (fun k_ h1_ h2_ => by unfold Iv at h1_ h2_; have m2_ := M2.out; have m3_ := M3.out; have m4_ := M4.out; have m5_ := M5.out; have m7_ := M7.out; omega))
  have n3_ := Aside0.mk (Kd.R_kept (by (with_reducible repeat (first | apply Kd.R_alloc | apply Kd.R_drewN | apply Kd.R_drew)); exact HO_row16.out) hk (fun k_ h1_ h2_ => by unfold Iv at h1_ h2_; have m2_ := M2.out; have m3_ := M3.out; have m4_ := M4.out; have m5_ := M5.out; have m7_ := M7.out; omega))
  have n4_ := Aside0.mk (Kd.S_kept (by (with_reducible repeat (first | apply Kd.S_alloc | apply Kd.S_drewN | apply Kd.S_drew)); exact HO_row21.out) hk (fun k_ h1_ h2_ => by unfold Iv at h1_ h2_; have m2_ := M2.out; have m3_ := M3.out; have m4_ := M4.out; have m5_ := M5.out; have m7_ := M7.out; omega))
  have n5_ := Aside0.mk (Nat.le_trans (by repeat (first | (with_reducible first | exact HS.out | apply sz_alloc | apply sz_drewN | apply sz_drew) | exact HS.out)) hk.1)
  have n6_ := Aside0.mk (hb)
  clear HB HS HO_row5 HO_row9 HO_row12 HO_row16 HO_row21 hb hk ho0
  have HO_row12 := n0_
  have HO_row5 := n1_
  have HO_row9 := n2_
  have HO_row16 := n3_
  have HO_row21 := n4_
  have HS := n5_
  have HB := n6_
  clear n0_ n1_ n2_ n3_ n4_ n5_ n6_
  have LN_row12 := Aside0.mk (Kd.S_reads' HO_row12.out).1
  go_wp2_with fail
  refine (laws_eqInt64S.calls k _ _ t13 _ _ t6 true _ (by exact (Kd.R_reads' (by (with_reducible repeat (first | apply Kd.R_alloc | apply Kd.R_drewN | apply Kd.R_drew)); exact HO_row16.out)).2.2) (by exact (Kd.R_reads' HO_row16.out).2.1) (by exact (Kd.R_reads' (by (with_reducible repeat (first | apply Kd.R_alloc | apply Kd.R_drewN | apply Kd.R_drew)); exact HO_row9.out)).2.2) (by exact (Kd.R_reads' HO_row9.out).2.1) Q28.out).mono ?_
  rintro e w10 ⟨rfl, hb⟩
  replace hb := hb.below
  have n0_ := Aside0.mk (Kd.S_below (by (with_reducible repeat (first | apply Kd.S_alloc | apply Kd.S_drewN | apply Kd.S_drew)); exact HO_row5.out) hb)
  have n1_ := Aside0.mk (Kd.R_below (by (with_reducible repeat (first | apply Kd.R_alloc | apply Kd.R_drewN | apply Kd.R_drew)); exact HO_row9.out) hb)
  have n2_ := Aside0.mk (Kd.S_below (by (with_reducible repeat (first | apply Kd.S_alloc | apply Kd.S_drewN | apply Kd.S_drew)); exact HO_row12.out) hb)
  have n3_ := Aside0.mk (Kd.R_below (by (with_reducible repeat (first | apply Kd.R_alloc | apply Kd.R_drewN | apply Kd.R_drew)); exact HO_row16.out) hb)
  have n4_ := Aside0.mk (Kd.S_below (by (with_reducible repeat (first | apply Kd.S_alloc | apply Kd.S_drewN | apply Kd.S_drew)); exact HO_row21.out) hb)
  have n5_ := Aside0.mk (Nat.le_trans (by repeat (first | (with_reducible first | exact HS.out | apply sz_alloc | apply sz_drewN | apply sz_drew) | exact HS.out)) hb.size)
  have n6_ := Aside0.mk (below_step (by repeat (first | (with_reducible first | exact HB.out | apply below_alloc | apply pw_below_drewN | apply below_drew1) | exact HB.out)) hb)
  clear HB HS HO_row5 HO_row9 HO_row12 HO_row16 HO_row21 hb
  have HO_row5 := n0_
  have HO_row9 := n1_
  have HO_row12 := n2_
  have HO_row16 := n3_
  have HO_row21 := n4_
  have HS := n5_
  have HB := n6_
  clear n0_ n1_ n2_ n3_ n4_ n5_ n6_
  go_wp2_with fail
  refine (laws_markInt64S.calls k (Iv w4.heap.size w5.heap.size) _ t13 1 t29 t30 w _ (by repeat (first | (with_reducible first | exact HB.out | apply below_alloc | apply pw_below_drewN | apply below_drew1) | exact HB.out)) (by (with_reducible repeat (first | apply Kd.R_alloc | apply Kd.R_drewN | apply Kd.R_drew)); exact HO_row16.out) Q31.out).mono ?_
  rintro e w11 ⟨rfl, ho0, hb, hk⟩
  have n0_ := Aside0.mk (Kd.R_mono (Kd.R_tight rfl ho0) (fun k_ hk_ => HO_row16.out.1 k_ hk_.symm))
  have n1_ := Aside0.mk (Kd.S_kept (by (with_reducible repeat (first | apply Kd.S_alloc | apply Kd.S_drewN | apply Kd.S_drew)); exact HO_row5.out) hk (fun k_ h1_ h2_ => by unfold Iv at h1_ h2_; have m2_ := M2.out; have m3_ := M3.out; have m4_ := M4.out; have m5_ := M5.out; have m7_ := M7.out; omega))
  have n2_ := Aside0.mk (Kd.R_kept (by (with_reducible repeat (first | apply Kd.R_alloc | apply Kd.R_drewN | apply Kd.R_drew)); exact HO_row9.out) hk (fun k_ h1_ h2_ => by unfold Iv at h1_ h2_; have m2_ := M2.out; have m3_ := M3.out; have m4_ := M4.out; have m5_ := M5.out; have m7_ := M7.out; omega))
  have n3_ := Aside0.mk (Kd.S_kept (by (with_reducible repeat (first | apply Kd.S_alloc | apply Kd.S_drewN | apply Kd.S_drew)); exact HO_row12.out) hk (fun k_ h1_ h2_ => by unfold Iv at h1_ h2_; have m2_ := M2.out; have m3_ := M3.out; have m4_ := M4.out; have m5_ := M5.out; have m7_ := M7.out; omega))
  have n4_ := Aside0.mk (Kd.S_kept (by (with_reducible repeat (first | apply Kd.S_alloc | apply Kd.S_drewN | apply Kd.S_drew)); exact HO_row21.out) hk (fun k_ h1_ h2_ => by unfold Iv at h1_ h2_; have m2_ := M2.out; have m3_ := M3.out; have m4_ := M4.out; have m5_ := M5.out; have m7_ := M7.out; omega))
  have n5_ := Aside0.mk (Nat.le_trans (by repeat (first | (with_reducible first | exact HS.out | apply sz_alloc | apply sz_drewN | apply sz_drew) | exact HS.out)) hk.1)
  have n6_ := Aside0.mk (hb)
  clear HB HS HO_row5 HO_row9 HO_row12 HO_row16 HO_row21 hb hk ho0
  have HO_row16 := n0_
  have HO_row5 := n1_
  have HO_row9 := n2_
  have HO_row12 := n3_
  have HO_row21 := n4_
  have HS := n5_
  have HB := n6_
  clear n0_ n1_ n2_ n3_ n4_ n5_ n6_
  have LN_row16 := Aside0.mk (Kd.R_reads' HO_row16.out).1
  go_wp2_with fail
  refine calls_of_args (args' := #[.slice _ t30.length _, _]) (by rw [← LN_row16.out]) ?_
  refine (laws_heldInt64S.calls k _ _ t30 1 t32 _ (by exact (Kd.R_reads' (by (with_reducible repeat (first | apply Kd.R_alloc | apply Kd.R_drewN | apply Kd.R_drew)); exact HO_row16.out)).2.2) (by rw [← LN_row16.out]; exact (Kd.R_reads' HO_row16.out).2.1) Q33.out).mono ?_
  rintro e w12 ⟨rfl, hb⟩
  replace hb := hb.below
  have n0_ := Aside0.mk (Kd.S_below (by (with_reducible repeat (first | apply Kd.S_alloc | apply Kd.S_drewN | apply Kd.S_drew)); exact HO_row5.out) hb)
  have n1_ := Aside0.mk (Kd.R_below (by (with_reducible repeat (first | apply Kd.R_alloc | apply Kd.R_drewN | apply Kd.R_drew)); exact HO_row9.out) hb)
  have n2_ := Aside0.mk (Kd.S_below (by (with_reducible repeat (first | apply Kd.S_alloc | apply Kd.S_drewN | apply Kd.S_drew)); exact HO_row12.out) hb)
  have n3_ := Aside0.mk (Kd.R_below (by (with_reducible repeat (first | apply Kd.R_alloc | apply Kd.R_drewN | apply Kd.R_drew)); exact HO_row16.out) hb)
  have n4_ := Aside0.mk (Kd.S_below (by (with_reducible repeat (first | apply Kd.S_alloc | apply Kd.S_drewN | apply Kd.S_drew)); exact HO_row21.out) hb)
  have n5_ := Aside0.mk (Nat.le_trans (by repeat (first | (with_reducible first | exact HS.out | apply sz_alloc | apply sz_drewN | apply sz_drew) | exact HS.out)) hb.size)
  have n6_ := Aside0.mk (below_step (by repeat (first | (with_reducible first | exact HB.out | apply below_alloc | apply pw_below_drewN | apply below_drew1) | exact HB.out)) hb)
  clear HB HS HO_row5 HO_row9 HO_row12 HO_row16 HO_row21 hb
  have HO_row5 := n0_
  have HO_row9 := n1_
  have HO_row12 := n2_
  have HO_row16 := n3_
  have HO_row21 := n4_
  have HS := n5_
  have HB := n6_
  clear n0_ n1_ n2_ n3_ n4_ n5_ n6_
  go_wp2_with fail
  refine (laws_toVersionS.calls k _ _ l0 t34 _ (by exact Kd.C_below HR0.out (by repeat (first | (with_reducible first | exact HB.out | apply below_alloc | apply pw_below_drewN | apply below_drew1) | exact HB.out))) HC0.out Q35.out).mono ?_
  rintro e w13 ⟨v0, rfl, ho0, hb⟩
  have n0_ := Aside0.mk (Kd.S_below (by (with_reducible repeat (first | apply Kd.S_alloc | apply Kd.S_drewN | apply Kd.S_drew)); exact HO_row5.out) hb)
  have n1_ := Aside0.mk (Kd.R_below (by (with_reducible repeat (first | apply Kd.R_alloc | apply Kd.R_drewN | apply Kd.R_drew)); exact HO_row9.out) hb)
  have n2_ := Aside0.mk (Kd.S_below (by (with_reducible repeat (first | apply Kd.S_alloc | apply Kd.S_drewN | apply Kd.S_drew)); exact HO_row12.out) hb)
  have n3_ := Aside0.mk (Kd.R_below (by (with_reducible repeat (first | apply Kd.R_alloc | apply Kd.R_drewN | apply Kd.R_drew)); exact HO_row16.out) hb)
  have n4_ := Aside0.mk (Kd.S_below (by (with_reducible repeat (first | apply Kd.S_alloc | apply Kd.S_drewN | apply Kd.S_drew)); exact HO_row21.out) hb)
  have n5_ := Aside0.mk (Iv_S (lo := w7.heap.size) (W := _) ho0 (below_size (by repeat (first | (with_reducible first | exact HB.out | apply below_alloc | apply pw_below_drewN | apply below_drew1) | exact HB.out))) (by repeat (first | (with_reducible first | exact HS.out | apply sz_alloc | apply sz_drewN | apply sz_drew) | exact HS.out)))
  have n6_ := Aside0.mk (Nat.le_refl w13.heap.size)
  have n7_ := Aside0.mk (Nat.le_trans (by repeat (first | (with_reducible first | exact HS.out | apply sz_alloc | apply sz_drewN | apply sz_drew) | exact HS.out)) hb.size)
  have n8_ := Aside0.mk (below_step (by repeat (first | (with_reducible first | exact HB.out | apply below_alloc | apply pw_below_drewN | apply below_drew1) | exact HB.out)) hb)
  clear HB HS HO_row5 HO_row9 HO_row12 HO_row16 HO_row21 hb ho0
  have HO_row5 := n0_
  have HO_row9 := n1_
  have HO_row12 := n2_
  have HO_row16 := n3_
  have HO_row21 := n4_
  have HO_row36 := n5_
  have HS := n6_
  have M13 := n7_
  have HB := n8_
  clear n0_ n1_ n2_ n3_ n4_ n5_ n6_ n7_ n8_
  obtain ⟨A_row36, c_row36, rfl⟩ := Kd.S_slice HO_row36.out
  go_wp2_with fail
  refine (impl_HeadsOf.calls k _ _ t34 t37 t38 _ (by exact (Kd.S_reads' (by (with_reducible repeat (first | apply Kd.S_alloc | apply Kd.S_drewN | apply Kd.S_drew)); exact HO_row36.out)).2.2) (by exact (Kd.S_reads' HO_row36.out).2.1) Q39.out).mono ?_
  rintro e w14 ⟨v0, rfl, ho0, hb⟩
  have n0_ := Aside0.mk (Kd.S_below (by (with_reducible repeat (first | apply Kd.S_alloc | apply Kd.S_drewN | apply Kd.S_drew)); exact HO_row5.out) hb)
  have n1_ := Aside0.mk (Kd.R_below (by (with_reducible repeat (first | apply Kd.R_alloc | apply Kd.R_drewN | apply Kd.R_drew)); exact HO_row9.out) hb)
  have n2_ := Aside0.mk (Kd.S_below (by (with_reducible repeat (first | apply Kd.S_alloc | apply Kd.S_drewN | apply Kd.S_drew)); exact HO_row12.out) hb)
  have n3_ := Aside0.mk (Kd.R_below (by (with_reducible repeat (first | apply Kd.R_alloc | apply Kd.R_drewN | apply Kd.R_drew)); exact HO_row16.out) hb)
  have n4_ := Aside0.mk (Kd.S_below (by (with_reducible repeat (first | apply Kd.S_alloc | apply Kd.S_drewN | apply Kd.S_drew)); exact HO_row21.out) hb)
  have n5_ := Aside0.mk (Kd.S_below (by (with_reducible repeat (first | apply Kd.S_alloc | apply Kd.S_drewN | apply Kd.S_drew)); exact HO_row36.out) hb)
  have n6_ := Aside0.mk (Iv_R (lo := w13.heap.size) (W := _) ho0 (below_size (by repeat (first | (with_reducible first | exact HB.out | apply below_alloc | apply pw_below_drewN | apply below_drew1) | exact HB.out))) (by repeat (first | (with_reducible first | exact HS.out | apply sz_alloc | apply sz_drewN | apply sz_drew) | exact HS.out)))
  have n7_ := Aside0.mk (Nat.le_refl w14.heap.size)
  have n8_ := Aside0.mk (Nat.le_trans (by repeat (first | (with_reducible first | exact HS.out | apply sz_alloc | apply sz_drewN | apply sz_drew) | exact HS.out)) hb.size)
  have n9_ := Aside0.mk (below_step (by repeat (first | (with_reducible first | exact HB.out | apply below_alloc | apply pw_below_drewN | apply below_drew1) | exact HB.out)) hb)
  clear HB HS HO_row5 HO_row9 HO_row12 HO_row16 HO_row21 HO_row36 hb ho0
  have HO_row5 := n0_
  have HO_row9 := n1_
  have HO_row12 := n2_
  have HO_row16 := n3_
  have HO_row21 := n4_
  have HO_row36 := n5_
  have HO_row40 := n6_
  have HS := n7_
  have M14 := n8_
  have HB := n9_
  clear n0_ n1_ n2_ n3_ n4_ n5_ n6_ n7_ n8_ n9_
  obtain ⟨A_row40, c_row40, rfl⟩ := Kd.R_slice HO_row40.out
  go_wp2_with fail
  refine (laws_eqInt64S.calls k _ _ t37 _ _ t6 true _ (by exact (Kd.R_reads' (by (with_reducible repeat (first | apply Kd.R_alloc | apply Kd.R_drewN | apply Kd.R_drew)); exact HO_row40.out)).2.2) (by exact (Kd.R_reads' HO_row40.out).2.1) (by exact (Kd.R_reads' (by (with_reducible repeat (first | apply Kd.R_alloc | apply Kd.R_drewN | apply Kd.R_drew)); exact HO_row9.out)).2.2) (by exact (Kd.R_reads' HO_row9.out).2.1) Q42.out).mono ?_
  rintro e w15 ⟨rfl, hb⟩
  replace hb := hb.below
  have n0_ := Aside0.mk (Kd.S_below (by (with_reducible repeat (first | apply Kd.S_alloc | apply Kd.S_drewN | apply Kd.S_drew)); exact HO_row5.out) hb)
  have n1_ := Aside0.mk (Kd.R_below (by (with_reducible repeat (first | apply Kd.R_alloc | apply Kd.R_drewN | apply Kd.R_drew)); exact HO_row9.out) hb)
  have n2_ := Aside0.mk (Kd.S_below (by (with_reducible repeat (first | apply Kd.S_alloc | apply Kd.S_drewN | apply Kd.S_drew)); exact HO_row12.out) hb)
  have n3_ := Aside0.mk (Kd.R_below (by (with_reducible repeat (first | apply Kd.R_alloc | apply Kd.R_drewN | apply Kd.R_drew)); exact HO_row16.out) hb)
  have n4_ := Aside0.mk (Kd.S_below (by (with_reducible repeat (first | apply Kd.S_alloc | apply Kd.S_drewN | apply Kd.S_drew)); exact HO_row21.out) hb)
  have n5_ := Aside0.mk (Kd.S_below (by (with_reducible repeat (first | apply Kd.S_alloc | apply Kd.S_drewN | apply Kd.S_drew)); exact HO_row36.out) hb)
  have n6_ := Aside0.mk (Kd.R_below (by (with_reducible repeat (first | apply Kd.R_alloc | apply Kd.R_drewN | apply Kd.R_drew)); exact HO_row40.out) hb)
  have n7_ := Aside0.mk (Nat.le_trans (by repeat (first | (with_reducible first | exact HS.out | apply sz_alloc | apply sz_drewN | apply sz_drew) | exact HS.out)) hb.size)
  have n8_ := Aside0.mk (below_step (by repeat (first | (with_reducible first | exact HB.out | apply below_alloc | apply pw_below_drewN | apply below_drew1) | exact HB.out)) hb)
  clear HB HS HO_row5 HO_row9 HO_row12 HO_row16 HO_row21 HO_row36 HO_row40 hb
  have HO_row5 := n0_
  have HO_row9 := n1_
  have HO_row12 := n2_
  have HO_row16 := n3_
  have HO_row21 := n4_
  have HO_row36 := n5_
  have HO_row40 := n6_
  have HS := n7_
  have HB := n8_
  clear n0_ n1_ n2_ n3_ n4_ n5_ n6_ n7_ n8_
  go_wp2_with fail
  refine calls_of_args (args' := #[.slice _ t30.length _, _]) (by rw [← LN_row16.out]) ?_
  refine (laws_heldInt64S.calls k _ _ t30 1 t43 _ (by exact (Kd.R_reads' (by (with_reducible repeat (first | apply Kd.R_alloc | apply Kd.R_drewN | apply Kd.R_drew)); exact HO_row16.out)).2.2) (by rw [← LN_row16.out]; exact (Kd.R_reads' HO_row16.out).2.1) Q44.out).mono ?_
  rintro e w16 ⟨rfl, hb⟩
  replace hb := hb.below
  have n0_ := Aside0.mk (Kd.S_below (by (with_reducible repeat (first | apply Kd.S_alloc | apply Kd.S_drewN | apply Kd.S_drew)); exact HO_row5.out) hb)
  have n1_ := Aside0.mk (Kd.R_below (by (with_reducible repeat (first | apply Kd.R_alloc | apply Kd.R_drewN | apply Kd.R_drew)); exact HO_row9.out) hb)
  have n2_ := Aside0.mk (Kd.S_below (by (with_reducible repeat (first | apply Kd.S_alloc | apply Kd.S_drewN | apply Kd.S_drew)); exact HO_row12.out) hb)
  have n3_ := Aside0.mk (Kd.R_below (by (with_reducible repeat (first | apply Kd.R_alloc | apply Kd.R_drewN | apply Kd.R_drew)); exact HO_row16.out) hb)
  have n4_ := Aside0.mk (Kd.S_below (by (with_reducible repeat (first | apply Kd.S_alloc | apply Kd.S_drewN | apply Kd.S_drew)); exact HO_row21.out) hb)
  have n5_ := Aside0.mk (Kd.S_below (by (with_reducible repeat (first | apply Kd.S_alloc | apply Kd.S_drewN | apply Kd.S_drew)); exact HO_row36.out) hb)
  have n6_ := Aside0.mk (Kd.R_below (by (with_reducible repeat (first | apply Kd.R_alloc | apply Kd.R_drewN | apply Kd.R_drew)); exact HO_row40.out) hb)
  have n7_ := Aside0.mk (Nat.le_trans (by repeat (first | (with_reducible first | exact HS.out | apply sz_alloc | apply sz_drewN | apply sz_drew) | exact HS.out)) hb.size)
  have n8_ := Aside0.mk (below_step (by repeat (first | (with_reducible first | exact HB.out | apply below_alloc | apply pw_below_drewN | apply below_drew1) | exact HB.out)) hb)
  clear HB HS HO_row5 HO_row9 HO_row12 HO_row16 HO_row21 HO_row36 HO_row40 hb
  have HO_row5 := n0_
  have HO_row9 := n1_
  have HO_row12 := n2_
  have HO_row16 := n3_
  have HO_row21 := n4_
  have HO_row36 := n5_
  have HO_row40 := n6_
  have HS := n7_
  have HB := n8_
  clear n0_ n1_ n2_ n3_ n4_ n5_ n6_ n7_ n8_
  go_wp2_with fail
  go_ret
  exact ⟨rfl, (by repeat (first | (with_reducible first | exact HB.out | apply below_alloc | apply pw_below_drewN | apply below_drew1) | exact HB.out))⟩
theorem laws_FnExactHeadsOf.calls (k : Nat) (A0 : Option Addr) (c0 : Nat) (l0 : List S87) (r : Bool) (w : World) (hr0 : Kd.C k87 w A0 l0.length l0) (hc0 : l0.length ≤ c0) (h : laws_FnExactHeadsOf.f k l0 = some r) :
    Calls Try.prog 9 #[.slice A0 l0.length c0] w fun e w' => e = .returned (.bool r) ∧ Below w.heap.size w w' := by
  unfold laws_FnExactHeadsOf.f at h
  obtain ⟨t1, Q2, h⟩ := Option.bind_eq_some_iff.mp h
  by_cases e1 : t1 < 0
  · rw [if_pos e1] at h; obtain rfl := Option.some.inj h; exact laws_FnExactHeadsOf.early0 k A0 c0 l0 w hr0 hc0 t1 ⟨Q2⟩ e1
  rw [if_neg e1] at h
  unfold laws_FnExactHeadsOf.g at h
  obtain ⟨t3, Q4, h⟩ := Option.bind_eq_some_iff.mp h
  obtain ⟨⟨t6, t7⟩, Q8, h⟩ := Option.bind_eq_some_iff.mp h
  dsimp only at h
  obtain ⟨t10, Q11, h⟩ := Option.bind_eq_some_iff.mp h
  obtain ⟨⟨t13, t14⟩, Q15, h⟩ := Option.bind_eq_some_iff.mp h
  dsimp only at h
  by_cases Q18 : laws_eqInt64S.f k t13 t6 = some true
  rotate_left
  · rw [if_neg Q18] at h; exact absurd h (by simp)
  rw [if_pos Q18] at h
  by_cases e7 : t14 = t7
  rotate_left
  · rw [if_neg e7] at h; exact absurd h (by simp)
  rw [if_pos e7] at h
  obtain ⟨t19, Q20, h⟩ := Option.bind_eq_some_iff.mp h
  by_cases Q23 : laws_eqVersionS.f k t10 t19 = some true
  rotate_left
  · rw [if_neg Q23] at h; exact absurd h (by simp)
  rw [if_pos Q23] at h
  obtain ⟨⟨t24, t25⟩, Q26, h⟩ := Option.bind_eq_some_iff.mp h
  dsimp only at h
  by_cases e11 : t24 < 0
  · rw [if_pos e11] at h; exact absurd h (by simp)
  rw [if_neg e11] at h
  by_cases Q28 : laws_eqInt64S.f k t13 t6 = some true
  rotate_left
  · rw [if_neg Q28] at h; exact absurd h (by simp)
  rw [if_pos Q28] at h
  by_cases e13 : t14 = t7
  rotate_left
  · rw [if_neg e13] at h; exact absurd h (by simp)
  rw [if_pos e13] at h
  obtain ⟨⟨t29, t30⟩, Q31, h⟩ := Option.bind_eq_some_iff.mp h
  dsimp only at h
  obtain ⟨t32, Q33, h⟩ := Option.bind_eq_some_iff.mp h
  by_cases e16 : t32 < 0
  · rw [if_pos e16] at h; exact absurd h (by simp)
  rw [if_neg e16] at h
  by_cases e17 : t32 = t29
  rotate_left
  · rw [if_neg e17] at h; exact absurd h (by simp)
  rw [if_pos e17] at h
  obtain ⟨t34, Q35, h⟩ := Option.bind_eq_some_iff.mp h
  obtain ⟨⟨t37, t38⟩, Q39, h⟩ := Option.bind_eq_some_iff.mp h
  dsimp only at h
  by_cases Q42 : laws_eqInt64S.f k t37 t6 = some true
  rotate_left
  · rw [if_neg Q42] at h; exact absurd h (by simp)
  rw [if_pos Q42] at h
  by_cases e21 : t38 = t7
  rotate_left
  · rw [if_neg e21] at h; exact absurd h (by simp)
  rw [if_pos e21] at h
  obtain ⟨t43, Q44, h⟩ := Option.bind_eq_some_iff.mp h
  by_cases e23 : t43 < 0
  · rw [if_pos e23] at h; exact absurd h (by simp)
  rw [if_neg e23] at h
  by_cases e24 : t43 = t29
  rotate_left
  · rw [if_neg e24] at h; exact absurd h (by simp)
  rw [if_pos e24] at h
  obtain rfl := Option.some.inj h
  exact laws_FnExactHeadsOf.main k A0 c0 l0 w hr0 hc0 t1 t3 t6 t7 t10 t13 t14 t19 t24 t25 t29 t30 t32 t34 t37 t38 t43 ⟨Q2⟩ e1 ⟨Q4⟩ ⟨Q8⟩ ⟨Q11⟩ ⟨Q15⟩ ⟨Q18⟩ e7 ⟨Q20⟩ ⟨Q23⟩ ⟨Q26⟩ e11 ⟨Q28⟩ e13 ⟨Q31⟩ ⟨Q33⟩ e16 e17 ⟨Q35⟩ ⟨Q39⟩ ⟨Q42⟩ e21 ⟨Q44⟩ e23 e24

end Go.Proofs.Ytemafjbbopdheaa.P

/- What an argument reads as: from the claim's own reading of data to the kinds of the walks. Types of whole numbers, bools, strings, slices and structs of these. -/
namespace Go.Proofs.YtemafjbbopdheaaO
open Go.RowKit Go.WideShapes Go.Proofs.YtemafjbbopdheaaW.PrintWords

theorem addr_add_add (a : Addr) (m i : Nat) : (a.add m).add i = a.add (m + i) := by
  unfold Addr.add
  by_cases h1 : m = 0
  · subst h1; simp
  · by_cases h2 : i = 0
    · subst h2; simp [h1]
    · have h3 : ¬ (m + i = 0) := by omega
      simp [h1, h2, Nat.add_assoc]

/-- Whatever the claim reads at this type is a value of this kind, of which G holds. -/
def Opens {α : Type} (P : Program) (t : TypeId) (d : Kd α) (G : α → Prop) : Prop :=
  ∀ (H : Type) (enc : TypeId × Value → H) (w : World) (base : Nat) (spare : Nat → Bool) (held : Bool) (fuel : Nat) (cs : List Value) (x : DataW H × List MemPlace),
    DataW.trod enc P w base spare held fuel t cs = some x → ∃ a : α, d.K w a cs ∧ G a

section
variable {α β : Type} {P : Program} {t e : TypeId} {d : Kd α} {G : α → Prop}

theorem opens_int {k : IntKind} (ht : P.underlying t = some (.int k)) : Opens P t (Kd.int k) (fun n => (Lit.int k n).wf = true) := by
  intro H enc w base spare held fuel cs x h
  obtain ⟨n, rfl, _, hw⟩ := DataW.trod_int ht h
  exact ⟨n, rfl, hw⟩
theorem opens_bool (ht : P.underlying t = some .bool) : Opens P t Kd.bool (fun _ => True) := by
  intro H enc w base spare held fuel cs x h
  obtain ⟨n, rfl, _⟩ := DataW.trod_bool ht h
  exact ⟨n, rfl, trivial⟩
theorem opens_string (ht : P.underlying t = some .string) : Opens P t Kd.string (fun s => s.size ≤ maxLen) := by
  intro H enc w base spare held fuel cs x h
  obtain ⟨n, rfl, _, hs⟩ := DataW.trod_string ht h
  exact ⟨n, rfl, hs⟩

theorem list_of_each {p : Nat → α → Prop} : ∀ n : Nat, (∀ i, i < n → ∃ a, p i a) → ∃ l : List α, l.length = n ∧ ∀ i a, l[i]? = some a → p i a
  | 0, _ => ⟨[], rfl, fun i a h => by simp at h⟩
  | n + 1, h => by
    obtain ⟨l, hl, hp⟩ := list_of_each n (fun i hi => h i (by omega))
    obtain ⟨a, ha⟩ := h n (by omega)
    refine ⟨l ++ [a], by simp [hl], fun i b hb => ?_⟩
    by_cases hi : i < l.length
    · rw [List.getElem?_append_left hi] at hb
      exact hp i b hb
    · rw [List.getElem?_append_right (by omega)] at hb
      have h0 : i - l.length = 0 := by
        have := (List.getElem?_eq_some_iff.1 hb).1
        simp at this
        omega
      rw [h0] at hb
      have hi2 : i = n := by omega
      subst hi2
      simp at hb
      subst hb
      exact ha

theorem opens_slice (ht : P.underlying t = some (.slice e)) (hc : P.cellsOf e = d.sz) (hd : Opens P e d G) : Opens P t (Kd.slice e d) (fun l => l.length ≤ maxLen ∧ ∀ x ∈ l, G x) := by
  intro H enc w base spare held fuel cs x h
  rcases DataW.trod_slice ht h with ⟨rfl, _⟩ | ⟨a, len, cap, elems, rest, n, _, rfl, _, hb, hl, hm, hlen, hel, _, _⟩
  · exact ⟨[], ⟨none, 0, rfl, Nat.le_refl _, rfl, by simp, fun hp => by simp at hp⟩, by simp, by simp⟩
  · have each : ∀ i, i < len → ∃ x : α, G x ∧ ∃ c, c.length = d.sz ∧ d.K w x c ∧ ∀ j u, c[j]? = some u → w.cell? (a.add (i * d.sz + j)) = some u := by
      intro i hi
      have h1 := hel i hi
      have h2 : ∃ y, elems[i]? = some y := ⟨elems[i]'(by omega), List.getElem?_eq_getElem (by omega)⟩
      obtain ⟨y, hy⟩ := h2
      rw [hy, Option.bind_eq_some_iff] at h1
      obtain ⟨c, hcs, hy'⟩ := h1
      obtain ⟨x, hK, hG⟩ := hd H enc w base spare held n c y hy'
      refine ⟨x, hG, c, d.K_len hK, hK, fun j u hu => ?_⟩
      have hx := World.cells?_some hcs
      have hj : j < P.cellsOf e := by
        have := (List.getElem?_eq_some_iff.1 hu).1
        have := hx.2.1
        omega
      have hz := hx.2.2 j hj
      rw [addr_add_add, hc, hu] at hz
      exact hz
    obtain ⟨l, hll, hp⟩ := list_of_each len each
    refine ⟨l, ⟨some a, cap, by rw [hll], by omega, rfl, by simp only [maxLen] at hm; omega, fun _ => ⟨a, rfl, fun j p hj => ?_⟩⟩, by simp only [maxLen] at hm ⊢; omega, fun x hx => ?_⟩
    · exact (hp j p hj).2
    · obtain ⟨i, hi, hi2⟩ := List.getElem_of_mem hx
      exact (hp i x (by rw [List.getElem?_eq_getElem hi, hi2])).1

def OpensFs {α : Type} (P : Program) (fs : List Field) (o : Nat) (d : Kd α) (G : α → Prop) : Prop :=
  ∀ (H : Type) (enc : TypeId × Value → H) (w : World) (base : Nat) (spare : Nat → Bool) (held : Bool) (fuel : Nat) (cs : List Value),
    cs.length = o + d.sz → (∀ (i : Nat) (f : Field), fs[i]? = some f → ∃ x, DataW.trod enc P w base spare held fuel f.type ((cs.drop f.offset).take (P.cellsOf f.type)) = some x) → ∃ a : α, d.K w a (cs.drop o) ∧ G a
theorem opensFs_last {f : Field} {o : Nat} (ho : f.offset = o) (hc : P.cellsOf f.type = d.sz) (h : Opens P f.type d G) : OpensFs P [f] o d G := by
  intro H enc w base spare held fuel cs hl hx
  obtain ⟨x, hx⟩ := hx 0 f rfl
  rw [ho, hc, List.take_of_length_le (by rw [List.length_drop]; omega)] at hx
  exact h H enc w base spare held fuel _ x hx
theorem opensFs_cons {f : Field} {fs : List Field} {o : Nat} {d2 : Kd β} {G2 : β → Prop} (ho : f.offset = o) (hc : P.cellsOf f.type = d.sz) (h : Opens P f.type d G) (h2 : OpensFs P fs (o + d.sz) d2 G2) :
    OpensFs P (f :: fs) o (Kd.pair d d2) (fun x => G x.1 ∧ G2 x.2) := by
  intro H enc w base spare held fuel cs hl hx
  have hl' : cs.length = o + (d.sz + d2.sz) := hl
  obtain ⟨x, hx0⟩ := hx 0 f rfl
  rw [ho, hc] at hx0
  obtain ⟨a, hK, hG⟩ := h H enc w base spare held fuel _ x hx0
  obtain ⟨b, hK2, hG2⟩ := h2 H enc w base spare held fuel cs (by omega) (fun i f2 hf => hx (i + 1) f2 (by simpa using hf))
  refine ⟨(a, b), ⟨_, _, ?_, hK, hK2⟩, hG, hG2⟩
  rw [← List.drop_drop]
  exact (List.take_append_drop d.sz (cs.drop o)).symm
theorem opens_struct {fs : Array Field} (ht : P.underlying t = some (.struct fs)) (hc : P.cellsOf t = d.sz) (h : OpensFs P fs.toList 0 d G) : Opens P t d G := by
  intro H enc w base spare held fuel cs x hx
  obtain ⟨xs, n, _, _, hl, hxl, hf⟩ := DataW.trod_struct ht hx
  have := h H enc w base spare held n cs (by omega) (fun i f hif => by
    have hif' : fs[i]? = some f := by simpa using hif
    have hi : i < xs.length := by
      rw [hxl]
      exact (Array.getElem?_eq_some_iff.1 hif').1
    exact ⟨xs[i], by rw [hf i f hif', List.getElem?_eq_getElem hi]⟩)
  simpa using this
theorem opens_iso (f : β → α) (g : α → β) (hfg : ∀ a, f (g a) = a) (h : Opens P t d G) : Opens P t (Kd.iso d f) (fun b => G (f b)) := by
  intro H enc w base spare held fuel cs x hx
  obtain ⟨a, hK, hG⟩ := h H enc w base spare held fuel cs x hx
  exact ⟨g a, by show d.K w (f (g a)) cs; rw [hfg]; exact hK, by show G (f (g a)); rw [hfg]; exact hG⟩
theorem opens_imp {G' : α → Prop} (h : Opens P t d G) (hG : ∀ a, G a → G' a) : Opens P t d G' := by
  intro H enc w base spare held fuel cs x hx
  obtain ⟨a, hK, hg⟩ := h H enc w base spare held fuel cs x hx
  exact ⟨a, hK, hG a hg⟩
end
end Go.Proofs.YtemafjbbopdheaaO

/- What the arguments of the laws read as: struct by struct. -/
namespace Go.Proofs.Ytemafjbbopdheaa
open Go.RowKit Go.Proofs.YtemafjbbopdheaaO Go.Proofs.YtemafjbbopdheaaW.PrintWords
def g80 (x : P.S80) : Prop := x.f0.size ≤ maxLen ∧ (Lit.int .i64 x.f1).wf = true
theorem open80 : Opens Try.prog 80 P.k80 g80 :=
  opens_iso (fun x : P.S80 => (x.f0, x.f1)) (fun a => ⟨a.1, a.2⟩) (fun _ => rfl) (opens_struct Try.underlying80 (by kernel_rfl) (opensFs_cons (by rfl) (by kernel_rfl) (opens_string Try.underlying9) (opensFs_last (by rfl) (by kernel_rfl) (opens_int Try.underlying2))))
def g87 (x : P.S87) : Prop := (Lit.int .i64 x.f0).wf = true ∧ (Lit.int .i64 x.f1).wf = true ∧ x.f2.size ≤ maxLen ∧ (x.f3.length ≤ maxLen ∧ ∀ y ∈ x.f3, g80 y)
theorem open87 : Opens Try.prog 87 P.k87 g87 :=
  opens_iso (fun x : P.S87 => (x.f0, x.f1, x.f2, x.f3)) (fun a => ⟨a.1, a.2.1, a.2.2.1, a.2.2.2⟩) (fun _ => rfl) (opens_struct Try.underlying87 (by kernel_rfl) (opensFs_cons (by rfl) (by kernel_rfl) (opens_int Try.underlying2) (opensFs_cons (by rfl) (by kernel_rfl) (opens_int Try.underlying2) (opensFs_cons (by rfl) (by kernel_rfl) (opens_string Try.underlying9) (opensFs_last (by rfl) (by kernel_rfl) (opens_slice Try.underlying22 (by kernel_rfl) open80))))))
def g110 (x : P.S110) : Prop := (Lit.int .i64 x.f0).wf = true ∧ g80 x.f1
theorem open110 : Opens Try.prog 110 P.k110 g110 :=
  opens_iso (fun x : P.S110 => (x.f0, x.f1)) (fun a => ⟨a.1, a.2⟩) (fun _ => rfl) (opens_struct Try.underlying110 (by kernel_rfl) (opensFs_cons (by rfl) (by kernel_rfl) (opens_int Try.underlying2) (opensFs_last (by rfl) (by kernel_rfl) open80)))
end Go.Proofs.Ytemafjbbopdheaa

/- Plain lemmas: loops over lists as the print writes them. No program in sight. -/
namespace Go.Proofs.YtemafjbbopdheaaL
open Go.RowKit Go.Proofs.YtemafjbbopdheaaW.PrintWords

theorem wrap_id {x : Int} (h0 : -9223372036854775808 ≤ x) (h1 : x ≤ 9223372036854775807) : wrap64 x = x := by unfold wrap64; omega
theorem wrap_succ {i n : Nat} (h : i < n) (hn : n ≤ 4611686018427387904) : wrap64 ((i : Int) + 1) = ((i + 1 : Nat) : Int) := by
  rw [wrap_id (by omega) (by omega)]; omega
theorem lt_cast {i n : Nat} (h : i < n) : (i : Int) < (n : Int) := by omega
theorem nn_cast (i : Nat) : 0 ≤ (i : Int) := by omega
theorem nlt_cast (n : Nat) : ¬ ((n : Int) < (n : Int)) := by omega
theorem drop_cons {α : Type} {l : List α} {i : Nat} (h : i < l.length) : l.drop i = l[i] :: l.drop (i + 1) := List.drop_eq_getElem_cons h

/-- A loop over a list: at each element it answers, or it goes on behind it. G: what it answers from a rest on. -/
theorem list_loop {α σ ρ : Type} (L : Nat → σ → Int → Option ρ) (l : List α) (G : List α → σ → ρ) (Inv : Nat → σ → Prop) (B : Nat)
    (step : ∀ (k i : Nat) (hi : i < l.length) (s : σ), Inv i s → B ≤ k →
      L (k + 1) s (i : Int) = some (G (l[i] :: l.drop (i + 1)) s) ∨ ∃ s', Inv (i + 1) s' ∧ G (l[i] :: l.drop (i + 1)) s = G (l.drop (i + 1)) s' ∧ L (k + 1) s (i : Int) = L k s' ((i + 1 : Nat) : Int))
    (stop : ∀ (k : Nat) (s : σ), Inv l.length s → L (k + 1) s (l.length : Int) = some (G [] s)) :
    ∀ (k : Nat) (s : σ), B + l.length < k → Inv 0 s → L k s 0 = some (G l s) := by
  have main : ∀ (d k i : Nat) (s : σ), i + d = l.length → B + d < k → Inv i s → L k s (i : Int) = some (G (l.drop i) s) := by
    intro d
    induction d with
    | zero =>
      intro k i s hi hk hI
      obtain ⟨k, rfl⟩ : ∃ m, k = m + 1 := ⟨k - 1, by omega⟩
      have : i = l.length := by omega
      subst this
      rw [stop k s hI, List.drop_length]
    | succ d ih =>
      intro k i s hi hk hI
      obtain ⟨k, rfl⟩ : ∃ m, k = m + 1 := ⟨k - 1, by omega⟩
      have hlt : i < l.length := by omega
      rw [drop_cons hlt]
      rcases step k i hlt s hI (by omega) with h | ⟨s', hI', hG, hL⟩
      · exact h
      · rw [hL, hG]
        exact ih k (i + 1) s' (by omega) (by omega) hI'
  intro k s hk hI
  have := main l.length k 0 s (by omega) hk hI
  simpa using this

/-- The same without a state. -/
theorem list_loop0 {α ρ : Type} (L : Nat → Int → Option ρ) (l : List α) (G : List α → ρ) (B : Nat)
    (step : ∀ (k i : Nat) (hi : i < l.length), B ≤ k →
      L (k + 1) (i : Int) = some (G (l[i] :: l.drop (i + 1))) ∨ (G (l[i] :: l.drop (i + 1)) = G (l.drop (i + 1)) ∧ L (k + 1) (i : Int) = L k ((i + 1 : Nat) : Int)))
    (stop : ∀ (k : Nat), L (k + 1) (l.length : Int) = some (G [])) :
    ∀ (k : Nat), B + l.length < k → L k 0 = some (G l) := by
  intro k hk
  exact list_loop (σ := Unit) (fun k _ i => L k i) l (fun l _ => G l) (fun _ _ => True) B (fun k i hi s _ hB => by
    rcases step k i hi hB with h | ⟨h1, h2⟩
    · exact .inl h
    · exact .inr ⟨(), trivial, h1, h2⟩) (fun k _ _ => stop k) k () hk trivial

/-- A loop that fills a list that was made, place by place. -/
theorem set_loop {α β : Type} (L : Nat → List β → Int → Option (List β)) (l : List α) (g : α → β) (B : Nat)
    (step : ∀ (k i : Nat) (hi : i < l.length) (acc : List β), acc.length = l.length → B ≤ k → L (k + 1) acc (i : Int) = L k (acc.set i (g l[i])) ((i + 1 : Nat) : Int))
    (stop : ∀ (k : Nat) (acc : List β), L (k + 1) acc (l.length : Int) = some acc) :
    ∀ (k : Nat) (acc : List β), B + l.length < k → acc.length = l.length → L k acc 0 = some (l.map g) := by
  have main : ∀ (d k i : Nat) (acc : List β), i + d = l.length → B + d < k → acc.length = l.length → L k acc (i : Int) = some (acc.take i ++ (l.drop i).map g) := by
    intro d
    induction d with
    | zero =>
      intro k i acc hi hk ha
      obtain ⟨k, rfl⟩ : ∃ m, k = m + 1 := ⟨k - 1, by omega⟩
      have : i = l.length := by omega
      subst this
      rw [stop k acc, List.drop_length, List.take_of_length_le (by omega)]
      simp
    | succ d ih =>
      intro k i acc hi hk ha
      obtain ⟨k, rfl⟩ : ∃ m, k = m + 1 := ⟨k - 1, by omega⟩
      have hlt : i < l.length := by omega
      rw [step k i hlt acc ha (by omega), ih k (i + 1) _ (by omega) (by omega) (by simpa using ha), drop_cons hlt]
      have h2 : (acc.set i (g l[i])).take (i + 1) = acc.take i ++ [g l[i]] := by
        rw [List.take_succ_eq_append_getElem (by simp; omega)]
        have h3 : (acc.set i (g l[i])).take i = acc.take i := by
          apply List.ext_getElem
          · simp
          · intro j h1 h2
            simp at h1
            simp [List.getElem_set_ne (show i ≠ j by omega)]
        rw [h3]
        simp
      rw [h2]
      simp only [List.append_assoc, List.singleton_append, List.map_cons]
  intro k acc hk ha
  have := main l.length k 0 acc (by omega) hk ha
  simpa using this

/-- A loop that compares two lists of one length, place by place. -/
theorem eq_loop {α : Type} [DecidableEq α] (L : Nat → Int → Option Bool) (a b : List α) (hab : a.length = b.length) (B : Nat)
    (step : ∀ (k i : Nat) (h : i < a.length) (h2 : i < b.length), B ≤ k → L (k + 1) (i : Int) = if a[i] = b[i] then L k ((i + 1 : Nat) : Int) else some false)
    (stop : ∀ (k : Nat), L (k + 1) (a.length : Int) = some true) :
    ∀ (k : Nat), B + a.length < k → L k 0 = some (decide (a = b)) := by
  have main : ∀ (d k i : Nat), i + d = a.length → B + d < k → L k (i : Int) = some (decide (a.drop i = b.drop i)) := by
    intro d
    induction d with
    | zero =>
      intro k i hi hk
      obtain ⟨k, rfl⟩ : ∃ m, k = m + 1 := ⟨k - 1, by omega⟩
      obtain rfl : i = a.length := by omega
      rw [stop k, List.drop_length, hab, List.drop_length]
      rfl
    | succ d ih =>
      intro k i hi hk
      obtain ⟨k, rfl⟩ : ∃ m, k = m + 1 := ⟨k - 1, by omega⟩
      have h1 : i < a.length := by omega
      have h2 : i < b.length := by omega
      rw [step k i h1 h2 (by omega), ih k (i + 1) (by omega) (by omega)]
      rw [show (decide (a.drop i = b.drop i)) = decide (a[i] = b[i] ∧ a.drop (i + 1) = b.drop (i + 1)) from by
        congr 1; rw [drop_cons h1, drop_cons h2, List.cons.injEq]]
      by_cases e : a[i] = b[i]
      · rw [if_pos e]; simp [e]
      · rw [if_neg e]; simp [e]
  intro k hk
  have := main a.length k 0 (by omega) hk
  simpa using this

/-- A loop that asks each index below n and stops at the first that says no. -/
theorem all_loop (L : Nat → Int → Option Bool) (n : Nat) (p : Nat → Bool) (fin : Bool) (B : Nat)
    (step : ∀ (k i : Nat), i < n → B ≤ k → L (k + 1) (i : Int) = if p i = true then L k ((i + 1 : Nat) : Int) else some false)
    (stop : ∀ (k : Nat), B ≤ k → L (k + 1) (n : Int) = some fin) :
    ∀ (k : Nat), B + n < k → L k 0 = some ((List.range n).all p && fin) := by
  have main : ∀ (d k i : Nat), i + d = n → B + d < k → L k (i : Int) = some ((List.range' i d).all p && fin) := by
    intro d
    induction d with
    | zero =>
      intro k i hi hk
      obtain ⟨k, rfl⟩ : ∃ m, k = m + 1 := ⟨k - 1, by omega⟩
      obtain rfl : i = n := by omega
      rw [stop k (by omega)]; simp
    | succ d ih =>
      intro k i hi hk
      obtain ⟨k, rfl⟩ : ∃ m, k = m + 1 := ⟨k - 1, by omega⟩
      rw [step k i (by omega) (by omega), List.range'_succ, List.all_cons]
      by_cases h : p i = true
      · rw [if_pos h, ih k (i + 1) (by omega) (by omega), h]; simp
      · rw [if_neg h]; simp [h]
  intro k hk
  have := main n k 0 (by omega) hk
  rw [List.range_eq_range']
  exact this

theorem pred_cast {i n : Nat} (h0 : 0 < i) (h : i < n) (hn : n ≤ 4611686018427387904) : wrap64 ((i : Int) - 1) = ((i - 1 : Nat) : Int) := by
  rw [wrap_id (by omega) (by omega)]; omega

theorem rd_get {l : List Int} {i : Nat} (h : i < l.length) : rd l (i : Int) = l[i] := by
  simp [rd, List.getD_eq_getElem?_getD, List.getElem?_eq_getElem h]
theorem rdOf_get {α : Type} {z : α} {l : List α} {i : Nat} (h : i < l.length) : rdOf z l (i : Int) = l[i] := by
  simp [rdOf, List.getD_eq_getElem?_getD, List.getElem?_eq_getElem h]

/-- A list marked with rising numbers from m on (each element takes c x of them), and the number behind. -/
def mkl {α : Type} (g : α → Int → α) (c : α → Int) : List α → Int → List α
  | [], _ => []
  | x :: r, m => g x m :: mkl g c r (m + c x)
def mtot {α : Type} (c : α → Int) : List α → Int → Int
  | [], m => m
  | x :: r, m => mtot c r (m + c x)
theorem mtot_ge {α : Type} {c : α → Int} (hc : ∀ x, 0 ≤ c x) : ∀ (l : List α) (m : Int), m ≤ mtot c l m
  | [], m => by simp [mtot]
  | x :: r, m => by
    have := mtot_ge hc r (m + c x)
    have := hc x
    simp only [mtot]; omega
theorem mtot_const {α : Type} (n : Int) : ∀ (l : List α) (m : Int), mtot (fun _ => n) l m = m + n * l.length
  | [], m => by simp [mtot]
  | x :: r, m => by
    simp only [mtot, mtot_const n r, List.length_cons]
    rw [show ((r.length + 1 : Nat) : Int) = (r.length : Int) + 1 from by omega, Int.mul_add]
    omega
theorem mkl_length {α : Type} (g : α → Int → α) (c : α → Int) : ∀ (l : List α) (m : Int), (mkl g c l m).length = l.length
  | [], _ => rfl
  | x :: r, m => by simp [mkl, mkl_length g c r]
theorem mark_loop {α : Type} (L : Nat → List α → Int → Int → Option (Int × List α)) (g : α → Int → α) (c : α → Int) (M : Int) (B : Nat) (hc : ∀ x, 0 ≤ c x)
    (step : ∀ (k : Nat) (pre : List α) (x : α) (rest : List α) (m : Int), B ≤ k → pre.length < 4611686018427387904 → 0 ≤ m → m + c x ≤ M →
      L (k + 1) (pre ++ x :: rest) m (pre.length : Int) = L k (pre ++ g x m :: rest) (m + c x) ((pre.length + 1 : Nat) : Int))
    (stop : ∀ (k : Nat) (l : List α) (m : Int), L (k + 1) l m (l.length : Int) = some (m, l)) :
    ∀ (k : Nat) (l : List α) (m : Int), B + l.length < k → l.length ≤ 4611686018427387904 → 0 ≤ m → mtot c l m ≤ M → L k l m 0 = some (mtot c l m, mkl g c l m) := by
  have main : ∀ (rest : List α) (k : Nat) (pre : List α) (m : Int), B + rest.length < k → pre.length + rest.length ≤ 4611686018427387904 → 0 ≤ m → mtot c rest m ≤ M →
      L k (pre ++ rest) m (pre.length : Int) = some (mtot c rest m, pre ++ mkl g c rest m) := by
    intro rest
    induction rest with
    | nil =>
      intro k pre m hk _ _ _
      obtain ⟨k, rfl⟩ : ∃ m, k = m + 1 := ⟨k - 1, by omega⟩
      have := stop k pre m
      simpa [mtot, mkl] using this
    | cons x r ih =>
      intro k pre m hk hl hm hM
      obtain ⟨k, rfl⟩ : ∃ m, k = m + 1 := ⟨k - 1, by omega⟩
      simp only [List.length_cons] at hk hl
      have h1 := mtot_ge hc r (m + c x)
      have h2 := hc x
      simp only [mtot] at hM
      rw [step k pre x r m (by omega) (by omega) hm (by omega)]
      have h3 := ih k (pre ++ [g x m]) (m + c x) (by omega) (by simp; omega) (by omega) hM
      simpa [mtot, mkl, List.append_assoc] using h3
  intro k l m hk hl hm hM
  have := main l k [] m hk (by simpa using hl) hm hM
  simpa using this
theorem held_loop {α : Type} (L : Nat → Int → Int → Option Int) (g : α → Int → α) (c : α → Int) (M : Int) (B : Nat) (hc : ∀ x, 0 ≤ c x) (l' : List α)
    (step : ∀ (k : Nat) (pre : List α) (x : α) (rest : List α) (m : Int), l' = pre ++ g x m :: rest → B ≤ k → pre.length < 4611686018427387904 → 0 ≤ m → m + c x ≤ M →
      L (k + 1) m (pre.length : Int) = L k (m + c x) ((pre.length + 1 : Nat) : Int))
    (stop : ∀ (k : Nat) (m : Int), L (k + 1) m (l'.length : Int) = some m) :
    ∀ (k : Nat) (l : List α) (m : Int), l' = mkl g c l m → B + l.length < k → l.length ≤ 4611686018427387904 → 0 ≤ m → mtot c l m ≤ M → L k m 0 = some (mtot c l m) := by
  have main : ∀ (rest : List α) (k : Nat) (pre : List α) (m : Int), l' = pre ++ mkl g c rest m → B + rest.length < k → pre.length + rest.length ≤ 4611686018427387904 → 0 ≤ m → mtot c rest m ≤ M →
      L k m (pre.length : Int) = some (mtot c rest m) := by
    intro rest
    induction rest with
    | nil =>
      intro k pre m he hk _ _ _
      obtain ⟨k, rfl⟩ : ∃ m, k = m + 1 := ⟨k - 1, by omega⟩
      have := stop k m
      have e : l'.length = pre.length := by rw [he]; simp [mkl]
      rw [e] at this
      simpa [mtot] using this
    | cons x r ih =>
      intro k pre m he hk hl hm hM
      obtain ⟨k, rfl⟩ : ∃ m, k = m + 1 := ⟨k - 1, by omega⟩
      simp only [List.length_cons] at hk hl
      have h1 := mtot_ge hc r (m + c x)
      have h2 := hc x
      simp only [mtot] at hM
      rw [step k pre x (mkl g c r (m + c x)) m (by simpa [mkl] using he) (by omega) (by omega) hm (by omega)]
      have h3 := ih k (pre ++ [g x m]) (m + c x) (by simpa [mkl, List.append_assoc] using he) (by omega) (by simp; omega) (by omega) hM
      simpa [mtot] using h3
  intro k l m he hk hl hm hM
  have := main l k [] m (by simpa using he) hk (by simpa using hl) hm hM
  simpa using this
theorem rd_mid {pre rest : List Int} {x : Int} : rd (pre ++ x :: rest) (pre.length : Int) = x := by simp [rd]
theorem rdOf_mid {α : Type} {z : α} {pre rest : List α} {x : α} : rdOf z (pre ++ x :: rest) (pre.length : Int) = x := by simp [rdOf]
theorem set_mid {α : Type} {pre rest : List α} {x v : α} : (pre ++ x :: rest).set ((pre.length : Int)).toNat v = pre ++ v :: rest := by simp

theorem bytes_eq {a b : ByteArray} : a.toList = b.toList ↔ a = b := by
  constructor
  · intro h
    have h2 : a.data.toList = b.data.toList := by
      have e : ∀ x : ByteArray, x.toList = x.data.toList := ByteArray.toList_eq
      rw [← e, ← e]; exact h
    cases a; cases b
    simp at h2
    rw [h2]
  · intro h; rw [h]
end Go.Proofs.YtemafjbbopdheaaL

/- Names: the reference's and the program's test of a name answer the same. -/
namespace Go.Proofs.Ytemafjbbopdheaa.P
open Go.RowKit Go.Proofs.YtemafjbbopdheaaW.PrintWords Go.Proofs.YtemafjbbopdheaaL

def nameByte (c : Int) : Bool := (decide (97 ≤ c) && decide (c ≤ 122)) || (decide (48 ≤ c) && decide (c ≤ 57))
def nameB (s : ByteArray) : Bool := decide (1 ≤ s.size) && decide (s.size ≤ 10) && (decide (97 ≤ bt s 0) && decide (bt s 0 ≤ 122)) && (List.range s.size).all fun i => nameByte (bt s (i : Int))
theorem size_zero {s : ByteArray} : s.toList = ([] : List UInt8) ↔ s.size = 0 := by
  rw [ByteArray.toList_eq]
  constructor
  · intro h; have := congrArg List.length h; simpa using this
  · intro h
    apply List.eq_nil_of_length_eq_zero
    simpa using h
theorem l01Name_eq (s : ByteArray) {k : Nat} (hk : 20 ≤ k) : spec_l01Name.f k s = some (nameB s) := by
  obtain ⟨k, rfl⟩ : ∃ m, k = m + 1 := ⟨k - 1, by omega⟩
  unfold spec_l01Name.f nameB
  by_cases h0 : s.size = 0
  · rw [if_pos (size_zero.2 h0)]; simp [spec_l01Name.j0, h0]
  rw [if_neg (fun e => h0 (size_zero.1 e))]
  by_cases h1 : (s.size : Int) > 10
  · rw [if_pos h1]
    have : ¬ s.size ≤ 10 := by omega
    simp [spec_l01Name.j0, this]
  rw [if_neg h1, if_pos (by omega)]
  unfold spec_l01Small.f
  have h1' : s.size ≤ 10 := by omega
  have h0' : 1 ≤ s.size := by omega
  by_cases h2 : bt s 0 ≥ 97
  · rw [if_pos h2]; simp only [Option.bind_some, spec_l01Name.j0]
    by_cases h3 : bt s 0 ≤ 122
    · rw [if_neg (by simp [h3])]
      rw [all_loop (fun k i => spec_l01Name.l0 k s i) s.size (fun i => nameByte (bt s (i : Int))) true 1 (fun k i hi hB => ?_) (fun k _ => ?_) k (by omega)]
      · simp [h1', h0', h3, ge_iff_le.1 h2]
      · obtain ⟨k, rfl⟩ : ∃ m, k = m + 1 := ⟨k - 1, by omega⟩
        show spec_l01Name.l0 (k + 1 + 1) s (i : Int) = _
        rw [spec_l01Name.l0]
        rw [if_pos (by omega), if_pos (nn_cast i), wrap_succ hi (by omega)]
        unfold spec_l01Small.f spec_l01Digit.f nameByte
        by_cases e1 : bt s (i : Int) ≥ 97
        · rw [if_pos e1]
          by_cases e2 : bt s (i : Int) ≤ 122
          · simp [e2, ge_iff_le.1 e1]
          · have e3 : bt s (i : Int) ≥ 48 := by omega
            have e4 : ¬ bt s (i : Int) ≤ 57 := by omega
            simp [e2, e4, ge_iff_le.1 e3]
        · rw [if_neg e1]
          have e1' : ¬ 97 ≤ bt s (i : Int) := e1
          by_cases e2 : bt s (i : Int) ≥ 48
          · rw [if_pos e2]
            by_cases e3 : bt s (i : Int) ≤ 57
            · simp [e3, ge_iff_le.1 e2]
            · simp [e3, e1']
          · rw [if_neg e2]
            have e2' : ¬ 48 ≤ bt s (i : Int) := e2
            simp [e1', e2']
      · show spec_l01Name.l0 (_ + 1) s (s.size : Int) = _
        rw [spec_l01Name.l0, if_neg (nlt_cast _)]
    · rw [if_pos (by simp [h3])]; simp [h3]
  · rw [if_neg h2]; simp only [Option.bind_some, spec_l01Name.j0]
    have h2' : ¬ 97 ≤ bt s 0 := h2
    rw [if_pos (by rfl)]; simp [h2']

theorem IsName_eq (s : ByteArray) {k : Nat} (hk : 20 ≤ k) : impl_IsName.f k s = some (nameB s) := by
  unfold impl_IsName.f nameB
  by_cases h0 : (s.size : Int) < 1
  · rw [if_pos h0]
    have : ¬ 1 ≤ s.size := by omega
    simp [this]
  rw [if_neg h0]
  by_cases h1 : (s.size : Int) > 10
  · rw [if_pos h1]
    have : ¬ s.size ≤ 10 := by omega
    simp [this]
  rw [if_neg h1, if_pos (by omega)]
  have h1' : s.size ≤ 10 := by omega
  have h0' : 1 ≤ s.size := by omega
  by_cases h2 : bt s 0 < 97
  · rw [if_pos h2]
    have h2' : ¬ 97 ≤ bt s 0 := by omega
    simp [h2']
  rw [if_neg h2]
  by_cases h3 : bt s 0 > 122
  · rw [if_pos h3]
    have h3' : ¬ bt s 0 ≤ 122 := by omega
    simp [h3']
  rw [if_neg h3]
  have h2' : 97 ≤ bt s 0 := by omega
  have h3' : bt s 0 ≤ 122 := by omega
  unfold impl_onlyNameBytes.f
  rw [all_loop (fun k i => impl_onlyNameBytes.l0 k s (s.size : Int) i) s.size (fun i => nameByte (bt s (i : Int))) true 0 (fun k i hi hB => ?_) (fun k _ => ?_) k (by omega)]
  · simp [h1', h0', h3', h2']
  · show impl_onlyNameBytes.l0 (k + 1) s (s.size : Int) (i : Int) = _
    rw [impl_onlyNameBytes.l0]
    rw [if_pos (lt_cast hi), if_pos (nn_cast i), if_pos (lt_cast hi), wrap_succ hi (by omega)]
    unfold nameByte
    repeat' split
    all_goals first | rfl | (exfalso; simp_all; done) | (exfalso; simp_all; omega)
  · show impl_onlyNameBytes.l0 (k + 1) s (s.size : Int) (s.size : Int) = _
    rw [impl_onlyNameBytes.l0, if_neg (nlt_cast _)]

theorem in_eq (a b c : Int) : spec_l00In.f a b c = some (decide (b ≤ a) && decide (a ≤ c)) := by
  unfold spec_l00In.f
  by_cases h : a ≥ b
  · rw [if_pos h]; simp [ge_iff_le.1 h]
  · rw [if_neg h]
    have h' : ¬ b ≤ a := h
    simp [h']
theorem within_eq (a b c : Int) : impl_within.f a b c = some (decide (b ≤ a) && decide (a ≤ c)) := by
  unfold impl_within.f
  by_cases h : a ≥ b
  · rw [if_pos h]; simp [ge_iff_le.1 h]
  · rw [if_neg h]
    have h' : ¬ b ≤ a := h
    simp [h']
end Go.Proofs.Ytemafjbbopdheaa.P

/- laws_heldSettingS: what it answers, and that the machine's call comes to it. -/
namespace Go.Proofs.Ytemafjbbopdheaa.P
open Go.RowKit Go.Proofs.YtemafjbbopdheaaW.PrintWords Go.Proofs.YtemafjbbopdheaaW.PrintLast Go.Proofs.YtemafjbbopdheaaW.PrintMore
attribute [local go_sem] max2_int min2_int max_two min_two max_three min_three max_four min_four str_leq str_gtr str_geq
set_option linter.unusedVariables false
set_option linter.unusedSimpArgs false

/-! ### laws_heldSettingS: function 53 -/
def laws_heldSettingS.l0 : Nat → List (S81) → Int → Int → Option (Int)
  | 0, _, _, _ => none
  | k + 1, x0, x1, x5 => if x5 < (x0.length : Int) then (if 0 ≤ x5 then ((laws_markText.f k x1).bind fun t102 => (if ((rd_T81 x0 x5).f0).toList = t102.toList then (if ((rd_T81 x0 x5).f1) = (wrap64 (x1 + 1)) then (laws_heldSettingS.l0 k x0 (wrap64 ((wrap64 (x1 + 1)) + 1)) (wrap64 (x5 + 1))) else (some (-1))) else (some (-1)))) else (none)) else (some x1)
def laws_heldSettingS.f (k : Nat) (l0 : List (S81)) (a1 : Int) : Option (Int) := laws_heldSettingS.l0 k l0 a1 0
theorem laws_heldSettingS.mono_l : ∀ k, (∀ y0 y1 y2, LeO (laws_heldSettingS.l0 k y0 y1 y2) (laws_heldSettingS.l0 (k + 1) y0 y1 y2))
  | 0 => fun _ _ _ r h => by simp [laws_heldSettingS.l0] at h
  | k + 1 => by
    have ih0 := laws_heldSettingS.mono_l k
    · intro y0 y1 y2
      unfold laws_heldSettingS.l0
      repeat' first
      | (with_reducible exact ih0 _ _ _)
      | (with_reducible exact laws_markText.mono _ _)
      | (with_reducible exact LeO.refl _)
      | (with_reducible exact LeO.none _)
      | (with_reducible refine LeO.ite ?_ ?_)
      | (with_reducible refine LeO.bind ?_ (fun _ => ?_))
      | exact ih0 _ _ _
      | exact laws_markText.mono _ _
      | exact LeO.none _
      | refine LeO.ite ?_ ?_
      | refine LeO.bind ?_ (fun _ => ?_)
theorem laws_heldSettingS.mono : ∀ a0 a1 k, LeO (laws_heldSettingS.f k a0 a1) (laws_heldSettingS.f (k + 1) a0 a1) := by
  intro a0 a1 k
  have ih0 := laws_heldSettingS.mono_l k
  unfold laws_heldSettingS.f
  repeat' first
      | (with_reducible exact ih0 _ _ _)
      | (with_reducible exact laws_markText.mono _ _)
      | (with_reducible exact LeO.refl _)
      | (with_reducible exact LeO.none _)
      | (with_reducible refine LeO.ite ?_ ?_)
      | (with_reducible refine LeO.bind ?_ (fun _ => ?_))
      | exact ih0 _ _ _
      | exact laws_markText.mono _ _
      | exact LeO.none _
      | refine LeO.ite ?_ ?_
      | refine LeO.bind ?_ (fun _ => ?_)
def laws_heldSettingS.T4 : Bool × List (List Nat × List Nat) := (true, [([], []), ([], []), ([0, 1], [0, 1]), ([2], [2]), ([3], [3]), ([], []), ([5], [5]), ([4, 6], [4, 6])])
def laws_heldSettingS.B4 : List Nat := [0, 0, 3, 7, 15, 0, 32, 127]
theorem laws_heldSettingS.tab4 : rtab .any (opsOf Try.f53 4) = laws_heldSettingS.T4 := by kernel_rfl
theorem laws_heldSettingS.bits4 : waitsOk laws_heldSettingS.T4.2 laws_heldSettingS.B4 = true := by kernel_rfl
set_option maxHeartbeats 8000000 in
set_option maxRecDepth 100000 in
theorem laws_heldSettingS.calls (k : Nat) (A0 : Option Addr) (c0 : Nat) (l0 : List (S81)) (a1 : Int) (r : Int) (w : World) (hr0 : Kd.C k81 w A0 l0.length l0) (hc0 : l0.length ≤ c0) (h : laws_heldSettingS.f k l0 a1 = some r) :
    Calls Try.prog 53 #[.slice A0 l0.length c0, .int .i64 a1] w fun e w' => e = .returned (.int .i64 r) ∧ Below w.heap.size w w' := by
  have HR0 := Aside0.mk hr0
  have HC0 := Aside0.mk hc0
  clear hr0 hc0
  have HB := Aside0.mk (Below.refl w.heap.size w)
  have H : (laws_heldSettingS.l0 k l0 a1 0) = some r := h
  clear h
  have H' := Aside0.mk H
  clear H
  go_enter Try.func53, Try.ntmps53
  go_wp2
  go_loopg [1, 5] k (fun kq v1 v5 w' => ∃ (x1_1 : Int) (x5_1 : Int), v1 = .int .i64 x1_1 ∧ v5 = .int .i64 x5_1 ∧ Aside0 (laws_heldSettingS.l0 kq l0 x1_1 x5_1 = some r) ∧ Aside0 (kq ≤ k) ∧ Aside0 (Below w.heap.size w w'))
  case atStart => exact ⟨(a1), (0), (by first | rfl | (simp; done) | (simp [*]; done)), (by first | rfl | (simp; done) | (simp [*]; done)), H', ⟨Nat.le_refl _⟩, ⟨by repeat (first | (with_reducible first | exact HB.out | apply below_alloc | apply pw_below_drewN | apply below_drew1) | exact HB.out)⟩⟩
  case round =>
    clear H'
    try clear p2
    obtain ⟨x1_1, x5_1, rfl, rfl, HA, HK1, HB⟩ := hrel
    cases gk with
    | zero => exact absurd HA.out (by simp [laws_heldSettingS.l0])
    | succ k1 =>
      have H := HA.out
      clear HA
      simp only [laws_heldSettingS.l0] at H
      by_cases c3 : x5_1 < (l0.length : Int)
      · rw [if_pos c3] at H
        have c3b0 : decide (x5_1 < (l0.length : Int)) = true := decide_eq_true c3
        clear c3
        by_cases c4 : 0 ≤ x5_1
        · rw [if_pos c4] at H
          have c4b0 : decide (0 ≤ x5_1) = true := decide_eq_true c4
          clear c4
          replace H := Option.bind_eq_some_iff.mp H
          obtain ⟨t102, A50, H⟩ := H
          replace H : (if ((rd_T81 l0 x5_1).f0).toList = t102.toList then (if ((rd_T81 l0 x5_1).f1) = (wrap64 (x1_1 + 1)) then (laws_heldSettingS.l0 k1 l0 (wrap64 ((wrap64 (x1_1 + 1)) + 1)) (wrap64 (x5_1 + 1))) else (some (-1))) else (some (-1))) = some r := H
          have A5 := Aside0.mk A50
          clear A50
          by_cases c6 : ((rd_T81 l0 x5_1).f0).toList = t102.toList
          · rw [if_pos c6] at H
            have c6b0 : (((rd_T81 l0 x5_1).f0).toList == t102.toList) = true := beq_iff_eq.mpr c6
            have c6b1 : (((rd_T81 l0 x5_1).f0).toList != t102.toList) = false := bne_eq_false_iff_eq.mpr c6
            clear c6
            by_cases c7 : ((rd_T81 l0 x5_1).f1) = (wrap64 (x1_1 + 1))
            · rw [if_pos c7] at H
              have c7b0 : (((rd_T81 l0 x5_1).f1) == (wrap64 (x1_1 + 1))) = true := beq_iff_eq.mpr c7
              have c7b1 : (((rd_T81 l0 x5_1).f1) != (wrap64 (x1_1 + 1))) = false := bne_eq_false_iff_eq.mpr c7
              clear c7
              have H' := Aside0.mk H
              clear H
              try go_wp2
              have n0_ := Aside0.mk (below_drew1 HB.out)
              clear HB
              have HB := n0_
              clear n0_
              have p101 : 0 ≤ (x5_1 : Int) := of_decide_eq_true (by first | (with_reducible assumption) | assumption)
              have q101 : x5_1 < (l0.length : Int) := of_decide_eq_true (by first | (with_reducible assumption) | assumption)
              obtain ⟨ad101, e101, hx101_0, hx101_1⟩ := at_T81 HR0.out x5_1 p101 q101
              have hw101_1 := hx101_1
              have hw101_0 := hx101_0
              cases e101
              replace hx101_0 := (HB.out.cell (World.block_lt_of_cell? w _ hx101_0)).trans hx101_0
              replace hx101_1 := (HB.out.cell (World.block_lt_of_cell? w _ hx101_1)).trans hx101_1
              replace p101 := eq_true p101
              replace q101 := eq_true q101
              refine start_ (n := 8) (S := fun w' => w'.cell? (ad101.add ((x5_1).toNat * 2)) = some (.string ((rd_T81 l0 x5_1).f0)) ∧ w'.cell? ⟨(ad101.add ((x5_1).toNat * 2)).block, (ad101.add ((x5_1).toNat * 2)).off + 1, none⟩ = some (.int .i64 ((rd_T81 l0 x5_1).f1))) (ds := []) #[false, false, false, false, false, false, false, false] (by kernel_rfl) rfl rfl ⟨((HB.out.cell (World.block_lt_of_cell? w _ hw101_0)).trans hw101_0), ((HB.out.cell (World.block_lt_of_cell? w _ hw101_1)).trans hw101_1)⟩ (fun hHeld => ?_); refine with_tabW laws_heldSettingS.tab4 laws_heldSettingS.bits4 (fun HT_ HW_ => ?_)
              generalize wr.drew = w8 at HB hx101_0 hx101_1 hHeld ⊢
              refine pure_ (i := 0) (N := some 12) (v := ?_) (a' := ?_) #[true, false, false, false, false, false, false, false] rfl rfl (any_of HT_.out (by kernel_rfl)) (fun _ _ _ h => h) (Or.inl ⟨by rfl, ?_⟩) ?_ ?_
              rotate_left
              · intro w'
                go_simp
                with_reducible rfl
              rotate_left
              · simp only [Act.put, List.setIfInBounds_toArray, List.set_cons_zero, List.set_cons_succ, i64_w, i32_w]
                rfl
              refine pure_ (i := 1) (N := some 13) (v := ?_) (a' := ?_) #[true, true, false, false, false, false, false, false] rfl rfl (any_of HT_.out (by kernel_rfl)) (fun _ _ _ h => h) (Or.inl ⟨by rfl, ?_⟩) ?_ ?_
              rotate_left
              · intro w'
                go_simp
                with_reducible rfl
              rotate_left
              · simp only [Act.put, List.setIfInBounds_toArray, List.set_cons_zero, List.set_cons_succ, i64_w, i32_w]
                rfl
              refine pure_ (i := 2) (N := some 14) (v := ?_) (a' := ?_) #[true, true, true, false, false, false, false, false] rfl rfl (any_of HT_.out (by kernel_rfl)) (fun _ _ _ h => h) (Or.inl ⟨by rfl, ?_⟩) ?_ ?_
              rotate_left
              · intro w'
                go_simp
                with_reducible rfl
              rotate_left
              · simp only [Act.put, List.setIfInBounds_toArray, List.set_cons_zero, List.set_cons_succ, i64_w, i32_w]
                rfl
              refine pure_ (i := 3) (N := some 15) (v := ?_) (a' := ?_) #[true, true, true, true, false, false, false, false] rfl rfl (any_of HT_.out (by kernel_rfl)) (fun _ _ _ h => h) (Or.inl ⟨by rfl, ?_⟩) ?_ ?_
              rotate_left
              · intro w'
                go_simp
                with_reducible rfl
              rotate_left
              · simp only [Act.put, List.setIfInBounds_toArray, List.set_cons_zero, List.set_cons_succ, i64_w, i32_w]
                rfl
              refine pure_ (i := 5) (N := some 17) (v := ?_) (a' := ?_) #[true, true, true, true, false, true, false, false] rfl rfl (any_of HT_.out (by kernel_rfl)) (fun _ _ _ h => h) (Or.inl ⟨by rfl, ?_⟩) ?_ ?_
              rotate_left
              · intro w'
                go_simp
                with_reducible rfl
              rotate_left
              · simp only [Act.put, List.setIfInBounds_toArray, List.set_cons_zero, List.set_cons_succ, i64_w, i32_w]
                rfl
              refine take_ (i := 4) (N := some 16) (v := ?_) (a' := ?_) #[true, true, true, true, true, true, false, false] rfl rfl (take_ofW HT_.out HW_.out (by kernel_rfl)) (fun _ _ _ h => h) (Or.inl ⟨by rfl, ?_⟩) hHeld ?_ ?_
              rotate_left
              · rintro w' ⟨s0, s1⟩
                go_simp
                with_reducible rfl
              rotate_left
              · simp only [Act.put, List.setIfInBounds_toArray, List.set_cons_zero, List.set_cons_succ, i64_w, i32_w]
                rfl
              refine one_ (i := 6) (N := some 18) #[true, true, true, true, true, true, true, false] rfl rfl (one_of HT_.out (by kernel_rfl)) (by decide) (fun K hK => ?_)
              refine goes_ Try.func85 (by kernel_rfl) rfl #[.int .i64 x1_1] (by rfl) rfl rfl (by (try simp only [List.map_toArray, List.map_cons, List.map_nil]); first | done | rfl | (simp only [List.length_drop, List.length_take]; rfl)) ?_
              with_reducible refine (laws_markText.calls k1 x1_1 t102 _ A5.out).mono ?_
              rintro e w9 ⟨rfl, hb⟩
              refine ⟨_, rfl, ?_⟩
              have n0_ := Aside0.mk (below_step (by repeat (first | (with_reducible first | exact HB.out | apply below_alloc | apply pw_below_drewN | apply below_drew1) | exact HB.out)) hb)
              clear HB
              have HB := n0_
              clear n0_
              (try clear hb)
              (try clear hb2)
              (try clear hk)
              (try clear hi)
              refine hK.out _ _ ⟨((HB.out.cell (World.block_lt_of_cell? w _ hw101_0)).trans hw101_0), ((HB.out.cell (World.block_lt_of_cell? w _ hw101_1)).trans hw101_1)⟩ (fun hHeld => ?_)
              clear hK K
              refine norm_ (a' := ?_) ?_ ?_
              rotate_left
              · show Act.put _ (some 18) _ = _
                simp only [Act.put, List.setIfInBounds_toArray, List.set_cons_zero, List.set_cons_succ, i64_w, i32_w]
                rfl
              refine pure_ (i := 7) (N := some 19) (v := ?_) (a' := ?_) #[true, true, true, true, true, true, true, true] rfl rfl (any_of HT_.out (by kernel_rfl)) (fun _ _ _ h => h) (Or.inl ⟨by rfl, ?_⟩) ?_ ?_
              rotate_left
              · intro w'
                go_simp
                with_reducible rfl
              rotate_left
              · simp only [Act.put, List.setIfInBounds_toArray, List.set_cons_zero, List.set_cons_succ, i64_w, i32_w]
                rfl
              refine done_ (done_of HT_.out (by kernel_rfl)) ?_
              have p103 : 0 ≤ (x5_1 : Int) := of_decide_eq_true (by first | (with_reducible assumption) | assumption)
              have q103 : x5_1 < (l0.length : Int) := of_decide_eq_true (by first | (with_reducible assumption) | assumption)
              obtain ⟨ad103, e103, hx103_0, hx103_1⟩ := at_T81 HR0.out x5_1 p103 q103
              obtain rfl : ad101 = ad103 := (by injection e103)
              replace hx103_0 := (HB.out.cell (World.block_lt_of_cell? w _ hx103_0)).trans hx103_0
              replace hx103_1 := (HB.out.cell (World.block_lt_of_cell? w _ hx103_1)).trans hx103_1
              replace p103 := eq_true p103
              replace q103 := eq_true q103
              try go_wp2
              go_roundg k1
              case measure => have := HK1.out; omega
              case rel => exact ⟨(wrap64 ((wrap64 (x1_1 + 1)) + 1)), (wrap64 (x5_1 + 1)), (by first | rfl | (simp; done) | (simp [*]; done)), (by first | rfl | (simp; done) | (simp [*]; done)), H', ⟨by have := HK1.out; omega⟩, ⟨by repeat (first | (with_reducible first | exact HB.out | apply below_alloc | apply pw_below_drewN | apply below_drew1) | exact HB.out)⟩⟩
            · rw [if_neg c7] at H
              have c7b0 : (((rd_T81 l0 x5_1).f1) == (wrap64 (x1_1 + 1))) = false := beq_eq_false_iff_ne.mpr c7
              have c7b1 : (((rd_T81 l0 x5_1).f1) != (wrap64 (x1_1 + 1))) = true := bne_iff_ne.mpr c7
              obtain rfl := Option.some.inj H
              try go_wp2
              have n0_ := Aside0.mk (below_drew1 HB.out)
              clear HB
              have HB := n0_
              clear n0_
              have p101 : 0 ≤ (x5_1 : Int) := of_decide_eq_true (by first | (with_reducible assumption) | assumption)
              have q101 : x5_1 < (l0.length : Int) := of_decide_eq_true (by first | (with_reducible assumption) | assumption)
              obtain ⟨ad101, e101, hx101_0, hx101_1⟩ := at_T81 HR0.out x5_1 p101 q101
              have hw101_1 := hx101_1
              have hw101_0 := hx101_0
              cases e101
              replace hx101_0 := (HB.out.cell (World.block_lt_of_cell? w _ hx101_0)).trans hx101_0
              replace hx101_1 := (HB.out.cell (World.block_lt_of_cell? w _ hx101_1)).trans hx101_1
              replace p101 := eq_true p101
              replace q101 := eq_true q101
              refine start_ (n := 8) (S := fun w' => w'.cell? (ad101.add ((x5_1).toNat * 2)) = some (.string ((rd_T81 l0 x5_1).f0)) ∧ w'.cell? ⟨(ad101.add ((x5_1).toNat * 2)).block, (ad101.add ((x5_1).toNat * 2)).off + 1, none⟩ = some (.int .i64 ((rd_T81 l0 x5_1).f1))) (ds := []) #[false, false, false, false, false, false, false, false] (by kernel_rfl) rfl rfl ⟨((HB.out.cell (World.block_lt_of_cell? w _ hw101_0)).trans hw101_0), ((HB.out.cell (World.block_lt_of_cell? w _ hw101_1)).trans hw101_1)⟩ (fun hHeld => ?_); refine with_tabW laws_heldSettingS.tab4 laws_heldSettingS.bits4 (fun HT_ HW_ => ?_)
              generalize wr.drew = w10 at HB hx101_0 hx101_1 hHeld ⊢
              refine pure_ (i := 0) (N := some 12) (v := ?_) (a' := ?_) #[true, false, false, false, false, false, false, false] rfl rfl (any_of HT_.out (by kernel_rfl)) (fun _ _ _ h => h) (Or.inl ⟨by rfl, ?_⟩) ?_ ?_
              rotate_left
              · intro w'
                go_simp
                with_reducible rfl
              rotate_left
              · simp only [Act.put, List.setIfInBounds_toArray, List.set_cons_zero, List.set_cons_succ, i64_w, i32_w]
                rfl
              refine pure_ (i := 1) (N := some 13) (v := ?_) (a' := ?_) #[true, true, false, false, false, false, false, false] rfl rfl (any_of HT_.out (by kernel_rfl)) (fun _ _ _ h => h) (Or.inl ⟨by rfl, ?_⟩) ?_ ?_
              rotate_left
              · intro w'
                go_simp
                with_reducible rfl
              rotate_left
              · simp only [Act.put, List.setIfInBounds_toArray, List.set_cons_zero, List.set_cons_succ, i64_w, i32_w]
                rfl
              refine pure_ (i := 2) (N := some 14) (v := ?_) (a' := ?_) #[true, true, true, false, false, false, false, false] rfl rfl (any_of HT_.out (by kernel_rfl)) (fun _ _ _ h => h) (Or.inl ⟨by rfl, ?_⟩) ?_ ?_
              rotate_left
              · intro w'
                go_simp
                with_reducible rfl
              rotate_left
              · simp only [Act.put, List.setIfInBounds_toArray, List.set_cons_zero, List.set_cons_succ, i64_w, i32_w]
                rfl
              refine pure_ (i := 3) (N := some 15) (v := ?_) (a' := ?_) #[true, true, true, true, false, false, false, false] rfl rfl (any_of HT_.out (by kernel_rfl)) (fun _ _ _ h => h) (Or.inl ⟨by rfl, ?_⟩) ?_ ?_
              rotate_left
              · intro w'
                go_simp
                with_reducible rfl
              rotate_left
              · simp only [Act.put, List.setIfInBounds_toArray, List.set_cons_zero, List.set_cons_succ, i64_w, i32_w]
                rfl
              refine pure_ (i := 5) (N := some 17) (v := ?_) (a' := ?_) #[true, true, true, true, false, true, false, false] rfl rfl (any_of HT_.out (by kernel_rfl)) (fun _ _ _ h => h) (Or.inl ⟨by rfl, ?_⟩) ?_ ?_
              rotate_left
              · intro w'
                go_simp
                with_reducible rfl
              rotate_left
              · simp only [Act.put, List.setIfInBounds_toArray, List.set_cons_zero, List.set_cons_succ, i64_w, i32_w]
                rfl
              refine take_ (i := 4) (N := some 16) (v := ?_) (a' := ?_) #[true, true, true, true, true, true, false, false] rfl rfl (take_ofW HT_.out HW_.out (by kernel_rfl)) (fun _ _ _ h => h) (Or.inl ⟨by rfl, ?_⟩) hHeld ?_ ?_
              rotate_left
              · rintro w' ⟨s0, s1⟩
                go_simp
                with_reducible rfl
              rotate_left
              · simp only [Act.put, List.setIfInBounds_toArray, List.set_cons_zero, List.set_cons_succ, i64_w, i32_w]
                rfl
              refine one_ (i := 6) (N := some 18) #[true, true, true, true, true, true, true, false] rfl rfl (one_of HT_.out (by kernel_rfl)) (by decide) (fun K hK => ?_)
              refine goes_ Try.func85 (by kernel_rfl) rfl #[.int .i64 x1_1] (by rfl) rfl rfl (by (try simp only [List.map_toArray, List.map_cons, List.map_nil]); first | done | rfl | (simp only [List.length_drop, List.length_take]; rfl)) ?_
              with_reducible refine (laws_markText.calls k1 x1_1 t102 _ A5.out).mono ?_
              rintro e w11 ⟨rfl, hb⟩
              refine ⟨_, rfl, ?_⟩
              have n0_ := Aside0.mk (below_step (by repeat (first | (with_reducible first | exact HB.out | apply below_alloc | apply pw_below_drewN | apply below_drew1) | exact HB.out)) hb)
              clear HB
              have HB := n0_
              clear n0_
              (try clear hb)
              (try clear hb2)
              (try clear hk)
              (try clear hi)
              refine hK.out _ _ ⟨((HB.out.cell (World.block_lt_of_cell? w _ hw101_0)).trans hw101_0), ((HB.out.cell (World.block_lt_of_cell? w _ hw101_1)).trans hw101_1)⟩ (fun hHeld => ?_)
              clear hK K
              refine norm_ (a' := ?_) ?_ ?_
              rotate_left
              · show Act.put _ (some 18) _ = _
                simp only [Act.put, List.setIfInBounds_toArray, List.set_cons_zero, List.set_cons_succ, i64_w, i32_w]
                rfl
              refine pure_ (i := 7) (N := some 19) (v := ?_) (a' := ?_) #[true, true, true, true, true, true, true, true] rfl rfl (any_of HT_.out (by kernel_rfl)) (fun _ _ _ h => h) (Or.inl ⟨by rfl, ?_⟩) ?_ ?_
              rotate_left
              · intro w'
                go_simp
                with_reducible rfl
              rotate_left
              · simp only [Act.put, List.setIfInBounds_toArray, List.set_cons_zero, List.set_cons_succ, i64_w, i32_w]
                rfl
              refine done_ (done_of HT_.out (by kernel_rfl)) ?_
              have p103 : 0 ≤ (x5_1 : Int) := of_decide_eq_true (by first | (with_reducible assumption) | assumption)
              have q103 : x5_1 < (l0.length : Int) := of_decide_eq_true (by first | (with_reducible assumption) | assumption)
              obtain ⟨ad103, e103, hx103_0, hx103_1⟩ := at_T81 HR0.out x5_1 p103 q103
              obtain rfl : ad101 = ad103 := (by injection e103)
              replace hx103_0 := (HB.out.cell (World.block_lt_of_cell? w _ hx103_0)).trans hx103_0
              replace hx103_1 := (HB.out.cell (World.block_lt_of_cell? w _ hx103_1)).trans hx103_1
              replace p103 := eq_true p103
              replace q103 := eq_true q103
              try go_wp2
              go_ret
              exact ⟨by first | rfl | (simp [errW_none, errW_some] <;> rfl) | (simp [*, errW_none, errW_some] <;> rfl), by repeat (first | (with_reducible first | exact HB.out | apply below_alloc | apply pw_below_drewN | apply below_drew1) | exact HB.out)⟩
          · rw [if_neg c6] at H
            have c6b0 : (((rd_T81 l0 x5_1).f0).toList == t102.toList) = false := beq_eq_false_iff_ne.mpr c6
            have c6b1 : (((rd_T81 l0 x5_1).f0).toList != t102.toList) = true := bne_iff_ne.mpr c6
            obtain rfl := Option.some.inj H
            try go_wp2
            have n0_ := Aside0.mk (below_drew1 HB.out)
            clear HB
            have HB := n0_
            clear n0_
            have p101 : 0 ≤ (x5_1 : Int) := of_decide_eq_true (by first | (with_reducible assumption) | assumption)
            have q101 : x5_1 < (l0.length : Int) := of_decide_eq_true (by first | (with_reducible assumption) | assumption)
            obtain ⟨ad101, e101, hx101_0, hx101_1⟩ := at_T81 HR0.out x5_1 p101 q101
            have hw101_1 := hx101_1
            have hw101_0 := hx101_0
            cases e101
            replace hx101_0 := (HB.out.cell (World.block_lt_of_cell? w _ hx101_0)).trans hx101_0
            replace hx101_1 := (HB.out.cell (World.block_lt_of_cell? w _ hx101_1)).trans hx101_1
            replace p101 := eq_true p101
            replace q101 := eq_true q101
            refine start_ (n := 8) (S := fun w' => w'.cell? (ad101.add ((x5_1).toNat * 2)) = some (.string ((rd_T81 l0 x5_1).f0)) ∧ w'.cell? ⟨(ad101.add ((x5_1).toNat * 2)).block, (ad101.add ((x5_1).toNat * 2)).off + 1, none⟩ = some (.int .i64 ((rd_T81 l0 x5_1).f1))) (ds := []) #[false, false, false, false, false, false, false, false] (by kernel_rfl) rfl rfl ⟨((HB.out.cell (World.block_lt_of_cell? w _ hw101_0)).trans hw101_0), ((HB.out.cell (World.block_lt_of_cell? w _ hw101_1)).trans hw101_1)⟩ (fun hHeld => ?_); refine with_tabW laws_heldSettingS.tab4 laws_heldSettingS.bits4 (fun HT_ HW_ => ?_)
            generalize wr.drew = w12 at HB hx101_0 hx101_1 hHeld ⊢
            refine pure_ (i := 0) (N := some 12) (v := ?_) (a' := ?_) #[true, false, false, false, false, false, false, false] rfl rfl (any_of HT_.out (by kernel_rfl)) (fun _ _ _ h => h) (Or.inl ⟨by rfl, ?_⟩) ?_ ?_
            rotate_left
            · intro w'
              go_simp
              with_reducible rfl
            rotate_left
            · simp only [Act.put, List.setIfInBounds_toArray, List.set_cons_zero, List.set_cons_succ, i64_w, i32_w]
              rfl
            refine pure_ (i := 1) (N := some 13) (v := ?_) (a' := ?_) #[true, true, false, false, false, false, false, false] rfl rfl (any_of HT_.out (by kernel_rfl)) (fun _ _ _ h => h) (Or.inl ⟨by rfl, ?_⟩) ?_ ?_
            rotate_left
            · intro w'
              go_simp
              with_reducible rfl
            rotate_left
            · simp only [Act.put, List.setIfInBounds_toArray, List.set_cons_zero, List.set_cons_succ, i64_w, i32_w]
              rfl
            refine pure_ (i := 2) (N := some 14) (v := ?_) (a' := ?_) #[true, true, true, false, false, false, false, false] rfl rfl (any_of HT_.out (by kernel_rfl)) (fun _ _ _ h => h) (Or.inl ⟨by rfl, ?_⟩) ?_ ?_
            rotate_left
            · intro w'
              go_simp
              with_reducible rfl
            rotate_left
            · simp only [Act.put, List.setIfInBounds_toArray, List.set_cons_zero, List.set_cons_succ, i64_w, i32_w]
              rfl
            refine pure_ (i := 3) (N := some 15) (v := ?_) (a' := ?_) #[true, true, true, true, false, false, false, false] rfl rfl (any_of HT_.out (by kernel_rfl)) (fun _ _ _ h => h) (Or.inl ⟨by rfl, ?_⟩) ?_ ?_
            rotate_left
            · intro w'
              go_simp
              with_reducible rfl
            rotate_left
            · simp only [Act.put, List.setIfInBounds_toArray, List.set_cons_zero, List.set_cons_succ, i64_w, i32_w]
              rfl
            refine pure_ (i := 5) (N := some 17) (v := ?_) (a' := ?_) #[true, true, true, true, false, true, false, false] rfl rfl (any_of HT_.out (by kernel_rfl)) (fun _ _ _ h => h) (Or.inl ⟨by rfl, ?_⟩) ?_ ?_
            rotate_left
            · intro w'
              go_simp
              with_reducible rfl
            rotate_left
            · simp only [Act.put, List.setIfInBounds_toArray, List.set_cons_zero, List.set_cons_succ, i64_w, i32_w]
              rfl
            refine take_ (i := 4) (N := some 16) (v := ?_) (a' := ?_) #[true, true, true, true, true, true, false, false] rfl rfl (take_ofW HT_.out HW_.out (by kernel_rfl)) (fun _ _ _ h => h) (Or.inl ⟨by rfl, ?_⟩) hHeld ?_ ?_
            rotate_left
            · rintro w' ⟨s0, s1⟩
              go_simp
              with_reducible rfl
            rotate_left
            · simp only [Act.put, List.setIfInBounds_toArray, List.set_cons_zero, List.set_cons_succ, i64_w, i32_w]
              rfl
            refine one_ (i := 6) (N := some 18) #[true, true, true, true, true, true, true, false] rfl rfl (one_of HT_.out (by kernel_rfl)) (by decide) (fun K hK => ?_)
            refine goes_ Try.func85 (by kernel_rfl) rfl #[.int .i64 x1_1] (by rfl) rfl rfl (by (try simp only [List.map_toArray, List.map_cons, List.map_nil]); first | done | rfl | (simp only [List.length_drop, List.length_take]; rfl)) ?_
            with_reducible refine (laws_markText.calls k1 x1_1 t102 _ A5.out).mono ?_
            rintro e w13 ⟨rfl, hb⟩
            refine ⟨_, rfl, ?_⟩
            have n0_ := Aside0.mk (below_step (by repeat (first | (with_reducible first | exact HB.out | apply below_alloc | apply pw_below_drewN | apply below_drew1) | exact HB.out)) hb)
            clear HB
            have HB := n0_
            clear n0_
            (try clear hb)
            (try clear hb2)
            (try clear hk)
            (try clear hi)
            refine hK.out _ _ ⟨((HB.out.cell (World.block_lt_of_cell? w _ hw101_0)).trans hw101_0), ((HB.out.cell (World.block_lt_of_cell? w _ hw101_1)).trans hw101_1)⟩ (fun hHeld => ?_)
            clear hK K
            refine norm_ (a' := ?_) ?_ ?_
            rotate_left
            · show Act.put _ (some 18) _ = _
              simp only [Act.put, List.setIfInBounds_toArray, List.set_cons_zero, List.set_cons_succ, i64_w, i32_w]
              rfl
            refine pure_ (i := 7) (N := some 19) (v := ?_) (a' := ?_) #[true, true, true, true, true, true, true, true] rfl rfl (any_of HT_.out (by kernel_rfl)) (fun _ _ _ h => h) (Or.inl ⟨by rfl, ?_⟩) ?_ ?_
            rotate_left
            · intro w'
              go_simp
              with_reducible rfl
            rotate_left
            · simp only [Act.put, List.setIfInBounds_toArray, List.set_cons_zero, List.set_cons_succ, i64_w, i32_w]
              rfl
            refine done_ (done_of HT_.out (by kernel_rfl)) ?_
            try go_wp2
            go_ret
            exact ⟨by first | rfl | (simp [errW_none, errW_some] <;> rfl) | (simp [*, errW_none, errW_some] <;> rfl), by repeat (first | (with_reducible first | exact HB.out | apply below_alloc | apply pw_below_drewN | apply below_drew1) | exact HB.out)⟩
        · rw [if_neg c4] at H
          exact absurd H (by simp)
      · rw [if_neg c3] at H
        have c3b0 : decide (x5_1 < (l0.length : Int)) = false := decide_eq_false c3
        clear c3
        obtain rfl := Option.some.inj H
        go_wp2
        go_ret
        exact ⟨by first | rfl | (simp [errW_none, errW_some] <;> rfl) | (simp [*, errW_none, errW_some] <;> rfl), by repeat (first | (with_reducible first | exact HB.out | apply below_alloc | apply pw_below_drewN | apply below_drew1) | exact HB.out)⟩

end Go.Proofs.Ytemafjbbopdheaa.P

/- laws_eqStringS: what it answers, and that the machine's call comes to it. -/
namespace Go.Proofs.Ytemafjbbopdheaa.P
open Go.RowKit Go.Proofs.YtemafjbbopdheaaW.PrintWords Go.Proofs.YtemafjbbopdheaaW.PrintLast Go.Proofs.YtemafjbbopdheaaW.PrintMore
attribute [local go_sem] max2_int min2_int max_two min_two max_three min_three max_four min_four str_leq str_gtr str_geq
set_option linter.unusedVariables false
set_option linter.unusedSimpArgs false

/-! ### laws_eqStringS: function 56 -/
def laws_eqStringS.l0 : Nat → List ByteArray → List ByteArray → Int → Option (Bool)
  | 0, _, _, _ => none
  | k + 1, x0, x1, x5 => if x5 < (x0.length : Int) then (if 0 ≤ x5 then (if x5 < (x1.length : Int) then (if (rdOf ByteArray.empty x0 x5).toList = (rdOf ByteArray.empty x1 x5).toList then (laws_eqStringS.l0 k x0 x1 (wrap64 (x5 + 1))) else (some false)) else (none)) else (none)) else (some true)
def laws_eqStringS.f (k : Nat) (l0 : List ByteArray) (l1 : List ByteArray) : Option (Bool) := if (l0.length : Int) = (l1.length : Int) then (laws_eqStringS.l0 k l0 l1 0) else (some false)
theorem laws_eqStringS.mono_l : ∀ k, (∀ y0 y1 y2, LeO (laws_eqStringS.l0 k y0 y1 y2) (laws_eqStringS.l0 (k + 1) y0 y1 y2))
  | 0 => fun _ _ _ r h => by simp [laws_eqStringS.l0] at h
  | k + 1 => by
    have ih0 := laws_eqStringS.mono_l k
    · intro y0 y1 y2
      unfold laws_eqStringS.l0
      repeat' first
      | (with_reducible exact ih0 _ _ _)
      | (with_reducible exact LeO.refl _)
      | (with_reducible exact LeO.none _)
      | (with_reducible refine LeO.ite ?_ ?_)
      | (with_reducible refine LeO.bind ?_ (fun _ => ?_))
      | exact ih0 _ _ _
      | exact LeO.none _
      | refine LeO.ite ?_ ?_
      | refine LeO.bind ?_ (fun _ => ?_)
theorem laws_eqStringS.mono : ∀ a0 a1 k, LeO (laws_eqStringS.f k a0 a1) (laws_eqStringS.f (k + 1) a0 a1) := by
  intro a0 a1 k
  have ih0 := laws_eqStringS.mono_l k
  unfold laws_eqStringS.f
  repeat' first
      | (with_reducible exact ih0 _ _ _)
      | (with_reducible exact LeO.refl _)
      | (with_reducible exact LeO.none _)
      | (with_reducible refine LeO.ite ?_ ?_)
      | (with_reducible refine LeO.bind ?_ (fun _ => ?_))
      | exact ih0 _ _ _
      | exact LeO.none _
      | refine LeO.ite ?_ ?_
      | refine LeO.bind ?_ (fun _ => ?_)
set_option maxHeartbeats 8000000 in
set_option maxRecDepth 100000 in
theorem laws_eqStringS.calls (k : Nat) (A0 : Option Addr) (c0 : Nat) (l0 : List ByteArray) (A1 : Option Addr) (c1 : Nat) (l1 : List ByteArray) (r : Bool) (w : World) (hr0 : Kd.C Kd.string w A0 l0.length l0) (hc0 : l0.length ≤ c0) (hr1 : Kd.C Kd.string w A1 l1.length l1) (hc1 : l1.length ≤ c1) (h : laws_eqStringS.f k l0 l1 = some r) :
    Calls Try.prog 56 #[.slice A0 l0.length c0, .slice A1 l1.length c1] w fun e w' => e = .returned (.bool r) ∧ Drawn0 w w' := by
  have HR0 := Aside0.mk hr0
  have HC0 := Aside0.mk hc0
  clear hr0 hc0
  have HR1 := Aside0.mk hr1
  have HC1 := Aside0.mk hc1
  clear hr1 hc1
  have H : (if (l0.length : Int) = (l1.length : Int) then (laws_eqStringS.l0 k l0 l1 0) else (some false)) = some r := h
  clear h
  by_cases c3 : (l0.length : Int) = (l1.length : Int)
  · rw [if_pos c3] at H
    have c3b0 : ((l0.length : Int) == (l1.length : Int)) = true := beq_iff_eq.mpr c3
    have c3b1 : ((l0.length : Int) != (l1.length : Int)) = false := bne_eq_false_iff_eq.mpr c3
    have c3b2 : (l0.length == l1.length) = true := by first | simpa using c3 | (simp at c3 ⊢; omega)
    clear c3
    have H' := Aside0.mk H
    clear H
    go_enter Try.func56, Try.ntmps56
    go_wp2
    repeat (go_quiet (fail); try go_wp2)
    go_loopg [5] k (fun kq v5 w' => ∃ (x5_1 : Int), v5 = .int .i64 x5_1 ∧ Aside0 (laws_eqStringS.l0 kq l0 l1 x5_1 = some r) ∧ Aside0 (kq ≤ k) ∧ Drawn0 w w')
    case atStart => exact ⟨(0), (by first | rfl | (simp; done) | (simp [*]; done)), H', ⟨Nat.le_refl _⟩, by repeat (first | exact Drawn0.refl _ | apply Drawn0.step)⟩
    case round =>
      clear H'
      try clear c1
      try clear p2
      try clear c3
      try clear c3b0
      try clear c3b1
      try clear c3b2
      obtain ⟨x5_1, rfl, HA, HK1, ⟨m1, rfl⟩⟩ := hrel
      cases gk with
      | zero => exact absurd HA.out (by simp [laws_eqStringS.l0])
      | succ k1 =>
        have H := HA.out
        clear HA
        simp only [laws_eqStringS.l0] at H
        by_cases c4 : x5_1 < (l0.length : Int)
        · rw [if_pos c4] at H
          have c4b0 : decide (x5_1 < (l0.length : Int)) = true := decide_eq_true c4
          clear c4
          by_cases c5 : 0 ≤ x5_1
          · rw [if_pos c5] at H
            have c5b0 : decide (0 ≤ x5_1) = true := decide_eq_true c5
            clear c5
            by_cases c6 : x5_1 < (l1.length : Int)
            · rw [if_pos c6] at H
              have c6b0 : decide (x5_1 < (l1.length : Int)) = true := decide_eq_true c6
              clear c6
              by_cases c7 : (rdOf ByteArray.empty l0 x5_1).toList = (rdOf ByteArray.empty l1 x5_1).toList
              · rw [if_pos c7] at H
                have c7b0 : ((rdOf ByteArray.empty l0 x5_1).toList == (rdOf ByteArray.empty l1 x5_1).toList) = true := beq_iff_eq.mpr c7
                have c7b1 : ((rdOf ByteArray.empty l0 x5_1).toList != (rdOf ByteArray.empty l1 x5_1).toList) = false := bne_eq_false_iff_eq.mpr c7
                clear c7
                have H' := Aside0.mk H
                clear H
                have p101 : 0 ≤ (x5_1 : Int) := of_decide_eq_true (by first | (with_reducible assumption) | assumption)
                have q101 : x5_1 < (l0.length : Int) := of_decide_eq_true (by first | (with_reducible assumption) | assumption)
                obtain ⟨ad101, e101, hx101_0⟩ := Kd.at_string HR0.out x5_1 p101 q101
                cases e101
                replace p101 := eq_true p101
                replace q101 := eq_true q101
                have p102 : 0 ≤ (x5_1 : Int) := of_decide_eq_true (by first | (with_reducible assumption) | assumption)
                have q102 : x5_1 < (l1.length : Int) := of_decide_eq_true (by first | (with_reducible assumption) | assumption)
                obtain ⟨ad102, e102, hx102_0⟩ := Kd.at_string HR1.out x5_1 p102 q102
                cases e102
                replace p102 := eq_true p102
                replace q102 := eq_true q102
                go_wp2
                repeat (go_quiet (fail); try go_wp2)
                go_roundg k1
                case measure => have := HK1.out; omega
                case rel => exact ⟨(wrap64 (x5_1 + 1)), (by first | rfl | (simp; done) | (simp [*]; done)), H', ⟨by have := HK1.out; omega⟩, by repeat (first | exact Drawn0.refl _ | apply Drawn0.step)⟩
              · rw [if_neg c7] at H
                have c7b0 : ((rdOf ByteArray.empty l0 x5_1).toList == (rdOf ByteArray.empty l1 x5_1).toList) = false := beq_eq_false_iff_ne.mpr c7
                have c7b1 : ((rdOf ByteArray.empty l0 x5_1).toList != (rdOf ByteArray.empty l1 x5_1).toList) = true := bne_iff_ne.mpr c7
                obtain rfl := Option.some.inj H
                have p101 : 0 ≤ (x5_1 : Int) := of_decide_eq_true (by first | (with_reducible assumption) | assumption)
                have q101 : x5_1 < (l0.length : Int) := of_decide_eq_true (by first | (with_reducible assumption) | assumption)
                obtain ⟨ad101, e101, hx101_0⟩ := Kd.at_string HR0.out x5_1 p101 q101
                cases e101
                replace p101 := eq_true p101
                replace q101 := eq_true q101
                have p102 : 0 ≤ (x5_1 : Int) := of_decide_eq_true (by first | (with_reducible assumption) | assumption)
                have q102 : x5_1 < (l1.length : Int) := of_decide_eq_true (by first | (with_reducible assumption) | assumption)
                obtain ⟨ad102, e102, hx102_0⟩ := Kd.at_string HR1.out x5_1 p102 q102
                cases e102
                replace p102 := eq_true p102
                replace q102 := eq_true q102
                go_wp2
                repeat (go_quiet (fail); try go_wp2)
                go_ret
                exact ⟨by first | rfl | (simp; done) | (simp [*]; done), by repeat (first | exact Drawn0.refl _ | apply Drawn0.step)⟩
            · rw [if_neg c6] at H
              exact absurd H (by simp)
          · rw [if_neg c5] at H
            exact absurd H (by simp)
        · rw [if_neg c4] at H
          have c4b0 : decide (x5_1 < (l0.length : Int)) = false := decide_eq_false c4
          clear c4
          obtain rfl := Option.some.inj H
          go_wp2
          repeat (go_quiet (fail); try go_wp2)
          go_ret
          exact ⟨by first | rfl | (simp; done) | (simp [*]; done), by repeat (first | exact Drawn0.refl _ | apply Drawn0.step)⟩
  · rw [if_neg c3] at H
    have c3b0 : ((l0.length : Int) == (l1.length : Int)) = false := beq_eq_false_iff_ne.mpr c3
    have c3b1 : ((l0.length : Int) != (l1.length : Int)) = true := bne_iff_ne.mpr c3
    have c3b2 : (l0.length == l1.length) = false := by first | simpa using c3 | (simp at c3 ⊢; omega)
    obtain rfl := Option.some.inj H
    go_enter Try.func56, Try.ntmps56
    go_wp2
    repeat (go_quiet (fail); try go_wp2)
    go_ret
    exact ⟨by first | rfl | (simp; done) | (simp [*]; done), by repeat (first | exact Drawn0.refl _ | apply Drawn0.step)⟩

end Go.Proofs.Ytemafjbbopdheaa.P

/- laws_markStringS: what it answers, and that the machine's call comes to it. -/
namespace Go.Proofs.Ytemafjbbopdheaa.P
open Go.RowKit Go.Proofs.YtemafjbbopdheaaW.PrintWords Go.Proofs.YtemafjbbopdheaaW.PrintLast Go.Proofs.YtemafjbbopdheaaW.PrintMore
attribute [local go_sem] max2_int min2_int max_two min_two max_three min_three max_four min_four str_leq str_gtr str_geq
set_option linter.unusedVariables false
set_option linter.unusedSimpArgs false

/-! ### laws_markStringS: function 57 -/
def laws_markStringS.l0 : Nat → List ByteArray → Int → Int → Option (Int × List ByteArray)
  | 0, _, _, _ => none
  | k + 1, x0, x1, x5 => if x5 < (x0.length : Int) then ((laws_markText.f k x1).bind fun t101 => (if 0 ≤ x5 then (laws_markStringS.l0 k (x0.set (x5 : Int).toNat t101) (wrap64 (x1 + 1)) (wrap64 (x5 + 1))) else (none))) else (some (x1, x0))
def laws_markStringS.f (k : Nat) (l0 : List ByteArray) (a1 : Int) : Option (Int × List ByteArray) := laws_markStringS.l0 k l0 a1 0
theorem laws_markStringS.mono_l : ∀ k, (∀ y0 y1 y2, LeO (laws_markStringS.l0 k y0 y1 y2) (laws_markStringS.l0 (k + 1) y0 y1 y2))
  | 0 => fun _ _ _ r h => by simp [laws_markStringS.l0] at h
  | k + 1 => by
    have ih0 := laws_markStringS.mono_l k
    · intro y0 y1 y2
      unfold laws_markStringS.l0
      repeat' first
      | (with_reducible exact ih0 _ _ _)
      | (with_reducible exact laws_markText.mono _ _)
      | (with_reducible exact LeO.refl _)
      | (with_reducible exact LeO.none _)
      | (with_reducible refine LeO.ite ?_ ?_)
      | (with_reducible refine LeO.bind ?_ (fun _ => ?_))
      | exact ih0 _ _ _
      | exact laws_markText.mono _ _
      | exact LeO.none _
      | refine LeO.ite ?_ ?_
      | refine LeO.bind ?_ (fun _ => ?_)
theorem laws_markStringS.mono : ∀ a0 a1 k, LeO (laws_markStringS.f k a0 a1) (laws_markStringS.f (k + 1) a0 a1) := by
  intro a0 a1 k
  have ih0 := laws_markStringS.mono_l k
  unfold laws_markStringS.f
  repeat' first
      | (with_reducible exact ih0 _ _ _)
      | (with_reducible exact laws_markText.mono _ _)
      | (with_reducible exact LeO.refl _)
      | (with_reducible exact LeO.none _)
      | (with_reducible refine LeO.ite ?_ ?_)
      | (with_reducible refine LeO.bind ?_ (fun _ => ?_))
      | exact ih0 _ _ _
      | exact laws_markText.mono _ _
      | exact LeO.none _
      | refine LeO.ite ?_ ?_
      | refine LeO.bind ?_ (fun _ => ?_)
set_option maxHeartbeats 8000000 in
set_option maxRecDepth 100000 in
theorem laws_markStringS.calls (k : Nat) (P0_ : Nat → Prop) (u9000_ : Value) (l0 : List ByteArray) (a1 : Int) (r1 : Int) (r2 : List ByteArray) (w0 w : World) (hB : Below w0.heap.size w0 w) (ho0 : Kd.R Kd.string 9 w w0.heap.size P0_ u9000_ l0) (h : laws_markStringS.f k l0 a1 = some (r1, r2)) :
    Calls Try.prog 57 #[u9000_, .int .i64 a1] w fun e w' => e = .returned (.int .i64 r1) ∧ Kd.R Kd.string 9 w' w0.heap.size (fun k_ => (P0_ k_ ∨ w.heap.size ≤ k_)) u9000_ r2 ∧ Below w0.heap.size w0 w' ∧ Kept w w' (fun k_ => P0_ k_) := by
  have HO0 := Aside0.mk (show Kd.R Kd.string 9 w w0.heap.size (fun k_ => (P0_ k_ ∨ w.heap.size ≤ k_)) u9000_ l0 from Kd.R_mono ho0 (fun k_ hk => (.inl hk)))
  have HK := Aside0.mk (Kept.refl w (fun k_ => P0_ k_))
  have HW0 := Aside0.mk hB.size
  have HB := Aside0.mk hB
  clear hB
  have H : (laws_markStringS.l0 k l0 a1 0) = some (r1, r2) := h
  clear h
  have H' := Aside0.mk H
  clear H
  go_enter Try.func57, Try.ntmps57
  go_wp2
  go_loopg [1, 5] k (fun kq v1 v5 w' => ∃ (x0_1 : List ByteArray) (x1_1 : Int) (x5_1 : Int), v1 = .int .i64 x1_1 ∧ v5 = .int .i64 x5_1 ∧ Aside0 (laws_markStringS.l0 kq x0_1 x1_1 x5_1 = some (r1, r2)) ∧ Aside0 (kq ≤ k) ∧ Aside0 (Kd.R Kd.string 9 w' w0.heap.size (fun k_ => (P0_ k_ ∨ w.heap.size ≤ k_)) u9000_ x0_1) ∧ Aside0 (Kept w w' (fun k_ => P0_ k_)) ∧ Aside0 (Below w0.heap.size w0 w'))
  case atStart => exact ⟨(l0), (a1), (0), (by first | rfl | (simp; done) | (simp [*]; done)), (by first | rfl | (simp; done) | (simp [*]; done)), H', ⟨Nat.le_refl _⟩, ⟨by (with_reducible repeat (first | apply Kd.R_alloc | apply Kd.R_drewN | apply Kd.R_drew)); exact HO0.out⟩, ⟨by repeat (first | (with_reducible first | exact HK.out | apply Kept.alloc | apply Kept.drewN | apply Kept.drew) | exact HK.out)⟩, ⟨by repeat (first | (with_reducible first | exact HB.out | apply below_alloc | apply pw_below_drewN | apply below_drew1) | exact HB.out)⟩⟩
  case round =>
    clear H'
    try clear p2
    obtain ⟨x0_1, x1_1, x5_1, rfl, rfl, HA, HK1, HO_0, HK, HB⟩ := hrel
    cases gk with
    | zero => exact absurd HA.out (by simp [laws_markStringS.l0])
    | succ k1 =>
      have H := HA.out
      clear HA
      simp only [laws_markStringS.l0] at H
      by_cases c3 : x5_1 < (x0_1.length : Int)
      · rw [if_pos c3] at H
        have c3b0 : decide (x5_1 < (x0_1.length : Int)) = true := decide_eq_true c3
        clear c3
        replace H := Option.bind_eq_some_iff.mp H
        obtain ⟨t101, A40, H⟩ := H
        replace H : (if 0 ≤ x5_1 then (laws_markStringS.l0 k1 (x0_1.set (x5_1 : Int).toNat t101) (wrap64 (x1_1 + 1)) (wrap64 (x5_1 + 1))) else (none)) = some (r1, r2) := H
        have A4 := Aside0.mk A40
        clear A40
        by_cases c5 : 0 ≤ x5_1
        · rw [if_pos c5] at H
          have c5b0 : decide (0 ≤ x5_1) = true := decide_eq_true c5
          clear c5
          obtain ⟨y102, hy102⟩ : ∃ y_ : List ByteArray, y_ = (x0_1.set (x5_1 : Int).toNat t101) := ⟨_, rfl⟩
          replace H : (laws_markStringS.l0 k1 y102 (wrap64 (x1_1 + 1)) (wrap64 (x5_1 + 1))) = some (r1, r2) := by first | (rw [hy102]; with_reducible exact H) | (have H2_ := (Option.bind_some _ _).symm.trans H; rw [hy102]; with_reducible exact H2_) | (have H2_ := (Option.bind_some _ _).symm.trans H; with_reducible exact H2_) | with_reducible exact H | (rw [hy102]; exact H) | exact H
          have Ny102 := Aside0.mk hy102
          clear hy102
          have H' := Aside0.mk H
          clear H
          obtain ⟨Ao7, co7, eo7⟩ := Kd.R_slice HO_0.out
          subst eo7
          go_wp2_with (first | ((with_reducible refine gate_callee (f := 85) rfl ?_); refine goesL_ (some 15) rfl rfl Try.func85 (by kernel_rfl) rfl #[.int .i64 x1_1] rfl (by (try simp only [List.map_toArray, List.map_cons, List.map_nil]); first | done | rfl | (simp only [List.length_drop, List.length_take]; rfl)) ?_; (with_reducible refine (laws_markText.calls k1 x1_1 t101 _ A4.out).mono ?_); rintro e w8 ⟨rfl, hb⟩; refine ⟨_, rfl, ?_⟩; have n0_ := Aside0.mk (Kd.R_below (by (with_reducible repeat (first | apply Kd.R_alloc | apply Kd.R_drewN | apply Kd.R_drew)); exact HO_0.out) hb); have n1_ := Aside0.mk (Kept.below (S := (fun k_ => P0_ k_)) (by repeat (first | (with_reducible first | exact HK.out | apply Kept.alloc | apply Kept.drewN | apply Kept.drew) | exact HK.out)) hb); have n2_ := Aside0.mk (below_step (by repeat (first | (with_reducible first | exact HB.out | apply below_alloc | apply pw_below_drewN | apply below_drew1) | exact HB.out)) hb); clear HO_0; clear HK; clear HB; have HO_0 := n0_; have HK := n1_; have HB := n2_; clear n0_ n1_ n2_; (try clear hb); (try clear hb2); (try clear hk); (try clear hi); have p6 : 0 ≤ (x5_1 : Int) := of_decide_eq_true (by first | (with_reducible assumption) | assumption); have q6 : (x5_1 : Int) < ((x0_1.length : Int) : Int) := of_decide_eq_true (by first | (with_reducible assumption) | assumption); obtain ⟨go6, co6, eo6, gb6, gl6, cl6, HG6⟩ := Kd.R_form HO_0.out (by omega); (first | cases eo6 | (injection eo6 with ea_ en_ ec_; (first | subst ea_ | (injection ea_ with ea_; subst ea_)); subst ec_; clear en_)); have GB6 := Aside0.mk gb6; have GG6 := Aside0.mk HG6; clear gb6 gl6 HG6; have HMgo6 := Aside0.mk (show (P0_ go6 ∨ w.heap.size ≤ go6) from (HO_0.out.1 _ rfl)); obtain ⟨hx6_0, hf6_0⟩ := Kd.R_celln (⟨#[]⟩ : ByteArray) HO_0.out (x5_1 : Int) p6 q6; replace p6 := eq_true p6; replace q6 := eq_true q6; obtain ⟨hy9_, hz9_⟩ := Kd.R_celln (⟨#[]⟩ : ByteArray) HO_0.out (x5_1 : Int) (of_decide_eq_true (by first | (with_reducible assumption) | assumption)) (of_decide_eq_true (by first | (with_reducible assumption) | assumption)); have HP9 := Kd.R_putg HO_0.out (x5_1 : Int) t101) | ((with_reducible refine gate_store (t := 9) (p := 16) rfl ?_); refine store_event (t := 9) (p := 16) (v := ?vo_w10) (w1 := (w8.setCell ⟨go6, (x5_1 : Int).toNat, none⟩ (.string t101))) ?hg ?ho ?hn ?hr ?_; (case ho => rfl); (case hg => rfl); (case hn => rfl); (case hr => first | (go_simp; done) | (go_simp; rfl)); intro w10 hw; have hg : w8.grownBy w10 (some go6) := (by rw [hw]; exact HP9.2); have hp_ : Kd.R Kd.string 9 w10 w0.heap.size (fun k_ => (P0_ k_ ∨ w.heap.size ≤ k_)) (.slice (some ⟨go6, 0, none⟩) x0_1.length co7) y102 := (by rw [hw, Ny102.out]; exact HP9.1); clear HP9; have n0_ := Aside0.mk (hp_); have n1_ := Aside0.mk ((by rw [hw]; exact below_set (HB.out) GB6.out : Below w0.heap.size w0 w10)); have n2_ := Aside0.mk (Kept.of_grown (S := (fun k_ => P0_ k_)) hg (by repeat (first | (with_reducible first | exact HK.out | apply Kept.alloc | apply Kept.drewN | apply Kept.drew) | exact HK.out)) (fun k_ e_ => (HO_0.out.1 k_ e_))); clear HO_0; clear HB; clear HK; have HO_0 := n0_; have HB := n1_; have HK := n2_; clear n0_ n1_ n2_; clear hg hw hp_))
          go_roundg k1
          case measure => have := HK1.out; omega
          case rel => exact ⟨(y102), (wrap64 (x1_1 + 1)), (wrap64 (x5_1 + 1)), (by first | rfl | (simp; done) | (simp [*]; done)), (by first | rfl | (simp; done) | (simp [*]; done)), H', ⟨by have := HK1.out; omega⟩, ⟨by (with_reducible repeat (first | apply Kd.R_alloc | apply Kd.R_drewN | apply Kd.R_drew)); exact HO_0.out⟩, ⟨by repeat (first | (with_reducible first | exact HK.out | apply Kept.alloc | apply Kept.drewN | apply Kept.drew) | exact HK.out)⟩, ⟨by repeat (first | (with_reducible first | exact HB.out | apply below_alloc | apply pw_below_drewN | apply below_drew1) | exact HB.out)⟩⟩
        · rw [if_neg c5] at H
          exact absurd H (by simp)
      · rw [if_neg c3] at H
        have c3b0 : decide (x5_1 < (x0_1.length : Int)) = false := decide_eq_false c3
        clear c3
        simp only [Option.some.injEq, Prod.mk.injEq] at H
        obtain ⟨rfl, rfl⟩ := H
        obtain ⟨Ao11, co11, eo11⟩ := Kd.R_slice HO_0.out
        subst eo11
        go_wp2
        go_ret
        exact ⟨by first | rfl | (simp [errW_none, errW_some] <;> rfl) | (simp [*, errW_none, errW_some] <;> rfl), by (with_reducible repeat (first | apply Kd.R_alloc | apply Kd.R_drewN | apply Kd.R_drew)); exact HO_0.out, by repeat (first | (with_reducible first | exact HB.out | apply below_alloc | apply pw_below_drewN | apply below_drew1) | exact HB.out), by repeat (first | (with_reducible first | exact HK.out | apply Kept.alloc | apply Kept.drewN | apply Kept.drew) | exact HK.out)⟩

end Go.Proofs.Ytemafjbbopdheaa.P

/- laws_heldStringS: what it answers, and that the machine's call comes to it. -/
namespace Go.Proofs.Ytemafjbbopdheaa.P
open Go.RowKit Go.Proofs.YtemafjbbopdheaaW.PrintWords Go.Proofs.YtemafjbbopdheaaW.PrintLast Go.Proofs.YtemafjbbopdheaaW.PrintMore
attribute [local go_sem] max2_int min2_int max_two min_two max_three min_three max_four min_four str_leq str_gtr str_geq
set_option linter.unusedVariables false
set_option linter.unusedSimpArgs false

/-! ### laws_heldStringS: function 58 -/
def laws_heldStringS.l0 : Nat → List ByteArray → Int → Int → Option (Int)
  | 0, _, _, _ => none
  | k + 1, x0, x1, x5 => if x5 < (x0.length : Int) then (if 0 ≤ x5 then ((laws_markText.f k x1).bind fun t102 => (if (rdOf ByteArray.empty x0 x5).toList = t102.toList then (laws_heldStringS.l0 k x0 (wrap64 (x1 + 1)) (wrap64 (x5 + 1))) else (some (-1)))) else (none)) else (some x1)
def laws_heldStringS.f (k : Nat) (l0 : List ByteArray) (a1 : Int) : Option (Int) := laws_heldStringS.l0 k l0 a1 0
theorem laws_heldStringS.mono_l : ∀ k, (∀ y0 y1 y2, LeO (laws_heldStringS.l0 k y0 y1 y2) (laws_heldStringS.l0 (k + 1) y0 y1 y2))
  | 0 => fun _ _ _ r h => by simp [laws_heldStringS.l0] at h
  | k + 1 => by
    have ih0 := laws_heldStringS.mono_l k
    · intro y0 y1 y2
      unfold laws_heldStringS.l0
      repeat' first
      | (with_reducible exact ih0 _ _ _)
      | (with_reducible exact laws_markText.mono _ _)
      | (with_reducible exact LeO.refl _)
      | (with_reducible exact LeO.none _)
      | (with_reducible refine LeO.ite ?_ ?_)
      | (with_reducible refine LeO.bind ?_ (fun _ => ?_))
      | exact ih0 _ _ _
      | exact laws_markText.mono _ _
      | exact LeO.none _
      | refine LeO.ite ?_ ?_
      | refine LeO.bind ?_ (fun _ => ?_)
theorem laws_heldStringS.mono : ∀ a0 a1 k, LeO (laws_heldStringS.f k a0 a1) (laws_heldStringS.f (k + 1) a0 a1) := by
  intro a0 a1 k
  have ih0 := laws_heldStringS.mono_l k
  unfold laws_heldStringS.f
  repeat' first
      | (with_reducible exact ih0 _ _ _)
      | (with_reducible exact laws_markText.mono _ _)
      | (with_reducible exact LeO.refl _)
      | (with_reducible exact LeO.none _)
      | (with_reducible refine LeO.ite ?_ ?_)
      | (with_reducible refine LeO.bind ?_ (fun _ => ?_))
      | exact ih0 _ _ _
      | exact laws_markText.mono _ _
      | exact LeO.none _
      | refine LeO.ite ?_ ?_
      | refine LeO.bind ?_ (fun _ => ?_)
set_option maxHeartbeats 8000000 in
set_option maxRecDepth 100000 in
theorem laws_heldStringS.calls (k : Nat) (A0 : Option Addr) (c0 : Nat) (l0 : List ByteArray) (a1 : Int) (r : Int) (w : World) (hr0 : Kd.C Kd.string w A0 l0.length l0) (hc0 : l0.length ≤ c0) (h : laws_heldStringS.f k l0 a1 = some r) :
    Calls Try.prog 58 #[.slice A0 l0.length c0, .int .i64 a1] w fun e w' => e = .returned (.int .i64 r) ∧ Below w.heap.size w w' := by
  have HR0 := Aside0.mk hr0
  have HC0 := Aside0.mk hc0
  clear hr0 hc0
  have HB := Aside0.mk (Below.refl w.heap.size w)
  have H : (laws_heldStringS.l0 k l0 a1 0) = some r := h
  clear h
  have H' := Aside0.mk H
  clear H
  go_enter Try.func58, Try.ntmps58
  go_wp2
  go_loopg [1, 5] k (fun kq v1 v5 w' => ∃ (x1_1 : Int) (x5_1 : Int), v1 = .int .i64 x1_1 ∧ v5 = .int .i64 x5_1 ∧ Aside0 (laws_heldStringS.l0 kq l0 x1_1 x5_1 = some r) ∧ Aside0 (kq ≤ k) ∧ Aside0 (Below w.heap.size w w'))
  case atStart => exact ⟨(a1), (0), (by first | rfl | (simp; done) | (simp [*]; done)), (by first | rfl | (simp; done) | (simp [*]; done)), H', ⟨Nat.le_refl _⟩, ⟨by repeat (first | (with_reducible first | exact HB.out | apply below_alloc | apply pw_below_drewN | apply below_drew1) | exact HB.out)⟩⟩
  case round =>
    clear H'
    try clear p2
    obtain ⟨x1_1, x5_1, rfl, rfl, HA, HK1, HB⟩ := hrel
    cases gk with
    | zero => exact absurd HA.out (by simp [laws_heldStringS.l0])
    | succ k1 =>
      have H := HA.out
      clear HA
      simp only [laws_heldStringS.l0] at H
      by_cases c3 : x5_1 < (l0.length : Int)
      · rw [if_pos c3] at H
        have c3b0 : decide (x5_1 < (l0.length : Int)) = true := decide_eq_true c3
        clear c3
        by_cases c4 : 0 ≤ x5_1
        · rw [if_pos c4] at H
          have c4b0 : decide (0 ≤ x5_1) = true := decide_eq_true c4
          clear c4
          replace H := Option.bind_eq_some_iff.mp H
          obtain ⟨t102, A50, H⟩ := H
          replace H : (if (rdOf ByteArray.empty l0 x5_1).toList = t102.toList then (laws_heldStringS.l0 k1 l0 (wrap64 (x1_1 + 1)) (wrap64 (x5_1 + 1))) else (some (-1))) = some r := H
          have A5 := Aside0.mk A50
          clear A50
          by_cases c6 : (rdOf ByteArray.empty l0 x5_1).toList = t102.toList
          · rw [if_pos c6] at H
            have c6b0 : ((rdOf ByteArray.empty l0 x5_1).toList == t102.toList) = true := beq_iff_eq.mpr c6
            have c6b1 : ((rdOf ByteArray.empty l0 x5_1).toList != t102.toList) = false := bne_eq_false_iff_eq.mpr c6
            clear c6
            have H' := Aside0.mk H
            clear H
            try go_wp2
            have n0_ := Aside0.mk (below_drew1 HB.out)
            clear HB
            have HB := n0_
            clear n0_
            have p101 : 0 ≤ (x5_1 : Int) := of_decide_eq_true (by first | (with_reducible assumption) | assumption)
            have q101 : x5_1 < (l0.length : Int) := of_decide_eq_true (by first | (with_reducible assumption) | assumption)
            obtain ⟨ad101, e101, hx101_0⟩ := Kd.at_string HR0.out x5_1 p101 q101
            have hw101_0 := hx101_0
            cases e101
            replace hx101_0 := (HB.out.cell (World.block_lt_of_cell? w _ hx101_0)).trans hx101_0
            replace p101 := eq_true p101
            replace q101 := eq_true q101
            refine start_ (n := 7) (S := fun w' => w'.cell? (ad101.add (x5_1).toNat) = some (.string (rdOf ByteArray.empty l0 x5_1))) (ds := []) #[false, false, false, false, false, false, false] (by kernel_rfl) rfl rfl (((HB.out.cell (World.block_lt_of_cell? w _ hw101_0)).trans hw101_0)) (fun hHeld => ?_)
            generalize wr.drew = w7 at HB hx101_0 hHeld ⊢
            refine pure_ (i := 0) (N := some 12) (v := ?_) (a' := ?_) #[true, false, false, false, false, false, false] rfl rfl (by kernel_rfl) (fun _ _ _ h => h) (Or.inl ⟨by rfl, ?_⟩) ?_ ?_
            rotate_left
            · intro w'
              go_simp
              with_reducible rfl
            rotate_left
            · simp only [Act.put, List.setIfInBounds_toArray, List.set_cons_zero, List.set_cons_succ, i64_w, i32_w]
              rfl
            refine pure_ (i := 1) (N := some 13) (v := ?_) (a' := ?_) #[true, true, false, false, false, false, false] rfl rfl (by kernel_rfl) (fun _ _ _ h => h) (Or.inl ⟨by rfl, ?_⟩) ?_ ?_
            rotate_left
            · intro w'
              go_simp
              with_reducible rfl
            rotate_left
            · simp only [Act.put, List.setIfInBounds_toArray, List.set_cons_zero, List.set_cons_succ, i64_w, i32_w]
              rfl
            refine pure_ (i := 2) (N := some 14) (v := ?_) (a' := ?_) #[true, true, true, false, false, false, false] rfl rfl (by kernel_rfl) (fun _ _ _ h => h) (Or.inl ⟨by rfl, ?_⟩) ?_ ?_
            rotate_left
            · intro w'
              go_simp
              with_reducible rfl
            rotate_left
            · simp only [Act.put, List.setIfInBounds_toArray, List.set_cons_zero, List.set_cons_succ, i64_w, i32_w]
              rfl
            refine pure_ (i := 4) (N := some 16) (v := ?_) (a' := ?_) #[true, true, true, false, true, false, false] rfl rfl (by kernel_rfl) (fun _ _ _ h => h) (Or.inl ⟨by rfl, ?_⟩) ?_ ?_
            rotate_left
            · intro w'
              go_simp
              with_reducible rfl
            rotate_left
            · simp only [Act.put, List.setIfInBounds_toArray, List.set_cons_zero, List.set_cons_succ, i64_w, i32_w]
              rfl
            refine take_ (i := 3) (N := some 15) (v := ?_) (a' := ?_) #[true, true, true, true, true, false, false] rfl rfl (by kernel_rfl) (fun _ _ _ h => h) (Or.inl ⟨by rfl, ?_⟩) hHeld ?_ ?_
            rotate_left
            · intro w' s0
              go_simp
              with_reducible rfl
            rotate_left
            · simp only [Act.put, List.setIfInBounds_toArray, List.set_cons_zero, List.set_cons_succ, i64_w, i32_w]
              rfl
            refine one_ (i := 5) (N := some 17) #[true, true, true, true, true, true, false] rfl rfl (by kernel_rfl) (by decide) (fun K hK => ?_)
            refine goes_ Try.func85 (by kernel_rfl) rfl #[.int .i64 x1_1] (by rfl) rfl rfl (by (try simp only [List.map_toArray, List.map_cons, List.map_nil]); first | done | rfl | (simp only [List.length_drop, List.length_take]; rfl)) ?_
            with_reducible refine (laws_markText.calls k1 x1_1 t102 _ A5.out).mono ?_
            rintro e w8 ⟨rfl, hb⟩
            refine ⟨_, rfl, ?_⟩
            have n0_ := Aside0.mk (below_step (by repeat (first | (with_reducible first | exact HB.out | apply below_alloc | apply pw_below_drewN | apply below_drew1) | exact HB.out)) hb)
            clear HB
            have HB := n0_
            clear n0_
            (try clear hb)
            (try clear hb2)
            (try clear hk)
            (try clear hi)
            refine hK.out _ _ (((HB.out.cell (World.block_lt_of_cell? w _ hw101_0)).trans hw101_0)) (fun hHeld => ?_)
            clear hK K
            refine norm_ (a' := ?_) ?_ ?_
            rotate_left
            · show Act.put _ (some 17) _ = _
              simp only [Act.put, List.setIfInBounds_toArray, List.set_cons_zero, List.set_cons_succ, i64_w, i32_w]
              rfl
            refine pure_ (i := 6) (N := some 18) (v := ?_) (a' := ?_) #[true, true, true, true, true, true, true] rfl rfl (by kernel_rfl) (fun _ _ _ h => h) (Or.inl ⟨by rfl, ?_⟩) ?_ ?_
            rotate_left
            · intro w'
              go_simp
              with_reducible rfl
            rotate_left
            · simp only [Act.put, List.setIfInBounds_toArray, List.set_cons_zero, List.set_cons_succ, i64_w, i32_w]
              rfl
            refine done_ (by kernel_rfl) ?_
            try go_wp2
            go_roundg k1
            case measure => have := HK1.out; omega
            case rel => exact ⟨(wrap64 (x1_1 + 1)), (wrap64 (x5_1 + 1)), (by first | rfl | (simp; done) | (simp [*]; done)), (by first | rfl | (simp; done) | (simp [*]; done)), H', ⟨by have := HK1.out; omega⟩, ⟨by repeat (first | (with_reducible first | exact HB.out | apply below_alloc | apply pw_below_drewN | apply below_drew1) | exact HB.out)⟩⟩
          · rw [if_neg c6] at H
            have c6b0 : ((rdOf ByteArray.empty l0 x5_1).toList == t102.toList) = false := beq_eq_false_iff_ne.mpr c6
            have c6b1 : ((rdOf ByteArray.empty l0 x5_1).toList != t102.toList) = true := bne_iff_ne.mpr c6
            obtain rfl := Option.some.inj H
            try go_wp2
            have n0_ := Aside0.mk (below_drew1 HB.out)
            clear HB
            have HB := n0_
            clear n0_
            have p101 : 0 ≤ (x5_1 : Int) := of_decide_eq_true (by first | (with_reducible assumption) | assumption)
            have q101 : x5_1 < (l0.length : Int) := of_decide_eq_true (by first | (with_reducible assumption) | assumption)
            obtain ⟨ad101, e101, hx101_0⟩ := Kd.at_string HR0.out x5_1 p101 q101
            have hw101_0 := hx101_0
            cases e101
            replace hx101_0 := (HB.out.cell (World.block_lt_of_cell? w _ hx101_0)).trans hx101_0
            replace p101 := eq_true p101
            replace q101 := eq_true q101
            refine start_ (n := 7) (S := fun w' => w'.cell? (ad101.add (x5_1).toNat) = some (.string (rdOf ByteArray.empty l0 x5_1))) (ds := []) #[false, false, false, false, false, false, false] (by kernel_rfl) rfl rfl (((HB.out.cell (World.block_lt_of_cell? w _ hw101_0)).trans hw101_0)) (fun hHeld => ?_)
            generalize wr.drew = w9 at HB hx101_0 hHeld ⊢
            refine pure_ (i := 0) (N := some 12) (v := ?_) (a' := ?_) #[true, false, false, false, false, false, false] rfl rfl (by kernel_rfl) (fun _ _ _ h => h) (Or.inl ⟨by rfl, ?_⟩) ?_ ?_
            rotate_left
            · intro w'
              go_simp
              with_reducible rfl
            rotate_left
            · simp only [Act.put, List.setIfInBounds_toArray, List.set_cons_zero, List.set_cons_succ, i64_w, i32_w]
              rfl
            refine pure_ (i := 1) (N := some 13) (v := ?_) (a' := ?_) #[true, true, false, false, false, false, false] rfl rfl (by kernel_rfl) (fun _ _ _ h => h) (Or.inl ⟨by rfl, ?_⟩) ?_ ?_
            rotate_left
            · intro w'
              go_simp
              with_reducible rfl
            rotate_left
            · simp only [Act.put, List.setIfInBounds_toArray, List.set_cons_zero, List.set_cons_succ, i64_w, i32_w]
              rfl
            refine pure_ (i := 2) (N := some 14) (v := ?_) (a' := ?_) #[true, true, true, false, false, false, false] rfl rfl (by kernel_rfl) (fun _ _ _ h => h) (Or.inl ⟨by rfl, ?_⟩) ?_ ?_
            rotate_left
            · intro w'
              go_simp
              with_reducible rfl
            rotate_left
            · simp only [Act.put, List.setIfInBounds_toArray, List.set_cons_zero, List.set_cons_succ, i64_w, i32_w]
              rfl
            refine pure_ (i := 4) (N := some 16) (v := ?_) (a' := ?_) #[true, true, true, false, true, false, false] rfl rfl (by kernel_rfl) (fun _ _ _ h => h) (Or.inl ⟨by rfl, ?_⟩) ?_ ?_
            rotate_left
            · intro w'
              go_simp
              with_reducible rfl
            rotate_left
            · simp only [Act.put, List.setIfInBounds_toArray, List.set_cons_zero, List.set_cons_succ, i64_w, i32_w]
              rfl
            refine take_ (i := 3) (N := some 15) (v := ?_) (a' := ?_) #[true, true, true, true, true, false, false] rfl rfl (by kernel_rfl) (fun _ _ _ h => h) (Or.inl ⟨by rfl, ?_⟩) hHeld ?_ ?_
            rotate_left
            · intro w' s0
              go_simp
              with_reducible rfl
            rotate_left
            · simp only [Act.put, List.setIfInBounds_toArray, List.set_cons_zero, List.set_cons_succ, i64_w, i32_w]
              rfl
            refine one_ (i := 5) (N := some 17) #[true, true, true, true, true, true, false] rfl rfl (by kernel_rfl) (by decide) (fun K hK => ?_)
            refine goes_ Try.func85 (by kernel_rfl) rfl #[.int .i64 x1_1] (by rfl) rfl rfl (by (try simp only [List.map_toArray, List.map_cons, List.map_nil]); first | done | rfl | (simp only [List.length_drop, List.length_take]; rfl)) ?_
            with_reducible refine (laws_markText.calls k1 x1_1 t102 _ A5.out).mono ?_
            rintro e w10 ⟨rfl, hb⟩
            refine ⟨_, rfl, ?_⟩
            have n0_ := Aside0.mk (below_step (by repeat (first | (with_reducible first | exact HB.out | apply below_alloc | apply pw_below_drewN | apply below_drew1) | exact HB.out)) hb)
            clear HB
            have HB := n0_
            clear n0_
            (try clear hb)
            (try clear hb2)
            (try clear hk)
            (try clear hi)
            refine hK.out _ _ (((HB.out.cell (World.block_lt_of_cell? w _ hw101_0)).trans hw101_0)) (fun hHeld => ?_)
            clear hK K
            refine norm_ (a' := ?_) ?_ ?_
            rotate_left
            · show Act.put _ (some 17) _ = _
              simp only [Act.put, List.setIfInBounds_toArray, List.set_cons_zero, List.set_cons_succ, i64_w, i32_w]
              rfl
            refine pure_ (i := 6) (N := some 18) (v := ?_) (a' := ?_) #[true, true, true, true, true, true, true] rfl rfl (by kernel_rfl) (fun _ _ _ h => h) (Or.inl ⟨by rfl, ?_⟩) ?_ ?_
            rotate_left
            · intro w'
              go_simp
              with_reducible rfl
            rotate_left
            · simp only [Act.put, List.setIfInBounds_toArray, List.set_cons_zero, List.set_cons_succ, i64_w, i32_w]
              rfl
            refine done_ (by kernel_rfl) ?_
            try go_wp2
            go_ret
            exact ⟨by first | rfl | (simp [errW_none, errW_some] <;> rfl) | (simp [*, errW_none, errW_some] <;> rfl), by repeat (first | (with_reducible first | exact HB.out | apply below_alloc | apply pw_below_drewN | apply below_drew1) | exact HB.out)⟩
        · rw [if_neg c4] at H
          exact absurd H (by simp)
      · rw [if_neg c3] at H
        have c3b0 : decide (x5_1 < (l0.length : Int)) = false := decide_eq_false c3
        clear c3
        obtain rfl := Option.some.inj H
        go_wp2
        go_ret
        exact ⟨by first | rfl | (simp [errW_none, errW_some] <;> rfl) | (simp [*, errW_none, errW_some] <;> rfl), by repeat (first | (with_reducible first | exact HB.out | apply below_alloc | apply pw_below_drewN | apply below_drew1) | exact HB.out)⟩

end Go.Proofs.Ytemafjbbopdheaa.P

/- The laws' own functions on plain data: sizes, copies, equality: what each answers. Printed by program out of the types. -/
namespace Go.Proofs.Ytemafjbbopdheaa.P
open Go.RowKit Go.Proofs.YtemafjbbopdheaaW.PrintWords Go.Proofs.YtemafjbbopdheaaL
set_option linter.unusedVariables false
set_option linter.unusedSimpArgs false

theorem eqInt64S_eq {a b : List Int} (hl : a.length ≤ 1048576) {k : Nat} (hk : 1048600 ≤ k) : laws_eqInt64S.f k a b = some (decide (a = b)) := by
  unfold laws_eqInt64S.f
  by_cases h : a.length = b.length
  · rw [if_pos (by omega)]
    refine eq_loop (fun k i => laws_eqInt64S.l0 k a b i) a b h 0 (fun k i h1 h2 _ => ?_) (fun k => ?_) k (by omega)
    · simp only [laws_eqInt64S.l0]
      rw [if_pos (lt_cast h1), if_pos (nn_cast i), if_pos (lt_cast h2), rd_get h1, rd_get h2, wrap_succ h1 (by omega)]

    · simp only [laws_eqInt64S.l0]
      rw [if_neg (nlt_cast _)]
  · rw [if_neg (by omega)]
    have : a ≠ b := fun e => h (by rw [e])
    simp [this]
theorem eqStringS_eq {a b : List ByteArray} (hl : a.length ≤ 1048576) {k : Nat} (hk : 1048600 ≤ k) : laws_eqStringS.f k a b = some (decide (a = b)) := by
  unfold laws_eqStringS.f
  by_cases h : a.length = b.length
  · rw [if_pos (by omega)]
    refine eq_loop (fun k i => laws_eqStringS.l0 k a b i) a b h 0 (fun k i h1 h2 _ => ?_) (fun k => ?_) k (by omega)
    · simp only [laws_eqStringS.l0]
      rw [if_pos (lt_cast h1), if_pos (nn_cast i), if_pos (lt_cast h2), rdOf_get h1, rdOf_get h2, wrap_succ h1 (by omega)]
      by_cases e0 : a[i].toList = b[i].toList
      · rw [if_pos e0, if_pos (bytes_eq.1 e0)]
      · rw [if_neg e0, if_neg (fun e => e0 (bytes_eq.2 e))]
    · simp only [laws_eqStringS.l0]
      rw [if_neg (nlt_cast _)]
  · rw [if_neg (by omega)]
    have : a ≠ b := fun e => h (by rw [e])
    simp [this]
-- Change: fields of other kinds
/-! ### Setting -/
def cSetting (x : S80) : S81 := ⟨x.f0, x.f1⟩
def smSetting (x : S80) : Prop := x.f0.size ≤ 1048576
theorem rd_lSetting {l : List S80} {i : Nat} (h : i < l.length) : rd_T80 l (i : Int) = l[i] := by
  simp [rd_T80, List.getD_eq_getElem?_getD, List.getElem?_eq_getElem h]
theorem rd_iSetting {l : List S81} {i : Nat} (h : i < l.length) : rd_T81 l (i : Int) = l[i] := by
  simp [rd_T81, List.getD_eq_getElem?_getD, List.getElem?_eq_getElem h]
theorem ext_iSetting {a b : S81} : a = b ↔ a.f0.toList = b.f0.toList ∧ a.f1 = b.f1 := by
  simp only [bytes_eq]; cases a; cases b; simp
instance : DecidableEq S81 := fun _ _ => decidable_of_iff _ ext_iSetting.symm
theorem szSetting_some {x : S80} (hg : Go.Proofs.Ytemafjbbopdheaa.g80 x) {a : Int} (ha0 : 0 ≤ a) (ha : a ≤ 1048576) : ∃ r, laws_szSetting.f x.f0 x.f1 a = some r ∧ (r < 0 ∨ (0 ≤ r ∧ r ≤ a ∧ smSetting x)) := by
  unfold laws_szSetting.f smSetting
  have hs0 : x.f0.size ≤ 9223372036854775807 := by have := hg.1; simpa only [maxLen] using this
  rw [wrap_id (x := a - (x.f0.size : Int)) (by omega) (by omega)]
  by_cases h0 : a - (x.f0.size : Int) < 0
  · rw [if_pos h0]; exact ⟨-1, rfl, .inl (by omega)⟩
  rw [if_neg h0]
  exact ⟨_, rfl, .inr ⟨by omega, by omega, by omega⟩⟩
theorem szSettingS_some {l : List S80} (hl : l.length ≤ maxLen) (hg : ∀ y ∈ l, Go.Proofs.Ytemafjbbopdheaa.g80 y) {a : Int} (ha0 : 0 ≤ a) (ha : a ≤ 1048576) {k : Nat} (hk : 1048600 ≤ k) : ∃ r, laws_szSettingS.f k l a = some r ∧ (r < 0 ∨ (0 ≤ r ∧ r ≤ a ∧ l.length ≤ 1048576 ∧ ∀ y ∈ l, smSetting y)) := by
  have hl' : l.length ≤ 9223372036854775807 := by simpa only [maxLen] using hl
  unfold laws_szSettingS.f
  rw [wrap_id (by omega) (by omega)]
  by_cases h0 : a - (l.length : Int) < 0
  · rw [if_pos h0]; exact ⟨-1, rfl, .inl (by omega)⟩
  · rw [if_neg h0]
    have main : ∀ (d k i : Nat) (s : Int), i + d = l.length → 0 + d < k → 0 ≤ s → s ≤ a - l.length → ∃ r, laws_szSettingS.l0 k l s (i : Int) = some r ∧ (r < 0 ∨ (0 ≤ r ∧ r ≤ s ∧ ∀ y ∈ l.drop i, smSetting y)) := by
      intro d
      induction d with
      | zero =>
        intro k i s hi hk h0 h1
        obtain ⟨k, rfl⟩ : ∃ m, k = m + 1 := ⟨k - 1, by omega⟩
        obtain rfl : i = l.length := by omega
        simp only [laws_szSettingS.l0]
        rw [if_neg (nlt_cast _)]
        exact ⟨s, rfl, .inr ⟨h0, by omega, by simp⟩⟩
      | succ d ih =>
        intro k i s hi hk h0 h1
        obtain ⟨k, rfl⟩ : ∃ m, k = m + 1 := ⟨k - 1, by omega⟩
        have hlt : i < l.length := by omega
        simp only [laws_szSettingS.l0]
        rw [if_pos (lt_cast hlt), if_pos (nn_cast i), rd_lSetting hlt, wrap_succ hlt (by omega)]
        obtain ⟨r1, hr1, e1⟩ := szSetting_some (hg l[i] (List.getElem_mem hlt)) (a := s) (by omega) (by omega)
        rw [hr1]; simp only [Option.bind_some]
        by_cases h2 : r1 < 0
        · rw [if_pos h2]
          exact ⟨-1, rfl, .inl (by omega)⟩
        · rw [if_neg h2]
          have e1' := e1.resolve_left h2
          obtain ⟨r, hr, h3⟩ := ih k (i + 1) r1 (by omega) (by omega) (by omega) (by omega)
          refine ⟨r, hr, h3.imp id fun h3 => ⟨h3.1, by omega, ?_⟩⟩
          rw [drop_cons hlt]
          intro y hy
          rcases List.mem_cons.1 hy with rfl | hy
          · exact e1'.2.2
          · exact h3.2.2 y hy
    obtain ⟨r, hr, h⟩ := main l.length k 0 (a - l.length) (by omega) (by omega) (by omega) (by omega)
    refine ⟨r, hr, h.imp id fun h => ⟨h.1, by omega, by omega, ?_⟩⟩
    simpa using h.2.2
theorem toSetting_eq {x : S80} (hs : smSetting x) : laws_toSetting.f x.f0 x.f1 = some ((cSetting x).f0, (cSetting x).f1) := by
  unfold smSetting at hs
  unfold laws_toSetting.f
  rfl
theorem toSettingS_eq {l : List S80} (hl : l.length ≤ 1048576) (hs : ∀ y ∈ l, smSetting y) {k : Nat} (hk : 1048600 ≤ k) : laws_toSettingS.f k l = some (l.map cSetting) := by
  unfold laws_toSettingS.f
  rw [if_pos (nn_cast _), if_pos (by simp; omega)]
  refine set_loop (fun k acc i => laws_toSettingS.l0 k l acc i) l cSetting 0 (fun k i hi acc ha hB => ?_) (fun k acc => ?_) k _ (by omega) (by simp)
  · simp only [laws_toSettingS.l0]
    rw [if_pos (lt_cast hi), if_pos (nn_cast i), rd_lSetting hi, wrap_succ hi (by omega), toSetting_eq (hs _ (List.getElem_mem hi))]
    simp only [Option.bind_some]
    rw [if_pos (by omega)]
    rfl
  · simp only [laws_toSettingS.l0]
    rw [if_neg (nlt_cast _)]
def smiSetting (x : S81) : Prop := True
theorem smi_cSetting {x : S80} (hs : smSetting x) : smiSetting (cSetting x) := by
  unfold smSetting at hs
  unfold smiSetting
  trivial
theorem eqSetting_eq {a b : S81} (hs : smiSetting a) : laws_eqSetting.f a.f0 a.f1 b.f0 b.f1 = some (decide (a = b)) := by
  unfold smiSetting at hs
  unfold laws_eqSetting.f
  by_cases e0 : a.f0.toList = b.f0.toList
  rotate_left
  · rw [if_neg e0]; have hne : ¬ a = b := fun e => e0 (ext_iSetting.1 e).1; simp [hne]
  rw [if_pos e0]
  by_cases e1 : a.f1 = b.f1
  rotate_left
  · rw [if_neg e1]; have hne : ¬ a = b := fun e => e1 (ext_iSetting.1 e).2; simp [hne]
  rw [if_pos e1]
  rw [decide_eq_true (ext_iSetting.2 ⟨e0, e1⟩)]
theorem eqSettingS_eq {a b : List S81} (hl : a.length ≤ 1048576) (hs : ∀ y ∈ a, smiSetting y) {k : Nat} (hk : 1048600 ≤ k) : laws_eqSettingS.f k a b = some (decide (a = b)) := by
  unfold laws_eqSettingS.f
  by_cases h : a.length = b.length
  · rw [if_pos (by omega)]
    refine eq_loop (fun k i => laws_eqSettingS.l0 k a b i) a b h 0 (fun k i h1 h2 hB => ?_) (fun k => ?_) k (by omega)
    · simp only [laws_eqSettingS.l0]
      rw [if_pos (lt_cast h1), if_pos (nn_cast i), if_pos (lt_cast h2), rd_iSetting h1, rd_iSetting h2, wrap_succ h1 (by omega), eqSetting_eq (hs _ (List.getElem_mem h1))]
      simp only [Option.bind_some, decide_eq_true_eq]
    · simp only [laws_eqSettingS.l0]
      rw [if_neg (nlt_cast _)]
  · rw [if_neg (by omega)]
    have : a ≠ b := fun e => h (by rw [e])
    simp [this]
/-! ### Version -/
def cVersion (x : S87) : S89 := ⟨x.f0, x.f1, x.f2, (x.f3.map cSetting)⟩
def smVersion (x : S87) : Prop := x.f2.size ≤ 1048576 ∧ (x.f3.length ≤ 1048576 ∧ ∀ y ∈ x.f3, smSetting y)
theorem rd_lVersion {l : List S87} {i : Nat} (h : i < l.length) : rd_T87 l (i : Int) = l[i] := by
  simp [rd_T87, List.getD_eq_getElem?_getD, List.getElem?_eq_getElem h]
theorem rd_iVersion {l : List S89} {i : Nat} (h : i < l.length) : rd_T89 l (i : Int) = l[i] := by
  simp [rd_T89, List.getD_eq_getElem?_getD, List.getElem?_eq_getElem h]
theorem ext_iVersion {a b : S89} : a = b ↔ a.f0 = b.f0 ∧ a.f1 = b.f1 ∧ a.f2.toList = b.f2.toList ∧ a.f3 = b.f3 := by
  simp only [bytes_eq]; cases a; cases b; simp
instance : DecidableEq S89 := fun _ _ => decidable_of_iff _ ext_iVersion.symm
theorem szVersion_some {x : S87} (hg : Go.Proofs.Ytemafjbbopdheaa.g87 x) {a : Int} (ha0 : 0 ≤ a) (ha : a ≤ 1048576) {k : Nat} (hk : 1048600 ≤ k) : ∃ r, laws_szVersion.f k x.f0 x.f1 x.f2 x.f3 a = some r ∧ (r < 0 ∨ (0 ≤ r ∧ r ≤ a ∧ smVersion x)) := by
  unfold laws_szVersion.f smVersion
  have hs2 : x.f2.size ≤ 9223372036854775807 := by have := hg.2.2.1; simpa only [maxLen] using this
  rw [wrap_id (x := a - (x.f2.size : Int)) (by omega) (by omega)]
  by_cases h2 : a - (x.f2.size : Int) < 0
  · rw [if_pos h2]; exact ⟨-1, rfl, .inl (by omega)⟩
  rw [if_neg h2]
  obtain ⟨r3, hr3, e3⟩ := szSettingS_some (l := x.f3) hg.2.2.2.1 hg.2.2.2.2 (a := (a - (x.f2.size : Int))) (by omega) (by omega) (k := k) (by omega)
  rw [hr3]; simp only [Option.bind_some]
  by_cases h3 : r3 < 0
  · rw [if_pos h3]; exact ⟨-1, rfl, .inl (by omega)⟩
  rw [if_neg h3]
  have e3' := e3.resolve_left h3
  exact ⟨_, rfl, .inr ⟨by omega, by omega, by omega, ⟨by omega, e3'.2.2.2⟩⟩⟩
theorem szVersionS_some {l : List S87} (hl : l.length ≤ maxLen) (hg : ∀ y ∈ l, Go.Proofs.Ytemafjbbopdheaa.g87 y) {a : Int} (ha0 : 0 ≤ a) (ha : a ≤ 1048576) {k : Nat} (hk : 2097200 ≤ k) : ∃ r, laws_szVersionS.f k l a = some r ∧ (r < 0 ∨ (0 ≤ r ∧ r ≤ a ∧ l.length ≤ 1048576 ∧ ∀ y ∈ l, smVersion y)) := by
  have hl' : l.length ≤ 9223372036854775807 := by simpa only [maxLen] using hl
  unfold laws_szVersionS.f
  rw [wrap_id (by omega) (by omega)]
  by_cases h0 : a - (l.length : Int) < 0
  · rw [if_pos h0]; exact ⟨-1, rfl, .inl (by omega)⟩
  · rw [if_neg h0]
    have main : ∀ (d k i : Nat) (s : Int), i + d = l.length → 1048600 + d < k → 0 ≤ s → s ≤ a - l.length → ∃ r, laws_szVersionS.l0 k l s (i : Int) = some r ∧ (r < 0 ∨ (0 ≤ r ∧ r ≤ s ∧ ∀ y ∈ l.drop i, smVersion y)) := by
      intro d
      induction d with
      | zero =>
        intro k i s hi hk h0 h1
        obtain ⟨k, rfl⟩ : ∃ m, k = m + 1 := ⟨k - 1, by omega⟩
        obtain rfl : i = l.length := by omega
        simp only [laws_szVersionS.l0]
        rw [if_neg (nlt_cast _)]
        exact ⟨s, rfl, .inr ⟨h0, by omega, by simp⟩⟩
      | succ d ih =>
        intro k i s hi hk h0 h1
        obtain ⟨k, rfl⟩ : ∃ m, k = m + 1 := ⟨k - 1, by omega⟩
        have hlt : i < l.length := by omega
        simp only [laws_szVersionS.l0]
        rw [if_pos (lt_cast hlt), if_pos (nn_cast i), rd_lVersion hlt, wrap_succ hlt (by omega)]
        obtain ⟨r1, hr1, e1⟩ := szVersion_some (hg l[i] (List.getElem_mem hlt)) (a := s) (by omega) (by omega) (k := k) (by omega)
        rw [hr1]; simp only [Option.bind_some]
        by_cases h2 : r1 < 0
        · rw [if_pos h2]
          exact ⟨-1, rfl, .inl (by omega)⟩
        · rw [if_neg h2]
          have e1' := e1.resolve_left h2
          obtain ⟨r, hr, h3⟩ := ih k (i + 1) r1 (by omega) (by omega) (by omega) (by omega)
          refine ⟨r, hr, h3.imp id fun h3 => ⟨h3.1, by omega, ?_⟩⟩
          rw [drop_cons hlt]
          intro y hy
          rcases List.mem_cons.1 hy with rfl | hy
          · exact e1'.2.2
          · exact h3.2.2 y hy
    obtain ⟨r, hr, h⟩ := main l.length k 0 (a - l.length) (by omega) (by omega) (by omega) (by omega)
    refine ⟨r, hr, h.imp id fun h => ⟨h.1, by omega, by omega, ?_⟩⟩
    simpa using h.2.2
theorem toVersion_eq {x : S87} (hs : smVersion x) {k : Nat} (hk : 1048600 ≤ k) : laws_toVersion.f k x.f0 x.f1 x.f2 x.f3 = some ((cVersion x).f0, (cVersion x).f1, (cVersion x).f2, (cVersion x).f3) := by
  unfold smVersion at hs
  unfold laws_toVersion.f
  rw [toSettingS_eq (hs.2).1 (hs.2).2 (by omega)]; simp only [Option.bind_some]
  rfl
theorem toVersionS_eq {l : List S87} (hl : l.length ≤ 1048576) (hs : ∀ y ∈ l, smVersion y) {k : Nat} (hk : 2097200 ≤ k) : laws_toVersionS.f k l = some (l.map cVersion) := by
  unfold laws_toVersionS.f
  rw [if_pos (nn_cast _), if_pos (by simp; omega)]
  refine set_loop (fun k acc i => laws_toVersionS.l0 k l acc i) l cVersion 1048600 (fun k i hi acc ha hB => ?_) (fun k acc => ?_) k _ (by omega) (by simp)
  · simp only [laws_toVersionS.l0]
    rw [if_pos (lt_cast hi), if_pos (nn_cast i), rd_lVersion hi, wrap_succ hi (by omega), toVersion_eq (hs _ (List.getElem_mem hi)) hB]
    simp only [Option.bind_some]
    rw [if_pos (by omega)]
    rfl
  · simp only [laws_toVersionS.l0]
    rw [if_neg (nlt_cast _)]
def smiVersion (x : S89) : Prop := (x.f3.length ≤ 1048576 ∧ ∀ y ∈ x.f3, smiSetting y)
theorem smi_cVersion {x : S87} (hs : smVersion x) : smiVersion (cVersion x) := by
  unfold smVersion at hs
  unfold smiVersion cVersion
  exact ⟨by simpa using (hs.2).1, fun y hy => by obtain ⟨z, hz, rfl⟩ := List.mem_map.1 hy; exact smi_cSetting ((hs.2).2 z hz)⟩
theorem eqVersion_eq {a b : S89} (hs : smiVersion a) {k : Nat} (hk : 1048600 ≤ k) : laws_eqVersion.f k a.f0 a.f1 a.f2 a.f3 b.f0 b.f1 b.f2 b.f3 = some (decide (a = b)) := by
  unfold smiVersion at hs
  unfold laws_eqVersion.f
  by_cases e0 : a.f0 = b.f0
  rotate_left
  · rw [if_neg e0]; have hne : ¬ a = b := fun e => e0 (ext_iVersion.1 e).1; simp [hne]
  rw [if_pos e0]
  by_cases e1 : a.f1 = b.f1
  rotate_left
  · rw [if_neg e1]; have hne : ¬ a = b := fun e => e1 (ext_iVersion.1 e).2.1; simp [hne]
  rw [if_pos e1]
  by_cases e2 : a.f2.toList = b.f2.toList
  rotate_left
  · rw [if_neg e2]; have hne : ¬ a = b := fun e => e2 (ext_iVersion.1 e).2.2.1; simp [hne]
  rw [if_pos e2]
  rw [eqSettingS_eq (hs).1 (hs).2 (by omega)]; simp only [Option.bind_some]
  by_cases e3 : a.f3 = b.f3
  rotate_left
  · rw [if_neg (by simp [e3])]; have hne : ¬ a = b := fun e => e3 (ext_iVersion.1 e).2.2.2; simp [hne]
  rw [if_pos (by simp [e3])]
  rw [decide_eq_true (ext_iVersion.2 ⟨e0, e1, e2, e3⟩)]
theorem eqVersionS_eq {a b : List S89} (hl : a.length ≤ 1048576) (hs : ∀ y ∈ a, smiVersion y) {k : Nat} (hk : 2097200 ≤ k) : laws_eqVersionS.f k a b = some (decide (a = b)) := by
  unfold laws_eqVersionS.f
  by_cases h : a.length = b.length
  · rw [if_pos (by omega)]
    refine eq_loop (fun k i => laws_eqVersionS.l0 k a b i) a b h 1048600 (fun k i h1 h2 hB => ?_) (fun k => ?_) k (by omega)
    · simp only [laws_eqVersionS.l0]
      rw [if_pos (lt_cast h1), if_pos (nn_cast i), if_pos (lt_cast h2), rd_iVersion h1, rd_iVersion h2, wrap_succ h1 (by omega), eqVersion_eq (hs _ (List.getElem_mem h1)) hB]
      simp only [Option.bind_some, decide_eq_true_eq]
    · simp only [laws_eqVersionS.l0]
      rw [if_neg (nlt_cast _)]
  · rw [if_neg (by omega)]
    have : a ≠ b := fun e => h (by rw [e])
    simp [this]
/-! ### marks -/
def mt (n : Int) : ByteArray := (laws_markText.f 100 n).getD ⟨#[]⟩
theorem strOf_one (x : Int) : (strOfNums [x]).size = 1 := rfl
theorem markText_some : ∀ (d k : Nat) (n : Int) (s : ByteArray), 0 ≤ n → n ≤ 9223372036854775807 → n < 10 ^ d → s.size + d ≤ 1000 → d < k → ∃ r, laws_markText.l0 k n s = some r := by
  intro d
  induction d with
  | zero =>
    intro k n s h0 hb h1 hs hk
    obtain ⟨k, rfl⟩ : ∃ m, k = m + 1 := ⟨k - 1, by omega⟩
    have : n = 0 := by simp at h1; omega
    subst this
    simp only [laws_markText.l0]
    rw [if_neg (by omega), if_pos (by omega)]
    exact ⟨_, rfl⟩
  | succ d ih =>
    intro k n s h0 hb h1 hs hk
    obtain ⟨k, rfl⟩ : ∃ m, k = m + 1 := ⟨k - 1, by omega⟩
    simp only [laws_markText.l0]
    by_cases h : n > 0
    · rw [if_pos h]
      simp only [Option.bind_some]
      rw [if_pos (by rw [strOf_one]; omega)]
      have e : wrap64 (n.tdiv 10) = n / 10 := by
        rw [Int.tdiv_eq_ediv_of_nonneg h0, wrap_id (by omega) (by omega)]
      rw [e]
      refine ih k _ _ (by omega) (by omega) ?_ ?_ (by omega)
      · have : (10 : Int) ^ (d + 1) = 10 ^ d * 10 := by rw [Int.pow_succ]
        rw [this] at h1
        exact Int.ediv_lt_of_lt_mul (by omega) h1
      · rw [ByteArray.size_append, strOf_one]; omega
    · rw [if_neg h, if_pos (by omega)]
      exact ⟨_, rfl⟩
theorem markText_eq {n : Int} (h0 : 0 ≤ n) (h : n ≤ 1073741824) {k : Nat} (hk : 100 ≤ k) : laws_markText.f k n = some (mt n) := by
  have hs : ∃ r, laws_markText.f 100 n = some r := by
    unfold laws_markText.f
    by_cases h1 : n ≤ 0
    · rw [if_pos h1]; exact ⟨_, rfl⟩
    · rw [if_neg h1]
      exact markText_some 12 100 n _ h0 (by omega) (by omega) (by decide) (by omega)
  obtain ⟨r, hr⟩ := hs
  have := at_rounds (fun k => laws_markText.mono n k) hk hr
  rw [this]
  unfold mt
  rw [hr]; rfl
def mkInt64S (l : List Int) (m : Int) : List Int := mkl (fun _ m => m) (fun _ => 1) l m
theorem markInt64S_eq {l : List Int} {m : Int} (hm : 0 ≤ m) (hb : m + l.length ≤ 1073741824) {k : Nat} (hk : 200 + l.length ≤ k) : laws_markInt64S.f k l m = some (m + l.length, mkInt64S l m) := by
  unfold laws_markInt64S.f mkInt64S
  have h := mark_loop (fun k l m i => laws_markInt64S.l0 k l m i) (fun _ m => m) (fun _ => 1) 1073741824 100 (fun _ => by omega) (fun k pre x rest m hB hp hm hM => ?_) (fun k l m => ?_) k l m (by omega) (by omega) hm (by rw [mtot_const]; omega)
  · rw [mtot_const] at h
    rw [show m + (l.length : Int) = m + 1 * l.length from by omega]
    exact h
  · simp only [laws_markInt64S.l0]
    rw [if_pos (by simp; omega), if_pos (nn_cast _), set_mid, wrap_id (x := m + 1) (by omega) (by omega), wrap_succ (i := pre.length) (n := pre.length + 1) (by omega) (by omega)]
  · simp only [laws_markInt64S.l0]
    rw [if_neg (nlt_cast _)]
theorem heldInt64S_mk {l : List Int} {m0 : Int} (hm : 0 ≤ m0) (hb : m0 + l.length ≤ 1073741824) {k : Nat} (hk : 200 + l.length ≤ k) : laws_heldInt64S.f k (mkInt64S l m0) m0 = some (m0 + l.length) := by
  unfold laws_heldInt64S.f
  have h := held_loop (fun k m i => laws_heldInt64S.l0 k (mkInt64S l m0) m i) (fun _ m => m) (fun _ => 1) 1073741824 100 (fun _ => by omega) (mkInt64S l m0) (fun k pre x rest m he hB hp hm hM => ?_) (fun k m => ?_) k l m0 rfl (by omega) (by omega) hm (by rw [mtot_const]; omega)
  · rw [mtot_const] at h
    rw [show m0 + (l.length : Int) = m0 + 1 * l.length from by omega]
    exact h
  · simp only [laws_heldInt64S.l0]
    rw [if_pos (by rw [he]; simp; omega), if_pos (nn_cast _), he, rd_mid, if_pos rfl, wrap_id (x := m + 1) (by omega) (by omega), wrap_succ (i := pre.length) (n := pre.length + 1) (by omega) (by omega)]
  · simp only [laws_heldInt64S.l0]
    rw [if_neg (nlt_cast _)]
def mkStringS (l : List ByteArray) (m : Int) : List ByteArray := mkl (fun _ m => mt m) (fun _ => 1) l m
theorem markStringS_eq {l : List ByteArray} {m : Int} (hm : 0 ≤ m) (hb : m + l.length ≤ 1073741824) {k : Nat} (hk : 200 + l.length ≤ k) : laws_markStringS.f k l m = some (m + l.length, mkStringS l m) := by
  unfold laws_markStringS.f mkStringS
  have h := mark_loop (fun k l m i => laws_markStringS.l0 k l m i) (fun _ m => mt m) (fun _ => 1) 1073741824 100 (fun _ => by omega) (fun k pre x rest m hB hp hm hM => ?_) (fun k l m => ?_) k l m (by omega) (by omega) hm (by rw [mtot_const]; omega)
  · rw [mtot_const] at h
    rw [show m + (l.length : Int) = m + 1 * l.length from by omega]
    exact h
  · simp only [laws_markStringS.l0]
    rw [if_pos (by simp; omega), markText_eq hm (by omega) hB]
    simp only [Option.bind_some]
    rw [if_pos (nn_cast _), set_mid, wrap_id (x := m + 1) (by omega) (by omega), wrap_succ (i := pre.length) (n := pre.length + 1) (by omega) (by omega)]
  · simp only [laws_markStringS.l0]
    rw [if_neg (nlt_cast _)]
theorem heldStringS_mk {l : List ByteArray} {m0 : Int} (hm : 0 ≤ m0) (hb : m0 + l.length ≤ 1073741824) {k : Nat} (hk : 200 + l.length ≤ k) : laws_heldStringS.f k (mkStringS l m0) m0 = some (m0 + l.length) := by
  unfold laws_heldStringS.f
  have h := held_loop (fun k m i => laws_heldStringS.l0 k (mkStringS l m0) m i) (fun _ m => mt m) (fun _ => 1) 1073741824 100 (fun _ => by omega) (mkStringS l m0) (fun k pre x rest m he hB hp hm hM => ?_) (fun k m => ?_) k l m0 rfl (by omega) (by omega) hm (by rw [mtot_const]; omega)
  · rw [mtot_const] at h
    rw [show m0 + (l.length : Int) = m0 + 1 * l.length from by omega]
    exact h
  · simp only [laws_heldStringS.l0]
    rw [if_pos (by rw [he]; simp; omega), if_pos (nn_cast _), markText_eq hm (by omega) hB]
    simp only [Option.bind_some]
    rw [he, rdOf_mid, if_pos rfl, wrap_id (x := m + 1) (by omega) (by omega), wrap_succ (i := pre.length) (n := pre.length + 1) (by omega) (by omega)]
  · simp only [laws_heldStringS.l0]
    rw [if_neg (nlt_cast _)]
theorem rdm_iSetting {pre rest : List S81} {x : S81} : rd_T81 (pre ++ x :: rest) (pre.length : Int) = x := by simp [rd_T81]
def mkSettingS (l : List S81) (m : Int) : List S81 := mkl (fun (_ : S81) m => (⟨mt (m), m + 1⟩ : S81)) (fun _ => 2) l m
theorem markSettingS_eq {l : List S81} {m : Int} (hm : 0 ≤ m) (hb : m + 2 * l.length ≤ 1073741824) {k : Nat} (hk : 200 + l.length ≤ k) : laws_markSettingS.f k l m = some (m + 2 * l.length, mkSettingS l m) := by
  unfold laws_markSettingS.f mkSettingS
  have h := mark_loop (fun k l m i => laws_markSettingS.l0 k l m i) (fun (_ : S81) m => (⟨mt (m), m + 1⟩ : S81)) (fun _ => 2) 1073741824 100 (fun _ => by omega) (fun k pre x rest m hB hp hm hM => ?_) (fun k l m => ?_) k l m (by omega) (by omega) hm (by rw [mtot_const]; omega)
  · rw [mtot_const] at h
    exact h
  · simp only [laws_markSettingS.l0]
    have w1 : wrap64 (m + 1) = m + 1 := wrap_id (by omega) (by omega)
    have w2 : wrap64 ((m + 1) + 1) = m + 1 + 1 := wrap_id (by omega) (by omega)
    have t0 := fun k (hB : 100 ≤ k) => markText_eq (n := m) (by omega) (by omega) hB
    rw [if_pos (by simp; omega)]
    simp only [Option.bind_some, w1, w2, t0 _ hB]
    (try rw [if_pos (nn_cast _)])
    simp only [Option.bind_some, rdm_iSetting, set_mid, w1, w2, t0 _ hB]
    (try rw [if_pos (nn_cast _)])
    (try simp only [Option.bind_some, rdm_iSetting, set_mid, w1, w2])
    rw [wrap_succ (i := pre.length) (n := pre.length + 1) (by omega) (by omega), show m + (2 : Int) = m + 1 + 1 from by omega]
  · simp only [laws_markSettingS.l0]
    rw [if_neg (nlt_cast _)]
theorem heldSettingS_mk {l : List S81} {m0 : Int} (hm : 0 ≤ m0) (hb : m0 + 2 * l.length ≤ 1073741824) {k : Nat} (hk : 200 + l.length ≤ k) : laws_heldSettingS.f k (mkSettingS l m0) m0 = some (m0 + 2 * l.length) := by
  unfold laws_heldSettingS.f
  have h := held_loop (fun k m i => laws_heldSettingS.l0 k (mkSettingS l m0) m i) (fun (_ : S81) m => (⟨mt (m), m + 1⟩ : S81)) (fun _ => 2) 1073741824 100 (fun _ => by omega) (mkSettingS l m0) (fun k pre x rest m he hB hp hm hM => ?_) (fun k m => ?_) k l m0 rfl (by omega) (by omega) hm (by rw [mtot_const]; omega)
  · rw [mtot_const] at h
    exact h
  · simp only [laws_heldSettingS.l0]
    have w1 : wrap64 (m + 1) = m + 1 := wrap_id (by omega) (by omega)
    have w2 : wrap64 ((m + 1) + 1) = m + 1 + 1 := wrap_id (by omega) (by omega)
    have t0 := fun k (hB : 100 ≤ k) => markText_eq (n := m) (by omega) (by omega) hB
    rw [if_pos (by rw [he]; simp; omega), if_pos (nn_cast _)]
    simp only [he, rdm_iSetting, Option.bind_some, w1, w2, t0 _ hB, if_true]
    rw [wrap_succ (i := pre.length) (n := pre.length + 1) (by omega) (by omega), show m + (2 : Int) = m + 1 + 1 from by omega]
  · simp only [laws_heldSettingS.l0]
    rw [if_neg (nlt_cast _)]
end Go.Proofs.Ytemafjbbopdheaa.P

/- Valid states: the reference's and the program's test answer the same. -/
namespace Go.Proofs.Ytemafjbbopdheaa.P
open Go.RowKit Go.Proofs.YtemafjbbopdheaaW.PrintWords Go.Proofs.YtemafjbbopdheaaL

def settingB (x : S81) : Bool := nameB x.f0 && (decide (0 ≤ x.f1) && decide (x.f1 ≤ 1000))
def stateAt (l : List S81) (i : Nat) : Bool := settingB (rd_T81 l (i : Int)) && (decide (i = 0) || Op.bytesLess (rd_T81 l ((i - 1 : Nat) : Int)).f0.toList (rd_T81 l (i : Int)).f0.toList)
def stateB (l : List S81) : Bool := (List.range l.length).all (stateAt l) && decide (l.length ≤ 24)

theorem l27Setting_e_eq (l : List S81) (i : Int) {k : Nat} (hk : 20 ≤ k) : spec_l27Setting_e.f k l i = some (settingB (rd_T81 l i)) := by
  unfold spec_l27Setting_e.f settingB
  rw [l01Name_eq _ hk]; simp only [Option.bind_some, in_eq]
  by_cases h : nameB (rd_T81 l i).f0 = true
  · rw [if_pos h]; simp [h]
  · rw [if_neg h]; simp [h]
theorem Setting_valid_eq (x : S81) {k : Nat} (hk : 20 ≤ k) : impl_Setting_valid.f k x.f0 x.f1 = some (settingB x) := by
  unfold impl_Setting_valid.f settingB
  rw [IsName_eq _ hk]; simp only [Option.bind_some, within_eq]
  by_cases h : nameB x.f0 = true
  · rw [if_pos h]; simp [h]
  · rw [if_neg h]; simp [h]

theorem l27State_eq {l : List S81} (hl : l.length ≤ 1048576) {k : Nat} (hk : 1048600 ≤ k) : spec_l27State.f k l = some (stateB l) := by
  unfold spec_l27State.f stateB
  refine all_loop (fun k i => spec_l27State.l0 k l i) l.length (stateAt l) (decide (l.length ≤ 24)) 20 (fun k i hi hB => ?_) (fun k _ => ?_) k (by omega)
  · simp only [spec_l27State.l0]
    rw [if_pos (lt_cast hi), if_pos (nn_cast i), l27Setting_e_eq _ _ hB, wrap_succ hi (by omega)]
    simp only [Option.bind_some, stateAt]
    by_cases h : settingB (rd_T81 l (i : Int)) = true
    · rw [if_pos h]
      by_cases h0 : i = 0
      · rw [if_neg (by omega)]; simp only [h, decide_eq_true h0, Bool.true_or, Bool.and_self, if_true]
      · rw [if_pos (by omega), pred_cast (by omega) hi (by omega), if_pos (nn_cast _), if_pos (by omega)]
        simp [h, h0]
    · rw [if_neg h]; simp [h]
  · simp only [spec_l27State.l0]
    rw [if_neg (nlt_cast _)]
    congr 2
    exact propext (by omega)
theorem ValidState_eq {l : List S81} (hl : l.length ≤ 1048576) {k : Nat} (hk : 1048600 ≤ k) : impl_ValidState.f k l = some (stateB l) := by
  unfold impl_ValidState.f stateB
  by_cases h24 : (l.length : Int) > 24
  · rw [if_pos h24]
    have : ¬ l.length ≤ 24 := by omega
    simp [this]
  · rw [if_neg h24]
    have h24' : l.length ≤ 24 := by omega
    rw [decide_eq_true h24']
    refine all_loop (fun k i => impl_ValidState.l0 k l l (l.length : Int) i) l.length (stateAt l) true 20 (fun k i hi hB => ?_) (fun k _ => ?_) k (by omega)
    · simp only [impl_ValidState.l0]
      rw [if_pos (lt_cast hi), if_pos (nn_cast i), if_pos (lt_cast hi), Setting_valid_eq _ hB, wrap_succ hi (by omega)]
      simp only [Option.bind_some, stateAt]
      by_cases h : settingB (rd_T81 l (i : Int)) = true
      · rw [if_pos h]
        by_cases h0 : i = 0
        · rw [if_neg (by omega)]; simp only [h, decide_eq_true h0, Bool.true_or, Bool.and_self, if_true]
        · rw [if_pos (by omega), pred_cast (by omega) hi (by omega), if_pos (nn_cast _), if_pos (by omega)]
          simp [h, h0]
      · rw [if_neg h]; simp [h]
    · simp only [impl_ValidState.l0]
      rw [if_neg (nlt_cast _)]
end Go.Proofs.Ytemafjbbopdheaa.P

/- Valid histories: the reference's and the program's test answer the same. -/
namespace Go.Proofs.Ytemafjbbopdheaa.P
open Go.RowKit Go.Proofs.YtemafjbbopdheaaW.PrintWords Go.Proofs.YtemafjbbopdheaaL

def memoB (s : ByteArray) : Bool := (List.range s.size).all (fun i => decide (32 ≤ bt s (i : Int)) && decide (bt s (i : Int) ≤ 126)) && decide (s.size ≤ 20)
def versionAt (l : List S89) (i : Nat) : Bool := decide ((rd_T89 l (i : Int)).f0 = (i : Int) + 1) && (decide (0 ≤ (rd_T89 l (i : Int)).f1) && decide ((rd_T89 l (i : Int)).f1 ≤ (i : Int))) && memoB (rd_T89 l (i : Int)).f2 && stateB (rd_T89 l (i : Int)).f3
def historyB (l : List S89) : Bool := (List.range l.length).all (versionAt l) && decide (l.length ≤ 32)

theorem l27Memo_eq {s : ByteArray} (hs : s.size ≤ 1048576) {k : Nat} (hk : 1048600 ≤ k) : spec_l27Memo.f k s = some (memoB s) := by
  unfold spec_l27Memo.f memoB
  refine all_loop (fun k i => spec_l27Memo.l0 k s i) s.size _ _ 0 (fun k i hi hB => ?_) (fun k _ => ?_) k (by omega)
  · simp only [spec_l27Memo.l0]
    rw [if_pos (lt_cast hi), if_pos (nn_cast i), wrap_succ hi (by omega)]
    by_cases h1 : bt s (i : Int) < 32
    · have : ¬ 32 ≤ bt s (i : Int) := by omega
      rw [if_pos h1]; simp [this]
    · have h1' : 32 ≤ bt s (i : Int) := by omega
      rw [if_neg h1]
      by_cases h2 : bt s (i : Int) > 126
      · have : ¬ bt s (i : Int) ≤ 126 := by omega
        rw [if_pos h2]; simp [this]
      · have h2' : bt s (i : Int) ≤ 126 := by omega
        rw [if_neg h2]; simp [h1', h2']
  · simp only [spec_l27Memo.l0]
    rw [if_neg (nlt_cast _)]
    congr 2
    exact propext (by omega)
theorem memoValid_eq (s : ByteArray) {k : Nat} (hk : 1048600 ≤ k) : impl_memoValid.f k s = some (memoB s) := by
  unfold impl_memoValid.f memoB
  by_cases h : (s.size : Int) ≤ 20
  · rw [if_pos h]
    have h' : s.size ≤ 20 := by omega
    unfold impl_bytesWithin.f
    rw [all_loop (fun k i => impl_bytesWithin.l0 k s 32 126 (s.size : Int) i) s.size (fun i => decide (32 ≤ bt s (i : Int)) && decide (bt s (i : Int) ≤ 126)) true 0 (fun k i hi hB => ?_) (fun k _ => ?_) k (by omega)]
    · simp [h']
    · simp only [impl_bytesWithin.l0]
      rw [if_pos (lt_cast hi), if_pos (nn_cast i), if_pos (lt_cast hi), wrap_succ hi (by omega)]
      by_cases h1 : bt s (i : Int) < 32
      · have : ¬ 32 ≤ bt s (i : Int) := by omega
        rw [if_pos h1]; simp [this]
      · have h1' : 32 ≤ bt s (i : Int) := by omega
        rw [if_neg h1]
        by_cases h2 : bt s (i : Int) > 126
        · have : ¬ bt s (i : Int) ≤ 126 := by omega
          rw [if_pos h2]; simp [this]
        · have h2' : bt s (i : Int) ≤ 126 := by omega
          rw [if_neg h2]; simp [h1', h2']
    · simp only [impl_bytesWithin.l0]
      rw [if_neg (nlt_cast _)]
  · rw [if_neg h]
    have h' : ¬ s.size ≤ 20 := by omega
    simp [h']

/-- Within the sizes that the laws let in. -/
def okV (x : S89) : Prop := x.f2.size ≤ 1048576 ∧ x.f3.length ≤ 1048576
theorem versionAt_eq {l : List S89} {i : Nat} : versionAt l i = (decide ((rd_T89 l (i : Int)).f0 = (i : Int) + 1) && (decide (0 ≤ (rd_T89 l (i : Int)).f1) && decide ((rd_T89 l (i : Int)).f1 ≤ (i : Int))) && memoB (rd_T89 l (i : Int)).f2 && stateB (rd_T89 l (i : Int)).f3) := rfl
theorem l27Ok_eq {l : List S89} (hl : l.length ≤ 1048576) (hs : ∀ y ∈ l, okV y) {k : Nat} (hk : 2097200 ≤ k) : spec_l27Ok.f k l = some (historyB l) := by
  unfold spec_l27Ok.f historyB
  refine all_loop (fun k i => spec_l27Ok.l0 k l i) l.length (versionAt l) _ 1048600 (fun k i hi hB => ?_) (fun k _ => ?_) k (by omega)
  · have ho := hs l[i] (List.getElem_mem hi)
    have hr := rd_iVersion hi
    simp only [spec_l27Ok.l0, versionAt_eq, hr]
    rw [if_pos (lt_cast hi), if_pos (nn_cast i), wrap_succ hi (by omega)]
    rw [in_eq, l27Memo_eq ho.1 hB, l27State_eq ho.2 hB]
    simp only [Option.bind_some]
    by_cases h1 : l[i].f0 = ((i + 1 : Nat) : Int)
    · have h1' : l[i].f0 = (i : Int) + 1 := by omega
      rw [if_pos h1, decide_eq_true h1']
      by_cases h2 : (decide (0 ≤ l[i].f1) && decide (l[i].f1 ≤ (i : Int))) = true
      · rw [if_pos h2, h2]
        by_cases h3 : memoB l[i].f2 = true
        · rw [if_pos h3, h3]
          by_cases h4 : stateB l[i].f3 = true
          · rw [if_pos h4, h4]; simp
          · rw [if_neg h4]; simp [h4]
        · rw [if_neg h3]; simp [h3]
      · rw [if_neg h2]; rw [Bool.not_eq_true] at h2; rw [h2]; simp
    · have h1' : ¬ l[i].f0 = (i : Int) + 1 := by omega
      rw [if_neg h1, decide_eq_false h1']; simp
  · simp only [spec_l27Ok.l0]
    rw [if_neg (nlt_cast _)]
    congr 2
    exact propext (by omega)
theorem ValidHistory_eq {l : List S89} (hl : l.length ≤ 1048576) (hs : ∀ y ∈ l, okV y) {k : Nat} (hk : 2097200 ≤ k) : impl_ValidHistory.f k l = some (historyB l) := by
  unfold impl_ValidHistory.f historyB
  by_cases h32 : (l.length : Int) > 32
  · rw [if_pos h32]
    have : ¬ l.length ≤ 32 := by omega
    simp [this]
  rw [if_neg h32]
  have h32' : l.length ≤ 32 := by omega
  rw [decide_eq_true h32']
  refine all_loop (fun k i => impl_ValidHistory.l0 k l (l.length : Int) i) l.length (versionAt l) true 1048600 (fun k i hi hB => ?_) (fun k _ => ?_) k (by omega)
  · have ho := hs l[i] (List.getElem_mem hi)
    have hr := rd_iVersion hi
    simp only [impl_ValidHistory.l0, versionAt_eq, hr]
    rw [if_pos (lt_cast hi), if_pos (nn_cast i), if_pos (lt_cast hi), wrap_succ hi (by omega)]
    rw [within_eq, memoValid_eq _ hB, ValidState_eq ho.2 hB]
    simp only [Option.bind_some]
    by_cases h1 : l[i].f0 = ((i + 1 : Nat) : Int)
    · have h1' : l[i].f0 = (i : Int) + 1 := by omega
      rw [if_pos h1, decide_eq_true h1']
      by_cases h2 : (decide (0 ≤ l[i].f1) && decide (l[i].f1 ≤ (i : Int))) = true
      · rw [if_pos h2, h2]
        by_cases h3 : memoB l[i].f2 = true
        · rw [if_pos h3, h3]
          by_cases h4 : stateB l[i].f3 = true
          · rw [if_pos h4, h4]; simp
          · rw [if_neg h4]; simp [h4]
        · rw [if_neg h3]; simp [h3]
      · rw [if_neg h2]; rw [Bool.not_eq_true] at h2; rw [h2]; simp
    · have h1' : ¬ l[i].f0 = (i : Int) + 1 := by omega
      rw [if_neg h1, decide_eq_false h1']; simp
  · simp only [impl_ValidHistory.l0]
    rw [if_neg (nlt_cast _)]
theorem okV_c {l : List S87} (hs : ∀ y ∈ l, smVersion y) : ∀ y ∈ l.map cVersion, okV y := by
  intro y hy
  obtain ⟨z, hz, rfl⟩ := List.mem_map.1 hy
  have := hs z hz
  unfold smVersion at this
  exact ⟨this.1, by simpa [cVersion] using this.2.1⟩
theorem smi_cs {l : List S87} (hs : ∀ y ∈ l, smVersion y) : ∀ y ∈ l.map cVersion, smiVersion y := by
  intro y hy
  obtain ⟨z, hz, rfl⟩ := List.mem_map.1 hy
  exact smi_cVersion (hs z hz)
end Go.Proofs.Ytemafjbbopdheaa.P

/- A loop over a list whose rounds take up to c steps each. -/
namespace Go.Proofs.YtemafjbbopdheaaL
open Go.RowKit Go.Proofs.YtemafjbbopdheaaW.PrintWords
theorem list_loopW {α σ τ : Type} (L : Nat → σ → Int → τ) (l : List α) (G : List α → σ → τ) (Inv : Nat → σ → Prop) (B c : Nat)
    (step : ∀ (k i : Nat) (hi : i < l.length) (s : σ), Inv i s → B ≤ k →
      L (k + c) s (i : Int) = G (l[i] :: l.drop (i + 1)) s ∨ ∃ s' k', k ≤ k' ∧ Inv (i + 1) s' ∧ G (l[i] :: l.drop (i + 1)) s = G (l.drop (i + 1)) s' ∧ L (k + c) s (i : Int) = L k' s' ((i + 1 : Nat) : Int))
    (stop : ∀ (k : Nat) (s : σ), Inv l.length s → B ≤ k → L (k + c) s (l.length : Int) = G [] s) :
    ∀ (k : Nat) (s : σ), B + c * (l.length + 1) ≤ k → Inv 0 s → L k s 0 = G l s := by
  have main : ∀ (d k i : Nat) (s : σ), i + d = l.length → B + c * (d + 1) ≤ k → Inv i s → L k s (i : Int) = G (l.drop i) s := by
    intro d
    induction d with
    | zero =>
      intro k i s hi hk hI
      have h1 : c * (0 + 1) = c := by simp
      obtain ⟨k, rfl⟩ : ∃ m, k = m + c := ⟨k - c, by omega⟩
      have : i = l.length := by omega
      subst this
      rw [stop k s hI (by omega), List.drop_length]
    | succ d ih =>
      intro k i s hi hk hI
      have h1 : c * (d + 1 + 1) = c * (d + 1) + c := Nat.mul_succ _ _
      obtain ⟨k, rfl⟩ : ∃ m, k = m + c := ⟨k - c, by omega⟩
      have hlt : i < l.length := by omega
      rw [List.drop_eq_getElem_cons hlt]
      rcases step k i hlt s hI (by omega) with h | ⟨s', k', hk', hI', hG, h⟩
      · exact h
      · rw [h, hG]; exact ih k' (i + 1) s' (by omega) (by omega) hI'
  intro k s hk hI
  have := main l.length k 0 s (by omega) hk hI
  simpa using this
theorem list_loopV {α σ ρ : Type} (L : Nat → σ → Int → Option ρ) (l : List α) (G : List α → σ → ρ) (Inv : Nat → σ → Prop) (B c : Nat)
    (step : ∀ (k i : Nat) (hi : i < l.length) (s : σ), Inv i s → B ≤ k →
      L (k + c) s (i : Int) = some (G (l[i] :: l.drop (i + 1)) s) ∨ ∃ s' k', k ≤ k' ∧ Inv (i + 1) s' ∧ G (l[i] :: l.drop (i + 1)) s = G (l.drop (i + 1)) s' ∧ L (k + c) s (i : Int) = L k' s' ((i + 1 : Nat) : Int))
    (stop : ∀ (k : Nat) (s : σ), Inv l.length s → B ≤ k → L (k + c) s (l.length : Int) = some (G [] s)) :
    ∀ (k : Nat) (s : σ), B + c * (l.length + 1) ≤ k → Inv 0 s → L k s 0 = some (G l s) :=
  list_loopW L l (fun r s => some (G r s)) Inv B c (fun k i hi s hI hB => by
    rcases step k i hi s hI hB with h | ⟨s', k', h1, h2, h3, h4⟩
    · exact .inl h
    · exact .inr ⟨s', k', h1, h2, by rw [h3], h4⟩) stop
end Go.Proofs.YtemafjbbopdheaaL

/- Words for 'enough rounds'. -/
namespace Go.Proofs.Ytemafjbbopdheaa.P
open Go.RowKit Go.Proofs.YtemafjbbopdheaaW.PrintWords Go.Proofs.YtemafjbbopdheaaL
theorem Ev.le {α : Type} {g : Nat → Option α} {r : α} (K : Nat) (h : ∀ k, K ≤ k → g k = some r) : Ev g r := ⟨K, h⟩
theorem Ev.const {α : Type} {x : Option α} {r : α} (h : x = some r) : Ev (fun _ => x) r := ⟨0, fun _ _ => h⟩
theorem Ev.yes {α : Type} {c : Nat → Option Bool} {f : Nat → Option α} {r : α} (h : Ev c true) (k : Ev f r) : Ev (fun n => if c n = some true then f n else none) r := by
  obtain ⟨K, hK⟩ := h
  obtain ⟨K', hK'⟩ := k
  exact ⟨max K K', fun n hn => by
    show (if c n = some true then f n else none) = some r
    rw [if_pos (hK n (by omega))]; exact hK' n (by omega)⟩
theorem Ev.pos {α : Type} {c : Prop} [Decidable c] {f g : Nat → Option α} {r : α} (h : c) (k : Ev f r) : Ev (fun n => if c then f n else g n) r := Ev.congr (fun _ => if_pos h) k
theorem Ev.neg {α : Type} {c : Prop} [Decidable c] {f g : Nat → Option α} {r : α} (h : ¬ c) (k : Ev g r) : Ev (fun n => if c then f n else g n) r := Ev.congr (fun _ => if_neg h) k
theorem Ev.shift {α : Type} {g f : Nat → Option α} {r : α} (c : Nat) (h : ∀ k, g (k + c) = f k) (k : Ev f r) : Ev g r := by
  obtain ⟨K, hK⟩ := k
  refine ⟨K + c, fun n hn => ?_⟩
  obtain ⟨m, rfl⟩ : ∃ m, n = m + c := ⟨n - c, by omega⟩
  show g (m + c) = some r
  rw [h]; exact hK m (by omega)
/-- A list filled with counted marks. -/
def mkI (m : Int) (n : Nat) : List Int := (List.range n).map fun i : Nat => m + (i : Int)
theorem mkI_len (m : Int) (n : Nat) : (mkI m n).length = n := by simp [mkI]
theorem mkI_rd {m : Int} {n i : Nat} (h : i < n) : rd (mkI m n) (i : Int) = m + (i : Int) := by
  rw [rd_get (by simpa [mkI_len] using h)]
  simp [mkI]
/-- A loop that stores a counted mark into each place. -/
theorem mark_ints (L : Nat → List Int → Int → Int → Option (Int × List Int))
    (step : ∀ (k : Nat) (l : List Int) (m : Int) (i : Nat), i < l.length → l.length ≤ 4611686018427387904 → 0 ≤ m → m ≤ 4611686018427387904 → L (k + 1) l m (i : Int) = L k (l.set i m) (m + 1) ((i + 1 : Nat) : Int))
    (stop : ∀ (k : Nat) (l : List Int) (m : Int), L (k + 1) l m (l.length : Int) = some (m, l))
    {l : List Int} {m : Int} (hm : 0 ≤ m) (hb : m + l.length ≤ 4611686018427387904) : Ev (fun k => L k l m 0) (m + l.length, mkI m l.length) := by
  have main : ∀ (d i : Nat) (x : List Int), i + d = l.length → x.length = l.length → (∀ j, (h : j < x.length) → j < i → x[j] = m + (j : Int)) → Ev (fun k => L k x (m + (i : Int)) (i : Int)) (m + l.length, mkI m l.length) := by
    intro d
    induction d with
    | zero =>
      intro i x hi hx hp
      obtain rfl : i = x.length := by omega
      refine ⟨1, fun k hk => ?_⟩
      obtain ⟨k, rfl⟩ : ∃ q, k = q + 1 := ⟨k - 1, by omega⟩
      show L (k + 1) x (m + (x.length : Int)) (x.length : Int) = _
      rw [stop k x, hx]
      congr 2
      apply List.ext_getElem
      · rw [mkI_len]; exact hx
      · intro j h1 h2
        rw [hp j h1 h1]; simp [mkI]
    | succ d ih =>
      intro i x hi hx hp
      have hlt : i < x.length := by omega
      refine Ev.step (fun k => step k x _ i hlt (by omega) (by omega) (by omega)) ?_
      have := ih (i + 1) (x.set i (m + (i : Int))) (by omega) (by simpa using hx) (fun j h1 h2 => by
        rw [List.getElem_set]
        split
        · next e => subst e; rfl
        · exact hp j (by simpa using h1) (by omega))
      rw [show m + ((i + 1 : Nat) : Int) = m + (i : Int) + 1 by omega] at this
      exact this
  have := main l.length 0 l (by omega) rfl (fun j _ h => by omega)
  simpa using this
/-- .. and what looks whether they stand. -/
theorem held_ints {m0 : Int} (L : Nat → Int → Int → Option Int) (n : Nat)
    (step : ∀ (k : Nat) (m : Int) (i : Nat), i < n → 0 ≤ m → m ≤ 4611686018427387904 → m = m0 + (i : Int) → L (k + 1) m (i : Int) = L k (m + 1) ((i + 1 : Nat) : Int))
    (stop : ∀ (k : Nat) (m : Int), L (k + 1) m (n : Int) = some m) (hm : 0 ≤ m0) (hb : m0 + n ≤ 4611686018427387904) : Ev (fun k => L k m0 0) (m0 + n) := by
  have main : ∀ (d i : Nat), i + d = n → Ev (fun k => L k (m0 + (i : Int)) (i : Int)) (m0 + n) := by
    intro d
    induction d with
    | zero =>
      intro i hi
      obtain rfl : i = n := by omega
      exact Ev.step (fun k => stop k _) (Ev.now _)
    | succ d ih =>
      intro i hi
      refine Ev.step (fun k => step k _ i (by omega) (by omega) (by omega) rfl) ?_
      have := ih (i + 1) (by omega)
      rw [show m0 + ((i + 1 : Nat) : Int) = m0 + (i : Int) + 1 by omega] at this
      exact this
  have := main n 0 (by omega)
  simpa using this
theorem mtot_le {α : Type} {c : α → Int} {C : Int} {P : α → Prop} (hC : ∀ x, P x → c x ≤ C) : ∀ (l : List α) (m : Int), (∀ x ∈ l, P x) → mtot c l m ≤ m + (l.length : Int) * C
  | [], m, _ => by simp [mtot]
  | x :: r, m, h => by
    have h1 := mtot_le hC r (m + c x) (fun y hy => h y (List.mem_cons_of_mem _ hy))
    have h2 := hC x (h x List.mem_cons_self)
    simp only [mtot, List.length_cons]
    have e : ((r.length + 1 : Nat) : Int) * C = (r.length : Int) * C + C := by rw [Int.natCast_add, Int.add_mul]; simp
    omega
/-- A loop that marks each place of a list, element by element. -/
theorem mark_ev {α : Type} (L : Nat → List α → Int → Int → Option (Int × List α)) (g : α → Int → α) (c : α → Int) (M : Int) (hc : ∀ x, 0 ≤ c x) (P : α → Prop)
    (step : ∀ (pre : List α) (x : α) (rest : List α) (m : Int) (r : Int × List α), P x → pre.length + rest.length < 4611686018427387904 → 0 ≤ m → m + c x ≤ M → Ev (fun k => L k (pre ++ g x m :: rest) (m + c x) ((pre.length + 1 : Nat) : Int)) r → Ev (fun k => L k (pre ++ x :: rest) m (pre.length : Int)) r)
    (stop : ∀ (k : Nat) (l : List α) (m : Int), L (k + 1) l m (l.length : Int) = some (m, l)) (l : List α) (m : Int) (hp : ∀ x ∈ l, P x) (hl : l.length ≤ 4611686018427387904) (hm : 0 ≤ m) (hM : mtot c l m ≤ M) : Ev (fun k => L k l m 0) (mtot c l m, mkl g c l m) := by
  have main : ∀ (rest : List α) (pre : List α) (m : Int), (∀ x ∈ rest, P x) → pre.length + rest.length ≤ 4611686018427387904 → 0 ≤ m → mtot c rest m ≤ M → Ev (fun k => L k (pre ++ rest) m (pre.length : Int)) (mtot c rest m, pre ++ mkl g c rest m) := by
    intro rest
    induction rest with
    | nil =>
      intro pre m _ _ _ _
      refine Ev.step (f := fun _ => some (m, pre)) (fun k => ?_) ?_
      · rw [List.append_nil]; exact stop k pre m
      · simp only [mtot, mkl, List.append_nil]; exact Ev.now _
    | cons x rest ih =>
      intro pre m hp hl hm hM
      have h2 := mtot_ge hc rest (m + c x)
      have h3 := hc x
      simp only [mtot] at hM
      refine step pre x rest m _ (hp x List.mem_cons_self) (by simp at hl; omega) hm (by omega) ?_
      have := ih (pre ++ [g x m]) (m + c x) (fun y hy => hp y (List.mem_cons_of_mem _ hy)) (by simp at hl ⊢; omega) (by omega) hM
      simp only [List.append_assoc, List.singleton_append, List.length_append, List.length_singleton] at this
      simp only [mtot, mkl]
      exact this
  have := main l [] m hp (by simpa using hl) hm hM
  simpa using this
theorem held_ev {α : Type} (L : Nat → Int → Int → Option Int) (g : α → Int → α) (c : α → Int) (M : Int) (hc : ∀ x, 0 ≤ c x) (P : α → Prop) (l' : List α)
    (step : ∀ (pre : List α) (x : α) (rest : List α) (m : Int) (r : Int), l' = pre ++ g x m :: rest → P x → pre.length < 4611686018427387904 → 0 ≤ m → m + c x ≤ M → Ev (fun k => L k (m + c x) ((pre.length + 1 : Nat) : Int)) r → Ev (fun k => L k m (pre.length : Int)) r)
    (stop : ∀ (k : Nat) (m : Int), L (k + 1) m (l'.length : Int) = some m) (l : List α) (m : Int) (he : l' = mkl g c l m) (hp : ∀ x ∈ l, P x) (hl : l.length ≤ 4611686018427387904) (hm : 0 ≤ m) (hM : mtot c l m ≤ M) : Ev (fun k => L k m 0) (mtot c l m) := by
  have main : ∀ (rest : List α) (pre : List α) (m : Int), l' = pre ++ mkl g c rest m → (∀ x ∈ rest, P x) → pre.length + rest.length ≤ 4611686018427387904 → 0 ≤ m → mtot c rest m ≤ M → Ev (fun k => L k m (pre.length : Int)) (mtot c rest m) := by
    intro rest
    induction rest with
    | nil =>
      intro pre m he _ _ _ _
      simp only [mkl, List.append_nil] at he
      subst he
      simp only [mtot]
      exact Ev.step (f := fun _ => some m) (fun k => stop k m) (Ev.now _)
    | cons x rest ih =>
      intro pre m he hp hl hm hM
      have h2 := mtot_ge hc rest (m + c x)
      have h3 := hc x
      simp only [mtot] at hM
      simp only [mkl] at he
      refine step pre x _ m _ he (hp x List.mem_cons_self) (by simp at hl; omega) hm (by omega) ?_
      have := ih (pre ++ [g x m]) (m + c x) (by rw [he]; simp) (fun y hy => hp y (List.mem_cons_of_mem _ hy)) (by simp at hl ⊢; omega) (by omega) hM
      simp only [List.length_append, List.length_singleton] at this
      simp only [mtot]
      exact this
  have := main l [] m (by simpa using he) hp (by simpa using hl) hm hM
  simpa using this
theorem mkl_len {α : Type} (g : α → Int → α) (c : α → Int) : ∀ (l : List α) (m : Int), (mkl g c l m).length = l.length
  | [], _ => rfl
  | x :: r, m => by simp [mkl, mkl_len g c r]
end Go.Proofs.Ytemafjbbopdheaa.P

/- The versions from which no other one comes: both list the same. -/
namespace Go.Proofs.Ytemafjbbopdheaa.P
open Go.RowKit Go.Proofs.YtemafjbbopdheaaW.PrintWords Go.Proofs.YtemafjbbopdheaaL
theorem rd_verH {l : List S89} {i : Nat} (h : i < l.length) : rd_T89 l (i : Int) = l[i] := by simp [rd_T89, List.getD_eq_getElem?_getD, List.getElem?_eq_getElem h]
theorem heads_inner {l : List S89} (hl : l.length ≤ 32) {i : Nat} (hi : i < l.length) {x : List Int} (hx : x.length ≤ 32) : ∀ (d j : Nat) (h : Bool), j + d = l.length → ∀ r,
    Ev (fun k => spec_HeadsOf.l0 k l (if (h && (l.drop j).all fun y => y.f1 != l[i].f0) = true then x ++ [l[i].f0] else x) ((i + 1 : Nat) : Int)) r → Ev (fun k => spec_HeadsOf.l1 k l x (i : Int) h (j : Int)) r := by
  intro d
  have WI := Aside0.mk (show wrap64 ((i : Int) + 1) = ((i + 1 : Nat) : Int) from wrap_succ hi (by omega))
  have hxb : x.length < 17592186044416 := by omega
  induction d with
  | zero =>
    intro j h hj r hr
    obtain rfl : j = l.length := by omega
    rw [List.drop_length, List.all_nil, Bool.and_true] at hr
    cases h with
    | true =>
      rw [if_pos rfl] at hr
      refine Ev.step (fun k => ?_) hr
      simp only [spec_HeadsOf.l1]
      rw [if_neg (nlt_cast _), if_pos trivial, if_pos (nn_cast i), if_pos (lt_cast hi), if_pos hxb, rd_verH hi, WI.out]
    | false =>
      rw [if_neg (by decide)] at hr
      refine Ev.step (fun k => ?_) hr
      simp only [spec_HeadsOf.l1]
      rw [if_neg (nlt_cast _), if_neg (by simp), WI.out]
  | succ d ih =>
    intro j h hj r hr
    have hlt : j < l.length := by omega
    have WS := Aside0.mk (show wrap64 ((j : Int) + 1) = ((j + 1 : Nat) : Int) from wrap_succ hlt (by omega))
    rw [drop_cons hlt, List.all_cons] at hr
    cases h with
    | true =>
      rw [Bool.true_and] at hr
      refine Ev.step (fun k => ?_) (ih (j + 1) (l[j].f1 != l[i].f0) (by omega) r hr)
      simp only [spec_HeadsOf.l1]
      rw [if_pos (lt_cast hlt), if_pos trivial, if_pos (nn_cast j), if_pos (nn_cast i), if_pos (lt_cast hi), rd_verH hlt, rd_verH hi, WS.out]
    | false =>
      refine Ev.step (fun k => ?_) (ih (j + 1) false (by omega) r (by simpa using hr))
      simp only [spec_HeadsOf.l1]
      rw [if_pos (lt_cast hlt), if_neg (by simp), WS.out]
theorem head_all (l : List S89) (v : S89) : impl_HeadsOf.head l v = l.all fun y => y.f1 != v.f0 := by
  unfold impl_HeadsOf.head
  rw [List.not_any_eq_all_not]; rfl
theorem heads_outer {l : List S89} (hl : l.length ≤ 32) : ∀ (d i : Nat), i + d = l.length → Ev (fun k => spec_HeadsOf.l0 k l (impl_HeadsOf.heads l (l.take i)) (i : Int)) (impl_HeadsOf.heads l l, 0) := by
  intro d
  induction d with
  | zero =>
    intro i hi
    obtain rfl : i = l.length := by omega
    rw [List.take_length]
    refine Ev.step (f := fun _ => some (impl_HeadsOf.heads l l, 0)) (fun k => ?_) (Ev.now _)
    simp only [spec_HeadsOf.l0]; rw [if_neg (nlt_cast _)]
  | succ d ih =>
    intro i hi
    have hlt : i < l.length := by omega
    have hlen := impl_HeadsOf.len l (l.take i)
    rw [List.length_take] at hlen
    have := ih (i + 1) (by omega)
    rw [impl_HeadsOf.take_succ l hlt, head_all] at this
    refine Ev.step (fun k => ?_) (heads_inner hl hlt (x := impl_HeadsOf.heads l (l.take i)) (by omega) l.length 0 true (by omega) _ (by simpa using this))
    simp only [spec_HeadsOf.l0]
    rw [if_pos (lt_cast hlt)]; rfl
theorem core_HeadsOf {l : List S89} (hl : l.length ≤ 1048576) (hs : ∀ y ∈ l, okV y) : ∃ (v : List Int) (c : Int), v.length ≤ 1048576 ∧ Ev (fun k => spec_HeadsOf.f k l) (v, c) ∧ Ev (fun k => impl_HeadsOf.f k l) (v, c) := by
  unfold spec_HeadsOf.f impl_HeadsOf.f
  have hS : Ev (fun k => spec_l27Ok.f k l) (historyB l) := Ev.le 2097200 (fun k hk => l27Ok_eq hl hs hk)
  have hI : Ev (fun k => impl_ValidHistory.f k l) (historyB l) := Ev.le 2097200 (fun k hk => ValidHistory_eq hl hs hk)
  by_cases h : historyB l = true
  · have h32 : l.length ≤ 32 := by unfold historyB at h; simp only [Bool.and_eq_true, decide_eq_true_iff] at h; exact h.2
    have hlen := impl_HeadsOf.len l l
    have hb : l.length < 17592186044416 := by omega
    have e := heads_outer h32 l.length 0 (by omega)
    exact ⟨impl_HeadsOf.heads l l, 0, by omega, Ev.bind hS (Ev.pos h e), Ev.bind hI (Ev.pos h (Ev.pos hb (Ev.now _)))⟩
  · exact ⟨[], 1, by simp, Ev.bind hS (Ev.neg h (Ev.now _)), Ev.bind hI (Ev.neg h (Ev.now _))⟩
end Go.Proofs.Ytemafjbbopdheaa.P

/- Marks of versions, however great the mark. -/
namespace Go.Proofs.Ytemafjbbopdheaa.P
open Go.RowKit Go.Proofs.YtemafjbbopdheaaW.PrintWords Go.Proofs.YtemafjbbopdheaaL
theorem markText_ev {n : Int} (h0 : 0 ≤ n) (h : n ≤ 4611686018427387904) : Ev (fun k => laws_markText.f k n) (mt n) := by
  have hs : ∃ r, laws_markText.f 100 n = some r := by
    unfold laws_markText.f
    by_cases h1 : n ≤ 0
    · rw [if_pos h1]; exact ⟨_, rfl⟩
    · rw [if_neg h1]
      exact markText_some 20 100 n _ h0 (by omega) (by omega) (by decide) (by omega)
  obtain ⟨r, hr⟩ := hs
  refine Ev.le 100 (fun k hk => ?_)
  have := at_rounds (fun k => laws_markText.mono n k) hk hr
  rw [this]
  unfold mt
  rw [hr]; rfl
/-- Marks of settings, however great. -/
theorem markSet_ev {l : List S81} (hl : l.length ≤ 1048576) {m : Int} (h0 : 0 ≤ m) (h1 : m ≤ 2305843009213693952) : Ev (fun k => laws_markSettingS.f k l m) (m + 2 * l.length, mkSettingS l m) := by
  have hc : ∀ x : S81, (0 : Int) ≤ (2 : Int) := fun _ => by omega
  have htot : mtot (fun _ : S81 => (2 : Int)) l m = m + 2 * l.length := mtot_const 2 l m
  unfold laws_markSettingS.f mkSettingS
  rw [← htot]
  refine mark_ev (fun k l m i => laws_markSettingS.l0 k l m i) _ (fun _ => 2) 4611686018427387000 hc (fun _ => True) (fun pre x rest m r hx hp hm hM hE => ?_) (fun k l m => ?_) l m (fun _ _ => trivial) (by omega) h0 (by omega)
  · have W1 := Aside0.mk (show wrap64 (m + 1) = m + 1 from wrap_id (by omega) (by omega))
    have W2 := Aside0.mk (show wrap64 (m + 1 + 1) = m + 2 from (wrap_id (by omega) (by omega)).trans (by omega))
    have WS := Aside0.mk (show wrap64 ((pre.length : Int) + 1) = ((pre.length + 1 : Nat) : Int) from wrap_succ (i := pre.length) (n := pre.length + 1) (by omega) (by omega))
    refine Ev.step (f := fun k => (laws_markText.f k m).bind fun t => laws_markSettingS.l0 k (pre ++ ⟨t, m + 1⟩ :: rest) (m + 2) ((pre.length + 1 : Nat) : Int)) (fun k => ?_) (Ev.bind (markText_ev hm (by omega)) hE)
    have hr : ∀ (y : S81), rd_T81 (pre ++ y :: rest) (pre.length : Int) = y := fun y => by simp [rd_T81]
    simp only [laws_markSettingS.l0]
    rw [if_pos (by simp; omega)]
    simp only [if_pos (nn_cast pre.length), hr, set_mid, W1.out, W2.out, WS.out, Option.bind_some]
  · simp only [laws_markSettingS.l0]
    rw [if_neg (nlt_cast _)]
theorem markVersionS_all {l : List S89} (hl : l.length ≤ 1048576) (hs : ∀ y ∈ l, smiVersion y) {m : Int} (h0 : 0 ≤ m) (h1 : m ≤ 1152921504606846976) : ∃ (m' : Int) (l' : List S89), m ≤ m' ∧ m' ≤ m + 8796093022208 ∧ Ev (fun k => laws_markVersionS.f k l m) (m', l') ∧ True := by
  have hc : ∀ x : S89, (0 : Int) ≤ 3 + 2 * (x.f3.length : Int) := fun x => by omega
  have htot : mtot (fun x : S89 => 3 + 2 * (x.f3.length : Int)) l m ≤ m + (l.length : Int) * 2097155 := mtot_le (P := fun e => e.f3.length ≤ 1048576) (fun x hx => by omega) l m (fun y hy => (hs y hy).1)
  have hge := mtot_ge hc l m
  refine ⟨mtot (fun x : S89 => 3 + 2 * (x.f3.length : Int)) l m, mkl (fun (x : S89) q => (⟨q, q + 1, mt (q + 1 + 1), mkSettingS x.f3 (q + 1 + 1 + 1)⟩ : S89)) (fun x => 3 + 2 * (x.f3.length : Int)) l m, hge, by omega, ?_, trivial⟩
  · unfold laws_markVersionS.f
    refine mark_ev (fun k l m i => laws_markVersionS.l0 k l m i) (fun (x : S89) q => (⟨q, q + 1, mt (q + 1 + 1), mkSettingS x.f3 (q + 1 + 1 + 1)⟩ : S89)) (fun x => 3 + 2 * (x.f3.length : Int)) 2305843009213693952 hc (fun e => e.f3.length ≤ 1048576) (fun pre x rest m r hx hp hm hM hE => ?_) (fun k l m => ?_) l m (fun y hy => (hs y hy).1) (by omega) h0 (by omega)
    · have W1 := Aside0.mk (show wrap64 (m + 1) = m + 1 from wrap_id (by omega) (by omega))
      have W2 := Aside0.mk (show wrap64 (m + 1 + 1) = m + 1 + 1 from wrap_id (by omega) (by omega))
      have W3 := Aside0.mk (show wrap64 (m + 1 + 1 + 1) = m + 1 + 1 + 1 from wrap_id (by omega) (by omega))
      have WS := Aside0.mk (show wrap64 ((pre.length : Int) + 1) = ((pre.length + 1 : Nat) : Int) from wrap_succ (i := pre.length) (n := pre.length + 1) (by omega) (by omega))
      have hr : rd_T89 (pre ++ x :: rest) (pre.length : Int) = x := by simp [rd_T89]
      have e3 : m + (3 + 2 * (x.f3.length : Int)) = m + 1 + 1 + 1 + 2 * (x.f3.length : Int) := by omega
      rw [e3] at hE
      refine Ev.step (f := fun k => (laws_markText.f k (m + 1 + 1)).bind fun t => (laws_markSettingS.f k x.f3 (m + 1 + 1 + 1)).bind fun t3 => laws_markVersionS.l0 k (pre ++ ⟨m, m + 1, t, t3.2⟩ :: rest) t3.1 ((pre.length + 1 : Nat) : Int)) (fun k => ?_) (Ev.bind (markText_ev (by omega) (by omega)) (Ev.bind (markSet_ev hx (by omega) (by omega)) hE))
      simp only [laws_markVersionS.l0]
      rw [if_pos (by simp; omega), if_pos (nn_cast _), W1.out, W2.out, W3.out, WS.out, hr]
      simp only [set_mid]
    · simp only [laws_markVersionS.l0]
      rw [if_neg (nlt_cast _)]
end Go.Proofs.Ytemafjbbopdheaa.P

/- Marks of whole numbers. -/
namespace Go.Proofs.Ytemafjbbopdheaa.P
open Go.RowKit Go.Proofs.YtemafjbbopdheaaW.PrintWords Go.Proofs.YtemafjbbopdheaaL
theorem markI_ev {l : List Int} {m : Int} (hm : 0 ≤ m) (hb : m + l.length ≤ 4611686018427387904) : Ev (fun k => laws_markInt64S.f k l m) (m + l.length, mkI m l.length) := by
  unfold laws_markInt64S.f
  refine mark_ints (fun k l m i => laws_markInt64S.l0 k l m i) (fun k l m i hi hl h0 h1 => ?_) (fun k l m => ?_) hm hb
  · simp only [laws_markInt64S.l0]
    rw [if_pos (lt_cast hi), if_pos (nn_cast i), wrap_id (x := m + 1) (by omega) (by omega), Int.toNat_natCast, wrap_succ hi hl]
  · simp only [laws_markInt64S.l0]
    rw [if_neg (nlt_cast _)]
theorem heldI_ev {n : Nat} {m : Int} (hm : 0 ≤ m) (hb : m + n ≤ 4611686018427387904) : Ev (fun k => laws_heldInt64S.f k (mkI m n) m) (m + n) := by
  unfold laws_heldInt64S.f
  refine held_ints (fun k m' i => laws_heldInt64S.l0 k (mkI m n) m' i) n (fun k m' i hi h0 h1 he => ?_) (fun k m' => ?_) hm hb
  · simp only [laws_heldInt64S.l0]
    rw [mkI_len, if_pos (lt_cast hi), if_pos (nn_cast i), mkI_rd hi, if_pos he.symm, wrap_id (x := m' + 1) (by omega) (by omega), wrap_succ hi (by omega)]
  · simp only [laws_heldInt64S.l0]
    rw [mkI_len, if_neg (nlt_cast _)]
/-- As the plain laws take it. -/
theorem markInt64S_all {l : List Int} (hl : l.length ≤ 1048576) {m : Int} (h0 : 0 ≤ m) (h1 : m ≤ 1152921504606846976) : ∃ (m' : Int) (l' : List Int), m ≤ m' ∧ m' ≤ m + 8796093022208 ∧ Ev (fun k => laws_markInt64S.f k l m) (m', l') ∧ Ev (fun k => laws_heldInt64S.f k l' m) m' :=
  ⟨m + l.length, mkI m l.length, by omega, by omega, markI_ev h0 (by omega), heldI_ev h0 (by omega)⟩
end Go.Proofs.Ytemafjbbopdheaa.P

/- The plain law behind FnExactHeadsOf: the reference and the program answer the same, and the copies stay. Conditions: none beyond the kinds' own bounds. -/
namespace Go.Proofs.Ytemafjbbopdheaa.Pure
open Go.RowKit Go.Proofs.YtemafjbbopdheaaW.PrintWords Go.Proofs.YtemafjbbopdheaaL Go.Proofs.Ytemafjbbopdheaa.P
theorem FnExactHeadsOf : ∀ (x0 : List P.S87), (x0.length ≤ maxLen ∧ ∀ y ∈ x0, g87 y) → ∃ k : Nat, P.laws_FnExactHeadsOf.f k x0 = some true := by
  intro x0 ⟨hl0, hg0⟩
  refine Ev.rounds (g := fun k => P.laws_FnExactHeadsOf.f k x0) ?_
  unfold laws_FnExactHeadsOf.f
  obtain ⟨r0, hr0, h0⟩ := szVersionS_some hl0 hg0 (a := 1048576) (by omega) (by omega) (k := 10000000) (by omega)
  refine Ev.bind (a := r0) (Ev.of (g := fun k => laws_szVersionS.f k x0 1048576) (fun k => laws_szVersionS.mono _ _ k) hr0) ?_
  try dsimp only
  by_cases g0 : r0 < 0
  · exact Ev.pos g0 (Ev.now _)
  refine Ev.neg g0 ?_
  obtain ⟨p0, q0, z0, s0⟩ := h0.resolve_left g0
  unfold laws_FnExactHeadsOf.g
  have hx0 : (x0.map cVersion).length ≤ 1048576 := by simpa using z0
  have hs0 : ∀ y ∈ x0.map cVersion, smiVersion y := fun y hy => by obtain ⟨x, hx, rfl⟩ := List.mem_map.1 hy; exact smi_cVersion (s0 x hx)
  have hT0 : Ev (fun k => laws_toVersionS.f k x0) (x0.map cVersion) := Ev.le 10000000 (fun k hk => toVersionS_eq z0 s0 (by omega))
  have hE0 : Ev (fun k => laws_eqVersionS.f k (x0.map cVersion) (x0.map cVersion)) true := Ev.le 10000000 (fun k hk => by rw [eqVersionS_eq hx0 hs0 (by omega)]; simp)
  have hok0 : ∀ y ∈ x0.map cVersion, okV y := okV_c s0
  generalize x0.map cVersion = l0 at hx0 hT0 hE0 hs0 hok0 ⊢
  refine Ev.bind hT0 ?_
  try dsimp only
  obtain ⟨v, c, hv, hS, hI⟩ := core_HeadsOf hx0 hok0
  have hV : Ev (fun k => laws_eqInt64S.f k v v) true := Ev.le 10000000 (fun k hk => by rw [eqInt64S_eq hv (by omega)]; simp)
  refine Ev.bind hS ?_
  try dsimp only
  refine Ev.bind hT0 ?_
  try dsimp only
  refine Ev.bind hI ?_
  try dsimp only
  refine Ev.yes hV ?_
  refine Ev.pos rfl ?_
  refine Ev.bind hT0 ?_
  try dsimp only
  refine Ev.yes hE0 ?_
  obtain ⟨m0, y0, mb0, mc0, hM0, hH0⟩ := markVersionS_all hx0 hs0 (m := 1) (by omega) (by omega)
  refine Ev.bind hM0 ?_
  try dsimp only
  refine Ev.neg (by omega) ?_
  refine Ev.yes hV ?_
  refine Ev.pos rfl ?_
  obtain ⟨m1, y1, mb1, mc1, hM1, hH1⟩ := markInt64S_all hv (m := 1) (by omega) (by omega)
  refine Ev.bind hM1 ?_
  try dsimp only
  refine Ev.bind hH1 ?_
  try dsimp only
  refine Ev.neg (by omega) ?_
  refine Ev.pos rfl ?_
  refine Ev.bind hT0 ?_
  try dsimp only
  refine Ev.bind hI ?_
  try dsimp only
  refine Ev.yes hV ?_
  refine Ev.pos rfl ?_
  refine Ev.bind hH1 ?_
  try dsimp only
  refine Ev.neg (by omega) ?_
  refine Ev.pos rfl ?_
  exact Ev.now _
end Go.Proofs.Ytemafjbbopdheaa.Pure
