/- The card of FnExactPatternText: for every input the law returns true, and its arguments read afterwards as they did; the variables that its row lists are tied to the program's text. Conditions: none. -/
import Derived.Test.YtoneejhafmneiaaDoorRows
import Derived.Test.YtoneejhafmneiaaDoorTie
import Derived.Test.YtoneejhafmneiaaDoorCards
import Derived.Test.YtoneejhafmneiaaDoorBFnExactPatternTexta
import Derived.SevenTiedAt
import Derived.Test.YtoneejhafmneiaaDoorBFnExactPatternTextb
import Derived.Test.YtoneejhafmneiaaDoorBFnExactPatternTextc
import Derived.WalkKit
import Derived.ProofKit
import Derived.OpenShut
import Derived.ShutString
import Derived.ChangeOld
import Derived.Below
import Derived.SizedLaws
import Derived.Carry
namespace Go.Proofs.YtoneejhafmneiaaDoor.fnExactPatternText
open Go.ChangeShapes Go.WideShapes Go.ChangeAt Go.RowKit Go.Proofs.YtoneejhafmneiaaDoorO Go.Proofs.YtoneejhafmneiaaDoorW.PrintWords
open Go.ChangeMaps (open_string shut_string)
set_option linter.unusedVariables false
theorem own : ownKnob Tryd.prog.godebug = none := by kernel_rfl
theorem laidOut : laidOutB Tryd.prog = true := by kernel_rfl
set_option maxRecDepth 100000 in
/-- What the listed variables hold, out of the row's condition. -/
theorem door {W : World} (hL0 : laidMetH Tryd.prog Rows.fnExactPatternTextRow.laid W) (hsh : W.ShapedOpen Tryd.prog) : P.Door1 W := by
  rw [MakeChecks.laidMetH_plain _ _ _ (by kernel_rfl)] at hL0
  have hL : laidMet Tryd.prog [("math/bits.deBruijn32tab", Rows.laid_math_bits_deBruijn32tab), ("math/bits.deBruijn64tab", Rows.laid_math_bits_deBruijn64tab), ("internal/strconv.uint64pow10", Rows.laid_internal_strconv_uint64pow10)] W := hL0
  have one : P.Door1 W := ⟨Lib.tabIs_of_head (g := 1) (t := 154) (e := 136) (n := 20) (by kernel_rfl) (by kernel_rfl) Tryd.underlying154 Tryd.underlying136 (by kernel_rfl) (by kernel_rfl) (show laidMet Tryd.prog (("internal/strconv.uint64pow10", Lib.tabData .u64 Lib.pow10Tab) :: _) W from hL.tail.tail)⟩
  exact one
set_option maxRecDepth 100000 in
theorem lifted (os : Os) (started : os.Started) (H : Type) (enc : TypeId × Value → H) :
    ReturnsInHanded {} Tryd.checked os 6 .any (fun w args => (Rows.fnExactPatternTextSpec.pre enc Tryd.prog Tryd.f6 Rows.fnExactPatternTextRow.domain false w args ∧ laidMetH Tryd.prog Rows.fnExactPatternTextRow.laid w) ∧ sizedMet enc Tryd.prog Tryd.f6 (OpenSpec.ofChange Rows.fnExactPatternTextSpec) false w args) (Rows.fnExactPatternTextSpec.post enc Tryd.prog Tryd.f6 false true false false) := by
  refine YtoneejhafmneiaaDoorD.handed (C := Tryd.checked) (X := fun w _ => laidMetH Tryd.prog Rows.fnExactPatternTextRow.laid w) (fun _ _ _ hh h => h.of_heap hh) own started (by kernel_rfl) Tryd.func6
    (ChangeSpec.witness_shaped (enc := enc) (C := Tryd.checked) (os := os) (X := fun w _ => laidMetH Tryd.prog Rows.fnExactPatternTextRow.laid w) false (World.laidAll Tryd.prog os Rows.fnExactPatternTextRow.laid) #[.agg #[.slice none 0 0, .int .i64 0]] 8 (World.laidAll_os _ _ _) (World.shaped_of_ZipB (by kernel_rfl) (by kernel_rfl)) (by kernel_rfl) (by kernel_rfl) (by kernel_rfl) (by rw [MakeChecks.laidMetH_plain _ _ _ (by kernel_rfl)]; exact laidMet_laidAll _ (by kernel_rfl) (by kernel_rfl))) ?_
  intro W base args ds gs before hval0 hW hcnd hsz0 hL hsh _
  have hD := door hL hsh
  have hval : ∀ (j : Nat) t v, Tryd.f6.params[j]? = some t → args[j]? = some v → Value.okWide Tryd.prog W .any base t v := hval0
  have hW' := hW
  obtain ⟨p, q, hA0, hV, rfl, hfz, hnd⟩ := hW
  have hA : DataW.TrodAll enc Tryd.prog W 0 (fun _ => true) true Tryd.f6.params.toList args.toList ds p := hA0
  rw [Tryd.params6] at hA hval
  obtain ⟨v0, vs0, d0, ds0, p0, q0, hargs, rfl, rfl, h0, r0⟩ := trodAll_cons hA
  obtain ⟨rfl, rfl, rfl⟩ := trodAll_nil r0
  obtain rfl : args = #[v0] := by cases args; simp_all
  obtain ⟨rfl, rfl⟩ := trodVars_none hV
  have k0 := h0
  have lt0 : ∀ x ∈ p0, x.block < W.heap.size := by obtain ⟨m, hm⟩ := k0; exact DataW.trod_lt m _ _ _ hm
  obtain ⟨cs0, rfl, _⟩ := okWide_struct Tryd.underlying49 (hval 0 49 v0 rfl rfl)
  obtain ⟨fuel0, hf0⟩ := h0
  obtain ⟨x0, hK0, hG0⟩ := open49 H enc W _ _ _ fuel0 _ _ hf0
  obtain ⟨A0_0, c0_0, hcs0, hc0_0, hr0_0⟩ := P.k49_open hK0
  obtain rfl : cs0 = #[.slice A0_0 x0.f0.length c0_0, .int .i64 x0.f1] := by cases cs0; simpa [Value.cells] using hcs0
  obtain ⟨k, hP⟩ := Pure.FnExactPatternText x0 hG0
  refine (P.laws_FnExactPatternText.calls (r := true) (w := W) (hr0_0 := hr0_0) (hc0_0 := hc0_0) (hD := hD) (h := hP)).mono fun e W' ⟨he, bel0⟩ => ?_
  have bel : Below W.heap.size W W' := bel0
  subst he
  exact ⟨_, rfl, _, _, _, [], _, [], hW', trodAll_mk1 (shut_bool Tryd.underlying4 _), (trodAll_cons_mk (Below.trod laidOut (by kernel_rfl) (of_decide_eq_true (by kernel_rfl)) k0 bel lt0) trodAll_mk0), rfl, bel.frame _, fun h => by cases h⟩
theorem over : Rows.fnExactPatternTextRow.holds Tryd.pinned (OpenSpec.ofChange Rows.fnExactPatternTextSpec) :=
  OpenClaim.holds_of_wide 6 Tryd.f6 rfl rfl rfl rfl rfl rfl rfl ⟨rfl, rfl, rfl, rfl, rfl⟩ rfl rfl rfl rfl rfl (by kernel_rfl) Tryd.func6 (by kernel_rfl)
    (of_decide_eq_true (by kernel_rfl)) (by unfold Func.isWrapper; first | (rw [if_pos (by decide +kernel)]; kernel_rfl) | (rw [if_neg (by decide +kernel)]; exact ⟨rfl, rfl⟩))
    (fun os started H enc _ => lifted os started H enc)
theorem proved : Rows.FnExactPatternTextCardSaid :=
  Claim7.holds_tied_plain_at .later [] [.data, .data, .data] true (true, "8caf80f59a705646df6ce85bdae571ccde1bf38e4715bdfe5bcbd63e46c5f8d9") true over (fun _ h => by cases h) (by kernel_rfl) (fun _ h => by cases h) fnExactPatternText_row_tie rfl ⟨rfl, rfl⟩ (by kernel_rfl) rfl
    (fun f fn hf hfn => by
      obtain rfl : f = 6 := Option.some.inj ((show Tryd.prog.funcNamed "loop.example/g01033/laws.FnExactPatternText" = some 6 by kernel_rfl).symm.trans hf) |>.symm
      obtain rfl : fn = Tryd.f6 := (Option.some.inj (Tryd.func6.symm.trans hfn)).symm
      exact ⟨by kernel_rfl, fun j t ht => by
        rw [Tryd.params6] at ht
        have hm : t ∈ [49] := by simpa using Array.mem_of_getElem? ht
        have hall : ([49].all fun u => !Tryd.prog.wantsStandIn u) = true := by kernel_rfl
        exact (show Tryd.prog.wantsStandIn t = false by simpa using List.all_eq_true.1 hall t hm)⟩)
    (by kernel_rfl)
#print axioms proved
end Go.Proofs.YtoneejhafmneiaaDoor.fnExactPatternText
namespace Go.Proofs.YtoneejhafmneiaaDoor
/-- The row, under a short name, for the claim. -/
theorem fnExactPatternText_holds : Rows.FnExactPatternTextCardSaid := fnExactPatternText.proved
end Go.Proofs.YtoneejhafmneiaaDoor
