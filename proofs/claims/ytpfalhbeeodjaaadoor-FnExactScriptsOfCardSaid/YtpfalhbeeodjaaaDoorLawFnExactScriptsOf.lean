/- The card of FnExactScriptsOf: for every input the law returns true, and its arguments read afterwards as they did; the variables that its row lists are tied to the program's text. Conditions: none. -/
import Derived.Test.YtpfalhbeeodjaaaDoorRows
import Derived.Test.YtpfalhbeeodjaaaDoorTie
import Derived.Test.YtpfalhbeeodjaaaDoorCards
import Derived.Test.YtpfalhbeeodjaaaDoorBFnExactScriptsOfa
import Derived.SevenTiedAt
import Derived.Test.YtpfalhbeeodjaaaDoorBFnExactScriptsOfb
import Derived.Test.YtpfalhbeeodjaaaDoorBFnExactScriptsOfc
import Derived.WalkKit
import Derived.ProofKit
import Derived.OpenShut
import Derived.ShutString
import Derived.ChangeOld
import Derived.Below
import Derived.SizedLaws
import Derived.Carry
namespace Go.Proofs.YtpfalhbeeodjaaaDoor.fnExactScriptsOf
open Go.ChangeShapes Go.WideShapes Go.ChangeAt Go.RowKit Go.Proofs.YtpfalhbeeodjaaaDoorO Go.Proofs.YtpfalhbeeodjaaaDoorW.PrintWords
open Go.ChangeMaps (open_string shut_string)
set_option linter.unusedVariables false
theorem own : ownKnob Tryd.prog.godebug = none := by kernel_rfl
theorem laidOut : laidOutB Tryd.prog = true := by kernel_rfl
set_option maxRecDepth 100000 in
/-- What the listed variables hold, out of the row's condition. -/
theorem door {W : World} (hL0 : laidMetH Tryd.prog Rows.fnExactScriptsOfRow.laid W) (hsh : W.ShapedOpen Tryd.prog) : P.Door2 W := by
  rw [MakeChecks.laidMetH_plain _ _ _ (by kernel_rfl)] at hL0
  have hL : laidMet Tryd.prog [("math/bits.deBruijn32tab", Rows.laid_math_bits_deBruijn32tab), ("math/bits.deBruijn64tab", Rows.laid_math_bits_deBruijn64tab), ("internal/strconv.uint64pow10", Rows.laid_internal_strconv_uint64pow10), ("unicode/utf8.acceptRanges", Rows.laid_unicode_utf8_acceptRanges), ("strconv.ErrRange", Rows.laid_strconv_ErrRange), ("strconv.ErrSyntax", Rows.laid_strconv_ErrSyntax), ("unicode/utf8.first", Rows.laid_unicode_utf8_first)] W := hL0
  have one : P.Door1 W := ⟨Lib.tabIs_of_head (g := 1) (t := 121) (e := 102) (n := 20) (by kernel_rfl) (by kernel_rfl) Tryd.underlying121 Tryd.underlying102 (by kernel_rfl) (by kernel_rfl) (show laidMet Tryd.prog (("internal/strconv.uint64pow10", Lib.tabData .u64 Lib.pow10Tab) :: _) W from hL.tail.tail)⟩
  have hr : ∀ u, Tryd.prog.typeName? 3 u = some "*errors.errorString" → u = 138 := fun u h => typeName_ptr_named (nm := "errors.errorString") (by rw [YtpfalhbeeodjaaaDoorD.star]; kernel_rfl) (by kernel_rfl) (by decide) u (by rw [YtpfalhbeeodjaaaDoorD.star]; exact h)
  obtain ⟨asyn, _, syn, -, -, -⟩ := laid_sentinel (g := 2) (ti := 79) hL.tail.tail.tail.tail.tail (by kernel_rfl) (by kernel_rfl) Tryd.underlying79 hr Tryd.underlying138 Tryd.underlying140 rfl rfl Tryd.underlying9 (by kernel_rfl) (by kernel_rfl)
  obtain ⟨aran, _, ran, -, -, -⟩ := laid_sentinel (g := 3) (ti := 79) hL.tail.tail.tail.tail (by kernel_rfl) (by kernel_rfl) Tryd.underlying79 hr Tryd.underlying138 Tryd.underlying140 rfl rfl Tryd.underlying9 (by kernel_rfl) (by kernel_rfl)
  refine ⟨one, ⟨_, _, syn⟩, ⟨_, _, ran⟩, fun g hg => ?_⟩
  obtain rfl := Option.some.inj ((show Tryd.prog.globalNamed "internal/bytealg.MaxLen" = some 0 by kernel_rfl).symm.trans hg)
  exact cell_of_shapedOpen_int (t := 3) (zero := #[.int .i64 0]) hsh (of_decide_eq_true (by kernel_rfl)) (by kernel_rfl) rfl (by kernel_rfl) (by kernel_rfl) Tryd.underlying3
set_option maxRecDepth 100000 in
theorem lifted (os : Os) (started : os.Started) (H : Type) (enc : TypeId × Value → H) :
    ReturnsInHanded {} Tryd.checked os 7 .any (fun w args => (Rows.fnExactScriptsOfSpec.pre enc Tryd.prog Tryd.f7 Rows.fnExactScriptsOfRow.domain false w args ∧ laidMetH Tryd.prog Rows.fnExactScriptsOfRow.laid w) ∧ sizedMet enc Tryd.prog Tryd.f7 (OpenSpec.ofChange Rows.fnExactScriptsOfSpec) false w args) (Rows.fnExactScriptsOfSpec.post enc Tryd.prog Tryd.f7 false true false false) := by
  refine YtpfalhbeeodjaaaDoorD.handed (C := Tryd.checked) (X := fun w _ => laidMetH Tryd.prog Rows.fnExactScriptsOfRow.laid w) (fun _ _ _ hh h => h.of_heap hh) own started (by kernel_rfl) Tryd.func7
    (ChangeSpec.witness_shaped (enc := enc) (C := Tryd.checked) (os := os) (X := fun w _ => laidMetH Tryd.prog Rows.fnExactScriptsOfRow.laid w) false (World.laidAll Tryd.prog os Rows.fnExactScriptsOfRow.laid) #[.string ByteArray.empty] 8 (World.laidAll_os _ _ _) (World.shaped_of_ZipB (by kernel_rfl) (by kernel_rfl)) (by kernel_rfl) (by kernel_rfl) (by kernel_rfl) (by rw [MakeChecks.laidMetH_plain _ _ _ (by kernel_rfl)]; exact laidMet_laidAll _ (by kernel_rfl) (by kernel_rfl))) ?_
  intro W base args ds gs before hval0 hW hcnd hsz0 hL hsh _
  have hD := door hL hsh
  have hval : ∀ (j : Nat) t v, Tryd.f7.params[j]? = some t → args[j]? = some v → Value.okWide Tryd.prog W .any base t v := hval0
  have hW' := hW
  obtain ⟨p, q, hA0, hV, rfl, hfz, hnd⟩ := hW
  have hA : DataW.TrodAll enc Tryd.prog W 0 (fun _ => true) true Tryd.f7.params.toList args.toList ds p := hA0
  rw [Tryd.params7] at hA hval
  obtain ⟨v0, vs0, d0, ds0, p0, q0, hargs, rfl, rfl, h0, r0⟩ := trodAll_cons hA
  obtain ⟨rfl, rfl, rfl⟩ := trodAll_nil r0
  obtain rfl : args = #[v0] := by cases args; simp_all
  obtain ⟨rfl, rfl⟩ := trodVars_none hV
  have k0 := h0
  have lt0 : ∀ x ∈ p0, x.block < W.heap.size := by obtain ⟨m, hm⟩ := k0; exact DataW.trod_lt m _ _ _ hm
  obtain ⟨x0, rfl, rfl, rfl, hG0⟩ := open_string Tryd.underlying9 (hval 0 9 v0 rfl rfl) h0
  obtain ⟨k, hP⟩ := Pure.FnExactScriptsOf x0 hG0
  refine (P.laws_FnExactScriptsOf.calls (r := true) (w := W)  (hD := hD) (h := hP)).mono fun e W' ⟨he, bel0⟩ => ?_
  have bel : Below W.heap.size W W' := bel0
  subst he
  exact ⟨_, rfl, _, _, _, [], _, [], hW', trodAll_mk1 (shut_bool Tryd.underlying4 _), (trodAll_cons_mk (Below.trod laidOut (by kernel_rfl) (of_decide_eq_true (by kernel_rfl)) k0 bel lt0) trodAll_mk0), rfl, bel.frame _, fun h => by cases h⟩
theorem over : Rows.fnExactScriptsOfRow.holds Tryd.pinned (OpenSpec.ofChange Rows.fnExactScriptsOfSpec) :=
  OpenClaim.holds_of_wide 7 Tryd.f7 rfl rfl rfl rfl rfl rfl rfl ⟨rfl, rfl, rfl, rfl, rfl⟩ rfl rfl rfl rfl rfl (by kernel_rfl) Tryd.func7 (by kernel_rfl)
    (of_decide_eq_true (by kernel_rfl)) (by unfold Func.isWrapper; first | (rw [if_pos (by decide +kernel)]; kernel_rfl) | (rw [if_neg (by decide +kernel)]; exact ⟨rfl, rfl⟩))
    (fun os started H enc _ => lifted os started H enc)
theorem proved : Rows.FnExactScriptsOfCardSaid :=
  Claim7.holds_tied_plain_at .later [] [.data, .data, .data, .data, .sentinel, .sentinel, .pinned] true (true, "07d22ed99d0970840850758b2fd51b576a6e7cc043240c23646465a912946ad6") true over (fun _ h => by cases h) (by kernel_rfl) (fun _ h => by cases h) fnExactScriptsOf_row_tie rfl ⟨rfl, rfl⟩ (by kernel_rfl) rfl
    (fun f fn hf hfn => by
      obtain rfl : f = 7 := Option.some.inj ((show Tryd.prog.funcNamed "loop.example/g01033/laws.FnExactScriptsOf" = some 7 by kernel_rfl).symm.trans hf) |>.symm
      obtain rfl : fn = Tryd.f7 := (Option.some.inj (Tryd.func7.symm.trans hfn)).symm
      exact ⟨by kernel_rfl, fun j t ht => by
        rw [Tryd.params7] at ht
        have hm : t ∈ [9] := by simpa using Array.mem_of_getElem? ht
        have hall : ([9].all fun u => !Tryd.prog.wantsStandIn u) = true := by kernel_rfl
        exact (show Tryd.prog.wantsStandIn t = false by simpa using List.all_eq_true.1 hall t hm)⟩)
    (by kernel_rfl)
#print axioms proved
end Go.Proofs.YtpfalhbeeodjaaaDoor.fnExactScriptsOf
namespace Go.Proofs.YtpfalhbeeodjaaaDoor
/-- The row, under a short name, for the claim. -/
theorem fnExactScriptsOf_holds : Rows.FnExactScriptsOfCardSaid := fnExactScriptsOf.proved
end Go.Proofs.YtpfalhbeeodjaaaDoor
