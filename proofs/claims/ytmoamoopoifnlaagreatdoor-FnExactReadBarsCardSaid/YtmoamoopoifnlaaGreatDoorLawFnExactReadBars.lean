/- The card of FnExactReadBars: for every input the law returns true, and its arguments read afterwards as they did; the variables that its row lists are tied to the program's text. Conditions: none. -/
import Derived.Test.YtmoamoopoifnlaaGreatDoorRows
import Derived.Test.YtmoamoopoifnlaaGreatDoorTie
import Derived.Test.YtmoamoopoifnlaaGreatDoorCards
import Derived.Test.YtmoamoopoifnlaaGreatDoorBFnExactReadBarsa
import Derived.SevenTiedAt
import Derived.Test.YtmoamoopoifnlaaGreatDoorBFnExactReadBarse
import Derived.Test.YtmoamoopoifnlaaGreatDoorBFnExactReadBarsf
import Derived.WalkKit
import Derived.ProofKit
import Derived.OpenShut
import Derived.ShutString
import Derived.ChangeOld
import Derived.Below
import Derived.SizedLaws
import Derived.Carry
namespace Go.Proofs.YtmoamoopoifnlaaGreatDoor.fnExactReadBars
open Go.ChangeShapes Go.WideShapes Go.ChangeAt Go.RowKit Go.Proofs.YtmoamoopoifnlaaGreatDoorO Go.Proofs.YtmoamoopoifnlaaGreatDoorW.PrintWords
open Go.ChangeMaps (open_string shut_string)
set_option linter.unusedVariables false
theorem own : ownKnob Tryz.prog.godebug = none := by kernel_rfl
theorem laidOut : laidOutB Tryz.prog = true := by kernel_rfl
set_option maxRecDepth 100000 in
/-- What the listed variables hold, out of the row's condition. -/
theorem door {W : World} (hL0 : laidMetH Tryz.prog Rows.fnExactReadBarsRow.laid W) (hsh : W.ShapedOpen Tryz.prog) : P.Door2 W := by
  rw [MakeChecks.laidMetH_plain _ _ _ (by kernel_rfl)] at hL0
  have hL : laidMet Tryz.prog [("math/bits.deBruijn32tab", Rows.laid_math_bits_deBruijn32tab), ("math/bits.deBruijn64tab", Rows.laid_math_bits_deBruijn64tab), ("internal/strconv.uint64pow10", Rows.laid_internal_strconv_uint64pow10), ("unicode/utf8.acceptRanges", Rows.laid_unicode_utf8_acceptRanges), ("strconv.ErrRange", Rows.laid_strconv_ErrRange), ("strconv.ErrSyntax", Rows.laid_strconv_ErrSyntax), ("unicode/utf8.first", Rows.laid_unicode_utf8_first)] W := hL0
  have one : P.Door1 W := ⟨Lib.tabIs_of_head (g := 3) (t := 212) (e := 117) (n := 20) (by kernel_rfl) (by kernel_rfl) Tryz.underlying212 Tryz.underlying117 (by kernel_rfl) (by kernel_rfl) (show laidMet Tryz.prog (("internal/strconv.uint64pow10", Lib.tabData .u64 Lib.pow10Tab) :: _) W from hL.tail.tail)⟩
  have hr : ∀ u, Tryz.prog.typeName? 3 u = some "*errors.errorString" → u = 221 := fun u h => typeName_ptr_named (nm := "errors.errorString") (by rw [YtmoamoopoifnlaaGreatDoorD.star]; kernel_rfl) (by kernel_rfl) (by decide) u (by rw [YtmoamoopoifnlaaGreatDoorD.star]; exact h)
  obtain ⟨asyn, _, syn, -, -, -⟩ := laid_sentinel (g := 1) (ti := 146) hL.tail.tail.tail.tail.tail (by kernel_rfl) (by kernel_rfl) Tryz.underlying146 hr Tryz.underlying221 Tryz.underlying223 rfl rfl Tryz.underlying9 (by kernel_rfl) (by kernel_rfl)
  obtain ⟨aran, _, ran, -, -, -⟩ := laid_sentinel (g := 2) (ti := 146) hL.tail.tail.tail.tail (by kernel_rfl) (by kernel_rfl) Tryz.underlying146 hr Tryz.underlying221 Tryz.underlying223 rfl rfl Tryz.underlying9 (by kernel_rfl) (by kernel_rfl)
  refine ⟨one, ⟨_, _, syn⟩, ⟨_, _, ran⟩, fun g hg => ?_⟩
  obtain rfl := Option.some.inj ((show Tryz.prog.globalNamed "internal/bytealg.MaxLen" = some 0 by kernel_rfl).symm.trans hg)
  exact cell_of_shapedOpen_int (t := 3) (zero := #[.int .i64 0]) hsh (of_decide_eq_true (by kernel_rfl)) (by kernel_rfl) rfl (by kernel_rfl) (by kernel_rfl) Tryz.underlying3
set_option maxRecDepth 100000 in
theorem lifted (os : Os) (started : os.Started) (H : Type) (enc : TypeId × Value → H) :
    ReturnsInHanded {} Tryz.checked os 7 .any (fun w args => (Rows.fnExactReadBarsSpec.pre enc Tryz.prog Tryz.f7 Rows.fnExactReadBarsRow.domain false w args ∧ laidMetH Tryz.prog Rows.fnExactReadBarsRow.laid w) ∧ sizedMet enc Tryz.prog Tryz.f7 (OpenSpec.ofChange Rows.fnExactReadBarsSpec) false w args) (Rows.fnExactReadBarsSpec.post enc Tryz.prog Tryz.f7 false true false false) := by
  refine YtmoamoopoifnlaaGreatDoorD.handed (C := Tryz.checked) (X := fun w _ => laidMetH Tryz.prog Rows.fnExactReadBarsRow.laid w) (fun _ _ _ hh h => h.of_heap hh) own started (by kernel_rfl) Tryz.func7
    (ChangeSpec.witness_shaped (enc := enc) (C := Tryz.checked) (os := os) (X := fun w _ => laidMetH Tryz.prog Rows.fnExactReadBarsRow.laid w) false (World.laidAll Tryz.prog os Rows.fnExactReadBarsRow.laid) #[.string ByteArray.empty, .agg #[.string ByteArray.empty, .slice none 0 0, .slice none 0 0], .int .i64 0] 8 (World.laidAll_os _ _ _) (World.shaped_of_ZipB (by kernel_rfl) (by kernel_rfl)) (by kernel_rfl) (by kernel_rfl) (by kernel_rfl) (by rw [MakeChecks.laidMetH_plain _ _ _ (by kernel_rfl)]; exact laidMet_laidAll _ (by kernel_rfl) (by kernel_rfl))) ?_
  intro W base args ds gs before hval0 hW hcnd hsz0 hL hsh _
  have hD := door hL hsh
  have hval : ∀ (j : Nat) t v, Tryz.f7.params[j]? = some t → args[j]? = some v → Value.okWide Tryz.prog W .any base t v := hval0
  have hW' := hW
  obtain ⟨p, q, hA0, hV, rfl, hfz, hnd⟩ := hW
  have hA : DataW.TrodAll enc Tryz.prog W 0 (fun _ => true) true Tryz.f7.params.toList args.toList ds p := hA0
  rw [Tryz.params7] at hA hval
  obtain ⟨v0, vs0, d0, ds0, p0, q0, hargs, rfl, rfl, h0, r0⟩ := trodAll_cons hA
  obtain ⟨v1, vs1, d1, ds1, p1, q1, rfl, rfl, rfl, h1, r1⟩ := trodAll_cons r0
  obtain ⟨v2, vs2, d2, ds2, p2, q2, rfl, rfl, rfl, h2, r2⟩ := trodAll_cons r1
  obtain ⟨rfl, rfl, rfl⟩ := trodAll_nil r2
  obtain rfl : args = #[v0, v1, v2] := by cases args; simp_all
  obtain ⟨rfl, rfl⟩ := trodVars_none hV
  have k0 := h0
  have lt0 : ∀ x ∈ p0, x.block < W.heap.size := by obtain ⟨m, hm⟩ := k0; exact DataW.trod_lt m _ _ _ hm
  obtain ⟨x0, rfl, rfl, rfl, hG0⟩ := open_string Tryz.underlying9 (hval 0 9 v0 rfl rfl) h0
  have k1 := h1
  have lt1 : ∀ x ∈ p1, x.block < W.heap.size := by obtain ⟨m, hm⟩ := k1; exact DataW.trod_lt m _ _ _ hm
  obtain ⟨cs1, rfl, _⟩ := okWide_struct Tryz.underlying46 (hval 1 46 v1 rfl rfl)
  obtain ⟨fuel1, hf1⟩ := h1
  obtain ⟨x1, hK1, hG1⟩ := open46 H enc W _ _ _ fuel1 _ _ hf1
  obtain ⟨A1_1, c1_1, A1_2, c1_2, hcs1, hc1_1, hr1_1, hc1_2, hr1_2⟩ := P.k46_open hK1
  obtain rfl : cs1 = #[.string x1.f0, .slice A1_1 x1.f1.length c1_1, .slice A1_2 x1.f2.length c1_2] := by cases cs1; simpa [Value.cells] using hcs1
  have k2 := h2
  have lt2 : ∀ x ∈ p2, x.block < W.heap.size := by obtain ⟨m, hm⟩ := k2; exact DataW.trod_lt m _ _ _ hm
  obtain ⟨x2, rfl, rfl, rfl, hG2⟩ := open_int Tryz.underlying2 (hval 2 2 v2 rfl rfl) h2
  obtain ⟨k, hP⟩ := Pure.FnExactReadBars x0 x1 x2 hG0 hG1 hG2
  refine (P.laws_FnExactReadBars.calls (r := true) (w := W) (hr1_1 := hr1_1) (hc1_1 := hc1_1) (hr1_2 := hr1_2) (hc1_2 := hc1_2) (hD := hD) (h := hP)).mono fun e W' ⟨he, bel0⟩ => ?_
  have bel : Below W.heap.size W W' := bel0
  subst he
  exact ⟨_, rfl, _, _, _, [], _, [], hW', trodAll_mk1 (shut_bool Tryz.underlying4 _), (trodAll_cons_mk (Below.trod laidOut (by kernel_rfl) (of_decide_eq_true (by kernel_rfl)) k0 bel lt0) (trodAll_cons_mk (Below.trod laidOut (by kernel_rfl) (of_decide_eq_true (by kernel_rfl)) k1 bel lt1) (trodAll_cons_mk (Below.trod laidOut (by kernel_rfl) (of_decide_eq_true (by kernel_rfl)) k2 bel lt2) trodAll_mk0))), rfl, bel.frame _, fun h => by cases h⟩
theorem over : Rows.fnExactReadBarsRow.holds Tryz.pinned (OpenSpec.ofChange Rows.fnExactReadBarsSpec) :=
  OpenClaim.holds_of_wide 7 Tryz.f7 rfl rfl rfl rfl rfl rfl rfl ⟨rfl, rfl, rfl, rfl, rfl⟩ rfl rfl rfl rfl rfl (by kernel_rfl) Tryz.func7 (by kernel_rfl)
    (of_decide_eq_true (by kernel_rfl)) (by unfold Func.isWrapper; first | (rw [if_pos (by decide +kernel)]; kernel_rfl) | (rw [if_neg (by decide +kernel)]; exact ⟨rfl, rfl⟩))
    (fun os started H enc _ => lifted os started H enc)
theorem proved : Rows.FnExactReadBarsCardSaid :=
  Claim7.holds_tied_plain_at .later [] [.data, .data, .data, .data, .sentinel, .sentinel, .pinned] true (true, "41d00e5d38cf30e18ad8edac43233a4685ed891e9dab37eb140ef197386cd1d2") true over (fun _ h => by cases h) (by kernel_rfl) (fun _ h => by cases h) fnExactReadBars_row_tie rfl ⟨rfl, rfl⟩ (by kernel_rfl) rfl
    (fun f fn hf hfn => by
      obtain rfl : f = 7 := Option.some.inj ((show Tryz.prog.funcNamed "loop.example/g01033/laws.FnExactReadBars" = some 7 by kernel_rfl).symm.trans hf) |>.symm
      obtain rfl : fn = Tryz.f7 := (Option.some.inj (Tryz.func7.symm.trans hfn)).symm
      exact ⟨by kernel_rfl, fun j t ht => by
        rw [Tryz.params7] at ht
        have hm : t ∈ [9, 46, 2] := by simpa using Array.mem_of_getElem? ht
        have hall : ([9, 46, 2].all fun u => !Tryz.prog.wantsStandIn u) = true := by kernel_rfl
        exact (show Tryz.prog.wantsStandIn t = false by simpa using List.all_eq_true.1 hall t hm)⟩)
    (by kernel_rfl)
#print axioms proved
end Go.Proofs.YtmoamoopoifnlaaGreatDoor.fnExactReadBars
namespace Go.Proofs.YtmoamoopoifnlaaGreatDoor
/-- The row, under a short name, for the claim. -/
theorem fnExactReadBars_holds : Rows.FnExactReadBarsCardSaid := fnExactReadBars.proved
end Go.Proofs.YtmoamoopoifnlaaGreatDoor
