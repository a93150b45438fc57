/- Part d of what FnExactConflictsOf stands on: functions of the program as Lean functions with their walks, and plain lemmas. -/
import Derived.Test.YtocegmkifmdlcaaBFnExactConflictsOfb
import Derived.Test.YtocegmkifmdlcaaBFnExactConflictsOfa
import Derived.Test.YtocegmkifmdlcaaBFnExactConflictsOfc
namespace Go.Proofs.Ytocegmkifmdlcaa.P
open Go.RowKit Go.Sort Go.Proofs.YtocegmkifmdlcaaW.PrintWords
def ltB (a b : ByteArray) : Bool := Op.bytesLess a.toList b.toList
theorem bytesLess_eq' : ∀ (x y : List UInt8), Op.bytesLess x y = decide (x < y)
  | [], [] => by simp [Op.bytesLess]
  | _ :: _, [] => by simp [Op.bytesLess]
  | [], _ :: _ => by simp [Op.bytesLess]
  | a :: x, b :: y => by
    rw [Op.bytesLess, bytesLess_eq' x y]
    simp only [List.cons_lt_cons_iff]
    by_cases h1 : a < b <;> by_cases h2 : a = b <;> by_cases h3 : x < y <;> simp [h1, h2, h3]
theorem toList_data' (b : ByteArray) : b.toList = b.data.toList := by simp [ByteArray.toList_eq]
theorem ltB_iff {a b : ByteArray} : ltB a b = true ↔ a.data.toList < b.data.toList := by
  unfold ltB; rw [bytesLess_eq', toList_data', toList_data']; simp
theorem ba_ext {a b : ByteArray} : a.data.toList = b.data.toList ↔ a = b := by
  rw [← toList_data', ← toList_data']
  constructor
  · intro h
    have h2 : a.data.toList = b.data.toList := by rw [← toList_data', ← toList_data']; exact h
    have h3 : a.data = b.data := Array.ext' h2
    cases a; cases b; simp at h3; rw [h3]
  · intro h; rw [h]
theorem ltB_irrefl (a : ByteArray) : ¬ ltB a a = true := by rw [ltB_iff]; exact List.lt_irrefl _
theorem ltB_trans {a b c : ByteArray} (h : ltB a b = true) (h2 : ltB b c = true) : ltB a c = true := by rw [ltB_iff] at *; exact List.lt_trans h h2
theorem lt_of_le_ne {a b : List UInt8} (h : a ≤ b) (hne : a ≠ b) : a < b := Classical.byContradiction fun hn => hne (List.le_antisymm h (List.not_lt.1 hn))
theorem ltB_total {a b : ByteArray} (h : ¬ ltB a b = true) (hne : a ≠ b) : ltB b a = true := by
  rw [ltB_iff] at *
  rcases List.le_total a.data.toList b.data.toList with h1 | h1
  · exact absurd (lt_of_le_ne h1 (fun e => hne (ba_ext.1 e))) h
  · exact lt_of_le_ne h1 (fun e => hne (ba_ext.1 e).symm)
/-- Ascending, nothing twice. -/
def Asc (l : List ByteArray) : Prop := l.Pairwise fun a b => ltB a b = true
theorem asc_ext : ∀ {a b : List ByteArray}, Asc a → Asc b → (∀ x, x ∈ a ↔ x ∈ b) → a = b
  | [], [], _, _, _ => rfl
  | [], y :: _, _, _, h => absurd ((h y).2 List.mem_cons_self) (by simp)
  | x :: _, [], _, _, h => absurd ((h x).1 List.mem_cons_self) (by simp)
  | x :: r, y :: s, ha, hb, h => by
    obtain ⟨hx, hr⟩ := List.pairwise_cons.1 ha
    obtain ⟨hy, hs⟩ := List.pairwise_cons.1 hb
    have e : x = y := by
      have h1 := (h x).1 List.mem_cons_self
      have h2 := (h y).2 List.mem_cons_self
      rcases List.mem_cons.1 h1 with e | h1
      · exact e
      rcases List.mem_cons.1 h2 with e | h2
      · exact e.symm
      exact absurd (ltB_trans (hx y h2) (hy x h1)) (ltB_irrefl x)
    subst e
    congr 1
    refine asc_ext hr hs fun z => ⟨fun hz => ?_, fun hz => ?_⟩
    · rcases List.mem_cons.1 ((h z).1 (List.mem_cons_of_mem _ hz)) with e | h'
      · subst e; exact absurd (hx z hz) (ltB_irrefl z)
      · exact h'
    · rcases List.mem_cons.1 ((h z).2 (List.mem_cons_of_mem _ hz)) with e | h'
      · subst e; exact absurd (hy z hz) (ltB_irrefl z)
      · exact h'
/-- The reference's putting: what is less, the name, what is greater. -/
def putG (x : ByteArray) : List ByteArray → Bool → List ByteArray
  | [], d => if d = true then [] else [x]
  | y :: r, d => (if (!d && !ltB y x) = true then [x] else []) ++ ((if y.toList = x.toList then [] else [y]) ++ putG x r (d || !ltB y x))
theorem putG_true (x : ByteArray) : ∀ l, putG x l true = l.filter fun y => decide (y.toList ≠ x.toList)
  | [] => by simp [putG]
  | y :: r => by
    rw [putG, Bool.true_or, putG_true x r]
    by_cases h : y.toList = x.toList <;> simp [h]
theorem toList_iff {a b : ByteArray} : a.toList = b.toList ↔ a = b := by rw [toList_data', toList_data']; exact ba_ext
theorem mem_putG (x : ByteArray) : ∀ l z, z ∈ putG x l false ↔ z = x ∨ z ∈ l
  | [], z => by simp [putG]
  | y :: r, z => by
    rw [putG]
    by_cases h : ltB y x = true
    · have hne : ¬ y.toList = x.toList := fun e => ltB_irrefl x (by rw [toList_iff] at e; rwa [e] at h)
      simp only [h, Bool.not_true, Bool.and_false, Bool.false_eq_true, if_false, List.nil_append, if_neg hne, Bool.or_false, List.singleton_append, List.mem_cons, mem_putG x r z]
      constructor
      · rintro (h | h | h) <;> simp [h]
      · rintro (h | h | h) <;> simp [h]
    · rw [Bool.not_eq_true] at h
      simp only [h, Bool.not_false, Bool.and_self, if_true, Bool.or_true, putG_true]
      by_cases e : y.toList = x.toList
      · have e' := toList_iff.1 e
        subst e'
        simp only [if_true, List.nil_append, List.singleton_append, List.mem_cons, List.mem_filter, decide_eq_true_iff]
        constructor
        · rintro (h | h); exact .inl h; exact .inr (.inr h.1)
        · rintro (h | h | h)
          · exact .inl h
          · exact .inl h
          · by_cases e2 : z = y
            · exact .inl e2
            · exact .inr ⟨h, fun e3 => e2 (toList_iff.1 e3)⟩
      · simp only [if_neg e, List.singleton_append, List.mem_cons, List.mem_filter, decide_eq_true_iff]
        constructor
        · rintro (h | h | h); exact .inl h; exact .inr (.inl h); exact .inr (.inr h.1)
        · rintro (h | h | h)
          · exact .inl h
          · exact .inr (.inl h)
          · by_cases e2 : z = x
            · exact .inl e2
            · exact .inr (.inr ⟨h, fun e3 => e2 (toList_iff.1 e3)⟩)
theorem asc_putG (x : ByteArray) : ∀ {l}, Asc l → Asc (putG x l false)
  | [], _ => by simp [putG, Asc]
  | y :: r, ha => by
    obtain ⟨hy, hr⟩ := List.pairwise_cons.1 ha
    rw [putG]
    by_cases h : ltB y x = true
    · have hne : ¬ y.toList = x.toList := fun e => ltB_irrefl x (by rw [toList_iff] at e; rwa [e] at h)
      simp only [h, Bool.not_true, Bool.and_false, Bool.false_eq_true, if_false, List.nil_append, if_neg hne, Bool.or_false, List.singleton_append]
      refine List.pairwise_cons.2 ⟨fun z hz => ?_, asc_putG x hr⟩
      rcases (mem_putG x r z).1 hz with e | hz
      · rw [e]; exact h
      · exact hy z hz
    · have h' := h
      rw [Bool.not_eq_true] at h'
      simp only [h', Bool.not_false, Bool.and_self, if_true, Bool.or_true, putG_true]
      have hf : Asc (r.filter fun z => decide (z.toList ≠ x.toList)) := List.Pairwise.filter _ hr
      by_cases e : y.toList = x.toList
      · have e' := toList_iff.1 e
        subst e'
        simp only [if_true, List.nil_append, List.singleton_append]
        exact List.pairwise_cons.2 ⟨fun z hz => hy z (List.mem_filter.1 hz).1, hf⟩
      · have hxy : ltB x y = true := ltB_total h (fun e2 => e (toList_iff.2 e2))
        simp only [if_neg e, List.singleton_append]
        refine List.pairwise_cons.2 ⟨fun z hz => ?_, List.pairwise_cons.2 ⟨fun z hz => hy z (List.mem_filter.1 hz).1, hf⟩⟩
        rcases List.mem_cons.1 hz with e2 | hz
        · rw [e2]; exact hxy
        · exact ltB_trans hxy (hy z (List.mem_filter.1 hz).1)
theorem putG_length (x : ByteArray) : ∀ l d, (putG x l d).length ≤ l.length + 1
  | [], d => by rw [putG]; split <;> simp
  | y :: r, d => by
    rw [putG]
    cases d with
    | true =>
      have := putG_length x r true
      simp only [Bool.not_true, Bool.false_and, Bool.false_eq_true, if_false, List.nil_append, Bool.true_or, List.length_append, List.length_cons]
      split <;> simp <;> omega
    | false =>
      by_cases h : ltB y x = true
      · have := putG_length x r false
        simp only [h, Bool.not_true, Bool.and_false, Bool.false_eq_true, if_false, List.nil_append, Bool.or_false, List.length_append, List.length_cons]
        split <;> simp <;> omega
      · rw [Bool.not_eq_true] at h
        have h1 := List.length_filter_le (fun z => decide (z.toList ≠ x.toList)) r
        simp only [h, Bool.not_false, Bool.and_self, if_true, Bool.or_true, putG_true, List.length_append, List.length_cons]
        split <;> simp at h1 ⊢ <;> omega
/-- All of a list put, one behind the other. -/
def puts (l acc : List ByteArray) : List ByteArray := l.foldl (fun a x => putG x a false) acc
theorem asc_puts : ∀ (l : List ByteArray) {acc}, Asc acc → Asc (puts l acc)
  | [], _, h => h
  | x :: r, _, h => asc_puts r (asc_putG x h)
theorem mem_puts : ∀ (l : List ByteArray) (acc : List ByteArray) (z : ByteArray), z ∈ puts l acc ↔ z ∈ l ∨ z ∈ acc
  | [], acc, z => by simp [puts]
  | x :: r, acc, z => by
    show z ∈ puts r (putG x acc false) ↔ _
    rw [mem_puts r, mem_putG, List.mem_cons]
    constructor
    · rintro (h | h | h) <;> simp [h]
    · rintro ((h | h) | h) <;> simp [h]
theorem puts_length : ∀ (l acc : List ByteArray), (puts l acc).length ≤ l.length + acc.length
  | [], acc => by simp [puts]
  | x :: r, acc => by
    have h1 := puts_length r (putG x acc false)
    have h2 := putG_length x acc false
    show (puts r (putG x acc false)).length ≤ _
    rw [List.length_cons]; omega
theorem compactUpTo_mem {α : Type} [Inhabited α] [DecidableEq α] (d : Array α) : ∀ (m : Nat) (x : α), x ∈ Lib.compactUpTo d m ↔ ∃ j, j < m ∧ d[j]! = x
  | 0, x => by simp [Lib.compactUpTo]
  | m + 1, x => by
    rw [Lib.compactUpTo_succ, List.mem_append, compactUpTo_mem d m x]
    by_cases hk : Lib.keeps d m = true
    · rw [if_pos hk, List.mem_singleton]
      constructor
      · rintro (⟨j, hj, e⟩ | e)
        · exact ⟨j, by omega, e⟩
        · exact ⟨m, by omega, e.symm⟩
      · rintro ⟨j, hj, e⟩
        by_cases h : j = m
        · subst h; exact .inr e.symm
        · exact .inl ⟨j, by omega, e⟩
    · rw [if_neg hk]
      have hm : m ≠ 0 ∧ d[m]! = d[m - 1]! := by
        unfold Lib.keeps at hk
        simp only [decide_eq_true_iff, not_or, Classical.not_not] at hk
        exact hk
      constructor
      · rintro (⟨j, hj, e⟩ | e)
        · exact ⟨j, by omega, e⟩
        · simp at e
      · rintro ⟨j, hj, e⟩
        by_cases h : j = m
        · subst h; exact .inl ⟨j - 1, by omega, by rw [← hm.2]; exact e⟩
        · exact .inl ⟨j, by omega, e⟩
theorem compactUpTo_asc (d : Array (List UInt8)) (hs : ∀ i j, i ≤ j → j < d.size → d[i]! ≤ d[j]!) : ∀ m, m ≤ d.size → (Lib.compactUpTo d m).Pairwise (fun a b => a < b)
  | 0, _ => by simp [Lib.compactUpTo]
  | m + 1, hm => by
    rw [Lib.compactUpTo_succ]
    have ih := compactUpTo_asc d hs m (by omega)
    by_cases hk : Lib.keeps d m = true
    · rw [if_pos hk]
      refine List.pairwise_append.2 ⟨ih, by simp, fun a ha b hb => ?_⟩
      rw [List.mem_singleton] at hb; subst hb
      obtain ⟨j, hj, rfl⟩ := (compactUpTo_mem d m a).1 ha
      have h2 : d[m]! ≠ d[m - 1]! := by
        unfold Lib.keeps at hk
        rcases of_decide_eq_true hk with h | h
        · omega
        · exact h
      have h3 : d[m - 1]! < d[m]! := lt_of_le_ne (hs _ _ (by omega) (by omega)) (fun e => h2 e.symm)
      exact List.lt_of_le_of_lt (hs j (m - 1) (by omega) (by omega)) h3
    · rw [if_neg hk, List.append_nil]; exact ih
theorem unS_mkS (l : List (List UInt8)) : unS (mkS l) = l := by
  unfold unS mkS; rw [List.map_map]; exact (List.map_congr_left (fun _ _ => rfl)).trans (List.map_id l)
theorem compactSort_eq (l : List ByteArray) : compactS (sortS l) = puts l [] := by
  have hsp := List.pairwise_mergeSort (le := fun x y : List UInt8 => decide (x ≤ y)) (fun a b c h1 h2 => by simp at *; exact List.le_trans h1 h2) (fun a b => by simp; exact List.le_total a b) (unS l)
  have hpm := List.mergeSort_perm (unS l) (fun x y : List UInt8 => decide (x ≤ y))
  unfold compactS sortS
  rw [unS_mkS]
  generalize hz : (unS l).mergeSort (fun x y : List UInt8 => decide (x ≤ y)) = zs at hsp hpm ⊢
  have hs : ∀ i j, i ≤ j → j < zs.toArray.size → zs.toArray[i]! ≤ zs.toArray[j]! := by
    intro i j hij hj
    have hj' : j < zs.length := by simpa using hj
    rw [getElem!_pos _ i (by simp; omega), getElem!_pos _ j (by simpa using hj')]
    simp only [List.getElem_toArray]
    by_cases e : i = j
    · subst e; exact List.le_refl _
    · simpa using List.pairwise_iff_getElem.1 hsp i j (by omega) hj' (by omega)
  refine asc_ext ?_ (asc_puts l (by simp [Asc])) (fun x => ?_)
  · unfold Lib.compact mkS Asc
    rw [List.pairwise_map]
    refine (compactUpTo_asc zs.toArray hs zs.length (by simp)).imp fun {a b} h => ?_
    rw [ltB_iff]; simpa using h
  · rw [mem_puts]
    unfold Lib.compact mkS
    simp only [List.mem_map, compactUpTo_mem, List.not_mem_nil, or_false]
    constructor
    · rintro ⟨_, ⟨j, hj, rfl⟩, rfl⟩
      rw [getElem!_pos _ j (by simpa using hj)]
      have h1 : zs[j] ∈ unS l := hpm.mem_iff.1 (List.getElem_mem hj)
      unfold unS at h1
      obtain ⟨b, hb, e⟩ := List.mem_map.1 h1
      have : (⟨(zs.toArray[j]'(by simpa using hj)).toArray⟩ : ByteArray) = b := by
        simp only [List.getElem_toArray, ← e]
      rw [this]; exact hb
    · intro hx
      have h1 : x.data.toList ∈ zs := hpm.mem_iff.2 (List.mem_map.2 ⟨x, hx, rfl⟩)
      obtain ⟨j, hj, e⟩ := List.getElem_of_mem h1
      refine ⟨x.data.toList, ⟨j, hj, ?_⟩, rfl⟩
      rw [getElem!_pos _ j (by simpa using hj)]
      simpa using e
end Go.Proofs.Ytocegmkifmdlcaa.P

namespace Go.Proofs.Ytocegmkifmdlcaa.P
open Go.RowKit Go.Proofs.YtocegmkifmdlcaaW.PrintWords Go.Proofs.YtocegmkifmdlcaaL
def setG (n : ByteArray) (v : Int) : List S80 → Bool → List S80
  | [], d => if d = true then [] else [⟨n, v⟩]
  | y :: r, d => (if (!d && !ltB y.f0 n) = true then [⟨n, v⟩] else []) ++ ((if y.f0.toList = n.toList then [] else [y]) ++ setG n v r (d || !ltB y.f0 n))
theorem setG_map (n : ByteArray) (v : Int) : ∀ l d, (setG n v l d).map (·.f0) = putG n (l.map (·.f0)) d
  | [], d => by cases d <;> rfl
  | y :: r, d => by
    rw [setG, List.map_cons, putG, List.map_append, List.map_append, setG_map n v r]
    congr 1
    · split <;> rfl
    · congr 1
      split <;> rfl
theorem set_main {l : List S80} (hl : l.length ≤ 1048576) (n : ByteArray) (v : Int) : ∀ (e i : Nat) (out : List S80) (d : Bool), i + e = l.length → out.length ≤ 2 * i → Ev (fun k => spec_l27Set.l0 k l out d (i : Int) n v) (out ++ setG n v (l.drop i) d) := by
  intro e
  induction e with
  | zero =>
    intro i out d hi ho
    obtain rfl : i = l.length := by omega
    rw [List.drop_length]
    cases d with
    | true => exact Ev.step (f := fun _ => some out) (fun k => by simp only [spec_l27Set.l0]; rw [if_neg (nlt_cast _), if_pos trivial]) (by simp only [setG, if_true, List.append_nil]; exact Ev.now _)
    | false => exact Ev.step (f := fun _ => some (out ++ [(⟨n, v⟩ : S80)])) (fun k => by simp only [spec_l27Set.l0]; rw [if_neg (nlt_cast _), if_neg (by decide), if_pos (by omega)]) (by simp only [setG, Bool.false_eq_true, if_false]; exact Ev.now _)
  | succ e ih =>
    intro i out d hi ho
    have hlt : i < l.length := by omega
    have hw := wrap_succ hlt (by omega)
    rw [drop_cons hlt, setG]
    have j1f : ∀ d', Ev (fun k => spec_l27Set.j1 k l out d' (i : Int) false n v) (out ++ ((if l[i].f0.toList = n.toList then [] else [l[i]]) ++ setG n v (l.drop (i + 1)) d')) := by
      intro d'
      by_cases he : l[i].f0.toList = n.toList
      · rw [if_pos he, List.nil_append]
        refine Ev.step (fun k => ?_) (ih (i + 1) out d' (by omega) (by omega))
        simp only [spec_l27Set.j1]
        rw [if_neg (by decide), if_pos (nn_cast i), if_pos (lt_cast hlt), rd_set27 hlt, if_pos he, hw]
      · rw [if_neg he]
        have := ih (i + 1) (out ++ [l[i]]) d' (by omega) (by simp; omega)
        rw [List.append_assoc] at this
        refine Ev.step (fun k => ?_) this
        simp only [spec_l27Set.j1]
        rw [if_neg (by decide), if_pos (nn_cast i), if_pos (lt_cast hlt), rd_set27 hlt, if_neg he, if_pos (by omega), hw]
    cases d with
    | true =>
      refine Ev.step (f := fun k => spec_l27Set.j1 k l out true (i : Int) false n v) (fun k => by simp only [spec_l27Set.l0]; rw [if_pos (lt_cast hlt), if_pos trivial]) ?_
      simpa using j1f true
    | false =>
      refine Ev.step (f := fun k => spec_l27Set.j1 k l out false (i : Int) (!(ltB l[i].f0 n)) n v) (fun k => by simp only [spec_l27Set.l0]; rw [if_pos (lt_cast hlt), if_neg (by decide), if_pos (nn_cast i), rd_set27 hlt]; rfl) ?_
      cases hb : ltB l[i].f0 n with
      | true => simpa using j1f false
      | false =>
        show Ev (fun k => spec_l27Set.j1 k l out false (i : Int) true n v) (out ++ ([⟨n, v⟩] ++ ((if l[i].f0.toList = n.toList then [] else [l[i]]) ++ setG n v (l.drop (i + 1)) true)))
        rw [← List.append_assoc]
        by_cases he : l[i].f0.toList = n.toList
        · rw [if_pos he, List.nil_append]
          refine Ev.step (fun k => ?_) (ih (i + 1) (out ++ [⟨n, v⟩]) true (by omega) (by simp; omega))
          simp only [spec_l27Set.j1]
          rw [if_pos trivial, if_pos (by omega), Option.bind_some, if_pos (nn_cast i), if_pos (lt_cast hlt), rd_set27 hlt, if_pos he, hw]
        · rw [if_neg he]
          have := ih (i + 1) (out ++ [⟨n, v⟩] ++ [l[i]]) true (by omega) (by simp; omega)
          rw [List.append_assoc (out ++ [(⟨n, v⟩ : S80)]) [l[i]]] at this
          refine Ev.step (fun k => ?_) this
          simp only [spec_l27Set.j1]
          rw [if_pos trivial, if_pos (by omega), Option.bind_some, if_pos (nn_cast i), if_pos (lt_cast hlt), rd_set27 hlt, if_neg he, if_pos (by simp; omega), hw]
theorem set_ev {l : List S80} (hl : l.length ≤ 1048576) (n : ByteArray) (v : Int) : Ev (fun k => spec_l27Set.f k l n v) (setG n v l false) := by
  have := set_main hl n v l.length 0 [] false (by omega) (by simp)
  rw [List.nil_append, List.drop_zero] at this
  exact this
def setAll (l acc : List S80) : List S80 := l.foldl (fun a x => setG x.f0 x.f1 a false) acc
theorem setAll_map : ∀ (l acc : List S80), (setAll l acc).map (·.f0) = puts (l.map (·.f0)) (acc.map (·.f0))
  | [], acc => rfl
  | x :: r, acc => by
    show (setAll r (setG x.f0 x.f1 acc false)).map (·.f0) = puts (r.map (·.f0)) (putG x.f0 (acc.map (·.f0)) false)
    rw [setAll_map r, setG_map]
theorem setAll_len : ∀ (l acc : List S80), (setAll l acc).length ≤ l.length + acc.length := fun l acc => by
  have h := congrArg List.length (setAll_map l acc)
  have h2 := puts_length (l.map (·.f0)) (acc.map (·.f0))
  simp only [List.length_map] at h h2
  omega
/-- A loop that puts all of a state, and goes on. -/
theorem names_row {l : List S80} (hl : l.length ≤ 1048576) {α : Type} {r : α} (L : Nat → List S80 → Int → Option α) (N : Nat → List S80 → Option α)
    (hstep : ∀ k x (i : Nat) (h : i < l.length), L (k + 1) x (i : Int) = (spec_l27Set.f k x (l[i]).f0 (l[i]).f1).bind fun t => L k t ((i + 1 : Nat) : Int))
    (hstop : ∀ k x, L (k + 1) x (l.length : Int) = N k x) : ∀ (e i : Nat) (acc : List S80), i + e = l.length → acc.length + e ≤ 1048576 → Ev (fun k => N k (setAll (l.drop i) acc)) r → Ev (fun k => L k acc (i : Int)) r := by
  intro e
  induction e with
  | zero =>
    intro i acc hi ha h
    obtain rfl : i = l.length := by omega
    rw [List.drop_length] at h
    exact Ev.step (fun k => hstop k acc) h
  | succ e ih =>
    intro i acc hi ha h
    have hlt : i < l.length := by omega
    rw [drop_cons hlt] at h
    refine Ev.step (fun k => hstep k acc i hlt) ?_
    refine Ev.bind (set_ev (by omega) _ _) ?_
    have h2 := setAll_len [l[i]] acc
    exact ih (i + 1) _ (by omega) (by show (setAll [l[i]] acc).length + e ≤ _; simp at h2; omega) h
def names3 (a b c : List S80) : List ByteArray := puts (c.map (·.f0)) (puts (b.map (·.f0)) (puts (a.map (·.f0)) []))
theorem names3_len (a b c : List S80) : (names3 a b c).length ≤ a.length + b.length + c.length := by
  have h1 := puts_length (c.map (·.f0)) (puts (b.map (·.f0)) (puts (a.map (·.f0)) []))
  have h2 := puts_length (b.map (·.f0)) (puts (a.map (·.f0)) [])
  have h3 := puts_length (a.map (·.f0)) []
  simp only [List.length_map, List.length_nil] at h1 h2 h3
  unfold names3; omega
theorem names_ev {a b c : List S80} (ha : a.length ≤ 24) (hb : b.length ≤ 24) (hc : c.length ≤ 24) : Ev (fun k => spec_l27Names.f k a b c) (names3 a b c) := by
  unfold spec_l27Names.f
  have l1 := setAll_len a []
  have l2 := setAll_len b (setAll a [])
  have l3 := setAll_len c (setAll b (setAll a []))
  simp only [List.length_nil] at l1
  have last : Ev (fun k => spec_l27Names.l3 k (setAll c (setAll b (setAll a []))) [] 0) (names3 a b c) := by
    have e : names3 a b c = (setAll c (setAll b (setAll a []))).map (·.f0) := by rw [setAll_map, setAll_map, setAll_map]; rfl
    rw [e]
    generalize setAll c (setAll b (setAll a [])) = l at l3
    have main : ∀ (e i : Nat) (out : List ByteArray), i + e = l.length → out.length = i → Ev (fun k => spec_l27Names.l3 k l out (i : Int)) (out ++ (l.drop i).map (·.f0)) := by
      intro e
      induction e with
      | zero =>
        intro i out hi ho
        obtain rfl : i = l.length := by omega
        rw [List.drop_length]
        exact Ev.step (f := fun _ => some out) (fun k => by simp only [spec_l27Names.l3]; rw [if_neg (nlt_cast _)]) (by simp only [List.map_nil, List.append_nil]; exact Ev.now _)
      | succ e ih =>
        intro i out hi ho
        have hlt : i < l.length := by omega
        rw [drop_cons hlt, List.map_cons]
        have := ih (i + 1) (out ++ [l[i].f0]) (by omega) (by simp; omega)
        rw [List.append_assoc] at this
        refine Ev.step (fun k => ?_) this
        simp only [spec_l27Names.l3]
        rw [if_pos (lt_cast hlt), if_pos (nn_cast i), if_pos (by omega), rd_set27 hlt, wrap_succ hlt (by omega)]
    have := main l.length 0 [] (by omega) rfl
    simpa using this
  refine names_row (l := a) (by omega) (fun k x i => spec_l27Names.l0 k a b c x i) (fun k x => spec_l27Names.l1 k b c x 0) (fun k x i hi => ?_) (fun k x => ?_) a.length 0 [] (by omega) (by simp; omega) ?_
  · simp only [spec_l27Names.l0]; rw [if_pos (lt_cast hi), if_pos (nn_cast i), rd_set27 hi, wrap_succ hi (by omega)]
  · simp only [spec_l27Names.l0]; rw [if_neg (nlt_cast _)]
  rw [List.drop_zero]
  refine names_row (l := b) (by omega) (fun k x i => spec_l27Names.l1 k b c x i) (fun k x => spec_l27Names.l2 k c x 0) (fun k x i hi => ?_) (fun k x => ?_) b.length 0 _ (by omega) (by omega) ?_
  · simp only [spec_l27Names.l1]; rw [if_pos (lt_cast hi), if_pos (nn_cast i), rd_set27 hi, wrap_succ hi (by omega)]
  · simp only [spec_l27Names.l1]; rw [if_neg (nlt_cast _)]
  rw [List.drop_zero]
  refine names_row (l := c) (by omega) (fun k x i => spec_l27Names.l2 k c x i) (fun k x => spec_l27Names.l3 k x [] 0) (fun k x i hi => ?_) (fun k x => ?_) c.length 0 _ (by omega) (by omega) ?_
  · simp only [spec_l27Names.l2]; rw [if_pos (lt_cast hi), if_pos (nn_cast i), rd_set27 hi, wrap_succ hi (by omega)]
  · simp only [spec_l27Names.l2]; rw [if_neg (nlt_cast _)]
  rw [List.drop_zero]
  exact last
theorem impl_names_ev {a b c : List S80} (ha : a.length ≤ 24) (hb : b.length ≤ 24) (hc : c.length ≤ 24) : Ev (fun k => impl_namesOf.f k [a, b, c]) (names3 a b c) := by
  unfold impl_namesOf.f
  have row : ∀ (l : List S80) (j : Int) (r : List ByteArray), l.length ≤ 24 → ∀ (e i : Nat) (x : List ByteArray), i + e = l.length → x.length + e ≤ 100 → Ev (fun k => impl_namesOf.l0 k (x ++ (l.drop i).map (·.f0)) [a, b, c] 3 (wrap64 (j + 1))) r → Ev (fun k => impl_namesOf.l1 k x [a, b, c] 3 j l (l.length : Int) (i : Int)) r := by
    intro l j r hl e
    induction e with
    | zero =>
      intro i x hi hx h
      obtain rfl : i = l.length := by omega
      rw [List.drop_length, List.map_nil, List.append_nil] at h
      exact Ev.step (fun k => by simp only [impl_namesOf.l1]; rw [if_neg (by omega)]) h
    | succ e ih =>
      intro i x hi hx h
      have hlt : i < l.length := by omega
      rw [drop_cons hlt, List.map_cons] at h
      refine Ev.step (fun k => ?_) (ih (i + 1) (x ++ [l[i].f0]) (by omega) (by simp; omega) (by rw [List.append_assoc]; exact h))
      simp only [impl_namesOf.l1]
      rw [if_pos (lt_cast hlt), if_pos (nn_cast i), if_pos (lt_cast hlt), if_pos (by omega), rd_set27 hlt, wrap_succ hlt (by omega)]
  have step : ∀ (j : Nat) (l : List S80) (x : List ByteArray) (r : List ByteArray), j < 3 → rd_L15 [a, b, c] (j : Int) = l → l.length ≤ 24 → x.length ≤ 24 * j → Ev (fun k => impl_namesOf.l0 k (x ++ l.map (·.f0)) [a, b, c] 3 ((j + 1 : Nat) : Int)) r → Ev (fun k => impl_namesOf.l0 k x [a, b, c] 3 (j : Int)) r := by
    intro j l x r hj hl h24 hx h
    refine Ev.step (f := fun k => impl_namesOf.l1 k x [a, b, c] 3 (j : Int) l (l.length : Int) 0) (fun k => ?_) ?_
    · simp only [impl_namesOf.l0]
      rw [if_pos (by omega), if_pos (by omega), if_pos (by simp; omega), hl]
    · refine row l (j : Int) r h24 l.length 0 x (by omega) (by omega) ?_
      rw [List.drop_zero, wrap_id (by omega) (by omega)]
      exact h
  refine step 0 a [] _ (by omega) rfl ha (by simp) ?_
  refine step 1 b _ _ (by omega) rfl hb (by simp; omega) ?_
  refine step 2 c _ _ (by omega) rfl hc (by simp; omega) ?_
  refine Ev.step (f := fun k => some (names3 a b c)) (fun k => ?_) (Ev.now _)
  simp only [impl_namesOf.l0]
  rw [if_neg (by omega)]
  unfold slices_Sort_S_string.f slices_Compact_S_string.f
  rw [if_pos (by simp; omega), Option.bind_some, Option.bind_some, compactSort_eq]
  unfold names3 puts
  rw [List.nil_append, List.foldl_append, List.foldl_append]
/-- What the reference gets: the name and the value, or nothing. -/
def get27 (l : List S80) (nm : ByteArray) : ByteArray × Int := if (val27 nm l).2 = true then (nm, (val27 nm l).1) else (⟨#[]⟩, 0)
theorem get_ev {l : List S80} (hl : l.length ≤ 1048576) (nm : ByteArray) : Ev (fun k => spec_l27Get.f k l nm) (get27 l nm) := by
  unfold spec_l27Get.f get27
  refine Ev.bind (at27_ev hl nm) ?_
  rcases at27_cases nm l 0 with ⟨h1, h2, _⟩ | ⟨j, hj, h1, h2, h3⟩
  · rw [h1, h2]
    exact Ev.pos (by decide) (Ev.now _)
  · rw [h1, h2, Nat.zero_add]
    refine Ev.neg (by omega) (Ev.pos (nn_cast j) (Ev.pos (lt_cast hj) ?_))
    rw [rd_set27 hj, if_pos rfl, toList_iff.1 h3]
    exact Ev.now _
theorem thing_ev {l : List S80} (hl : l.length ≤ 1048576) (nm : ByteArray) : Ev (fun k => impl_thingAt.f k l nm) (val27 nm l) := by
  unfold impl_thingAt.f
  exact Ev.bind (val27_ev hl nm) (Ev.now _)
theorem get_same {nm : ByteArray} (hn : nm.toList ≠ []) (a b : List S80) : ((get27 a nm).1.toList == (get27 b nm).1.toList && ((get27 a nm).2 == (get27 b nm).2)) = (((val27 nm a).1 == (val27 nm b).1) && ((val27 nm a).2 == (val27 nm b).2)) := by
  have hz : ∀ l, (val27 nm l).2 = false → val27 nm l = (0, false) := fun l h => by
    rcases at27_cases nm l 0 with ⟨_, h2, _⟩ | ⟨j, hj, _, h2, _⟩
    · exact h2
    · rw [h2] at h; cases h
  have he : (⟨#[]⟩ : ByteArray).toList = [] := by rw [toList_data']
  unfold get27
  cases h1 : (val27 nm a).2 <;> cases h2 : (val27 nm b).2
  · rw [hz a h1, hz b h2]; simp
  · rw [if_neg (by decide), if_pos rfl, he, hz a h1]; simp; exact fun e => absurd e hn
  · rw [if_pos rfl, if_neg (by decide), he, hz b h2]; simp [hn]
  · simp
def same27 (a b : List S80) (nm : ByteArray) : Bool := ((val27 nm a).1 == (val27 nm b).1) && ((val27 nm a).2 == (val27 nm b).2)
def confB (a b c : List S80) (nm : ByteArray) : Bool := !(same27 b c nm || same27 b a nm || same27 c a nm)
theorem same_symm (a b : List S80) (nm : ByteArray) : same27 a b nm = same27 b a nm := by unfold same27; rw [Bool.beq_comm, Bool.beq_comm (a := (val27 nm a).2)]
theorem confl_ev {a b c : List S80} (ha : a.length ≤ 1048576) (hb : b.length ≤ 1048576) (hc : c.length ≤ 1048576) {ns : List ByteArray} (hn : ns.length ≤ 1048576) (hne : ∀ x ∈ ns, x.toList ≠ []) : Ev (fun k => spec_l27Conflicts.l0 k a b c ns [] 0) (ns.filter (confB a b c)) := by
  have main : ∀ (e i : Nat) (out : List ByteArray), i + e = ns.length → out.length ≤ i → Ev (fun k => spec_l27Conflicts.l0 k a b c ns out (i : Int)) (out ++ (ns.drop i).filter (confB a b c)) := by
    intro e
    induction e with
    | zero =>
      intro i out hi ho
      obtain rfl : i = ns.length := by omega
      rw [List.drop_length]
      exact Ev.step (f := fun _ => some out) (fun k => by simp only [spec_l27Conflicts.l0]; rw [if_neg (nlt_cast _)]) (by simp only [List.filter_nil, List.append_nil]; exact Ev.now _)
    | succ e ih =>
      intro i out hi ho
      have hlt : i < ns.length := by omega
      have hr : rdOf ByteArray.empty ns (i : Int) = ns[i] := by simp [rdOf, List.getD_eq_getElem?_getD, List.getElem?_eq_getElem hlt]
      have hx := hne ns[i] (List.getElem_mem hlt)
      rw [drop_cons hlt, List.filter_cons]
      refine Ev.step (f := fun k => (spec_l27Get.f k a ns[i]).bind fun x => (spec_l27Get.f k b ns[i]).bind fun y => (spec_l27Get.f k c ns[i]).bind fun z => (if (!(x.1.toList == y.1.toList && (x.2 == y.2))) = true then (if (!(x.1.toList == z.1.toList && (x.2 == z.2))) = true then (if (!(y.1.toList == z.1.toList && (y.2 == z.2))) = true then spec_l27Conflicts.l0 k a b c ns (out ++ [ns[i]]) ((i + 1 : Nat) : Int) else spec_l27Conflicts.l0 k a b c ns out ((i + 1 : Nat) : Int)) else spec_l27Conflicts.l0 k a b c ns out ((i + 1 : Nat) : Int)) else spec_l27Conflicts.l0 k a b c ns out ((i + 1 : Nat) : Int))) (fun k => ?_) ?_
      · simp only [spec_l27Conflicts.l0, hr]
        rw [if_pos (lt_cast hlt), if_pos (nn_cast i), wrap_succ hlt (by omega), if_pos (by omega : out.length < 8796093022208)]
        simp only [Bool.not_and]
      · refine Ev.bind (get_ev ha _) (Ev.bind (get_ev hb _) (Ev.bind (get_ev hc _) ?_))
        rw [get_same hx a b, get_same hx a c, get_same hx b c]
        have n1 := ih (i + 1) out (by omega) (by omega)
        have n2 := ih (i + 1) (out ++ [ns[i]]) (by omega) (by simp; omega)
        rw [List.append_assoc] at n2
        have h1 : same27 b a ns[i] = same27 a b ns[i] := same_symm _ _ _
        have h2 : same27 c a ns[i] = same27 a c ns[i] := same_symm _ _ _
        have hcf : confB a b c ns[i] = !(same27 b c ns[i] || same27 a b ns[i] || same27 a c ns[i]) := by unfold confB; rw [h1, h2]
        rw [hcf]
        change Ev (fun k => if (!(same27 a b ns[i])) = true then (if (!(same27 a c ns[i])) = true then (if (!(same27 b c ns[i])) = true then _ else _) else _) else _) _
        cases e1 : same27 a b ns[i] <;> cases e2 : same27 a c ns[i] <;> cases e3 : same27 b c ns[i] <;> first | exact n1 | exact n2
  have := main ns.length 0 [] (by omega) (by simp)
  rw [List.nil_append, List.drop_zero] at this
  exact this
theorem sel_ev {a b c : List S80} (ha : a.length ≤ 1048576) (hb : b.length ≤ 1048576) (hc : c.length ≤ 1048576) : ∀ (ns : List ByteArray), Ev (fun k => impl_conflictsOf.sel (impl_conflictsOf.q k a b c) ns) (ns.filter (confB a b c))
  | [] => Ev.now _
  | x :: r => by
    have hq : Ev (fun k => impl_conflictsOf.q k a b c x) (same27 b c x || same27 b a x || same27 c a x) :=
      Ev.bind (thing_ev ha x) (Ev.bind (thing_ev hb x) (Ev.bind (thing_ev hc x) (Ev.now _)))
    have := Ev.bind (f := fun k t => some (if (same27 b c x || same27 b a x || same27 c a x) = true then t else x :: t)) (sel_ev ha hb hc r) (Ev.now _)
    rw [List.filter_cons]
    have he : (if (same27 b c x || same27 b a x || same27 c a x) = true then r.filter (confB a b c) else x :: r.filter (confB a b c)) = if confB a b c x = true then x :: r.filter (confB a b c) else r.filter (confB a b c) := by
      unfold confB
      cases (same27 b c x || same27 b a x || same27 c a x) <;> rfl
    rw [← he]
    exact Ev.bind hq this
theorem state_name {l : List S80} (h : stateB l = true) : ∀ x ∈ l, 1 ≤ x.f0.size ∧ x.f0.size ≤ 10 := by
  intro x hx
  obtain ⟨i, hi, rfl⟩ := List.getElem_of_mem hx
  unfold stateB at h
  simp only [Bool.and_eq_true, List.all_eq_true, List.mem_range, stateAt, settingB, nameB, decide_eq_true_iff] at h
  have := (h.1 i hi).1.1
  rw [rd_set27 hi] at this
  exact ⟨this.1.1.1, this.1.1.2⟩
theorem names3_name {a b c : List S80} (ha : stateB a = true) (hb : stateB b = true) (hc : stateB c = true) : ∀ x ∈ names3 a b c, 1 ≤ x.size ∧ x.size ≤ 10 := by
  intro x hx
  unfold names3 at hx
  rw [mem_puts, mem_puts, mem_puts] at hx
  simp only [List.mem_map] at hx
  rcases hx with ⟨y, hy, rfl⟩ | ⟨y, hy, rfl⟩ | ⟨y, hy, rfl⟩ | hx
  · exact state_name hc y hy
  · exact state_name hb y hy
  · exact state_name ha y hy
  · cases hx
theorem ne_of_size {x : ByteArray} (h : 1 ≤ x.size) : x.toList ≠ [] := fun e => by have := size_zero.1 e; omega
end Go.Proofs.Ytocegmkifmdlcaa.P

namespace Go.Proofs.Ytocegmkifmdlcaa.P
open Go.RowKit Go.Proofs.YtocegmkifmdlcaaW.PrintWords Go.Proofs.YtocegmkifmdlcaaL
theorem markSettingS_all {l : List S80} (hl : l.length ≤ 1048576) (_ : ∀ y ∈ l, smiSetting y) {m : Int} (h0 : 0 ≤ m) (h1 : m ≤ 536870912) : ∃ (m' : Int) (l' : List S80), m ≤ m' ∧ m' ≤ m + 8388608 ∧ Ev (fun k => laws_markSettingS.f k l m) (m', l') ∧ Ev (fun k => laws_heldSettingS.f k l' m) m' :=
  ⟨m + 2 * l.length, mkSettingS l m, by omega, by omega, Ev.le 10000000 (fun k hk => markSettingS_eq h0 (by omega) (by omega)), Ev.le 10000000 (fun k hk => heldSettingS_mk h0 (by omega) (by omega))⟩
end Go.Proofs.Ytocegmkifmdlcaa.P

namespace Go.Proofs.Ytocegmkifmdlcaa.P
open Go.RowKit Go.Proofs.YtocegmkifmdlcaaW.PrintWords Go.Proofs.YtocegmkifmdlcaaL
theorem l27Conflicts_ev {a b c : List S80} (ha : stateB a = true) (hb : stateB b = true) (hc : stateB c = true) : Ev (fun k => spec_l27Conflicts.f k a b c) ((names3 a b c).filter (confB a b c)) := by
  have la := state_len ha
  have lb := state_len hb
  have lc := state_len hc
  have hl := names3_len a b c
  exact Ev.bind (names_ev la lb lc) (confl_ev (by omega) (by omega) (by omega) (by omega) (fun x hx => ne_of_size (names3_name ha hb hc x hx).1))
theorem conflictsOf_ev {a b c : List S80} (ha : stateB a = true) (hb : stateB b = true) (hc : stateB c = true) : Ev (fun k => impl_conflictsOf.f k a b c) ((names3 a b c).filter (confB a b c)) := by
  have la := state_len ha
  have lb := state_len hb
  have lc := state_len hc
  exact Ev.bind (impl_names_ev la lb lc) (sel_ev (by omega) (by omega) (by omega) _)
theorem core_ConflictsOf {a : List S80} (ha : a.length ≤ 1048576) {b : List S80} (hb : b.length ≤ 1048576) {c : List S80} (hc : c.length ≤ 1048576) : ∃ (v : List ByteArray) (n : Int), v.length ≤ 1048576 ∧ Ev (fun k => spec_ConflictsOf.f k a b c) (v, n) ∧ Ev (fun k => impl_ConflictsOf.f k a b c) (v, n) := by
  unfold spec_ConflictsOf.f impl_ConflictsOf.f
  by_cases h1 : stateB a = true
  rotate_left
  · exact ⟨[], 1, by simp, Ev.bind (State_spec_ev ha) (Ev.neg h1 (Ev.now _)), Ev.bind (State_impl_ev ha) (Ev.neg h1 (Ev.now _))⟩
  by_cases h2 : stateB b = true
  rotate_left
  · exact ⟨[], 1, by simp, Ev.bind (State_spec_ev ha) (Ev.pos h1 (Ev.bind (State_spec_ev hb) (Ev.neg h2 (Ev.now _)))), Ev.bind (State_impl_ev ha) (Ev.pos h1 (Ev.bind (State_impl_ev hb) (Ev.neg h2 (Ev.now _))))⟩
  by_cases h3 : stateB c = true
  rotate_left
  · exact ⟨[], 1, by simp, Ev.bind (State_spec_ev ha) (Ev.pos h1 (Ev.bind (State_spec_ev hb) (Ev.pos h2 (Ev.bind (State_spec_ev hc) (Ev.neg h3 (Ev.now _)))))), Ev.bind (State_impl_ev ha) (Ev.pos h1 (Ev.bind (State_impl_ev hb) (Ev.pos h2 (Ev.bind (State_impl_ev hc) (Ev.neg h3 (Ev.now _))))))⟩
  have la := state_len h1
  have lb := state_len h2
  have lc := state_len h3
  have hl := names3_len a b c
  have hf := List.length_filter_le (confB a b c) (names3 a b c)
  exact ⟨(names3 a b c).filter (confB a b c), 0, by omega, Ev.bind (State_spec_ev ha) (Ev.pos h1 (Ev.bind (State_spec_ev hb) (Ev.pos h2 (Ev.bind (State_spec_ev hc) (Ev.pos h3 (Ev.bind (l27Conflicts_ev h1 h2 h3) (Ev.now _))))))), Ev.bind (State_impl_ev ha) (Ev.pos h1 (Ev.bind (State_impl_ev hb) (Ev.pos h2 (Ev.bind (State_impl_ev hc) (Ev.pos h3 (Ev.bind (conflictsOf_ev h1 h2 h3) (Ev.now _)))))))⟩
theorem markStringS_all {l : List ByteArray} (hl : l.length ≤ 1048576) {m : Int} (h0 : 0 ≤ m) (h1 : m ≤ 536870912) : ∃ (m' : Int) (l' : List ByteArray), m ≤ m' ∧ m' ≤ m + 8388608 ∧ Ev (fun k => laws_markStringS.f k l m) (m', l') ∧ Ev (fun k => laws_heldStringS.f k l' m) m' :=
  ⟨m + l.length, mkStringS l m, by omega, by omega, Ev.le 10000000 (fun k hk => markStringS_eq h0 (by omega) (by omega)), Ev.le 10000000 (fun k hk => heldStringS_mk h0 (by omega) (by omega))⟩
end Go.Proofs.Ytocegmkifmdlcaa.P

namespace Go.Proofs.Ytocegmkifmdlcaa.Pure
open Go.RowKit Go.Proofs.YtocegmkifmdlcaaW.PrintWords Go.Proofs.YtocegmkifmdlcaaL Go.Proofs.Ytocegmkifmdlcaa.P
theorem FnExactConflictsOf : ∀ (x0 : List P.S74) (x1 : List P.S74) (x2 : List P.S74), (x0.length ≤ maxLen ∧ ∀ y ∈ x0, g74 y) → (x1.length ≤ maxLen ∧ ∀ y ∈ x1, g74 y) → (x2.length ≤ maxLen ∧ ∀ y ∈ x2, g74 y) → ∃ k : Nat, P.laws_FnExactConflictsOf.f k x0 x1 x2 = some true := by
  intro x0 x1 x2 ⟨hl0, hg0⟩ ⟨hl1, hg1⟩ ⟨hl2, hg2⟩
  refine Ev.rounds (g := fun k => P.laws_FnExactConflictsOf.f k x0 x1 x2) ?_
  unfold laws_FnExactConflictsOf.f
  obtain ⟨r0, hr0, h0⟩ := szSettingS_some hl0 hg0 (a := 1048576) (by omega) (by omega) (k := 10000000) (by omega)
  refine Ev.bind (a := r0) (Ev.of (g := fun k => laws_szSettingS.f k x0 1048576) (fun k => laws_szSettingS.mono _ _ k) hr0) ?_
  try dsimp only
  by_cases g0 : r0 < 0
  · exact Ev.pos g0 (Ev.now _)
  refine Ev.neg g0 ?_
  obtain ⟨p0, q0, z0, s0⟩ := h0.resolve_left g0
  obtain ⟨r1, hr1, h1⟩ := szSettingS_some hl1 hg1 (a := r0) (by omega) (by omega) (k := 10000000) (by omega)
  refine Ev.bind (a := r1) (Ev.of (g := fun k => laws_szSettingS.f k x1 r0) (fun k => laws_szSettingS.mono _ _ k) hr1) ?_
  try dsimp only
  by_cases g1 : r1 < 0
  · exact Ev.pos g1 (Ev.now _)
  refine Ev.neg g1 ?_
  obtain ⟨p1, q1, z1, s1⟩ := h1.resolve_left g1
  obtain ⟨r2, hr2, h2⟩ := szSettingS_some hl2 hg2 (a := r1) (by omega) (by omega) (k := 10000000) (by omega)
  refine Ev.bind (a := r2) (Ev.of (g := fun k => laws_szSettingS.f k x2 r1) (fun k => laws_szSettingS.mono _ _ k) hr2) ?_
  try dsimp only
  by_cases g2 : r2 < 0
  · exact Ev.pos g2 (Ev.now _)
  refine Ev.neg g2 ?_
  obtain ⟨p2, q2, z2, s2⟩ := h2.resolve_left g2
  unfold laws_FnExactConflictsOf.g
  have hx0 : (x0.map cSetting).length ≤ 1048576 := by simpa using z0
  have hs0 : ∀ y ∈ x0.map cSetting, smiSetting y := fun y hy => by obtain ⟨x, hx, rfl⟩ := List.mem_map.1 hy; exact smi_cSetting (s0 x hx)
  have hT0 : Ev (fun k => laws_toSettingS.f k x0) (x0.map cSetting) := Ev.le 10000000 (fun k hk => toSettingS_eq z0 s0 (by omega))
  have hE0 : Ev (fun k => laws_eqSettingS.f k (x0.map cSetting) (x0.map cSetting)) true := Ev.le 10000000 (fun k hk => by rw [eqSettingS_eq hx0 hs0 (by omega)]; simp)
  have hx1 : (x1.map cSetting).length ≤ 1048576 := by simpa using z1
  have hs1 : ∀ y ∈ x1.map cSetting, smiSetting y := fun y hy => by obtain ⟨x, hx, rfl⟩ := List.mem_map.1 hy; exact smi_cSetting (s1 x hx)
  have hT1 : Ev (fun k => laws_toSettingS.f k x1) (x1.map cSetting) := Ev.le 10000000 (fun k hk => toSettingS_eq z1 s1 (by omega))
  have hE1 : Ev (fun k => laws_eqSettingS.f k (x1.map cSetting) (x1.map cSetting)) true := Ev.le 10000000 (fun k hk => by rw [eqSettingS_eq hx1 hs1 (by omega)]; simp)
  have hx2 : (x2.map cSetting).length ≤ 1048576 := by simpa using z2
  have hs2 : ∀ y ∈ x2.map cSetting, smiSetting y := fun y hy => by obtain ⟨x, hx, rfl⟩ := List.mem_map.1 hy; exact smi_cSetting (s2 x hx)
  have hT2 : Ev (fun k => laws_toSettingS.f k x2) (x2.map cSetting) := Ev.le 10000000 (fun k hk => toSettingS_eq z2 s2 (by omega))
  have hE2 : Ev (fun k => laws_eqSettingS.f k (x2.map cSetting) (x2.map cSetting)) true := Ev.le 10000000 (fun k hk => by rw [eqSettingS_eq hx2 hs2 (by omega)]; simp)
  generalize x0.map cSetting = l0 at hx0 hT0 hE0 hs0 ⊢
  generalize x1.map cSetting = l1 at hx1 hT1 hE1 hs1 ⊢
  generalize x2.map cSetting = l2 at hx2 hT2 hE2 hs2 ⊢
  refine Ev.bind hT0 ?_
  try dsimp only
  refine Ev.bind hT1 ?_
  try dsimp only
  refine Ev.bind hT2 ?_
  try dsimp only
  obtain ⟨v, c, hv, hS, hI⟩ := core_ConflictsOf hx0 hx1 hx2
  have hV : Ev (fun k => laws_eqStringS.f k v v) true := Ev.le 10000000 (fun k hk => by rw [eqStringS_eq hv (by omega)]; simp)
  refine Ev.bind hS ?_
  try dsimp only
  refine Ev.bind hT0 ?_
  try dsimp only
  refine Ev.bind hT1 ?_
  try dsimp only
  refine Ev.bind hT2 ?_
  try dsimp only
  refine Ev.bind hI ?_
  try dsimp only
  refine Ev.yes hV ?_
  refine Ev.pos rfl ?_
  refine Ev.bind hT0 ?_
  try dsimp only
  refine Ev.yes hE0 ?_
  refine Ev.bind hT1 ?_
  try dsimp only
  refine Ev.yes hE1 ?_
  refine Ev.bind hT2 ?_
  try dsimp only
  refine Ev.yes hE2 ?_
  obtain ⟨m0, y0, mb0, mc0, hM0, hH0⟩ := markSettingS_all hx0 hs0 (m := 1) (by omega) (by omega)
  refine Ev.bind hM0 ?_
  try dsimp only
  obtain ⟨m1, y1, mb1, mc1, hM1, hH1⟩ := markSettingS_all hx1 hs1 (m := m0) (by omega) (by omega)
  refine Ev.bind hM1 ?_
  try dsimp only
  obtain ⟨m2, y2, mb2, mc2, hM2, hH2⟩ := markSettingS_all hx2 hs2 (m := m1) (by omega) (by omega)
  refine Ev.bind hM2 ?_
  try dsimp only
  refine Ev.neg (by omega) ?_
  refine Ev.yes hV ?_
  refine Ev.pos rfl ?_
  obtain ⟨m3, y3, mb3, mc3, hM3, hH3⟩ := markStringS_all hv (m := 1) (by omega) (by omega)
  refine Ev.bind hM3 ?_
  try dsimp only
  refine Ev.bind hH3 ?_
  try dsimp only
  refine Ev.neg (by omega) ?_
  refine Ev.pos rfl ?_
  refine Ev.bind hT0 ?_
  try dsimp only
  refine Ev.bind hT1 ?_
  try dsimp only
  refine Ev.bind hT2 ?_
  try dsimp only
  refine Ev.bind hI ?_
  try dsimp only
  refine Ev.yes hV ?_
  refine Ev.pos rfl ?_
  refine Ev.bind hH3 ?_
  try dsimp only
  refine Ev.neg (by omega) ?_
  refine Ev.pos rfl ?_
  exact Ev.now _
end Go.Proofs.Ytocegmkifmdlcaa.Pure
