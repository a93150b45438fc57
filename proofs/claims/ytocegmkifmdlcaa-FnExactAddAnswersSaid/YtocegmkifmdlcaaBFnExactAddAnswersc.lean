/- Part c of what FnExactAddAnswers stands on: functions of the program as Lean functions with their walks, and plain lemmas. -/
import Derived.Test.YtocegmkifmdlcaaWWords
import Derived.Test.YtocegmkifmdlcaaBFnExactAddAnswersa
import Derived.Test.YtocegmkifmdlcaaK
import Derived.Laws.CopyRow
import Derived.Laws.OwnMore
import Derived.Maps.AppendAt
import Derived.Lib.AppendZerosOnto
import Derived.Lib.Overlaps
import Derived.Deep.RegionHeld3
import Derived.Test.YtocegmkifmdlcaaBFnExactAddAnswersb
import Derived.Laws.IdiomStrings
namespace Go.Proofs.YtocegmkifmdlcaaL
open Go.RowKit Go.Proofs.YtocegmkifmdlcaaW.PrintWords
set_option linter.unusedVariables false
set_option linter.unusedSimpArgs false

theorem wrap_id {x : Int} (h0 : -9223372036854775808 ≤ x) (h1 : x ≤ 9223372036854775807) : wrap64 x = x := by unfold wrap64; omega
theorem wrap_succ {i n : Nat} (h : i < n) (hn : n ≤ 4611686018427387904) : wrap64 ((i : Int) + 1) = ((i + 1 : Nat) : Int) := by
  rw [wrap_id (by omega) (by omega)]; omega
theorem lt_cast {i n : Nat} (h : i < n) : (i : Int) < (n : Int) := by omega
theorem nn_cast (i : Nat) : 0 ≤ (i : Int) := by omega
theorem nlt_cast (n : Nat) : ¬ ((n : Int) < (n : Int)) := by omega
theorem drop_cons {α : Type} {l : List α} {i : Nat} (h : i < l.length) : l.drop i = l[i] :: l.drop (i + 1) := List.drop_eq_getElem_cons h

/-- A loop that fills a list that was made, place by place. -/
theorem set_loop {α β : Type} (L : Nat → List β → Int → Option (List β)) (l : List α) (g : α → β) (B : Nat)
    (step : ∀ (k i : Nat) (hi : i < l.length) (acc : List β), acc.length = l.length → B ≤ k → L (k + 1) acc (i : Int) = L k (acc.set i (g l[i])) ((i + 1 : Nat) : Int))
    (stop : ∀ (k : Nat) (acc : List β), L (k + 1) acc (l.length : Int) = some acc) :
    ∀ (k : Nat) (acc : List β), B + l.length < k → acc.length = l.length → L k acc 0 = some (l.map g) := by
  have main : ∀ (d k i : Nat) (acc : List β), i + d = l.length → B + d < k → acc.length = l.length → L k acc (i : Int) = some (acc.take i ++ (l.drop i).map g) := by
    intro d
    induction d with
    | zero =>
      intro k i acc hi hk ha
      obtain ⟨k, rfl⟩ : ∃ m, k = m + 1 := ⟨k - 1, by omega⟩
      have : i = l.length := by omega
      subst this
      rw [stop k acc, List.drop_length, List.take_of_length_le (by omega)]
      simp
    | succ d ih =>
      intro k i acc hi hk ha
      obtain ⟨k, rfl⟩ : ∃ m, k = m + 1 := ⟨k - 1, by omega⟩
      have hlt : i < l.length := by omega
      rw [step k i hlt acc ha (by omega), ih k (i + 1) _ (by omega) (by omega) (by simpa using ha), drop_cons hlt]
      have h2 : (acc.set i (g l[i])).take (i + 1) = acc.take i ++ [g l[i]] := by
        rw [List.take_succ_eq_append_getElem (by simp; omega)]
        have h3 : (acc.set i (g l[i])).take i = acc.take i := by
          apply List.ext_getElem
          · simp
          · intro j h1 h2
            simp at h1
            simp [List.getElem_set_ne (show i ≠ j by omega)]
        rw [h3]
        simp
      rw [h2]
      simp only [List.append_assoc, List.singleton_append, List.map_cons]
  intro k acc hk ha
  have := main l.length k 0 acc (by omega) hk ha
  simpa using this

/-- A loop that compares two lists of one length, place by place. -/
theorem eq_loop {α : Type} [DecidableEq α] (L : Nat → Int → Option Bool) (a b : List α) (hab : a.length = b.length) (B : Nat)
    (step : ∀ (k i : Nat) (h : i < a.length) (h2 : i < b.length), B ≤ k → L (k + 1) (i : Int) = if a[i] = b[i] then L k ((i + 1 : Nat) : Int) else some false)
    (stop : ∀ (k : Nat), L (k + 1) (a.length : Int) = some true) :
    ∀ (k : Nat), B + a.length < k → L k 0 = some (decide (a = b)) := by
  have main : ∀ (d k i : Nat), i + d = a.length → B + d < k → L k (i : Int) = some (decide (a.drop i = b.drop i)) := by
    intro d
    induction d with
    | zero =>
      intro k i hi hk
      obtain ⟨k, rfl⟩ : ∃ m, k = m + 1 := ⟨k - 1, by omega⟩
      obtain rfl : i = a.length := by omega
      rw [stop k, List.drop_length, hab, List.drop_length]
      rfl
    | succ d ih =>
      intro k i hi hk
      obtain ⟨k, rfl⟩ : ∃ m, k = m + 1 := ⟨k - 1, by omega⟩
      have h1 : i < a.length := by omega
      have h2 : i < b.length := by omega
      rw [step k i h1 h2 (by omega), ih k (i + 1) (by omega) (by omega)]
      rw [show (decide (a.drop i = b.drop i)) = decide (a[i] = b[i] ∧ a.drop (i + 1) = b.drop (i + 1)) from by
        congr 1; rw [drop_cons h1, drop_cons h2, List.cons.injEq]]
      by_cases e : a[i] = b[i]
      · rw [if_pos e]; simp [e]
      · rw [if_neg e]; simp [e]
  intro k hk
  have := main a.length k 0 (by omega) hk
  simpa using this

/-- A loop that asks each index below n and stops at the first that says no. -/
theorem all_loop (L : Nat → Int → Option Bool) (n : Nat) (p : Nat → Bool) (fin : Bool) (B : Nat)
    (step : ∀ (k i : Nat), i < n → B ≤ k → L (k + 1) (i : Int) = if p i = true then L k ((i + 1 : Nat) : Int) else some false)
    (stop : ∀ (k : Nat), B ≤ k → L (k + 1) (n : Int) = some fin) :
    ∀ (k : Nat), B + n < k → L k 0 = some ((List.range n).all p && fin) := by
  have main : ∀ (d k i : Nat), i + d = n → B + d < k → L k (i : Int) = some ((List.range' i d).all p && fin) := by
    intro d
    induction d with
    | zero =>
      intro k i hi hk
      obtain ⟨k, rfl⟩ : ∃ m, k = m + 1 := ⟨k - 1, by omega⟩
      obtain rfl : i = n := by omega
      rw [stop k (by omega)]; simp
    | succ d ih =>
      intro k i hi hk
      obtain ⟨k, rfl⟩ : ∃ m, k = m + 1 := ⟨k - 1, by omega⟩
      rw [step k i (by omega) (by omega), List.range'_succ, List.all_cons]
      by_cases h : p i = true
      · rw [if_pos h, ih k (i + 1) (by omega) (by omega), h]; simp
      · rw [if_neg h]; simp [h]
  intro k hk
  have := main n k 0 (by omega) hk
  rw [List.range_eq_range']
  exact this

theorem pred_cast {i n : Nat} (h0 : 0 < i) (h : i < n) (hn : n ≤ 4611686018427387904) : wrap64 ((i : Int) - 1) = ((i - 1 : Nat) : Int) := by
  rw [wrap_id (by omega) (by omega)]; omega

/-- A list marked with rising numbers from m on (each element takes c x of them), and the number behind. -/
def mkl {α : Type} (g : α → Int → α) (c : α → Int) : List α → Int → List α
  | [], _ => []
  | x :: r, m => g x m :: mkl g c r (m + c x)
def mtot {α : Type} (c : α → Int) : List α → Int → Int
  | [], m => m
  | x :: r, m => mtot c r (m + c x)
theorem mtot_ge {α : Type} {c : α → Int} (hc : ∀ x, 0 ≤ c x) : ∀ (l : List α) (m : Int), m ≤ mtot c l m
  | [], m => by simp [mtot]
  | x :: r, m => by
    have := mtot_ge hc r (m + c x)
    have := hc x
    simp only [mtot]; omega
theorem mtot_const {α : Type} (n : Int) : ∀ (l : List α) (m : Int), mtot (fun _ => n) l m = m + n * l.length
  | [], m => by simp [mtot]
  | x :: r, m => by
    simp only [mtot, mtot_const n r, List.length_cons]
    rw [show ((r.length + 1 : Nat) : Int) = (r.length : Int) + 1 from by omega, Int.mul_add]
    omega
theorem mark_loop {α : Type} (L : Nat → List α → Int → Int → Option (Int × List α)) (g : α → Int → α) (c : α → Int) (M : Int) (B : Nat) (hc : ∀ x, 0 ≤ c x)
    (step : ∀ (k : Nat) (pre : List α) (x : α) (rest : List α) (m : Int), B ≤ k → pre.length < 4611686018427387904 → 0 ≤ m → m + c x ≤ M →
      L (k + 1) (pre ++ x :: rest) m (pre.length : Int) = L k (pre ++ g x m :: rest) (m + c x) ((pre.length + 1 : Nat) : Int))
    (stop : ∀ (k : Nat) (l : List α) (m : Int), L (k + 1) l m (l.length : Int) = some (m, l)) :
    ∀ (k : Nat) (l : List α) (m : Int), B + l.length < k → l.length ≤ 4611686018427387904 → 0 ≤ m → mtot c l m ≤ M → L k l m 0 = some (mtot c l m, mkl g c l m) := by
  have main : ∀ (rest : List α) (k : Nat) (pre : List α) (m : Int), B + rest.length < k → pre.length + rest.length ≤ 4611686018427387904 → 0 ≤ m → mtot c rest m ≤ M →
      L k (pre ++ rest) m (pre.length : Int) = some (mtot c rest m, pre ++ mkl g c rest m) := by
    intro rest
    induction rest with
    | nil =>
      intro k pre m hk _ _ _
      obtain ⟨k, rfl⟩ : ∃ m, k = m + 1 := ⟨k - 1, by omega⟩
      have := stop k pre m
      simpa [mtot, mkl] using this
    | cons x r ih =>
      intro k pre m hk hl hm hM
      obtain ⟨k, rfl⟩ : ∃ m, k = m + 1 := ⟨k - 1, by omega⟩
      simp only [List.length_cons] at hk hl
      have h1 := mtot_ge hc r (m + c x)
      have h2 := hc x
      simp only [mtot] at hM
      rw [step k pre x r m (by omega) (by omega) hm (by omega)]
      have h3 := ih k (pre ++ [g x m]) (m + c x) (by omega) (by simp; omega) (by omega) hM
      simpa [mtot, mkl, List.append_assoc] using h3
  intro k l m hk hl hm hM
  have := main l k [] m hk (by simpa using hl) hm hM
  simpa using this
theorem held_loop {α : Type} (L : Nat → Int → Int → Option Int) (g : α → Int → α) (c : α → Int) (M : Int) (B : Nat) (hc : ∀ x, 0 ≤ c x) (l' : List α)
    (step : ∀ (k : Nat) (pre : List α) (x : α) (rest : List α) (m : Int), l' = pre ++ g x m :: rest → B ≤ k → pre.length < 4611686018427387904 → 0 ≤ m → m + c x ≤ M →
      L (k + 1) m (pre.length : Int) = L k (m + c x) ((pre.length + 1 : Nat) : Int))
    (stop : ∀ (k : Nat) (m : Int), L (k + 1) m (l'.length : Int) = some m) :
    ∀ (k : Nat) (l : List α) (m : Int), l' = mkl g c l m → B + l.length < k → l.length ≤ 4611686018427387904 → 0 ≤ m → mtot c l m ≤ M → L k m 0 = some (mtot c l m) := by
  have main : ∀ (rest : List α) (k : Nat) (pre : List α) (m : Int), l' = pre ++ mkl g c rest m → B + rest.length < k → pre.length + rest.length ≤ 4611686018427387904 → 0 ≤ m → mtot c rest m ≤ M →
      L k m (pre.length : Int) = some (mtot c rest m) := by
    intro rest
    induction rest with
    | nil =>
      intro k pre m he hk _ _ _
      obtain ⟨k, rfl⟩ : ∃ m, k = m + 1 := ⟨k - 1, by omega⟩
      have := stop k m
      have e : l'.length = pre.length := by rw [he]; simp [mkl]
      rw [e] at this
      simpa [mtot] using this
    | cons x r ih =>
      intro k pre m he hk hl hm hM
      obtain ⟨k, rfl⟩ : ∃ m, k = m + 1 := ⟨k - 1, by omega⟩
      simp only [List.length_cons] at hk hl
      have h1 := mtot_ge hc r (m + c x)
      have h2 := hc x
      simp only [mtot] at hM
      rw [step k pre x (mkl g c r (m + c x)) m (by simpa [mkl] using he) (by omega) (by omega) hm (by omega)]
      have h3 := ih k (pre ++ [g x m]) (m + c x) (by simpa [mkl, List.append_assoc] using he) (by omega) (by simp; omega) (by omega) hM
      simpa [mtot] using h3
  intro k l m he hk hl hm hM
  have := main l k [] m (by simpa using he) hk (by simpa using hl) hm hM
  simpa using this
theorem set_mid {α : Type} {pre rest : List α} {x v : α} : (pre ++ x :: rest).set ((pre.length : Int)).toNat v = pre ++ v :: rest := by simp

theorem bytes_eq {a b : ByteArray} : a.toList = b.toList ↔ a = b := by
  constructor
  · intro h
    have h2 : a.data.toList = b.data.toList := by
      have e : ∀ x : ByteArray, x.toList = x.data.toList := ByteArray.toList_eq
      rw [← e, ← e]; exact h
    cases a; cases b
    simp at h2
    rw [h2]
  · intro h; rw [h]
end Go.Proofs.YtocegmkifmdlcaaL

namespace Go.Proofs.Ytocegmkifmdlcaa.P
open Go.RowKit Go.Proofs.YtocegmkifmdlcaaW.PrintWords
set_option linter.unusedVariables false
theorem ins_w {n : Nat} (h : n ≤ 1000000) : wrap64 ((n : Int) + 1) = (n : Int) + 1 := Go.Proofs.YtocegmkifmdlcaaL.wrap_id (by omega) (by omega)
theorem ins_copy {P : Program} (w : World) (dT sT ty elem : TypeId) (z : Nat) (g o dLen dCap : Nat) (a : Addr) (sLen sCap : Nat) (cur : Array Value) (t : TypeId) (cs : List Value)
    (hu : P.underlying dT = some (.slice elem)) (hs : (P.info? elem).map (·.size) = some z)
    (hg : w.heap[g]? = some (.cells cur t (0, 0))) (hn : cs.length = Nat.min sLen dLen * z)
    (hsrc : ∀ j v, cs[j]? = some v → w.cell? (a.add j) = some v) (hfit : o + cs.length ≤ cur.size) (h1 : ∀ v ∈ cs, v.oneCell' = true) :
    (Builtin.copy_ #[dT, sT] ty #[.slice (some ⟨g, o, none⟩) dLen dCap, .slice (some a) sLen sCap]).run P w =
      .ok (goInt (Nat.min sLen dLen)) (w.setRow g (cur.toList.take o ++ cs ++ cur.toList.drop (o + cs.length)).toArray) := by
  have hl := run_loadCells_list (P := P) w a cs hsrc
  have hst := run_storeCells_at P g o t cs 0 cur w hg (by simpa using hfit) h1
  cases hq : P.info? elem with
  | none => simp [hq] at hs
  | some i =>
    have hi : i.size = z := by simpa [hq] using hs
    rw [hn] at hl
    simp [Builtin.copy_, run_underlying hu, Builtin.lenOf, Builtin.firstCells, sizeOf, typeInfo, hq, hi, hl, hst]
/-- Cells of a known block. -/
theorem ins_cell {w : World} {g : Nat} {cur : Array Value} {t : TypeId} {fz : Nat × Nat} (hg : w.heap[g]? = some (.cells cur t fz)) {o j : Nat} {u : Value} (h : (cur.toList.drop o)[j]? = some u) : w.cell? ((⟨g, o, none⟩ : Addr).add j) = some u := by
  have hadd : (⟨g, o, none⟩ : Addr).add j = ⟨g, o + j, none⟩ := by unfold Addr.add; split <;> simp_all
  rw [hadd]
  simp only [World.cell?, hg]
  rw [List.getElem?_drop] at h
  rw [← Array.getElem?_toList]; exact h
theorem ins_take {l xs : List Value} {m : Nat} (h : l.take m = xs) {a j : Nat} {u : Value} (hj : (xs.drop a)[j]? = some u) : (l.drop a)[j]? = some u := by
  subst h
  rw [List.getElem?_drop] at hj ⊢
  rcases Nat.lt_or_ge (a + j) m with h | h
  · rwa [List.getElem?_take_of_lt h] at hj
  · rw [List.getElem?_eq_none (by rw [List.length_take]; omega)] at hj; cases hj
/-- The row behind two copies in place: the elements from a on moved by b cells, then the new one laid. -/
theorem ins_room {l xs news : List Value} {a b m : Nat} (hx : l.take m = xs) (hxl : xs.length = m) (ha : a ≤ m) (hb : news.length = b) (hl : m + b ≤ l.length) :
    (((l.take (a + b) ++ xs.drop a ++ l.drop (a + b + (xs.drop a).length)).take a ++ news ++ (l.take (a + b) ++ xs.drop a ++ l.drop (a + b + (xs.drop a).length)).drop (a + news.length)).take (m + b)) = xs.take a ++ news ++ xs.drop a ∧ (l.take (a + b) ++ xs.drop a ++ l.drop (a + b + (xs.drop a).length)).length = l.length := by
  have h1 : (l.take (a + b)).length = a + b := by rw [List.length_take]; omega
  have h2 : (xs.drop a).length = m - a := by rw [List.length_drop]; omega
  constructor
  · have e1 : (l.take (a + b) ++ xs.drop a ++ l.drop (a + b + (xs.drop a).length)).take a = xs.take a := by
      rw [List.append_assoc, List.take_append_of_le_length zbt, List.take_take, Nat.min_eq_left zbt, ← hx, List.take_take, Nat.min_eq_left ha]
    have e2 : (l.take (a + b) ++ xs.drop a ++ l.drop (a + b + (xs.drop a).length)).drop (a + news.length) = xs.drop a ++ l.drop (a + b + (xs.drop a).length) := by
      rw [List.append_assoc, hb, List.drop_append_of_le_length zbt, List.drop_eq_nil_of_le zbt, List.nil_append]
    rw [e1, e2]
    have h3 : (xs.take a).length = a := by rw [List.length_take]; omega
    rw [← List.append_assoc, List.take_append_of_le_length (by rw [List.length_append, List.length_append, h3, hb, h2]; omega), List.take_of_length_le (by rw [List.length_append, List.length_append, h3, hb, h2]; omega)]
  · rw [List.length_append, List.length_append, h1, h2, List.length_drop]; omega
/-- The row of a new block behind two copies: zeros from a on, the new element laid, then those behind it. -/
theorem ins_grow {l xs news : List Value} {a b m : Nat} (hp : l.take a = xs.take a) (hxl : xs.length = m) (ha : a ≤ m) (hb : news.length = b) (hl : m + b ≤ l.length) :
    (((l.take a ++ news ++ l.drop (a + news.length)).take (a + b) ++ xs.drop a ++ (l.take a ++ news ++ l.drop (a + news.length)).drop (a + b + (xs.drop a).length)).take (m + b)) = xs.take a ++ news ++ xs.drop a ∧ ((l.take a ++ news ++ l.drop (a + news.length)).length = l.length) := by
  have h1 : (l.take a).length = a := by rw [List.length_take]; omega
  have h2 : (xs.drop a).length = m - a := by rw [List.length_drop]; omega
  constructor
  · have e1 : (l.take a ++ news ++ l.drop (a + news.length)).take (a + b) = xs.take a ++ news := by
      rw [List.take_append_of_le_length (by rw [List.length_append]; omega), List.take_of_length_le (by rw [List.length_append]; omega), hp]
    rw [e1]
    have h3 : (xs.take a).length = a := by rw [List.length_take]; omega
    rw [List.take_append_of_le_length (by rw [List.length_append, List.length_append, h3, hb, h2]; omega), List.take_of_length_le (by rw [List.length_append, List.length_append, h3, hb, h2]; omega)]
  · rw [List.length_append, List.length_append, h1, List.length_drop]; omega
theorem ins_from {P : Program} (t e : TypeId) {i : TypeInfo} (ht : P.underlying t = some (.slice e)) (hi : P.info? e = some i) (z : Nat) (hz : i.size = z) (g n c j : Nat) (x : Int) (hx : x = (j : Int)) (hn : j ≤ n) (hc : j ≠ c) :
    ∀ W : World, (Instr.slice t (.slice (some ⟨g, 0, none⟩) n c) (some (.int .i64 x)) none none).run P W = .ok (.slice (some ⟨g, j * z, none⟩) (n - j) (c - j)) W := by
  intro W
  have h := cut_from (P := P) t e .i64 ht hi z hz (some ⟨g, 0, none⟩) n c x zbt zbt W
  have hj : x.toNat = j := by omega
  have hadd : (⟨g, 0, none⟩ : Addr).add (j * z) = ⟨g, j * z, none⟩ := by unfold Addr.add; split <;> simp_all
  rw [h, hj, if_neg zbt, Option.map_some, hadd]
theorem ins_to {P : Program} (t e : TypeId) {i : TypeInfo} (ht : P.underlying t = some (.slice e)) (hi : P.info? e = some i) (A : Option Addr) (n c j : Nat) (x : Int) (hx : x = (j : Int)) (hc : j ≤ c) :
    ∀ W : World, (Instr.slice t (.slice A n c) none (some (.int .i64 x)) none).run P W = .ok (.slice A j c) W := by
  intro W
  have hel : P.elem t = e := by simp [Program.elem, ht]
  have hu : P.underlying t = some (.slice (P.elem t)) := by rw [hel]; exact ht
  have ha : (A.map fun x => x.add 0) = A := by cases A <;> simp [Addr.add]
  have hj : x.toNat = j := by omega
  rw [run_slice_h W t A n c hu .i64 x zbt zbt, hel]
  simp [sizeOf, typeInfo, hi, sliced, Result.andThen, ha, hj]
theorem ins_copy_event {P : Program} {ops : Array Oper} {rest : List Oper} {o : Oper} {a : Act} {Q : Exit → Act → World → Prop} {W w1 : World} (hgd : o.guard = none) (s x : Operand) (t u : TypeId) (ho : o.op = .call { callee := .builtin .copy, args := #[s, x], argTypes := #[t, u] }) {v y v' : Value} (hs : a.eval s = v) (hx : a.eval x = y)
    (hr : (Builtin.copy_ #[t, u] o.type #[v, y]).run P W = .ok v' w1) (h : wpList P ops Q rest (a.put o.dst v') w1) : wpList P ops Q (o :: rest) a W := by
  refine Kd.event_run hgd ?_ h
  unfold execOp
  simp only [ho, resolve, invoke, builtin, Sem.run_bind, Sem.run_pure, Result.andThen_ok, List.map_toArray, List.map_cons, List.map_nil, hs, hx, hr]
theorem ins_copy_step {P : Program} {ops : Array Oper} {o : Oper} {a : Act} {Q : Exit → Act → World → Prop} {Kc : Act → World → Prop} {E : Prop} {W w1 : World} (hgd : o.guard = none) (s x : Operand) (t u : TypeId) (ho : o.op = .call { callee := .builtin .copy, args := #[s, x], argTypes := #[t, u] }) {v y v' : Value} (hs : a.eval s = v) (hx : a.eval x = y)
    (hr : (Builtin.copy_ #[t, u] o.type #[v, y]).run P W = .ok v' w1) (h : Kc (a.put o.dst v') w1) : if Region.wanted o (yielded ops a.tmps) = true then Oper.wp P o a W Kc Q else E := by
  have hw : Region.wanted o (yielded ops a.tmps) = true := by simp [Region.wanted, hgd]
  rw [if_pos hw]
  unfold Oper.wp execOp
  simp only [ho, resolve, invoke, builtin, Sem.run_bind, Sem.run_pure, Result.andThen_ok, List.map_toArray, List.map_cons, List.map_nil, hs, hx, hr]
  exact h
/-- Two stores of a row behind one draw: what has changed. -/
theorem ins_grown {w W1 W2 : World} {g : Nat} {a b : Array Value} (h1 : W1 = w.drew.setRow g a) (h2 : W2 = W1.setRow g b) : w.grownBy W2 (some g) := by
  subst h1; subst h2
  refine ⟨rfl, rfl, rfl, zdd, fun k _ hk => ?_⟩
  have hne : k ≠ g := fun e => hk (by rw [e])
  rw [setRow_other _ g k _ hne, setRow_other _ g k _ hne]
  rfl
theorem ins_w2 {n i : Nat} (h : n ≤ 1000000) (hi : i ≤ n) : wrap64 ((n : Int) + 1 - (i : Int)) = (n : Int) + 1 - (i : Int) := Go.Proofs.YtocegmkifmdlcaaL.wrap_id (by omega) (by omega)
/-- A new block, two stores of its row: what has changed. -/
theorem ins_grown2 {w W1 W2 W3 : World} {o : Obj} {a b : Array Value} {row : Option Nat} (h1 : W1 = w.drew.alloc o) (h2 : W2 = W1.setRow w.heap.size a) (h3 : W3 = W2.drew.setRow w.heap.size b) : w.grownBy W3 row := by
  subst h1; subst h2; subst h3
  have h := World.grownBy_alloc w.drew o row
  refine ⟨rfl, rfl, rfl, ?_, fun k hk hr => ?_⟩
  · have hs := h.size
    simp at hs ⊢
  · have hne : k ≠ w.heap.size := Nat.ne_of_lt hk
    rw [setRow_other _ w.heap.size k _ hne]
    show ((w.drew.alloc o).setRow w.heap.size a).heap[k]? = _
    rw [setRow_other _ w.heap.size k _ hne]
    exact h.block k hk hr
theorem ins_one {α : Type} {R : α → List Value → Prop} {size : Nat} {ps : List α} {cs : List Value} (h : Reps R size ps cs) (hs0 : 0 < size) (hR : ∀ p c, R p c → ∀ u ∈ c, u.oneCell' = true) : ∀ u ∈ cs, u.oneCell' = true := by
  intro u hu
  obtain ⟨j, hj, rfl⟩ := List.getElem_of_mem hu
  have hjp : j / size < ps.length := by rw [Nat.div_lt_iff_lt_mul hs0, ← h.1]; exact hj
  have hp := h.2 (j / size) ps[j / size] (List.getElem?_eq_getElem hjp)
  refine hR _ _ hp _ ?_
  have h1 := Nat.div_add_mod j size
  have h2 := Nat.mod_lt j hs0
  rw [List.mem_iff_getElem?]
  refine ⟨j % size, ?_⟩
  rw [List.getElem?_take_of_lt h2, List.getElem?_drop, show j / size * size + j % size = j by rw [Nat.mul_comm]; exact h1, List.getElem?_eq_getElem hj]
/-- A call of a function that is a value at hand: a step of a region that draws. -/
theorem goesV_ {P : Program} {ops : Array Oper} {Q : Exit → Act → World → Prop} {oi : Oper} {N : Option Tmp} {a : Act} {w : World} {K : Act → World → Prop} {f : FuncId} {fn : Func} {q : Tmp} {aa_ : Array Operand} {ts : Array TypeId} (hf : P.funcs[f]? = some fn) (hname : (fn.name == "runtime.NumGoroutine") = false) (hb : fn.body.isSome = true) (args : Array Value)
    (hw : Region.wanted oi (yielded ops a.tmps) = true) (hN : oi.dst = N) (hop : oi.op = .call { callee := .value (.tmp q), args := aa_, argTypes := ts }) (hv : a.eval (.tmp q) = .func (.func f) #[] #[]) (hargs : aa_.map a.eval = args)
    (h : Calls P f args w fun e w' => ∃ v, e = .returned v ∧ K (a.put N v) w') : if Region.wanted oi (yielded ops a.tmps) = true then Oper.wp P oi a w K Q else K (a.put N undef) w := by
  refine Go.Proofs.YtocegmkifmdlcaaW.PrintLast.call_ f args hw hN ?_ h
  have he := Go.Proofs.YtocegmkifmdlcaaW.PrintLast.enters_ hf hname hb args w
  unfold execOp
  simp [hop, resolve, Deferred.ofValue, invoke, hv, hargs, he]
end Go.Proofs.Ytocegmkifmdlcaa.P

namespace Go.Proofs.Ytocegmkifmdlcaa.P
open Go.RowKit Go.Proofs.YtocegmkifmdlcaaW.PrintWords Go.Proofs.YtocegmkifmdlcaaW.PrintLast Go.Proofs.YtocegmkifmdlcaaW.PrintMore
attribute [local go_sem] max2_int min2_int max_two min_two max_three min_three max_four min_four str_leq str_gtr str_geq
set_option linter.unusedVariables false
set_option linter.unusedSimpArgs false
def slices_BinarySearchFunc_S_impl_Turn.l0:Nat→List (S127)→Int→Int→Int→ByteArray→Int→Int→Option (Int × Bool)
 | 0,_,_,_,_,_,_,_=>none
 | k+1,x0,x8,x9,x10,x102000,x102001,x102002=>if x9<x10 then (if 0≤(wrap64 ((IntKind.u64.wrap (wrap64 (x9+x10))) / 2)) then (if (wrap64 ((IntKind.u64.wrap (wrap64 (x9+x10))) / 2))<(x0.length:Int) then ((impl_compareTurns.f k ((rd_T127 x0 (wrap64 ((IntKind.u64.wrap (wrap64 (x9+x10))) / 2))).f0) ((rd_T127 x0 (wrap64 ((IntKind.u64.wrap (wrap64 (x9+x10))) / 2))).f1) ((rd_T127 x0 (wrap64 ((IntKind.u64.wrap (wrap64 (x9+x10))) / 2))).f2) x102000 x102001 x102002).bind fun t103=>(if t103<0 then (slices_BinarySearchFunc_S_impl_Turn.l0 k x0 x8 (wrap64 ((wrap64 ((IntKind.u64.wrap (wrap64 (x9+x10))) / 2))+1)) x10 x102000 x102001 x102002) else (slices_BinarySearchFunc_S_impl_Turn.l0 k x0 x8 x9 (wrap64 ((IntKind.u64.wrap (wrap64 (x9+x10))) / 2)) x102000 x102001 x102002))) else (none)) else (none)) else (if x9<x8 then (if 0≤x9 then (if x9<(x0.length:Int) then ((impl_compareTurns.f k ((rd_T127 x0 x9).f0) ((rd_T127 x0 x9).f1) ((rd_T127 x0 x9).f2) x102000 x102001 x102002).bind fun t105=>(some (x9,(t105 == 0)))) else (none)) else (none)) else (some (x9,false)))
def slices_BinarySearchFunc_S_impl_Turn.f (k:Nat) (l0:List (S127)) (a1_0:ByteArray) (a1_1:Int) (a1_2:Int) (a2:Int):Option (Int × Bool):=slices_BinarySearchFunc_S_impl_Turn.l0 k l0 (l0.length:Int) 0 (l0.length:Int) a1_0 a1_1 a1_2
def slices_BinarySearchFunc_S_impl_Turn.T5:Bool × List (List Nat × List Nat):=(true,[([],[]),([],[]),([],[]),([1,2],[1,2]),([3],[3]),([],[]),([0,4,5],[0,4,5]),([6],[6])])
def slices_BinarySearchFunc_S_impl_Turn.B5:List Nat:=[0,0,0,6,14,0,63,127]
theorem slices_BinarySearchFunc_S_impl_Turn.tab5:rtab .any (opsOf Try.f102 5)=slices_BinarySearchFunc_S_impl_Turn.T5:=by kernel_rfl
theorem slices_BinarySearchFunc_S_impl_Turn.bits5:waitsOk slices_BinarySearchFunc_S_impl_Turn.T5.2 slices_BinarySearchFunc_S_impl_Turn.B5=true:=by kernel_rfl
def slices_BinarySearchFunc_S_impl_Turn.T8:Bool × List (List Nat × List Nat):=(true,[([],[]),([],[]),([],[]),([1,2],[1,2]),([3],[3]),([4],[4]),([4],[4]),([4],[4]),([6,7,4],[4,6,7]),([8,4],[4,8]),([4],[4]),([5,9,10,4,4],[4,5,9,10]),([11,4],[4,11]),([4,12],[4,12]),([0,11,0],[0]),([13,14,0,1,2,3,4,5,6,7,8,9,10,11,12,13,14],[13])])
def slices_BinarySearchFunc_S_impl_Turn.B8:List Nat:=[0,0,0,6,14,30,30,30,222,478,30,2046,4094,8190,4095,32767]
theorem slices_BinarySearchFunc_S_impl_Turn.tab8:rtab .any (opsOf Try.f102 8)=slices_BinarySearchFunc_S_impl_Turn.T8:=by kernel_rfl
theorem slices_BinarySearchFunc_S_impl_Turn.bits8:waitsOk slices_BinarySearchFunc_S_impl_Turn.T8.2 slices_BinarySearchFunc_S_impl_Turn.B8=true:=by kernel_rfl
set_option maxHeartbeats 8000000 in
set_option maxRecDepth 100000 in
theorem slices_BinarySearchFunc_S_impl_Turn.calls (k:Nat) (A0:Option Addr) (c0:Nat) (l0:List (S127)) (a1_0:ByteArray) (a1_1:Int) (a1_2:Int) (a2:Int) (r1:Int) (r2:Bool) (w:World) (hr0:Kd.C k127 w A0 l0.length l0) (hc0:l0.length≤c0) (h:slices_BinarySearchFunc_S_impl_Turn.f k l0 a1_0 a1_1 a1_2 a2=some (r1,r2)) :
 Calls Try.prog 102 #[.slice A0 l0.length c0,.agg #[.string a1_0,.int .i64 a1_1,.int .i64 a1_2],.func (.func 103) #[] #[]] w fun e w'=>e = .returned (.tuple #[.int .i64 r1,.bool r2])∧Below w.heap.size w w':=by
 have hu127:=Try.underlying127
 have HR0:=Aside0.mk hr0
 have HC0:=Aside0.mk hc0
 clear hr0 hc0
 have HB:=Aside0.mk (Below.refl w.heap.size w)
 have H:(slices_BinarySearchFunc_S_impl_Turn.l0 k l0 (l0.length:Int) 0 (l0.length:Int) a1_0 a1_1 a1_2)=some (r1,r2):=h
 clear h
 have H':=Aside0.mk H
 clear H
 go_enter Try.func102,Try.ntmps102
 go_wp2_with (first|((with_reducible refine gate_dst (N:=4) rfl ?_);refine box_event ?hg (N:=4) ?hd (cs:=#[.string a1_0,.int .i64 a1_1,.int .i64 a1_2]) (t:=127) ?hr ?_;(case hd=>rfl);(case hg=>rfl);(case hr=>exact zt);intro gb101 hg w4 hbox hb;have n0_:=Aside0.mk (below_step za hb);have n1_:=Aside0.mk (hbox);have n2_:=Aside0.mk ((by rw [hg];exact (below_size za):w.heap.size≤gb101));have n3_:=Aside0.mk ((by rw [hg];exact (below_size za):w.heap.size≤gb101));clear HB;have HB:=n0_;have BK101:=n1_;have GW101:=n2_;have GE101:=n3_;clear n0_ n1_ n2_ n3_;clear hb hbox hg))
 go_loopg [9,10] k (fun kq v9 v10 w'=>∃(x9_1:Int) (x10_1:Int),v9 = .int .i64 x9_1∧v10 = .int .i64 x10_1∧Aside0 (slices_BinarySearchFunc_S_impl_Turn.l0 kq l0 (l0.length:Int) x9_1 x10_1 a1_0 a1_1 a1_2=some (r1,r2))∧Aside0 (kq≤k)∧Aside0 (w'.heap[gb101]?=some (.cells #[.string a1_0,.int .i64 a1_1,.int .i64 a1_2] 127 (0,0)))∧Aside0 (Below w.heap.size w w'))
 case atStart=>exact ⟨(0),((l0.length:Int)),zm,zm,H',⟨Nat.le_refl _⟩,⟨ze⟩,⟨zd⟩⟩
 case round=>
  clear H'
  try clear c1
  try clear p2
  obtain ⟨x9_1,x10_1,rfl,rfl,HA,HK1,BK101,HB⟩:=hrel
  cases gk with
  | zero=>exact absurd HA.out (by simp [slices_BinarySearchFunc_S_impl_Turn.l0])
  | succ k1=>
   have H:=HA.out
   clear HA
   simp only [slices_BinarySearchFunc_S_impl_Turn.l0] at H
   by_cases c5:x9_1<x10_1
   ·rw [if_pos c5] at H
    have c5b0:decide (x9_1<x10_1)=true:=decide_eq_true c5
    clear c5
    obtain ⟨ji6,hji6⟩:∃j_:Int,(wrap64 ((IntKind.u64.wrap (wrap64 (x9_1+x10_1))) / 2))=j_:=⟨_,rfl⟩
    replace H:(if 0≤(ji6) then (if (ji6)<(l0.length:Int) then ((impl_compareTurns.f k1 ((rd_T127 l0 (ji6)).f0) ((rd_T127 l0 (ji6)).f1) ((rd_T127 l0 (ji6)).f2) a1_0 a1_1 a1_2).bind fun t103=>(if t103<0 then (slices_BinarySearchFunc_S_impl_Turn.l0 k1 l0 (l0.length:Int) (wrap64 ((ji6)+1)) x10_1 a1_0 a1_1 a1_2) else (slices_BinarySearchFunc_S_impl_Turn.l0 k1 l0 (l0.length:Int) x9_1 ji6 a1_0 a1_1 a1_2))) else (none)) else (none))=some (r1,r2):=by first|(rw [hji6] at H;exact H)|(simp only [hji6] at H ⊢;exact H)
    have hji6w:(IntKind.i64.wrap ((IntKind.u64.wrap (wrap64 (x9_1+x10_1))) / 2))=ji6:=(i64_w _).trans hji6
    by_cases c7:0≤(ji6)
    ·rw [if_pos c7] at H
     have c7b0:decide (0≤(ji6))=true:=decide_eq_true c7
     clear c7
     by_cases c8:(ji6)<(l0.length:Int)
     ·rw [if_pos c8] at H
      have c8b0:decide ((ji6)<(l0.length:Int))=true:=decide_eq_true c8
      clear c8
      replace H:=Option.bind_eq_some_iff.mp H
      obtain ⟨t103,A90,H⟩:=H
      replace H:(if t103<0 then (slices_BinarySearchFunc_S_impl_Turn.l0 k1 l0 (l0.length:Int) (wrap64 ((ji6)+1)) x10_1 a1_0 a1_1 a1_2) else (slices_BinarySearchFunc_S_impl_Turn.l0 k1 l0 (l0.length:Int) x9_1 ji6 a1_0 a1_1 a1_2))=some (r1,r2):=H
      have A9:=Aside0.mk A90
      clear A90
      by_cases c10:t103<0
      ·rw [if_pos c10] at H
       have c10b0:decide (t103<0)=true:=decide_eq_true c10
       clear c10
       have H':=Aside0.mk H
       clear H
       try go_wp2
       replace BK101:=Aside0.mk (blk_drew BK101.out)
       replace HB:=Aside0.mk (below_drew1 HB.out)
       have p102:0≤((ji6):Int):=of_decide_eq_true zb
       have q102:(ji6)<(l0.length:Int):=of_decide_eq_true zb
       obtain ⟨ad102,e102,hx102_0,hx102_1,hx102_2⟩:=at_T127 HR0.out (ji6) p102 q102
       have hw102_2:=hx102_2
       have hw102_1:=hx102_1
       have hw102_0:=hx102_0
       cases e102
       replace hx102_0:=(HB.out.cell (World.block_lt_of_cell? w _ hx102_0)).trans hx102_0
       replace hx102_1:=(HB.out.cell (World.block_lt_of_cell? w _ hx102_1)).trans hx102_1
       replace hx102_2:=(HB.out.cell (World.block_lt_of_cell? w _ hx102_2)).trans hx102_2
       replace p102:=eq_true p102
       replace q102:=eq_true q102
       refine start_ (n:=8) (S:=fun w'=>w'.cell? ⟨gb101,0,none⟩=some (.string a1_0)∧w'.cell? ⟨gb101,1,none⟩=some (.int .i64 a1_1)∧w'.cell? ⟨gb101,2,none⟩=some (.int .i64 a1_2)∧w'.cell? (ad102.add (((ji6)).toNat*3))=some (.string ((rd_T127 l0 (ji6)).f0))∧w'.cell? ⟨(ad102.add (((ji6)).toNat*3)).block,(ad102.add (((ji6)).toNat*3)).off+1,none⟩=some (.int .i64 ((rd_T127 l0 (ji6)).f1))∧w'.cell? ⟨(ad102.add (((ji6)).toNat*3)).block,(ad102.add (((ji6)).toNat*3)).off+2,none⟩=some (.int .i64 ((rd_T127 l0 (ji6)).f2))) (ds:=[]) #[false,false,false,false,false,false,false,false] zbk rfl rfl ⟨(blk_cell BK101.out 0).trans rfl,(blk_cell BK101.out 1).trans rfl,(blk_cell BK101.out 2).trans rfl,((HB.out.cell (World.block_lt_of_cell? w _ hw102_0)).trans hw102_0),((HB.out.cell (World.block_lt_of_cell? w _ hw102_1)).trans hw102_1),((HB.out.cell (World.block_lt_of_cell? w _ hw102_2)).trans hw102_2)⟩ (fun hHeld=>?_);refine with_tabW slices_BinarySearchFunc_S_impl_Turn.tab5 slices_BinarySearchFunc_S_impl_Turn.bits5 (fun HT_ HW_=>?_)
       generalize wr.drew=w11 at BK101 HB hx102_0 hx102_1 hx102_2 hHeld ⊢
       refine pA 0 24 ?_
       refine pA 1 25 ?_
       refine pA 2 26 ?_
       refine pA 3 27 ?_
       refine pT 4 28 rfl zao ?_
       refine pT 5 29 rfl zao ?_
       refine one_ (i:=6) (N:=some 30) #[true,true,true,true,true,true,true,false] rfl rfl (one_of HT_.out zbk) zbq (fun K hK=>?_)
       refine goesV_ Try.func103 zbk rfl #[.agg #[.string ((rd_T127 l0 (ji6)).f0),.int .i64 ((rd_T127 l0 (ji6)).f1),.int .i64 ((rd_T127 l0 (ji6)).f2)],.agg #[.string a1_0,.int .i64 a1_1,.int .i64 a1_2]] (by rfl) rfl rfl (by rfl) (by (try simp only [List.map_toArray,List.map_cons,List.map_nil]);first|done|(simp only [hji6];rfl)|rfl|(simp only [List.length_drop,List.length_take];rfl)) ?_
       with_reducible refine (impl_compareTurns.calls k1 ((rd_T127 l0 (ji6)).f0) ((rd_T127 l0 (ji6)).f1) ((rd_T127 l0 (ji6)).f2) a1_0 a1_1 a1_2 t103 _ A9.out).mono ?_
       rintro e w12 ⟨rfl,hb⟩
       refine ⟨_,rfl,?_⟩
       replace BK101:=Aside0.mk (blk_below (g:=gb101) (o:=.cells #[.string a1_0,.int .i64 a1_1,.int .i64 a1_2] 127 (0,0)) ze hb)
       replace HB:=Aside0.mk (below_step zd hb)
       (try clear hb)
       (try clear hb2)
       (try clear hk)
       (try clear hi)
       refine hK.out _ _ ⟨(blk_cell BK101.out 0).trans rfl,(blk_cell BK101.out 1).trans rfl,(blk_cell BK101.out 2).trans rfl,((HB.out.cell (World.block_lt_of_cell? w _ hw102_0)).trans hw102_0),((HB.out.cell (World.block_lt_of_cell? w _ hw102_1)).trans hw102_1),((HB.out.cell (World.block_lt_of_cell? w _ hw102_2)).trans hw102_2)⟩ (fun hHeld=>?_)
       clear hK K
       refine pN 30 ?_
       refine pA 7 31 ?_
       refine done_ (done_of HT_.out zbk) ?_
       try go_wp2
       go_roundg k1
       case measure=>have:=HK1.out;omega
       case rel=>exact ⟨(wrap64 ((ji6)+1)),(x10_1),(by first|rfl|(simp;done)|(simp only [←hji6]<;>(first|rfl|simp))|(simp [*];done)),zm,H',⟨zdn⟩,⟨ze⟩,⟨zd⟩⟩
      ·rw [if_neg c10] at H
       have c10b0:decide (t103<0)=false:=decide_eq_false c10
       clear c10
       have H':=Aside0.mk H
       clear H
       try go_wp2
       replace BK101:=Aside0.mk (blk_drew BK101.out)
       replace HB:=Aside0.mk (below_drew1 HB.out)
       have p102:0≤((ji6):Int):=of_decide_eq_true zb
       have q102:(ji6)<(l0.length:Int):=of_decide_eq_true zb
       obtain ⟨ad102,e102,hx102_0,hx102_1,hx102_2⟩:=at_T127 HR0.out (ji6) p102 q102
       have hw102_2:=hx102_2
       have hw102_1:=hx102_1
       have hw102_0:=hx102_0
       cases e102
       replace hx102_0:=(HB.out.cell (World.block_lt_of_cell? w _ hx102_0)).trans hx102_0
       replace hx102_1:=(HB.out.cell (World.block_lt_of_cell? w _ hx102_1)).trans hx102_1
       replace hx102_2:=(HB.out.cell (World.block_lt_of_cell? w _ hx102_2)).trans hx102_2
       replace p102:=eq_true p102
       replace q102:=eq_true q102
       refine start_ (n:=8) (S:=fun w'=>w'.cell? ⟨gb101,0,none⟩=some (.string a1_0)∧w'.cell? ⟨gb101,1,none⟩=some (.int .i64 a1_1)∧w'.cell? ⟨gb101,2,none⟩=some (.int .i64 a1_2)∧w'.cell? (ad102.add (((ji6)).toNat*3))=some (.string ((rd_T127 l0 (ji6)).f0))∧w'.cell? ⟨(ad102.add (((ji6)).toNat*3)).block,(ad102.add (((ji6)).toNat*3)).off+1,none⟩=some (.int .i64 ((rd_T127 l0 (ji6)).f1))∧w'.cell? ⟨(ad102.add (((ji6)).toNat*3)).block,(ad102.add (((ji6)).toNat*3)).off+2,none⟩=some (.int .i64 ((rd_T127 l0 (ji6)).f2))) (ds:=[]) #[false,false,false,false,false,false,false,false] zbk rfl rfl ⟨(blk_cell BK101.out 0).trans rfl,(blk_cell BK101.out 1).trans rfl,(blk_cell BK101.out 2).trans rfl,((HB.out.cell (World.block_lt_of_cell? w _ hw102_0)).trans hw102_0),((HB.out.cell (World.block_lt_of_cell? w _ hw102_1)).trans hw102_1),((HB.out.cell (World.block_lt_of_cell? w _ hw102_2)).trans hw102_2)⟩ (fun hHeld=>?_);refine with_tabW slices_BinarySearchFunc_S_impl_Turn.tab5 slices_BinarySearchFunc_S_impl_Turn.bits5 (fun HT_ HW_=>?_)
       generalize wr.drew=w13 at BK101 HB hx102_0 hx102_1 hx102_2 hHeld ⊢
       refine pA 0 24 ?_
       refine pA 1 25 ?_
       refine pA 2 26 ?_
       refine pA 3 27 ?_
       refine pT 4 28 rfl zao ?_
       refine pT 5 29 rfl zao ?_
       refine one_ (i:=6) (N:=some 30) #[true,true,true,true,true,true,true,false] rfl rfl (one_of HT_.out zbk) zbq (fun K hK=>?_)
       refine goesV_ Try.func103 zbk rfl #[.agg #[.string ((rd_T127 l0 (ji6)).f0),.int .i64 ((rd_T127 l0 (ji6)).f1),.int .i64 ((rd_T127 l0 (ji6)).f2)],.agg #[.string a1_0,.int .i64 a1_1,.int .i64 a1_2]] (by rfl) rfl rfl (by rfl) (by (try simp only [List.map_toArray,List.map_cons,List.map_nil]);first|done|(simp only [hji6];rfl)|rfl|(simp only [List.length_drop,List.length_take];rfl)) ?_
       with_reducible refine (impl_compareTurns.calls k1 ((rd_T127 l0 (ji6)).f0) ((rd_T127 l0 (ji6)).f1) ((rd_T127 l0 (ji6)).f2) a1_0 a1_1 a1_2 t103 _ A9.out).mono ?_
       rintro e w14 ⟨rfl,hb⟩
       refine ⟨_,rfl,?_⟩
       replace BK101:=Aside0.mk (blk_below (g:=gb101) (o:=.cells #[.string a1_0,.int .i64 a1_1,.int .i64 a1_2] 127 (0,0)) ze hb)
       replace HB:=Aside0.mk (below_step zd hb)
       (try clear hb)
       (try clear hb2)
       (try clear hk)
       (try clear hi)
       refine hK.out _ _ ⟨(blk_cell BK101.out 0).trans rfl,(blk_cell BK101.out 1).trans rfl,(blk_cell BK101.out 2).trans rfl,((HB.out.cell (World.block_lt_of_cell? w _ hw102_0)).trans hw102_0),((HB.out.cell (World.block_lt_of_cell? w _ hw102_1)).trans hw102_1),((HB.out.cell (World.block_lt_of_cell? w _ hw102_2)).trans hw102_2)⟩ (fun hHeld=>?_)
       clear hK K
       refine pN 30 ?_
       refine pA 7 31 ?_
       refine done_ (done_of HT_.out zbk) ?_
       try go_wp2
       go_roundg k1
       case measure=>have:=HK1.out;omega
       case rel=>exact ⟨(x9_1),(ji6),zm,(by first|rfl|(simp;done)|(simp only [←hji6]<;>(first|rfl|simp))|(simp [*];done)),H',⟨zdn⟩,⟨ze⟩,⟨zd⟩⟩
     ·rw [if_neg c8] at H
      exact absurd H zdd
    ·rw [if_neg c7] at H
     exact absurd H zdd
   ·rw [if_neg c5] at H
    have c5b0:decide (x9_1<x10_1)=false:=decide_eq_false c5
    clear c5
    by_cases c15:x9_1<(l0.length:Int)
    ·rw [if_pos c15] at H
     have c15b0:decide (x9_1<(l0.length:Int))=true:=decide_eq_true c15
     clear c15
     by_cases c16:0≤x9_1
     ·rw [if_pos c16] at H
      have c16b0:decide (0≤x9_1)=true:=decide_eq_true c16
      clear c16
      by_cases c17:x9_1<(l0.length:Int)
      ·rw [if_pos c17] at H
       have c17b0:decide (x9_1<(l0.length:Int))=true:=decide_eq_true c17
       clear c17
       replace H:=Option.bind_eq_some_iff.mp H
       obtain ⟨t105,A180,H⟩:=H
       replace H:(some (x9_1,(t105 == 0)))=some (r1,r2):=H
       have A18:=Aside0.mk A180
       clear A180
       simp only [Option.some.injEq,Prod.mk.injEq] at H
       obtain ⟨rfl,rfl⟩:=H
       try go_wp2
       replace BK101:=Aside0.mk (blk_drew BK101.out)
       replace HB:=Aside0.mk (below_drew1 HB.out)
       have p104:0≤(x9_1:Int):=of_decide_eq_true zb
       have q104:x9_1<(l0.length:Int):=of_decide_eq_true zb
       obtain ⟨ad104,e104,hx104_0,hx104_1,hx104_2⟩:=at_T127 HR0.out x9_1 p104 q104
       have hw104_2:=hx104_2
       have hw104_1:=hx104_1
       have hw104_0:=hx104_0
       cases e104
       replace hx104_0:=(HB.out.cell (World.block_lt_of_cell? w _ hx104_0)).trans hx104_0
       replace hx104_1:=(HB.out.cell (World.block_lt_of_cell? w _ hx104_1)).trans hx104_1
       replace hx104_2:=(HB.out.cell (World.block_lt_of_cell? w _ hx104_2)).trans hx104_2
       replace p104:=eq_true p104
       replace q104:=eq_true q104
       refine start_ (n:=16) (S:=fun w'=>w'.cell? ⟨gb101,0,none⟩=some (.string a1_0)∧w'.cell? ⟨gb101,1,none⟩=some (.int .i64 a1_1)∧w'.cell? ⟨gb101,2,none⟩=some (.int .i64 a1_2)∧w'.cell? (ad104.add ((x9_1).toNat*3))=some (.string ((rd_T127 l0 x9_1).f0))∧w'.cell? ⟨(ad104.add ((x9_1).toNat*3)).block,(ad104.add ((x9_1).toNat*3)).off+1,none⟩=some (.int .i64 ((rd_T127 l0 x9_1).f1))∧w'.cell? ⟨(ad104.add ((x9_1).toNat*3)).block,(ad104.add ((x9_1).toNat*3)).off+2,none⟩=some (.int .i64 ((rd_T127 l0 x9_1).f2))) (ds:=[]) #[false,false,false,false,false,false,false,false,false,false,false,false,false,false,false,false] zbk rfl rfl ⟨(blk_cell BK101.out 0).trans rfl,(blk_cell BK101.out 1).trans rfl,(blk_cell BK101.out 2).trans rfl,((HB.out.cell (World.block_lt_of_cell? w _ hw104_0)).trans hw104_0),((HB.out.cell (World.block_lt_of_cell? w _ hw104_1)).trans hw104_1),((HB.out.cell (World.block_lt_of_cell? w _ hw104_2)).trans hw104_2)⟩ (fun hHeld=>?_);refine with_tabW slices_BinarySearchFunc_S_impl_Turn.tab8 slices_BinarySearchFunc_S_impl_Turn.bits8 (fun HT_ HW_=>?_)
       generalize wr.drew=w19 at BK101 HB hx104_0 hx104_1 hx104_2 hHeld ⊢
       refine pA 0 35 ?_
       refine pA 1 36 ?_
       refine pA 2 37 ?_
       refine pA 3 38 ?_
       refine pA 4 39 ?_
       refine pA 5 40 ?_
       refine pA 6 41 ?_
       refine pA 7 42 ?_
       refine pA 8 43 ?_
       refine pT 9 44 rfl zao ?_
       refine pT 10 45 rfl zao ?_
       refine one_ (i:=11) (N:=some 46) #[true,true,true,true,true,true,true,true,true,true,true,true,false,false,false,false] rfl rfl (one_of HT_.out zbk) zbq (fun K hK=>?_)
       refine goesV_ Try.func103 zbk rfl #[.agg #[.string ((rd_T127 l0 x9_1).f0),.int .i64 ((rd_T127 l0 x9_1).f1),.int .i64 ((rd_T127 l0 x9_1).f2)],.agg #[.string a1_0,.int .i64 a1_1,.int .i64 a1_2]] (by rfl) rfl rfl (by rfl) zc ?_
       with_reducible refine (impl_compareTurns.calls k1 ((rd_T127 l0 x9_1).f0) ((rd_T127 l0 x9_1).f1) ((rd_T127 l0 x9_1).f2) a1_0 a1_1 a1_2 t105 _ A18.out).mono ?_
       rintro e w20 ⟨rfl,hb⟩
       refine ⟨_,rfl,?_⟩
       replace BK101:=Aside0.mk (blk_below (g:=gb101) (o:=.cells #[.string a1_0,.int .i64 a1_1,.int .i64 a1_2] 127 (0,0)) ze hb)
       replace HB:=Aside0.mk (below_step zd hb)
       (try clear hb)
       (try clear hb2)
       (try clear hk)
       (try clear hi)
       refine hK.out _ _ ⟨(blk_cell BK101.out 0).trans rfl,(blk_cell BK101.out 1).trans rfl,(blk_cell BK101.out 2).trans rfl,((HB.out.cell (World.block_lt_of_cell? w _ hw104_0)).trans hw104_0),((HB.out.cell (World.block_lt_of_cell? w _ hw104_1)).trans hw104_1),((HB.out.cell (World.block_lt_of_cell? w _ hw104_2)).trans hw104_2)⟩ (fun hHeld=>?_)
       clear hK K
       refine pN 46 ?_
       refine pA 12 47 ?_
       refine pA 13 48 ?_
       refine pA 14 6 ?_
       refine pA 15 7 ?_
       refine done_ (done_of HT_.out zbk) ?_
       try go_wp2
       go_ret2
       exact ⟨zk,zd⟩
      ·rw [if_neg c17] at H
       exact absurd H zdd
     ·rw [if_neg c16] at H
      exact absurd H zdd
    ·rw [if_neg c15] at H
     have c15b0:decide (x9_1<(l0.length:Int))=false:=decide_eq_false c15
     clear c15
     simp only [Option.some.injEq,Prod.mk.injEq] at H
     obtain ⟨rfl,rfl⟩:=H
     try go_wp2
     replace BK101:=Aside0.mk (blk_drew BK101.out)
     replace HB:=Aside0.mk (below_drew1 HB.out)
     refine start_ (n:=16) (S:=fun w'=>True) (ds:=[]) #[false,false,false,false,false,false,false,false,false,false,false,false,false,false,false,false] zbk rfl rfl trivial (fun hHeld=>?_);refine with_tabW slices_BinarySearchFunc_S_impl_Turn.tab8 slices_BinarySearchFunc_S_impl_Turn.bits8 (fun HT_ HW_=>?_)
     generalize wr.drew=w21 at BK101 HB hHeld ⊢
     refine pA 0 35 ?_
     refine pA 1 36 ?_
     refine pA 2 37 ?_
     refine pA 3 38 ?_
     refine pA 4 39 ?_
     refine pU 5 40 ?_
     refine pU 6 41 ?_
     refine pU 7 42 ?_
     refine pU 8 43 ?_
     refine pU 9 44 ?_
     refine pU 10 45 ?_
     refine pU 11 46 ?_
     refine pU 12 47 ?_
     refine pA 13 48 ?_
     refine pA 14 6 ?_
     refine pA 15 7 ?_
     refine done_ (done_of HT_.out zbk) ?_
     try go_wp2
     go_ret2
     exact ⟨zk,zd⟩
end Go.Proofs.Ytocegmkifmdlcaa.P

namespace Go.Proofs.Ytocegmkifmdlcaa.P
open Go.RowKit Go.Proofs.YtocegmkifmdlcaaW.PrintWords
set_option linter.unusedVariables false
section
variable {P : Program} (w : World)
end
/-- An append whose run is known: one event of a plain region, one step of a region that draws. -/
theorem byt_app {P : Program} {ops : Array Oper} {rest : List Oper} {o : Oper} {a : Act} {Q : Exit → Act → World → Prop} {W w1 : World} (hgd : o.guard = none) (s x : Operand) (t : TypeId) (ho : o.op = .call { callee := .builtin .append, args := #[s, x], argTypes := #[t, t] }) {v y v' : Value} (hs : a.eval s = v) (hx : a.eval x = y)
    (hr : (Builtin.append_ #[t, t] o.type #[v, y]).run P W = .ok v' w1) (h : wpList P ops Q rest (a.put o.dst v') w1) : wpList P ops Q (o :: rest) a W := by
  refine Kd.event_run hgd ?_ h
  unfold execOp
  simp only [ho, resolve, invoke, builtin, Sem.run_bind, Sem.run_pure, Result.andThen_ok, List.map_toArray, List.map_cons, List.map_nil, hs, hx, hr]
theorem byt_app2 {P : Program} {ops : Array Oper} {rest : List Oper} {o : Oper} {a : Act} {Q : Exit → Act → World → Prop} {W w1 : World} (hgd : o.guard = none) (s x : Operand) (t u : TypeId) (ho : o.op = .call { callee := .builtin .append, args := #[s, x], argTypes := #[t, u] }) {v y v' : Value} (hs : a.eval s = v) (hx : a.eval x = y)
    (hr : (Builtin.append_ #[t, u] o.type #[v, y]).run P W = .ok v' w1) (h : wpList P ops Q rest (a.put o.dst v') w1) : wpList P ops Q (o :: rest) a W := by
  refine Kd.event_run hgd ?_ h
  unfold execOp
  simp only [ho, resolve, invoke, builtin, Sem.run_bind, Sem.run_pure, Result.andThen_ok, List.map_toArray, List.map_cons, List.map_nil, hs, hx, hr]
end Go.Proofs.Ytocegmkifmdlcaa.P

namespace Go.Proofs.Ytocegmkifmdlcaa.P
open Go.RowKit Go.Proofs.YtocegmkifmdlcaaW.PrintWords Go.Proofs.YtocegmkifmdlcaaW.PrintLast Go.Proofs.YtocegmkifmdlcaaW.PrintMore
attribute [local go_sem] max2_int min2_int max_two min_two max_three min_three max_four min_four str_leq str_gtr str_geq
set_option linter.unusedVariables false
set_option linter.unusedSimpArgs false
def slices_Insert_S_impl_Turn.f (l0:List S127) (a1:Int) (l2:List S127):Option (List S127):=if (l2.length=1∧0≤a1)∧a1≤(l0.length:Int)∧l0.length≤1000000 then some (l0.take a1.toNat++l2++l0.drop a1.toNat) else none
theorem slices_Insert_S_impl_Turn.info:∃i,Try.prog.info? 127=some i∧i.zero=some (.agg #[.string ⟨#[]⟩,.int .i64 0,.int .i64 0])∧i.size=3∧i.bytes=32:=by
 have h:(Try.prog.info? 127).map (fun i=>(i.zero,i.size,i.bytes))=some (some (.agg #[.string ⟨#[]⟩,.int .i64 0,.int .i64 0]),3,32):=by kernel_rfl
 cases hi:Try.prog.info? 127 with
 | none=>rw [hi] at h;cases h
 | some i=>
  rw [hi] at h
  simp only [Option.map_some,Option.some.injEq,Prod.mk.injEq] at h
  exact ⟨i,rfl,h.1,h.2.1,h.2.2⟩
set_option maxHeartbeats 3200000 in
set_option maxRecDepth 100000 in
theorem slices_Insert_S_impl_Turn.c_end (v:Value) (row:Option Nat) (hrow:v.ownBlock=row) (n i:Nat) (xs news:List Value) (B gl:Nat) (w:World) (hown:w.ownsRow B 127 3 v n xs) (hB:B≤w.heap.size) (lc:Array Value) (vc:Nat) (hl:w.heap[gl]?=some (.cells lc 127 (0,0))) (hlt:lc.toList.take news.length=news) (hnl:news.length=3) (h1:∀u∈news,u.oneCell'=true) (h1x:∀u∈xs,u.oneCell'=true) (hn:n≤1000000) (hne:row≠some gl) (hi:i=n) :
 Calls Try.prog 104 #[v,.int .i64 (i:Int),.slice (some ⟨gl,0,none⟩) 1 vc] w fun e w'=>∃v',e = .returned v'∧w'.ownsRow B 127 3 v' (n+1) (xs.take (i*3)++news++xs.drop (i*3))∧w.grownBy w' row∧(v'.ownBlock=row∨∃b,v'.ownBlock=some b∧w.heap.size≤b):=by
 subst hi
 obtain ⟨it,hi5,hz5,hs5,hb5⟩:=slices_Insert_S_impl_Turn.info
 obtain ⟨A,c,rfl⟩:=own_slice hown
 obtain ⟨v',w',hr,ho,hg,_,hat⟩:=run_append_own_at (P:=Try.prog) w B 61 61 127 it _ 3 32 Try.underlying61 hi5 hz5 hs5 hb5 rfl zbq _ i xs hown ⟨gl,0,none⟩ 1 vc news zbt (fun j u hj=>ins_cell hl (o:=0) (ins_take hlt (a:=0) (by rw [List.drop_zero];exact hj))) h1 (by unfold maxLen;omega) zbt hB
 rw [hrow] at hg hat
 have hxl:xs.length=i*3:=hown.1
 rw [List.take_of_length_le zbt,List.drop_eq_nil_of_le zbt,List.append_nil]
 have hsl:=cut_from (P:=Try.prog) 61 127 .i64 Try.underlying61 hi5 3 hs5 A i c (i:Int) zbt zbt
 have HO:=Aside0.mk ho
 have HG:=Aside0.mk hg
 have HAT:=Aside0.mk hat
 have HR:=Aside0.mk hr
 clear hrow hown hB hl hlt hnl h1 h1x hn hne ho hg hat hr hxl hi5 hz5 hs5 hb5
 go_enter Try.func104,Try.ntmps104
 go_wp2_with (first
  | ((with_reducible refine gate_dst (N:=25) rfl ?_);refine byt_app (by rfl) _ _ _ (by rfl) (by rfl) (by rfl) HR.out ?_))
 all_goals go_ret
 all_goals exact ⟨v',rfl,HO.out,HG.out,HAT.out.elim Or.inl (fun h=>.inr ⟨_,h,Nat.le_refl _⟩)⟩
theorem slices_Insert_S_impl_Turn.ov1:(Try.f138.name == "runtime.NumGoroutine")=false:=by kernel_rfl
theorem slices_Insert_S_impl_Turn.ov2:Try.f138.body.isNone=true:=by kernel_rfl
theorem slices_Insert_S_impl_Turn.ov3:Extern.findNext Try.f138=none:=by kernel_rfl
theorem slices_Insert_S_impl_Turn.ov4:Extern.find Try.f138=some (Extern.SlicesOverlaps.overlaps #[61,61] #[4]):=by kernel_rfl
set_option maxHeartbeats 3200000 in
set_option maxRecDepth 100000 in
theorem slices_Insert_S_impl_Turn.c_room (g c:Nat) (cur:Array Value) (n i:Nat) (xs news:List Value) (B gl:Nat) (w:World) (hb:w.heap[g]?=some (.cells cur 127 (0,0))) (hxl:xs.length=n*3) (ht:cur.toList.take (n*3)=xs) (hcs:cur.size=c*3) (hcm:c≤maxLen) (hBg:B≤g) (lc:Array Value) (vc:Nat) (hl:w.heap[gl]?=some (.cells lc 127 (0,0))) (hlt:lc.toList.take news.length=news) (hnl:news.length=3) (h1:∀u∈news,u.oneCell'=true) (h1x:∀u∈xs,u.oneCell'=true) (hn:n≤1000000) (hne:gl≠g) (hi:i<n) (hroom:n+1≤c) :
 Calls Try.prog 104 #[.slice (some ⟨g,0,none⟩) n c,.int .i64 (i:Int),.slice (some ⟨gl,0,none⟩) 1 vc] w fun e w'=>∃v',e = .returned v'∧w'.ownsRow B 127 3 v' (n+1) (xs.take (i*3)++news++xs.drop (i*3))∧w.grownBy w' (some g)∧v'.ownBlock=some g:=by
 have w1:wrap64 ((n:Int)+1)=(n:Int)+1:=ins_w zbt
 have w2:wrap64 ((i:Int)+1)=(i:Int)+1:=ins_w zbt
 have w3:IntKind.i64.wrap ((n:Int)+1)=(n:Int)+1:=by rw [IntWalk.i64_left];exact w1
 have w4:IntKind.i64.wrap ((i:Int)+1)=(i:Int)+1:=by rw [IntWalk.i64_left];exact w2
 have W1_:=Aside0.mk w1
 have W2_:=Aside0.mk w2
 have W3_:=Aside0.mk w3
 have W4_:=Aside0.mk w4
 clear w1 w2 w3 w4
 obtain ⟨it,hi5,hz5,hs5,hb5⟩:=slices_Insert_S_impl_Turn.info
 have hll:cur.toList.length=c*3:=by rw [Array.length_toList];exact hcs
 have hdl:(xs.drop (i*3)).length=(n - i)*3:=by rw [List.length_drop,hxl];omega
 have hsz:(Try.prog.info? 127).map (·.size)=some 3:=by rw [hi5,Option.map_some,hs5]
 obtain ⟨W1,hW1⟩:∃W1,W1=w.drew.setRow g (cur.toList.take ((i+1)*3)++xs.drop (i*3)++cur.toList.drop ((i+1)*3+(xs.drop (i*3)).length)).toArray:=⟨_,rfl⟩
 have hr1:=ins_copy (P:=Try.prog) w.drew 61 61 3 127 3 g ((i+1)*3) (n - i) (c - (i+1)) ⟨g,i*3,none⟩ (n+1 - i) (c - i) cur 127 (xs.drop (i*3)) Try.underlying61 hsz hb (by rw [hdl,show Nat.min (n+1 - i) (n - i)=n - i by simp only [Nat.min_def];split<;>omega]) (fun j v hj=>ins_cell (w:=w) hb (ins_take ht hj)) (by rw [hdl,hcs];omega) (fun u hu=>h1x u (List.mem_of_mem_drop hu))
 rw [←hW1] at hr1
 have hb1:W1.heap[g]?=some (.cells (cur.toList.take ((i+1)*3)++xs.drop (i*3)++cur.toList.drop ((i+1)*3+(xs.drop (i*3)).length)).toArray 127 (0,0)):=by rw [hW1];exact setRow_heap w.drew g cur _ 127 (0,0) hb
 have hl1:W1.heap[gl]?=some (.cells lc 127 (0,0)):=by rw [hW1,setRow_other _ g gl _ hne];exact hl
 obtain ⟨f1,f2⟩:=ins_room (l:=cur.toList) (xs:=xs) (news:=news) (a:=i*3) (b:=3) (m:=n*3) ht hxl zbt hnl (by rw [hll];omega)
 rw [show i*3+3=(i+1)*3 by omega] at f1 f2
 obtain ⟨cur1,hc1⟩:∃cur1,cur1=cur.toList.take ((i+1)*3)++xs.drop (i*3)++cur.toList.drop ((i+1)*3+(xs.drop (i*3)).length):=⟨_,rfl⟩
 rw [←hc1] at hb1 f1 f2
 obtain ⟨W2,hW2⟩:∃W2,W2=W1.setRow g (cur1.take (i*3)++news++cur1.drop (i*3+news.length)).toArray:=⟨_,rfl⟩
 have hr2:=ins_copy (P:=Try.prog) W1 61 61 3 127 3 g (i*3) (n+1 - i) (c - i) ⟨gl,0,none⟩ 1 vc cur1.toArray 127 news Try.underlying61 hsz hb1 (by rw [hnl,show Nat.min 1 (n+1 - i)=1 by simp only [Nat.min_def];split<;>omega]) (fun j v hj=>ins_cell hl1 (o:=0) (ins_take hlt (a:=0) (by rw [List.drop_zero];exact hj))) (by rw [hnl,List.size_toArray,f2,hll];omega) h1
 rw [←hW2] at hr2
 have hb2:W2.heap[g]?=some (.cells (cur1.take (i*3)++news++cur1.drop (i*3+news.length)).toArray 127 (0,0)):=by rw [hW2];exact setRow_heap W1 g _ _ 127 (0,0) hb1
 have HG:=Aside0.mk (ins_grown hW1 hW2)
 have HO:=Aside0.mk (show W2.ownsRow B 127 3 (.slice (some ⟨g,0,none⟩) (n+1) c) (n+1) (xs.take (i*3)++news++xs.drop (i*3)) from by
  refine ⟨by rw [List.length_append,List.length_append,List.length_take,hdl,hnl,hxl];omega,.inr ⟨g,c,_,rfl,hBg,hb2,hroom,hcm,?_,?_⟩⟩
  ·rw [List.size_toArray,List.length_append,List.length_append,List.length_take,List.length_drop,f2,hll,hnl];omega
  ·rw [show (n+1)*3=n*3+3 by omega];exact f1)
 have hov:∀lb cb,(callFunc 138 #[.slice (some ⟨gl,0,none⟩) 1 vc,.slice (some ⟨g,(i+1)*3,none⟩) lb cb]).run Try.prog w = .ok (.value (.bool false)) w:=fun lb cb=>by
  rw [run_callFunc_extern Try.func138 slices_Insert_S_impl_Turn.ov1 slices_Insert_S_impl_Turn.ov2 slices_Insert_S_impl_Turn.ov3 slices_Insert_S_impl_Turn.ov4,
   Lib.run_overlaps_apart w 61 4 127 Try.underlying61 3 (fun w=>by simp [sizeOf,typeInfo,hi5,hs5]) ⟨gl,0,none⟩ ⟨g,(i+1)*3,none⟩ 1 vc lb cb hne 127 127 lc.size cur.size (by simp [World.shape?,hl]) (by simp [World.shape?,hb]) zbt (by simp [World.frozen?,hl]) (by simp [World.frozen?,hl])]
  rfl
 have s12:=ins_from (P:=Try.prog) 61 127 Try.underlying61 hi5 3 hs5 g n c i (i:Int) rfl zbt zbt
 have s60:=ins_to (P:=Try.prog) 61 127 Try.underlying61 hi5 (some ⟨g,0,none⟩) n c (n+1) ((n:Int)+1) zbt hroom
 have s66:=ins_from (P:=Try.prog) 61 127 Try.underlying61 hi5 3 hs5 g (n+1) c (i+1) ((i:Int)+1) zbt zbt zbt
 have s76:=ins_from (P:=Try.prog) 61 127 Try.underlying61 hi5 3 hs5 g (n+1) c i (i:Int) rfl zbt zbt
 have b1:((i:Int) == (n:Int))=false:=beq_eq_false_iff_ne.2 zbt
 have b2:decide ((c:Int)<(n:Int)+1)=false:=decide_eq_false zbt
 have HR1:=Aside0.mk hr1
 have HR2:=Aside0.mk hr2
 have w1:=W1_.out
 have w2:=W2_.out
 have w3:=W3_.out
 have w4:=W4_.out
 clear W1_ W2_ W3_ W4_ hb hxl ht hcs hcm hBg hl hlt hnl h1 h1x hn hne hi hroom hll hdl hsz hW1 hr1 hb1 hl1 f1 f2 hc1 hW2 hr2 hb2 hi5 hz5 hs5 hb5
 go_enter Try.func104,Try.ntmps104
 go_upto_region 15 with (simp only [hov])
 go_region_held3 (fun _=>True) (trivial) (first|(refine ins_copy_step (by rfl) _ _ _ _ (by rfl) (by rfl) (by rfl) HR1.out ?_))
 go_wp2_with (first
  | ((with_reducible refine gate_dst (N:=82) rfl ?_);refine ins_copy_event (by rfl) _ _ _ _ (by rfl) (by rfl) (by rfl) HR2.out ?_))
 go_ret
 exact ⟨_,rfl,HO.out,HG.out,rfl⟩
set_option maxHeartbeats 3200000 in
set_option maxRecDepth 100000 in
theorem slices_Insert_S_impl_Turn.c_grow (g c:Nat) (cur:Array Value) (n i:Nat) (xs news:List Value) (B gl:Nat) (w:World) (hb:w.heap[g]?=some (.cells cur 127 (0,0))) (hxl:xs.length=n*3) (ht:cur.toList.take (n*3)=xs) (hcs:cur.size=c*3) (hB:B≤w.heap.size) (lc:Array Value) (vc:Nat) (hl:w.heap[gl]?=some (.cells lc 127 (0,0))) (hlt:lc.toList.take news.length=news) (hnl:news.length=3) (h1:∀u∈news,u.oneCell'=true) (h1x:∀u∈xs,u.oneCell'=true) (hn:n≤1000000) (hi:i<n) (hnc:n≤c) (hroom:c<n+1) :
 Calls Try.prog 104 #[.slice (some ⟨g,0,none⟩) n c,.int .i64 (i:Int),.slice (some ⟨gl,0,none⟩) 1 vc] w fun e w'=>∃v',e = .returned v'∧w'.ownsRow B 127 3 v' (n+1) (xs.take (i*3)++news++xs.drop (i*3))∧w.grownBy w' (some g)∧v'.ownBlock=some w.heap.size:=by
 have W1_:=Aside0.mk (ins_w (n:=n) zbt)
 have W2_:=Aside0.mk (ins_w (n:=i) zbt)
 have W5_:=Aside0.mk (ins_w2 (n:=n) (i:=i) zbt zbt)
 have hgw:g<w.heap.size:=blk_lt hb
 have hglw:gl<w.heap.size:=blk_lt hl
 obtain ⟨it,hi5,hz5,hs5,hb5⟩:=slices_Insert_S_impl_Turn.info
 have hll:cur.toList.length=c*3:=by rw [Array.length_toList];exact hcs
 have hdl:(xs.drop (i*3)).length=(n - i)*3:=by rw [List.length_drop,hxl];omega
 have hsz:(Try.prog.info? 127).map (·.size)=some 3:=by rw [hi5,Option.map_some,hs5]
 have hkk:(((n+1 - i:Nat)):Int)=(n:Int)+1 - (i:Int):=by omega
 have hik:i+(n+1 - i)=n+1:=by omega
 have hold:(Builtin.firstCells it.size i (.slice (some ⟨g,0,none⟩) i c)).run Try.prog w.drew = .ok (xs.take (i*3)).toArray w.drew:=by
  rw [hs5]
  exact run_firstCells_some w.drew 3 i ⟨g,0,none⟩ i c (xs.take (i*3)) (by rw [List.length_take,hxl];omega) (fun j v hj=>by
   have hj2:xs[j]?=some v:=by
    rcases Nat.lt_or_ge j (i*3) with h|h
    ·rwa [List.getElem?_take_of_lt h] at hj
    ·rw [List.getElem?_eq_none (by rw [List.length_take];omega)] at hj;cases hj
   exact ins_cell (w:=w) hb (o:=0) (ins_take ht (a:=0) (by rw [List.drop_zero];exact hj2)))
 have hr0:=Lib.run_append_grow_zeros (P:=Try.prog) w 61 3 61 127 it _ .i64 .i64 Try.underlying61 Try.underlying3 hi5 hz5 (some ⟨g,0,none⟩) i c (xs.take (i*3)) hold (n+1 - i) zbt zbt zbt zbt (by rw [hb5];omega) (by rw [hb5,hik];exact growslice_fits hroom zbt)
 rw [hik,hkk] at hr0
 obtain ⟨G,hG⟩:∃G,G=grownCap w (n+1) c 127:=⟨_,rfl⟩
 have hGn:n+1≤G:=by rw [hG];exact grownCap_ge w _ _ _
 have hGm:G≤maxLen:=by rw [hG];exact grownCap_le_maxLen w _ _ _ (by unfold maxLen;omega)
 rw [←hG] at hr0
 obtain ⟨cur0,hc0⟩:∃cur0:Array Value,cur0=(xs.take (i*3)).toArray++Builtin.zeroCells (.agg #[.string ⟨#[]⟩,.int .i64 0,.int .i64 0]:Value).cells (n+1 - i)++Builtin.zeroCells (.agg #[.string ⟨#[]⟩,.int .i64 0,.int .i64 0]:Value).cells (G - (n+1)):=⟨_,rfl⟩
 rw [←hc0] at hr0
 obtain ⟨W1,hW1⟩:∃W1,W1=w.drew.alloc (.cells cur0 127):=⟨_,rfl⟩
 rw [←hW1] at hr0
 have hzc:(.agg #[.string ⟨#[]⟩,.int .i64 0,.int .i64 0]:Value).cells.size=3:=rfl
 have hc0s:cur0.size=G*3:=by
  rw [hc0,Array.size_append,Array.size_append,size_zeroCells,size_zeroCells,hzc,List.size_toArray,List.length_take,hxl];omega
 have hb1:W1.heap[w.heap.size]?=some (.cells cur0 127 (0,0)):=by rw [hW1];exact blk_new w.drew _
 have hl1:W1.heap[gl]?=some (.cells lc 127 (0,0)):=by rw [hW1];exact ((World.grownBy_alloc w.drew _ none).block gl hglw zdd).trans hl
 have hg1:W1.heap[g]?=some (.cells cur 127 (0,0)):=by rw [hW1];exact ((World.grownBy_alloc w.drew _ none).block g hgw zdd).trans hb
 have hp:cur0.toList.take (i*3)=xs.take (i*3):=by
  rw [hc0,Array.append_assoc,Array.toList_append,List.take_append_of_le_length (by rw [List.length_take,hxl];omega)]
  exact List.take_of_length_le (by rw [List.length_take];omega)
 obtain ⟨f1,f2⟩:=ins_grow (l:=cur0.toList) (xs:=xs) (news:=news) (a:=i*3) (b:=3) (m:=n*3) hp hxl zbt hnl (by rw [Array.length_toList,hc0s];omega)
 rw [show i*3+3=(i+1)*3 by omega] at f1
 obtain ⟨cur1,hc1⟩:∃cur1,cur1=cur0.toList.take (i*3)++news++cur0.toList.drop (i*3+news.length):=⟨_,rfl⟩
 obtain ⟨W2,hW2⟩:∃W2,W2=W1.setRow w.heap.size cur1.toArray:=⟨_,rfl⟩
 have hr1:=ins_copy (P:=Try.prog) W1 61 61 3 127 3 w.heap.size (i*3) (n+1 - i) (G - i) ⟨gl,0,none⟩ 1 vc cur0 127 news Try.underlying61 hsz hb1 (by rw [hnl,show Nat.min 1 (n+1 - i)=1 by simp only [Nat.min_def];split<;>omega]) (fun j v hj=>ins_cell hl1 (o:=0) (ins_take hlt (a:=0) (by rw [List.drop_zero];exact hj))) (by rw [hnl,hc0s];omega) h1
 rw [←hc1] at hr1 f1 f2
 rw [←hW2] at hr1
 have hb2:W2.heap[w.heap.size]?=some (.cells cur1.toArray 127 (0,0)):=by rw [hW2];exact setRow_heap W1 _ _ _ 127 (0,0) hb1
 have hg2:W2.heap[g]?=some (.cells cur 127 (0,0)):=by rw [hW2,setRow_other _ _ g _ (Nat.ne_of_lt hgw)];exact hg1
 obtain ⟨W3,hW3⟩:∃W3,W3=W2.drew.setRow w.heap.size (cur1.take ((i+1)*3)++xs.drop (i*3)++cur1.drop ((i+1)*3+(xs.drop (i*3)).length)).toArray:=⟨_,rfl⟩
 have hc0l:cur0.toList.length=G*3:=by rw [Array.length_toList];exact hc0s
 have hr2:=ins_copy (P:=Try.prog) W2.drew 61 61 3 127 3 w.heap.size ((i+1)*3) (n - i) (G - (i+1)) ⟨g,i*3,none⟩ (n - i) (c - i) cur1.toArray 127 (xs.drop (i*3)) Try.underlying61 hsz hb2 (by rw [hdl,show Nat.min (n - i) (n - i)=n - i by simp]) (fun j v hj=>ins_cell (w:=W2) hg2 (ins_take ht hj)) (by rw [hdl,List.size_toArray,f2,hc0l];omega) (fun u hu=>h1x u (List.mem_of_mem_drop hu))
 rw [←hW3] at hr2
 have hb3:W3.heap[w.heap.size]?=some (.cells (cur1.take ((i+1)*3)++xs.drop (i*3)++cur1.drop ((i+1)*3+(xs.drop (i*3)).length)).toArray 127 (0,0)):=by rw [hW3];exact setRow_heap W2.drew _ _ _ 127 (0,0) hb2
 have HG:=Aside0.mk (ins_grown2 (row:=some g) hW1 hW2 hW3)
 have HO:=Aside0.mk (show W3.ownsRow B 127 3 (.slice (some ⟨w.heap.size,0,none⟩) (n+1) G) (n+1) (xs.take (i*3)++news++xs.drop (i*3)) from by
  refine ⟨by rw [List.length_append,List.length_append,List.length_take,hdl,hnl,hxl];omega,.inr ⟨w.heap.size,G,_,rfl,hB,hb3,hGn,hGm,?_,?_⟩⟩
  ·rw [List.size_toArray,List.length_append,List.length_append,List.length_take,hdl,List.length_drop,f2,hc0l];omega
  ·rw [show (n+1)*3=n*3+3 by omega];exact f1)
 have s12:=ins_from (P:=Try.prog) 61 127 Try.underlying61 hi5 3 hs5 g n c i (i:Int) rfl zbt zbt
 have s34:=ins_to (P:=Try.prog) 61 127 Try.underlying61 hi5 (some ⟨g,0,none⟩) n c i (i:Int) rfl zbt
 have s43:=ins_from (P:=Try.prog) 61 127 Try.underlying61 hi5 3 hs5 w.heap.size (n+1) G i (i:Int) rfl zbt zbt
 have s50:=ins_from (P:=Try.prog) 61 127 Try.underlying61 hi5 3 hs5 w.heap.size (n+1) G (i+1) ((i:Int)+1) zbt zbt zbt
 have b1:((i:Int) == (n:Int))=false:=beq_eq_false_iff_ne.2 zbt
 have b2:decide ((c:Int)<(n:Int)+1)=true:=decide_eq_true zbt
 have HR0:=Aside0.mk hr0
 have HR1:=Aside0.mk hr1
 have HR2:=Aside0.mk hr2
 have w1:=W1_.out
 have w2:=W2_.out
 have w5:=W5_.out
 have w3:IntKind.i64.wrap ((n:Int)+1)=(n:Int)+1:=by rw [IntWalk.i64_left];exact w1
 have w4:IntKind.i64.wrap ((i:Int)+1)=(i:Int)+1:=by rw [IntWalk.i64_left];exact w2
 have w6:IntKind.i64.wrap ((n:Int)+1 - (i:Int))=(n:Int)+1 - (i:Int):=by rw [IntWalk.i64_left];exact w5
 obtain ⟨g2,hg2e⟩:∃g2,g2=w.heap.size:=⟨_,rfl⟩
 rw [←hg2e] at HR0 HR1 HR2 HO s43 s50 ⊢
 clear hg2e W1_ W2_ W5_ hgw hglw hb hxl ht hcs hB hl hlt hnl h1 h1x hn hi hnc hroom hll hdl hsz hkk hik hold hr0 hG hGn hGm hc0 hW1 hzc hc0s hb1 hl1 hg1 hp f1 f2 hc1 hW2 hr1 hb2 hg2 hW3 hc0l hr2 hb3 hi5 hz5 hs5 hb5
 go_enter Try.func104,Try.ntmps104
 go_upto_region 11 with (first
  | ((with_reducible refine gate_dst (N:=40) rfl ?_);refine byt_app2 (by rfl) _ _ _ _ (by rfl) (by rfl) (by rfl) HR0.out ?_)
  | ((with_reducible refine gate_dst (N:=45) rfl ?_);refine ins_copy_event (by rfl) _ _ _ _ (by rfl) (by rfl) (by rfl) HR1.out ?_))
 go_region_held3 (fun _=>True) (trivial) (first|(refine ins_copy_step (by rfl) _ _ _ _ (by rfl) (by rfl) (by rfl) HR2.out ?_))
 all_goals go_wp2
 all_goals go_ret
 all_goals exact ⟨_,rfl,HO.out,HG.out,rfl⟩
theorem slices_Insert_S_impl_Turn.one {w:World} {base:Nat} {ok:Nat→Prop} {l:List S127} {xs:List Value} (h:Reps (k127.M w base ok) 3 l xs):∀u∈xs,u.oneCell'=true:=
 ins_one h zbq (fun p c hp=>by
  rw [k127_openM hp]
  intro u hu
  simp only [List.mem_cons,List.not_mem_nil,or_false] at hu
  rcases hu with rfl|rfl|rfl<;>rfl)
theorem slices_Insert_S_impl_Turn.any {w w':World} {base base':Nat} {ok ok':Nat→Prop} {l:List S127} {xs:List Value} (h:Reps (k127.M w base ok) 3 l xs):Reps (k127.M w' base' ok') 3 l xs:=h.imp_ (fun p c hp=>by rw [k127_openM hp];exact k127_mkM _ _ _ _)
theorem slices_Insert_S_impl_Turn.calls (P0_:Nat→Prop) (u9000_:Value) (l0:List S127) (a1:Int) (P2_:Nat→Prop) (u9001_:Value) (l2:List S127) (r:List S127) (w0 w:World) (hB:Below w0.heap.size w0 w) (ho0:Kd.R k127 127 w w0.heap.size P0_ u9000_ l0) (hp0_2:∀k_,P0_ k_→¬ P2_ k_) (ho2:Kd.R k127 127 w w0.heap.size P2_ u9001_ l2) (hp2_0:∀k_,P2_ k_→¬ P0_ k_) (h:slices_Insert_S_impl_Turn.f l0 a1 l2=some r) :
 Calls Try.prog 104 #[u9000_,.int .i64 a1,u9001_] w fun e w'=>∃v0_:Value,e = .returned (v0_)∧Kd.R k127 127 w' w0.heap.size (fun k_=>((P0_ k_∨P2_ k_)∨w.heap.size≤k_)) v0_ r∧Below w0.heap.size w0 w'∧Kept w w' (fun k_=>P0_ k_∨P2_ k_):=by
 unfold slices_Insert_S_impl_Turn.f at h
 by_cases hc:(l2.length=1∧0≤a1)∧a1≤(l0.length:Int)∧l0.length≤1000000
 rotate_left
 ·rw [if_neg hc] at h;cases h
 rw [if_pos hc] at h
 obtain rfl:=Option.some.inj h
 obtain ⟨⟨hc1,hc2⟩,hc3,hc4⟩:=hc
 obtain ⟨i,rfl⟩:∃i:Nat,a1=(i:Int):=⟨a1.toNat,zbt⟩
 rw [Int.toNat_natCast]
 obtain ⟨hok0,xs,hown,hrep⟩:=ho0
 obtain ⟨hok2,news,hown2,hrep2⟩:=ho2
 replace hown:w.ownsRow w0.heap.size 127 3 u9000_ l0.length xs:=hown
 replace hrep:Reps (k127.M w w0.heap.size (fun k=>P0_ k∧some k≠u9000_.ownBlock)) 3 l0 xs:=hrep
 replace hown2:w.ownsRow w0.heap.size 127 3 u9001_ l2.length news:=hown2
 replace hrep2:Reps (k127.M w w0.heap.size (fun k=>P2_ k∧some k≠u9001_.ownBlock)) 3 l2 news:=hrep2
 have h1x:=slices_Insert_S_impl_Turn.one hrep
 have h1:=slices_Insert_S_impl_Turn.one hrep2
 have hbs:∀k,u9000_.ownBlock=some k→w0.heap.size≤k:=fun k hk=>by
  rcases hown.2 with ⟨rfl,_⟩|⟨g,c,cur,rfl,hBg,_⟩
  ·cases hk
  ·obtain rfl:g=k:=Option.some.inj hk
   exact hBg
 have hnl:news.length=3:=by rw [hown2.1,hc1]
 have hlen:(l0.take i++l2++l0.drop i).length=l0.length+1:=by rw [List.length_append,List.length_append,List.length_take,List.length_drop,hc1];omega
 rcases hown2.2 with ⟨_,h0⟩|⟨gl,vc,lc,rfl,hBl,hl,h1c,_,hlc,hlt⟩
 ·omega
 rw [hc1] at hlt ⊢
 replace hlt:lc.toList.take news.length=news:=by rw [hnl];simpa using hlt
 have hne:∀k,u9000_.ownBlock=some k→gl≠k:=fun k hk e=>hp0_2 k (hok0 k hk) (hok2 k (by rw [←e];rfl))
 have fin:∀(e:Ending) (w':World),(∃v',e = .returned v'∧w'.ownsRow w0.heap.size 127 3 v' (l0.length+1) (xs.take (i*3)++news++xs.drop (i*3))∧w.grownBy w' u9000_.ownBlock∧(v'.ownBlock=u9000_.ownBlock∨∃b,v'.ownBlock=some b∧w.heap.size≤b))→∃v0_:Value,e = .returned (v0_)∧Kd.R k127 127 w' w0.heap.size (fun k_=>((P0_ k_∨P2_ k_)∨w.heap.size≤k_)) v0_ (l0.take i++l2++l0.drop i)∧Below w0.heap.size w0 w'∧Kept w w' (fun k_=>P0_ k_∨P2_ k_):=by
  rintro e w' ⟨v',rfl,ho,hg,hat⟩
  refine ⟨v',rfl,⟨fun k hk=>?_,_,by rw [hlen];exact ho,?_⟩,Below.grown hB hg hB.size (fun k hk=>hbs k hk),Kept.of_grown hg (Kept.refl w _) (fun k hk=>.inl (.inl (hok0 k hk)))⟩
  ·rcases hat with hat|⟨b,hb,hbb⟩
   ·exact .inl (.inl (hok0 k (by rw [←hat];exact hk)))
   ·obtain rfl:b=k:=Option.some.inj (hb.symm.trans hk)
    exact .inr hbb
  ·exact Kd.reps_append (Kd.reps_append (Kd.reps_take (slices_Insert_S_impl_Turn.any hrep) zbt) (slices_Insert_S_impl_Turn.any hrep2)) (Kd.reps_drop (slices_Insert_S_impl_Turn.any hrep))
 by_cases hi:i=l0.length
 ·exact (slices_Insert_S_impl_Turn.c_end u9000_ u9000_.ownBlock rfl l0.length i xs news w0.heap.size gl w hown hB.size lc vc hl hlt hnl h1 h1x hc4 (fun e=>hne gl e rfl) hi).mono fin
 rcases hown.2 with ⟨_,h0⟩|⟨g,c,cur,rfl,hBg,hb,hnc,hcm,hcs,ht⟩
 ·omega
 by_cases hroom:l0.length+1≤c
 ·refine (slices_Insert_S_impl_Turn.c_room g c cur l0.length i xs news w0.heap.size gl w hb hown.1 ht hcs hcm hBg lc vc hl hlt hnl h1 h1x hc4 (hne g rfl) zbt hroom).mono ?_
  rintro e w' ⟨v',h1,h2,h3,h4⟩
  exact fin e w' ⟨v',h1,h2,h3,.inl h4⟩
 ·refine (slices_Insert_S_impl_Turn.c_grow g c cur l0.length i xs news w0.heap.size gl w hb hown.1 ht hcs hB.size lc vc hl hlt hnl h1 h1x hc4 zbt hnc zbt).mono ?_
  rintro e w' ⟨v',h1,h2,h3,h4⟩
  exact fin e w' ⟨v',h1,h2,h3,.inr ⟨_,h4,Nat.le_refl _⟩⟩
end Go.Proofs.Ytocegmkifmdlcaa.P
