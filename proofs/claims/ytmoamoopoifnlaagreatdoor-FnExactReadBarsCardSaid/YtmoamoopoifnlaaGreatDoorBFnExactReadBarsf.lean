/- Part f of what FnExactReadBars stands on: functions of the program as Lean functions with their walks, and plain lemmas. -/
import Derived.Test.YtmoamoopoifnlaaGreatDoorBFnExactReadBarsb
import Derived.Test.YtmoamoopoifnlaaGreatDoorBFnExactReadBarsd
import Derived.Test.YtmoamoopoifnlaaGreatDoorBFnExactReadBarse
namespace Go.Proofs.YtmoamoopoifnlaaGreatDoor.P
open Go.RowKit Go.Proofs.YtmoamoopoifnlaaGreatDoorW.PrintWords Go.Proofs.YtmoamoopoifnlaaGreatDoorL
def ps : List Int → Nat → Int
  | _, 0 => 0
  | [], _ + 1 => 0
  | x :: r, j + 1 => x + ps r j
def Lj (S : List Int) (v : Int) (j : Nat) : Int := rd S (j : Int) * v
def tot (S : List Int) (v : Int) : Int := ps S S.length * v
structure TG (S : List Int) (v : Int) : Prop where
  n1 : 1 ≤ S.length
  n8 : S.length ≤ 8
  sec : ∀ x ∈ S, 1 ≤ x ∧ x ≤ 16
  v1 : 1 ≤ v
  v8 : v ≤ 8
theorem TG_of {s : ByteArray} {S M : List Int} {v : Int} (h : talaB s S M = true) (hv : wB 1 8 v = true) : TG S v := by
  unfold talaB at h
  unfold wB at hv
  rw [Bool.and_eq_true, decide_eq_true_iff, decide_eq_true_iff] at hv
  rw [Bool.and_eq_true, Bool.and_eq_true, Bool.and_eq_true, decide_eq_true_iff, decide_eq_true_iff, Bool.and_eq_true, Bool.and_eq_true, Bool.and_eq_true] at h
  refine ⟨h.2.1.1, h.2.1.2, fun x hx => ?_, hv.1, hv.2⟩
  have := List.all_eq_true.1 h.2.2.2.1.1 x hx
  unfold wB at this
  rw [Bool.and_eq_true, decide_eq_true_iff, decide_eq_true_iff] at this
  exact this
theorem ps_succ : ∀ {S : List Int} {j : Nat} (h : j < S.length), ps S (j + 1) = ps S j + S[j]
  | [], j, h => by simp at h
  | x :: r, 0, _ => by show x + ps r 0 = 0 + x; cases r <;> simp [ps]
  | x :: r, j + 1, h => by
    have hj : j < r.length := by simpa using h
    have := ps_succ (S := r) (j := j) hj
    show x + ps r (j + 1) = (x + ps r j) + r[j]
    omega
theorem ps_bound {S : List Int} (hs : ∀ x ∈ S, 1 ≤ x ∧ x ≤ 16) : ∀ j, j ≤ S.length → 0 ≤ ps S j ∧ ps S j ≤ 16 * j := by
  intro j
  induction j with
  | zero => intro _; cases S <;> simp [ps]
  | succ j ih =>
    intro h
    have := ih (by omega)
    have h2 := hs S[j] (List.getElem_mem (by omega))
    rw [ps_succ (by omega)]
    omega
theorem ps_le {S : List Int} (hs : ∀ x ∈ S, 1 ≤ x ∧ x ≤ 16) {i : Nat} : ∀ d, i + d ≤ S.length → ps S i + d ≤ ps S (i + d) := by
  intro d
  induction d with
  | zero => intro _; simp
  | succ d ih =>
    intro h
    have := ih (by omega)
    have h2 := hs S[i + d] (List.getElem_mem (by omega))
    rw [← Nat.add_assoc, ps_succ (by omega)]
    omega
theorem sumW_ps : ∀ (S : List Int) (acc : Int), (∀ x ∈ S, 1 ≤ x ∧ x ≤ 16) → 0 ≤ acc → acc + 16 * S.length ≤ 1000000 → sumW acc S = acc + ps S S.length
  | [], acc, _, _, _ => by show acc = acc + 0; omega
  | x :: r, acc, hs, h0, h1 => by
    have hx := hs x List.mem_cons_self
    rw [List.length_cons] at h1
    show sumW (wrap64 (acc + x)) r = acc + (x + ps r r.length)
    rw [wrap_id (by omega) (by omega), sumW_ps r (acc + x) (fun y hy => hs y (List.mem_cons_of_mem _ hy)) (by omega) (by omega)]
    omega
theorem Lj_at {S : List Int} {v : Int} {j : Nat} (h : j < S.length) : Lj S v j = S[j] * v := by unfold Lj; rw [rd_get h]
theorem Lj_bound {S : List Int} {v : Int} (g : TG S v) {j : Nat} (h : j < S.length) : 1 ≤ Lj S v j ∧ Lj S v j ≤ 128 := by
  have h2 := g.sec S[j] (List.getElem_mem h)
  have h1 := g.v1
  have h8 := g.v8
  rw [Lj_at h]
  generalize S[j] = x at h2
  obtain rfl | rfl | rfl | rfl | rfl | rfl | rfl | rfl : v = 1 ∨ v = 2 ∨ v = 3 ∨ v = 4 ∨ v = 5 ∨ v = 6 ∨ v = 7 ∨ v = 8 := by omega
  all_goals omega
theorem pv_succ {S : List Int} {v : Int} {j : Nat} (h : j < S.length) : ps S (j + 1) * v = ps S j * v + Lj S v j := by rw [ps_succ h, Lj_at h, Int.add_mul]
theorem pv_bound {S : List Int} {v : Int} (g : TG S v) {j : Nat} (h : j ≤ S.length) : 0 ≤ ps S j * v ∧ ps S j * v ≤ 1024 := by
  have h2 := ps_bound g.sec j h
  have h1 := g.v1
  have h8 := g.v8
  have n8 := g.n8
  generalize ps S j = x at h2
  obtain rfl | rfl | rfl | rfl | rfl | rfl | rfl | rfl : v = 1 ∨ v = 2 ∨ v = 3 ∨ v = 4 ∨ v = 5 ∨ v = 6 ∨ v = 7 ∨ v = 8 := by omega
  all_goals omega
theorem pv_tot {S : List Int} {v : Int} (g : TG S v) {j : Nat} (h : j < S.length) : ps S j * v + Lj S v j ≤ tot S v ∧ (j + 1 < S.length → ps S j * v + Lj S v j < tot S v) := by
  have h2 := ps_le g.sec (i := j + 1) (S.length - (j + 1)) (by omega)
  rw [show j + 1 + (S.length - (j + 1)) = S.length by omega] at h2
  have h1 := g.v1
  have h8 := g.v8
  rw [← pv_succ h]
  unfold tot
  generalize ps S (j + 1) = x at h2
  generalize ps S S.length = y at h2
  obtain rfl | rfl | rfl | rfl | rfl | rfl | rfl | rfl : v = 1 ∨ v = 2 ∨ v = 3 ∨ v = 4 ∨ v = 5 ∨ v = 6 ∨ v = 7 ∨ v = 8 := by omega
  all_goals omega
theorem tot_pos {S : List Int} {v : Int} (g : TG S v) : 1 ≤ tot S v ∧ tot S v ≤ 1024 := by
  have h0 : 0 < S.length := by have := g.n1; omega
  have h1 := (pv_tot g h0).1
  have h2 := Lj_bound g h0
  have h3 := pv_bound g (j := 0) (by omega)
  exact ⟨by omega, (pv_bound g (Nat.le_refl _)).2⟩
/-- A time stands in section j, c units behind its beginning. -/
structure Pos (S : List Int) (v T : Int) (j : Nat) (c : Int) : Prop where
  t0 : 0 ≤ T
  t9 : T ≤ 1000000
  jl : j < S.length
  c0 : 0 ≤ c
  c9 : c < Lj S v j
  at_ : T % tot S v = ps S j * v + c
theorem units_eq (s : ByteArray) {S : List Int} (M : List Int) {v : Int} (g : TG S v) {K : Nat} (hK : 2000 ≤ K) : spec_l19Units_e.f K [(⟨s, S, M⟩ : S50)] 0 v = some (tot S v) := by
  have n8 := g.n8
  have ht := tot_pos g
  unfold spec_l19Units_e.f spec_l17Beats_e.f
  rw [show rd_T50 [(⟨s, S, M⟩ : S50)] 0 = ⟨s, S, M⟩ from rfl]
  dsimp only
  rw [l17Sum_eq (by omega) (by omega), sumW_ps S 0 g.sec (by omega) (by omega)]
  simp only [Option.bind_some]
  rw [Int.zero_add]
  show some (wrap64 (tot S v)) = _
  rw [wrap_id (by omega) (by omega)]
theorem At_l0 (s : ByteArray) {S : List Int} (M : List Int) (hs : ∀ x ∈ S, 1 ≤ x ∧ x ≤ 16) (hn : S.length ≤ 8) : ∀ (j i K : Nat) (b : Int) (h : i + j < S.length), 0 ≤ b → b < S[i + j] → j + 1 ≤ K → spec_l17At_e.l0 K (ps (S.drop i) j + b) (i : Int) [(⟨s, S, M⟩ : S50)] 0 = some (((i + j : Nat) : Int), b) := by
  have hr : rd_T50 [(⟨s, S, M⟩ : S50)] 0 = ⟨s, S, M⟩ := rfl
  intro j
  induction j with
  | zero =>
    intro i K b h h0 h1 hK
    obtain ⟨K, rfl⟩ : ∃ m, K = m + 1 := ⟨K - 1, by omega⟩
    have hlt : i < S.length := by omega
    have e0 : ps (S.drop i) 0 = 0 := by cases S.drop i <;> rfl
    simp only [spec_l17At_e.l0]
    rw [hr]
    dsimp only
    rw [if_pos (nn_cast i), if_pos (lt_cast hlt), rd_get hlt, e0, if_neg (by simp only [Nat.add_zero] at h1; omega), Int.zero_add]; rfl
  | succ j ih =>
    intro i K b h h0 h1 hK
    obtain ⟨K, rfl⟩ : ∃ m, K = m + 1 := ⟨K - 1, by omega⟩
    have hlt : i < S.length := by omega
    have e1 : ps (S.drop i) (j + 1) = S[i] + ps (S.drop (i + 1)) j := by rw [List.drop_eq_getElem_cons hlt]; rfl
    have hb := ps_bound (S := S.drop (i + 1)) (fun x hx => hs x (List.mem_of_mem_drop hx)) j (by rw [List.length_drop]; omega)
    have hx := hs S[i] (List.getElem_mem hlt)
    have hb2 := hs S[i + (j + 1)] (List.getElem_mem h)
    have h2 : b < S[i + 1 + j]'(by omega) := by
      have e : i + 1 + j = i + (j + 1) := by omega
      simp only [e]; exact h1
    simp only [spec_l17At_e.l0]
    rw [hr]
    dsimp only
    rw [if_pos (nn_cast i), if_pos (lt_cast hlt), rd_get hlt, e1, if_pos (by omega), wrap_id (by omega) (by omega), show S[i] + ps (S.drop (i + 1)) j + b - S[i] = ps (S.drop (i + 1)) j + b by omega, wrap_succ hlt (by omega), ih (i + 1) K b (by omega) h0 h2 (by omega)]
    congr 2
    omega
theorem place {S : List Int} {v T : Int} (g : TG S v) {j : Nat} {c : Int} (p : Pos S v T j c) : Int.tmod T (tot S v) = ps S j * v + c ∧ Int.tdiv (ps S j * v + c) v = ps S j + c / v ∧ Int.tmod (ps S j * v + c) v = c % v ∧ 0 ≤ c / v ∧ c / v < S[j]'p.jl := by
  have hp := pv_bound g (j := j) (by have := p.jl; omega)
  have h1 := g.v1
  have c0 := p.c0
  have c9 := p.c9
  rw [Lj_at p.jl] at c9
  refine ⟨by rw [Int.tmod_eq_emod_of_nonneg p.t0]; exact p.at_, ?_, ?_, Int.ediv_nonneg c0 (by omega), Int.ediv_lt_of_lt_mul (by omega) c9⟩
  · rw [Int.tdiv_eq_ediv_of_nonneg (by omega), Int.add_comm (ps S j * v) c, Int.add_mul_ediv_right _ _ (by omega)]; omega
  · rw [Int.tmod_eq_emod_of_nonneg (by omega), Int.add_comm (ps S j * v) c, Int.add_mul_emod_self_right]
theorem Left_eq (s : ByteArray) {S : List Int} (M : List Int) {v T : Int} (g : TG S v) {j : Nat} {c : Int} (p : Pos S v T j c) {K : Nat} (hK : 2000 ≤ K) : spec_l25Left_e.f K [(⟨s, S, M⟩ : S50)] 0 v T = some (Lj S v j - c) := by
  obtain ⟨e1, e2, e3, e4, e5⟩ := place g p
  have ht := tot_pos g
  have h1 := g.v1
  have jl := p.jl
  have hb := ps_bound g.sec j (by omega)
  have hx := g.sec S[j] (List.getElem_mem jl)
  have hL := Lj_bound g p.jl
  have n8 := g.n8
  have c0 := p.c0
  have c9 := p.c9
  have hq : 0 ≤ v * (c / v) := Int.mul_nonneg (by omega) e4
  have hA := At_l0 s M g.sec g.n8 j 0 K (c / v) (by omega) e4 (by simp only [Nat.zero_add]; exact e5) (by omega)
  rw [List.drop_zero, Nat.zero_add, show ((0 : Nat) : Int) = 0 from rfl] at hA
  have hm := Int.emod_add_mul_ediv c v
  have hm0 := Int.emod_nonneg c (show v ≠ 0 by omega)
  have hm1 := Int.emod_lt_of_pos c (show 0 < v by omega)
  have hd : (S[j] - c / v) * v = Lj S v j - v * (c / v) := by rw [Int.sub_mul, Lj_at p.jl, Int.mul_comm (c / v) v]
  unfold spec_l25Left_e.f spec_l17At_e.f
  rw [units_eq s M g (by omega)]
  simp only [Option.bind_some]
  rw [if_neg (by omega), if_neg (by omega), e1, e2, wrap_id (by omega) (by omega), hA]
  simp only [Option.bind_some]
  rw [if_pos (nn_cast j), show rd_T50 [(⟨s, S, M⟩ : S50)] 0 = ⟨s, S, M⟩ from rfl]
  dsimp only
  rw [if_pos (lt_cast p.jl), rd_get p.jl, e3, wrap_id (x := S[j] - c / v) (by omega) (by omega), hd, wrap_id (x := Lj S v j - v * (c / v)) (by omega) (by omega), wrap_id (by omega) (by omega)]
  congr 1
  omega
theorem Whole_eq (s : ByteArray) {S : List Int} (M : List Int) {v T : Int} (g : TG S v) {j : Nat} {c : Int} (p : Pos S v T j c) {K : Nat} (hK : 2000 ≤ K) : spec_l25Whole_e.f K [(⟨s, S, M⟩ : S50)] 0 v T = some (Lj S v j) := by
  obtain ⟨e1, e2, e3, e4, e5⟩ := place g p
  have ht := tot_pos g
  have h1 := g.v1
  have jl := p.jl
  have hb := ps_bound g.sec j (by omega)
  have hx := g.sec S[j] (List.getElem_mem jl)
  have hL := Lj_bound g p.jl
  have n8 := g.n8
  have hA := At_l0 s M g.sec g.n8 j 0 K (c / v) (by omega) e4 (by simp only [Nat.zero_add]; exact e5) (by omega)
  rw [List.drop_zero, Nat.zero_add, show ((0 : Nat) : Int) = 0 from rfl] at hA
  unfold spec_l25Whole_e.f spec_l17At_e.f
  rw [units_eq s M g (by omega)]
  simp only [Option.bind_some]
  rw [if_neg (by omega), if_neg (by omega), e1, e2, wrap_id (by omega) (by omega), hA]
  simp only [Option.bind_some]
  rw [if_pos (nn_cast j), show rd_T50 [(⟨s, S, M⟩ : S50)] 0 = ⟨s, S, M⟩ from rfl]
  dsimp only
  rw [if_pos (lt_cast p.jl)]
  show some (wrap64 (Lj S v j)) = _
  rw [wrap_id (by omega) (by omega)]
def nx (S : List Int) (v : Int) (j : Nat) (c : Int) : Nat × Int := if c = Lj S v j then ((j + 1) % S.length, 0) else (j, c)
theorem nx_st {S : List Int} {v : Int} (g : TG S v) {j : Nat} {c : Int} (h : j < S.length) (c0 : 0 ≤ c) (c9 : c ≤ Lj S v j) : (nx S v j c).1 < S.length ∧ 0 ≤ (nx S v j c).2 ∧ (nx S v j c).2 < Lj S v (nx S v j c).1 := by
  unfold nx
  by_cases hc : c = Lj S v j
  · rw [if_pos hc]
    have hm : (j + 1) % S.length < S.length := Nat.mod_lt _ (by omega)
    have := Lj_bound g hm
    exact ⟨hm, Int.le_refl _, by show (0 : Int) < Lj S v ((j + 1) % S.length); omega⟩
  · rw [if_neg hc]; exact ⟨h, c0, by show c < Lj S v j; omega⟩
theorem Pos_nx {S : List Int} {v T : Int} (g : TG S v) {j : Nat} {c n : Int} (p : Pos S v T j c) (n0 : 0 ≤ n) (n9 : c + n ≤ Lj S v j) (ht : T + n ≤ 1000000) : Pos S v (T + n) (nx S v j (c + n)).1 (nx S v j (c + n)).2 := by
  have t0 := p.t0
  have c0 := p.c0
  obtain ⟨a1, a2, a3⟩ := nx_st g p.jl (c := c + n) (by omega) n9
  refine ⟨by omega, ht, a1, a2, a3, ?_⟩
  have hU := tot_pos g
  obtain ⟨b1, b2⟩ := pv_tot g p.jl
  have hp := pv_bound g (j := j) (by have := p.jl; omega)
  rw [← Int.emod_add_emod, p.at_]
  unfold nx
  by_cases hc : c + n = Lj S v j
  · rw [if_pos hc]
    dsimp only
    by_cases hj : j + 1 < S.length
    · have := b2 hj
      rw [Nat.mod_eq_of_lt hj, pv_succ p.jl, Int.emod_eq_of_lt (by omega) (by omega)]; omega
    · have hj2 : j + 1 = S.length := by have := p.jl; omega
      have e : ps S j * v + c + n = tot S v := by
        unfold tot
        rw [← hj2, pv_succ p.jl]; omega
      have e0 : ps S 0 * v + 0 = 0 := by
        have : ps S 0 = 0 := by cases S <;> rfl
        rw [this]; omega
      rw [e, Int.emod_self, hj2, Nat.mod_self, e0]
  · rw [if_neg hc]
    dsimp only
    rw [Int.emod_eq_of_lt (by omega) (by omega)]; omega
def cutN (S : List Int) (v : Int) : Nat → Int → Bool → Int → Nat → Int → List S136 × Nat × Int
  | 0, _, _, _, j, c => ([], j, c)
  | f + 1, i, lt, x, j, c => if x > 0 then ((⟨i, mn x (Lj S v j - c), if c = 0 then (j : Int) else -1, lt⟩ : S136) :: (cutN S v f i true (x - mn x (Lj S v j - c)) (nx S v j (c + mn x (Lj S v j - c))).1 (nx S v j (c + mn x (Lj S v j - c))).2).1, (cutN S v f i true (x - mn x (Lj S v j - c)) (nx S v j (c + mn x (Lj S v j - c))).1 (nx S v j (c + mn x (Lj S v j - c))).2).2) else ([], j, c)
def segs (S : List Int) (v : Int) : List S67 → Int → Nat → Int → List S136
  | [], _, _, _ => []
  | x :: r, i, j, c => (cutN S v 64 i false x.f1 j c).1 ++ segs S v r (i + 1) (cutN S v 64 i false x.f1 j c).2.1 (cutN S v 64 i false x.f1 j c).2.2
theorem mn_le {a b : Int} : mn a b ≤ a ∧ mn a b ≤ b ∧ (mn a b = a ∨ mn a b = b) := by unfold mn; split <;> omega
theorem cutN_length (S : List Int) (v : Int) : ∀ (f : Nat) (i : Int) (lt : Bool) (x : Int) (j : Nat) (c : Int), (cutN S v f i lt x j c).1.length ≤ f := by
  intro f
  induction f with
  | zero => intros; exact Nat.le_refl _
  | succ f ih =>
    intro i lt x j c
    unfold cutN
    split
    · rw [List.length_cons]; have := ih i true (x - mn x (Lj S v j - c)) (nx S v j (c + mn x (Lj S v j - c))).1 (nx S v j (c + mn x (Lj S v j - c))).2; omega
    · exact Nat.zero_le _
theorem cutN_st {S : List Int} {v : Int} (g : TG S v) : ∀ (f : Nat) (i : Int) (lt : Bool) (x : Int) (j : Nat) (c : Int), j < S.length → 0 ≤ c → c < Lj S v j → (cutN S v f i lt x j c).2.1 < S.length ∧ 0 ≤ (cutN S v f i lt x j c).2.2 ∧ (cutN S v f i lt x j c).2.2 < Lj S v (cutN S v f i lt x j c).2.1 := by
  intro f
  induction f with
  | zero => intro i lt x j c h1 h2 h3; exact ⟨h1, h2, h3⟩
  | succ f ih =>
    intro i lt x j c h1 h2 h3
    unfold cutN
    by_cases hx : x > 0
    · rw [if_pos hx]
      obtain ⟨m1, m2, m3⟩ := @mn_le x (Lj S v j - c)
      obtain ⟨a1, a2, a3⟩ := nx_st g h1 (c := c + mn x (Lj S v j - c)) (by omega) (by omega)
      exact ih _ _ _ _ _ a1 a2 a3
    · rw [if_neg hx]; exact ⟨h1, h2, h3⟩
def RelS (S : List Int) (v sec left : Int) (j : Nat) (c : Int) : Prop := (c = 0 ∧ left = 0 ∧ -1 ≤ sec ∧ sec < (S.length : Int) ∧ Int.tmod (sec + 1) (S.length : Int) = (j : Int)) ∨ (0 < c ∧ left = Lj S v j - c ∧ sec = (j : Int))
theorem RelS_nx {S : List Int} {v : Int} {j : Nat} {c : Int} (h : j < S.length) (c0 : 0 < c) (c9 : c ≤ Lj S v j) : RelS S v (j : Int) (Lj S v j - c) (nx S v j c).1 (nx S v j c).2 := by
  unfold nx RelS
  by_cases hc : c = Lj S v j
  · rw [if_pos hc]
    left
    refine ⟨rfl, by omega, by omega, by omega, ?_⟩
    rw [Int.tmod_eq_emod_of_nonneg (by omega)]
    show ((j : Int) + 1) % (S.length : Int) = (((j + 1) % S.length : Nat) : Int)
    rw [Int.natCast_emod]; rfl
  · rw [if_neg hc]
    right
    exact ⟨c0, rfl, rfl⟩
theorem split_l1 {S : List Int} {v : Int} (g : TG S v) (s : ByteArray) (M : List Int) (m : List S67) (len q : Int) : ∀ (f : Nat) (x : Int) (lt : Bool) (j : Nat) (c sec left : Int) (K : Nat) (acc : List S136) (i : Int), 0 ≤ x → x ≤ f → x ≤ 64 → RelS S v sec left j c → j < S.length → 0 ≤ c → c < Lj S v j → acc.length + f ≤ 1000000 → f + 1 ≤ K →
    ∃ (K' : Nat) (sec' left' : Int), K ≤ K' + f + 1 ∧ RelS S v sec' left' (cutN S v f i lt x j c).2.1 (cutN S v f i lt x j c).2.2 ∧ impl_split.l1 K v acc sec left i lt x m len q s S M = impl_split.l0 K' v (acc ++ (cutN S v f i lt x j c).1) sec' left' m len (wrap64 (q + 1)) s S M := by
  have n8 := g.n8
  have n1 := g.n1
  intro f
  induction f with
  | zero =>
    intro x lt j c sec left K acc i x0 x1 x2 hR h1 h2 h3 ha hK
    obtain ⟨K, rfl⟩ : ∃ z, K = z + 1 := ⟨K - 1, by omega⟩
    refine ⟨K, sec, left, by omega, hR, ?_⟩
    simp only [impl_split.l1]
    rw [if_neg (by omega)]
    show _ = impl_split.l0 K v (acc ++ []) sec left m len (wrap64 (q + 1)) s S M
    rw [List.append_nil]
  | succ f ih =>
    intro x lt j c sec left K acc i x0 x1 x2 hR h1 h2 h3 ha hK
    obtain ⟨K, rfl⟩ : ∃ z, K = z + 1 := ⟨K - 1, by omega⟩
    by_cases hx : x > 0
    rotate_left
    · refine ⟨K, sec, left, by omega, ?_, ?_⟩
      · unfold cutN; rw [if_neg hx]; exact hR
      · simp only [impl_split.l1]
        unfold cutN
        rw [if_neg hx, if_neg hx]
        show _ = impl_split.l0 K v (acc ++ []) sec left m len (wrap64 (q + 1)) s S M
        rw [List.append_nil]
    have hL := Lj_bound g h1
    obtain ⟨m1, m2, m3⟩ := @mn_le x (Lj S v j - c)
    obtain ⟨a1, a2, a3⟩ := nx_st g h1 (c := c + mn x (Lj S v j - c)) (by omega) (by omega)
    have hR2 := RelS_nx (v := v) h1 (c := c + mn x (Lj S v j - c)) (by omega) (by omega)
    have hcut : cutN S v (f + 1) i lt x j c = ((⟨i, mn x (Lj S v j - c), if c = 0 then (j : Int) else -1, lt⟩ : S136) :: (cutN S v f i true (x - mn x (Lj S v j - c)) (nx S v j (c + mn x (Lj S v j - c))).1 (nx S v j (c + mn x (Lj S v j - c))).2).1, (cutN S v f i true (x - mn x (Lj S v j - c)) (nx S v j (c + mn x (Lj S v j - c))).1 (nx S v j (c + mn x (Lj S v j - c))).2).2) := by
      conv => lhs; unfold cutN
      rw [if_pos hx]
    obtain ⟨K', sec', left', k1, k2, k3⟩ := ih (x - mn x (Lj S v j - c)) true _ _ (j : Int) (Lj S v j - (c + mn x (Lj S v j - c))) K (acc ++ [(⟨i, mn x (Lj S v j - c), if c = 0 then (j : Int) else -1, lt⟩ : S136)]) i (by omega) (by omega) (by omega) hR2 a1 a2 a3 (by rw [List.length_append]; simp; omega) (by omega)
    rw [hcut]
    refine ⟨K', sec', left', by omega, k2, ?_⟩
    rw [List.append_assoc, List.singleton_append] at k3
    rw [← k3]
    simp only [impl_split.l1]
    rw [if_pos hx]
    rcases hR with ⟨r1, r2, r3, r4, r5⟩ | ⟨r1, r2, r3⟩
    · have hw : wrap64 (sec + 1) = sec + 1 := wrap_id (by omega) (by omega)
      have hl : wrap64 (rd S (j : Int) * v) = Lj S v j := by show wrap64 (Lj S v j) = _; exact wrap_id (by omega) (by omega)
      subst r1
      rw [if_pos r2, if_neg (by omega), hw, r5, if_pos (nn_cast j), if_pos (lt_cast h1), if_pos (by omega), hl, if_pos rfl]
      rw [Int.sub_zero] at m1 m2 m3 ⊢
      rw [wrap_id (x := Lj S v j - mn x (Lj S v j)) (by omega) (by omega), wrap_id (x := x - mn x (Lj S v j)) (by omega) (by omega), Int.zero_add]
    · have hc0 : ¬ c = 0 := by omega
      rw [if_neg (by omega), if_pos (by omega), r2, r3, if_neg hc0, wrap_id (x := Lj S v j - c - mn x (Lj S v j - c)) (by omega) (by omega), wrap_id (x := x - mn x (Lj S v j - c)) (by omega) (by omega), show Lj S v j - c - mn x (Lj S v j - c) = Lj S v j - (c + mn x (Lj S v j - c)) by omega]
theorem split_l0 {S : List Int} {v : Int} (g : TG S v) (s : ByteArray) (M : List Int) {m : List S67} (hm : m.length ≤ 48) (hn : ∀ y ∈ m, 1 ≤ y.f1 ∧ y.f1 ≤ 64) : ∀ (d K i : Nat) (acc : List S136) (j : Nat) (c sec left : Int), i + d = m.length → RelS S v sec left j c → j < S.length → 0 ≤ c → c < Lj S v j → acc.length ≤ 64 * i → 66 * d + 1 ≤ K → impl_split.l0 K v acc sec left m (m.length : Int) (i : Int) s S M = some (acc ++ segs S v (m.drop i) (i : Int) j c) := by
  intro d
  induction d with
  | zero =>
    intro K i acc j c sec left hi hR h1 h2 h3 ha hK
    obtain ⟨K, rfl⟩ : ∃ z, K = z + 1 := ⟨K - 1, by omega⟩
    simp only [impl_split.l0]
    rw [if_neg (by omega), List.drop_eq_nil_of_le (by omega)]
    show some acc = some (acc ++ [])
    rw [List.append_nil]
  | succ d ih =>
    intro K i acc j c sec left hi hR h1 h2 h3 ha hK
    obtain ⟨K, rfl⟩ : ∃ z, K = z + 1 := ⟨K - 1, by omega⟩
    have hlt : i < m.length := by omega
    have hx := hn m[i] (List.getElem_mem hlt)
    simp only [impl_split.l0]
    rw [if_pos (lt_cast hlt), if_pos (nn_cast i), if_pos (lt_cast hlt), rdN_get hlt]
    obtain ⟨K', sec', left', k1, k2, k3⟩ := split_l1 g s M m (m.length : Int) (i : Int) 64 m[i].f1 false j c sec left K acc (i : Int) (by omega) (by omega) (by omega) hR h1 h2 h3 (by omega) (by omega)
    obtain ⟨a1, a2, a3⟩ := cutN_st g 64 (i : Int) false m[i].f1 j c h1 h2 h3
    have hl := cutN_length S v 64 (i : Int) false m[i].f1 j c
    rw [k3, wrap_succ hlt (by omega), ih K' (i + 1) _ _ _ sec' left' (by omega) k2 a1 a2 a3 (by rw [List.length_append]; omega) (by omega), List.drop_eq_getElem_cons hlt, List.append_assoc]
    rfl
theorem split_eq {S : List Int} {v : Int} (g : TG S v) (s : ByteArray) (M : List Int) {m : List S67} (hm : melB m = true) {K : Nat} (hK : 4000 ≤ K) : impl_split.f K m s S M v = some (segs S v m 0 0 0) := by
  have hl := (melB_ok hm).1
  have hL := Lj_bound g (j := 0) (by have := g.n1; omega)
  have hn : ∀ y ∈ m, 1 ≤ y.f1 ∧ y.f1 ≤ 64 := fun y hy => by
    unfold melB at hm
    rw [Bool.and_eq_true] at hm
    have := List.all_eq_true.1 hm.1 y hy
    unfold noteB at this
    rw [Bool.and_eq_true, Bool.and_eq_true, Bool.and_eq_true, decide_eq_true_iff, decide_eq_true_iff, decide_eq_true_iff, decide_eq_true_iff] at this
    exact this.2
  have := split_l0 g s M hl hn m.length K 0 [] 0 0 (-1) 0 (by omega) (Or.inl ⟨rfl, rfl, by omega, by have := g.n1; omega, by rw [show (-1 : Int) + 1 = 0 by omega]; exact Int.zero_tmod _⟩) (by have := g.n1; omega) (by omega) (by omega) (by simp) (by omega)
  rw [List.drop_zero, List.nil_append] at this
  exact this
def pr (p : S136) : List Int := [p.f0, p.f1]
theorem min_eq (a b : Int) : spec_l00Min.f a b = some (mn a b) := by
  unfold spec_l00Min.f mn
  by_cases h : a < b
  · rw [if_pos h, if_neg (by omega)]
  · rw [if_neg h]
    by_cases h2 : b < a
    · rw [if_pos h2]
    · rw [if_neg h2, show b = a by omega]
theorem Split_l1 {S : List Int} {v : Int} (g : TG S v) (s : ByteArray) (M : List Int) (m : List S67) : ∀ (f : Nat) (x : Int) (lt : Bool) (j : Nat) (c T : Int) (K : Nat) (acc : List (List Int)) (i : Int), 0 ≤ x → x ≤ f → x ≤ 64 → Pos S v T j c → T + x ≤ 1000000 → acc.length + f ≤ 1000000 → f + 3000 ≤ K →
    ∃ K' : Nat, K ≤ K' + f + 1 ∧ Pos S v (T + x) (cutN S v f i lt x j c).2.1 (cutN S v f i lt x j c).2.2 ∧ spec_l25Split_e.l1 K m v acc T i x [(⟨s, S, M⟩ : S50)] 0 = spec_l25Split_e.l0 K' m v (acc ++ (cutN S v f i lt x j c).1.map pr) (T + x) (wrap64 (i + 1)) [(⟨s, S, M⟩ : S50)] 0 := by
  intro f
  induction f with
  | zero =>
    intro x lt j c T K acc i x0 x1 x2 hP ht ha hK
    obtain ⟨K, rfl⟩ : ∃ z, K = z + 1 := ⟨K - 1, by omega⟩
    obtain rfl : x = 0 := by omega
    refine ⟨K, by omega, by rw [Int.add_zero]; exact hP, ?_⟩
    simp only [spec_l25Split_e.l1]
    rw [if_neg (by omega), Int.add_zero]
    show _ = spec_l25Split_e.l0 K m v (acc ++ []) T (wrap64 (i + 1)) _ 0
    rw [List.append_nil]
  | succ f ih =>
    intro x lt j c T K acc i x0 x1 x2 hP ht ha hK
    obtain ⟨K, rfl⟩ : ∃ z, K = z + 1 := ⟨K - 1, by omega⟩
    by_cases hx : x > 0
    rotate_left
    · obtain rfl : x = 0 := by omega
      refine ⟨K, by omega, ?_, ?_⟩
      · unfold cutN; rw [if_neg hx, Int.add_zero]; exact hP
      · simp only [spec_l25Split_e.l1]
        unfold cutN
        rw [if_neg hx, if_neg hx, Int.add_zero]
        show _ = spec_l25Split_e.l0 K m v (acc ++ []) T (wrap64 (i + 1)) _ 0
        rw [List.append_nil]
    have hL := Lj_bound g hP.jl
    have h2 := hP.c0
    have h3 := hP.c9
    have t0 := hP.t0
    obtain ⟨m1, m2, m3⟩ := @mn_le x (Lj S v j - c)
    have hP2 := Pos_nx g hP (n := mn x (Lj S v j - c)) (by omega) (by omega) (by omega)
    have hcut : cutN S v (f + 1) i lt x j c = ((⟨i, mn x (Lj S v j - c), if c = 0 then (j : Int) else -1, lt⟩ : S136) :: (cutN S v f i true (x - mn x (Lj S v j - c)) (nx S v j (c + mn x (Lj S v j - c))).1 (nx S v j (c + mn x (Lj S v j - c))).2).1, (cutN S v f i true (x - mn x (Lj S v j - c)) (nx S v j (c + mn x (Lj S v j - c))).1 (nx S v j (c + mn x (Lj S v j - c))).2).2) := by
      conv => lhs; unfold cutN
      rw [if_pos hx]
    obtain ⟨K', k1, k2, k3⟩ := ih (x - mn x (Lj S v j - c)) true _ _ (T + mn x (Lj S v j - c)) K (acc ++ [[i, mn x (Lj S v j - c)]]) i (by omega) (by omega) (by omega) hP2 (by omega) (by rw [List.length_append]; simp; omega) (by omega)
    rw [hcut]
    rw [show T + mn x (Lj S v j - c) + (x - mn x (Lj S v j - c)) = T + x by omega] at k2 k3
    refine ⟨K', by omega, k2, ?_⟩
    rw [List.append_assoc, List.singleton_append] at k3
    rw [List.map_cons]
    show _ = spec_l25Split_e.l0 K' m v (acc ++ [i, mn x (Lj S v j - c)] :: _) (T + x) (wrap64 (i + 1)) _ 0
    rw [← k3]
    simp only [spec_l25Split_e.l1]
    rw [if_pos hx, Left_eq s M g hP (by omega)]
    simp only [Option.bind_some]
    rw [min_eq]
    simp only [Option.bind_some]
    rw [if_pos (by omega), wrap_id (x := T + mn x (Lj S v j - c)) (by omega) (by omega), wrap_id (x := x - mn x (Lj S v j - c)) (by omega) (by omega)]
theorem Split_l0' {S : List Int} {v : Int} (g : TG S v) (s : ByteArray) (M : List Int) {m : List S67} (hm : m.length ≤ 48) (hn : ∀ y ∈ m, 1 ≤ y.f1 ∧ y.f1 ≤ 64) : ∀ (d K i : Nat) (acc : List (List Int)) (j : Nat) (c T : Int), i + d = m.length → Pos S v T j c → T ≤ 64 * i → acc.length ≤ 64 * i → 66 * d + 4000 ≤ K → spec_l25Split_e.l0 K m v acc T (i : Int) [(⟨s, S, M⟩ : S50)] 0 = some (acc ++ (segs S v (m.drop i) (i : Int) j c).map pr) := by
  intro d
  induction d with
  | zero =>
    intro K i acc j c T hi hP ht ha hK
    obtain ⟨K, rfl⟩ : ∃ z, K = z + 1 := ⟨K - 1, by omega⟩
    simp only [spec_l25Split_e.l0]
    rw [if_neg (by omega), List.drop_eq_nil_of_le (by omega)]
    show some acc = some (acc ++ [])
    rw [List.append_nil]
  | succ d ih =>
    intro K i acc j c T hi hP ht ha hK
    obtain ⟨K, rfl⟩ : ∃ z, K = z + 1 := ⟨K - 1, by omega⟩
    have hlt : i < m.length := by omega
    have hx := hn m[i] (List.getElem_mem hlt)
    have hl := cutN_length S v 64 (i : Int) false m[i].f1 j c
    simp only [spec_l25Split_e.l0]
    rw [if_pos (lt_cast hlt), if_pos (nn_cast i), rdN_get hlt]
    obtain ⟨K', k1, k2, k3⟩ := Split_l1 g s M m 64 m[i].f1 false j c T K acc (i : Int) (by omega) (by omega) (by omega) hP (by omega) (by omega) (by omega)
    rw [k3, wrap_succ hlt (by omega), ih K' (i + 1) _ _ _ _ (by omega) k2 (by omega) (by rw [List.length_append, List.length_map]; omega) (by omega), List.drop_eq_getElem_cons hlt, List.append_assoc, ← List.map_append]
    rfl
theorem Pos_zero {S : List Int} {v : Int} (g : TG S v) : Pos S v 0 0 0 := by
  have n1 := g.n1
  have hL := Lj_bound g (j := 0) (by omega)
  refine ⟨by omega, by omega, by omega, by omega, by omega, ?_⟩
  have : ps S 0 = 0 := by cases S <;> rfl
  rw [this, Int.zero_emod]; omega
theorem mel_len {m : List S67} (hm : melB m = true) : ∀ y ∈ m, 1 ≤ y.f1 ∧ y.f1 ≤ 64 := fun y hy => by
  unfold melB at hm
  rw [Bool.and_eq_true] at hm
  have := List.all_eq_true.1 hm.1 y hy
  unfold noteB at this
  rw [Bool.and_eq_true, Bool.and_eq_true, Bool.and_eq_true, decide_eq_true_iff, decide_eq_true_iff, decide_eq_true_iff, decide_eq_true_iff] at this
  exact this.2
theorem Split_spec {S : List Int} {v : Int} (g : TG S v) (s : ByteArray) (M : List Int) {m : List S67} (hm : melB m = true) {K : Nat} (hK : 8000 ≤ K) : spec_l25Split_e.f K m [(⟨s, S, M⟩ : S50)] 0 v = some ((segs S v m 0 0 0).map pr) := by
  have hl := (melB_ok hm).1
  have := Split_l0' g s M hl (mel_len hm) m.length K 0 [] 0 0 0 (by omega) (Pos_zero g) (by omega) (by simp) (by omega)
  rw [List.drop_zero, List.nil_append] at this
  exact this
theorem code_ok {m : List S67} {s : ByteArray} {S M : List Int} {v : Int} (h : codeB m s S M v = 0) : melB m = true ∧ TG S v := by
  unfold codeB at h
  cases hm : melB m
  · rw [hm, Bool.false_and, if_neg (by decide)] at h; exact absurd h (by decide)
  cases ht : talaB s S M
  · rw [hm, ht, Bool.and_false, if_neg (by decide)] at h; exact absurd h (by decide)
  cases hv : wB 1 8 v
  · rw [hm, ht, hv] at h; exact absurd h (by decide)
  exact ⟨rfl, TG_of ht hv⟩

def ntP (m : List S67) (p : S136) : ByteArray := baL (noteW ⟨(rd_T67 m p.f0).f0, p.f1⟩)
def wdP (m : List S67) (p : S136) : ByteArray := if p.f3 = true then (⟨#[126]⟩ : ByteArray) ++ ntP m p else ntP m p
def barP (b : Bool) (p : S136) : List ByteArray := if b = true then [] else if p.f2 < 0 then [] else if p.f2 = 0 then [(⟨#[124, 124]⟩ : ByteArray)] else [(⟨#[124]⟩ : ByteArray)]
def wds (m : List S67) : Bool → List S136 → List ByteArray
  | _, [] => []
  | b, p :: r => barP b p ++ wdP m p :: wds m false r
def okP (m : List S67) (p : S136) : Prop := (0 ≤ p.f0 ∧ p.f0 < (m.length : Int)) ∧ 1 ≤ p.f1 ∧ p.f1 ≤ 64
theorem noteText_eq {p n : Int} (h : noteB ⟨p, n⟩ = true) : impl_noteText.f p n = some (baL (noteW ⟨p, n⟩)) := by
  obtain ⟨⟨a1, a2⟩, b1, b2⟩ := noteB_iff.1 h
  dsimp only at a1 a2 b1 b2
  have hsz := pt_size key10 a1 a2
  have hd := Decimal_size (n := n) (by omega) (by omega)
  unfold impl_noteText.f
  rw [pitchText_eq a1 a2]
  simp only [Option.bind_some]
  by_cases h1 : n = 1
  · rw [if_pos h1]
    congr 1
    refine ba_mk ?_
    rw [pt1_data, baL_data]
    unfold noteW
    rw [if_pos h1, List.append_nil]
  · rw [if_neg h1, Decimal_eq (by omega) (by omega)]
    simp only [Option.bind_some]
    rw [if_pos (by omega)]
    congr 1
    refine ba_mk ?_
    rw [ba_app, pt1_data, dec_list, baL_data]
    unfold noteW
    rw [if_neg h1]
theorem noteW_size {p n : Int} (h : noteB ⟨p, n⟩ = true) : (baL (noteW ⟨p, n⟩)).size ≤ 51 := by
  obtain ⟨⟨a1, a2⟩, b1, b2⟩ := noteB_iff.1 h
  dsimp only at a1 a2 b1 b2
  have hsz := pt_size key10 a1 a2
  have hd := Decimal_size (n := n) (by omega) (by omega)
  rw [Lib.size_eq, pt1_data] at hsz
  rw [Lib.size_eq, dec_list] at hd
  rw [baL_size]
  unfold noteW
  rw [List.length_append]
  split
  · simp; omega
  · dsimp only; omega
theorem rd_in {m : List S67} {i : Int} (h0 : 0 ≤ i) (h1 : i < (m.length : Int)) : rd_T67 m i ∈ m := by
  obtain ⟨n, rfl⟩ : ∃ n : Nat, i = (n : Int) := ⟨i.toNat, by omega⟩
  rw [rdN_get (by omega)]; exact List.getElem_mem _
theorem piece_note {m : List S67} (hm : melB m = true) {p : S136} (h : okP m p) : noteB ⟨(rd_T67 m p.f0).f0, p.f1⟩ = true := by
  obtain ⟨⟨h0, h1⟩, h2, h3⟩ := h
  unfold melB at hm
  rw [Bool.and_eq_true] at hm
  have := List.all_eq_true.1 hm.1 _ (rd_in h0 h1)
  exact noteB_iff.2 ⟨(noteB_iff.1 this).1, h2, h3⟩
theorem ntP_size {m : List S67} (hm : melB m = true) {p : S136} (h : okP m p) : (ntP m p).size ≤ 51 := noteW_size (piece_note hm h)
theorem wdP_size {m : List S67} (hm : melB m = true) {p : S136} (h : okP m p) : (wdP m p).size ≤ 52 := by
  have := ntP_size hm h
  have e : (⟨#[126]⟩ : ByteArray).size = 1 := rfl
  unfold wdP
  split
  · rw [ByteArray.size_append]; omega
  · omega
theorem Join_eq2 {l : List ByteArray} (hl : l.length ≤ 100000) (h : ∀ x ∈ l, x.size ≤ 99) : strings_Join.f l (⟨#[32]⟩ : ByteArray) = some (joinT l) := by
  have hz := joinT_size h
  unfold strings_Join.f
  rw [join_T, if_pos ⟨by omega, by omega⟩]
theorem rdP_get {l : List S136} {i : Nat} (h : i < l.length) : rd_T136 l (i : Int) = l[i] := by
  simp [rd_T136, List.getD_eq_getElem?_getD, List.getElem?_eq_getElem h]
theorem barP_size {b : Bool} {p : S136} : ∀ x ∈ barP b p, x.size ≤ 99 := by
  unfold barP
  intro x hx
  split at hx
  · cases hx
  · split at hx
    · cases hx
    · split at hx
      · rw [List.mem_singleton] at hx; rw [hx]; decide
      · rw [List.mem_singleton] at hx; rw [hx]; decide
theorem notate_l0 {m : List S67} (hm : melB m = true) (q : List S136) {l : List S136} (hl : l.length ≤ 10000) (ho : ∀ p ∈ l, okP m p) : ∀ (d K i : Nat) (acc : List ByteArray), i + d = l.length → acc.length ≤ 2 * i → (∀ x ∈ acc, x.size ≤ 99) → 2 * d + 1 ≤ K → impl_notate.l0 K m q acc l (l.length : Int) (i : Int) = some (joinT (acc ++ wds m (decide (i = 0)) (l.drop i)), decide ((q.length : Int) ≤ 128)) := by
  intro d
  induction d with
  | zero =>
    intro K i acc hi ha hs hK
    obtain ⟨K, rfl⟩ : ∃ z, K = z + 1 := ⟨K - 1, by omega⟩
    simp only [impl_notate.l0]
    rw [if_neg (by omega), List.drop_eq_nil_of_le (by omega), Join_eq2 (by omega) hs]
    simp only [Option.bind_some]
    show _ = some (joinT (acc ++ []), _)
    rw [List.append_nil]
  | succ d ih =>
    intro K i acc hi ha hs hK
    obtain ⟨K, rfl⟩ : ∃ z, K = z + 2 := ⟨K - 2, by omega⟩
    have hlt : i < l.length := by omega
    have hp := ho l[i] (List.getElem_mem hlt)
    have hw := wdP_size hm hp
    have hnt := ntP_size hm hp
    have htx : impl_noteText.f (rd_T67 m l[i].f0).f0 l[i].f1 = some (ntP m l[i]) := noteText_eq (piece_note hm hp)
    have e126 : (⟨#[126]⟩ : ByteArray).size = 1 := rfl
    -- the round's end
    have fin : ∀ (B : List ByteArray), (∀ x ∈ B, x.size ≤ 99) → B.length ≤ 1 → B = barP (decide (i = 0)) l[i] → impl_notate.l0 K m q ((acc ++ B) ++ [wdP m l[i]]) l (l.length : Int) (wrap64 ((i : Int) + 1)) = some (joinT (acc ++ wds m (decide (i = 0)) (l.drop i)), decide ((q.length : Int) ≤ 128)) := fun B h1 h2 h3 => by
      rw [wrap_succ hlt (by omega), ih K (i + 1) _ (by omega) (by rw [List.length_append, List.length_append]; simp; omega) (fun x hx => by
        rcases List.mem_append.1 hx with hx | hx
        · rcases List.mem_append.1 hx with hx | hx
          · exact hs x hx
          · exact h1 x hx
        · rw [List.mem_singleton] at hx; rw [hx]; omega) (by omega), List.drop_eq_getElem_cons hlt]
      congr 3
      rw [decide_eq_false (by omega : ¬ i + 1 = 0), List.append_assoc, List.append_assoc, h3]
      rfl
    have hj : impl_notate.j1 (K + 1) m q acc l (l.length : Int) (i : Int) (decide (i = 0) || decide (l[i].f2 < 0)) l[i].f0 l[i].f1 l[i].f2 l[i].f3 = some (joinT (acc ++ wds m (decide (i = 0)) (l.drop i)), decide ((q.length : Int) ≤ 128)) := by
      simp only [impl_notate.j1]
      by_cases hc : (decide (i = 0) || decide (l[i].f2 < 0)) = true
      · have hB : barP (decide (i = 0)) l[i] = [] := by
          unfold barP
          by_cases h0 : i = 0
          · rw [if_pos (decide_eq_true h0)]
          · rw [decide_eq_false h0, Bool.false_or, decide_eq_true_iff] at hc
            rw [if_neg (by rw [decide_eq_false h0]; decide), if_pos hc]
        have f := fin [] (by simp) (by simp) hB.symm
        rw [List.append_nil] at f
        rw [if_pos hc, if_pos hp.1.1, if_pos hp.1.2, htx]
        simp only [Option.bind_some]
        rw [← f]
        unfold wdP
        by_cases h3 : l[i].f3 = true
        · rw [if_pos h3, if_pos h3, if_pos (by omega), if_pos (by omega)]
        · rw [if_neg h3, if_neg h3, if_pos (by omega)]
      · rw [if_neg hc]
        rw [Bool.or_eq_true, decide_eq_true_iff, decide_eq_true_iff] at hc
        have h0 : ¬ i = 0 := fun e => hc (Or.inl e)
        have h2 : ¬ l[i].f2 < 0 := fun e => hc (Or.inr e)
        by_cases hz : l[i].f2 = 0
        · have hB : barP (decide (i = 0)) l[i] = [(⟨#[124, 124]⟩ : ByteArray)] := by
            unfold barP
            rw [if_neg (by rw [decide_eq_false h0]; decide), if_neg h2, if_pos hz]
          have f := fin [(⟨#[124, 124]⟩ : ByteArray)] (by rw [← hB]; exact barP_size) (by simp) hB.symm
          rw [if_pos hz, if_pos (by omega)]
          simp only [Option.bind_some]
          rw [if_pos hp.1.1, if_pos hp.1.2, htx]
          simp only [Option.bind_some]
          have hal : (acc ++ [(⟨#[124, 124]⟩ : ByteArray)]).length < 8796093022208 := by rw [List.length_append]; simp; omega
          rw [← f]
          unfold wdP
          by_cases h3 : l[i].f3 = true
          · rw [if_pos h3, if_pos h3, if_pos (by omega), if_pos hal]
          · rw [if_neg h3, if_neg h3, if_pos hal]
        · have hB : barP (decide (i = 0)) l[i] = [(⟨#[124]⟩ : ByteArray)] := by
            unfold barP
            rw [if_neg (by rw [decide_eq_false h0]; decide), if_neg h2, if_neg hz]
          have f := fin [(⟨#[124]⟩ : ByteArray)] (by rw [← hB]; exact barP_size) (by simp) hB.symm
          rw [if_neg hz, if_pos (by omega)]
          simp only [Option.bind_some]
          rw [if_pos hp.1.1, if_pos hp.1.2, htx]
          simp only [Option.bind_some]
          have hal : (acc ++ [(⟨#[124]⟩ : ByteArray)]).length < 8796093022208 := by rw [List.length_append]; simp; omega
          rw [← f]
          unfold wdP
          by_cases h3 : l[i].f3 = true
          · rw [if_pos h3, if_pos h3, if_pos (by omega), if_pos hal]
          · rw [if_neg h3, if_neg h3, if_pos hal]
    simp only [impl_notate.l0]
    rw [if_pos (lt_cast hlt), if_pos (nn_cast i), if_pos (lt_cast hlt), rdP_get hlt, ← hj]
    by_cases h0 : i = 0
    · rw [if_pos (by omega), decide_eq_true h0, Bool.true_or]
    · rw [if_neg (by omega), decide_eq_false h0, Bool.false_or]
/-- What the pieces of a melody know of time, of sections and of the notes before them. -/
def GoodL (S : List Int) (v : Int) (n : Nat) : Int → Int → List S136 → Prop
  | _, _, [] => True
  | T, prev, p :: r => (∃ j c, Pos S v T j c ∧ p.f2 = (if c = 0 then (j : Int) else -1)) ∧ p.f3 = decide (prev = p.f0) ∧ ((0 ≤ p.f0 ∧ p.f0 < (n : Int)) ∧ 1 ≤ p.f1 ∧ p.f1 ≤ 64) ∧ GoodL S v n (T + p.f1) p.f0 r
theorem cut_pos {S : List Int} {v : Int} (g : TG S v) : ∀ (f : Nat) (x : Int) (lt : Bool) (j : Nat) (c T : Int) (i : Int), 0 ≤ x → x ≤ f → Pos S v T j c → T + x ≤ 1000000 → Pos S v (T + x) (cutN S v f i lt x j c).2.1 (cutN S v f i lt x j c).2.2 := by
  intro f
  induction f with
  | zero =>
    intro x lt j c T i x0 x1 hP ht
    obtain rfl : x = 0 := by omega
    rw [Int.add_zero]; exact hP
  | succ f ih =>
    intro x lt j c T i x0 x1 hP ht
    unfold cutN
    by_cases hx : x > 0
    · rw [if_pos hx]
      have hL := Lj_bound g hP.jl
      have h2 := hP.c0
      have h3 := hP.c9
      obtain ⟨m1, m2, m3⟩ := @mn_le x (Lj S v j - c)
      have := ih (x - mn x (Lj S v j - c)) true _ _ (T + mn x (Lj S v j - c)) i (by omega) (by omega) (Pos_nx g hP (n := mn x (Lj S v j - c)) (by omega) (by omega) (by omega)) (by omega)
      rw [show T + mn x (Lj S v j - c) + (x - mn x (Lj S v j - c)) = T + x by omega] at this
      exact this
    · obtain rfl : x = 0 := by omega
      rw [if_neg hx, Int.add_zero]; exact hP
theorem good_cut {S : List Int} {v : Int} (g : TG S v) (n : Nat) (i : Int) (i0 : 0 ≤ i) (i1 : i < (n : Int)) (tail : List S136) : ∀ (f : Nat) (x : Int) (lt : Bool) (j : Nat) (c T prev : Int), 0 ≤ x → x ≤ f → x ≤ 64 → Pos S v T j c → T + x ≤ 1000000 → lt = decide (prev = i) → GoodL S v n (T + x) (if x > 0 then i else prev) tail → GoodL S v n T prev ((cutN S v f i lt x j c).1 ++ tail) := by
  intro f
  induction f with
  | zero =>
    intro x lt j c T prev x0 x1 x2 hP ht hl hg
    obtain rfl : x = 0 := by omega
    rw [Int.add_zero, if_neg (by omega)] at hg
    exact hg
  | succ f ih =>
    intro x lt j c T prev x0 x1 x2 hP ht hl hg
    unfold cutN
    by_cases hx : x > 0
    · rw [if_pos hx] at hg ⊢
      have hL := Lj_bound g hP.jl
      have h2 := hP.c0
      have h3 := hP.c9
      obtain ⟨m1, m2, m3⟩ := @mn_le x (Lj S v j - c)
      refine ⟨⟨j, c, hP, rfl⟩, hl, ⟨⟨i0, i1⟩, by show 1 ≤ mn x (Lj S v j - c); omega, by show mn x (Lj S v j - c) ≤ 64; omega⟩, ?_⟩
      refine ih (x - mn x (Lj S v j - c)) true _ _ (T + mn x (Lj S v j - c)) i (by omega) (by omega) (by omega) (Pos_nx g hP (n := mn x (Lj S v j - c)) (by omega) (by omega) (by omega)) (by omega) (by simp) ?_
      rw [show T + mn x (Lj S v j - c) + (x - mn x (Lj S v j - c)) = T + x by omega, ite_self]
      exact hg
    · obtain rfl : x = 0 := by omega
      rw [if_neg hx, Int.add_zero] at hg
      rw [if_neg hx]
      exact hg
theorem good_segs {S : List Int} {v : Int} (g : TG S v) (n : Nat) : ∀ (m : List S67) (i : Int) (j : Nat) (c T prev : Int), Pos S v T j c → T + 64 * m.length ≤ 1000000 → prev < i → 0 ≤ i → i + m.length ≤ (n : Int) → (∀ y ∈ m, 1 ≤ y.f1 ∧ y.f1 ≤ 64) → GoodL S v n T prev (segs S v m i j c)
  | [], _, _, _, _, _, _, _, _, _, _, _ => trivial
  | x :: r, i, j, c, T, prev, hP, ht, hp, i0, i1, hy => by
    have hx := hy x List.mem_cons_self
    rw [List.length_cons] at ht i1
    have hP2 := cut_pos g 64 x.f1 false j c T i (by omega) (by omega) hP (by omega)
    have ih := good_segs g n r (i + 1) _ _ (T + x.f1) i hP2 (by omega) (by omega) (by omega) (by omega) (fun y h => hy y (List.mem_cons_of_mem _ h))
    show GoodL S v n T prev ((cutN S v 64 i false x.f1 j c).1 ++ _)
    refine good_cut g n i i0 (by omega) _ 64 x.f1 false j c T prev (by omega) (by omega) (by omega) hP (by omega) (by rw [decide_eq_false (by omega)]) ?_
    rw [if_pos (by omega)]
    exact ih
theorem good_ok {S : List Int} {v : Int} {n : Nat} : ∀ {l : List S136} {T prev : Int}, GoodL S v n T prev l → ∀ p ∈ l, (0 ≤ p.f0 ∧ p.f0 < (n : Int)) ∧ 1 ≤ p.f1 ∧ p.f1 ≤ 64
  | [], _, _, _, p, hp => by cases hp
  | q :: r, T, prev, h, p, hp => by
    rcases List.mem_cons.1 hp with rfl | hp
    · exact h.2.2.1
    · exact good_ok h.2.2.2 p hp
theorem l09Name_eq {p : Int} (h0 : -12 ≤ p) (h1 : p ≤ 23) : spec_l09Name.f p = some (pt 1 0 p) := by
  have n1 := nameT_size (t := p % 12) (by omega) (by omega)
  have hw : wrap64 (p % 12 + 1) = p % 12 + 1 := wrap_id (by omega) (by omega)
  unfold spec_l09Name.f spec_l03Names.f pt
  rw [l03Tone_eq (by omega) (by omega), l03Floor_eq (by omega) (by omega)]
  simp only [Option.bind_some]
  have hsz : (⟨#[83, 114, 82, 103, 71, 109, 77, 80, 100, 68, 110, 78]⟩ : ByteArray).size = 12 := rfl
  rw [if_pos (by omega), if_pos (by omega), hsz, if_pos (by omega)]
  change (if p / 12 = -1 then (if (nameT (p % 12)).size + 1 ≤ 9223372036854775807 then some (nameT (p % 12) ++ (⟨#[44]⟩ : ByteArray)) else none) else if p / 12 = 1 then (if (nameT (p % 12)).size + 1 ≤ 9223372036854775807 then some (nameT (p % 12) ++ (⟨#[39]⟩ : ByteArray)) else none) else some (nameT (p % 12))) = _
  rw [if_pos trivial]
  by_cases o1 : p / 12 = -1
  · rw [if_pos o1, if_pos (by omega), if_pos (by omega)]
  rw [if_neg o1]
  by_cases o2 : p / 12 = 1
  · rw [if_pos o2, if_pos (by omega), if_neg (by omega), if_pos (by omega)]
  · rw [if_neg o2, if_neg (by omega), if_neg (by omega)]
theorem l09Text_one {p n : Int} (h : noteB ⟨p, n⟩ = true) {K : Nat} (hK : 3000 ≤ K) : spec_l09Text.f K [(⟨p, n⟩ : S67)] = some (baL (noteW ⟨p, n⟩)) := by
  obtain ⟨⟨a1, a2⟩, b1, b2⟩ := noteB_iff.1 h
  dsimp only at a1 a2 b1 b2
  have hsz := pt_size key10 a1 a2
  have hd := Decimal_size (n := n) (by omega) (by omega)
  have e0 : (⟨#[]⟩ : ByteArray).size = 0 := rfl
  obtain ⟨K, rfl⟩ : ∃ z, K = z + 3 := ⟨K - 3, by omega⟩
  have fin : ∀ y : ByteArray, y.data.toList = noteW ⟨p, n⟩ → spec_l09Text.l0 (K + 1) [(⟨p, n⟩ : S67)] y (wrap64 (0 + 1)) = some (baL (noteW ⟨p, n⟩)) := fun y hy => by
    have e1 : wrap64 (0 + 1) = 1 := by rw [wrap_id (by omega) (by omega)]; rfl
    simp only [spec_l09Text.l0]
    rw [e1, if_neg (by simp), ← hy, data_baL]
  unfold spec_l09Text.f
  rw [if_neg (by simp)]
  simp only [spec_l09Text.l0, spec_l09Text.j1]
  rw [if_pos (by simp), if_neg (by decide), if_pos (by decide), if_pos (by simp), show rd_T67 [(⟨p, n⟩ : S67)] 0 = ⟨p, n⟩ from rfl]
  dsimp only
  rw [l09Name_eq a1 a2]
  simp only [Option.bind_some]
  rw [if_pos (by omega), bnil]
  by_cases h1 : n = 1
  · rw [if_pos h1]
    refine fin _ ?_
    rw [pt1_data]
    unfold noteW
    rw [if_pos h1, List.append_nil]
  · rw [if_neg h1, l01Dec_eq (by omega) (by omega) (by omega)]
    simp only [Option.bind_some]
    rw [if_pos (by omega)]
    refine fin _ ?_
    rw [ba_app, pt1_data, dec_list]
    unfold noteW
    rw [if_neg h1]
theorem rdI_map {l : List S136} {i : Nat} (h : i < l.length) : rd_L9 (l.map pr) (i : Int) = pr l[i] := by
  simp [rd_L9, List.getD_eq_getElem?_getD, List.getElem?_eq_getElem h]
theorem rd_pr0 (p : S136) : rd (pr p) 0 = p.f0 := rd_get (l := pr p) (i := 0) (by simp [pr])
theorem rd_pr1 (p : S136) : rd (pr p) 1 = p.f1 := rd_get (l := pr p) (i := 1) (by simp [pr])
theorem catS_app (acc : ByteArray) (a b : List ByteArray) : catS acc (a ++ b) = catS (catS acc a) b := by unfold catS; rw [List.foldl_append]
theorem Text_l0 {S : List Int} {v : Int} (g : TG S v) (s : ByteArray) (M : List Int) {m : List S67} (hm : melB m = true) {l : List S136} (hl : l.length ≤ 1000) : ∀ (d K i : Nat) (acc : ByteArray) (T prev : Int), i + d = l.length → 1 ≤ i → (∀ h : i - 1 < l.length, prev = (l[i - 1]'h).f0) → GoodL S v m.length T prev (l.drop i) → acc.size ≤ 1000 * i → T ≤ 64 * i → 3 * d + 5000 ≤ K → spec_l25Text_e.l0 K m v (l.map pr) acc T (i : Int) [(⟨s, S, M⟩ : S50)] 0 = some (catS acc (wds m false (l.drop i))) := by
  intro d
  induction d with
  | zero =>
    intro K i acc T prev hi h1 hp hg ha ht hK
    obtain ⟨K, rfl⟩ : ∃ z, K = z + 1 := ⟨K - 1, by omega⟩
    simp only [spec_l25Text_e.l0]
    rw [if_neg (by rw [List.length_map]; omega), List.drop_eq_nil_of_le (by omega)]; rfl
  | succ d ih =>
    intro K i acc T prev hi h1 hp hg ha ht hK
    obtain ⟨K, rfl⟩ : ∃ z, K = z + 3 := ⟨K - 3, by omega⟩
    have hlt : i < l.length := by omega
    have hml : (i : Int) < ((l.map pr).length : Int) := by rw [List.length_map]; omega
    have hp1 := hp (by omega)
    rw [List.drop_eq_getElem_cons hlt] at hg
    obtain ⟨⟨j, c, hP, hf2⟩, hf3, hok, hg2⟩ := hg
    have hpn := piece_note hm hok
    have hnt := ntP_size hm hok
    have hwd := wdP_size hm hok
    have e1 : (⟨#[32]⟩ : ByteArray).size = 1 := rfl
    have e2 : (⟨#[124, 32]⟩ : ByteArray).size = 2 := rfl
    have e3 : (⟨#[124, 124, 32]⟩ : ByteArray).size = 3 := rfl
    have e4 : (⟨#[126]⟩ : ByteArray).size = 1 := rfl
    have hw1 : wrap64 ((i : Int) - 1) = ((i - 1 : Nat) : Int) := by rw [wrap_id (by omega) (by omega)]; omega
    have hi1 : i - 1 < l.length := by omega
    have hL := Lj_bound g hP.jl
    have htot := tot_pos g
    have hT0 := hP.t0
    have hT9 := hP.t9
    -- behind the bar
    have fin : ∀ (B : ByteArray), B.size ≤ 1000 * i + 10 → B ++ wdP m l[i] = catS acc (barP false l[i] ++ [wdP m l[i]]) → spec_l25Text_e.j1 (K + 2) m v (l.map pr) B T (i : Int) [(⟨s, S, M⟩ : S50)] 0 = some (catS acc (wds m false (l.drop i))) := fun B hB hcat => by
      have fin2 : ∀ (C : ByteArray), C.size ≤ 1000 * i + 20 → C ++ ntP m l[i] = B ++ wdP m l[i] → spec_l25Text_e.j2 (K + 1) m v (l.map pr) C T (i : Int) [(⟨s, S, M⟩ : S50)] 0 = some (catS acc (wds m false (l.drop i))) := fun C hC hC2 => by
        simp only [spec_l25Text_e.j2]
        rw [if_pos (nn_cast i), if_pos hml, rdI_map hlt, rd_pr0, rd_pr1]
        rw [if_pos (by simp [pr]), if_pos hok.1.1, if_pos hok.1.2, if_pos (by simp [pr]), l09Text_one hpn (by omega)]
        simp only [Option.bind_some]
        change (if C.size + (ntP m l[i]).size ≤ 9223372036854775807 then spec_l25Text_e.l0 K m v (l.map pr) (C ++ ntP m l[i]) (wrap64 (T + l[i].f1)) (wrap64 ((i : Int) + 1)) _ 0 else none) = _
        have hf1 := hok.2
        rw [if_pos (by omega), hC2, hcat, wrap_id (x := T + l[i].f1) (by omega) (by omega), wrap_succ hlt (by omega)]
        rw [ih K (i + 1) _ (T + l[i].f1) l[i].f0 (by omega) (by omega) (fun h => by simp) hg2 (by rw [← hcat, ByteArray.size_append]; omega) (by omega) (by omega)]
        rw [← catS_app, List.append_assoc, List.drop_eq_getElem_cons hlt]
        rfl
      simp only [spec_l25Text_e.j1]
      rw [if_pos (by omega), hw1, if_pos (by omega), if_pos (by rw [List.length_map]; omega), rdI_map hi1, rdI_map hlt, if_pos (by simp [pr]), if_pos (nn_cast i), if_pos hml, if_pos (by simp [pr]), rd_pr0, rd_pr0, ← hp1]
      by_cases ht3 : prev = l[i].f0
      · rw [if_pos ht3, if_pos (by omega)]
        refine fin2 _ (by rw [ByteArray.size_append]; omega) ?_
        unfold wdP
        rw [hf3, if_pos (decide_eq_true ht3), ByteArray.append_assoc]
      · rw [if_neg ht3]
        refine fin2 B (by omega) ?_
        unfold wdP
        rw [hf3, if_neg (by rw [decide_eq_false ht3]; decide)]
    simp only [spec_l25Text_e.l0]
    rw [if_pos hml, if_pos (by omega), if_pos (by omega), Left_eq s M g hP (by omega), Whole_eq s M g hP (by omega)]
    simp only [Option.bind_some]
    by_cases hc : c = 0
    · rw [if_pos (by omega), units_eq s M g (by omega)]
      simp only [Option.bind_some]
      rw [if_neg (by omega), (place g hP).1]
      rw [if_pos hc] at hf2
      have hps := ps_le g.sec (i := 0) j (by have := hP.jl; omega)
      rw [Nat.zero_add, show ps S 0 = 0 by cases S <;> rfl] at hps
      have hv1 := g.v1
      by_cases hj : j = 0
      · have hz : ps S j * v + c = 0 := by rw [hj, hc, show ps S 0 = 0 by cases S <;> rfl]; omega
        rw [if_pos hz, if_pos (by rw [ByteArray.size_append]; omega)]
        refine fin _ (by rw [ByteArray.size_append, ByteArray.size_append]; omega) ?_
        unfold barP
        rw [if_neg (by decide), if_neg (by omega), if_pos (by omega)]
        refine ba_mk ?_
        show _ = (catS acc [(⟨#[124, 124]⟩ : ByteArray), wdP m l[i]]).data.toList
        rw [catS_data]
        simp [ba_app, Lib.joinTail]
      · have hpos : 0 < ps S j * v := Int.mul_pos (by omega) (by omega)
        rw [if_neg (by omega), if_pos (by rw [ByteArray.size_append]; omega)]
        refine fin _ (by rw [ByteArray.size_append, ByteArray.size_append]; omega) ?_
        unfold barP
        rw [if_neg (by decide), if_neg (by omega), if_neg (by omega)]
        refine ba_mk ?_
        show _ = (catS acc [(⟨#[124]⟩ : ByteArray), wdP m l[i]]).data.toList
        rw [catS_data]
        simp [ba_app, Lib.joinTail]
    · rw [if_neg (by omega)]
      rw [if_neg hc] at hf2
      refine fin _ (by rw [ByteArray.size_append]; omega) ?_
      unfold barP
      rw [if_neg (by decide), if_pos (by omega)]
      rfl
theorem segs_nil_iff {S : List Int} {v : Int} {m : List S67} (hy : ∀ y ∈ m, 1 ≤ y.f1 ∧ y.f1 ≤ 64) {i : Int} {j : Nat} {c : Int} : segs S v m i j c = [] ↔ m = [] := by
  cases m with
  | nil => exact ⟨fun _ => rfl, fun _ => rfl⟩
  | cons x r =>
    have hx := hy x List.mem_cons_self
    constructor
    · intro h
      unfold segs at h
      have := (List.append_eq_nil_iff.1 h).1
      unfold cutN at this
      rw [if_pos (by omega)] at this
      cases this
    · intro h; cases h
theorem segs_length {S : List Int} {v : Int} : ∀ (m : List S67) (i : Int) (j : Nat) (c : Int), (segs S v m i j c).length ≤ 64 * m.length
  | [], _, _, _ => Nat.le_refl _
  | x :: r, i, j, c => by
    unfold segs
    have h1 := cutN_length S v 64 i false x.f1 j c
    have h2 := segs_length (S := S) (v := v) r (i + 1) (cutN S v 64 i false x.f1 j c).2.1 (cutN S v 64 i false x.f1 j c).2.2
    rw [List.length_append, List.length_cons]; omega
def notT (S : List Int) (v : Int) (m : List S67) : ByteArray := if m = [] then (⟨#[45]⟩ : ByteArray) else joinT (wds m true (segs S v m 0 0 0))
theorem notate_eq {S : List Int} {v : Int} (g : TG S v) (s : ByteArray) (M : List Int) {m : List S67} (hm : melB m = true) {K : Nat} (hK : 20000 ≤ K) : impl_notate.f K m s S M v = some (notT S v m, decide (((segs S v m 0 0 0).length : Int) ≤ 128)) := by
  have h48 := (melB_ok hm).1
  have hy := mel_len hm
  have hz := segs_length (S := S) (v := v) m 0 0 0
  unfold impl_notate.f notT
  by_cases h0 : m = []
  · subst h0; rfl
  have hp := List.length_pos_iff.2 h0
  have hgd := good_segs g m.length m 0 0 0 0 (-1) (Pos_zero g) (by omega) (by omega) (by omega) (by omega) hy
  rw [if_neg (by omega), if_neg h0, split_eq g s M hm (by omega)]
  simp only [Option.bind_some]
  have := notate_l0 hm (segs S v m 0 0 0) (l := segs S v m 0 0 0) (by omega) (good_ok hgd) (segs S v m 0 0 0).length K 0 [] (by omega) (by simp) (by simp) (by omega)
  rw [List.drop_zero, List.nil_append, decide_eq_true rfl] at this
  exact this
theorem Text_eq {S : List Int} {v : Int} (g : TG S v) (s : ByteArray) (M : List Int) {m : List S67} (hm : melB m = true) (h128 : (segs S v m 0 0 0).length ≤ 128) {K : Nat} (hK : 20000 ≤ K) : spec_l25Text_e.f K m [(⟨s, S, M⟩ : S50)] 0 v = some (notT S v m) := by
  have h48 := (melB_ok hm).1
  have hy := mel_len hm
  unfold spec_l25Text_e.f notT
  rw [Split_spec g s M hm (by omega)]
  simp only [Option.bind_some, List.length_map]
  have hgd := good_segs g m.length m 0 0 0 0 (-1) (Pos_zero g) (by omega) (by omega) (by omega) (by omega) hy
  by_cases h0 : m = []
  · subst h0; rfl
  have hne : ¬ segs S v m 0 0 0 = [] := fun e => h0 ((segs_nil_iff hy).1 e)
  rw [if_neg h0]
  cases hs : segs S v m 0 0 0 with
  | nil => exact absurd hs hne
  | cons p r =>
    rw [hs] at hgd h128
    obtain ⟨⟨j, c, hP, hf2⟩, hf3, hok, hg2⟩ := hgd
    rw [List.length_cons] at h128
    have hpn := piece_note hm hok
    have hnt := ntP_size hm hok
    have e0 : (⟨#[]⟩ : ByteArray).size = 0 := rfl
    obtain ⟨K, rfl⟩ : ∃ z, K = z + 2 := ⟨K - 2, by omega⟩
    rw [if_neg (by rw [List.length_cons]; omega)]
    have hw : wrap64 (0 + 1) = ((1 : Nat) : Int) := by rw [wrap_id (by omega) (by omega)]; rfl
    have hg0 : rd_L9 ((p :: r).map pr) 0 = pr p := rdI_map (l := p :: r) (i := 0) (by simp)
    simp only [spec_l25Text_e.l0, spec_l25Text_e.j1]
    rw [if_pos (by simp), if_neg (by decide), if_neg (by decide), if_pos (by decide), if_pos (by simp), hg0, rd_pr0, rd_pr1, if_pos (by simp [pr]), if_pos hok.1.1, if_pos hok.1.2, if_pos (by simp [pr]), l09Text_one hpn (by omega)]
    simp only [Option.bind_some]
    change (if (⟨#[]⟩ : ByteArray).size + (ntP m p).size ≤ 9223372036854775807 then spec_l25Text_e.l0 K m v ((p :: r).map pr) ((⟨#[]⟩ : ByteArray) ++ ntP m p) (wrap64 (0 + p.f1)) (wrap64 (0 + 1)) _ 0 else none) = _
    have hf1 := hok.2
    rw [if_pos (by omega), bnil, Int.zero_add, wrap_id (x := p.f1) (by omega) (by omega), hw]
    rw [Int.zero_add] at hg2
    rw [Text_l0 g s M hm (l := p :: r) (by rw [List.length_cons]; omega) r.length K 1 (ntP m p) p.f1 p.f0 (by rw [List.length_cons]; omega) (by omega) (fun h => rfl) hg2 (by omega) (by omega) (by omega)]
    have hwd : wdP m p = ntP m p := by
      unfold wdP
      rw [hf3, if_neg (by rw [decide_eq_false (by omega)]; decide)]
    show some (catS (ntP m p) (wds m false r)) = some (joinT (wdP m p :: wds m false r))
    rw [hwd]; rfl

def endR (S : List Int) (v : Int) (a : ByteArray) (m : List S67) : List S67 × Int := if melB m = true then (if (segs S v m 0 0 0).length ≤ 128 then (if (notT S v m).toList = a.toList then (m, 0) else ([], 9)) else ([], 9)) else ([], 9)
def readBR (a s : ByteArray) (S M : List Int) (v : Int) : List S67 × Int := if codeB [] s S M v = 0 then (if (a.size : Int) > 2000 then ([], 5) else match wordsOf a.data.toList with | none => ([], 8) | some b => endR S v a (foldN b [])) else ([], codeB [] s S M v)
def WOK : Bool → List S95 → Prop
  | _, [] => True
  | lb, w :: r => if w.f0 = true then WOK lb r else (w.f1 = true → lb = false) ∧ WOK false r
theorem wrd_ok : ∀ (ws : List (List UInt8)) (lb : Bool) (lp : Int) (b : List S95), wrd ws lb lp = some b → WOK lb b
  | [], _, _, b, h => by rw [← Option.some.inj h]; trivial
  | t :: r, lb, lp, b, h => by
    unfold wrd at h
    split at h
    · obtain ⟨q, hq, rfl⟩ := Option.map_eq_some_iff.1 h
      show (if true = true then WOK lb q else _)
      rw [if_pos rfl]
      exact wrd_ok r _ _ q hq
    · split at h
      · cases h
      · split at h
        · cases h
        · next hc =>
          obtain ⟨q, hq, rfl⟩ := Option.map_eq_some_iff.1 h
          show (if false = true then _ else (tieB t = true → lb = false) ∧ WOK false q)
          rw [if_neg (by decide)]
          refine ⟨fun ht => ?_, wrd_ok r _ _ q hq⟩
          cases lb
          · rfl
          · exact absurd ⟨ht, Or.inl rfl⟩ hc
theorem foldN_length : ∀ (b : List S95) (o : List S67), (foldN b o).length ≤ o.length + b.length
  | [], o => Nat.le_refl _
  | w :: r, o => by
    unfold foldN
    rw [List.length_cons]
    split
    · have := foldN_length r o; omega
    · split
      · have := foldN_length r (addN o w.f2.f1); rw [addN_length] at this; omega
      · have := foldN_length r (o ++ [w.f2]); rw [List.length_append, List.length_singleton] at this; omega
theorem end_impl {S : List Int} {v : Int} (g : TG S v) (a s : ByteArray) (M : List Int) (m : List S67) {K : Nat} (hK : 20000 ≤ K) : ((impl_ValidMelody.f K m).bind fun t113 => (if t113 = true then ((impl_notate.f K m s S M v).bind fun bt114 => (if bt114.2 = true then (if bt114.1.toList = a.toList then (some (m, 0)) else (some (([] : List S67), 9))) else (some (([] : List S67), 9)))) else (some (([] : List S67), 9)))) = some (endR S v a m) := by
  rw [ValidMelody_eq (by omega)]
  simp only [Option.bind_some]
  unfold endR
  by_cases h : melB m = true
  rotate_left
  · rw [if_neg h, if_neg h]
  rw [if_pos h, if_pos h, notate_eq g s M h hK]
  simp only [Option.bind_some]
  by_cases h2 : (segs S v m 0 0 0).length ≤ 128
  · rw [if_pos (decide_eq_true (by omega)), if_pos h2]
    by_cases h3 : (notT S v m).toList = a.toList
    · rw [if_pos h3, if_pos h3]
    · rw [if_neg h3, if_neg h3]
  · rw [if_neg (by rw [decide_eq_false (by omega)]; decide), if_neg h2]
theorem ReadBars_l0 {S : List Int} {v : Int} (g : TG S v) (a s : ByteArray) (M : List Int) {b : List S95} (hb : b.length ≤ 10000) : ∀ (d K i : Nat) (o : List S67) (lb : Bool), i + d = b.length → o.length ≤ i → WOK lb (b.drop i) → (lb = false → ¬ o = []) → d + 20001 ≤ K → impl_ReadBars.l0 K a v o b (b.length : Int) (i : Int) s S M = some (endR S v a (foldN (b.drop i) o)) := by
  intro d
  induction d with
  | zero =>
    intro K i o lb hi ho hw hl hK
    obtain ⟨K, rfl⟩ : ∃ z, K = z + 1 := ⟨K - 1, by omega⟩
    simp only [impl_ReadBars.l0]
    rw [if_neg (by omega), List.drop_eq_nil_of_le (by omega)]
    exact end_impl g a s M o (by omega)
  | succ d ih =>
    intro K i o lb hi ho hw hl hK
    obtain ⟨K, rfl⟩ : ∃ z, K = z + 1 := ⟨K - 1, by omega⟩
    have hlt : i < b.length := by omega
    rw [List.drop_eq_getElem_cons hlt] at hw ⊢
    unfold WOK at hw
    unfold foldN
    simp only [impl_ReadBars.l0]
    rw [if_pos (lt_cast hlt), if_pos (nn_cast i), if_pos (lt_cast hlt), rdW_get hlt, wrap_succ hlt (by omega)]
    by_cases h0 : b[i].f0 = true
    · rw [if_pos h0] at hw
      rw [if_pos h0, if_pos h0]
      exact ih K (i + 1) o lb (by omega) (by omega) hw hl (by omega)
    rw [if_neg h0] at hw
    rw [if_neg h0, if_neg h0]
    obtain ⟨w1, w2⟩ := hw
    by_cases h1 : b[i].f1 = true
    · have hne := hl (w1 h1)
      have hp := List.length_pos_iff.2 hne
      have hli := last_ix (n := o.length) (by omega) (by omega)
      rw [if_pos h1, if_pos h1, if_pos (by rw [hli]; omega), if_pos (by rw [hli]; omega)]
      exact ih K (i + 1) (addN o b[i].f2.f1) false (by omega) (by rw [addN_length]; omega) w2 (fun _ e => by have := congrArg List.length e; rw [addN_length, List.length_nil] at this; omega) (by omega)
    · rw [if_neg h1, if_neg h1, if_pos (by omega)]
      exact ih K (i + 1) (o ++ [b[i].f2]) false (by omega) (by rw [List.length_append]; simp; omega) w2 (fun _ e => by simp at e) (by omega)
theorem words_ok {l : List UInt8} {b : List S95} (h : wordsOf l = some b) : WOK true b := by
  unfold wordsOf at h
  split at h
  · rw [← Option.some.inj h]; trivial
  · exact wrd_ok _ _ _ b h
theorem ReadBars_impl (a s : ByteArray) (S M : List Int) (v : Int) {K : Nat} (hK : 100000 ≤ K) : impl_ReadBars.f K a s S M v = some (readBR a s S M v) := by
  unfold impl_ReadBars.f impl_readWords.f readBR
  rw [notationCode_eq [] s S M v (by omega)]; simp only [Option.bind_some]
  by_cases hc : codeB [] s S M v = 0
  rotate_left
  · rw [if_neg hc, if_neg hc]; simp only [Option.bind_some]
    rw [if_neg hc]
  obtain ⟨_, g⟩ := code_ok hc
  rw [if_pos hc, if_pos hc]
  by_cases hz : (a.size : Int) > 2000
  · rw [if_pos hz, if_pos hz]; simp only [Option.bind_some]
    rw [if_neg (by decide)]
  rw [if_neg hz, if_neg hz, barWords_eq a (by omega) (by omega)]; simp only [Option.bind_some]
  cases hw : wordsOf a.data.toList with
  | none => rfl
  | some b =>
    have h1 := wordsOf_length hw
    have h2 := Lib.size_eq a
    show (Option.bind (if true = true then some (([] : List S95) ++ b, (0 : Int)) else _) _) = _
    rw [if_pos rfl]; simp only [Option.bind_some, List.nil_append]
    rw [if_pos trivial]
    exact ReadBars_l0 g a s M (by omega) b.length K 0 [] true (by omega) (by simp) (words_ok hw) (fun e => by cases e) (by omega)
theorem ReadBars_spec (a s : ByteArray) (S M : List Int) (v : Int) {K : Nat} (hK : 100000 ≤ K) : spec_ReadBars.f K a s S M v = some (readBR a s S M v) := by
  unfold spec_ReadBars.f spec_l25Tala_e.f spec_l25Read_e.f spec_l25Long.f readBR
  rw [l25Ask_eq (by simp) s S M v (by simp; omega)]; simp only [Option.bind_some]
  by_cases hc : codeB [] s S M v = 0
  rotate_left
  · rw [if_neg hc, if_neg hc]
  obtain ⟨_, g⟩ := code_ok hc
  rw [if_pos hc, if_pos hc]
  by_cases hz : (a.size : Int) > 2000
  · rw [if_pos hz, if_pos hz]; rfl
  rw [if_neg hz, if_neg hz]; simp only [Option.bind_some]
  rw [if_pos trivial, Tokens_eq a (by omega) (by omega)]; simp only [Option.bind_some]
  cases hw : wordsOf a.data.toList with
  | none => rfl
  | some b =>
    have h1 := wordsOf_length hw
    have h2 := Lib.size_eq a
    have h3 := foldN_length b []
    rw [List.length_nil] at h3
    show (Option.bind (if true = true then ((spec_l09Ok.f K (foldN b [])).bind _) else _) _) = _
    rw [if_pos rfl, l09Ok_eq (by omega) (by omega)]; simp only [Option.bind_some]
    unfold endR
    by_cases h : melB (foldN b []) = true
    rotate_left
    · rw [if_neg h, if_neg h]; rfl
    rw [if_pos h, if_pos h, Split_spec g s M h (by omega)]; simp only [Option.bind_some, List.length_map]
    by_cases h4 : (segs S v (foldN b []) 0 0 0).length ≤ 128
    · rw [if_neg (by omega), if_pos h4, Text_eq g s M h h4 (by omega)]; simp only [Option.bind_some]
      by_cases h5 : (notT S v (foldN b [])).toList = a.toList
      · rw [if_pos h5, if_pos h5]; rfl
      · rw [if_neg h5, if_neg h5]; rfl
    · rw [if_pos (by omega), if_neg h4]; rfl
theorem readBR_len (a s : ByteArray) (S M : List Int) (v : Int) : (readBR a s S M v).1.length ≤ 48 := by
  unfold readBR
  split
  · split
    · exact Nat.zero_le _
    · split
      · exact Nat.zero_le _
      · unfold endR
        split
        · next h =>
          split
          · split
            · exact (melB_ok h).1
            · exact Nat.zero_le _
          · exact Nat.zero_le _
        · exact Nat.zero_le _
  · exact Nat.zero_le _
end Go.Proofs.YtmoamoopoifnlaaGreatDoor.P

namespace Go.Proofs.YtmoamoopoifnlaaGreatDoor.Pure
open Go.RowKit Go.Proofs.YtmoamoopoifnlaaGreatDoorW.PrintWords Go.Proofs.YtmoamoopoifnlaaGreatDoorL Go.Proofs.YtmoamoopoifnlaaGreatDoor.P
theorem FnExactReadBars : ∀ (x0 : ByteArray) (x1 : P.S46) (x2 : Int), x0.size ≤ maxLen → g46 x1 → (Lit.int .i64 x2).wf = true → ∃ k : Nat, P.laws_FnExactReadBars.f k x0 (x1.f0) (x1.f1) (x1.f2) x2 = some true := by
  intro a x v _ hg _
  refine ⟨6000000, ?_⟩
  unfold laws_FnExactReadBars.f
  by_cases hz : (a.size : Int) > 1048576
  · rw [if_pos hz]
  rw [if_neg hz]
  obtain ⟨r, hr, h⟩ := szTala_some hg (a := 1048576) (by omega) (by omega)
  rw [hr]; simp only [Option.bind_some]
  by_cases h0 : r < 0
  · rw [if_pos h0]
  rw [if_neg h0]
  obtain ⟨_, _, hs⟩ := h.resolve_left h0
  have hT : ∀ K, 2000000 ≤ K → laws_toTala.f K x.f0 x.f1 x.f2 = some ((cTala x).f0, (cTala x).f1, (cTala x).f2) := fun K hK => toTala_eq hs (by omega)
  have hi := smi_cTala hs
  generalize cTala x = y at hT hi
  have hE : ∀ K, 2000000 ≤ K → laws_eqTala.f K y.f0 y.f1 y.f2 y.f0 y.f1 y.f2 = some true := fun K hK => by rw [eqTala_eq hi (by omega)]; simp
  have hM : ∀ K, 2000000 ≤ K → laws_markTala.f K y.f0 y.f1 y.f2 1 = some ((1 : Int) + (y.f1.length : Int) + (y.f2.length : Int), mkInt64S y.f1 1, mkInt64S y.f2 ((1 : Int) + (y.f1.length : Int))) := fun K hK => by
    unfold laws_markTala.f
    obtain ⟨i1, i2⟩ := hi
    rw [markInt64S_eq (by omega) (by omega) (by omega)]; simp only [Option.bind_some]
    rw [markInt64S_eq (by omega) (by omega) (by omega)]; simp only [Option.bind_some]
  have hS : ∀ K, 2000000 ≤ K → spec_ReadBars.f K a y.f0 y.f1 y.f2 v = some (readBR a y.f0 y.f1 y.f2 v) := fun K hK => ReadBars_spec _ _ _ _ _ (by omega)
  have hI : ∀ K, 2000000 ≤ K → impl_ReadBars.f K a y.f0 y.f1 y.f2 v = some (readBR a y.f0 y.f1 y.f2 v) := fun K hK => ReadBars_impl _ _ _ _ _ (by omega)
  have hl := readBR_len a y.f0 y.f1 y.f2 v
  generalize readBR a y.f0 y.f1 y.f2 v = q at hS hI hl
  obtain ⟨z, c⟩ := q
  dsimp only at hl
  have hN : ∀ K, 2000000 ≤ K → laws_eqNoteS.f K z z = some true := fun K hK => by rw [eqNoteS_eq (by omega) (fun _ _ => trivial) (by omega)]; simp
  rw [hT _ (by omega)]; simp only [Option.bind_some]
  rw [hS _ (by omega)]; simp only [Option.bind_some]
  rw [hI _ (by omega)]; simp only [Option.bind_some]
  rw [hN _ (by omega)]; simp only [Option.bind_some, if_true, bne_self_eq_false]
  show laws_FnExactReadBars.j0 (5999999 + 1) a v z c z c false x.f0 x.f1 x.f2 y.f0 y.f1 y.f2 = _
  simp only [laws_FnExactReadBars.j0, Bool.false_eq_true, if_false]
  rw [hT _ (by omega)]; simp only [Option.bind_some]
  rw [hE _ (by omega)]; simp only [Option.bind_some, if_true]
  rw [hM _ (by omega)]; simp only [Option.bind_some]
  rw [if_neg (by omega), hN _ (by omega)]; simp only [Option.bind_some, if_true, bne_self_eq_false]
  show laws_FnExactReadBars.j1 (5999998 + 1) a v z c z false x.f0 x.f1 x.f2 = _
  simp only [laws_FnExactReadBars.j1, Bool.false_eq_true, if_false]
  rw [markNoteS_eq (by omega) (by omega) (by omega)]; simp only [Option.bind_some]
  rw [heldNoteS_mk (by omega) (by omega) (by omega)]; simp only [Option.bind_some]
  rw [if_neg (by omega), if_pos trivial, hT _ (by omega)]; simp only [Option.bind_some]
  rw [hI _ (by omega)]; simp only [Option.bind_some]
  rw [hN _ (by omega)]; simp only [Option.bind_some, if_true, bne_self_eq_false]
  show laws_FnExactReadBars.j2 (5999997 + 1) _ _ false = _
  simp only [laws_FnExactReadBars.j2, Bool.false_eq_true, if_false]
  rw [heldNoteS_mk (by omega) (by omega) (by omega)]; simp only [Option.bind_some]
  rw [if_neg (by omega), if_pos trivial]
end Go.Proofs.YtmoamoopoifnlaaGreatDoor.Pure
