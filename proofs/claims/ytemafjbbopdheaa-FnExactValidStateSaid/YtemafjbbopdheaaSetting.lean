/- Settings: what the laws' own functions on lists of settings answer (sizes, copies, equality). -/
import Derived.Test.YtemafjbbopdheaaF16
import Derived.Test.YtemafjbbopdheaaF18
import Derived.Test.YtemafjbbopdheaaF20
import Derived.Test.YtemafjbbopdheaaO
import Derived.Test.YtemafjbbopdheaaPL
namespace Go.Proofs.Ytemafjbbopdheaa.P
open Go.RowKit Go.Proofs.YtemafjbbopdheaaW.PrintWords Go.Proofs.YtemafjbbopdheaaL

def cSetting (x : S80) : S81 := ⟨x.f0, x.f1⟩

theorem rd_lSetting {l : List S80} {i : Nat} (h : i < l.length) : rd_T80 l (i : Int) = l[i] := by
  simp [rd_T80, List.getD_eq_getElem?_getD, List.getElem?_eq_getElem h]
theorem rd_iSetting {l : List S81} {i : Nat} (h : i < l.length) : rd_T81 l (i : Int) = l[i] := by
  simp [rd_T81, List.getD_eq_getElem?_getD, List.getElem?_eq_getElem h]
theorem ext_iSetting {a b : S81} : a = b ↔ a.f0.toList = b.f0.toList ∧ a.f1 = b.f1 := by
  rw [bytes_eq]; cases a; cases b; simp
instance : DecidableEq S81 := fun _ _ => decidable_of_iff _ ext_iSetting.symm

/-- The rest that a list of settings leaves: below zero where it is too long, else no more than there was, and the list is short. -/
theorem szSettingS_some {l : List S80} (hl : l.length ≤ maxLen) (hg : ∀ x ∈ l, Ytemafjbbopdheaa.g80 x) {a : Int} (ha0 : 0 ≤ a) (ha : a ≤ 1048576) {k : Nat} (hk : 1048580 ≤ k) :
    ∃ r, laws_szSettingS.f k l a = some r ∧ (r < 0 ∨ (0 ≤ r ∧ r + l.length ≤ a)) := by
  have hl' : l.length ≤ 9223372036854775807 := by simpa only [maxLen] using hl
  unfold laws_szSettingS.f
  rw [wrap_id (by omega) (by omega)]
  by_cases h0 : a - (l.length : Int) < 0
  · rw [if_pos h0]; exact ⟨-1, rfl, .inl (by omega)⟩
  · rw [if_neg h0]
    have main : ∀ (d k i : Nat) (s : Int), i + d = l.length → d < k → 0 ≤ s → s ≤ a - l.length → ∃ r, laws_szSettingS.l0 k l s (i : Int) = some r ∧ (r < 0 ∨ (0 ≤ r ∧ r ≤ s)) := by
      intro d
      induction d with
      | zero =>
        intro k i s hi hk h0 h1
        obtain ⟨k, rfl⟩ : ∃ m, k = m + 1 := ⟨k - 1, by omega⟩
        obtain rfl : i = l.length := by omega
        simp only [laws_szSettingS.l0]
        rw [if_neg (nlt_cast _)]
        exact ⟨s, rfl, .inr ⟨h0, by omega⟩⟩
      | succ d ih =>
        intro k i s hi hk h0 h1
        obtain ⟨k, rfl⟩ : ∃ m, k = m + 1 := ⟨k - 1, by omega⟩
        have hlt : i < l.length := by omega
        have hsz : l[i].f0.size ≤ 9223372036854775807 := by
          have := (hg l[i] (List.getElem_mem hlt)).1
          simpa only [maxLen] using this
        simp only [laws_szSettingS.l0]
        rw [if_pos (lt_cast hlt), if_pos (nn_cast i), rd_lSetting hlt, wrap_succ hlt (by omega)]
        unfold laws_szSetting.f
        rw [wrap_id (by omega) (by omega)]
        by_cases h2 : s - (l[i].f0.size : Int) < 0
        · rw [if_pos h2]
          exact ⟨-1, rfl, .inl (by omega)⟩
        · rw [if_neg h2]
          simp only [Option.bind_some]
          rw [if_neg h2]
          obtain ⟨r, hr, h3⟩ := ih k (i + 1) (s - l[i].f0.size) (by omega) (by omega) (by omega) (by omega)
          exact ⟨r, hr, by omega⟩
    obtain ⟨r, hr, h⟩ := main l.length k 0 (a - l.length) (by omega) (by omega) (by omega) (by omega)
    exact ⟨r, hr, by omega⟩

theorem toSettingS_eq {l : List S80} (hl : l.length ≤ 1048576) {k : Nat} (hk : 1048580 ≤ k) : laws_toSettingS.f k l = some (l.map cSetting) := by
  unfold laws_toSettingS.f
  rw [if_pos (nn_cast _), if_pos (by simp; omega)]
  refine set_loop (fun k acc i => laws_toSettingS.l0 k l acc i) l cSetting 0 (fun k i hi acc ha _ => ?_) (fun k acc => ?_) k _ (by omega) (by simp)
  · simp only [laws_toSettingS.l0, laws_toSetting.f, Option.bind_some]
    rw [if_pos (lt_cast hi), if_pos (nn_cast i), if_pos (by omega), rd_lSetting hi, wrap_succ hi (by omega)]
    rfl
  · simp only [laws_toSettingS.l0]
    rw [if_neg (nlt_cast _)]

theorem eqSettingS_eq {a b : List S81} (hl : a.length ≤ 1048576) {k : Nat} (hk : 1048580 ≤ k) : laws_eqSettingS.f k a b = some (decide (a = b)) := by
  unfold laws_eqSettingS.f
  by_cases h : a.length = b.length
  · rw [if_pos (by omega)]
    refine eq_loop (fun k i => laws_eqSettingS.l0 k a b i) a b h 0 (fun k i h1 h2 _ => ?_) (fun k => ?_) k (by omega)
    · simp only [laws_eqSettingS.l0, laws_eqSetting.f]
      rw [if_pos (lt_cast h1), if_pos (nn_cast i), if_pos (lt_cast h2), rd_iSetting h1, rd_iSetting h2, wrap_succ h1 (by omega)]
      by_cases e0 : a[i].f0.toList = b[i].f0.toList
      · by_cases e1 : a[i].f1 = b[i].f1
        · rw [if_pos e0, if_pos e1, if_pos (ext_iSetting.2 ⟨e0, e1⟩)]; rfl
        · rw [if_pos e0, if_neg e1, if_neg (fun e => e1 (ext_iSetting.1 e).2)]; rfl
      · rw [if_neg e0, if_neg (fun e => e0 (ext_iSetting.1 e).1)]; rfl
    · simp only [laws_eqSettingS.l0]
      rw [if_neg (nlt_cast _)]
  · rw [if_neg (by omega)]
    have : a ≠ b := fun e => h (by rw [e])
    simp [this]
end Go.Proofs.Ytemafjbbopdheaa.P
