/- A turn as text: both write the same. -/
import Derived.Test.YtoneejhafmneiaaDoorF10
import Derived.Test.YtoneejhafmneiaaDoorF12
import Derived.Test.YtoneejhafmneiaaDoorDec
import Derived.Test.YtoneejhafmneiaaDoorNames
namespace Go.Proofs.YtoneejhafmneiaaDoor.P
open Go.RowKit Go.Proofs.YtoneejhafmneiaaDoorW.PrintWords Go.Proofs.YtoneejhafmneiaaDoorL
def turn3 (p : ByteArray) (s n : Int) : Bool := nameB p && ((decide (0 ≤ s) && decide (s ≤ 10000)) && (decide (1 ≤ n) && decide (n ≤ 10000)))
theorem turn3_bounds {p : ByteArray} {s n : Int} (h : turn3 p s n = true) : p.size ≤ 10 ∧ 0 ≤ s ∧ s ≤ 10000 ∧ 1 ≤ n ∧ n ≤ 10000 := by
  unfold turn3 nameB at h
  simp only [Bool.and_eq_true, decide_eq_true_iff] at h
  exact ⟨h.1.1.1.2, h.2.1.1, h.2.1.2, h.2.2.1, h.2.2.2⟩
theorem l23One_eq (p : ByteArray) (s n : Int) {k : Nat} (hk : 20 ≤ k) : spec_l23One.f k p s n = some (turn3 p s n, p, s, n) := by
  unfold spec_l23One.f turn3
  rw [l01Name_eq _ hk]; simp only [Option.bind_some, in_eq]
  cases nameB p with
  | false => rfl
  | true =>
    simp only [if_true, Bool.true_and]
    by_cases h : (decide (0 ≤ s) && decide (s ≤ 10000)) = true
    · rw [if_pos h, h]; simp
    · rw [if_neg h]; rw [Bool.not_eq_true] at h; rw [h]; rfl
theorem Turn_valid_eq (p : ByteArray) (s n : Int) {k : Nat} (hk : 20 ≤ k) : impl_Turn_valid.f k p s n = some (turn3 p s n) := by
  unfold impl_Turn_valid.f turn3
  rw [IsName_eq _ hk]; simp only [Option.bind_some, within_eq]
  cases nameB p with
  | false => rfl
  | true =>
    simp only [if_true, Bool.true_and]
    by_cases h : (decide (0 ≤ s) && decide (s ≤ 10000)) = true
    · rw [if_pos h, h]; simp
    · rw [if_neg h]; rw [Bool.not_eq_true] at h; rw [h]; rfl
def turnT (p : ByteArray) (s n : Int) : ByteArray := if turn3 p s n = true then spec_l23Text.t p (impl_Decimal.t s) (impl_Decimal.t n) else ⟨#[]⟩
theorem TurnText_spec (p : ByteArray) (s n : Int) {k : Nat} (hk : 2100 ≤ k) : spec_TurnText.f k p s n = some (turnT p s n) := by
  unfold spec_TurnText.f turnT
  rw [l23One_eq _ _ _ (by omega)]; simp only [Option.bind_some]
  by_cases h : turn3 p s n = true
  · obtain ⟨h0, h1, h2, h3, h4⟩ := turn3_bounds h
    have d1 := Decimal_size (n := s) (by omega) (by omega)
    have d2 := Decimal_size (n := n) (by omega) (by omega)
    rw [if_pos h, if_pos h]
    unfold spec_l23Text.f
    rw [l01Dec_eq (by omega) (by omega) (by omega)]; simp only [Option.bind_some]
    rw [l01Dec_eq (by omega) (by omega) (by omega)]; simp only [Option.bind_some]
    rw [if_pos (by omega)]; rfl
  · rw [if_neg h, if_neg h]
theorem TurnText_impl (p : ByteArray) (s n : Int) {k : Nat} (hk : 20 ≤ k) : impl_TurnText.f k p s n = some (turnT p s n) := by
  unfold impl_TurnText.f turnT
  rw [Turn_valid_eq _ _ _ hk]; simp only [Option.bind_some]
  by_cases h : turn3 p s n = true
  · obtain ⟨h0, h1, h2, h3, h4⟩ := turn3_bounds h
    have d1 := Decimal_size (n := s) (by omega) (by omega)
    have d2 := Decimal_size (n := n) (by omega) (by omega)
    have e1 : (⟨#[32]⟩ : ByteArray).size = 1 := rfl
    have e2 : (⟨#[43]⟩ : ByteArray).size = 1 := rfl
    rw [if_pos h, if_pos h, if_pos (by omega), Decimal_eq (by omega) (by omega)]; simp only [Option.bind_some]
    rw [if_pos (by simp only [ByteArray.size_append]; omega), if_pos (by simp only [ByteArray.size_append]; omega), Decimal_eq (by omega) (by omega)]; simp only [Option.bind_some]
    rw [if_pos (by simp only [ByteArray.size_append]; omega)]; rfl
  · rw [if_neg h, if_neg h]
end Go.Proofs.YtoneejhafmneiaaDoor.P
