/- A pitch as text in a script: the reference and the program write the same. -/
import Derived.Test.YtpfalhbeeodjaaaDoorF35
import Derived.Test.YtpfalhbeeodjaaaDoorF38
import Derived.Test.YtpfalhbeeodjaaaDoorF36
import Derived.Test.YtpfalhbeeodjaaaDoorF33
import Derived.Test.YtpfalhbeeodjaaaDoorDec
namespace Go.Proofs.YtpfalhbeeodjaaaDoor.P
open Go.RowKit Go.Proofs.YtpfalhbeeodjaaaDoorW.PrintWords Go.Proofs.YtpfalhbeeodjaaaDoorL
theorem in_eq (a b c : Int) : spec_l00In.f a b c = some (decide (b ≤ a) && decide (a ≤ c)) := by
  unfold spec_l00In.f
  by_cases h : a ≥ b
  · rw [if_pos h]; simp [ge_iff_le.1 h]
  · rw [if_neg h]
    have h' : ¬ b ≤ a := h
    simp [h']
theorem within_eq (a b c : Int) : impl_within.f a b c = some (decide (b ≤ a) && decide (a ≤ c)) := by
  unfold impl_within.f
  by_cases h : a ≥ b
  · rw [if_pos h]; simp [ge_iff_le.1 h]
  · rw [if_neg h]
    have h' : ¬ b ≤ a := h
    simp [h']
def keyB (s k : Int) : Bool := (decide (1 ≤ s) && decide (s ≤ 4)) && (decide (0 ≤ k) && decide (k ≤ 11))
theorem keyOk_eq (s k : Int) : impl_keyOk.f s k = some (keyB s k) := by
  unfold impl_keyOk.f keyB
  rw [within_eq]; simp only [Option.bind_some, within_eq]
  cases (decide (1 ≤ s) && decide (s ≤ 4)) <;> simp
theorem l26Script_eq (s k : Int) : spec_l26Script.f s k = some (keyB s k) := by
  unfold spec_l26Script.f keyB
  rw [in_eq]; simp only [Option.bind_some, in_eq]
  cases (decide (1 ≤ s) && decide (s ≤ 4)) <;> simp
theorem keyB_iff {s k : Int} : keyB s k = true ↔ (1 ≤ s ∧ s ≤ 4) ∧ 0 ≤ k ∧ k ≤ 11 := by
  unfold keyB
  rw [Bool.and_eq_true, Bool.and_eq_true, Bool.and_eq_true, decide_eq_true_iff, decide_eq_true_iff, decide_eq_true_iff, decide_eq_true_iff]
theorem tone_eq {q : Int} (h0 : -1000 ≤ q) (h1 : q ≤ 1000) : Int.tmod (wrap64 (Int.tmod q 12 + 12)) 12 = q % 12 := by
  rcases Int.le_total 0 q with h | h
  · have t2 : Int.tmod q 12 = q % 12 := Int.tmod_eq_emod_of_nonneg h
    rw [t2, wrap_id (by omega) (by omega), Int.tmod_eq_emod_of_nonneg (by omega)]; omega
  · obtain ⟨a, ha, rfl⟩ : ∃ a : Int, 0 ≤ a ∧ q = -a := ⟨-q, by omega, by omega⟩
    have t2 : Int.tmod (-a) 12 = -(a % 12) := by rw [Int.neg_tmod, Int.tmod_eq_emod_of_nonneg ha]
    rw [t2, wrap_id (by omega) (by omega), Int.tmod_eq_emod_of_nonneg (by omega)]; omega
theorem ToneOf_eq {q : Int} (h0 : -1000 ≤ q) (h1 : q ≤ 1000) : impl_ToneOf.f q = some (q % 12) := by unfold impl_ToneOf.f; rw [tone_eq h0 h1]
theorem l03Tone_eq {q : Int} (h0 : -1000 ≤ q) (h1 : q ≤ 1000) : spec_l03Tone.f q = some (q % 12) := by unfold spec_l03Tone.f; rw [tone_eq h0 h1]
theorem floor_eq {q : Int} (h0 : -1000 ≤ q) (h1 : q ≤ 1000) : wrap64 (Int.tdiv (wrap64 (q - q % 12)) 12) = q / 12 := by
  rw [wrap_id (x := q - q % 12) (by omega) (by omega), show q - q % 12 = 12 * (q / 12) by omega, Int.mul_tdiv_cancel_left _ (by decide), wrap_id (by omega) (by omega)]
theorem octaveOf_eq {q : Int} (h0 : -1000 ≤ q) (h1 : q ≤ 1000) : impl_octaveOf.f q = some (q / 12) := by
  unfold impl_octaveOf.f; rw [ToneOf_eq h0 h1]; simp only [Option.bind_some]; rw [floor_eq h0 h1]
theorem l03Floor_eq {q : Int} (h0 : -1000 ≤ q) (h1 : q ≤ 1000) : spec_l03Floor.f q = some (q / 12) := by
  unfold spec_l03Floor.f; rw [l03Tone_eq h0 h1]; simp only [Option.bind_some]; rw [floor_eq h0 h1]
def nameT (t : Int) : ByteArray := (⟨#[83, 114, 82, 103, 71, 109, 77, 80, 100, 68, 110, 78]⟩ : ByteArray).extract t.toNat (wrap64 (t + 1)).toNat
def pt (s k p : Int) : ByteArray :=
  if s = 1 then (if p / 12 < 0 then nameT (p % 12) ++ (⟨#[44]⟩ : ByteArray) else if p / 12 > 0 then nameT (p % 12) ++ (⟨#[39]⟩ : ByteArray) else nameT (p % 12))
  else if s = 2 then impl_pitchIn.at_ impl_pitchIn.L ((p + k) % 12) ++ impl_Decimal.t ((p + k) / 12 + 4)
  else if s = 3 then (if p / 12 < 0 then (⟨#[95]⟩ : ByteArray) ++ impl_pitchIn.at_ impl_pitchIn.M (p % 12) else if p / 12 > 0 then (⟨#[94]⟩ : ByteArray) ++ impl_pitchIn.at_ impl_pitchIn.M (p % 12) else impl_pitchIn.at_ impl_pitchIn.M (p % 12))
  else impl_Decimal.t (p + k + 60)
theorem at_size {l : List ByteArray} (hl : ∀ x ∈ l, x.size ≤ 2) (t : Int) : (impl_pitchIn.at_ l t).size ≤ 2 := by
  unfold impl_pitchIn.at_
  rw [List.getD_eq_getElem?_getD]
  cases h : l[t.toNat]? with
  | none => exact Nat.zero_le _
  | some x => exact hl x (List.mem_of_getElem? h)
theorem L_two : ∀ x ∈ impl_pitchIn.L, x.size ≤ 2 := by decide
theorem M_two : ∀ x ∈ impl_pitchIn.M, x.size ≤ 2 := by decide
theorem nameT_size {t : Int} (h0 : 0 ≤ t) (h1 : t < 12) : (nameT t).size ≤ 1 := by
  unfold nameT
  rw [ByteArray.size_extract, wrap_id (by omega) (by omega)]; omega
theorem pt_size {s k p : Int} (h : keyB s k = true) (h0 : -12 ≤ p) (h1 : p ≤ 23) : (pt s k p).size ≤ 30 := by
  obtain ⟨⟨a1, a2⟩, b1, b2⟩ := keyB_iff.1 h
  have z1 : (⟨#[44]⟩ : ByteArray).size = 1 := rfl
  have z2 : (⟨#[39]⟩ : ByteArray).size = 1 := rfl
  have z3 : (⟨#[95]⟩ : ByteArray).size = 1 := rfl
  have z4 : (⟨#[94]⟩ : ByteArray).size = 1 := rfl
  have n1 := nameT_size (t := p % 12) (by omega) (by omega)
  have n2 := at_size L_two ((p + k) % 12)
  have n3 := at_size M_two (p % 12)
  have n4 := Decimal_size (n := (p + k) / 12 + 4) (by omega) (by omega)
  have n5 := Decimal_size (n := p + k + 60) (by omega) (by omega)
  unfold pt
  repeat' split
  all_goals (try simp only [ByteArray.size_append])
  all_goals omega
theorem ba_nil (n : ByteArray) : n ++ (⟨#[]⟩ : ByteArray) = n := ByteArray.append_empty
theorem ba_nil' (n : ByteArray) : (⟨#[]⟩ : ByteArray) ++ n = n := ByteArray.empty_append
theorem ToneName_eq {t : Int} (h0 : 0 ≤ t) (h1 : t < 12) : impl_ToneName.f t = some (nameT t) := by
  unfold impl_ToneName.f impl_toneOk.f nameT
  rw [within_eq, decide_eq_true h0, decide_eq_true (by omega : t ≤ 11)]
  simp only [Option.bind_some, Bool.and_true, if_true]
  rw [if_pos h0, wrap_id (by omega) (by omega), if_pos (by omega), if_pos (by omega)]
theorem pitchIn_eq {s k p : Int} (h : keyB s k = true) (h0 : -12 ≤ p) (h1 : p ≤ 23) : impl_pitchIn.f s k p = some (pt s k p) := by
  obtain ⟨⟨a1, a2⟩, b1, b2⟩ := keyB_iff.1 h
  unfold impl_pitchIn.f pt
  by_cases s2 : s = 2
  · subst s2
    have n2 := at_size L_two ((p + k) % 12)
    have n4 := Decimal_size (n := (p + k) / 12 + 4) (by omega) (by omega)
    rw [if_pos rfl, if_neg (by decide), if_pos rfl, wrap_id (x := p + k) (by omega) (by omega), ToneOf_eq (by omega) (by omega), octaveOf_eq (by omega) (by omega)]
    simp only [Option.bind_some]
    rw [wrap_id (by omega) (by omega), Decimal_eq (by omega) (by omega)]
    simp only [Option.bind_some]
    rw [if_pos ⟨by omega, by omega⟩]
  rw [if_neg s2]
  by_cases s3 : s = 3
  · subst s3
    have n3 := at_size M_two (p % 12)
    rw [if_pos rfl, if_neg (by decide), if_neg (by decide), if_pos rfl, octaveOf_eq (by omega) (by omega), ToneOf_eq (by omega) (by omega)]
    simp only [Option.bind_some]
    rw [if_pos ⟨by omega, by omega⟩]
    unfold impl_pitchIn.o3
    by_cases o1 : p / 12 = -1
    · rw [if_pos o1, if_pos (by omega)]
    rw [if_neg o1]
    by_cases o2 : p / 12 = 0
    · rw [if_pos o2, if_neg (by omega), if_neg (by omega), ba_nil']
    · rw [if_neg o2, if_pos (by omega), if_neg (by omega), if_pos (by omega)]
  rw [if_neg s3]
  by_cases s4 : s = 4
  · subst s4
    rw [if_pos rfl, if_neg (by decide), if_neg (by decide), if_neg (by decide), wrap_id (x := p + k) (by omega) (by omega), wrap_id (by omega) (by omega), Decimal_eq (by omega) (by omega)]
  rw [if_neg s4]
  obtain rfl : s = 1 := by omega
  have n1 := nameT_size (t := p % 12) (by omega) (by omega)
  unfold impl_pitchText.f
  rw [if_pos rfl, ToneOf_eq (by omega) (by omega)]
  simp only [Option.bind_some]
  rw [ToneName_eq (by omega) (by omega)]
  simp only [Option.bind_some]
  rw [octaveOf_eq (by omega) (by omega)]
  simp only [Option.bind_some]
  rw [if_pos (by omega)]
  by_cases o1 : p / 12 = -1
  · rw [if_pos o1, if_pos (by omega)]
  rw [if_neg o1]
  by_cases o2 : p / 12 = 0
  · rw [if_pos o2, if_neg (by omega), if_neg (by omega), ba_nil]
  · rw [if_neg o2, if_pos (by omega), if_neg (by omega), if_pos (by omega)]
theorem l26Pitch_eq {s k p : Int} (h : keyB s k = true) (h0 : -12 ≤ p) (h1 : p ≤ 23) {K : Nat} (hK : 2000 ≤ K) : spec_l26Pitch.f K s k p = some (pt s k p) := by
  obtain ⟨⟨a1, a2⟩, b1, b2⟩ := keyB_iff.1 h
  have eL : spec_l26Pitch.at_ spec_l26Pitch.L = impl_pitchIn.at_ impl_pitchIn.L := rfl
  have eM : spec_l26Pitch.at_ spec_l26Pitch.M = impl_pitchIn.at_ impl_pitchIn.M := rfl
  have eN : spec_l26Pitch.nm = nameT := rfl
  unfold spec_l26Pitch.f pt
  rw [l03Tone_eq (by omega) (by omega), l03Floor_eq (by omega) (by omega), eL, eM, eN]
  simp only [Option.bind_some]
  rw [if_pos ⟨by omega, by omega⟩]
  by_cases s1 : s = 1
  · subst s1
    rw [if_pos rfl, if_pos rfl]
    by_cases o1 : p / 12 < 0
    · rw [if_pos o1, if_pos o1]
    rw [if_neg o1, if_neg o1]
    by_cases o2 : p / 12 > 0
    · rw [if_pos o2, if_pos o2]
    · rw [if_neg o2, if_neg o2]
  rw [if_neg s1, if_neg s1]
  by_cases s2 : s = 2
  · subst s2
    have n2 := at_size L_two ((p + k) % 12)
    have n4 := Decimal_size (n := (p + k) / 12 + 4) (by omega) (by omega)
    rw [if_pos rfl, if_pos rfl, wrap_id (x := p + k) (by omega) (by omega), l03Tone_eq (by omega) (by omega), l03Floor_eq (by omega) (by omega)]
    simp only [Option.bind_some]
    rw [wrap_id (by omega) (by omega), l01Dec_eq (by omega) (by omega) hK]
    simp only [Option.bind_some]
    rw [if_pos ⟨by omega, by omega⟩]
  rw [if_neg s2, if_neg s2]
  by_cases s3 : s = 3
  · subst s3
    have n3 := at_size M_two (p % 12)
    rw [if_pos rfl, if_pos rfl, if_pos (by omega)]
    by_cases o1 : p / 12 < 0
    · rw [if_pos o1, if_pos o1]
    rw [if_neg o1, if_neg o1]
    by_cases o2 : p / 12 > 0
    · rw [if_pos o2, if_pos o2]
    · rw [if_neg o2, if_neg o2]
  rw [if_neg s3, if_neg s3, wrap_id (x := p + k) (by omega) (by omega), wrap_id (by omega) (by omega), l01Dec_eq (by omega) (by omega) hK]
end Go.Proofs.YtpfalhbeeodjaaaDoor.P
