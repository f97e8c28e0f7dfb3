/-
  What was put is got.
-/
import Derived.Test.YtcahjpkmldmjdaaPc
namespace Go.Proofs.Ytcahjpkmldmjdaa
open Go Ab

/-- What was put is got. -/
theorem get_put (p : List Int) (w : Nat) (v : Int) (hv : 0 ≤ v ∧ v < 256 ^ w) (m : List Int) : getE (p ++ leN w v ++ m) (p.length : Int) w = 0 ∧ getV (p ++ leN w v ++ m) (p.length : Int) w = v ∧ getA (p ++ leN w v ++ m) (p.length : Int) w = p.length + w := by
  have he : getE (p ++ leN w v ++ m) (p.length : Int) w = 0 := getE_ok.2 ⟨by omega, by simp [leN_length]; omega⟩
  refine ⟨he, ?_, by rw [getA, if_pos he]⟩
  rw [getV, if_pos he, Int.toNat_natCast, List.append_assoc, List.drop_left, List.take_append_of_le_length (by rw [leN_length]; exact Nat.le_refl _)]
  have e : (leN w v).take w = leN w v := List.take_of_length_le (by rw [leN_length]; exact Nat.le_refl _)
  rw [e, leV_leN w v hv.1, Int.emod_eq_of_lt hv.1 hv.2]

theorem text_put (p : List Int) (s : ByteArray) (hs : s.size ≤ 64) (m : List Int) : gtE (p ++ (s.size : Int) :: strNums s ++ m) (p.length : Int) = 0 ∧ gtS (p ++ (s.size : Int) :: strNums s ++ m) (p.length : Int) = s ∧ gtA (p ++ (s.size : Int) :: strNums s ++ m) (p.length : Int) = p.length + 1 + s.size := by
  have hl := strNums_length s
  have hN : gtN (p ++ (s.size : Int) :: strNums s ++ m) (p.length : Int) = s.size := by
    rw [gtN, Int.toNat_natCast, List.append_assoc, List.getElem?_append_right (Nat.le_refl _), Nat.sub_self]
    rfl
  have he : gtE (p ++ (s.size : Int) :: strNums s ++ m) (p.length : Int) = 0 := by
    rw [gtE, hN]
    simp only [List.length_append, List.length_cons, hl]
    rw [if_neg (by omega), if_neg (by omega), if_neg (by omega), if_neg (by omega)]
  refine ⟨he, ?_, by rw [gtA, if_pos he, hN]⟩
  rw [gtS, if_pos he, hN]
  have e1 : ((p.length : Int) + 1 + (s.size : Int)).toNat = p.length + (1 + s.size) := by omega
  have e2 : ((p.length : Int) + 1).toNat = p.length + 1 := by omega
  rw [e1, e2, List.append_assoc, List.take_length_add_append, List.drop_append, List.drop_eq_nil_of_le (by omega), List.nil_append, show p.length + 1 - p.length = 1 by omega, List.cons_append, Nat.add_comm 1, List.take_succ_cons, List.drop_succ_cons, List.drop_zero, List.take_append_of_le_length (by omega), ← hl, List.take_length, mkStr_strNums]

end Go.Proofs.Ytcahjpkmldmjdaa
