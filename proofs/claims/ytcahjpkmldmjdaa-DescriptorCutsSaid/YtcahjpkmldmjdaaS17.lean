/-
  The law DescriptorCuts, plain.
-/
import Derived.Test.YtcahjpkmldmjdaaT4
import Derived.Test.YtcahjpkmldmjdaaG9
namespace Go.Proofs.Ytcahjpkmldmjdaa
open Go Ab

theorem f9_is (a0 : List Int) (a1 : Int) (h0 : AreBytes a0) (h0l : a0.length ≤ 9223372036854775807) (r1 : 0 ≤ a1 ∧ a1 < 65536) : f9 100000 a0 a1 = some true := by
  rw [f9, f38_is]
  simp only [Option.bind_some, joinK, Bool.not_true, Bool.false_eq_true, if_false]
  obtain ⟨d, e1, hd⟩ := f40_is a0 h0 h0l
  have h27 := eBody_bytes d
  have hbl := hd.2.2.1
  have hbb := eBody_areBytes hd.1.1.2.2
  have hl := eDesc_length d
  rw [e1, Option.bind_some, f39_is (Nat.le_refl _) d hd.2.1 (fun _ => by omega), Option.bind_some, enc_made hd]
  dsimp only
  rw [if_neg (by simp), if_neg (by simp only [beq_iff_eq]; omega), w64_id (by omega), iRem_eq (by omega), Option.bind_some]
  have hx0 : 0 ≤ a1.tmod ((eDesc d).length : Int) := Int.tmod_nonneg _ r1.1
  have hx1 := Int.tmod_lt_of_pos a1 (show (0 : Int) < ((eDesc d).length : Int) by omega)
  generalize a1.tmod ((eDesc d).length : Int) = x at hx0 hx1
  obtain ⟨k, rfl⟩ := Int.eq_ofNat_of_zero_le hx0
  have hk : k < (eDesc d).length := by omega
  have hE : AreBytes (eDesc d) := append_bytes hbb (leN_bytes _ _)
  have hX : AreBytes ((eDesc d).take k) := take_bytes hE k
  have hXl : ((eDesc d).take k).length = k := by rw [List.length_take]; omega
  rw [lPart_eq (by omega), Option.bind_some, Int.toNat_natCast, show ((0 : Int).toNat) = 0 from rfl, List.drop_zero, f41_is (Nat.le_refl _) _ hX (by omega), Option.bind_some, f42_is (Nat.le_refl _) _ (by omega), Option.bind_some, f41_is (Nat.le_refl _) _ (append_bytes hX (leN_bytes _ _)) (by simp [leN_length]; omega), Option.bind_some]
  obtain ⟨v, q1, q2⟩ := decR_cut hd k hk
  rw [q1]
  dsimp only
  rw [if_pos (by simpa using q2), show sEq zeroD.Name (⟨#[]⟩ : ByteArray) = true from sEq_self _, if_pos rfl, w64_id (by omega)]
  by_cases hkb : k = (eBody d).length
  · rw [if_pos (by rw [hXl]; simp; omega)]
  · rw [if_neg (by rw [hXl]; simp; omega)]
    obtain ⟨v2, q3, q4⟩ := decR_cutS hd k hk hkb
    rw [q3]
    dsimp only
    rw [if_pos (by simpa using q4), show sEq zeroD.Name (⟨#[]⟩ : ByteArray) = true from sEq_self _]

end Go.Proofs.Ytcahjpkmldmjdaa
