/-
  The law DescriptorBack, plain.
-/
import Derived.Test.YtcahjpkmldmjdaaT4
import Derived.Test.YtcahjpkmldmjdaaG16
namespace Go.Proofs.Ytcahjpkmldmjdaa
open Go Ab

theorem f16_is (a0 : List Int) (a1 a2 : Int) (h0 : AreBytes a0) (h0l : a0.length ≤ 9223372036854775807) (r1 : 0 ≤ a1 ∧ a1 < 65536) (r2 : 0 ≤ a2 ∧ a2 < 256) : f16 100000 a0 a1 a2 = some true := by
  rw [f16, f38_is]
  simp only [Option.bind_some, joinK, Bool.not_true, Bool.false_eq_true, if_false]
  obtain ⟨d, e1, hd⟩ := f40_is a0 h0 h0l
  have h27 := eBody_bytes d
  have hbl := hd.2.2.1
  have hbb := eBody_areBytes hd.1.1.2.2
  have hl := eDesc_length d
  have hE : AreBytes (eDesc d) := append_bytes hbb (leN_bytes _ _)
  rw [e1, Option.bind_some, show f39 100000 (⟨d.ID, d.Name, d.Direction, d.Domain, d.Latency, d.Drift, d.Jitter, d.Boxes⟩ : Descriptor) = some (encR d) from f39_is (Nat.le_refl _) d hd.2.1 (fun _ => by omega), Option.bind_some, enc_made hd]
  dsimp only
  rw [f41_is (Nat.le_refl _) _ hE (by omega), Option.bind_some, decR_back hd]
  dsimp only
  rw [if_neg (by simp), if_neg (by simp), show f59 100000 (⟨d.ID, d.Name, d.Direction, d.Domain, d.Latency, d.Drift, d.Jitter, d.Boxes⟩ : Descriptor) (⟨d.ID, d.Name, d.Direction, d.Domain, d.Latency, d.Drift, d.Jitter, d.Boxes⟩ : Descriptor) = some true from f59_refl (Nat.le_refl _) d hd.2.1, Option.bind_some, if_neg (by simp), lApp_eq (by simp; omega), Option.bind_some, List.nil_append, w64_id (by omega), iRem_eq (by omega), Option.bind_some]
  have hx0 : 0 ≤ a1.tmod ((eDesc d).length : Int) := Int.tmod_nonneg _ r1.1
  have hx1 := Int.tmod_lt_of_pos a1 (show (0 : Int) < ((eDesc d).length : Int) by omega)
  generalize a1.tmod ((eDesc d).length : Int) = x at hx0 hx1
  obtain ⟨k, rfl⟩ := Int.eq_ofNat_of_zero_le hx0
  have hk : k < (eDesc d).length := by omega
  rw [lAt_nat hk, Option.bind_some, Option.bind_some, Int.toNat_natCast]
  have hxr := xor8_rng (eDesc d)[k] a2
  rw [f41_is (Nat.le_refl _) _ (fun z hz => by
    rcases List.mem_or_eq_of_mem_set hz with hz | rfl
    · exact hE z hz
    · omega) (by simp; omega), Option.bind_some]
  by_cases c : a2 = 0
  · rw [if_pos (by simpa using c)]
  rw [if_neg (by simpa using c), decR_set hd k hk r2 c]
  dsimp only
  rw [if_pos (by decide), show sEq zeroD.Name (⟨#[]⟩ : ByteArray) = true from sEq_self _, if_pos rfl]
  rfl

end Go.Proofs.Ytcahjpkmldmjdaa
