/-
  The law DescriptorTwice, plain.
-/
import Derived.Test.YtcahjpkmldmjdaaT4
import Derived.Test.YtcahjpkmldmjdaaG10
namespace Go.Proofs.Ytcahjpkmldmjdaa
open Go Ab

theorem f10_is (a0 a1 : List Int) (h0 : AreBytes a0) (h1 : AreBytes a1) (h0l : a0.length ≤ 9223372036854775807) : f10 100000 a0 a1 = some true := by
  rw [f10, f38_is]
  simp only [Option.bind_some, joinK, Bool.not_true, Bool.false_eq_true, if_false]
  by_cases c0 : (a1.length : Int) > 50
  · rw [if_pos (by simpa using c0)]
  rw [if_neg (by simpa using c0)]
  obtain ⟨d, e1, hd⟩ := f40_is a0 h0 h0l
  have h27 := eBody_bytes d
  have hbl := hd.2.2.1
  have hbb := eBody_areBytes hd.1.1.2.2
  have hl := eDesc_length d
  rw [e1, Option.bind_some, f39_is (Nat.le_refl _) d hd.2.1 (fun _ => by omega), Option.bind_some, enc_made hd]
  dsimp only
  rw [if_neg (by simp), if_neg (by simp; omega), w64_id (by omega)]
  have hpart : lPart (eDesc d) 0 (((eDesc d).length : Int) - 4) = some (eBody d) := by
    rw [lPart_eq (by omega), show (((eDesc d).length : Int) - 4).toNat = (eBody d).length by omega, show ((0 : Int).toNat) = 0 from rfl, List.drop_zero, eDesc, List.take_left]
  rw [hpart, Option.bind_some, lApp_eq (by simp; omega), Option.bind_some, List.nil_append, lApp_eq (by omega), Option.bind_some]
  have sd : ∀ y : List Int, AreBytes y → y.length ≤ 5000 → ∀ j : Descriptor × Int → Option Bool, ((f42 100000 y).bind fun z => (f41 100000 z).bind j) = j (if y.length < 4 then (zeroD, 4) else decB y) := by
    intro y hy hyl j
    rw [f42_is (Nat.le_refl _) _ (by omega), Option.bind_some, f41_is (Nat.le_refl _) _ (append_bytes hy (leN_bytes _ _)) (by simp [leN_length]; omega), Option.bind_some, decR_sealed]
  have hq : ¬ ([120] ++ eBody d : List Int).length < 4 := by rw [List.length_append]; omega
  have h120 : AreBytes [120] := fun z hz => by simp only [List.mem_cons, List.not_mem_nil, or_false] at hz; omega
  rw [sd (eBody d ++ eBody d) (append_bytes hbb hbb) (by simp; omega), if_neg (show ¬ (eBody d ++ eBody d).length < 4 by simp; omega), decB_more hd, if_neg (fun hh => by rw [hh] at h27; simp at h27), Option.bind_some, lApp_eq (by omega), Option.bind_some, sd (eBody d ++ a1) (append_bytes hbb h1) (by simp; omega), if_neg (show ¬ (eBody d ++ a1).length < 4 by simp; omega), decB_more hd, lApp_eq (by simp; omega), Option.bind_some, sd ([120] ++ eBody d) (append_bytes h120 hbb) (by simp; omega), if_neg hq]
  have hx : decB ([120] ++ eBody d) = (zeroD, 5) := by
    have e4 : ([120] ++ eBody d : List Int).take 4 = [120, 83, 78, 68] := rfl
    rw [decB, e4, if_pos (by decide +kernel)]
  rw [hx]
  dsimp only
  rw [if_pos (by decide)]
  by_cases c1 : a1 = []
  · rw [if_pos c1, if_neg (by simp), if_pos (by simp [c1]), if_pos (by simp)]
    rfl
  · rw [if_neg c1, if_pos (by simp)]
    rfl

end Go.Proofs.Ytcahjpkmldmjdaa
