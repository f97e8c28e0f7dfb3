/-
  Plain laws: numbers that are drawn.
-/
import Derived.Test.YtacdknbakjbpiaaPa
import Derived.Test.YtacdknbakjbpiaaGd
namespace Go.Proofs.Ytacdknbakjbpiaa
open Go Ab

/-! ### numbers that are drawn -/

def modS (a b : Int) : Int := a % b
theorem f39_is {n : Nat} (a b : Int) (hb : 0 < b ∧ b ≤ 4611686018427387904) : f39 n a b = some (a % b) := by
  have h1 := Int.emod_nonneg a (show b ≠ 0 by omega)
  have h2 := Int.emod_lt_of_pos a hb.1
  have h3 : a.tmod b = if 0 ≤ a ∨ b ∣ a then a % b else a % b - b := by
    rw [Int.tmod_eq_emod]
    split
    · simp
    · rw [Int.natAbs_of_nonneg (by omega)]
  rw [f39, iRem_eq (by omega), Option.bind_some, joinK]
  by_cases h : 0 ≤ a ∨ b ∣ a
  · rw [if_pos h] at h3
    rw [h3, if_neg (by simp; omega)]
  · rw [if_neg h] at h3
    rw [h3, if_pos (by simp; omega), w64_id (by omega)]
    congr 1
    omega

def DeckOK (d : Deck) : Prop := 0 ≤ d.At ∧ d.At ≤ d.L.length ∧ d.L.length ≤ 9223372036854775807

theorem f79_is {n : Nat} (d : Deck) (h : DeckOK d) (b : Int) (hb : 0 < b ∧ b ≤ 4611686018427387904) : ∃ v d', f79 n d b = some (v, d') ∧ (0 ≤ v ∧ v < b) ∧ DeckOK d' ∧ d'.L = d.L ∧ d.At ≤ d'.At ∧ (d.At < d.L.length → d'.At = d.At + 1) := by
  obtain ⟨h1, h2, h3⟩ := h
  rw [f79, f69, Option.bind_some]
  dsimp only
  by_cases c : d.At < (d.L.length : Int)
  case neg => exact ⟨0, _, by rw [if_pos (by simpa using c)], ⟨by omega, hb.1⟩, ⟨h1, h2, h3⟩, rfl, Int.le_refl _, fun h => absurd h c⟩
  rw [if_neg (by simpa using c), w64_id (x := d.At + 1) (by omega), w64_id (by omega), show d.At + 1 - 1 = d.At by omega, lAt_eq ⟨h1, c⟩, Option.bind_some, f39_is _ _ hb, Option.bind_some]
  exact ⟨_, _, rfl, ⟨Int.emod_nonneg _ (by omega), Int.emod_lt_of_pos _ hb.1⟩, ⟨by dsimp only; omega, by dsimp only; omega, h3⟩, rfl, by dsimp only; omega, fun _ => rfl⟩

end Go.Proofs.Ytacdknbakjbpiaa
