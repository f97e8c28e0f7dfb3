/-
  The law ChoicesFull, plain.
-/
import Derived.Test.YtacdknbakjbpiaaC4
import Derived.Test.YtacdknbakjbpiaaG9
namespace Go.Proofs.Ytacdknbakjbpiaa
open Go Ab

theorem lookS_last {l : List Choose} {c : Choose} (h : MemV ⟨l⟩) (hc : ChV c) : lookS ⟨remL l c⟩ c.Role c.Set = c.Device := by
  obtain ⟨h1, h2, _⟩ := (memV_iff _).1 h
  dsimp only at h1 h2
  rw [lookS, if_pos ⟨remL_V h hc, hc.2.2.1⟩]
  dsimp only
  rw [remL_eq l c h1]
  exact lkF_last hc _ _ _ (fun d hd => h2 d ((List.mem_filter.1 (List.mem_of_mem_drop hd)).1)) (Nat.zero_le _)

section
variable {n : Nat} (hn : 100000 ≤ n)
include hn

omit hn in
theorem music_V (x : Int) (h : 1 ≤ x) : ChV ⟨⟨#[109, 117, 115, 105, 99]⟩, [x], x⟩ :=
  ⟨roles_fine ⟨0, by decide⟩, ⟨Nat.le_refl 1, show (1 : Nat) ≤ 8 by decide⟩, AscV.of (fun y hy => by simp at hy; omega) (by simp [Rise]), by simp⟩

theorem f9_l1_is (a0 : Int) (j : List Choose → Option Bool) : ∀ (q p i : Nat) (l : List Choose), (i : Int) + q = 31 + a0 % 3 → q < p → MemV ⟨l⟩ → ∃ l', MemV ⟨l'⟩ ∧ f9_l1 n a0 j p l (i : Int) = j l' := by
  have b0 := Int.emod_nonneg a0 (show (3 : Int) ≠ 0 by decide)
  have b1 := Int.emod_lt_of_pos a0 (show (0 : Int) < 3 by decide)
  intro q
  induction q with
  | zero =>
    intro p i l h1 h2 h3
    obtain ⟨p, rfl⟩ : ∃ q, p = q + 1 := ⟨p - 1, by omega⟩
    exact ⟨l, h3, by rw [f9_l1, f39_is _ _ (by decide), Option.bind_some, w64_id (by omega), if_neg (by simp; omega)]⟩
  | succ q ih =>
    intro p i l h1 h2 h3
    obtain ⟨p, rfl⟩ : ∃ q, p = q + 1 := ⟨p - 1, by omega⟩
    have hc := music_V ((i : Int) + 1) (by omega)
    rw [f9_l1, f39_is _ _ (by decide), Option.bind_some, w64_id (x := 31 + a0 % 3) (by omega), if_pos (by simp; omega), w64_id (x := (i : Int) + 1) (by omega), wrap_u64, show ((i : Int) + 1) % 18446744073709551616 = (i : Int) + 1 by omega, f48_V hn h3 hc, Option.bind_some, show (i : Int) + 1 = ((i + 1 : Nat) : Int) by omega]
    exact ih p (i + 1) _ (by omega) (by omega) (by rw [show ((i + 1 : Nat) : Int) = (i : Int) + 1 by omega]; exact remL_V h3 hc)

theorem f9_is (a0 : Int) (a1 : List Int) (h1 : a1.length ≤ 9223372036854775807) : f9 n a0 a1 = some true := by
  have b0 := Int.emod_nonneg a0 (show (3 : Int) ≠ 0 by decide)
  have b1 := Int.emod_lt_of_pos a0 (show (0 : Int) < 3 by decide)
  rw [f9, f41_is hn]
  simp only [Option.bind_some, Bool.not_true, Bool.false_eq_true, if_false]
  rw [joinK]
  obtain ⟨l, hm, e⟩ := f9_l1_is hn a0 (fun v18 => (f42 n a1).bind fun y37 =>
  (f44 n (⟨y37.L, y37.At⟩ : Deck)).bind fun y38 =>
  (f47 n (⟨v18⟩ : Memory) (⟨y38.1.Role, y38.1.Set, y38.1.Device⟩ : Choose)).bind fun y39 =>
  (f48 n (⟨v18⟩ : Memory) (⟨y38.1.Role, y38.1.Set, y38.1.Device⟩ : Choose)).bind fun y40 =>
  if (y39.2 == y40.2) then (
  (f49 n (⟨y39.1.Choices⟩ : Memory) (⟨y40.1.Choices⟩ : Memory)).bind fun y46 =>
  if y46 then (
  (f50 n (⟨y39.1.Choices⟩ : Memory) y38.1.Role y38.1.Set).bind fun y48 =>
  some (y48 == y38.1.Device))
  else (
  some false))
  else (
  some false)) (31 + a0 % 3).toNat n 0 [] (by omega) (by omega) memV_nil
  rw [show ((0 : Nat) : Int) = 0 from rfl] at e
  refine e.trans ?_
  obtain ⟨c, d, q1, q2, q3⟩ := f44_is hn ⟨a1, 0⟩ ⟨Int.le_refl _, by dsimp only; omega, h1⟩
  have hl := q2.2.1.2
  have hV := remL_V hm q2
  obtain ⟨g1, g2, _⟩ := (memV_iff _).1 hV
  dsimp only at g1 g2
  rw [f42, Option.bind_some]
  dsimp only
  rw [q1, Option.bind_some]
  dsimp only
  rw [show f47 n (⟨l⟩ : Memory) (⟨c.Role, c.Set, c.Device⟩ : Choose) = some (⟨remL l c⟩, 0) from f47_V hn hm q2, Option.bind_some, show f48 n (⟨l⟩ : Memory) (⟨c.Role, c.Set, c.Device⟩ : Choose) = some (⟨remL l c⟩, 0) from f48_V hn hm q2, Option.bind_some, if_pos (by simp)]
  dsimp only
  rw [f49_refl hn ⟨remL l c⟩ (by dsimp only; omega) (fun d hd => by have := (g2 d hd).2.1.2; omega), Option.bind_some, if_pos rfl, f50_V hn hV _ _ (by omega), Option.bind_some, lookS_last hm q2]
  simp

end
end Go.Proofs.Ytacdknbakjbpiaa
