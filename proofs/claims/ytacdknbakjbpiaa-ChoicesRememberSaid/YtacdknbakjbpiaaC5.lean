/-
  The law ChoicesRemember, plain.
-/
import Derived.Test.YtacdknbakjbpiaaC4
import Derived.Test.YtacdknbakjbpiaaG8
namespace Go.Proofs.Ytacdknbakjbpiaa
open Go Ab

section
variable {n : Nat} (hn : 100000 ≤ n)
include hn

theorem f8_l2_is (c a2 : Choose) (d : Deck) (m : Memory) (hr : RolesOK n m.Choices) (hml : m.Choices.length ≤ 90000) (h1 : c.Role.size < n ∧ c.Role.size ≤ 9223372036854775807) (h2 : a2.Role.size < n ∧ a2.Role.size ≤ 9223372036854775807) (j : Unit → Option Bool) : f8_l2 n a2 (c, d) j m n 0 = j () := by
  have step : ∀ (p i : Nat) (x : Choose), i < 2 → lAt ([(⟨c.Role, c.Set, c.Device⟩ : Choose), (⟨a2.Role, a2.Set, a2.Device⟩ : Choose)] : List Choose) (i : Int) = some x → (x.Role.size < n ∧ x.Role.size ≤ 9223372036854775807) → f8_l2 n a2 (c, d) j m (p + 1) (i : Int) = f8_l2 n a2 (c, d) j m p ((i + 1 : Nat) : Int) := by
    intro p i x hi hx hxr
    have hs := remS_small m x
    rw [f8_l2, if_pos (by simp; omega)]
    dsimp only
    rw [hx, Option.bind_some, show f47 n (⟨m.Choices⟩ : Memory) (⟨x.Role, x.Set, x.Device⟩ : Choose) = some (remS m x) from f47_is hn m x hr hxr.1 hxr.2, Option.bind_some, show f48 n (⟨m.Choices⟩ : Memory) (⟨x.Role, x.Set, x.Device⟩ : Choose) = some (remS m x) from f48_is hn m x hr hml hxr.1 hxr.2, Option.bind_some, joinK, joinK, if_neg (by simp), show f49 n (⟨(remS m x).1.Choices⟩ : Memory) (⟨(remS m x).1.Choices⟩ : Memory) = some true from f49_refl hn _ hs.1 hs.2, Option.bind_some]
    dsimp only
    rw [if_neg (by decide), w64_id (by omega), show (i : Int) + 1 = ((i + 1 : Nat) : Int) by omega]
  obtain ⟨p, rfl⟩ : ∃ q, n = q + 3 := ⟨n - 3, by omega⟩
  have s1 := step (p + 2) 0 c (by decide) rfl h1
  have s2 := step (p + 1) 1 a2 (by decide) rfl h2
  rw [show ((0 : Nat) : Int) = 0 from rfl] at s1
  rw [s1, s2, f8_l2, if_neg (by simp)]

theorem f8_is (a0 : List Int) (a1 : Memory) (a2 : Choose) (h0 : a0.length ≤ 9223372036854775807) (hr : RolesOK n a1.Choices) (h2 : a2.Role.size < n ∧ a2.Role.size ≤ 9223372036854775807) : f8 n a0 a1 a2 = some true := by
  rw [f8, f41_is hn]
  simp only [Option.bind_some, Bool.not_true, Bool.false_eq_true, if_false, joinK]
  by_cases c0 : (a1.Choices.length : Int) > 10
  · rw [if_pos (by simpa using c0)]
  rw [if_neg (by simpa using c0)]
  by_cases c1 : (a2.Set.length : Int) > 12
  · rw [if_pos (by simpa using c1)]
  rw [if_neg (by simpa using c1), f42, Option.bind_some]
  dsimp only
  obtain ⟨m, d1, e1, e2, e3, e4⟩ := f43_is hn ⟨a0, 0⟩ ⟨Int.le_refl _, by dsimp only; omega, h0⟩
  obtain ⟨c, d2, e5, e6, e7⟩ := f44_is hn d1 e4
  rw [e1, Option.bind_some]
  dsimp only
  rw [show f44 n (⟨d1.L, d1.At⟩ : Deck) = some (c, d2) from e5, Option.bind_some]
  have hmr := rolesOK_of hn ((memV_iff _).1 e2).2.1
  have hcs := e6.1.2.2
  have step : ∀ (j : Unit → Option Bool) (p i : Nat) (x : Memory), i < 2 → lAt ([(⟨m.Choices⟩ : Memory), (⟨a1.Choices⟩ : Memory)] : List Memory) (i : Int) = some x → RolesOK n x.Choices → x.Choices.length ≤ 90000 → f8_l1 n a1 a2 (m, d1) (c, d2) j (p + 1) (i : Int) = f8_l1 n a1 a2 (m, d1) (c, d2) j p ((i + 1 : Nat) : Int) := by
    intro j p i x hi hx hxr hxl
    rw [f8_l1, if_pos (by simp; omega), joinK]
    dsimp only
    rw [hx, Option.bind_some, show f45 n (⟨x.Choices⟩ : Memory) = some (decide (MemV x)) from f45_is hn x hxr, Option.bind_some, show f46 n (⟨x.Choices⟩ : Memory) = some (decide (MemV x)) from f46_is hn x hxr hxl, Option.bind_some, if_neg (by simp), f8_l2_is hn c a2 d2 x hxr hxl ⟨by omega, by omega⟩ h2, w64_id (by omega), show (i : Int) + 1 = ((i + 1 : Nat) : Int) by omega]
  obtain ⟨p, hp⟩ : ∃ q, n = q + 3 := ⟨n - 3, by omega⟩
  have s1 := fun j => step j (p + 2) 0 m (by decide) rfl hmr (by omega)
  have s2 := fun j => step j (p + 1) 1 a1 (by decide) rfl hr (by omega)
  rw [show ((0 : Nat) : Int) = 0 from rfl] at s1
  have e0 : ∀ j : Unit → Option Bool, f8_l1 n a1 a2 (m, d1) (c, d2) j n 0 = j () := by
    intro j
    have t := (s1 j).trans ((s2 j).trans (show f8_l1 n a1 a2 (m, d1) (c, d2) j (p + 1) ((1 + 1 : Nat) : Int) = j () by rw [f8_l1, if_neg (by simp)]))
    rwa [show p + 2 + 1 = n by omega] at t
  rw [e0]

end
end Go.Proofs.Ytacdknbakjbpiaa
