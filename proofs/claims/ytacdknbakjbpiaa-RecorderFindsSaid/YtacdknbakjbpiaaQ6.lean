/-
  The law RecorderFinds, plain.
-/
import Derived.Test.YtacdknbakjbpiaaQ4
import Derived.Test.YtacdknbakjbpiaaG10
namespace Go.Proofs.Ytacdknbakjbpiaa
open Go Ab

section
variable {n : Nat} (hn : 100000 ≤ n)
include hn

theorem f10_is (a0 : List Int) (a1 : Recorder) (a2 a3 a4 : Int) (h0 : a0.length ≤ 9223372036854775807) : f10 n a0 a1 a2 a3 a4 = some true := by
  rw [f10, f36_is hn]
  simp only [Option.bind_some, Bool.not_true, Bool.false_eq_true, if_false]
  by_cases c0 : (a1.Last.length : Int) > 10
  · rw [if_pos (by simpa using c0)]
  rw [if_neg (by simpa using c0), joinK]
  obtain ⟨r, e1, hr⟩ := f51_is hn a0 h0
  have hrs := hr.short
  rw [e1, Option.bind_some]
  have step : ∀ (j : Unit → Option Bool) (m i : Nat), i < 2 → f10_l1 n a1 a2 a3 a4 j r (m + 1) (i : Int) = f10_l1 n a1 a2 a3 a4 j r m ((i + 1 : Nat) : Int) := by
    intro j m i hi
    rw [f10_l1, if_pos (by simp; omega)]
    obtain ⟨x, hx, hxl⟩ : ∃ x, lAt ([r, (⟨a1.Limit, a1.Last, a1.Counts, a1.Frames, a1.Buckets⟩ : Recorder)] : List Recorder) (i : Int) = some x ∧ x.Last.length ≤ 90000 := by
      obtain _ | _ | i := i
      · exact ⟨_, rfl, by omega⟩
      · exact ⟨_, rfl, by dsimp only; omega⟩
      · omega
    have b1 : ∀ a b, f53 n (⟨x.Limit, x.Last, x.Counts, x.Frames, x.Buckets⟩ : Recorder) a b = some (betS x a b) := fun a b => f53_is hn x hxl a b
    have b2 : ∀ a b, f54 n (⟨x.Limit, x.Last, x.Counts, x.Frames, x.Buckets⟩ : Recorder) a b = some (betS x a b) := fun a b => f54_is hn x hxl a b
    have b3 : ∀ p, f40 n (⟨x.Limit, x.Last, x.Counts, x.Frames, x.Buckets⟩ : Recorder) p = some (mosS x p) := fun p => f40_is hn x hxl p
    have b4 : ∀ p, f55 n (⟨x.Limit, x.Last, x.Counts, x.Frames, x.Buckets⟩ : Recorder) p = some (mosS x p) := fun p => f55_is hn x hxl p
    have b5 : ∀ a b, f52 n (betS x a b) (betS x a b) = some true := fun a b => f52_refl hn _ (Nat.le_trans (betS_len x a b) hxl)
    rw [hx, Option.bind_some]
    simp only [joinK]
    rw [b1, b2, Option.bind_some, Option.bind_some, b5, Option.bind_some, if_neg (by decide), b1, b2, Option.bind_some, Option.bind_some, b5, Option.bind_some, if_neg (by decide), b3, b4, Option.bind_some, Option.bind_some, if_neg (by simp), f39_is _ _ (by decide), Option.bind_some, b3, Option.bind_some, Option.bind_some, b4, Option.bind_some, if_neg (by simp), w64_id (by omega), show (i : Int) + 1 = ((i + 1 : Nat) : Int) by omega]
  obtain ⟨p, hp⟩ : ∃ q, n = q + 3 := ⟨n - 3, by omega⟩
  have s1 := fun j => step j (p + 2) 0 (by decide)
  have s2 := fun j => step j (p + 1) 1 (by decide)
  rw [show ((0 : Nat) : Int) = 0 from rfl] at s1
  have e0 : ∀ j : Unit → Option Bool, f10_l1 n a1 a2 a3 a4 j r n 0 = j () := by
    intro j
    have t := (s1 j).trans ((s2 j).trans (show f10_l1 n a1 a2 a3 a4 j r (p + 1) ((1 + 1 : Nat) : Int) = j () by rw [f10_l1, if_neg (by simp)]))
    rwa [show p + 2 + 1 = n by omega] at t
  rw [e0]

end
end Go.Proofs.Ytacdknbakjbpiaa
