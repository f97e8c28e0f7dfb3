/-
  The law RecorderNotes, plain.
-/
import Derived.Test.YtacdknbakjbpiaaQ4
import Derived.Test.YtacdknbakjbpiaaG12
namespace Go.Proofs.Ytacdknbakjbpiaa
open Go Ab

theorem meaR_len (r : Recorder) (x : Int) (hl : r.Last.length ≤ 90000) : (meaR r x).1.Last.length ≤ 90000 := by
  unfold meaR
  split
  · split
    · exact Nat.zero_le _
    · exact hl
  · exact Nat.zero_le _
theorem notR_len (r : Recorder) (g : Glitch) : (notR r g).1.Last.length ≤ 90000 := by
  unfold notR
  split
  · rename_i hv
    split
    · have := lastN_len (l := r.Last) (lim := r.Limit) (g := g) hv.2.1 hv.1.1
      have := hv.1.2
      dsimp only
      omega
    · exact Nat.zero_le _
  · exact Nat.zero_le _

section
variable {n : Nat} (hn : 100000 ≤ n)
include hn

theorem f12_l2_is (g0 : Glitch) (r : Recorder) (hl : r.Last.length ≤ 90000) (j : Unit → Option Bool) (y : Glitch × Deck) : f12_l2 n g0 r j y n 0 = j () := by
  have step : ∀ (m i : Nat), i < 2 → f12_l2 n g0 r j y (m + 1) (i : Int) = f12_l2 n g0 r j y m ((i + 1 : Nat) : Int) := by
    intro m i hi
    rw [f12_l2, if_pos (by simp; omega)]
    obtain ⟨g, hg⟩ : ∃ g, lAt ([(⟨g0.Kind, g0.At, g0.Quanta, g0.Stream, g0.Device, g0.Frames⟩ : Glitch), y.1] : List Glitch) (i : Int) = some g := ⟨_, lAt_nat (by simpa using hi)⟩
    rw [hg, Option.bind_some, show f63 n (⟨r.Limit, r.Last, r.Counts, r.Frames, r.Buckets⟩ : Recorder) (⟨g.Kind, g.At, g.Quanta, g.Stream, g.Device, g.Frames⟩ : Glitch) = some (notR r g) from f63_is hn r hl g, Option.bind_some,
      show f64 n (⟨r.Limit, r.Last, r.Counts, r.Frames, r.Buckets⟩ : Recorder) (⟨g.Kind, g.At, g.Quanta, g.Stream, g.Device, g.Frames⟩ : Glitch) = some (notR r g) from f64_is hn r hl g, Option.bind_some, joinK, joinK, if_neg (by simp)]
    rw [show f65 n (⟨(notR r g).1.Limit, (notR r g).1.Last, (notR r g).1.Counts, (notR r g).1.Frames, (notR r g).1.Buckets⟩ : Recorder) (⟨(notR r g).1.Limit, (notR r g).1.Last, (notR r g).1.Counts, (notR r g).1.Frames, (notR r g).1.Buckets⟩ : Recorder) = some true from f65_refl hn _ (notR_len r g), Option.bind_some]
    dsimp only
    rw [if_neg (by decide), w64_id (by omega), show (i : Int) + 1 = ((i + 1 : Nat) : Int) by omega]
  obtain ⟨p, rfl⟩ : ∃ q, n = q + 3 := ⟨n - 3, by omega⟩
  have s1 := step (p + 2) 0 (by decide)
  have s2 := step (p + 1) 1 (by decide)
  rw [show ((0 : Nat) : Int) = 0 from rfl] at s1
  rw [s1, s2, f12_l2, if_neg (by simp)]

theorem f12_l3_is (a : Int) (j : Unit → Option Bool) (r : Recorder) (hl : r.Last.length ≤ 90000) (b : Int) (ha : -9223372036854775808 ≤ a ∧ a ≤ 9223372036854775807) (hb : -9223372036854775808 ≤ b ∧ b ≤ 9223372036854775807) : f12_l3 n a j r b n 0 = j () := by
  have step : ∀ (m i : Nat) (x : Int), i < 2 → lAt ([a, b] : List Int) (i : Int) = some x → (-9223372036854775808 ≤ x ∧ x ≤ 9223372036854775807) → f12_l3 n a j r b (m + 1) (i : Int) = f12_l3 n a j r b m ((i + 1 : Nat) : Int) := by
    intro m i x hi hx hxr
    rw [f12_l3, if_pos (by simp; omega), hx, Option.bind_some, show f38 n (⟨r.Limit, r.Last, r.Counts, r.Frames, r.Buckets⟩ : Recorder) x = some (meaR r x) from f38_is hn r hl x hxr, Option.bind_some,
      show f66 n (⟨r.Limit, r.Last, r.Counts, r.Frames, r.Buckets⟩ : Recorder) x = some (meaR r x) from f66_is hn r hl x hxr, Option.bind_some, joinK, joinK, if_neg (by simp)]
    rw [show f65 n (⟨(meaR r x).1.Limit, (meaR r x).1.Last, (meaR r x).1.Counts, (meaR r x).1.Frames, (meaR r x).1.Buckets⟩ : Recorder) (⟨(meaR r x).1.Limit, (meaR r x).1.Last, (meaR r x).1.Counts, (meaR r x).1.Frames, (meaR r x).1.Buckets⟩ : Recorder) = some true from f65_refl hn _ (meaR_len r x hl), Option.bind_some]
    dsimp only
    rw [if_neg (by decide), w64_id (by omega), show (i : Int) + 1 = ((i + 1 : Nat) : Int) by omega]
  obtain ⟨p, rfl⟩ : ∃ q, n = q + 3 := ⟨n - 3, by omega⟩
  have s1 := step (p + 2) 0 a (by decide) rfl ha
  have s2 := step (p + 1) 1 b (by decide) rfl hb
  rw [show ((0 : Nat) : Int) = 0 from rfl] at s1
  rw [s1, s2, f12_l3, if_neg (by simp)]

theorem f12_is (a0 a1 : List Int) (a2 : Recorder) (a3 : Glitch) (a4 a5 : Int) (h0 : a0.length ≤ 9223372036854775807) (h1 : a1.length ≤ 9223372036854775807) (h4 : -9223372036854775808 ≤ a4 ∧ a4 ≤ 9223372036854775807) : f12 n a0 a1 a2 a3 a4 a5 = some true := by
  rw [f12, f36_is hn]
  simp only [Option.bind_some, Bool.not_true, Bool.false_eq_true, if_false]
  by_cases c0 : (a2.Last.length : Int) > 10
  · rw [if_pos (by simpa using c0)]
  rw [if_neg (by simpa using c0)]
  obtain ⟨r, e1, hr⟩ := f51_is hn a0 h0
  have hrs := hr.short
  rw [e1, Option.bind_some, joinK]
  have step : ∀ (j : Unit → Option Bool) (m i : Nat), i < 2 → f12_l1 n a1 a2 a3 a4 r j (m + 1) (i : Int) = f12_l1 n a1 a2 a3 a4 r j m ((i + 1 : Nat) : Int) := by
    intro j m i hi
    rw [f12_l1, if_pos (by simp; omega), joinK]
    obtain ⟨x, hx, hxl⟩ : ∃ x, lAt ([(⟨r.Limit, r.Last, r.Counts, r.Frames, r.Buckets⟩ : Recorder), (⟨a2.Limit, a2.Last, a2.Counts, a2.Frames, a2.Buckets⟩ : Recorder)] : List Recorder) (i : Int) = some x ∧ x.Last.length ≤ 90000 := by
      obtain _ | _ | i := i
      · exact ⟨_, rfl, by dsimp only; omega⟩
      · exact ⟨_, rfl, by dsimp only; omega⟩
      · omega
    rw [hx, Option.bind_some, show f60 n (⟨x.Limit, x.Last, x.Counts, x.Frames, x.Buckets⟩ : Recorder) = some (decide (RecV x)) from f60_is hn x hxl, Option.bind_some, show f61 n (⟨x.Limit, x.Last, x.Counts, x.Frames, x.Buckets⟩ : Recorder) = some (decide (RecV x)) from f61_is hn x hxl, Option.bind_some, if_neg (by simp), joinK, f42, Option.bind_some]
    dsimp only
    obtain ⟨g, d', q1, q2, q3, _⟩ := f62_is (n := n) ⟨a1, 0⟩ ⟨Int.le_refl _, by dsimp only; omega, h1⟩
    rw [q1, Option.bind_some, f12_l2_is hn a3 x hxl, f39_is _ _ (by decide), Option.bind_some, f12_l3_is hn a4 _ x hxl _ h4 (by omega), w64_id (by omega), show (i : Int) + 1 = ((i + 1 : Nat) : Int) by omega]
  obtain ⟨p, hp⟩ : ∃ q, n = q + 3 := ⟨n - 3, by omega⟩
  have s1 := fun j => step j (p + 2) 0 (by decide)
  have s2 := fun j => step j (p + 1) 1 (by decide)
  rw [show ((0 : Nat) : Int) = 0 from rfl] at s1
  have e0 : ∀ j : Unit → Option Bool, f12_l1 n a1 a2 a3 a4 r j n 0 = j () := by
    intro j
    have t := (s1 j).trans ((s2 j).trans (show f12_l1 n a1 a2 a3 a4 r j (p + 1) ((1 + 1 : Nat) : Int) = j () by rw [f12_l1, if_neg (by simp)]))
    rwa [show p + 2 + 1 = n by omega] at t
  rw [e0, f37_is, f67_is, Option.bind_some, Option.bind_some, if_pos (by simp)]
  generalize hq : (if 1 ≤ a5 ∧ a5 ≤ 256 then ((⟨a5, [], aZ, 0, aZ⟩ : Recorder), (0 : Int)) else (zeroR, 2)) = q
  have hql : q.1.Last.length ≤ 90000 := by
    rw [← hq]
    split <;> exact Nat.zero_le _
  rw [show f65 n (⟨q.1.Limit, q.1.Last, q.1.Counts, q.1.Frames, q.1.Buckets⟩ : Recorder) (⟨q.1.Limit, q.1.Last, q.1.Counts, q.1.Frames, q.1.Buckets⟩ : Recorder) = some true from f65_refl hn _ hql, Option.bind_some]

end
end Go.Proofs.Ytacdknbakjbpiaa
