/-
  The laws RingMoves, RingClears, RingParts, plain.
-/
import Derived.Test.YtacdknbakjbpiaaR2
import Derived.Test.YtacdknbakjbpiaaGc
namespace Go.Proofs.Ytacdknbakjbpiaa
open Go Ab

theorem f23_r {n : Nat} (r : Ring) (hl : r.Data.length ≤ 1000000000) (hn : r.Data.length < n) : f23 n (⟨r.Channels, r.Capacity, r.Written, r.Read, r.Data⟩ : Ring) (⟨r.Channels, r.Capacity, r.Written, r.Read, r.Data⟩ : Ring) = some true := f23_is r hl hn
theorem f24_b {n : Nat} (b : Block) (hl : b.Data.length ≤ 1000000000) (hn : b.Data.length < n) : f24 n (⟨b.Channels, b.Data⟩ : Block) (⟨b.Channels, b.Data⟩ : Block) = some true := f24_is b hl hn

/-! ### RingMoves -/

theorem f5_l2_is {n : Nat} (hn : 10000 ≤ n) (a1 y675 : Block) (x : Ring) (y674 : Int × Dice) (j : List Int → Option Bool) (hx : x.Data.length ≤ 300) (h1 : a1.Data.length ≤ 300) (h2 : y675.Data.length ≤ 300) : f5_l2 n a1 x j y674 y675 n 0 = j y674.2.l := by
  obtain ⟨m, e⟩ : ∃ m, n = m + 3 := ⟨n - 3, by omega⟩
  have hgo : ∀ (y : Block) (m : Nat) (i : Int), lAt [(⟨a1.Channels, a1.Data⟩ : Block), y675] i = some y → y.Data.length ≤ 300 → 0 ≤ i ∧ i < 2 → f5_l2 n a1 x j y674 y675 (m + 1) i = f5_l2 n a1 x j y674 y675 m (i + 1) := by
    intro y m i h3 h4 h5
    have hl := wr_len' (r := x) (b := y)
    rw [f5_l2, if_pos (by simp; omega), h3, Option.bind_some, show f16 n (⟨x.Channels, x.Capacity, x.Written, x.Read, x.Data⟩ : Ring) (⟨y.Channels, y.Data⟩ : Block) = some (wrR x y) from f16_is x y (by omega) (by omega) (by omega), Option.bind_some,
      show f27 n (⟨x.Channels, x.Capacity, x.Written, x.Read, x.Data⟩ : Ring) (⟨y.Channels, y.Data⟩ : Block) = some (wrR x y) from f27_is x y (by omega) (by omega) (by omega), Option.bind_some]
    simp only [joinK]
    rw [if_neg (by simp), if_neg (by simp), f23_r _ (by omega) (by omega), Option.bind_some]
    rw [if_neg (by simp), w64_id (by omega)]
  rw [show f5_l2 n a1 x j y674 y675 n 0 = f5_l2 n a1 x j y674 y675 (m + 3) 0 by rw [← e]]
  rw [hgo _ _ 0 rfl h1 (by omega), hgo y675 _ (0 + 1) rfl h2 (by omega), f5_l2, if_neg (by simp)]

theorem f5_l3_is {n : Nat} (hn : 10000 ≤ n) (a3 : Int) (x : Ring) (j : Unit → Option Bool) (hx : x.Data.length ≤ 300) (h3 : a3 ≤ 500 ∨ a3 > 65536) (ha : -9223372036854775808 ≤ a3 ∧ a3 ≤ 9223372036854775807) : f5_l3 n a3 x j n 0 = j () := by
  obtain ⟨m, e⟩ : ∃ m, n = m + 3 := ⟨n - 3, by omega⟩
  have hgo : ∀ (y : Int) (m : Nat) (i : Int), lAt ([a3, Int.tmod (w64 ((Int.tmod a3 (20 : Int)) + (20 : Int))) (20 : Int)] : List Int) i = some y → (y ≤ 500 ∨ y > 65536) → 0 ≤ i ∧ i < 2 → f5_l3 n a3 x j (m + 1) i = f5_l3 n a3 x j m (i + 1) := by
    intro y m i h4 h5 h6
    have hl := rd_len' (r := x) h5
    rw [f5_l3, if_pos (by simp; omega), h4, Option.bind_some, show f17 n (⟨x.Channels, x.Capacity, x.Written, x.Read, x.Data⟩ : Ring) y = some (rdR x y) from f17_is x y (by omega) (by omega), Option.bind_some,
      show f28 n (⟨x.Channels, x.Capacity, x.Written, x.Read, x.Data⟩ : Ring) y = some (rdR x y) from f28_is x y (by omega) (by omega), Option.bind_some]
    simp only [joinK]
    rw [if_neg (by simp), if_neg (by simp), f23_r _ (by omega) (by omega), Option.bind_some]
    rw [if_neg (by simp), f24_b _ (by omega) (by omega), Option.bind_some, if_neg (by simp), w64_id (by omega)]
  rw [show f5_l3 n a3 x j n 0 = f5_l3 n a3 x j (m + 3) 0 by rw [← e]]
  have h20 : Int.tmod (w64 ((Int.tmod a3 (20 : Int)) + (20 : Int))) (20 : Int) ≤ 500 := by
    have := Int.tmod_lt_of_pos (w64 ((Int.tmod a3 (20 : Int)) + (20 : Int))) (show (0 : Int) < 20 by omega)
    omega
  rw [hgo _ _ 0 rfl h3 (by omega), hgo _ _ (0 + 1) rfl (.inl h20) (by omega), f5_l3, if_neg (by simp)]

theorem f5_l1_is {n : Nat} (hn : 10000 ≤ n) (a0 : Ring) (a1 : Block) (a3 : Int) (j : Unit → Option Bool) (y : Ring × Dice) (h0 : a0.Data.length ≤ 300) (h1 : a1.Data.length ≤ 300) (h3 : a3 ≤ 500 ∨ a3 > 65536) (ha : -9223372036854775808 ≤ a3 ∧ a3 ≤ 9223372036854775807) (hy : y.1.Data.length ≤ 300) (d : List Int) (hd : AreBytes d) (hdl : d.length ≤ 1000) :
    f5_l1 n a0 a1 a3 j y n d 0 = j () := by
  obtain ⟨m, e⟩ : ∃ m, n = m + 3 := ⟨n - 3, by omega⟩
  have hgo : ∀ (x : Ring) (m : Nat) (i : Int) (d : List Int), lAt ([(⟨a0.Channels, a0.Capacity, a0.Written, a0.Read, a0.Data⟩ : Ring), y.1] : List Ring) i = some x → x.Data.length ≤ 300 → 0 ≤ i ∧ i < 2 → AreBytes d → d.length ≤ 1000 →
      ∃ d' : List Int, AreBytes d' ∧ d'.length ≤ 1000 ∧ f5_l1 n a0 a1 a3 j y (m + 1) d i = f5_l1 n a0 a1 a3 j y m d' (i + 1) := by
    intro x m i d h4 h5 h6 h7 h8
    obtain ⟨v, d', e1, v1, v2, v3, v4⟩ := f26_is (n := n) (⟨d⟩ : Dice) h7 h8 20 (by omega)
    obtain ⟨b, e2, b1, b2, b3⟩ := f21_is (n := n) (by omega) 1 1 0 v (by omega) (by omega) (by omega) v1
    refine ⟨d'.l, v3, v4, ?_⟩
    rw [f5_l1, if_pos (by simp; omega)]
    simp only [joinK]
    rw [h4, Option.bind_some, e1, Option.bind_some, e2, Option.bind_some, f5_l2_is hn _ _ _ _ _ h5 h1 (by omega), f5_l3_is hn _ _ _ h5 h3 ha]
    have hcl : (clR x).1.Data.length ≤ 300 := by unfold clR; split <;> simp
    rw [show f29 n (⟨x.Channels, x.Capacity, x.Written, x.Read, x.Data⟩ : Ring) = some (clR x) from f29_is x (by omega) (by omega), Option.bind_some, show f30 n (⟨x.Channels, x.Capacity, x.Written, x.Read, x.Data⟩ : Ring) = some (clR x) from f30_is x (by omega) (by omega), Option.bind_some]
    rw [if_neg (by simp), f23_r _ (by omega) (by omega), Option.bind_some, if_neg (by simp)]
    rw [show f31 n (⟨x.Channels, x.Capacity, x.Written, x.Read, x.Data⟩ : Ring) = some (decide (RngV x)) from f31_is x (by omega) (by omega), Option.bind_some, show f32 n (⟨x.Channels, x.Capacity, x.Written, x.Read, x.Data⟩ : Ring) = some (decide (RngV x)) from f32_is x (by omega) (by omega), Option.bind_some, if_neg (by simp)]
    rw [show f18 n (⟨x.Channels, x.Capacity, x.Written, x.Read, x.Data⟩ : Ring) = some (flR x) from f18_is x (by omega) (by omega), Option.bind_some, show f33 n (⟨x.Channels, x.Capacity, x.Written, x.Read, x.Data⟩ : Ring) = some (flR x) from f33_is x (by omega) (by omega), Option.bind_some, if_neg (by simp), w64_id (by omega)]
  rw [show f5_l1 n a0 a1 a3 j y n d 0 = f5_l1 n a0 a1 a3 j y (m + 3) d 0 by rw [← e]]
  obtain ⟨d1, p1, p2, p3⟩ := hgo _ (m + 2) 0 d rfl h0 (by omega) hd hdl
  obtain ⟨d2, q1, q2, q3⟩ := hgo y.1 (m + 1) (0 + 1) d1 rfl hy (by omega) p1 p2
  rw [p3, q3, f5_l1, if_neg (by simp)]

theorem f5_is {n : Nat} (hn : 10000 ≤ n) (a0 : Ring) (a1 : Block) (a2 : List Int) (a3 a4 a5 : Int) (h2 : AreBytes a2) (h2l : a2.length ≤ 9223372036854775807) (ha : -9223372036854775808 ≤ a3 ∧ a3 ≤ 9223372036854775807) : f5 n a0 a1 a2 a3 a4 a5 = some true := by
  rw [f5, f14_is hn, Option.bind_some]
  simp only [joinK, Bool.not_true, Bool.false_eq_true, if_false]
  by_cases c1 : (a0.Data.length : Int) > 300
  · rw [if_pos (by simpa using c1)]
  rw [if_neg (by simpa using c1), f25, Option.bind_some]
  by_cases c2 : (a1.Data.length : Int) ≤ 300
  case neg => rw [if_pos (by simpa using c2)]
  rw [if_neg (by simpa using c2)]
  have main : (a3 ≤ 500 ∨ a3 > 65536) → ((f20 n a2).bind fun y26 => (f19 n (⟨y26.l⟩ : Dice)).bind fun y330 =>
      f5_l1 n a0 a1 a3 (fun _ => (f15 n a4 a5).bind fun y850 =>
  (f34 n a4 a5).bind fun y851 =>
  if (y850.2 == y851.2) = true then (
  (f23 n (⟨y850.1.Channels, y850.1.Capacity, y850.1.Written, y850.1.Read, y850.1.Data⟩ : Ring) (⟨y851.1.Channels, y851.1.Capacity, y851.1.Written, y851.1.Read, y851.1.Data⟩ : Ring)).bind fun y855 =>
  some y855)
  else (
  some false)) y330 n y330.2.l 0) = some true := by
    intro h3
    obtain ⟨d, e1, d1, d2⟩ := f20_is (n := n) a2 h2 h2l
    obtain ⟨r, d', e2, r1, r2, r3, r4⟩ := f19_is hn d d1 d2
    have := r1.len
    rw [e1, Option.bind_some, show f19 n (⟨d.l⟩ : Dice) = some (r, d') from e2, Option.bind_some, f5_l1_is hn _ _ _ _ _ (by omega) (by omega) h3 ha (by show r.Data.length ≤ 300; omega) _ r3 r4]
    have hnl : (nwR a4 a5).1.Data.length = 0 := by unfold nwR; split <;> rfl
    rw [f15_is (by omega), Option.bind_some, f34_is (by omega), Option.bind_some, if_pos (by simp), f23_r _ (by omega) (by omega)]
    rfl
  by_cases c3 : a3 > 500
  · rw [if_pos (by simpa using c3)]
    by_cases c4 : a3 ≤ 65536
    · rw [if_pos (by simpa using c4)]
    · rw [if_neg (by simpa using c4)]
      exact main (.inr (by omega))
  · rw [if_neg (by simpa using c3)]
    exact main (.inl (by omega))

end Go.Proofs.Ytacdknbakjbpiaa
