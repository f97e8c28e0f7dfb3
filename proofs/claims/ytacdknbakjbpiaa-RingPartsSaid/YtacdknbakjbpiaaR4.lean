/-
  The laws RingClears and RingParts, plain.
-/
import Derived.Test.YtacdknbakjbpiaaR2
import Derived.Test.YtacdknbakjbpiaaGc
namespace Go.Proofs.Ytacdknbakjbpiaa
open Go Ab

theorem f23_e {n : Nat} (r s : Ring) (h : r = s) (hl : r.Data.length ≤ 1000000000) (hn : r.Data.length < n) : f23 n (⟨r.Channels, r.Capacity, r.Written, r.Read, r.Data⟩ : Ring) (⟨s.Channels, s.Capacity, s.Written, s.Read, s.Data⟩ : Ring) = some true := by
  subst h
  exact f23_is r hl hn
theorem f24_e {n : Nat} (b c : Block) (h : b = c) (hl : b.Data.length ≤ 1000000000) (hn : b.Data.length < n) : f24 n b (⟨c.Channels, c.Data⟩ : Block) = some true := by
  subst h
  exact f24_is b hl hn
theorem f16_e {n : Nat} (r : Ring) (b : Block) (hr : r.Data.length ≤ 100000000) (hb : b.Data.length ≤ 100000000) (hn : 10 ≤ n ∧ r.Data.length < n ∧ b.Data.length < n) : f16 n (⟨r.Channels, r.Capacity, r.Written, r.Read, r.Data⟩ : Ring) (⟨b.Channels, b.Data⟩ : Block) = some (wrR r b) := f16_is r b hr hb hn
theorem f17_e {n : Nat} (r : Ring) (m : Int) (hr : r.Data.length ≤ 100000000) (hn : r.Data.length < n) : f17 n (⟨r.Channels, r.Capacity, r.Written, r.Read, r.Data⟩ : Ring) m = some (rdR r m) := f17_is r m hr hn

theorem wave_A {b : Block} {c k : Int} (h1 : b.Channels = c) (h2 : (b.Data.length : Int) = c * k) (hc : 1 ≤ c) : wA b = k := by
  show (b.Data.length : Int) / b.Channels = k
  rw [h2, h1]
  exact Int.mul_ediv_cancel_left _ (by omega)

theorem f6_l1_is {n : Nat} (y : Block × Int × Ring × Int) (hy : ∀ x ∈ y.1.Data, x = 0) (hl : y.1.Data.length ≤ 100000) (j : Unit → Option Bool) : ∀ (d m i : Nat), i + d = y.1.Data.length → d < m → f6_l1 n y j m (i : Int) = j () := by
  intro d
  induction d with
  | zero =>
    intro m i h1 h2
    obtain ⟨m, rfl⟩ : ∃ q, m = q + 1 := ⟨m - 1, by omega⟩
    rw [f6_l1, if_neg (by simp; omega)]
  | succ d ih =>
    intro m i h1 h2
    obtain ⟨m, rfl⟩ : ∃ q, m = q + 1 := ⟨m - 1, by omega⟩
    rw [f6_l1, if_pos (by simp; omega), lAt_nat (by omega), Option.bind_some, hy _ (List.getElem_mem _), if_neg (by simp), w64_id (by omega), show (i : Int) + 1 = ((i + 1 : Nat) : Int) by omega, ih _ _ (by omega) (by omega)]

theorem f6_is {n : Nat} (hn : 10000 ≤ n) (l : List Int) (hb : AreBytes l) (hl : l.length ≤ 9223372036854775807) (a : Int) (ha : 0 ≤ a ∧ a < 256) : f6 n l a = some true := by
  rw [f6, f14_is hn]
  simp only [Option.bind_some, joinK, Bool.not_true, Bool.false_eq_true, if_false]
  obtain ⟨d, e1, d1, d2⟩ := f20_is (n := n) l hb hl
  obtain ⟨r, d', e2, r1, r2, r3, r4⟩ := f19_is hn d d1 d2
  rw [e1, Option.bind_some, show f19 n (⟨d.l⟩ : Dice) = some (r, d') from e2, Option.bind_some]
  have hrl := r1.len
  obtain ⟨hv, hc2, hk⟩ := r1
  have hq := hv.len
  obtain ⟨C, hcl, C1, C2, C3, C4, C5, hcv⟩ : ∃ C : Ring, clR r = (C, 0) ∧ C.Channels = r.Channels ∧ C.Capacity = r.Capacity ∧ C.Written = r.Written ∧ C.Read = r.Written ∧ C.Data = [] ∧ RngV C :=
    ⟨_, cl_ok hv, rfl, rfl, rfl, rfl, rfl, by have := cl_valid hv; rw [cl_ok hv] at this; exact this⟩
  obtain ⟨v1, v2, v3, v4, v5, v6, v7, v8⟩ := hv
  rw [show f29 n (⟨r.Channels, r.Capacity, r.Written, r.Read, r.Data⟩ : Ring) = some (clR r) from f29_is r (by omega) (by omega), Option.bind_some, hcl]
  dsimp only
  rw [w64_id (x := Int.tmod a 40) (by have := Int.tmod_lt_of_pos a (show (0 : Int) < 40 by omega); have := Int.tmod_nonneg 40 ha.1; omega), w64_id (x := Int.tmod a 9) (by have := Int.tmod_lt_of_pos a (show (0 : Int) < 9 by omega); have := Int.tmod_nonneg 9 ha.1; omega)]
  have hm1 := Int.tmod_lt_of_pos a (show (0 : Int) < 40 by omega)
  have hm0 := Int.tmod_nonneg 40 ha.1
  have hk1 := Int.tmod_lt_of_pos a (show (0 : Int) < 9 by omega)
  have hk0 := Int.tmod_nonneg 9 ha.1
  generalize Int.tmod a 40 = m at hm1 hm0
  generalize Int.tmod a 9 = k at hk1 hk0
  -- nothing waits
  obtain ⟨B, hB, B1, B2⟩ : ∃ B : Block, rdR C m = (B, m, C, 0) ∧ (∀ x ∈ B.Data, x = 0) ∧ B.Data.length ≤ 400 := by
    have hK : rK C m = 0 := by unfold rK; rw [C3, C4]; omega
    have hmul : m * C.Channels ≤ 40 * 8 := Int.mul_le_mul (by omega) (by omega) (by omega) (by omega)
    refine ⟨⟨C.Channels, List.replicate (m * C.Channels).toNat 0⟩, ?_, fun x hx => (List.mem_replicate.1 hx).2, by simp; omega⟩
    rw [rd_ok hcv (by omega), hK, C5]
    obtain ⟨c1, c2, c3, c4, c5⟩ := C
    simp at C5
    simp [C5]
  rw [show f17 n C m = some (rdR C m) from f17_is C m (by rw [C5]; simp) (by rw [C5]; simp; omega), Option.bind_some, hB, iMin_eq]
  obtain ⟨w, e3, w1, w2, w3⟩ := f21_is (n := n) (by omega) 3 r.Channels 0 (min r.Capacity k) ⟨hq.2.1, hq.2.2.1⟩ (by omega) (by omega) (by omega)
  rw [e3, Option.bind_some]
  have hwA := wave_A w1 w2 hq.2.1
  have hwl : w.Data.length ≤ 72 := by
    have : r.Channels * (min r.Capacity k) ≤ 8 * 9 := Int.mul_le_mul hq.2.2.1 (by omega) (by omega) (by omega)
    omega
  have hwl2 := w3.len
  have htk : w.Data.take (wA w * w.Channels).toNat = w.Data := by rw [← hwl2.1]; exact List.take_of_length_le (by omega)
  obtain ⟨D, hD, D1, D2, D3, D4⟩ : ∃ D : Ring, wrR C w = (D, 0, 0) ∧ RngV D ∧ D.Written - D.Read = wA w ∧ D.Data = w.Data ∧ D.Channels = w.Channels := by
    have hwK : wK C w = wA w := by unfold wK; rw [C2, C3, C4, hwA]; omega
    have hwo := wr_ok hcv w3 (by rw [w1, C1]) (by rw [C3, hwK, hwA]; omega)
    have hwv := wr_valid hcv w3 (by rw [w1, C1]) (by rw [C3, hwK, hwA]; omega)
    rw [hwo] at hwv
    refine ⟨_, by rw [hwo, hwK, Int.sub_self], by rw [hwK] at hwv; exact hwv, by show C.Written + wA w - C.Read = wA w; rw [C3, C4]; omega, ?_, by show C.Channels = w.Channels; rw [C1, w1]⟩
    show C.Data ++ w.Data.take (wA w * w.Channels).toNat = w.Data
    rw [htk, C5, List.nil_append]
  rw [show f16 n C (⟨w.Channels, w.Data⟩ : Block) = some (wrR C w) from f16_is C w (by rw [C5]; simp) (by omega) (by rw [C5]; simp; omega), Option.bind_some, hD]
  rw [show f35 n (⟨w.Channels, w.Data⟩ : Block) = some (wA w) from f35_is w (by omega) (by omega) w3, Option.bind_some]
  obtain ⟨E, hE⟩ : ∃ E : Ring, rdR D (wA w) = (w, 0, E, 0) := by
    have hK : rK D (wA w) = wA w := by unfold rK; omega
    rw [rd_ok D1 (by omega), hK, D3, D4, htk, Int.sub_self]
    refine ⟨_, Prod.ext ?_ rfl⟩
    simp
  dsimp only
  rw [show f17 n D (wA w) = some (rdR D (wA w)) from f17_is D (wA w) (by rw [D3]; omega) (by rw [D3]; omega), Option.bind_some, hE]
  have hloop := fun j => f6_l1_is (n := n) (B, m, C, 0) B1 (by show B.Data.length ≤ 100000; omega) j B.Data.length n 0 (by show 0 + B.Data.length = B.Data.length; omega) (by omega)
  rw [show ((0 : Nat) : Int) = 0 from rfl] at hloop
  rw [hloop]
  dsimp only
  rw [if_pos (by simp), if_pos (by simp), if_pos (by simp), if_pos (by simp), if_pos (by simp), f23_is C (by rw [C5]; simp) (by rw [C5]; simp; omega), Option.bind_some, if_pos rfl]
  rw [if_pos (by simp [C3]), if_pos (by simp [C4]), f18_is C (by rw [C5]; simp) (by rw [C5]; simp; omega), Option.bind_some, flR, if_pos hcv, C3, C4, if_pos (by simp), if_pos (by simp), if_pos (by simp)]
  rw [f24_is w (by omega) (by omega)]
  rfl

end Go.Proofs.Ytacdknbakjbpiaa
