/-
  The law RingParts, plain.
-/
import Derived.Test.YtacdknbakjbpiaaR4
namespace Go.Proofs.Ytacdknbakjbpiaa
open Go Ab

theorem take_take_add {l : List Int} {a b : Int} (ha : 0 ≤ a) (hb : 0 ≤ b) : l.take (a + b).toNat = l.take a.toNat ++ (l.drop a.toNat).take b.toNat := by
  rw [Int.toNat_add ha hb, List.take_add]

theorem blk_join {a b : Block} (ha : BlkV a) (hb : BlkV b) (hc : a.Channels = b.Channels) (hA : wA a + wA b ≤ 65536) : BlkV ⟨a.Channels, a.Data ++ b.Data⟩ ∧ wA ⟨a.Channels, a.Data ++ b.Data⟩ = wA a + wA b := by
  have h1 := ha.len
  have h2 := hb.len
  obtain ⟨a1, a2, a3, a4, a5⟩ := ha
  have e : (((a.Data ++ b.Data).length : Nat) : Int) = (wA a + wA b) * a.Channels := by
    rw [List.length_append, Int.natCast_add, h1.1, h2.1, Int.add_mul, hc]
  have hw : (((a.Data ++ b.Data).length : Nat) : Int) / a.Channels = wA a + wA b := by rw [e]; exact Int.mul_ediv_cancel _ (by omega)
  refine ⟨⟨a1, a2, by show (((a.Data ++ b.Data).length : Nat) : Int) % a.Channels = 0; rw [e, Int.mul_emod_left], by show (((a.Data ++ b.Data).length : Nat) : Int) / a.Channels ≤ 65536; rw [hw]; exact hA, fun x hx => ?_⟩, hw⟩
  rcases List.mem_append.1 hx with hx | hx
  · exact a5 x hx
  · exact hb.2.2.2.2 x hx

theorem wr_two {r : Ring} {a b : Block} (hr : RngV r) (ha : BlkV a) (hb : BlkV b) (hac : a.Channels = r.Channels) (hbc : b.Channels = r.Channels) (hA : wA a + wA b ≤ 65536) (hW : r.Written + wA a + wA b ≤ 1125899906842624) :
    (wrR r a).2.2 = 0 ∧ (wrR (wrR r a).1 b).2.2 = 0 ∧ (wrR r ⟨a.Channels, a.Data ++ b.Data⟩).2.2 = 0 ∧ 0 ≤ (wrR r a).2.1 ∧ (wrR r a).2.1 ≤ wA a ∧ 0 ≤ (wrR (wrR r a).1 b).2.1 ∧ (wrR (wrR r a).1 b).2.1 ≤ wA b ∧
    (wrR r a).2.1 + (wrR (wrR r a).1 b).2.1 = (wrR r ⟨a.Channels, a.Data ++ b.Data⟩).2.1 ∧ ((wrR r a).2.1 = 0 → (wrR (wrR r a).1 b).1 = (wrR r ⟨a.Channels, a.Data ++ b.Data⟩).1) ∧ RngV (wrR r a).1 ∧ RngV (wrR r ⟨a.Channels, a.Data ++ b.Data⟩).1 := by
  obtain ⟨hj, hjA⟩ := blk_join ha hb (hac.trans hbc.symm) hA
  have hla := ha.len
  have hlb := hb.len
  have hk1 := wK_rng hr ha
  have hk3 := wK_rng hr hj
  rw [hjA] at hk3
  have e1 := wr_ok hr ha hac (by omega)
  have v1 := wr_valid hr ha hac (by omega)
  have e3 := wr_ok (b := ⟨a.Channels, a.Data ++ b.Data⟩) hr hj hac (by omega)
  have v3 := wr_valid (b := ⟨a.Channels, a.Data ++ b.Data⟩) hr hj hac (by omega)
  have hk2 := wK_rng v1 hb
  have hK2 : wK (wrR r a).1 b = min (wA b) (r.Capacity - (r.Written - r.Read) - wK r a) := by
    unfold wK
    rw [e1]
    show min (wA b) (r.Capacity - (r.Written + wK r a - r.Read)) = _
    rw [show r.Capacity - (r.Written + wK r a - r.Read) = r.Capacity - (r.Written - r.Read) - wK r a by omega]
    rfl
  have e2 := wr_ok v1 hb (by rw [e1]; exact hbc) (by rw [e1] at hk2 ⊢; show r.Written + wK r a + wK _ b ≤ _; omega)
  have hK1 : wK r a = min (wA a) (r.Capacity - (r.Written - r.Read)) := rfl
  have hK3 : wK r ⟨a.Channels, a.Data ++ b.Data⟩ = min (wA a + wA b) (r.Capacity - (r.Written - r.Read)) := by unfold wK; rw [hjA]
  have hf : r.Written - r.Read ≤ r.Capacity := hr.2.2.2.2.2.2.2
  have hsum : wK r ⟨a.Channels, a.Data ++ b.Data⟩ = wK r a + wK (wrR r a).1 b := by rw [hK2, hK3, hK1]; omega
  refine ⟨by rw [e1], by rw [e2], by rw [e3], by rw [e1]; show 0 ≤ wA a - wK r a; omega, by rw [e1]; show wA a - wK r a ≤ wA a; omega, by rw [e2]; show 0 ≤ wA b - wK (wrR r a).1 b; omega, by rw [e2]; show wA b - wK (wrR r a).1 b ≤ wA b; omega, ?_, fun h0 => ?_, v1, v3⟩
  · rw [e2, e3]
    show (wrR r a).2.1 + (wA b - wK (wrR r a).1 b) = wA ⟨a.Channels, a.Data ++ b.Data⟩ - wK r ⟨a.Channels, a.Data ++ b.Data⟩
    rw [hjA, hsum, e1]
    show wA a - wK r a + (wA b - wK _ b) = wA a + wA b - (wK r a + wK _ b)
    omega
  · have h0' : wK r a = wA a := by rw [e1] at h0; have : wA a - wK r a = 0 := h0; omega
    rw [e2, e3, hsum]
    have hA0 : 0 ≤ wA a * a.Channels := by omega
    have hB0 : 0 ≤ wK (wrR r a).1 b * a.Channels := Int.mul_nonneg hk2.1 (by have := ha.1; omega)
    have et : List.take ((wK r a + wK (wrR r a).1 b) * a.Channels).toNat (a.Data ++ b.Data) = a.Data ++ List.take (wK (wrR r a).1 b * b.Channels).toNat b.Data := by
      rw [h0', Int.add_mul, ← hla.1, take_take_add (by omega) hB0, Int.toNat_natCast, List.take_left, List.drop_left, hbc, hac]
    dsimp only
    rw [et]
    have ew : (wrR r a).1 = ⟨r.Channels, r.Capacity, r.Written + wK r a, r.Read, r.Data ++ a.Data⟩ := by
      rw [e1, h0']
      have : List.take (wA a * a.Channels).toNat a.Data = a.Data := by rw [← hla.1]; exact List.take_of_length_le (by omega)
      rw [this]
    generalize wK (wrR r a).1 b = q
    rw [ew]
    simp [Int.add_assoc, List.append_assoc]

theorem rd_two {z : Ring} {p q : Int} (hz : RngV z) (hp : 0 ≤ p ∧ p ≤ 1000) (hq : 0 ≤ q ∧ q ≤ 1000) :
    (rdR z p).2.2.2 = 0 ∧ (rdR (rdR z p).2.2.1 q).2.2.2 = 0 ∧ (rdR z (p + q)).2.2.2 = 0 ∧ 0 ≤ (rdR z p).2.1 ∧ (rdR z p).2.1 ≤ 1000 ∧ 0 ≤ (rdR (rdR z p).2.2.1 q).2.1 ∧ (rdR (rdR z p).2.2.1 q).2.1 ≤ 1000 ∧ (rdR z p).2.1 + (rdR (rdR z p).2.2.1 q).2.1 = (rdR z (p + q)).2.1 ∧
    (rdR (rdR z p).2.2.1 q).2.2.1 = (rdR z (p + q)).2.2.1 ∧ (rdR z p).1.Data ++ (rdR (rdR z p).2.2.1 q).1.Data = (rdR z (p + q)).1.Data ∧ (rdR z p).1.Channels = (rdR z (p + q)).1.Channels := by
  have hl := hz.len
  have e1 := rd_ok (m := p) hz (by omega)
  have v1 := rd_valid (m := p) hz (by omega)
  have e2 := rd_ok (m := q) v1 (by omega)
  have e3 := rd_ok (m := p + q) hz (by omega)
  have hf : 0 ≤ z.Written - z.Read := by have := hz.2.2.2.1; omega
  have hK2 : rK (rdR z p).2.2.1 q = min q (z.Written - z.Read - rK z p) := by
    unfold rK
    rw [e1]
    show min q (z.Written - (z.Read + rK z p)) = _
    rw [show z.Written - (z.Read + rK z p) = z.Written - z.Read - rK z p by omega]
    rfl
  have hK1 : rK z p = min p (z.Written - z.Read) := rfl
  have hK3 : rK z (p + q) = rK z p + rK (rdR z p).2.2.1 q := by rw [hK2]; unfold rK; omega
  have h1 : 0 ≤ rK z p ∧ rK z p ≤ p := by rw [hK1]; omega
  have h2 : 0 ≤ rK (rdR z p).2.2.1 q ∧ rK (rdR z p).2.2.1 q ≤ q := by rw [hK2]; omega
  have hcase : rK z p = p ∨ rK (rdR z p).2.2.1 q = 0 := by rw [hK2, hK1]; omega
  rw [e3, e2, hK3]
  generalize rK (rdR z p).2.2.1 q = k2 at h2 hcase
  rw [e1]
  generalize rK z p = k1 at h1 hcase
  have m1 : 0 ≤ k1 * z.Channels := Int.mul_nonneg h1.1 (by omega)
  have m2 : 0 ≤ k2 * z.Channels := Int.mul_nonneg h2.1 (by omega)
  dsimp only
  refine ⟨rfl, rfl, rfl, by omega, by omega, by omega, by omega, by omega, ?_, ?_, rfl⟩
  · rw [List.drop_drop, Int.add_mul, Int.toNat_add m1 m2, Int.add_assoc]
  · rw [Int.add_mul, take_take_add m1 m2]
    rcases hcase with h | h
    · subst h
      rw [Int.sub_self, Int.zero_mul, show ((0 : Int).toNat) = 0 from rfl, List.replicate_zero, List.append_nil, List.append_assoc, show k1 + q - (k1 + k2) = q - k2 by omega]
    · subst h
      rw [Int.zero_mul, show ((0 : Int).toNat) = 0 from rfl, List.take_zero, List.nil_append, List.append_nil, List.append_assoc, List.replicate_append_replicate]
      congr 2
      have a1 : 0 ≤ (p - k1) * z.Channels := Int.mul_nonneg (by omega) (by omega)
      have a2 : 0 ≤ (q - 0) * z.Channels := Int.mul_nonneg (by omega) (by omega)
      rw [← Int.toNat_add a1 a2, ← Int.add_mul]
      congr 2
      omega

theorem f4_is {n : Nat} (hn : 10000 ≤ n) (l : List Int) (hb : AreBytes l) (hl : l.length ≤ 9223372036854775807) (a b c : Int) (ha : 0 ≤ a ∧ a < 256) (hb' : 0 ≤ b ∧ b < 256) (hc : 0 ≤ c ∧ c < 256) : f4 n l a b c = some true := by
  rw [f4, f14_is hn]
  simp only [Option.bind_some, joinK, Bool.not_true, Bool.false_eq_true, if_false]
  obtain ⟨d, e1, d1, d2⟩ := f20_is (n := n) l hb hl
  obtain ⟨r, d', e2, r1, r2, r3, r4⟩ := f19_is hn d d1 d2
  rw [e1, Option.bind_some, show f19 n (⟨d.l⟩ : Dice) = some (r, d') from e2, Option.bind_some]
  have hrl := r1.len
  obtain ⟨hv, hc2, hk⟩ := r1
  have hq := hv.len
  have a1 := Int.tmod_lt_of_pos a (show (0 : Int) < 6 by omega)
  have a0 := Int.tmod_nonneg 6 ha.1
  have b1 := Int.tmod_lt_of_pos b (show (0 : Int) < 6 by omega)
  have b0 := Int.tmod_nonneg 6 hb'.1
  have c1 := Int.tmod_lt_of_pos c (show (0 : Int) < 6 by omega)
  have c0 := Int.tmod_nonneg 6 hc.1
  rw [w64_id (x := Int.tmod a 6) (by omega), w64_id (x := Int.tmod b 6) (by omega), w64_id (x := Int.tmod c 6) (by omega)]
  generalize Int.tmod a 6 = p at a1 a0
  generalize Int.tmod b 6 = m at b1 b0
  generalize Int.tmod c 6 = q at c1 c0
  obtain ⟨A, e3, w1, w2, w3⟩ := f21_is (n := n) (by omega) 1 r.Channels 0 p ⟨hq.2.1, hq.2.2.1⟩ (by omega) (by omega) (by omega)
  obtain ⟨B, e4, x1, x2, x3⟩ := f21_is (n := n) (by omega) 1 r.Channels p m ⟨hq.2.1, hq.2.2.1⟩ (by omega) (by omega) (by omega)
  dsimp only
  rw [e3, Option.bind_some, e4, Option.bind_some]
  have hAA := wave_A w1 w2 hq.2.1
  have hBA := wave_A x1 x2 hq.2.1
  have hAl : A.Data.length ≤ 40 := by
    have : r.Channels * p ≤ 8 * 5 := Int.mul_le_mul hq.2.2.1 (by omega) (by omega) (by omega)
    omega
  have hBl : B.Data.length ≤ 40 := by
    have : r.Channels * m ≤ 8 * 5 := Int.mul_le_mul hq.2.2.1 (by omega) (by omega) (by omega)
    omega
  obtain ⟨t1, t2, t3, t4, t5, t6, t7, t8, t9, t10, t11⟩ := wr_two hv w3 x3 w1 x1 (by omega) (by omega)
  have l1 := wr_len' (r := r) (b := A)
  have l2 := wr_len' (r := (wrR r A).1) (b := B)
  have l3 := wr_len' (r := r) (b := ⟨A.Channels, A.Data ++ B.Data⟩)
  simp only [List.length_append] at l3
  rw [f16_e r A (by omega) (by omega) (by omega), Option.bind_some, f16_e (wrR r A).1 B (by omega) (by omega) (by omega), Option.bind_some, show f22 n (⟨A.Channels, A.Data⟩ : Block) (⟨B.Channels, B.Data⟩ : Block) = some ⟨A.Channels, A.Data ++ B.Data⟩ from f22_is A B (by omega), Option.bind_some]
  rw [show f16 n (⟨r.Channels, r.Capacity, r.Written, r.Read, r.Data⟩ : Ring) (⟨A.Channels, A.Data ++ B.Data⟩ : Block) = some (wrR r ⟨A.Channels, A.Data ++ B.Data⟩) from f16_is r _ (by omega) (by simp; omega) (by simp; omega), Option.bind_some]
  rw [t1, t2, t3, if_neg (by simp), if_neg (by simp), if_neg (by simp), w64_id (by omega), if_neg (by simpa using t8)]
  generalize hZ : wrR r ⟨A.Channels, A.Data ++ B.Data⟩ = Z at *
  have main : ((f17 n (⟨Z.1.Channels, Z.1.Capacity, Z.1.Written, Z.1.Read, Z.1.Data⟩ : Ring) p).bind fun y42 =>
  (f17 n (⟨y42.2.2.1.Channels, y42.2.2.1.Capacity, y42.2.2.1.Written, y42.2.2.1.Read, y42.2.2.1.Data⟩ : Ring) q).bind fun y43 =>
  (f17 n (⟨Z.1.Channels, Z.1.Capacity, Z.1.Written, Z.1.Read, Z.1.Data⟩ : Ring) (w64 (p + q))).bind fun y44 =>
  if (y42.2.2.2 == (0 : Int)) = true then (
  if (y43.2.2.2 == (0 : Int)) = true then (
  if (y44.2.2.2 == (0 : Int)) = true then (
  if ((w64 (y42.2.1 + y43.2.1)) == y44.2.1) = true then (
  (f23 n (⟨y43.2.2.1.Channels, y43.2.2.1.Capacity, y43.2.2.1.Written, y43.2.2.1.Read, y43.2.2.1.Data⟩ : Ring) (⟨y44.2.2.1.Channels, y44.2.2.1.Capacity, y44.2.2.1.Written, y44.2.2.1.Read, y44.2.2.1.Data⟩ : Ring)).bind fun y57 =>
  if y57 = true then (
  (f22 n (⟨y42.1.Channels, y42.1.Data⟩ : Block) (⟨y43.1.Channels, y43.1.Data⟩ : Block)).bind fun y59 =>
  (f24 n y59 (⟨y44.1.Channels, y44.1.Data⟩ : Block)).bind fun y60 =>
  some y60)
  else (
  some false))
  else (
  some false))
  else (
  some false))
  else (
  some false))
  else (
  some false)) = some true := by
    obtain ⟨u1, u2, u3, u4, u5, u6, u7, u8, u9, u10, u11⟩ := rd_two (p := p) (q := q) t11 (by omega) (by omega)
    have m1 := rd_len' (r := Z.1) (m := p) (by omega)
    have m2 := rd_len' (r := (rdR Z.1 p).2.2.1) (m := q) (by omega)
    have m3 := rd_len' (r := Z.1) (m := p + q) (by omega)
    rw [w64_id (x := p + q) (by omega), f17_e Z.1 p (by omega) (by omega), Option.bind_some, f17_e (rdR Z.1 p).2.2.1 q (by omega) (by omega), Option.bind_some, f17_e Z.1 (p + q) (by omega) (by omega), Option.bind_some]
    rw [u1, u2, u3, if_pos (by simp), if_pos (by simp), if_pos (by simp), w64_id (by omega), if_pos (by simpa using u8), f23_e _ _ u9 (by omega) (by omega), Option.bind_some, if_pos rfl]
    rw [show f22 n (⟨(rdR Z.1 p).1.Channels, (rdR Z.1 p).1.Data⟩ : Block) (⟨(rdR (rdR Z.1 p).2.2.1 q).1.Channels, (rdR (rdR Z.1 p).2.2.1 q).1.Data⟩ : Block) = some ⟨(rdR Z.1 p).1.Channels, (rdR Z.1 p).1.Data ++ (rdR (rdR Z.1 p).2.2.1 q).1.Data⟩ from f22_is (rdR Z.1 p).1 (rdR (rdR Z.1 p).2.2.1 q).1 (by omega), Option.bind_some]
    rw [u10, u11, f24_is _ (by dsimp only; omega) (by dsimp only; omega)]
    rfl
  by_cases h0 : (wrR r A).2.1 = 0
  · rw [if_pos (by simpa using h0), f23_e _ _ (t9 h0) (by omega) (by omega), Option.bind_some, if_neg (by simp)]
    exact main
  · rw [if_neg (by simpa using h0)]
    exact main

end Go.Proofs.Ytacdknbakjbpiaa
