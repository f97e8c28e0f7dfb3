/-
  The law RecorderBounds, plain.
-/
import Derived.Test.YtacdknbakjbpiaaQ4
import Derived.Test.YtacdknbakjbpiaaG7
namespace Go.Proofs.Ytacdknbakjbpiaa
open Go Ab

theorem pow_mono2 {a b : Nat} (h : a ≤ b) : (2 : Int) ^ a ≤ 2 ^ b := by
  have := Nat.pow_le_pow_right (show 0 < 2 by decide) h
  exact_mod_cast this

theorem cum_mono {A : Nat → Int} (h : ∀ i, i < 24 → CntV (A i)) : ∀ (b a : Nat), a ≤ b → b ≤ 24 → cum A a ≤ cum A b
  | 0, a, ha, _ => by rw [show a = 0 by omega]; exact Int.le_refl _
  | b + 1, a, ha, hb => by
    by_cases e : a = b + 1
    · rw [e]; exact Int.le_refl _
    · have h1 := cum_mono h b a (by omega) (by omega)
      have h2 := (h b (by omega)).1
      rw [cum]
      omega

section
variable {A : Nat → Int} (h : ∀ i, i < 24 → CntV (A i))
include h

theorem mosF_end {p : Int} (hp : p ≤ 100) : cum A 24 * 100 ≥ p * cum A 24 := by
  have h1 := (cum_rng (A := A) 24 (by omega) h).1
  have := Int.mul_le_mul_of_nonneg_right hp h1
  rw [Int.mul_comm (cum A 24) 100]
  exact this

theorem mosF_ge {p : Int} (hp : p ≤ 100) : ∀ (d i : Nat), i + d = 24 → 0 < d → (2 : Int) ^ i - 1 ≤ mosF A p d i
  | 0, _, _, h0 => by omega
  | d + 1, i, hi, _ => by
    rw [mosF]
    split
    · exact Int.le_refl _
    · rename_i hc
      by_cases hd : d = 0
      · exfalso
        rw [show i + 1 = 24 by omega] at hc
        exact hc (mosF_end h hp)
      · have h1 := mosF_ge hp d (i + 1) (by omega) (by omega)
        have h2 := pow_mono2 (show i ≤ i + 1 by omega)
        omega

theorem mosF_mono {p q : Int} (hpq : p ≤ q) (hq : q ≤ 100) : ∀ (d i : Nat), i + d = 24 → mosF A p d i ≤ mosF A q d i
  | 0, _, _ => Int.le_refl _
  | d + 1, i, hi => by
    have h1 := (cum_rng (A := A) 24 (by omega) h).1
    have h2 := Int.mul_le_mul_of_nonneg_right hpq h1
    rw [mosF, mosF]
    by_cases cq : cum A (i + 1) * 100 ≥ q * cum A 24
    · rw [if_pos (by omega), if_pos cq]
      exact Int.le_refl _
    · rw [if_neg cq]
      have hd : d ≠ 0 := fun e => cq (by rw [show i + 1 = 24 by omega]; exact mosF_end h hq)
      split
      · have h3 := mosF_ge h hq d (i + 1) (by omega) (by omega)
        have h4 := pow_mono2 (show i ≤ i + 1 by omega)
        omega
      · exact mosF_mono hpq hq d (i + 1) (by omega)

theorem mosF_all {k : Nat} (hk : k < 24) (h1 : 1 ≤ A k) : ∀ (d i : Nat), i + d = 24 → i ≤ k → (2 : Int) ^ k - 1 ≤ mosF A 100 d i
  | 0, _, _, _ => by omega
  | d + 1, i, hi, hik => by
    rw [mosF]
    split
    · rename_i hc
      by_cases e : i = k
      · rw [e]; exact Int.le_refl _
      · exfalso
        have h2 := cum_mono h k (i + 1) (by omega) (by omega)
        have h3 := cum_mono h 24 (k + 1) (by omega) (by omega)
        rw [cum] at h3
        omega
    · rename_i hc
      by_cases e : i = k
      · have hd : d ≠ 0 := fun e => hc (by rw [show i + 1 = 24 by omega]; exact mosF_end h (Int.le_refl _))
        have h3 := mosF_ge h (p := 100) (Int.le_refl _) d (i + 1) (by omega) (by omega)
        have h4 := pow_mono2 (show k ≤ i + 1 by omega)
        omega
      · exact mosF_all hk h1 d (i + 1) (by omega) (by omega)
end

theorem mosS_mono (r : Recorder) {p q : Int} (h0 : 0 ≤ p) (hpq : p ≤ q) (hq : q ≤ 100) : mosS r p ≤ mosS r q := by
  rw [mosS, mosS]
  by_cases hv : RecV r ∧ cum r.Buckets 24 ≠ 0
  · rw [if_pos ⟨hv.1, h0, by omega, hv.2⟩, if_pos ⟨hv.1, by omega, hq, hv.2⟩]
    exact mosF_mono hv.1.2.2.2.2.2 hpq hq 24 0 (by omega)
  · rw [if_neg (fun h => hv ⟨h.1, h.2.2.2⟩), if_neg (fun h => hv ⟨h.1, h.2.2.2⟩)]
    exact Int.le_refl _

theorem mosS_all {r : Recorder} (hv : RecV r) {x : Int} (hx : 0 ≤ x ∧ x < 4194304) (h1 : 1 ≤ r.Buckets (buk x)) : x ≤ mosS r 100 := by
  obtain ⟨y, rfl⟩ := Int.eq_ofNat_of_zero_le hx.1
  have hB := hv.2.2.2.2.2
  have hb : bl y ≤ 22 := bl_le 22 64 y (by omega)
  have hk : buk (y : Int) = bl y := by unfold buk; rw [Int.toNat_natCast]; omega
  have hlt : y < 2 ^ bl y := lt_bl 64 y (by omega)
  have hz : cum r.Buckets 24 ≠ 0 := by
    have h2 := cum_mono hB 24 (buk (y : Int) + 1) (by have := buk_lt (y : Int); omega) (by omega)
    have h3 := (cum_rng (A := r.Buckets) (buk (y : Int)) (by have := buk_lt (y : Int); omega) hB).1
    rw [cum] at h2
    omega
  rw [mosS, if_pos ⟨hv, by decide, by decide, hz⟩]
  have h4 := mosF_all hB (buk_lt (y : Int)) h1 24 0 (by omega) (by omega)
  rw [hk] at h4
  have h5 : (y : Int) < 2 ^ bl y := by exact_mod_cast hlt
  omega

section
variable {n : Nat} (hn : 100000 ≤ n)
include hn

theorem f7_l1_is (l : List Int) (hl : l.length ≤ 60) (j : Int → List Glitch → (Nat → Int) → Int → (Nat → Int) → Option Bool) : ∀ (c m i : Nat) (r : Recorder), i + c = l.length → c < m → RecV r → (∀ k, k < i → 1 ≤ r.Buckets (buk (l.getD k 0 % 4194304))) →
    ∃ r', RecV r' ∧ (∀ k, k < l.length → 1 ≤ r'.Buckets (buk (l.getD k 0 % 4194304))) ∧ f7_l1 n l j m r.Limit r.Last r.Counts r.Frames r.Buckets (i : Int) = j r'.Limit r'.Last r'.Counts r'.Frames r'.Buckets := by
  intro c
  induction c with
  | zero =>
    intro m i r h1 h2 h3 h4
    obtain ⟨m, rfl⟩ : ∃ q, m = q + 1 := ⟨m - 1, by omega⟩
    exact ⟨r, h3, by rw [show l.length = i by omega]; exact h4, by rw [f7_l1, if_neg (by simp; omega)]⟩
  | succ c ih =>
    intro m i r h1 h2 h3 h4
    obtain ⟨m, rfl⟩ : ∃ q, m = q + 1 := ⟨m - 1, by omega⟩
    have hs := h3.short
    have hx := Int.emod_nonneg (l.getD i 0) (show (4194304 : Int) ≠ 0 by decide)
    have hx2 := Int.emod_lt_of_pos (l.getD i 0) (show (0 : Int) < 4194304 by decide)
    have hm := meaR_V h3 hx
    rw [f7_l1, if_pos (by simp; omega), lAt_getD 0 (by omega), Option.bind_some, f39_is _ _ (by decide), Option.bind_some, show f38 n (⟨r.Limit, r.Last, r.Counts, r.Frames, r.Buckets⟩ : Recorder) (l.getD i 0 % 4194304) = some (meaR r (l.getD i 0 % 4194304)) from f38_is hn r (by omega) _ (by omega), Option.bind_some, if_neg (by simpa using hm.1), w64_id (by omega), show (i : Int) + 1 = ((i + 1 : Nat) : Int) by omega]
    refine ih m (i + 1) _ (by omega) (by omega) hm.2.1 fun k hk => ?_
    rw [hm.2.2.2.2]
    obtain ⟨b1, b2⟩ := h3.2.2.2.2.2 (buk (l.getD i 0 % 4194304)) (buk_lt _)
    unfold aUp
    split
    · omega
    · rename_i hne
      refine h4 k ?_
      by_cases e : k = i
      · exact absurd (by rw [e]) hne
      · omega

theorem f7_l2_is (l : List Int) (hl : l.length ≤ 60) (r : Recorder) (hv : RecV r) (hB : ∀ k, k < l.length → 1 ≤ r.Buckets (buk (l.getD k 0 % 4194304))) (j : Unit → Option Bool) : ∀ (c m i : Nat), i + c = l.length → c < m → f7_l2 n l r.Limit r.Last r.Counts r.Frames r.Buckets j m (i : Int) = j () := by
  intro c
  induction c with
  | zero =>
    intro m i h1 h2
    obtain ⟨m, rfl⟩ : ∃ q, m = q + 1 := ⟨m - 1, by omega⟩
    rw [f7_l2, if_neg (by simp; omega)]
  | succ c ih =>
    intro m i h1 h2
    obtain ⟨m, rfl⟩ : ∃ q, m = q + 1 := ⟨m - 1, by omega⟩
    have hs := hv.short
    have hx := Int.emod_nonneg (l.getD i 0) (show (4194304 : Int) ≠ 0 by decide)
    have hx2 := Int.emod_lt_of_pos (l.getD i 0) (show (0 : Int) < 4194304 by decide)
    have hm := mosS_all hv ⟨hx, hx2⟩ (hB i (by omega))
    rw [f7_l2, if_pos (by simp; omega), lAt_getD 0 (by omega), Option.bind_some, show f40 n (⟨r.Limit, r.Last, r.Counts, r.Frames, r.Buckets⟩ : Recorder) 100 = some (mosS r 100) from f40_is hn r (by omega) 100, Option.bind_some, f39_is _ _ (by decide), Option.bind_some, if_neg (by simpa using hm), w64_id (by omega), show (i : Int) + 1 = ((i + 1 : Nat) : Int) by omega, ih _ _ (by omega) (by omega)]

theorem f7_is (a0 : List Int) (a1 a2 : Int) : f7 n a0 a1 a2 = some true := by
  rw [f7, f36_is hn]
  simp only [Option.bind_some, Bool.not_true, Bool.false_eq_true, if_false]
  by_cases c0 : (a0.length : Int) > 60
  · rw [if_pos (by simpa using c0)]
  rw [if_neg (by simpa using c0), f37_is, if_pos (by decide), Option.bind_some, joinK]
  obtain ⟨r, h1, h2, h3⟩ := f7_l1_is hn a0 (by omega) (fun v35 v36 v37 v38 v39 => joinK (fun (_ : Unit) =>
    (f39 n a1 (101 : Int)).bind fun y116 =>
    (f39 n a2 (101 : Int)).bind fun y117 =>
    (f40 n (⟨v35, v36, v37, v38, v39⟩ : Recorder) (iMin y116 y117)).bind fun y118 =>
    (f40 n (⟨v35, v36, v37, v38, v39⟩ : Recorder) (iMax y116 y117)).bind fun y119 =>
    some (decide (y118 ≤ y119))) fun j92 => f7_l2 n a0 v35 v36 v37 v38 v39 j92 n 0) a0.length n 0 ⟨1, [], aZ, 0, aZ⟩ (by omega) (by omega) (newR_V (by decide)) (fun k hk => by omega)
  rw [show ((0 : Nat) : Int) = 0 from rfl] at h3
  refine h3.trans ?_
  have h4 := fun j => f7_l2_is hn a0 (by omega) r h1 h2 j a0.length n 0 (by omega) (by omega)
  rw [show ((0 : Nat) : Int) = 0 from rfl] at h4
  have hs := h1.short
  have p0 := Int.emod_nonneg a1 (show (101 : Int) ≠ 0 by decide)
  have p1 := Int.emod_lt_of_pos a1 (show (0 : Int) < 101 by decide)
  have q0 := Int.emod_nonneg a2 (show (101 : Int) ≠ 0 by decide)
  have q1 := Int.emod_lt_of_pos a2 (show (0 : Int) < 101 by decide)
  rw [joinK, h4, f39_is _ _ (by decide), f39_is _ _ (by decide), Option.bind_some, Option.bind_some,
    show f40 n (⟨r.Limit, r.Last, r.Counts, r.Frames, r.Buckets⟩ : Recorder) (iMin (a1 % 101) (a2 % 101)) = some (mosS r (iMin (a1 % 101) (a2 % 101))) from f40_is hn r (by omega) _, Option.bind_some,
    show f40 n (⟨r.Limit, r.Last, r.Counts, r.Frames, r.Buckets⟩ : Recorder) (iMax (a1 % 101) (a2 % 101)) = some (mosS r (iMax (a1 % 101) (a2 % 101))) from f40_is hn r (by omega) _, Option.bind_some, iMin_eq, iMax_eq]
  rw [decide_eq_true (mosS_mono r (by omega) (by omega) (by omega))]

end
end Go.Proofs.Ytacdknbakjbpiaa
