/-
  Plain laws of recorders: what is drawn; recorders that are made; which glitches touch some quanta; below which number latencies lie.
-/
import Derived.Test.YtacdknbakjbpiaaQ3
namespace Go.Proofs.Ytacdknbakjbpiaa
open Go Ab

/-! ### numbers that are drawn -/

def modS (a b : Int) : Int := a % b
theorem f39_is {n : Nat} (a b : Int) (hb : 0 < b ∧ b ≤ 4611686018427387904) : f39 n a b = some (a % b) := by
  have h1 := Int.emod_nonneg a (show b ≠ 0 by omega)
  have h2 := Int.emod_lt_of_pos a hb.1
  have h3 : a.tmod b = if 0 ≤ a ∨ b ∣ a then a % b else a % b - b := by
    rw [Int.tmod_eq_emod]
    split
    · simp
    · rw [Int.natAbs_of_nonneg (by omega)]
  rw [f39, iRem_eq (by omega), Option.bind_some, joinK]
  by_cases h : 0 ≤ a ∨ b ∣ a
  · rw [if_pos h] at h3
    rw [h3, if_neg (by simp; omega)]
  · rw [if_neg h] at h3
    rw [h3, if_pos (by simp; omega), w64_id (by omega)]
    congr 1
    omega

def DeckOK (d : Deck) : Prop := 0 ≤ d.At ∧ d.At ≤ d.L.length ∧ d.L.length ≤ 9223372036854775807

theorem f79_is {n : Nat} (d : Deck) (h : DeckOK d) (b : Int) (hb : 0 < b ∧ b ≤ 4611686018427387904) : ∃ v d', f79 n d b = some (v, d') ∧ (0 ≤ v ∧ v < b) ∧ DeckOK d' ∧ d'.L = d.L ∧ d.At ≤ d'.At ∧ (d.At < d.L.length → d'.At = d.At + 1) := by
  obtain ⟨h1, h2, h3⟩ := h
  rw [f79, f69, Option.bind_some]
  dsimp only
  by_cases c : d.At < (d.L.length : Int)
  case neg => exact ⟨0, _, by rw [if_pos (by simpa using c)], ⟨by omega, hb.1⟩, ⟨h1, h2, h3⟩, rfl, Int.le_refl _, fun h => absurd h c⟩
  rw [if_neg (by simpa using c), w64_id (x := d.At + 1) (by omega), w64_id (by omega), show d.At + 1 - 1 = d.At by omega, lAt_eq ⟨h1, c⟩, Option.bind_some, f39_is _ _ hb, Option.bind_some]
  exact ⟨_, _, rfl, ⟨Int.emod_nonneg _ (by omega), Int.emod_lt_of_pos _ hb.1⟩, ⟨by dsimp only; omega, by dsimp only; omega, h3⟩, rfl, by dsimp only; omega, fun _ => rfl⟩

theorem f94_is {n : Nat} (d : Deck) (h : DeckOK d) (a b : Int) (hb : 0 ≤ a ∧ a ≤ b ∧ b ≤ 1000000) : ∃ v d', f94 n d a b = some (v, d') ∧ (a ≤ v ∧ v ≤ b) ∧ DeckOK d' ∧ d'.L = d.L ∧ d.At ≤ d'.At ∧ (d.At < d.L.length → d'.At = d.At + 1) := by
  have hw : w64 (w64 (b - a) + 1) = b - a + 1 := by rw [w64_id (x := b - a) (by omega), w64_id (by omega)]
  obtain ⟨v, d', e1, e2, e3, e4, e5, e6⟩ := f79_is (n := n) d h (b - a + 1) (by omega)
  rw [f94, hw, show f79 n (⟨d.L, d.At⟩ : Deck) (b - a + 1) = some (v, d') from e1, Option.bind_some]
  dsimp only
  exact ⟨_, _, rfl, by rw [w64_id (by omega)]; omega, e3, e4, e5, e6⟩

theorem f62_is {n : Nat} (d : Deck) (h : DeckOK d) : ∃ g d', f62 n d = some (g, d') ∧ GlV g ∧ DeckOK d' ∧ d'.L = d.L ∧ (d.At < d.L.length → d.At < d'.At) := by
  obtain ⟨v1, d1, a1, a2, a3, a4, a5, a6⟩ := f94_is (n := n) d h 1 4 (by omega)
  obtain ⟨v2, d2, b1, b2, b3, b4, b5, _⟩ := f79_is (n := n) d1 a3 12 (by omega)
  obtain ⟨v3, d3, c1, c2, c3, c4, c5, _⟩ := f94_is (n := n) d2 b3 1 3 (by omega)
  obtain ⟨v4, d4, e1, e2, e3, e4, e5, _⟩ := f94_is (n := n) d3 c3 1 50 (by omega)
  obtain ⟨v5, d5, g1, g2, g3, g4, g5, _⟩ := f94_is (n := n) d4 e3 1 3 (by omega)
  have hL : d5.L = d.L := by rw [g4, e4, c4, b4, a4]
  have hA : d.At < d.L.length → d.At < d5.At := fun hlt => by have := a6 hlt; omega
  rw [f62, show f94 n (⟨d.L, d.At⟩ : Deck) 1 4 = some (v1, d1) from a1, Option.bind_some]
  dsimp only
  rw [show f79 n (⟨d1.L, d1.At⟩ : Deck) 12 = some (v2, d2) from b1, Option.bind_some]
  dsimp only
  rw [show f94 n (⟨d2.L, d2.At⟩ : Deck) 1 3 = some (v3, d3) from c1, Option.bind_some]
  dsimp only
  rw [show f94 n (⟨d3.L, d3.At⟩ : Deck) 1 50 = some (v4, d4) from e1, Option.bind_some, joinK]
  dsimp only
  rw [show f94 n (⟨d4.L, d4.At⟩ : Deck) 1 3 = some (v5, d5) from g1, Option.bind_some]
  by_cases hk : v1 ≤ 2
  · rw [if_pos (by simpa using hk)]
    exact ⟨_, _, rfl, ⟨by dsimp only; omega, by dsimp only; omega, by dsimp only; omega, .inl ⟨by dsimp only; omega, by dsimp only; omega, rfl⟩⟩, g3, hL, hA⟩
  · rw [if_neg (by simpa using hk), Option.bind_some]
    dsimp only
    rw [wrap_u64]
    exact ⟨_, _, rfl, ⟨by dsimp only; omega, by dsimp only; omega, by dsimp only; omega, .inr ⟨by dsimp only; omega, by dsimp only; omega, rfl⟩⟩, g3, hL, hA⟩

/-! ### recorders that are made -/

def RecM (r : Recorder) : Prop := RecV r ∧ r.Last.length ≤ 256
theorem RecV.short {r : Recorder} (h : RecV r) : r.Last.length ≤ 256 := by
  have h1 := h.1.2
  have h2 := h.2.1
  omega

theorem f51_l1_is {n : Nat} (hn : 100000 ≤ n) (j : Int → List Glitch → (Nat → Int) → Int → (Nat → Int) → Option Recorder) : ∀ (c m : Nat) (d : Deck) (r : Recorder), DeckOK d → RecV r → c < m → c ≤ 1000 → ∃ r', RecV r' ∧ f51_l1 n j m d.L d.At r.Limit r.Last r.Counts r.Frames r.Buckets (c : Int) = j r'.Limit r'.Last r'.Counts r'.Frames r'.Buckets := by
  intro c
  induction c with
  | zero =>
    intro m d r hd hr hm _
    obtain ⟨m, rfl⟩ : ∃ q, m = q + 1 := ⟨m - 1, by omega⟩
    exact ⟨r, hr, by rw [f51_l1, if_neg (by simp)]⟩
  | succ c ih =>
    intro m d r hd hr hm hc1
    obtain ⟨m, rfl⟩ : ∃ q, m = q + 1 := ⟨m - 1, by omega⟩
    have hs := hr.short
    rw [f51_l1, if_pos (by simp only [decide_eq_true_eq]; omega), joinK]
    obtain ⟨v1, d1, a1, a2, a3, _⟩ := f79_is (n := n) d hd 3 (by omega)
    rw [show f79 n (⟨d.L, d.At⟩ : Deck) 3 = some (v1, d1) from a1, Option.bind_some]
    dsimp only
    have hc : ∀ r' : Recorder, ∀ d' : Deck, DeckOK d' → RecV r' → ∃ r'', RecV r'' ∧ f51_l1 n j m d'.L d'.At r'.Limit r'.Last r'.Counts r'.Frames r'.Buckets (w64 (((c + 1 : Nat) : Int) - 1)) = j r''.Limit r''.Last r''.Counts r''.Frames r''.Buckets := by
      intro r' d' hd' hr'
      rw [show ((c + 1 : Nat) : Int) - 1 = (c : Int) by omega, w64_id (by omega)]
      exact ih m d' r' hd' hr' (by omega) (by omega)
    by_cases hz : v1 = 0
    · rw [if_pos (by simpa using hz)]
      obtain ⟨v2, d2, b1, b2, b3, _⟩ := f79_is (n := n) d1 a3 5000 (by omega)
      have hme := meaR_V hr (x := v2) b2.1
      rw [show f79 n (⟨d1.L, d1.At⟩ : Deck) 5000 = some (v2, d2) from b1, Option.bind_some]
      dsimp only
      rw [show f66 n (⟨r.Limit, r.Last, r.Counts, r.Frames, r.Buckets⟩ : Recorder) v2 = some (meaR r v2) from f66_is hn r (by omega) v2 (by omega), Option.bind_some]
      exact hc _ _ b3 hme.2.1
    · rw [if_neg (by simpa using hz)]
      obtain ⟨g, d2, b1, b2, b3, _⟩ := f62_is (n := n) d1 a3
      have hno := notR_V hr b2
      rw [show f62 n (⟨d1.L, d1.At⟩ : Deck) = some (g, d2) from b1, Option.bind_some]
      dsimp only
      rw [show f64 n (⟨r.Limit, r.Last, r.Counts, r.Frames, r.Buckets⟩ : Recorder) g = some (notR r g) from f64_is hn r (by omega) g, Option.bind_some]
      exact hc _ _ b3 hno.2.1

theorem f51_is {n : Nat} (hn : 100000 ≤ n) (l : List Int) (hl : l.length ≤ 9223372036854775807) : ∃ r, f51 n l = some r ∧ RecV r := by
  have hd : DeckOK ⟨l, 0⟩ := ⟨Int.le_refl _, by dsimp only; omega, hl⟩
  obtain ⟨v1, d1, a1, a2, a3, _⟩ := f94_is (n := n) ⟨l, 0⟩ hd 1 5 (by omega)
  obtain ⟨v2, d2, b1, b2, b3, _⟩ := f79_is (n := n) d1 a3 14 (by omega)
  obtain ⟨c, rfl⟩ := Int.eq_ofNat_of_zero_le b2.1
  rw [f51, f42, Option.bind_some, a1, Option.bind_some]
  dsimp only
  rw [f67_is, if_pos (by omega), Option.bind_some, joinK, show f79 n (⟨d1.L, d1.At⟩ : Deck) 14 = some ((c : Int), d2) from b1, Option.bind_some]
  dsimp only
  obtain ⟨r, h1, h2⟩ := f51_l1_is hn (fun v66 v67 v68 v69 v70 => some (⟨v66, v67, v68, v69, v70⟩ : Recorder)) c n d2 ⟨v1, [], aZ, 0, aZ⟩ b3 (newR_V (by omega)) (by omega) (by omega)
  exact ⟨r, h2, h1⟩

/-! ### which glitches touch some quanta -/

def touch (from_ to : Int) (g : Glitch) : Bool := decide (g.At ≤ to) && decide (w64 (w64 (g.At + g.Quanta) - 1) ≥ from_)
def betS (r : Recorder) (a b : Int) : List Glitch := if RecV r then r.Last.filter (touch a b) else []

theorem f53_l1_is {n : Nat} (r : Recorder) (a b : Int) (hl : r.Last.length ≤ 90000) (j : List Glitch → Option (List Glitch)) : ∀ (c m i : Nat) (acc : List Glitch), i + c = r.Last.length → c < m → acc.length ≤ i → f53_l1 n r a b j m acc (i : Int) = j (acc ++ (r.Last.drop i).filter (touch a b)) := by
  intro c
  induction c with
  | zero =>
    intro m i acc h1 h2 h3
    obtain ⟨m, rfl⟩ : ∃ q, m = q + 1 := ⟨m - 1, by omega⟩
    rw [f53_l1, if_neg (by simp; omega), List.drop_eq_nil_of_le (by omega), List.filter_nil, List.append_nil]
  | succ c ih =>
    intro m i acc h1 h2 h3
    obtain ⟨m, rfl⟩ : ∃ q, m = q + 1 := ⟨m - 1, by omega⟩
    rw [f53_l1, if_pos (by simp; omega)]
    simp only [joinK]
    rw [lAt_nat (show i < r.Last.length by omega), Option.bind_some, List.drop_eq_getElem_cons (show i < r.Last.length by omega), List.filter_cons, w64_id (x := (i : Int) + 1) (by omega), show (i : Int) + 1 = ((i + 1 : Nat) : Int) by omega]
    generalize r.Last[i] = g
    by_cases h4 : g.At ≤ b
    case neg => rw [if_neg (by simpa using h4), ih _ _ _ (by omega) (by omega) (by omega), if_neg (by simp [touch, h4])]
    rw [if_pos (by simpa using h4)]
    by_cases h5 : w64 (w64 (g.At + g.Quanta) - 1) ≥ a
    · rw [if_pos (by simpa using h5), lApp_eq (by simp; omega), Option.bind_some, ih _ _ _ (by omega) (by omega) (by simp; omega), if_pos (by simp only [touch, h4, h5, decide_true, Bool.and_self]), List.append_assoc]
      rfl
    · rw [if_neg (by simpa using h5), ih _ _ _ (by omega) (by omega) (by omega), if_neg (by simp only [touch, h5, decide_false, Bool.and_false]; simp)]

theorem f53_is {n : Nat} (hn : 100000 ≤ n) (r : Recorder) (hl : r.Last.length ≤ 90000) (a b : Int) : f53 n r a b = some (betS r a b) := by
  rw [f53, show f60 n (⟨r.Limit, r.Last, r.Counts, r.Frames, r.Buckets⟩ : Recorder) = some (decide (RecV r)) from f60_is hn r hl, Option.bind_some, betS]
  by_cases hv : RecV r
  case neg => rw [if_pos (by simpa using hv), if_neg hv]
  have := fun j => f53_l1_is (n := n) r a b hl j r.Last.length n 0 [] (by omega) (by omega) (by simp)
  rw [show ((0 : Nat) : Int) = 0 from rfl] at this
  rw [if_neg (by simpa using hv), if_pos hv, joinK, this, List.drop_zero, List.nil_append]

theorem f54_l1_is {n : Nat} (r : Recorder) (a b : Int) (hl : r.Last.length ≤ 90000) (j : List Glitch → Option (List Glitch)) : ∀ (c m i : Nat) (acc : List Glitch), i + c = r.Last.length → c < m → acc.length ≤ i → f54_l1 n r a b j m acc (i : Int) = j (acc ++ (r.Last.drop i).filter (touch a b)) := by
  intro c
  induction c with
  | zero =>
    intro m i acc h1 h2 h3
    obtain ⟨m, rfl⟩ : ∃ q, m = q + 1 := ⟨m - 1, by omega⟩
    rw [f54_l1, if_neg (by simp; omega), List.drop_eq_nil_of_le (by omega), List.filter_nil, List.append_nil]
  | succ c ih =>
    intro m i acc h1 h2 h3
    obtain ⟨m, rfl⟩ : ∃ q, m = q + 1 := ⟨m - 1, by omega⟩
    rw [f54_l1, if_pos (by simp; omega)]
    simp only [joinK]
    rw [lAt_nat (show i < r.Last.length by omega), Option.bind_some, List.drop_eq_getElem_cons (show i < r.Last.length by omega), List.filter_cons, w64_id (x := (i : Int) + 1) (by omega), show (i : Int) + 1 = ((i + 1 : Nat) : Int) by omega]
    generalize r.Last[i] = g
    by_cases h4 : g.At ≤ b
    case neg => rw [if_neg (by simpa using h4), ih _ _ _ (by omega) (by omega) (by omega), if_neg (by simp [touch, h4])]
    rw [if_pos (by simpa using h4)]
    by_cases h5 : w64 (w64 (g.At + g.Quanta) - 1) ≥ a
    · rw [if_pos (by simpa using h5), lApp_eq (by simp; omega), Option.bind_some, ih _ _ _ (by omega) (by omega) (by simp; omega), if_pos (by simp only [touch, h4, h5, decide_true, Bool.and_self]), List.append_assoc]
      rfl
    · rw [if_neg (by simpa using h5), ih _ _ _ (by omega) (by omega) (by omega), if_neg (by simp only [touch, h5, decide_false, Bool.and_false]; simp)]

theorem f54_is {n : Nat} (hn : 100000 ≤ n) (r : Recorder) (hl : r.Last.length ≤ 90000) (a b : Int) : f54 n r a b = some (betS r a b) := by
  rw [f54, show f61 n (⟨r.Limit, r.Last, r.Counts, r.Frames, r.Buckets⟩ : Recorder) = some (decide (RecV r)) from f61_is hn r hl, Option.bind_some, betS]
  by_cases hv : RecV r
  case neg => rw [if_pos (by simpa using hv), if_neg hv]
  have := fun j => f54_l1_is (n := n) r a b hl j r.Last.length n 0 [] (by omega) (by omega) (by simp)
  rw [show ((0 : Nat) : Int) = 0 from rfl] at this
  rw [if_neg (by simpa using hv), if_pos hv, joinK, this, List.drop_zero, List.nil_append]

theorem betS_len (r : Recorder) (a b : Int) : (betS r a b).length ≤ r.Last.length := by
  unfold betS
  split
  · exact List.length_filter_le _ _
  · exact Nat.zero_le _

/-! ### below which number latencies lie -/

/-- The sum of the first numbers of an array. -/
def cum (A : Nat → Int) : Nat → Int
  | 0 => 0
  | k + 1 => cum A k + A k

theorem cum_rng {A : Nat → Int} : ∀ k, k ≤ 24 → (∀ i, i < 24 → CntV (A i)) → 0 ≤ cum A k ∧ cum A k ≤ 1099511627776 * k
  | 0, _, _ => ⟨by simp [cum], by simp [cum]⟩
  | k + 1, hk, h => by
    have ih := cum_rng k (by omega) h
    have := h k (by omega)
    unfold CntV at this
    rw [cum]
    omega

/-- The first bucket at which enough latencies lie. -/
def mosF (A : Nat → Int) (p : Int) : Nat → Nat → Int
  | 0, _ => 0
  | d + 1, i => if cum A (i + 1) * 100 ≥ p * cum A 24 then 2 ^ i - 1 else mosF A p d (i + 1)
def mosS (r : Recorder) (p : Int) : Int := if RecV r ∧ 0 ≤ p ∧ p ≤ 100 ∧ cum r.Buckets 24 ≠ 0 then mosF r.Buckets p 24 0 else 0

theorem shl1 : ∀ i : _root_.Fin 24, iShl .i64 1 ((i.val : Nat) : Int) = some ((2 : Int) ^ i.val) := by decide +kernel
theorem pow_rng : ∀ i : _root_.Fin 24, (1 : Int) ≤ 2 ^ i.val ∧ (2 : Int) ^ i.val ≤ 8388608 := by decide +kernel

theorem f40_l2_is {n : Nat} (r : Recorder) (p : Int) (hp : 0 ≤ p ∧ p ≤ 100) (h : ∀ i, i < 24 → CntV (r.Buckets i)) : ∀ (c m i : Nat), i + c = 24 → c < m → f40_l2 n r p (cum r.Buckets 24) (fun _ => some 0) m (cum r.Buckets i) (i : Int) = some (mosF r.Buckets p c i) := by
  intro c
  induction c with
  | zero =>
    intro m i h1 h2
    obtain ⟨m, rfl⟩ : ∃ q, m = q + 1 := ⟨m - 1, by omega⟩
    rw [f40_l2, if_neg (by simp; omega), mosF]
  | succ c ih =>
    intro m i h1 h2
    obtain ⟨m, rfl⟩ : ∃ q, m = q + 1 := ⟨m - 1, by omega⟩
    have hc := cum_rng (A := r.Buckets) (i + 1) (by omega) h
    have ha := cum_rng (A := r.Buckets) 24 (by omega) h
    have hpr : 0 ≤ p * cum r.Buckets 24 ∧ p * cum r.Buckets 24 ≤ 100 * cum r.Buckets 24 := ⟨Int.mul_nonneg hp.1 ha.1, Int.mul_le_mul_of_nonneg_right hp.2 ha.1⟩
    have hs := shl1 ⟨i, by omega⟩
    have hpw := pow_rng ⟨i, by omega⟩
    dsimp only at hs hpw
    have e : cum r.Buckets i + r.Buckets i = cum r.Buckets (i + 1) := rfl
    rw [f40_l2, if_pos (by simp; omega), aIdx_nat (by omega), Option.bind_some, e, w64_id (x := cum r.Buckets (i + 1)) (by omega), w64_id (x := cum r.Buckets (i + 1) * 100) (by omega), w64_id (x := p * cum r.Buckets 24) (by omega), mosF]
    by_cases hg : cum r.Buckets (i + 1) * 100 ≥ p * cum r.Buckets 24
    · rw [if_pos (by simpa using hg), if_pos hg, hs, Option.bind_some, w64_id (by omega)]
    · rw [if_neg (by simpa using hg), if_neg hg, w64_id (x := (i : Int) + 1) (by omega), show (i : Int) + 1 = ((i + 1 : Nat) : Int) by omega, ih _ _ (by omega) (by omega)]

theorem f55_l2_is {n : Nat} (r : Recorder) (p : Int) (hp : 0 ≤ p ∧ p ≤ 100) (h : ∀ i, i < 24 → CntV (r.Buckets i)) : ∀ (c m i : Nat), i + c = 24 → c < m → f55_l2 n r p (cum r.Buckets 24) (fun _ => some 0) m (cum r.Buckets i) (i : Int) = some (mosF r.Buckets p c i) := by
  intro c
  induction c with
  | zero =>
    intro m i h1 h2
    obtain ⟨m, rfl⟩ : ∃ q, m = q + 1 := ⟨m - 1, by omega⟩
    rw [f55_l2, if_neg (by simp; omega), mosF]
  | succ c ih =>
    intro m i h1 h2
    obtain ⟨m, rfl⟩ : ∃ q, m = q + 1 := ⟨m - 1, by omega⟩
    have hc := cum_rng (A := r.Buckets) (i + 1) (by omega) h
    have ha := cum_rng (A := r.Buckets) 24 (by omega) h
    have hpr : 0 ≤ p * cum r.Buckets 24 ∧ p * cum r.Buckets 24 ≤ 100 * cum r.Buckets 24 := ⟨Int.mul_nonneg hp.1 ha.1, Int.mul_le_mul_of_nonneg_right hp.2 ha.1⟩
    have hs := shl1 ⟨i, by omega⟩
    have hpw := pow_rng ⟨i, by omega⟩
    dsimp only at hs hpw
    have e : cum r.Buckets i + r.Buckets i = cum r.Buckets (i + 1) := rfl
    rw [f55_l2, if_pos (by simp; omega), aIdx_nat (by omega), Option.bind_some, e, w64_id (x := cum r.Buckets (i + 1)) (by omega), w64_id (x := cum r.Buckets (i + 1) * 100) (by omega), w64_id (x := p * cum r.Buckets 24) (by omega), mosF]
    by_cases hg : cum r.Buckets (i + 1) * 100 ≥ p * cum r.Buckets 24
    · rw [if_pos (by simpa using hg), if_pos hg, hs, Option.bind_some, w64_id (by omega)]
    · rw [if_neg (by simpa using hg), if_neg hg, w64_id (x := (i : Int) + 1) (by omega), show (i : Int) + 1 = ((i + 1 : Nat) : Int) by omega, ih _ _ (by omega) (by omega)]

/-- The sum of all, as it comes (numbers may be out of range). -/
def cumW (A : Nat → Int) : Nat → Int
  | 0 => 0
  | k + 1 => w64 (cumW A k + A k)
theorem cumW_is {A : Nat → Int} (h : ∀ i, i < 24 → CntV (A i)) : ∀ k, k ≤ 24 → cumW A k = cum A k
  | 0, _ => rfl
  | k + 1, hk => by
    have := cum_rng (A := A) (k + 1) hk h
    rw [cumW, cumW_is h k (by omega), show cum A k + A k = cum A (k + 1) from rfl, w64_id (by omega)]

theorem f40_l1_is {n : Nat} (r : Recorder) (j : Int → Option Int) : ∀ (c m i : Nat), i + c = 24 → c < m → f40_l1 n r j m (cumW r.Buckets i) (i : Int) = j (cumW r.Buckets 24) := by
  intro c
  induction c with
  | zero =>
    intro m i h1 h2
    obtain ⟨m, rfl⟩ : ∃ q, m = q + 1 := ⟨m - 1, by omega⟩
    rw [f40_l1, if_neg (by simp; omega), show i = 24 by omega]
  | succ c ih =>
    intro m i h1 h2
    obtain ⟨m, rfl⟩ : ∃ q, m = q + 1 := ⟨m - 1, by omega⟩
    rw [f40_l1, if_pos (by simp; omega), aIdx_nat (by omega), Option.bind_some, show w64 (cumW r.Buckets i + r.Buckets i) = cumW r.Buckets (i + 1) from rfl, w64_id (by omega), show (i : Int) + 1 = ((i + 1 : Nat) : Int) by omega, ih _ _ (by omega) (by omega)]

theorem f40_is {n : Nat} (hn : 100000 ≤ n) (r : Recorder) (hl : r.Last.length ≤ 90000) (p : Int) : f40 n r p = some (mosS r p) := by
  have h1 := fun j => f40_l1_is (n := n) r j 24 n 0 (by omega) (by omega)
  rw [show ((0 : Nat) : Int) = 0 from rfl, show cumW r.Buckets 0 = 0 from rfl] at h1
  rw [f40, joinK, h1]
  simp only [joinK]
  rw [show f60 n (⟨r.Limit, r.Last, r.Counts, r.Frames, r.Buckets⟩ : Recorder) = some (decide (RecV r)) from f60_is hn r hl, Option.bind_some, mosS]
  by_cases hv : RecV r
  case neg => rw [if_pos (by simpa using hv), if_neg (fun h => hv h.1)]
  rw [if_neg (by simpa using hv)]
  by_cases hp : p < 0
  · rw [if_pos (by simpa using hp), if_neg (fun h => by have := h.2.1; omega)]
  rw [if_neg (by simpa using hp)]
  by_cases hp2 : p > 100
  · rw [if_pos (by simpa using hp2), if_neg (fun h => by have := h.2.2.1; omega)]
  rw [if_neg (by simpa using hp2), cumW_is hv.2.2.2.2.2 24 (by omega)]
  by_cases hz : cum r.Buckets 24 = 0
  · rw [if_pos (by simpa using hz), if_neg (fun h => h.2.2.2 hz)]
  have h2 := f40_l2_is (n := n) r p (by omega) hv.2.2.2.2.2 24 n 0 (by omega) (by omega)
  rw [show ((0 : Nat) : Int) = 0 from rfl, show cum r.Buckets 0 = 0 from rfl] at h2
  rw [if_neg (by simpa using hz), h2, if_pos ⟨hv, by omega, by omega, hz⟩]

theorem f55_l1_is {n : Nat} (hn : 100000 ≤ n) (r : Recorder) (hl : r.Last.length ≤ 90000) (j : Int → Option Int) (hv : RecV r) : ∀ (c m i : Nat), i + c = 24 → c < m → f55_l1 n r j m (cumW r.Buckets i) (i : Int) = j (cumW r.Buckets 24) := by
  intro c
  induction c with
  | zero =>
    intro m i h1 h2
    obtain ⟨m, rfl⟩ : ∃ q, m = q + 1 := ⟨m - 1, by omega⟩
    rw [f55_l1, joinK, joinK, if_neg (by simp; omega), show i = 24 by omega]
  | succ c ih =>
    intro m i h1 h2
    obtain ⟨m, rfl⟩ : ∃ q, m = q + 1 := ⟨m - 1, by omega⟩
    rw [f55_l1, joinK, joinK, if_pos (by simp; omega), show f61 n (⟨r.Limit, r.Last, r.Counts, r.Frames, r.Buckets⟩ : Recorder) = some (decide (RecV r)) from f61_is hn r hl, Option.bind_some]
    dsimp only
    rw [if_pos (by simpa using hv), aIdx_nat (by omega), Option.bind_some, show w64 (cumW r.Buckets i + r.Buckets i) = cumW r.Buckets (i + 1) from rfl, w64_id (by omega), show (i : Int) + 1 = ((i + 1 : Nat) : Int) by omega, ih _ _ (by omega) (by omega)]

theorem f55_is {n : Nat} (hn : 100000 ≤ n) (r : Recorder) (hl : r.Last.length ≤ 90000) (p : Int) : f55 n r p = some (mosS r p) := by
  by_cases hv : RecV r
  case neg =>
    obtain ⟨m, rfl⟩ : ∃ q, n = q + 1 := ⟨n - 1, by omega⟩
    rw [f55, joinK]
    have e : ∀ j, f55_l1 (m + 1) r j (m + 1) 0 0 = j 0 := by
      intro j
      rw [f55_l1, joinK, joinK, if_pos (by decide), show f61 (m + 1) (⟨r.Limit, r.Last, r.Counts, r.Frames, r.Buckets⟩ : Recorder) = some (decide (RecV r)) from f61_is hn r hl, Option.bind_some]
      dsimp only
      rw [if_neg (by simpa using hv)]
    rw [e, joinK, joinK, if_pos (by decide), mosS, if_neg (fun h => hv h.1)]
  have h1 := fun j => f55_l1_is hn r hl j hv 24 n 0 (by omega) (by omega)
  rw [show ((0 : Nat) : Int) = 0 from rfl, show cumW r.Buckets 0 = 0 from rfl] at h1
  rw [f55, joinK, h1, cumW_is hv.2.2.2.2.2 24 (by omega)]
  simp only [joinK]
  rw [mosS]
  by_cases hz : cum r.Buckets 24 = 0
  · rw [if_pos (by simpa using hz), if_neg (fun h => h.2.2.2 hz)]
  rw [if_neg (by simpa using hz)]
  by_cases hp : p < 0
  · rw [if_pos (by simpa using hp), if_neg (fun h => by have := h.2.1; omega)]
  rw [if_neg (by simpa using hp)]
  by_cases hp2 : p > 100
  · rw [if_pos (by simpa using hp2), if_neg (fun h => by have := h.2.2.1; omega)]
  have h2 := f55_l2_is (n := n) r p (by omega) hv.2.2.2.2.2 24 n 0 (by omega) (by omega)
  rw [show ((0 : Nat) : Int) = 0 from rfl, show cum r.Buckets 0 = 0 from rfl] at h2
  rw [if_neg (by simpa using hp2), h2, if_pos ⟨hv, by omega, by omega, hz⟩]

/-! ### the sanity check -/

theorem f36_is {n : Nat} (hn : 100000 ≤ n) : f36 n = some true := by
  have step : ∀ (j : Int → List Glitch → (Nat → Int) → Int → (Nat → Int) → Option Bool) (m i : Nat) (x : Int) (r : Recorder), RecV r → i < 3 → lAt ([100, 200, 1000] : List Int) (i : Int) = some x → 0 ≤ x ∧ x ≤ 1000 →
      f36_l1 n j (m + 1) r.Limit r.Last r.Counts r.Frames r.Buckets (i : Int) = f36_l1 n j m (meaR r x).1.Limit (meaR r x).1.Last (meaR r x).1.Counts (meaR r x).1.Frames (meaR r x).1.Buckets ((i + 1 : Nat) : Int) := by
    intro j m i x r hr hi hx hxr
    have hs := hr.short
    rw [f36_l1, if_pos (by simp; omega), hx, Option.bind_some, show f38 n (⟨r.Limit, r.Last, r.Counts, r.Frames, r.Buckets⟩ : Recorder) x = some (meaR r x) from f38_is hn r (by omega) x (by omega), Option.bind_some, w64_id (by omega), show (i : Int) + 1 = ((i + 1 : Nat) : Int) by omega]
  have v0 : RecV ⟨4, [], aZ, 0, aZ⟩ := newR_V (by decide)
  have m1 := meaR_V v0 (x := 100) (by decide)
  have m2 := meaR_V m1.2.1 (x := 200) (by decide)
  have m3 := meaR_V m2.2.1 (x := 1000) (by decide)
  generalize hr1 : (meaR ⟨4, [], aZ, 0, aZ⟩ 100).1 = r1 at m1 m2 m3
  generalize hr2 : (meaR r1 200).1 = r2 at m2 m3
  generalize hr3 : (meaR r2 1000).1 = r3 at m3
  obtain ⟨p, rfl⟩ : ∃ q, n = q + 4 := ⟨n - 4, by omega⟩
  have s1 := fun j => step j (p + 3) 0 100 ⟨4, [], aZ, 0, aZ⟩ v0 (by decide) rfl (by decide)
  have s2 := fun j => step j (p + 2) 1 200 r1 m1.2.1 (by decide) rfl (by decide)
  have s3 := fun j => step j (p + 1) 2 1000 r2 m2.2.1 (by decide) rfl (by decide)
  rw [hr1] at s1
  rw [hr2] at s2
  rw [hr3] at s3
  rw [show ((0 : Nat) : Int) = 0 from rfl] at s1
  have hs3 := m3.2.1.short
  rw [f36, f37_is, if_pos (by decide), Option.bind_some, joinK]
  dsimp only at s1 ⊢
  rw [s1, s2, s3, f36_l1, if_neg (by decide)]
  rw [if_pos (by decide), show f40 (p + 4) (⟨r3.Limit, r3.Last, r3.Counts, r3.Frames, r3.Buckets⟩ : Recorder) 50 = some (mosS r3 50) from f40_is hn r3 (by omega) 50, Option.bind_some]
  have hB : r3.Buckets = aUp (aUp (aUp aZ 7 1) 8 1) 10 1 := by
    have b1 : buk 100 = 7 := by decide +kernel
    have b2 : buk 200 = 8 := by decide +kernel
    have b3 : buk 1000 = 10 := by decide +kernel
    rw [m3.2.2.2.2, m2.2.2.2.2, m1.2.2.2.2, b1, b2, b3]
    rfl
  have hm : mosS r3 50 = 255 := by
    rw [mosS, hB, if_pos ⟨m3.2.1, by decide, by decide, by decide +kernel⟩]
    decide +kernel
  rw [hm, if_pos (by decide), show f60 (p + 4) (⟨r3.Limit, r3.Last, r3.Counts, r3.Frames, r3.Buckets⟩ : Recorder) = some (decide (RecV r3)) from f60_is hn r3 (by omega), Option.bind_some, decide_eq_true m3.2.1]

end Go.Proofs.Ytacdknbakjbpiaa
