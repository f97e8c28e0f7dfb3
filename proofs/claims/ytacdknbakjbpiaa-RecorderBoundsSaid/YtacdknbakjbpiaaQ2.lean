/-
  Plain laws of recorders: bits of numbers; latencies.
-/
import Derived.Test.YtacdknbakjbpiaaQ1
namespace Go.Proofs.Ytacdknbakjbpiaa
open Go Ab

theorem iMin_eq (a b : Int) : iMin a b = min a b := by unfold iMin; split <;> omega
theorem iMax_eq (a b : Int) : iMax a b = max a b := by unfold iMax; split <;> omega

/-! ### how many bits a number has -/

def blf : Nat → Nat → Nat
  | 0, _ => 0
  | f + 1, x => if x = 0 then 0 else blf f (x / 2) + 1
def bl (x : Nat) : Nat := blf 64 x

theorem blf_enough : ∀ (f g x : Nat), x < 2 ^ f → x < 2 ^ g → blf f x = blf g x
  | 0, 0, _, _, _ => rfl
  | 0, g + 1, x, h, _ => by
    have : x = 0 := by simpa using h
    subst this
    rfl
  | f + 1, 0, x, _, h => by
    have : x = 0 := by simpa using h
    subst this
    rfl
  | f + 1, g + 1, x, h1, h2 => by
    rw [blf, blf]
    rw [Nat.pow_succ] at h1 h2
    split
    · rfl
    · rw [blf_enough f g (x / 2) (by omega) (by omega)]

theorem bl_zero : bl 0 = 0 := rfl
theorem bl_half {x : Nat} (h : 0 < x) (hx : x < 2 ^ 64) : bl x = bl (x / 2) + 1 := by
  rw [bl, blf, if_neg (by omega), bl]
  rw [blf_enough 63 64 (x / 2) (by omega) (by omega)]

theorem bl_shift : ∀ (k x : Nat), 2 ^ k ≤ x → x < 2 ^ 64 → bl x = bl (x / 2 ^ k) + k
  | 0, x, _, _ => by simp
  | k + 1, x, h, hx => by
    have h2 : 2 ^ (k + 1) = 2 * 2 ^ k := by rw [Nat.pow_succ, Nat.mul_comm]
    have hp : 0 < 2 ^ k := Nat.pow_pos (by decide)
    rw [bl_half (by omega) hx, bl_shift k (x / 2) ((Nat.le_div_iff_mul_le (by decide)).2 (by omega)) (by omega), Nat.div_div_eq_div_mul, ← h2]
    omega

theorem lt_bl : ∀ (f x : Nat), x < 2 ^ f → x < 2 ^ blf f x
  | 0, x, h => by simpa [blf] using h
  | f + 1, x, h => by
    rw [blf]
    split
    · omega
    · have := lt_bl f (x / 2) (by rw [Nat.pow_succ] at h; omega)
      rw [Nat.pow_succ]
      omega
theorem bl_le : ∀ (k f x : Nat), x < 2 ^ k → blf f x ≤ k
  | _, 0, _, _ => Nat.zero_le _
  | 0, f + 1, x, h => by
    have : x = 0 := by simpa using h
    subst this
    simp [blf]
  | k + 1, f + 1, x, h => by
    rw [blf]
    split
    · omega
    · have := bl_le k f (x / 2) (by rw [Nat.pow_succ] at h; omega)
      omega

theorem tab8_is : ∀ x : _root_.Fin 256, sAt (⟨#[0, 1, 2, 2, 3, 3, 3, 3, 4, 4, 4, 4, 4, 4, 4, 4, 5, 5, 5, 5, 5, 5, 5, 5, 5, 5, 5, 5, 5, 5, 5, 5, 6, 6, 6, 6, 6, 6, 6, 6, 6, 6, 6, 6, 6, 6, 6, 6, 6, 6, 6, 6, 6, 6, 6, 6, 6, 6, 6, 6, 6, 6, 6, 6, 7, 7, 7, 7, 7, 7, 7, 7, 7, 7, 7, 7, 7, 7, 7, 7, 7, 7, 7, 7, 7, 7, 7, 7, 7, 7, 7, 7, 7, 7, 7, 7, 7, 7, 7, 7, 7, 7, 7, 7, 7, 7, 7, 7, 7, 7, 7, 7, 7, 7, 7, 7, 7, 7, 7, 7, 7, 7, 7, 7, 7, 7, 7, 7, 8, 8, 8, 8, 8, 8, 8, 8, 8, 8, 8, 8, 8, 8, 8, 8, 8, 8, 8, 8, 8, 8, 8, 8, 8, 8, 8, 8, 8, 8, 8, 8, 8, 8, 8, 8, 8, 8, 8, 8, 8, 8, 8, 8, 8, 8, 8, 8, 8, 8, 8, 8, 8, 8, 8, 8, 8, 8, 8, 8, 8, 8, 8, 8, 8, 8, 8, 8, 8, 8, 8, 8, 8, 8, 8, 8, 8, 8, 8, 8, 8, 8, 8, 8, 8, 8, 8, 8, 8, 8, 8, 8, 8, 8, 8, 8, 8, 8, 8, 8, 8, 8, 8, 8, 8, 8, 8, 8, 8, 8, 8, 8, 8, 8, 8, 8, 8, 8, 8, 8, 8, 8, 8, 8, 8, 8, 8, 8]⟩ : ByteArray) ((x.val : Nat) : Int) = some ((bl x.val : Nat) : Int) := by decide +kernel

theorem shr64 (x k : Nat) (hk : k ≤ 64) : iShrT .u64 (x : Int) (k : Int) = ((x / 2 ^ k : Nat) : Int) := by
  unfold iShrT
  rw [Int.toNat_natCast, show IntKind.bits .u64 = 64 from rfl, Nat.min_eq_left hk, Int.fdiv_eq_ediv_of_nonneg _ (by exact_mod_cast Nat.zero_le _)]
  norm_cast

theorem len_is (tab8 : ByteArray) (htb : ∀ x : _root_.Fin 256, sAt tab8 ((x.val : Nat) : Int) = some ((bl x.val : Nat) : Int)) (x : Nat) (hx : x < 2 ^ 64) : joinK (fun (v2 : Int) (v3 : Int) =>
  joinK (fun (v7 : Int) (v8 : Int) =>
  joinK (fun (v12 : Int) (v13 : Int) => (sAt tab8 (IntKind.wrap .u8 v12)).bind fun x16 => some (w64 (v13 + (w64 x16)))) fun j14 : Int → Int → Option Int =>
  if decide (v7 ≥ (256 : Int)) then j14 (iShrT .u64 v7 (8 : Int)) (w64 (v8 + (8 : Int))) else j14 v7 v8) fun j9 : Int → Int → Option Int =>
  if decide (v2 ≥ (65536 : Int)) then j9 (iShrT .u64 v2 (16 : Int)) (w64 (v3 + (16 : Int))) else j9 v2 v3) (fun j4 : Int → Int → Option Int =>
  if decide ((x : Int) ≥ (4294967296 : Int)) then j4 (iShrT .u64 (x : Int) (32 : Int)) 32 else j4 (x : Int) 0) = some ((bl x : Nat) : Int) := by
  have e32 : (2 : Nat) ^ 32 = 4294967296 := rfl
  have e16 : (2 : Nat) ^ 16 = 65536 := rfl
  have e8 : (2 : Nat) ^ 8 = 256 := rfl
  have e64 : (2 : Nat) ^ 64 = 18446744073709551616 := rfl
  have s1 : ∀ j : Int → Int → Option Int, joinK j (fun j4 : Int → Int → Option Int => if decide ((x : Int) ≥ (4294967296 : Int)) then j4 (iShrT .u64 (x : Int) (32 : Int)) 32 else j4 (x : Int) 0) = if 4294967296 ≤ x then j ((x / 4294967296 : Nat) : Int) 32 else j x 0 := by
    intro j
    rw [joinK, show iShrT .u64 (x : Int) (32 : Int) = ((x / 2 ^ 32 : Nat) : Int) from shr64 x 32 (by decide), e32]
    by_cases h : 4294967296 ≤ x
    · rw [if_pos h, if_pos (by simp; omega)]
    · rw [if_neg h, if_neg (by simp; omega)]
  have step : ∀ (y v : Nat) (j : Int → Int → Option Int), y < 4294967296 → v ≤ 64 → joinK j (fun j9 : Int → Int → Option Int => if decide ((y : Int) ≥ (65536 : Int)) then j9 (iShrT .u64 (y : Int) (16 : Int)) (w64 ((v : Int) + 16)) else j9 (y : Int) (v : Int)) = if 65536 ≤ y then j ((y / 65536 : Nat) : Int) ((v + 16 : Nat) : Int) else j y v := by
    intro y v j _ hv
    rw [joinK, show iShrT .u64 (y : Int) (16 : Int) = ((y / 2 ^ 16 : Nat) : Int) from shr64 y 16 (by decide), e16, w64_id (by omega)]
    by_cases h : 65536 ≤ y
    · rw [if_pos h, if_pos (by simp; omega)]; rfl
    · rw [if_neg h, if_neg (by simp; omega)]
  have last : ∀ (y v : Nat), y < 65536 → v ≤ 100 → joinK (fun (v12 : Int) (v13 : Int) => (sAt tab8 (IntKind.wrap .u8 v12)).bind fun x16 => some (w64 (v13 + (w64 x16)))) (fun j14 : Int → Int → Option Int => if decide ((y : Int) ≥ (256 : Int)) then j14 (iShrT .u64 (y : Int) (8 : Int)) (w64 ((v : Int) + 8)) else j14 (y : Int) (v : Int)) = some ((bl y + v : Nat) : Int) := by
    intro y v hy hv
    rw [joinK, show iShrT .u64 (y : Int) (8 : Int) = ((y / 2 ^ 8 : Nat) : Int) from shr64 y 8 (by decide), e8, w64_id (x := (v : Int) + 8) (by omega)]
    have hb : bl y ≤ 16 := bl_le 16 64 y hy
    by_cases h : 256 ≤ y
    · rw [if_pos (by simp; omega)]
      dsimp only
      rw [wrap_u8_mod, show ((y / 256 : Nat) : Int) % 256 = ((y / 256 : Nat) : Int) by omega]
      have ht := htb ⟨y / 256, by omega⟩
      have hs := bl_shift 8 y (by omega) (by omega)
      rw [e8] at hs
      dsimp only at ht ⊢
      rw [ht, Option.bind_some, w64_id (x := ((bl (y / 256) : Nat) : Int)) (by omega), w64_id (by omega)]
      congr 1
      omega
    · rw [if_neg (by simp; omega)]
      dsimp only
      rw [wrap_u8_mod, show (y : Int) % 256 = (y : Int) by omega]
      have ht := htb ⟨y, by omega⟩
      dsimp only at ht ⊢
      rw [ht, Option.bind_some, w64_id (x := ((bl y : Nat) : Int)) (by omega), w64_id (by omega)]
      congr 1
      omega
  have all : ∀ (y v : Nat), y < 4294967296 → v ≤ 64 → joinK (fun (v7 : Int) (v8 : Int) => joinK (fun (v12 : Int) (v13 : Int) => (sAt tab8 (IntKind.wrap .u8 v12)).bind fun x16 => some (w64 (v13 + (w64 x16)))) (fun j14 : Int → Int → Option Int => if decide (v7 ≥ (256 : Int)) then j14 (iShrT .u64 v7 (8 : Int)) (w64 (v8 + 8)) else j14 v7 v8)) (fun j9 : Int → Int → Option Int => if decide ((y : Int) ≥ (65536 : Int)) then j9 (iShrT .u64 (y : Int) (16 : Int)) (w64 ((v : Int) + 16)) else j9 (y : Int) (v : Int)) = some ((bl y + v : Nat) : Int) := by
    intro y v hy hv
    rw [step y v _ hy hv]
    by_cases h : 65536 ≤ y
    · rw [if_pos h]
      rw [last (y / 65536) (v + 16) (by omega) (by omega)]
      have hs := bl_shift 16 y (by omega) (by omega)
      rw [e16] at hs
      congr 2
      omega
    · rw [if_neg h]
      rw [last y v (by omega) (by omega)]
  rw [s1]
  by_cases h : 4294967296 ≤ x
  · rw [if_pos h]
    have := all (x / 4294967296) 32 (by omega) (by omega)
    rw [show ((32 : Nat) : Int) = 32 from rfl] at this
    rw [this]
    have hs := bl_shift 32 x (by omega) hx
    rw [e32] at hs
    congr 2
    omega
  · rw [if_neg h]
    have := all x 0 (by omega) (by omega)
    rw [show ((0 : Nat) : Int) = 0 from rfl] at this
    rw [this, Nat.add_zero]

theorem f108_is {n : Nat} (x : Nat) (hx : x < 2 ^ 64) : f108 n (x : Int) = some ((bl x : Nat) : Int) := by
  rw [f108]
  exact len_is _ tab8_is x hx

theorem f66_l1_is {n : Nat} (j : Int → Option (Recorder × Int)) : ∀ (c x m v : Nat), x < 2 ^ c → c ≤ 64 → c < m → v + c ≤ 1000 → f66_l1 n j m (x : Int) (v : Int) = j ((bl x + v : Nat) : Int) := by
  intro c
  induction c with
  | zero =>
    intro x m v h1 h2 h3 h4
    obtain ⟨m, rfl⟩ : ∃ q, m = q + 1 := ⟨m - 1, by omega⟩
    have : x = 0 := by simpa using h1
    subst this
    rw [f66_l1, if_neg (by simp), bl_zero, Nat.zero_add]
  | succ c ih =>
    intro x m v h1 h2 h3 h4
    obtain ⟨m, rfl⟩ : ∃ q, m = q + 1 := ⟨m - 1, by omega⟩
    have hx : x < 2 ^ 64 := Nat.lt_of_lt_of_le h1 (Nat.pow_le_pow_right (by decide) h2)
    have e64 : (2 : Nat) ^ 64 = 18446744073709551616 := rfl
    by_cases h0 : x = 0
    · subst h0
      rw [f66_l1, if_neg (by simp), bl_zero, Nat.zero_add]
    · rw [f66_l1, if_pos (by simp; omega), show Int.tdiv (x : Int) 2 = ((x / 2 : Nat) : Int) by rw [Int.tdiv_eq_ediv_of_nonneg (by omega)]; omega]
      have hw : w64 ((x / 2 : Nat) : Int) = ((x / 2 : Nat) : Int) := w64_id (by omega)
      rw [hw, w64_id (by omega), show (v : Int) + 1 = ((v + 1 : Nat) : Int) by omega, ih (x / 2) m (v + 1) (by rw [Nat.pow_succ] at h1; omega) (by omega) (by omega) (by omega), bl_half (by omega) hx]
      congr 2
      omega

/-! ### one more latency -/

def zeroR : Recorder := ⟨0, [], aZ, 0, aZ⟩
/-- The bucket of a latency. -/
def buk (x : Int) : Nat := min (bl x.toNat) 23
def meaR (r : Recorder) (x : Int) : Recorder × Int :=
  if RecV r then (if x < 0 then (zeroR, 2) else (⟨r.Limit, r.Last, r.Counts, r.Frames, aUp r.Buckets (buk x) (min (r.Buckets (buk x) + 1) 1099511627776)⟩, 0)) else (zeroR, 1)

theorem buk_lt (x : Int) : buk x < 24 := by unfold buk; omega

theorem f38_is {n : Nat} (hn : 100000 ≤ n) (r : Recorder) (hl : r.Last.length ≤ 90000) (x : Int) (hx : -9223372036854775808 ≤ x ∧ x ≤ 9223372036854775807) : f38 n r x = some (meaR r x) := by
  rw [f38, show f60 n (⟨r.Limit, r.Last, r.Counts, r.Frames, r.Buckets⟩ : Recorder) = some (decide (RecV r)) from f60_is hn r hl, Option.bind_some, meaR]
  by_cases hv : RecV r
  case neg => rw [if_pos (by simpa using hv), if_neg hv]; rfl
  rw [if_neg (by simpa using hv), if_pos hv]
  by_cases h0 : x < 0
  · rw [if_pos (by simpa using h0), if_pos h0]; rfl
  rw [if_neg (by simpa using h0), if_neg h0]
  obtain ⟨y, rfl⟩ := Int.eq_ofNat_of_zero_le (show 0 ≤ x by omega)
  have hb : bl y ≤ 64 := bl_le 64 64 y (by omega)
  have hk : iMin ((bl y : Nat) : Int) 23 = ((buk (y : Int) : Nat) : Int) := by rw [iMin_eq, buk, Int.toNat_natCast]; omega
  have hc := hv.2.2.2.2.2 (buk (y : Int)) (buk_lt _)
  obtain ⟨hc1, hc2⟩ := hc
  rw [wrap_u64, show (y : Int) % 18446744073709551616 = (y : Int) by omega, f76, f108_is y (by omega), Option.bind_some, Option.bind_some, hk, aIdx_nat (buk_lt _), Option.bind_some, f77, Option.bind_some, Option.bind_some, f78, lApp_eq (by simp; omega), Option.bind_some, Option.bind_some, List.nil_append, w64_id (by omega), iMin_eq]

theorem f66_is {n : Nat} (hn : 100000 ≤ n) (r : Recorder) (hl : r.Last.length ≤ 90000) (x : Int) (hx : -9223372036854775808 ≤ x ∧ x ≤ 9223372036854775807) : f66 n r x = some (meaR r x) := by
  rw [f66, show f61 n (⟨r.Limit, r.Last, r.Counts, r.Frames, r.Buckets⟩ : Recorder) = some (decide (RecV r)) from f61_is hn r hl, Option.bind_some, meaR]
  by_cases hv : RecV r
  case neg => rw [if_pos (by simpa using hv), if_neg hv]; rfl
  rw [if_neg (by simpa using hv), if_pos hv]
  by_cases h0 : x < 0
  · rw [if_pos (by simpa using h0), if_pos h0]; rfl
  rw [if_neg (by simpa using h0), if_neg h0, joinK]
  obtain ⟨y, rfl⟩ := Int.eq_ofNat_of_zero_le (show 0 ≤ x by omega)
  have hb : bl y ≤ 64 := bl_le 64 64 y (by omega)
  have hk : iMin ((bl y : Nat) : Int) 23 = ((buk (y : Int) : Nat) : Int) := by rw [iMin_eq, buk, Int.toNat_natCast]; omega
  have hc := hv.2.2.2.2.2 (buk (y : Int)) (buk_lt _)
  obtain ⟨hc1, hc2⟩ := hc
  have hl1 := fun j => f66_l1_is (n := n) j 64 y n 0 (by omega) (by omega) (by omega) (by omega)
  rw [show ((0 : Nat) : Int) = 0 from rfl] at hl1
  rw [hl1, Nat.add_zero]
  rw [hk, aIdx_nat (buk_lt _), Option.bind_some, Option.bind_some, w64_id (by omega), iMin_eq]

theorem aUp_val (A : Nat → Int) (p : Int → Prop) (k m : Nat) (v : Int) (h : ∀ i, i < m → p (A i)) (hv : p v) : ∀ i, i < m → p (aUp A k v i) := by
  intro i hi
  unfold aUp
  split
  · exact hv
  · exact h i hi

theorem meaR_V {r : Recorder} (hv : RecV r) {x : Int} (hx : 0 ≤ x) : (meaR r x).2 = 0 ∧ RecV (meaR r x).1 ∧ (meaR r x).1.Last = r.Last ∧ (meaR r x).1.Limit = r.Limit ∧ (meaR r x).1.Buckets = aUp r.Buckets (buk x) (min (r.Buckets (buk x) + 1) 1099511627776) := by
  rw [meaR, if_pos hv, if_neg (by omega)]
  refine ⟨rfl, ⟨hv.1, hv.2.1, hv.2.2.1, hv.2.2.2.1, hv.2.2.2.2.1, ?_⟩, rfl, rfl, rfl⟩
  refine aUp_val _ _ _ _ _ hv.2.2.2.2.2 ?_
  obtain ⟨h1, h2⟩ := hv.2.2.2.2.2 (buk x) (buk_lt _)
  exact ⟨by omega, by omega⟩

theorem f37_is {n : Nat} (x : Int) : f37 n x = some (if 1 ≤ x ∧ x ≤ 256 then (⟨x, [], aZ, 0, aZ⟩, 0) else (zeroR, 2)) := by
  rw [f37]
  simp only [joinK]
  by_cases h : x < 1
  · rw [if_pos (by simpa using h), if_neg (by omega)]; rfl
  rw [if_neg (by simpa using h)]
  by_cases h2 : x > 256
  · rw [if_pos (by simpa using h2), if_neg (by omega)]; rfl
  rw [if_neg (by simpa using h2), if_pos (by omega)]
theorem f67_is {n : Nat} (x : Int) : f67 n x = some (if 1 ≤ x ∧ x ≤ 256 then (⟨x, [], aZ, 0, aZ⟩, 0) else (zeroR, 2)) := f37_is (n := n) x
theorem cnt0 : CntV 0 := by decide
theorem newR_V {x : Int} (h : 1 ≤ x ∧ x ≤ 256) : RecV ⟨x, [], aZ, 0, aZ⟩ := ⟨h, (by dsimp only; simp; omega), (fun g hg => by cases hg), cnt0, fun _ _ => cnt0, fun _ _ => cnt0⟩

end Go.Proofs.Ytacdknbakjbpiaa
