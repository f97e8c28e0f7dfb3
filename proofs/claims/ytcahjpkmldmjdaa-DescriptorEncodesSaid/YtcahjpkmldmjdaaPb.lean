/-
  What the functions of wire, and those of their reference, come to.
-/
import Derived.Test.YtcahjpkmldmjdaaPa
import Derived.Test.YtcahjpkmldmjdaaGb
namespace Go.Proofs.Ytcahjpkmldmjdaa
open Go Ab

theorem f61_l1_is (j : List Int → Option (List Int)) : ∀ (d m n : Nat) (v : Int) (acc : List Int) (i w : Int), 0 ≤ i → i + d = w → w ≤ 100 → d < m → acc.length + d ≤ 20000000000 → f61_l1 n w j m v acc i = j (acc ++ leN d v) := by
  intro d
  induction d with
  | zero =>
    intro m n v acc i w h0 h1 h2 h3 h4
    obtain ⟨m, rfl⟩ : ∃ q, m = q + 1 := ⟨m - 1, by omega⟩
    rw [f61_l1, if_neg (by simp; omega)]
    simp [leN]
  | succ d ih =>
    intro m n v acc i w h0 h1 h2 h3 h4
    obtain ⟨m, rfl⟩ : ∃ q, m = q + 1 := ⟨m - 1, by omega⟩
    rw [f61_l1, if_pos (by simp; omega), lApp_eq (by simp; omega), Option.bind_some, w64_id (by omega), ih _ _ _ _ _ _ (by omega) (by omega) h2 (by omega) (by simp; omega)]
    have e : iShrT .u16 v 8 = v / 256 := fdiv256 v
    rw [e, wrap_u8_mod]
    simp [leN]

theorem f61_is {n : Nat} (hn : 1000 ≤ n) (b : List Int) (v : Int) (w : Nat) (hw : w ≤ 8) (hb : b.length ≤ 10000000000) : f61 n b v w = some (b ++ leN w v) := by
  rw [f61, w64_id (by omega), lMake_eq (by omega), Option.bind_some, lApp_eq (by simp; omega), Option.bind_some, joinK, f61_l1_is _ w _ _ _ _ _ _ (Int.le_refl _) (by omega) (by omega) (by omega) (by simp; omega)]
  simp

theorem f62_l1_is (j : List Int → Option (List Int)) : ∀ (d m n : Nat) (v : Int) (acc : List Int) (i w : Int), 0 ≤ i → i + d = w → w ≤ 100 → d < m → acc.length + d ≤ 20000000000 → f62_l1 n w j m v acc i = j (acc ++ leN d v) := by
  intro d
  induction d with
  | zero =>
    intro m n v acc i w h0 h1 h2 h3 h4
    obtain ⟨m, rfl⟩ : ∃ q, m = q + 1 := ⟨m - 1, by omega⟩
    rw [f62_l1, if_neg (by simp; omega)]
    simp [leN]
  | succ d ih =>
    intro m n v acc i w h0 h1 h2 h3 h4
    obtain ⟨m, rfl⟩ : ∃ q, m = q + 1 := ⟨m - 1, by omega⟩
    rw [f62_l1, if_pos (by simp; omega), lApp_eq (by simp; omega), Option.bind_some, w64_id (by omega), ih _ _ _ _ _ _ (by omega) (by omega) h2 (by omega) (by simp; omega)]
    have e : iShrT .u32 v 8 = v / 256 := fdiv256 v
    rw [e, wrap_u8_mod]
    simp [leN]

theorem f62_is {n : Nat} (hn : 1000 ≤ n) (b : List Int) (v : Int) (w : Nat) (hw : w ≤ 8) (hb : b.length ≤ 10000000000) : f62 n b v w = some (b ++ leN w v) := by
  rw [f62, w64_id (by omega), lMake_eq (by omega), Option.bind_some, lApp_eq (by simp; omega), Option.bind_some, joinK, f62_l1_is _ w _ _ _ _ _ _ (Int.le_refl _) (by omega) (by omega) (by omega) (by simp; omega)]
  simp

theorem f63_l1_is (j : List Int → Option (List Int)) : ∀ (d m n : Nat) (v : Int) (acc : List Int) (i w : Int), 0 ≤ i → i + d = w → w ≤ 100 → d < m → acc.length + d ≤ 20000000000 → f63_l1 n w j m v acc i = j (acc ++ leN d v) := by
  intro d
  induction d with
  | zero =>
    intro m n v acc i w h0 h1 h2 h3 h4
    obtain ⟨m, rfl⟩ : ∃ q, m = q + 1 := ⟨m - 1, by omega⟩
    rw [f63_l1, if_neg (by simp; omega)]
    simp [leN]
  | succ d ih =>
    intro m n v acc i w h0 h1 h2 h3 h4
    obtain ⟨m, rfl⟩ : ∃ q, m = q + 1 := ⟨m - 1, by omega⟩
    rw [f63_l1, if_pos (by simp; omega), lApp_eq (by simp; omega), Option.bind_some, w64_id (by omega), ih _ _ _ _ _ _ (by omega) (by omega) h2 (by omega) (by simp; omega)]
    have e : iShrT .u64 v 8 = v / 256 := fdiv256 v
    rw [e, wrap_u8_mod]
    simp [leN]

theorem f63_is {n : Nat} (hn : 1000 ≤ n) (b : List Int) (v : Int) (w : Nat) (hw : w ≤ 8) (hb : b.length ≤ 10000000000) : f63 n b v w = some (b ++ leN w v) := by
  rw [f63, w64_id (by omega), lMake_eq (by omega), Option.bind_some, lApp_eq (by simp; omega), Option.bind_some, joinK, f63_l1_is _ w _ _ _ _ _ _ (Int.le_refl _) (by omega) (by omega) (by omega) (by simp; omega)]
  simp

theorem f60_l1_is (j : List Int → Option (List Int)) : ∀ (d m n : Nat) (v : Int) (acc : List Int) (i w : Nat), i + d = w → w ≤ 8 → d < m → acc.length + d ≤ 20000000000 → f60_l1 n v w j m acc i = j (acc ++ leN d (v / 256 ^ i)) := by
  intro d
  induction d with
  | zero =>
    intro m n v acc i w h1 h2 h3 h4
    obtain ⟨m, rfl⟩ : ∃ q, m = q + 1 := ⟨m - 1, by omega⟩
    rw [f60_l1, if_neg (by simp; omega)]
    simp [leN]
  | succ d ih =>
    intro m n v acc i w h1 h2 h3 h4
    obtain ⟨m, rfl⟩ : ∃ q, m = q + 1 := ⟨m - 1, by omega⟩
    rw [f60_l1, if_pos (by simp; omega), w64_id (by omega)]
    have e : iShr .u64 v (8 * (i : Int)) = some (v / 256 ^ i) := by
      unfold iShr
      rw [if_pos (by omega), shr_le v i (by omega)]
    rw [e, Option.bind_some, lApp_eq (by simp; omega), Option.bind_some, w64_id (by omega), show (i : Int) + 1 = ((i + 1 : Nat) : Int) by omega, ih _ _ _ _ _ _ (by omega) h2 (by omega) (by simp; omega), wrap_u8_mod]
    rw [leN, Int.ediv_ediv_of_nonneg (Int.le_of_lt (Int.pow_pos (by decide))), ← Int.pow_succ]
    simp

theorem f60_is {n : Nat} (hn : 1000 ≤ n) (b : List Int) (v : Int) (w : Nat) (hw : w ≤ 8) (hb : b.length ≤ 10000000000) : f60 n b v w = some (b ++ leN w v) := by
  rw [f60, lApp_eq (by simp; omega), Option.bind_some, joinK, List.nil_append]
  have := f60_l1_is (fun v => some v) w n n v b 0 w (by omega) hw (by omega) (by omega)
  rw [show ((0 : Nat) : Int) = 0 from rfl] at this
  rw [this]
  simp

theorem f24_is {n : Nat} (hn : 1000 ≤ n) (b : List Int) (v : Int) (hb : b.length ≤ 10000000000) : f24 n b v = some (b ++ leN 2 v) := by
  rw [f24, show (2 : Int) = ((2 : Nat) : Int) from rfl, f61_is hn _ _ 2 (by omega) hb]; rfl
theorem f26_is {n : Nat} (hn : 1000 ≤ n) (b : List Int) (v : Int) (hb : b.length ≤ 10000000000) : f26 n b v = some (b ++ leN 4 v) := by
  rw [f26, show (4 : Int) = ((4 : Nat) : Int) from rfl, f62_is hn _ _ 4 (by omega) hb]; rfl
theorem f28_is {n : Nat} (hn : 1000 ≤ n) (b : List Int) (v : Int) (hb : b.length ≤ 10000000000) : f28 n b v = some (b ++ leN 8 v) := by
  rw [f28, show (8 : Int) = ((8 : Nat) : Int) from rfl, f63_is hn _ _ 8 (by omega) hb]; rfl
theorem f25_is {n : Nat} (hn : 1000 ≤ n) (b : List Int) (v : Int) (hv : 0 ≤ v ∧ v < 18446744073709551616) (hb : b.length ≤ 10000000000) : f25 n b v = some (b ++ leN 2 v) := by
  rw [f25, wrap_u64, Int.emod_eq_of_lt hv.1 hv.2, show (2 : Int) = ((2 : Nat) : Int) from rfl, f60_is hn _ _ 2 (by omega) hb]; rfl
theorem f27_is {n : Nat} (hn : 1000 ≤ n) (b : List Int) (v : Int) (hv : 0 ≤ v ∧ v < 18446744073709551616) (hb : b.length ≤ 10000000000) : f27 n b v = some (b ++ leN 4 v) := by
  rw [f27, wrap_u64, Int.emod_eq_of_lt hv.1 hv.2, show (4 : Int) = ((4 : Nat) : Int) from rfl, f60_is hn _ _ 4 (by omega) hb]; rfl
theorem f29_is {n : Nat} (hn : 1000 ≤ n) (b : List Int) (v : Int) (hb : b.length ≤ 10000000000) : f29 n b v = some (b ++ leN 8 v) := by
  rw [f29, show (8 : Int) = ((8 : Nat) : Int) from rfl, f60_is hn _ _ 8 (by omega) hb]; rfl

/-- What putting a text comes to. -/
def ptB (b : List Int) (s : ByteArray) : List Int := if s.size ≤ 64 then b ++ (s.size : Int) :: strNums s else []
def ptE (s : ByteArray) : Int := if s.size ≤ 64 then 0 else 3

theorem f22_is {n : Nat} (b : List Int) (s : ByteArray) (hb : b.length ≤ 10000000000) : f22 n b s = some (ptB b s, ptE s) := by
  unfold ptB ptE
  rw [f22]
  by_cases h : s.size ≤ 64
  · have hs := strNums_length s
    rw [if_neg (by simp; omega), w64_id (x := (b.length : Int) + 1) (by omega), w64_id (by omega), lMake_eq (by omega), Option.bind_some, lApp_eq (by simp; omega), Option.bind_some, lApp_eq (by simp; omega), Option.bind_some, lApp_eq (by simp; omega), Option.bind_some, if_pos h, if_pos h, wrap_u8_mod, Int.emod_eq_of_lt (by omega) (by omega)]
    simp
  · rw [if_pos (by simp; omega), if_neg h, if_neg h]

theorem f23_is {n : Nat} (hn : 1000 ≤ n) (b : List Int) (s : ByteArray) (hb : b.length ≤ 10000000000) : f23 n b s = some (ptB b s, ptE s) := by
  unfold ptB ptE
  rw [f23]
  by_cases h : s.size ≤ 64
  · have hs := strNums_length s
    rw [if_neg (by simp; omega), wrap_u64, Int.emod_eq_of_lt (by omega) (by omega), show (1 : Int) = ((1 : Nat) : Int) from rfl, f60_is hn _ _ 1 (by omega) hb, Option.bind_some, lApp_eq (by simp [leN_length]; omega), Option.bind_some, if_pos h, if_pos h]
    simp only [leN, Int.emod_eq_of_lt (show 0 ≤ (s.size : Int) by omega) (show (s.size : Int) < 256 by omega)]
    simp
  · rw [if_pos (by simp; omega), if_neg h, if_neg h]

theorem f65_l1_is (b : List Int) (hb : AreBytes b) (a : Int) (ha : 0 ≤ a) (w : Nat) (hw : w ≤ 2) (hl : a + w ≤ b.length) (hbl : b.length ≤ 9000000000000000000) (j : Int → Option (Int × Int × Int)) : ∀ (d m n i : Nat), i + d = w → d < m → f65_l1 n b a w j m (leV ((b.drop a.toNat).take i)) i = j (leV ((b.drop a.toNat).take w)) := by
  intro d
  induction d with
  | zero =>
    intro m n i h1 h2
    obtain ⟨m, rfl⟩ : ∃ q, m = q + 1 := ⟨m - 1, by omega⟩
    rw [f65_l1, if_neg (by simp; omega), show i = w by omega]
  | succ d ih =>
    intro m n i h1 h2
    obtain ⟨m, rfl⟩ : ∃ q, m = q + 1 := ⟨m - 1, by omega⟩
    have hib : a.toNat + i < b.length := by omega
    have hq : (a + (i : Int)).toNat = a.toNat + i := by omega
    rw [f65_l1, if_pos (by simp; omega), w64_id (by omega), lAt_eq (by omega), Option.bind_some, w64_id (by omega)]
    have hbb := hb _ (List.getElem_mem hib)
    have hd : ((b.drop a.toNat).take i).length = i := by rw [List.length_take, List.length_drop]; omega
    have hcr := leV_range ((b.drop a.toNat).take i) (take_bytes (drop_bytes hb _) _)
    rw [hd] at hcr
    have hs : iShl .u16 (IntKind.wrap .u16 (b[(a + (i : Int)).toNat]'(by omega))) (8 * (i : Int)) = some (IntKind.wrap .u16 (IntKind.wrap .u16 (b[a.toNat + i]) * 2 ^ (min ((8 : Int) * i).toNat (IntKind.bits .u16)))) := by
      unfold iShl
      rw [if_pos (by omega)]
      simp only [hq]
    rw [hs, Option.bind_some, or_step .u16 wraps_u16' _ _ i (by show _ ≤ 16; omega) hcr hbb, w64_id (by omega), show (i : Int) + 1 = ((i + 1 : Nat) : Int) by omega]
    have hlt : i < (b.drop a.toNat).length := by rw [List.length_drop]; omega
    have e : leV ((b.drop a.toNat).take i) + b[a.toNat + i] * 256 ^ i = leV ((b.drop a.toNat).take (i + 1)) := by
      rw [List.take_add_one, List.getElem?_eq_getElem hlt]
      simp only [Option.toList, leV_snoc, hd, List.getElem_drop]
    rw [e]
    exact ih m n (i + 1) (by omega) (by omega)

theorem f65_is {n : Nat} (hn : 1000 ≤ n) (b : List Int) (hb : AreBytes b) (hbl : b.length ≤ 9000000000000000000) (a : Int) (ha : -9223372036854775808 ≤ a ∧ a ≤ 9223372036854775807) (w : Nat) (hw : w ≤ 2) : f65 n b a w = some (getV b a w, getA b a w, getE b a w) := by
  rw [f65]
  simp only [joinK]
  by_cases h1 : a < 0
  · rw [if_pos (by simp; omega)]
    have he : getE b a w = 2 := by rw [getE, if_pos (.inl h1)]
    have := getE_bad (bs := b) (a := a) (n := w) (by omega)
    rw [this.1, this.2, he]
  · rw [if_neg (by simp; omega)]
    by_cases h2 : a > b.length
    · rw [if_pos (by simp; omega)]
      have he : getE b a w = 2 := by rw [getE, if_pos (.inr h2)]
      have := getE_bad (bs := b) (a := a) (n := w) (by omega)
      rw [this.1, this.2, he]
    · rw [if_neg (by simp; omega), w64_id (by omega)]
      by_cases h3 : (b.length : Int) - a < w
      · rw [if_pos (by simp; omega)]
        have he : getE b a w = 4 := by rw [getE, if_neg (by omega), if_pos h3]
        have := getE_bad (bs := b) (a := a) (n := w) (by omega)
        rw [this.1, this.2, he]
      · rw [if_neg (by simp; omega)]
        have he : getE b a w = 0 := by rw [getE, if_neg (by omega), if_neg h3]
        have h4 := f65_l1_is b hb a (by omega) w hw (by omega) hbl (fun v => some (v, w64 (a + w), 0)) w n n 0 (by omega) (by omega)
        rw [List.take_zero, leV, show ((0 : Nat) : Int) = 0 from rfl] at h4
        rw [h4, w64_id (by omega), getV, getA, he, if_pos rfl, if_pos rfl]

theorem f64_l1_is (b : List Int) (hb : AreBytes b) (a : Int) (ha : 0 ≤ a) (w : Nat) (hw : w ≤ 4) (hl : a + w ≤ b.length) (hbl : b.length ≤ 9000000000000000000) (j : Int → Option (Int × Int × Int)) : ∀ (d m n i : Nat), i + d = w → d < m → f64_l1 n b a w j m (leV ((b.drop a.toNat).take i)) i = j (leV ((b.drop a.toNat).take w)) := by
  intro d
  induction d with
  | zero =>
    intro m n i h1 h2
    obtain ⟨m, rfl⟩ : ∃ q, m = q + 1 := ⟨m - 1, by omega⟩
    rw [f64_l1, if_neg (by simp; omega), show i = w by omega]
  | succ d ih =>
    intro m n i h1 h2
    obtain ⟨m, rfl⟩ : ∃ q, m = q + 1 := ⟨m - 1, by omega⟩
    have hib : a.toNat + i < b.length := by omega
    have hq : (a + (i : Int)).toNat = a.toNat + i := by omega
    rw [f64_l1, if_pos (by simp; omega), w64_id (by omega), lAt_eq (by omega), Option.bind_some, w64_id (by omega)]
    have hbb := hb _ (List.getElem_mem hib)
    have hd : ((b.drop a.toNat).take i).length = i := by rw [List.length_take, List.length_drop]; omega
    have hcr := leV_range ((b.drop a.toNat).take i) (take_bytes (drop_bytes hb _) _)
    rw [hd] at hcr
    have hs : iShl .u32 (IntKind.wrap .u32 (b[(a + (i : Int)).toNat]'(by omega))) (8 * (i : Int)) = some (IntKind.wrap .u32 (IntKind.wrap .u32 (b[a.toNat + i]) * 2 ^ (min ((8 : Int) * i).toNat (IntKind.bits .u32)))) := by
      unfold iShl
      rw [if_pos (by omega)]
      simp only [hq]
    rw [hs, Option.bind_some, or_step .u32 wraps_u32' _ _ i (by show _ ≤ 32; omega) hcr hbb, w64_id (by omega), show (i : Int) + 1 = ((i + 1 : Nat) : Int) by omega]
    have hlt : i < (b.drop a.toNat).length := by rw [List.length_drop]; omega
    have e : leV ((b.drop a.toNat).take i) + b[a.toNat + i] * 256 ^ i = leV ((b.drop a.toNat).take (i + 1)) := by
      rw [List.take_add_one, List.getElem?_eq_getElem hlt]
      simp only [Option.toList, leV_snoc, hd, List.getElem_drop]
    rw [e]
    exact ih m n (i + 1) (by omega) (by omega)

theorem f64_is {n : Nat} (hn : 1000 ≤ n) (b : List Int) (hb : AreBytes b) (hbl : b.length ≤ 9000000000000000000) (a : Int) (ha : -9223372036854775808 ≤ a ∧ a ≤ 9223372036854775807) (w : Nat) (hw : w ≤ 4) : f64 n b a w = some (getV b a w, getA b a w, getE b a w) := by
  rw [f64]
  simp only [joinK]
  by_cases h1 : a < 0
  · rw [if_pos (by simp; omega)]
    have he : getE b a w = 2 := by rw [getE, if_pos (.inl h1)]
    have := getE_bad (bs := b) (a := a) (n := w) (by omega)
    rw [this.1, this.2, he]
  · rw [if_neg (by simp; omega)]
    by_cases h2 : a > b.length
    · rw [if_pos (by simp; omega)]
      have he : getE b a w = 2 := by rw [getE, if_pos (.inr h2)]
      have := getE_bad (bs := b) (a := a) (n := w) (by omega)
      rw [this.1, this.2, he]
    · rw [if_neg (by simp; omega), w64_id (by omega)]
      by_cases h3 : (b.length : Int) - a < w
      · rw [if_pos (by simp; omega)]
        have he : getE b a w = 4 := by rw [getE, if_neg (by omega), if_pos h3]
        have := getE_bad (bs := b) (a := a) (n := w) (by omega)
        rw [this.1, this.2, he]
      · rw [if_neg (by simp; omega)]
        have he : getE b a w = 0 := by rw [getE, if_neg (by omega), if_neg h3]
        have h4 := f64_l1_is b hb a (by omega) w hw (by omega) hbl (fun v => some (v, w64 (a + w), 0)) w n n 0 (by omega) (by omega)
        rw [List.take_zero, leV, show ((0 : Nat) : Int) = 0 from rfl] at h4
        rw [h4, w64_id (by omega), getV, getA, he, if_pos rfl, if_pos rfl]

theorem f67_l1_is (b : List Int) (hb : AreBytes b) (a : Int) (ha : 0 ≤ a) (w : Nat) (hw : w ≤ 8) (hl : a + w ≤ b.length) (hbl : b.length ≤ 9000000000000000000) (j : Int → Option (Int × Int × Int)) : ∀ (d m n i : Nat), i + d = w → d < m → f67_l1 n b a w j m (leV ((b.drop a.toNat).take i)) i = j (leV ((b.drop a.toNat).take w)) := by
  intro d
  induction d with
  | zero =>
    intro m n i h1 h2
    obtain ⟨m, rfl⟩ : ∃ q, m = q + 1 := ⟨m - 1, by omega⟩
    rw [f67_l1, if_neg (by simp; omega), show i = w by omega]
  | succ d ih =>
    intro m n i h1 h2
    obtain ⟨m, rfl⟩ : ∃ q, m = q + 1 := ⟨m - 1, by omega⟩
    have hib : a.toNat + i < b.length := by omega
    have hq : (a + (i : Int)).toNat = a.toNat + i := by omega
    rw [f67_l1, if_pos (by simp; omega), w64_id (by omega), lAt_eq (by omega), Option.bind_some, w64_id (by omega)]
    have hbb := hb _ (List.getElem_mem hib)
    have hd : ((b.drop a.toNat).take i).length = i := by rw [List.length_take, List.length_drop]; omega
    have hcr := leV_range ((b.drop a.toNat).take i) (take_bytes (drop_bytes hb _) _)
    rw [hd] at hcr
    have hs : iShl .u64 (IntKind.wrap .u64 (b[(a + (i : Int)).toNat]'(by omega))) (8 * (i : Int)) = some (IntKind.wrap .u64 (IntKind.wrap .u64 (b[a.toNat + i]) * 2 ^ (min ((8 : Int) * i).toNat (IntKind.bits .u64)))) := by
      unfold iShl
      rw [if_pos (by omega)]
      simp only [hq]
    rw [hs, Option.bind_some, or_step .u64 wraps_u64' _ _ i (by show _ ≤ 64; omega) hcr hbb, w64_id (by omega), show (i : Int) + 1 = ((i + 1 : Nat) : Int) by omega]
    have hlt : i < (b.drop a.toNat).length := by rw [List.length_drop]; omega
    have e : leV ((b.drop a.toNat).take i) + b[a.toNat + i] * 256 ^ i = leV ((b.drop a.toNat).take (i + 1)) := by
      rw [List.take_add_one, List.getElem?_eq_getElem hlt]
      simp only [Option.toList, leV_snoc, hd, List.getElem_drop]
    rw [e]
    exact ih m n (i + 1) (by omega) (by omega)

theorem f67_is {n : Nat} (hn : 1000 ≤ n) (b : List Int) (hb : AreBytes b) (hbl : b.length ≤ 9000000000000000000) (a : Int) (ha : -9223372036854775808 ≤ a ∧ a ≤ 9223372036854775807) (w : Nat) (hw : w ≤ 8) : f67 n b a w = some (getV b a w, getA b a w, getE b a w) := by
  rw [f67]
  simp only [joinK]
  by_cases h1 : a < 0
  · rw [if_pos (by simp; omega)]
    have he : getE b a w = 2 := by rw [getE, if_pos (.inl h1)]
    have := getE_bad (bs := b) (a := a) (n := w) (by omega)
    rw [this.1, this.2, he]
  · rw [if_neg (by simp; omega)]
    by_cases h2 : a > b.length
    · rw [if_pos (by simp; omega)]
      have he : getE b a w = 2 := by rw [getE, if_pos (.inr h2)]
      have := getE_bad (bs := b) (a := a) (n := w) (by omega)
      rw [this.1, this.2, he]
    · rw [if_neg (by simp; omega), w64_id (by omega)]
      by_cases h3 : (b.length : Int) - a < w
      · rw [if_pos (by simp; omega)]
        have he : getE b a w = 4 := by rw [getE, if_neg (by omega), if_pos h3]
        have := getE_bad (bs := b) (a := a) (n := w) (by omega)
        rw [this.1, this.2, he]
      · rw [if_neg (by simp; omega)]
        have he : getE b a w = 0 := by rw [getE, if_neg (by omega), if_neg h3]
        have h4 := f67_l1_is b hb a (by omega) w hw (by omega) hbl (fun v => some (v, w64 (a + w), 0)) w n n 0 (by omega) (by omega)
        rw [List.take_zero, leV, show ((0 : Nat) : Int) = 0 from rfl] at h4
        rw [h4, w64_id (by omega), getV, getA, he, if_pos rfl, if_pos rfl]

theorem f66_l1_is (b : List Int) (hb : AreBytes b) (a : Int) (ha : 0 ≤ a) (w : Nat) (hw : w ≤ 8) (hl : a + w ≤ b.length) (hbl : b.length ≤ 9000000000000000000) (j : Int → Option (Int × Int × Int)) : ∀ (q m n : Nat), q ≤ w → q < m → f66_l1 n b a j m (leV ((b.drop (a.toNat + q)).take (w - q))) ((q : Int) - 1) = j (leV ((b.drop a.toNat).take w)) := by
  intro q
  induction q with
  | zero =>
    intro m n h1 h2
    obtain ⟨m, rfl⟩ : ∃ q, m = q + 1 := ⟨m - 1, by omega⟩
    rw [f66_l1, if_neg (by simp)]
    simp
  | succ p ih =>
    intro m n h1 h2
    obtain ⟨m, rfl⟩ : ∃ q, m = q + 1 := ⟨m - 1, by omega⟩
    have hib : a.toNat + p < b.length := by omega
    have hx : (a + (((p + 1 : Nat) : Int) - 1)).toNat = a.toNat + p := by omega
    have hbb := hb _ (List.getElem_mem hib)
    rw [f66_l1, if_pos (by simp), w64_id (by omega), lAt_eq (by omega), Option.bind_some]
    simp only [hx]
    have hvr : 0 ≤ leV ((b.drop (a.toNat + (p + 1))).take (w - (p + 1))) ∧ leV ((b.drop (a.toNat + (p + 1))).take (w - (p + 1))) < 72057594037927936 := by
      have h5 := leV_range ((b.drop (a.toNat + (p + 1))).take (w - (p + 1))) (take_bytes (drop_bytes hb _) _)
      exact ⟨h5.1, Int.lt_of_lt_of_le h5.2 (pow256_mono (b := 7) (by rw [List.length_take]; omega))⟩
    rw [or_shift _ _ hvr hbb, w64_id (by omega), show (((p + 1 : Nat) : Int) - 1) - 1 = (p : Int) - 1 by omega]
    have e : b[a.toNat + p] + 256 * leV ((b.drop (a.toNat + (p + 1))).take (w - (p + 1))) = leV ((b.drop (a.toNat + p)).take (w - p)) := by
      rw [show w - p = (w - (p + 1)) + 1 by omega, List.drop_eq_getElem_cons hib, List.take_succ_cons, leV, Nat.add_assoc]
    rw [e]
    exact ih m n (by omega) (by omega)

theorem f66_is {n : Nat} (hn : 1000 ≤ n) (b : List Int) (hb : AreBytes b) (hbl : b.length ≤ 9000000000000000000) (a : Int) (ha : -9223372036854775808 ≤ a ∧ a ≤ 9223372036854775807) (w : Nat) (hw : w ≤ 8) : f66 n b a w = some (getV b a w, getA b a w, getE b a w) := by
  rw [f66]
  simp only [joinK]
  by_cases h1 : a < 0
  · rw [if_pos (by simp; omega)]
    have he : getE b a w = 2 := by rw [getE, if_pos (.inl h1)]
    have := getE_bad (bs := b) (a := a) (n := w) (by omega)
    rw [this.1, this.2, he]
  · rw [if_neg (by simp; omega)]
    by_cases h2 : a > b.length
    · rw [if_pos (by simp; omega)]
      have he : getE b a w = 2 := by rw [getE, if_pos (.inr h2)]
      have := getE_bad (bs := b) (a := a) (n := w) (by omega)
      rw [this.1, this.2, he]
    · rw [if_neg (by simp; omega), w64_id (by omega)]
      by_cases h3 : (b.length : Int) - a < w
      · rw [if_pos (by simp; omega)]
        have he : getE b a w = 4 := by rw [getE, if_neg (by omega), if_pos h3]
        have := getE_bad (bs := b) (a := a) (n := w) (by omega)
        rw [this.1, this.2, he]
      · rw [if_neg (by simp; omega)]
        have he : getE b a w = 0 := by rw [getE, if_neg (by omega), if_neg h3]
        have h4 := f66_l1_is b hb a (by omega) w hw (by omega) hbl (fun v => some (v, w64 (a + w), 0)) w n n (Nat.le_refl _) (by omega)
        rw [Nat.sub_self, List.take_zero, leV] at h4
        rw [w64_id (x := (w : Int) - 1) (by omega), h4, w64_id (by omega), getV, getA, he, if_pos rfl, if_pos rfl]

theorem f32_is {n : Nat} (hn : 1000 ≤ n) (b : List Int) (hb : AreBytes b) (hbl : b.length ≤ 9000000000000000000) (a : Int) (ha : -9223372036854775808 ≤ a ∧ a ≤ 9223372036854775807) : f32 n b a = some (getV b a 2, getA b a 2, getE b a 2) := by
  rw [f32, show (2 : Int) = ((2 : Nat) : Int) from rfl, f65_is hn b hb hbl a ha 2 (by omega), Option.bind_some]

theorem f30_is {n : Nat} (hn : 1000 ≤ n) (b : List Int) (hb : AreBytes b) (hbl : b.length ≤ 9000000000000000000) (a : Int) (ha : -9223372036854775808 ≤ a ∧ a ≤ 9223372036854775807) : f30 n b a = some (getV b a 4, getA b a 4, getE b a 4) := by
  rw [f30, show (4 : Int) = ((4 : Nat) : Int) from rfl, f64_is hn b hb hbl a ha 4 (by omega), Option.bind_some]

theorem f35_is {n : Nat} (hn : 1000 ≤ n) (b : List Int) (hb : AreBytes b) (hbl : b.length ≤ 9000000000000000000) (a : Int) (ha : -9223372036854775808 ≤ a ∧ a ≤ 9223372036854775807) : f35 n b a = some (getV b a 8, getA b a 8, getE b a 8) := by
  rw [f35, show (8 : Int) = ((8 : Nat) : Int) from rfl, f67_is hn b hb hbl a ha 8 (by omega), Option.bind_some]

theorem f33_is {n : Nat} (hn : 1000 ≤ n) (b : List Int) (hb : AreBytes b) (hbl : b.length ≤ 9000000000000000000) (a : Int) (ha : -9223372036854775808 ≤ a ∧ a ≤ 9223372036854775807) : f33 n b a = some (getV b a 2, getA b a 2, getE b a 2) := by
  rw [f33, show (2 : Int) = ((2 : Nat) : Int) from rfl, f66_is hn b hb hbl a ha 2 (by omega), Option.bind_some]
  have hr := getV_range hb a 2
  rw [show (256 : Int) ^ 2 = 65536 from rfl] at hr
  simp only [wrap_u16, Int.emod_eq_of_lt hr.1 hr.2]

theorem f34_is {n : Nat} (hn : 1000 ≤ n) (b : List Int) (hb : AreBytes b) (hbl : b.length ≤ 9000000000000000000) (a : Int) (ha : -9223372036854775808 ≤ a ∧ a ≤ 9223372036854775807) : f34 n b a = some (getV b a 4, getA b a 4, getE b a 4) := by
  rw [f34, show (4 : Int) = ((4 : Nat) : Int) from rfl, f66_is hn b hb hbl a ha 4 (by omega), Option.bind_some]
  have hr := getV_range hb a 4
  rw [show (256 : Int) ^ 4 = 4294967296 from rfl] at hr
  simp only [wrap_u32, Int.emod_eq_of_lt hr.1 hr.2]

theorem f36_is {n : Nat} (hn : 1000 ≤ n) (b : List Int) (hb : AreBytes b) (hbl : b.length ≤ 9000000000000000000) (a : Int) (ha : -9223372036854775808 ≤ a ∧ a ≤ 9223372036854775807) : f36 n b a = some (getV b a 8, getA b a 8, getE b a 8) := by
  rw [f36, show (8 : Int) = ((8 : Nat) : Int) from rfl, f66_is hn b hb hbl a ha 8 (by omega), Option.bind_some]

theorem f31_is {n : Nat} (b : List Int) (hb : AreBytes b) (hbl : b.length ≤ 9000000000000000000) (a : Int) (ha : -9223372036854775808 ≤ a ∧ a ≤ 9223372036854775807) : f31 n b a = some (gtS b a, gtA b a, gtE b a) := by
  rw [f31]
  simp only [joinK]
  have bad : ∀ e : Int, gtE b a = e → e ≠ 0 → some ((⟨#[]⟩ : ByteArray), (0 : Int), e) = some (gtS b a, gtA b a, gtE b a) := by
    intro e he h0
    rw [gtS, gtA, he, if_neg h0, if_neg h0]
  by_cases h1 : a < 0
  · rw [if_pos (by simp; omega)]
    exact bad 2 (by rw [gtE, if_pos (.inl h1)]) (by decide)
  rw [if_neg (by simp; omega)]
  by_cases h2 : a > b.length
  · rw [if_pos (by simp; omega)]
    exact bad 2 (by rw [gtE, if_pos (.inr h2)]) (by decide)
  rw [if_neg (by simp; omega)]
  by_cases h3 : a = b.length
  · rw [if_pos (by simp; omega)]
    exact bad 4 (by rw [gtE, if_neg (by omega), if_pos h3]) (by decide)
  rw [if_neg (by simp; omega), lAt_eq (by omega), Option.bind_some]
  have hN : gtN b a = b[a.toNat]'(by omega) := by rw [gtN, List.getElem?_eq_getElem (by omega)]; rfl
  rw [← hN]
  have hr := gtN_range hb a
  rw [w64_id (x := gtN b a) (by omega)]
  by_cases h4 : gtN b a > 64
  · rw [if_pos (by simp; omega)]
    exact bad 3 (by rw [gtE, if_neg (by omega), if_neg (by omega), if_pos h4]) (by decide)
  rw [if_neg (by simp; omega), w64_id (x := (b.length : Int) - a) (by omega), w64_id (x := (b.length : Int) - a - 1) (by omega)]
  by_cases h5 : (b.length : Int) - a - 1 < gtN b a
  · rw [if_pos (by simp; omega)]
    exact bad 4 (by rw [gtE, if_neg (by omega), if_neg (by omega), if_neg h4, if_pos h5]) (by decide)
  rw [if_neg (by simp; omega), w64_id (x := a + 1) (by omega), w64_id (x := a + 1 + gtN b a) (by omega), lPart_eq (by omega), Option.bind_some]
  have he : gtE b a = 0 := by rw [gtE, if_neg (by omega), if_neg (by omega), if_neg h4, if_neg h5]
  rw [gtS, gtA, he, if_pos rfl, if_pos rfl]

theorem f37_is {n : Nat} (hn : 1000 ≤ n) (b : List Int) (hb : AreBytes b) (hbl : b.length ≤ 9000000000000000000) (a : Int) (ha : -9223372036854775808 ≤ a ∧ a ≤ 9223372036854775807) : f37 n b a = some (gtS b a, gtA b a, gtE b a) := by
  rw [f37, show (1 : Int) = ((1 : Nat) : Int) from rfl, f66_is hn b hb hbl a ha 1 (by omega), Option.bind_some]
  have bad : ∀ e : Int, gtE b a = e → e ≠ 0 → some ((⟨#[]⟩ : ByteArray), (0 : Int), e) = some (gtS b a, gtA b a, gtE b a) := by
    intro e he h0
    rw [gtS, gtA, he, if_neg h0, if_neg h0]
  simp only
  by_cases h0 : getE b a 1 = 0
  · rw [if_neg (by simp [h0])]
    have h1 := getE_ok.1 h0
    have hN : gtN b a = b[a.toNat]'(by omega) := by rw [gtN, List.getElem?_eq_getElem (by omega)]; rfl
    have hV : getV b a 1 = gtN b a := by
      rw [getV, if_pos h0, List.drop_eq_getElem_cons (show a.toNat < b.length by omega), List.take_succ_cons, List.take_zero, leV, leV, hN]
      omega
    have hr := gtN_range hb a
    rw [hV, getA, if_pos h0]
    by_cases h4 : gtN b a > 64
    · rw [if_pos (by simp; omega)]
      exact bad 3 (by rw [gtE, if_neg (by omega), if_neg (by omega), if_pos h4]) (by decide)
    rw [if_neg (by simp; omega), w64_id (x := (b.length : Int) - (a + ((1 : Nat) : Int))) (by omega), wrap_u64, Int.emod_eq_of_lt (by omega) (by omega)]
    by_cases h5 : (b.length : Int) - (a + ((1 : Nat) : Int)) < gtN b a
    · rw [if_pos (by simp; omega)]
      exact bad 4 (by rw [gtE, if_neg (by omega), if_neg (by omega), if_neg h4, if_pos (by omega)]) (by decide)
    rw [if_neg (by simp; omega), w64_id (x := gtN b a) (by omega), w64_id (x := a + ((1 : Nat) : Int) + gtN b a) (by omega), lPart_eq (by omega), Option.bind_some]
    have he : gtE b a = 0 := by rw [gtE, if_neg (by omega), if_neg (by omega), if_neg h4, if_neg (by omega)]
    rw [gtS, gtA, he, if_pos rfl, if_pos rfl]
    rfl
  · rw [if_pos (by simp [h0])]
    refine bad _ ?_ h0
    unfold getE at h0 ⊢
    unfold gtE
    by_cases h1 : a < 0 ∨ a > b.length
    · rw [if_pos h1, if_pos h1]
    · rw [if_neg h1] at h0 ⊢
      rw [if_neg h1]
      by_cases h2 : (b.length : Int) - a < ((1 : Nat) : Int)
      · rw [if_pos h2, if_pos (by omega)]
      · rw [if_neg h2] at h0; exact absurd rfl h0

end Go.Proofs.Ytcahjpkmldmjdaa
