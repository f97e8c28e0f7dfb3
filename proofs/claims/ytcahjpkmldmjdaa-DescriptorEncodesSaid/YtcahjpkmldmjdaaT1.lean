/-
  Plain laws of descriptors: what is read; which are valid.
-/
import Derived.Test.YtcahjpkmldmjdaaPc
import Derived.Test.YtcahjpkmldmjdaaGh
namespace Go.Proofs.Ytcahjpkmldmjdaa
open Go Ab

/-- A place in some bytes, and whether something was wrong ahead of it. -/
abbrev Plc := Int × Bool

def pN (w : Nat) (b : List Int) (s : Plc) : Int × Plc := (getV b s.1 w, if getE b s.1 w = 0 then (getA b s.1 w, s.2) else (s.1, true))
def pTx (b : List Int) (s : Plc) : ByteArray × Plc := (gtS b s.1, if gtE b s.1 = 0 then (gtA b s.1, s.2) else (s.1, true))

def PosOK (b : List Int) (s : Plc) : Prop := 0 ≤ s.1 ∧ s.1 ≤ b.length

theorem pN_pos {w : Nat} {b : List Int} {s : Plc} (h : PosOK b s) : PosOK b (pN w b s).2 := by
  unfold pN
  dsimp only
  split
  · rename_i he
    have := getE_ok.1 he
    rw [PosOK, getA, if_pos he]
    dsimp only
    omega
  · exact h

theorem gtE_ok {b : List Int} {a : Int} (hb : AreBytes b) (h : gtE b a = 0) : 0 ≤ a ∧ 0 ≤ gtN b a ∧ gtN b a ≤ 64 ∧ a + 1 + gtN b a ≤ b.length := by
  have hN := gtN_range hb a
  unfold gtE at h
  split at h
  · cases h
  split at h
  · cases h
  split at h
  · cases h
  split at h
  · cases h
  omega

theorem pTx_pos {b : List Int} {s : Plc} (hb : AreBytes b) (h : PosOK b s) : PosOK b (pTx b s).2 := by
  unfold pTx
  dsimp only
  split
  · rename_i he
    have := gtE_ok hb he
    rw [PosOK, gtA, if_pos he]
    dsimp only
    omega
  · exact h

theorem pN_rng {w : Nat} {b : List Int} {s : Plc} (hb : AreBytes b) : 0 ≤ (pN w b s).1 ∧ (pN w b s).1 < 256 ^ w := getV_range hb s.1 w

section
variable {n : Nat} {b : List Int} (hn : 1000 ≤ n) (hb : AreBytes b) (hl : b.length ≤ 1000000000)
include hn hb hl

theorem f75_is {s : Plc} (h : PosOK b s) : f75 n (⟨b, s.1, s.2⟩ : Reader) = some ((pN 2 b s).1, ⟨b, (pN 2 b s).2.1, (pN 2 b s).2.2⟩) := by
  have hr := getV_range hb s.1 2
  have e2 : (256 : Int) ^ 2 = 65536 := rfl
  rw [f75, f32_is hn b hb (by omega) s.1 (by unfold PosOK at h; omega), Option.bind_some, f73]
  unfold pN
  dsimp only
  by_cases he : getE b s.1 2 = 0
  · rw [if_neg (by simpa using he), if_pos he, Option.bind_some, w64_id (by omega)]
  · rw [if_pos (by simpa using he), if_neg he, Option.bind_some, w64_id (by omega)]

theorem f76_is {s : Plc} (h : PosOK b s) : f76 n (⟨b, s.1, s.2⟩ : Reader) = some ((pN 4 b s).1, ⟨b, (pN 4 b s).2.1, (pN 4 b s).2.2⟩) := by
  have hr := getV_range hb s.1 4
  have e2 : (256 : Int) ^ 4 = 4294967296 := rfl
  rw [f76, f30_is hn b hb (by omega) s.1 (by unfold PosOK at h; omega), Option.bind_some, f73]
  unfold pN
  dsimp only
  by_cases he : getE b s.1 4 = 0
  · rw [if_neg (by simpa using he), if_pos he, Option.bind_some, w64_id (by omega)]
  · rw [if_pos (by simpa using he), if_neg he, Option.bind_some, w64_id (by omega)]

omit hn in
theorem f74_is {s : Plc} (h : PosOK b s) : f74 n (⟨b, s.1, s.2⟩ : Reader) = some ((pTx b s).1, ⟨b, (pTx b s).2.1, (pTx b s).2.2⟩) := by
  rw [f74, f31_is b hb (by omega) s.1 (by unfold PosOK at h; omega), Option.bind_some, f73]
  unfold pTx
  dsimp only
  by_cases he : gtE b s.1 = 0
  · rw [if_neg (by simpa using he), if_pos he, Option.bind_some]
  · rw [if_pos (by simpa using he), if_neg he, Option.bind_some]
end

/-! ### sets -/

def pSpans (b : List Int) : Nat → Plc → List Span × Plc
  | 0, s => ([], s)
  | k + 1, s => if s.2 = true then ([], s) else (⟨(pN 4 b s).1, (pN 4 b (pN 4 b s).2).1⟩ :: (pSpans b k (pN 4 b (pN 4 b s).2).2).1, (pSpans b k (pN 4 b (pN 4 b s).2).2).2)
def pSet (b : List Int) (s : Plc) : List Span × Plc := pSpans b (pN 2 b s).1.toNat (pN 2 b s).2

theorem pSpans_pos {b : List Int} : ∀ (k : Nat) {s : Plc}, PosOK b s → PosOK b (pSpans b k s).2
  | 0, _, h => h
  | k + 1, s, h => by
    rw [pSpans]
    split
    · exact h
    · exact pSpans_pos k (pN_pos (pN_pos h))
theorem pSet_pos {b : List Int} {s : Plc} (h : PosOK b s) : PosOK b (pSet b s).2 := pSpans_pos _ (pN_pos h)

section
variable {n : Nat} {b : List Int} (hn : 100000 ≤ n) (hb : AreBytes b) (hl : b.length ≤ 1000000000)
include hn hb hl

theorem f77_l1_is (j : List Span → List Int → Int → Bool → Option (IntSet × Reader)) : ∀ (k m : Nat) (acc : List Span) (s : Plc), PosOK b s → k < m → acc.length + k ≤ 100000 →
    f77_l1 n j m acc b s.1 s.2 (k : Int) = j (acc ++ (pSpans b k s).1) b (pSpans b k s).2.1 (pSpans b k s).2.2 := by
  intro k
  induction k with
  | zero =>
    intro m acc s h1 h2 h3
    obtain ⟨m, rfl⟩ : ∃ q, m = q + 1 := ⟨m - 1, by omega⟩
    rw [f77_l1, joinK, joinK, if_neg (by simp), pSpans, List.append_nil]
  | succ k ih =>
    intro m acc s h1 h2 h3
    obtain ⟨m, rfl⟩ : ∃ q, m = q + 1 := ⟨m - 1, by omega⟩
    rw [f77_l1, joinK, joinK, if_pos (by simp), pSpans]
    by_cases hbad : s.2 = true
    · rw [if_pos hbad, if_neg (by simpa using hbad), List.append_nil]
    · rw [if_neg hbad, if_pos (by simpa using hbad), f76_is (by omega) hb hl h1, Option.bind_some]
      dsimp only
      rw [f76_is (by omega) hb hl (pN_pos h1), Option.bind_some, lApp_eq (by simp; omega), Option.bind_some, show ((k + 1 : Nat) : Int) - 1 = (k : Int) by omega, w64_id (by omega), ih _ _ _ (pN_pos (pN_pos h1)) (by omega) (by simp; omega), List.append_assoc]
      rfl

theorem f77_is {s : Plc} (h : PosOK b s) : f77 n (⟨b, s.1, s.2⟩ : Reader) = some (⟨(pSet b s).1⟩, ⟨b, (pSet b s).2.1, (pSet b s).2.2⟩) := by
  have hr := pN_rng (w := 2) (s := s) hb
  have e2 : (256 : Int) ^ 2 = 65536 := rfl
  rw [f77, joinK, f75_is (by omega) hb hl h, Option.bind_some]
  obtain ⟨k, hk⟩ := Int.eq_ofNat_of_zero_le hr.1
  dsimp only
  rw [pSet, hk, f77_l1_is hn hb hl _ k n [] (pN 2 b s).2 (pN_pos h) (by omega) (by simp; omega), List.nil_append]
  rfl

end

/-! ### maps -/

def pInts (b : List Int) : Nat → Plc → List Int × Plc
  | 0, s => ([], s)
  | k + 1, s => if s.2 = true then ([], s) else ((pN 2 b s).1 :: (pInts b k (pN 2 b s).2).1, (pInts b k (pN 2 b s).2).2)
def pMap (b : List Int) (s : Plc) : List Int × Plc := pInts b (pN 2 b s).1.toNat (pN 2 b s).2
def pMaps (b : List Int) : Nat → Plc → List (List Int) × Plc
  | 0, s => ([], s)
  | k + 1, s => if s.2 = true then ([], s) else ((pMap b s).1 :: (pMaps b k (pMap b s).2).1, (pMaps b k (pMap b s).2).2)
def pMapL (b : List Int) (s : Plc) : List (List Int) × Plc := pMaps b (pN 2 b s).1.toNat (pN 2 b s).2

theorem pInts_pos {b : List Int} : ∀ (k : Nat) {s : Plc}, PosOK b s → PosOK b (pInts b k s).2
  | 0, _, h => h
  | k + 1, s, h => by
    rw [pInts]
    split
    · exact h
    · exact pInts_pos k (pN_pos h)
theorem pMap_pos {b : List Int} {s : Plc} (h : PosOK b s) : PosOK b (pMap b s).2 := pInts_pos _ (pN_pos h)
theorem pMaps_pos {b : List Int} : ∀ (k : Nat) {s : Plc}, PosOK b s → PosOK b (pMaps b k s).2
  | 0, _, h => h
  | k + 1, s, h => by
    rw [pMaps]
    split
    · exact h
    · exact pMaps_pos k (pMap_pos h)
theorem pMapL_pos {b : List Int} {s : Plc} (h : PosOK b s) : PosOK b (pMapL b s).2 := pMaps_pos _ (pN_pos h)

section
variable {n : Nat} {b : List Int} (hn : 100000 ≤ n) (hb : AreBytes b) (hl : b.length ≤ 1000000000)
include hn hb hl

theorem f78_l2_is (j : List Int → Int → Bool → List Int → Option (List (List Int) × Reader)) : ∀ (k m : Nat) (acc : List Int) (s : Plc), PosOK b s → k < m → acc.length + k ≤ 100000 →
    f78_l2 n j m b s.1 s.2 acc (k : Int) = j b (pInts b k s).2.1 (pInts b k s).2.2 (acc ++ (pInts b k s).1) := by
  intro k
  induction k with
  | zero =>
    intro m acc s h1 h2 h3
    obtain ⟨m, rfl⟩ : ∃ q, m = q + 1 := ⟨m - 1, by omega⟩
    rw [f78_l2, joinK, joinK, if_neg (by simp), pInts, List.append_nil]
  | succ k ih =>
    intro m acc s h1 h2 h3
    obtain ⟨m, rfl⟩ : ∃ q, m = q + 1 := ⟨m - 1, by omega⟩
    rw [f78_l2, joinK, joinK, if_pos (by simp), pInts]
    by_cases hbad : s.2 = true
    · rw [if_pos hbad, if_neg (by simpa using hbad), List.append_nil]
    · rw [if_neg hbad, if_pos (by simpa using hbad), f75_is (by omega) hb hl h1, Option.bind_some]
      dsimp only
      rw [lApp_eq (by simp; omega), Option.bind_some, show ((k + 1 : Nat) : Int) - 1 = (k : Int) by omega, w64_id (by omega), ih _ _ _ (pN_pos h1) (by omega) (by simp; omega), List.append_assoc]
      rfl

theorem f78_l1_is (j : List Int → Int → Bool → List (List Int) → Option (List (List Int) × Reader)) : ∀ (k m : Nat) (acc : List (List Int)) (s : Plc), PosOK b s → k < m → acc.length + k ≤ 100000 →
    f78_l1 n j m b s.1 s.2 acc (k : Int) = j b (pMaps b k s).2.1 (pMaps b k s).2.2 (acc ++ (pMaps b k s).1) := by
  intro k
  induction k with
  | zero =>
    intro m acc s h1 h2 h3
    obtain ⟨m, rfl⟩ : ∃ q, m = q + 1 := ⟨m - 1, by omega⟩
    rw [f78_l1, joinK, joinK, if_neg (by simp), pMaps, List.append_nil]
  | succ k ih =>
    intro m acc s h1 h2 h3
    obtain ⟨m, rfl⟩ : ∃ q, m = q + 1 := ⟨m - 1, by omega⟩
    rw [f78_l1, joinK, joinK, if_pos (by simp), pMaps]
    by_cases hbad : s.2 = true
    · rw [if_pos hbad, if_neg (by simpa using hbad), List.append_nil]
    · have hr := pN_rng (w := 2) (s := s) hb
      have e2 : (256 : Int) ^ 2 = 65536 := rfl
      rw [if_neg hbad, if_pos (by simpa using hbad), joinK, joinK, f75_is (by omega) hb hl h1, Option.bind_some]
      dsimp only
      obtain ⟨q, hq⟩ := Int.eq_ofNat_of_zero_le hr.1
      have hm : pMap b s = pInts b q (pN 2 b s).2 := by rw [pMap, hq]; rfl
      rw [hq, f78_l2_is hn hb hl _ q n [] _ (pN_pos h1) (by omega) (by simp; omega), lApp_eq (by simp; omega), Option.bind_some, List.nil_append, show ((k + 1 : Nat) : Int) - 1 = (k : Int) by omega, w64_id (by omega), ← hm, ih _ _ _ (pMap_pos h1) (by omega) (by simp; omega), List.append_assoc]
      rfl

theorem f78_is {s : Plc} (h : PosOK b s) : f78 n (⟨b, s.1, s.2⟩ : Reader) = some ((pMapL b s).1, ⟨b, (pMapL b s).2.1, (pMapL b s).2.2⟩) := by
  have hr := pN_rng (w := 2) (s := s) hb
  have e2 : (256 : Int) ^ 2 = 65536 := rfl
  rw [f78, joinK, f75_is (by omega) hb hl h, Option.bind_some]
  obtain ⟨k, hk⟩ := Int.eq_ofNat_of_zero_le hr.1
  dsimp only
  rw [pMapL, hk, f78_l1_is hn hb hl _ k n [] (pN 2 b s).2 (pN_pos h) (by omega) (by simp; omega), List.nil_append]
  rfl

end

/-! ### boxes -/

def pBox (b : List Int) (s : Plc) : Box × Plc :=
  (⟨(pN 2 b s).1, (pSet b (pN 2 b s).2).1, (pMapL b (pSet b (pN 2 b s).2).2).1, (pSet b (pMapL b (pSet b (pN 2 b s).2).2).2).1⟩, (pSet b (pMapL b (pSet b (pN 2 b s).2).2).2).2)
def pBoxes (b : List Int) : Nat → Plc → List Box × Plc
  | 0, s => ([], s)
  | k + 1, s => if s.2 = true then ([], s) else ((pBox b s).1 :: (pBoxes b k (pBox b s).2).1, (pBoxes b k (pBox b s).2).2)

theorem pBox_pos {b : List Int} {s : Plc} (h : PosOK b s) : PosOK b (pBox b s).2 := pSet_pos (pMapL_pos (pSet_pos (pN_pos h)))

section
variable {n : Nat} {b : List Int} (hn : 100000 ≤ n) (hb : AreBytes b) (hl : b.length ≤ 1000000000)
include hn hb hl

theorem f41_l1_is (j : List Int → Int → Bool → List Box → Option (Descriptor × Int)) : ∀ (k m : Nat) (acc : List Box) (s : Plc), PosOK b s → k < m → acc.length + k ≤ 100000 →
    f41_l1 n j m b s.1 s.2 acc (k : Int) = j b (pBoxes b k s).2.1 (pBoxes b k s).2.2 (acc ++ (pBoxes b k s).1) := by
  intro k
  induction k with
  | zero =>
    intro m acc s h1 h2 h3
    obtain ⟨m, rfl⟩ : ∃ q, m = q + 1 := ⟨m - 1, by omega⟩
    rw [f41_l1, joinK, joinK, if_neg (by simp), pBoxes, List.append_nil]
  | succ k ih =>
    intro m acc s h1 h2 h3
    obtain ⟨m, rfl⟩ : ∃ q, m = q + 1 := ⟨m - 1, by omega⟩
    rw [f41_l1, joinK, joinK, if_pos (by simp), pBoxes]
    by_cases hbad : s.2 = true
    · rw [if_pos hbad, if_neg (by simpa using hbad), List.append_nil]
    · have g1 := pN_pos (w := 2) h1
      have g2 := pSet_pos g1
      have g3 := pMapL_pos g2
      rw [if_neg hbad, if_pos (by simpa using hbad), f75_is (by omega) hb hl h1, Option.bind_some]
      dsimp only
      rw [f77_is hn hb hl g1, Option.bind_some]
      dsimp only
      rw [f78_is hn hb hl g2, Option.bind_some]
      dsimp only
      rw [f77_is hn hb hl g3, Option.bind_some, lApp_eq (by simp; omega), Option.bind_some, show ((k + 1 : Nat) : Int) - 1 = (k : Int) by omega, w64_id (by omega)]
      have := ih m (acc ++ [(pBox b s).1]) (pBox b s).2 (pBox_pos h1) (by omega) (by simp; omega)
      rw [List.append_assoc] at this
      exact this

end


/-! ### names -/

def ltr (c : Int) : Bool := decide (97 ≤ c ∧ c ≤ 122) || decide (65 ≤ c ∧ c ≤ 90)
def oth (c : Int) : Bool := (decide (c ≥ 48) && decide (c ≤ 57)) || (c == 45 || (c == 46 || c == 95))
def okC (i : Nat) (c : Int) : Bool := ltr c || (!decide (i = 0) && oth c)
def NmV (s : ByteArray) : Prop := (∀ i, i < s.size → okC i (strAt s i) = true) ∧ s.size ≠ 0 ∧ s.size ≤ 64

theorem or32 : ∀ c : Fin 256, (decide (bitsI .or .u8 ((c.val : Nat) : Int) 32 ≥ 97) && decide (bitsI .or .u8 ((c.val : Nat) : Int) 32 ≤ 122)) = ltr ((c.val : Nat) : Int) := by decide +kernel

theorem strAt_rng (s : ByteArray) (i : Nat) : 0 ≤ strAt s i ∧ strAt s i < 256 := by
  unfold strAt
  have := ((s.data.toList[i]?).getD 0).toNat_lt
  omega

theorem or32_is (s : ByteArray) (i : Nat) : (decide (bitsI .or .u8 (strAt s i) 32 ≥ 97) && decide (bitsI .or .u8 (strAt s i) 32 ≤ 122)) = ltr (strAt s i) := by
  have h := strAt_rng s i
  obtain ⟨c, hc⟩ := Int.eq_ofNat_of_zero_le h.1
  rw [hc] at h ⊢
  exact or32 ⟨c, by omega⟩

theorem sAt_nat {s : ByteArray} {i : Nat} (h : i < s.size) : sAt s (i : Int) = some (strAt s i) := by
  rw [sAt, if_pos (by omega), Int.toNat_natCast]

theorem all_step {p : Nat → Prop} {i m : Nat} (h : i < m) : (∀ k, i ≤ k → k < m → p k) ↔ p i ∧ ∀ k, i + 1 ≤ k → k < m → p k := by
  constructor
  · exact fun hh => ⟨hh i (Nat.le_refl _) h, fun k h1 h2 => hh k (by omega) h2⟩
  · rintro ⟨h0, hh⟩ k h1 h2
    by_cases e : k = i
    · subst e; exact h0
    · exact hh k (by omega) h2

theorem f90_l1_is {n : Nat} (s : ByteArray) (hs : s.size ≤ 9000000000000000000) (j : Unit → Option Bool) : ∀ (d m i : Nat), i + d = s.size → d < m →
    ((∀ k, i ≤ k → k < s.size → okC k (strAt s k) = true) → f90_l1 n s j m (i : Int) = j ()) ∧ ((¬ ∀ k, i ≤ k → k < s.size → okC k (strAt s k) = true) → f90_l1 n s j m (i : Int) = some false) := by
  intro d
  induction d with
  | zero =>
    intro m i h1 h2
    obtain ⟨m, rfl⟩ : ∃ q, m = q + 1 := ⟨m - 1, by omega⟩
    refine ⟨fun _ => by rw [f90_l1, if_neg (by simp; omega)], fun h => absurd (fun k h3 h4 => by omega) h⟩
  | succ d ih =>
    intro m i h1 h2
    obtain ⟨m, rfl⟩ : ∃ q, m = q + 1 := ⟨m - 1, by omega⟩
    have ih' := ih m (i + 1) (by omega) (by omega)
    have hi0 : ((i : Int) == 0) = decide (i = 0) := by
      by_cases h : i = 0
      · subst h; rfl
      · rw [decide_eq_false h]; simpa using h
    have key : f90_l1 n s j (m + 1) (i : Int) = if okC i (strAt s i) = true then f90_l1 n s j m ((i + 1 : Nat) : Int) else some false := by
      rw [f90_l1, if_pos (by simp; omega)]
      simp only [joinK, sAt_nat (show i < s.size by omega), Option.bind_some, show (i : Int) + 1 = ((i + 1 : Nat) : Int) by omega, w64_id (show -9223372036854775808 ≤ ((i + 1 : Nat) : Int) ∧ ((i + 1 : Nat) : Int) ≤ 9223372036854775807 by omega), hi0]
      have ho := or32_is s i
      unfold okC
      rw [← ho]
      unfold oth
      generalize strAt s i = c
      generalize f90_l1 n s j m ((i + 1 : Nat) : Int) = G
      generalize decide (bitsI .or .u8 c 32 ≥ 97) = b1
      generalize decide (bitsI .or .u8 c 32 ≤ 122) = b2
      generalize decide (i = 0) = b3
      generalize decide (c ≥ 48) = b4
      generalize decide (c ≤ 57) = b5
      generalize (c == 45) = b6
      generalize (c == 46) = b7
      generalize (c == 95) = b8
      cases b1 <;> cases b2 <;> cases b3 <;> cases b4 <;> cases b5 <;> cases b6 <;> cases b7 <;> cases b8 <;> rfl
    rw [key, all_step (show i < s.size by omega)]
    by_cases h : okC i (strAt s i) = true
    · rw [if_pos h]
      exact ⟨fun hh => ih'.1 hh.2, fun hh => ih'.2 fun h3 => hh ⟨h, h3⟩⟩
    · rw [if_neg h]
      exact ⟨fun hh => absurd hh.1 h, fun _ => rfl⟩

theorem sEq_nil (s : ByteArray) : sEq s (⟨#[]⟩ : ByteArray) = decide (s.size = 0) := by
  rw [sEq_iff, decide_eq_decide]
  constructor
  · rintro rfl; rfl
  · intro h
    have : s.data.size = 0 := h
    have h2 := Array.eq_empty_of_size_eq_zero this
    cases s
    simp at h2
    rw [h2]

instance (s : ByteArray) : Decidable (NmV s) := by unfold NmV; infer_instance

theorem f90_is {n : Nat} (s : ByteArray) (hs : s.size ≤ 9000000000000000000) (hn : s.size < n) : f90 n s = some (decide (NmV s)) := by
  have h := f90_l1_is (n := n) s hs (fun _ => if (!(sEq s (⟨#[]⟩ : ByteArray))) = true then some (decide ((s.size : Int) ≤ 64)) else some false) s.size n 0 (by omega) hn
  rw [show ((0 : Nat) : Int) = 0 from rfl] at h
  rw [f90, joinK]
  by_cases ha : ∀ k, 0 ≤ k → k < s.size → okC k (strAt s k) = true
  · rw [h.1 ha, sEq_nil]
    by_cases h0 : s.size = 0
    · rw [if_neg (by simp [h0]), decide_eq_false (fun hv => hv.2.1 h0)]
    · rw [if_pos (by simp [h0])]
      exact congrArg some (decide_eq_decide.2 ⟨fun hh => ⟨fun i hi => ha i (Nat.zero_le _) hi, h0, by omega⟩, fun hh => by have := hh.2.2; omega⟩)
  · rw [h.2 ha, decide_eq_false (fun hv => ha fun k _ hk => hv.1 k hk)]

theorem f105_is {n : Nat} (c : Int) : f105 n c = some (ltr c) := by
  rw [f105, ltr]
  by_cases a1 : c ≥ 97 <;> by_cases a2 : c ≤ 122 <;> by_cases a3 : c ≥ 65 <;> by_cases a4 : c ≤ 90 <;> simp [a1, a2, a3, a4] <;> omega

theorem f92_l1_is {n : Nat} (s : ByteArray) (hs : s.size ≤ 9000000000000000000) (j : Unit → Option Bool) : ∀ (d m i : Nat), i + d = s.size → d < m →
    ((∀ k, i ≤ k → k < s.size → okC k (strAt s k) = true) → f92_l1 n s j m (i : Int) = j ()) ∧ ((¬ ∀ k, i ≤ k → k < s.size → okC k (strAt s k) = true) → f92_l1 n s j m (i : Int) = some false) := by
  intro d
  induction d with
  | zero =>
    intro m i h1 h2
    obtain ⟨m, rfl⟩ : ∃ q, m = q + 1 := ⟨m - 1, by omega⟩
    refine ⟨fun _ => by rw [f92_l1, if_neg (by simp; omega)], fun h => absurd (fun k h3 h4 => by omega) h⟩
  | succ d ih =>
    intro m i h1 h2
    obtain ⟨m, rfl⟩ : ∃ q, m = q + 1 := ⟨m - 1, by omega⟩
    have ih' := ih m (i + 1) (by omega) (by omega)
    have hi0 : ((i : Int) == 0) = decide (i = 0) := by
      by_cases h : i = 0
      · subst h; rfl
      · rw [decide_eq_false h]; simpa using h
    have key : f92_l1 n s j (m + 1) (i : Int) = if okC i (strAt s i) = true then f92_l1 n s j m ((i + 1 : Nat) : Int) else some false := by
      rw [f92_l1, if_pos (by simp; omega)]
      simp only [joinK, sAt_nat (show i < s.size by omega), Option.bind_some, f105_is, show (i : Int) + 1 = ((i + 1 : Nat) : Int) by omega, w64_id (show -9223372036854775808 ≤ ((i + 1 : Nat) : Int) ∧ ((i + 1 : Nat) : Int) ≤ 9223372036854775807 by omega), hi0]
      unfold okC oth
      generalize strAt s i = c
      generalize f92_l1 n s j m ((i + 1 : Nat) : Int) = G
      have e1 : decide (c < 48) = !decide (c ≥ 48) := by rw [← decide_not]; exact decide_eq_decide.2 (by omega)
      have e2 : decide (c > 57) = !decide (c ≤ 57) := by rw [← decide_not]; exact decide_eq_decide.2 (by omega)
      rw [e1, e2, bne, bne, bne]
      generalize ltr c = b1
      generalize decide (i = 0) = b3
      generalize decide (c ≥ 48) = b4
      generalize decide (c ≤ 57) = b5
      generalize (c == 45) = b6
      generalize (c == 46) = b7
      generalize (c == 95) = b8
      cases b1 <;> cases b3 <;> cases b4 <;> cases b5 <;> cases b6 <;> cases b7 <;> cases b8 <;> rfl
    rw [key, all_step (show i < s.size by omega)]
    by_cases h : okC i (strAt s i) = true
    · rw [if_pos h]
      exact ⟨fun hh => ih'.1 hh.2, fun hh => ih'.2 fun h3 => hh ⟨h, h3⟩⟩
    · rw [if_neg h]
      exact ⟨fun hh => absurd hh.1 h, fun _ => rfl⟩

theorem f92_is {n : Nat} (s : ByteArray) (hs : s.size ≤ 9000000000000000000) (hn : s.size < n) : f92 n s = some (decide (NmV s)) := by
  have h := f92_l1_is (n := n) s hs (fun _ => if (!(sEq s (⟨#[]⟩ : ByteArray))) = true then some (decide ((s.size : Int) ≤ 64)) else some false) s.size n 0 (by omega) hn
  rw [show ((0 : Nat) : Int) = 0 from rfl] at h
  rw [f92, joinK]
  by_cases ha : ∀ k, 0 ≤ k → k < s.size → okC k (strAt s k) = true
  · rw [h.1 ha, sEq_nil]
    by_cases h0 : s.size = 0
    · rw [if_neg (by simp [h0]), decide_eq_false (fun hv => hv.2.1 h0)]
    · rw [if_pos (by simp [h0])]
      exact congrArg some (decide_eq_decide.2 ⟨fun hh => ⟨fun i hi => ha i (Nat.zero_le _) hi, h0, by omega⟩, fun hh => by have := hh.2.2; omega⟩)
  · rw [h.2 ha, decide_eq_false (fun hv => ha fun k _ hk => hv.1 k hk)]


/-! ### loops that ask each, loops that seek one -/

theorem allLoop (F : Nat → Int → Option Bool) (N : Nat) (p : Nat → Bool) (r : Option Bool) (hstop : ∀ m, F (m + 1) (N : Int) = r)
    (hstep : ∀ m i, i < N → (∀ k, k < i → p k = true) → F (m + 1) (i : Int) = if p i = true then F m ((i + 1 : Nat) : Int) else some false) : ∀ n, N < n → F n 0 = if ∀ k, k < N → p k = true then r else some false := by
  have go : ∀ d m i, i + d = N → d < m → (∀ k, k < i → p k = true) → F m (i : Int) = if ∀ k, k < N → p k = true then r else some false := by
    intro d
    induction d with
    | zero =>
      intro m i h1 h2 h3
      obtain ⟨m, rfl⟩ : ∃ q, m = q + 1 := ⟨m - 1, by omega⟩
      rw [show i = N by omega, hstop, if_pos (by rw [show N = i by omega]; exact h3)]
    | succ d ih =>
      intro m i h1 h2 h3
      obtain ⟨m, rfl⟩ : ∃ q, m = q + 1 := ⟨m - 1, by omega⟩
      rw [hstep m i (by omega) h3]
      by_cases h : p i = true
      · rw [if_pos h]
        refine ih m (i + 1) (by omega) (by omega) fun k hk => ?_
        by_cases e : k = i
        · subst e; exact h
        · exact h3 k (by omega)
      · rw [if_neg h, if_neg (fun hh => h (hh i (by omega)))]
  intro n hn
  exact go N n 0 (by omega) hn (fun k hk => by omega)

theorem exLoop {β : Type} (F : Nat → Int → Option β) (N : Nat) (q : Nat → Bool) (g : Nat → Option β) (r : Option β) (hstop : ∀ m, F (m + 1) (N : Int) = r)
    (hstep : ∀ m i, i < N → F (m + 1) (i : Int) = if q i = true then g i else F m ((i + 1 : Nat) : Int)) (n : Nat) (hn : N < n) :
    ((∀ k, k < N → q k = false) → F n 0 = r) ∧ ∀ k, k < N → q k = true → (∀ l, l < k → q l = false) → F n 0 = g k := by
  have go : ∀ d m i, i + d = N → d < m → ((∀ k, i ≤ k → k < N → q k = false) → F m (i : Int) = r) ∧ ∀ k, i ≤ k → k < N → q k = true → (∀ l, i ≤ l → l < k → q l = false) → F m (i : Int) = g k := by
    intro d
    induction d with
    | zero =>
      intro m i h1 h2
      obtain ⟨m, rfl⟩ : ∃ q, m = q + 1 := ⟨m - 1, by omega⟩
      exact ⟨fun _ => by rw [show i = N by omega, hstop], fun k h3 h4 => by omega⟩
    | succ d ih =>
      intro m i h1 h2
      obtain ⟨m, rfl⟩ : ∃ q, m = q + 1 := ⟨m - 1, by omega⟩
      obtain ⟨ih1, ih2⟩ := ih m (i + 1) (by omega) (by omega)
      rw [hstep m i (by omega)]
      refine ⟨fun h => ?_, fun k h3 h4 h5 h6 => ?_⟩
      · rw [if_neg (by rw [h i (Nat.le_refl _) (by omega)]; simp)]
        exact ih1 fun k h7 h8 => h k (by omega) h8
      · by_cases e : k = i
        · subst e; rw [if_pos h5]
        · rw [if_neg (by rw [h6 i (Nat.le_refl _) (by omega)]; simp)]
          exact ih2 k (by omega) h4 h5 fun l h7 h8 => h6 l (by omega) h8
  obtain ⟨h1, h2⟩ := go N n 0 (by omega) hn
  exact ⟨fun h => h1 fun k _ hk => h k hk, fun k h3 h4 h5 => h2 k (Nat.zero_le _) h3 h4 fun l _ hl => h5 l hl⟩

/-- The first of some. -/
theorem first_of {q : Nat → Bool} : ∀ (N : Nat), (∃ k, k < N ∧ q k = true) → ∃ k, k < N ∧ q k = true ∧ ∀ l, l < k → q l = false
  | 0, ⟨k, hk, _⟩ => by omega
  | N + 1, ⟨k, hk, hq⟩ => by
    by_cases h : ∃ k, k < N ∧ q k = true
    · obtain ⟨k, h1, h2, h3⟩ := first_of N h
      exact ⟨k, by omega, h2, h3⟩
    · refine ⟨k, hk, hq, fun l hl => ?_⟩
      cases hx : q l with
      | false => rfl
      | true => exact absurd ⟨l, by omega, hx⟩ h

theorem lAt_getD {α : Type} {l : List α} {i : Nat} (d : α) (h : i < l.length) : lAt l (i : Int) = some (l.getD i d) := by
  rw [lAt_nat h, List.getD_eq_getElem?_getD, List.getElem?_eq_getElem h]
  rfl

/-! ### sets -/

def sp (l : List Span) (i : Nat) : Span := l.getD i ⟨0, 0⟩
def spF (l : List Span) (i : Nat) : Bool := decide (0 ≤ (sp l i).Lo) && (decide ((sp l i).Lo ≤ (sp l i).Hi) && decide ((sp l i).Hi ≤ 2147483647))
def spOK (l : List Span) (i : Nat) : Bool := spF l i && (decide (i = 0) || decide ((sp l (i - 1)).Hi + 1 < (sp l i).Lo))
def SetV (l : List Span) : Prop := (∀ k, k < l.length → spOK l k = true) ∧ l.length ≤ 64
instance (l : List Span) : Decidable (SetV l) := by unfold SetV; infer_instance

theorem spF_of {l : List Span} {i : Nat} (h : spOK l i = true) : 0 ≤ (sp l i).Lo ∧ (sp l i).Lo ≤ (sp l i).Hi ∧ (sp l i).Hi ≤ 2147483647 := by
  unfold spOK spF at h
  simp at h
  omega

theorem f121_is {n : Nat} (l : List Span) (hl : l.length ≤ 1000000) (hn : l.length < n) : f121 n ⟨l⟩ = some (decide (SetV l)) := by
  rw [f121, joinK]
  rw [allLoop (f121_l1 n ⟨l⟩ _) l.length (spOK l) _ (fun m => by rw [f121_l1, if_neg (by simp)]) ?_ n hn]
  · by_cases h : ∀ k, k < l.length → spOK l k = true
    · rw [if_pos h]
      exact congrArg some (decide_eq_decide.2 ⟨fun hh => ⟨h, by dsimp only at hh; omega⟩, fun hh => by have := hh.2; dsimp only; omega⟩)
    · rw [if_neg h, decide_eq_false (fun hh => h hh.1)]
  · intro m i hi hb
    rw [f121_l1, if_pos (by simp; omega)]
    simp only [joinK]
    rw [lAt_getD ⟨0, 0⟩ hi, Option.bind_some, show l.getD i ⟨0, 0⟩ = sp l i from rfl]
    have e1 : f130 n (sp l i) = some (spF l i) := by
      rw [f130, spF]
      by_cases a1 : (sp l i).Lo ≥ 0 <;> by_cases a2 : (sp l i).Lo ≤ (sp l i).Hi <;> simp [a1, a2]
    rw [show f130 n (⟨(sp l i).Lo, (sp l i).Hi⟩ : Span) = some (spF l i) from e1, Option.bind_some, w64_id (x := (i : Int) + 1) (by omega), show (i : Int) + 1 = ((i + 1 : Nat) : Int) by omega]
    unfold spOK
    cases hf : spF l i with
    | false => rfl
    | true =>
      by_cases h0 : i = 0
      · subst h0; rfl
      · have hp := spF_of (hb (i - 1) (by omega))
        rw [if_neg (by simp), if_pos (by simp; omega), w64_id (x := (i : Int) - 1) (by omega), show (i : Int) - 1 = ((i - 1 : Nat) : Int) by omega, lAt_getD ⟨0, 0⟩ (show i - 1 < l.length by omega), Option.bind_some, show l.getD (i - 1) ⟨0, 0⟩ = sp l (i - 1) from rfl, w64_id (by omega), decide_eq_false h0]
        by_cases h1 : (sp l i).Lo ≤ (sp l (i - 1)).Hi + 1
        · rw [if_pos (by simpa using h1), if_neg (by simp; omega)]
        · rw [if_neg (by simpa using h1), if_pos (by simp; omega)]

theorem f127_is {n : Nat} (l : List Span) (hl : l.length ≤ 1000000) (hn : l.length < n) : f127 n ⟨l⟩ = some (decide (SetV l)) := by
  rw [f127, joinK]
  rw [allLoop (f127_l1 n ⟨l⟩ _) l.length (spOK l) _ (fun m => by rw [f127_l1, if_neg (by simp)]) ?_ n hn]
  · by_cases h : ∀ k, k < l.length → spOK l k = true
    · rw [if_pos h]
      exact congrArg some (decide_eq_decide.2 ⟨fun hh => ⟨h, by dsimp only at hh; omega⟩, fun hh => by have := hh.2; dsimp only; omega⟩)
    · rw [if_neg h, decide_eq_false (fun hh => h hh.1)]
  · intro m i hi hb
    rw [f127_l1, if_pos (by simp; omega)]
    simp only [joinK]
    rw [lAt_getD ⟨0, 0⟩ hi, Option.bind_some, show l.getD i ⟨0, 0⟩ = sp l i from rfl, w64_id (x := (i : Int) + 1) (by omega), show (i : Int) + 1 = ((i + 1 : Nat) : Int) by omega]
    unfold spOK spF
    by_cases a1 : (sp l i).Lo < 0
    · rw [if_pos (by simpa using a1), if_neg (by simp; omega)]
    rw [if_neg (by simpa using a1)]
    by_cases a2 : (sp l i).Hi < (sp l i).Lo
    · rw [if_pos (by simpa using a2), if_neg (by simp; omega)]
    rw [if_neg (by simpa using a2)]
    by_cases a3 : (sp l i).Hi > 2147483647
    · rw [if_pos (by simpa using a3), if_neg (by simp; omega)]
    rw [if_neg (by simpa using a3)]
    by_cases h0 : i = 0
    · subst h0
      rw [if_neg (by simp), if_pos (by simp; omega)]
    · have hp := spF_of (hb (i - 1) (by omega))
      rw [if_pos (by simp; omega), w64_id (x := (i : Int) - 1) (by omega), show (i : Int) - 1 = ((i - 1 : Nat) : Int) by omega, lAt_getD ⟨0, 0⟩ (show i - 1 < l.length by omega), Option.bind_some, show l.getD (i - 1) ⟨0, 0⟩ = sp l (i - 1) from rfl, w64_id (by omega)]
      by_cases h1 : (sp l i).Lo ≤ (sp l (i - 1)).Hi + 1
      · rw [if_pos (by simp; omega), if_neg (by simp; omega)]
      · rw [if_neg (by simp; omega), if_pos (by simp; omega)]

def SetW (l : List Span) (lo hi : Int) : Prop := SetV l ∧ 0 < l.length ∧ lo ≤ (sp l 0).Lo ∧ (sp l (l.length - 1)).Hi ≤ hi
instance (l : List Span) (lo hi : Int) : Decidable (SetW l lo hi) := by unfold SetW; infer_instance

theorem f111_is {n : Nat} (l : List Span) (lo hi : Int) (hl : l.length ≤ 1000000) (hn : l.length < n) : f111 n ⟨l⟩ lo hi = some (decide (SetW l lo hi)) := by
  rw [f111]
  by_cases h0 : (l.length : Int) > 0
  case neg => rw [if_neg (by simpa using h0), decide_eq_false (fun h => by have := h.2.1; omega)]
  rw [if_pos (by simpa using h0), f121_is l hl hn, Option.bind_some]
  by_cases h1 : SetV l
  case neg => rw [if_neg (by simpa using h1), decide_eq_false (fun h => h1 h.1)]
  have e0 : lAt l (0 : Int) = some (sp l 0) := by
    have := lAt_getD (l := l) (i := 0) (⟨0, 0⟩ : Span) (by omega)
    exact this
  rw [if_pos (by simpa using h1), e0, Option.bind_some]
  by_cases h2 : (sp l 0).Lo ≥ lo
  case neg => rw [if_neg (by simpa using h2), decide_eq_false (fun h => by have := h.2.2.1; omega)]
  rw [if_pos (by simpa using h2)]
  dsimp only
  rw [w64_id (by omega), show (l.length : Int) - 1 = ((l.length - 1 : Nat) : Int) by omega, lAt_getD (⟨0, 0⟩ : Span) (show l.length - 1 < l.length by omega), Option.bind_some]
  exact congrArg some (decide_eq_decide.2 ⟨fun h => ⟨h1, by omega, h2, h⟩, fun h => h.2.2.2⟩)

theorem f116_is {n : Nat} (l : List Span) (lo hi : Int) (hl : l.length ≤ 1000000) (hn : l.length < n) : f116 n ⟨l⟩ lo hi = some (decide (SetW l lo hi)) := by
  rw [f116, f127_is l hl hn, Option.bind_some]
  by_cases h1 : SetV l
  case neg => rw [if_neg (by simpa using h1), decide_eq_false (fun h => h1 h.1)]
  rw [if_pos (by simpa using h1)]
  by_cases h0 : (l.length : Int) > 0
  case neg => rw [if_neg (by simpa using h0), decide_eq_false (fun h => by have := h.2.1; omega)]
  have e0 : lAt l (0 : Int) = some (sp l 0) := by
    have := lAt_getD (l := l) (i := 0) (⟨0, 0⟩ : Span) (by omega)
    exact this
  rw [if_pos (by simpa using h0), e0, Option.bind_some]
  by_cases h2 : (sp l 0).Lo ≥ lo
  case neg => rw [if_neg (by simpa using h2), decide_eq_false (fun h => by have := h.2.2.1; omega)]
  rw [if_pos (by simpa using h2)]
  dsimp only
  rw [w64_id (by omega), show (l.length : Int) - 1 = ((l.length - 1 : Nat) : Int) by omega, lAt_getD (⟨0, 0⟩ : Span) (show l.length - 1 < l.length by omega), Option.bind_some]
  exact congrArg some (decide_eq_decide.2 ⟨fun h => ⟨h1, by omega, h2, h⟩, fun h => h.2.2.2⟩)

/-! ### lists that are equal, lists that have something -/

theorem eq_all {α : Type} [BEq α] [LawfulBEq α] {a b : List α} (d : α) (h : a.length = b.length) : (∀ k, k < a.length → (a.getD k d == b.getD k d) = true) ↔ a = b := by
  constructor
  · intro hh
    refine List.ext_getElem h fun i h1 h2 => ?_
    have := hh i h1
    rw [List.getD_eq_getElem?_getD, List.getD_eq_getElem?_getD, List.getElem?_eq_getElem h1, List.getElem?_eq_getElem h2] at this
    simpa using this
  · rintro rfl k hk
    simp

theorem f133_is {n : Nat} (a b : List Int) (hl : a.length ≤ 1000000) (hn : a.length < n) : f133 n a b = some (decide (a = b)) := by
  rw [f133]
  by_cases h0 : (a.length : Int) = b.length
  case neg => rw [if_pos (by simpa using h0), decide_eq_false (fun h => by subst h; exact h0 rfl)]
  rw [if_neg (by simpa using h0), joinK, allLoop (f133_l1 n a b _) a.length (fun k => a.getD k 0 == b.getD k 0) _ (fun m => by rw [f133_l1, if_neg (by simp)]) ?_ n hn]
  · have he := eq_all (a := a) (b := b) (0 : Int) (by omega)
    by_cases h : a = b
    · rw [if_pos (he.2 h), decide_eq_true h]
    · rw [if_neg (fun hh => h (he.1 hh)), decide_eq_false h]
  · intro m i hi _
    rw [f133_l1, if_pos (by simp; omega), lAt_getD 0 hi, Option.bind_some, lAt_getD 0 (show i < b.length by omega), Option.bind_some, w64_id (by omega), show (i : Int) + 1 = ((i + 1 : Nat) : Int) by omega]
    by_cases h : a.getD i 0 = b.getD i 0
    · rw [if_neg (by simpa using h), if_pos (by simpa using h)]
    · rw [if_pos (by simpa using h), if_neg (by simpa using h)]

theorem f118_is {n : Nat} (a b : List Int) (hl : a.length ≤ 1000000) (hn : a.length < n) : f118 n a b = some (decide (a = b)) := by
  rw [f118]
  by_cases h0 : (a.length : Int) = b.length
  case neg => rw [if_pos (by simpa using h0), decide_eq_false (fun h => by subst h; exact h0 rfl)]
  rw [if_neg (by simpa using h0), joinK, allLoop (f118_l1 n a b _) a.length (fun k => a.getD k 0 == b.getD k 0) _ (fun m => by rw [f118_l1, if_neg (by simp)]) ?_ n hn]
  · have he := eq_all (a := a) (b := b) (0 : Int) (by omega)
    by_cases h : a = b
    · rw [if_pos (he.2 h), decide_eq_true h]
    · rw [if_neg (fun hh => h (he.1 hh)), decide_eq_false h]
  · intro m i hi _
    rw [f118_l1, if_pos (by simp; omega), lAt_getD 0 hi, Option.bind_some, lAt_getD 0 (show i < b.length by omega), Option.bind_some, w64_id (by omega), show (i : Int) + 1 = ((i + 1 : Nat) : Int) by omega]
    by_cases h : a.getD i 0 = b.getD i 0
    · rw [if_neg (by simpa using h), if_pos (by simpa using h)]
    · rw [if_pos (by simpa using h), if_neg (by simpa using h)]


theorem any_getD {α : Type} (l : List α) (q : α → Bool) (d : α) : l.any q = true ↔ ∃ k, k < l.length ∧ q (l.getD k d) = true := by
  rw [List.any_eq_true]
  constructor
  · rintro ⟨x, hx, hq⟩
    obtain ⟨k, hk, rfl⟩ := List.mem_iff_getElem.1 hx
    exact ⟨k, hk, by rw [List.getD_eq_getElem?_getD, List.getElem?_eq_getElem hk]; exact hq⟩
  · rintro ⟨k, hk, hq⟩
    rw [List.getD_eq_getElem?_getD, List.getElem?_eq_getElem hk] at hq
    exact ⟨_, List.getElem_mem hk, hq⟩

/-- A loop that seeks one: is there one? -/
theorem seek {α : Type} (F : Nat → Int → Option Int) (l : List α) (q : α → Bool) (d : α) (hstop : ∀ m, F (m + 1) (l.length : Int) = some (-1))
    (hstep : ∀ m i, i < l.length → F (m + 1) (i : Int) = if q (l.getD i d) = true then some (i : Int) else F m ((i + 1 : Nat) : Int)) (n : Nat) (hn : l.length < n) : ∃ y, F n 0 = some y ∧ decide (y ≥ 0) = l.any q := by
  obtain ⟨h1, h2⟩ := exLoop F l.length (fun k => q (l.getD k d)) (fun k => some (k : Int)) _ hstop hstep n hn
  by_cases hx : l.any q = true
  · obtain ⟨k, k1, k2, k3⟩ := first_of (q := fun k => q (l.getD k d)) l.length ((any_getD l q d).1 hx)
    exact ⟨_, h2 k k1 k2 k3, by rw [hx]; simp⟩
  · refine ⟨_, h1 fun k hk => ?_, by rw [Bool.not_eq_true] at hx; rw [hx]; rfl⟩
    cases hq : q (l.getD k d) with
    | false => rfl
    | true => exact absurd ((any_getD l q d).2 ⟨k, hk, hq⟩) hx

theorem f122_is {n : Nat} (a : List Int) (x : Int) (hl : a.length ≤ 1000000) (hn : a.length < n) : f122 n a x = some (a.any fun z => x == z) := by
  obtain ⟨y, h1, h2⟩ := seek (f131_l1 n a x fun _ => some (-1)) a (fun z => x == z) 0 (fun m => by rw [f131_l1, if_neg (by simp)]) (fun m i hi => by
    rw [f131_l1, if_pos (by simp; omega), lAt_getD 0 hi, Option.bind_some, w64_id (by omega), show (i : Int) + 1 = ((i + 1 : Nat) : Int) by omega]) n hn
  rw [f122, f131, joinK, h1, Option.bind_some, h2]

theorem f132_is {n : Nat} (l : List (List Int)) (p : List Int → Option Bool) (q : List Int → Bool) (hp : ∀ z ∈ l, p z = some (q z)) (hl : l.length ≤ 1000000) (hn : l.length < n) : f123 n l p = some (l.any q) := by
  obtain ⟨y, h1, h2⟩ := seek (f132_l1 n l p fun _ => some (-1)) l q [] (fun m => by rw [f132_l1, if_neg (by simp)]) (fun m i hi => by
    have hm : l.getD i [] ∈ l := by rw [List.getD_eq_getElem?_getD, List.getElem?_eq_getElem hi]; exact List.getElem_mem hi
    rw [f132_l1, if_pos (by simp; omega), lAt_getD [] hi, Option.bind_some, hp _ hm, Option.bind_some, w64_id (by omega), show (i : Int) + 1 = ((i + 1 : Nat) : Int) by omega]) n hn
  rw [f123, f132, joinK, h1, Option.bind_some, h2]

theorem f113_is {n : Nat} (l : List (List Int)) (x : List Int) (hl : l.length ≤ 1000000) (hn : l.length < n) (hz : ∀ z ∈ l, z.length ≤ 1000000 ∧ z.length < n) : f113 n l x = some (l.any fun z => decide (z = x)) := by
  rw [f113, f132_is l _ (fun z => decide (z = x)) (fun z h => by rw [f124, f125, f133_is z x (hz z h).1 (hz z h).2]; rfl) hl hn]
  rfl

theorem f115_is {n : Nat} (l : List (List Int)) (x : List Int) (hl : l.length ≤ 1000000) (hn : l.length < n) (hz : ∀ z ∈ l, z.length ≤ 1000000 ∧ z.length < n) : f115 n l x = some (l.any fun z => decide (z = x)) := by
  obtain ⟨h1, h2⟩ := exLoop (f115_l1 n l x fun _ => some false) l.length (fun k => decide (l.getD k [] = x)) (fun _ => some true) (some false) (fun m => by rw [f115_l1, if_neg (by simp)]) (fun m i hi => by
    have hm : l.getD i [] ∈ l := by rw [List.getD_eq_getElem?_getD, List.getElem?_eq_getElem hi]; exact List.getElem_mem hi
    rw [f115_l1, if_pos (by simp; omega), lAt_getD [] hi, Option.bind_some, f118_is _ x (hz _ hm).1 (hz _ hm).2, Option.bind_some, w64_id (by omega), show (i : Int) + 1 = ((i + 1 : Nat) : Int) by omega]) n hn
  rw [f115, joinK]
  by_cases hx : (l.any fun z => decide (z = x)) = true
  · obtain ⟨k, k1, k2, k3⟩ := first_of (q := fun k => decide (l.getD k [] = x)) l.length ((any_getD l _ []).1 hx)
    rw [h2 k k1 k2 k3, hx]
  · rw [h1 fun k hk => ?_, (Bool.not_eq_true _).mp hx]
    cases hq : decide (l.getD k [] = x) with
    | false => rfl
    | true => exact absurd ((any_getD l _ []).2 ⟨k, hk, hq⟩) hx

/-! ### maps -/

def mpOK (m : List Int) (k : Nat) : Bool := decide (1 ≤ m.getD k 0) && (decide (m.getD k 0 ≤ 8) && !((m.take k).any fun z => m.getD k 0 == z))
def MapV (m : List Int) : Prop := (1 ≤ m.length ∧ m.length ≤ 8) ∧ ∀ k, k < m.length → mpOK m k = true
instance (m : List Int) : Decidable (MapV m) := by unfold MapV; infer_instance

theorem f112_is {n : Nat} (a : List Int) (hl : a.length ≤ 1000000) (hn : a.length < n) : f112 n a = some (decide (MapV a)) := by
  rw [f112, joinK, joinK]
  by_cases h1 : (a.length : Int) < 1
  · rw [if_pos (by simpa using h1), decide_eq_false (fun h => by have := h.1.1; omega)]
  rw [if_neg (by simpa using h1)]
  by_cases h2 : (a.length : Int) > 8
  · rw [if_pos (by simpa using h2), decide_eq_false (fun h => by have := h.1.2; omega)]
  rw [if_neg (by simpa using h2), joinK, allLoop (f112_l1 n a _) a.length (mpOK a) _ (fun m => by rw [f112_l1, if_neg (by simp)]) ?_ n hn]
  · by_cases h : ∀ k, k < a.length → mpOK a k = true
    · rw [if_pos h, decide_eq_true ⟨by omega, h⟩]
    · rw [if_neg h, decide_eq_false (fun hh => h hh.2)]
  · intro m i hi _
    rw [f112_l1, if_pos (by simp; omega)]
    simp only [joinK]
    rw [lAt_getD 0 hi, Option.bind_some, w64_id (by omega), show (i : Int) + 1 = ((i + 1 : Nat) : Int) by omega]
    unfold mpOK
    by_cases c1 : a.getD i 0 < 1
    · rw [if_pos (by simpa using c1), if_neg (by rw [decide_eq_false (show ¬ 1 ≤ a.getD i 0 by omega)]; simp)]
    rw [if_neg (by simpa using c1)]
    by_cases c2 : a.getD i 0 > 8
    · rw [if_pos (by simpa using c2), if_neg (by rw [decide_eq_false (show ¬ a.getD i 0 ≤ 8 by omega)]; simp)]
    rw [if_neg (by simpa using c2), lPart_eq (by omega), Option.bind_some, Int.toNat_natCast, show ((0 : Int).toNat) = 0 from rfl, List.drop_zero, f122_is _ _ (by simp; omega) (by simp; omega), Option.bind_some, decide_eq_true (by omega), decide_eq_true (by omega)]
    cases ((a.take i).any fun z => a.getD i 0 == z) <;> rfl

theorem f114_is {n : Nat} (a : List Int) (hl : a.length ≤ 1000000) (hn : a.length < n) : f114 n a = some (decide (MapV a)) := by
  rw [f114, joinK, allLoop (f114_l1 n a _) a.length (mpOK a) _ (fun m => by rw [f114_l1, if_neg (by simp)]) ?_ n hn]
  · by_cases h : ∀ k, k < a.length → mpOK a k = true
    · rw [if_pos h]
      by_cases h1 : (a.length : Int) ≥ 1
      · rw [if_pos (by simpa using h1)]
        exact congrArg some (decide_eq_decide.2 ⟨fun hh => ⟨by omega, h⟩, fun hh => by have := hh.1.2; omega⟩)
      · rw [if_neg (by simpa using h1), decide_eq_false (fun hh => by have := hh.1.1; omega)]
    · rw [if_neg h, decide_eq_false (fun hh => h hh.2)]
  · intro m i hi _
    rw [f114_l1, if_pos (by simp; omega)]
    simp only [joinK]
    rw [lAt_getD 0 hi, Option.bind_some, w64_id (by omega), show (i : Int) + 1 = ((i + 1 : Nat) : Int) by omega]
    unfold mpOK
    by_cases c1 : a.getD i 0 < 1
    · rw [if_pos (by simpa using c1), if_neg (by rw [decide_eq_false (show ¬ 1 ≤ a.getD i 0 by omega)]; simp)]
    rw [if_neg (by simpa using c1)]
    by_cases c2 : a.getD i 0 > 8
    · rw [if_pos (by simpa using c2), if_neg (by rw [decide_eq_false (show ¬ a.getD i 0 ≤ 8 by omega)]; simp)]
    rw [if_neg (by simpa using c2), f126, joinK]
    obtain ⟨_, h2⟩ := exLoop (f126_l1 n a (a.getD i 0) fun _ => some (-1)) a.length (fun k => a.getD k 0 == a.getD i 0) (fun k => some (k : Int)) (some (-1)) (fun m => by rw [f126_l1, if_neg (by simp)]) (fun m k hk => by
      rw [f126_l1, if_pos (by simp; omega), lAt_getD 0 hk, Option.bind_some, w64_id (by omega), show (k : Int) + 1 = ((k + 1 : Nat) : Int) by omega]) n hn
    obtain ⟨k, k1, k2, k3⟩ := first_of (q := fun k => a.getD k 0 == a.getD i 0) (i + 1) ⟨i, by omega, by simp⟩
    rw [h2 k (by omega) k2 k3, Option.bind_some, decide_eq_true (show 1 ≤ a.getD i 0 by omega), decide_eq_true (show a.getD i 0 ≤ 8 by omega)]
    have hany : ((a.take i).any fun z => a.getD i 0 == z) = decide (k ≠ i) := by
      by_cases hk : k = i
      · rw [decide_eq_false (by simpa using hk)]
        cases hx : ((a.take i).any fun z => a.getD i 0 == z) with
        | false => rfl
        | true =>
          obtain ⟨l, l1, l2⟩ := (any_getD _ _ 0).1 hx
          rw [List.length_take] at l1
          have := k3 l (by omega)
          rw [List.getD_eq_getElem?_getD (l := a.take i), List.getElem?_take, if_pos (by omega), ← List.getD_eq_getElem?_getD] at l2
          simp only [beq_iff_eq] at l2
          rw [← l2] at this
          simp at this
      · rw [decide_eq_true hk]
        refine (any_getD _ _ 0).2 ⟨k, by rw [List.length_take]; omega, ?_⟩
        rw [List.getD_eq_getElem?_getD (l := a.take i), List.getElem?_take, if_pos (by omega), ← List.getD_eq_getElem?_getD]
        simp only [beq_iff_eq] at k2 ⊢
        exact k2.symm
    rw [hany]
    by_cases hk : k = i
    · subst hk; simp
    · rw [if_pos (by simp; omega)]
      simp [hk]


def bmOK (l : List (List Int)) (k : Nat) : Bool := decide (MapV (l.getD k [])) && !((l.take k).any fun z => decide (z = l.getD k []))
def BoxV (x : Box) : Prop := x.Kinds ≠ 0 ∧ bitsI .andNot .i64 x.Kinds 254 = 0 ∧ SetW x.Rates 1000 768000 ∧ SetW x.Sizes 1 65536 ∧ (1 ≤ x.Maps.length ∧ x.Maps.length ≤ 16) ∧ ∀ k, k < x.Maps.length → bmOK x.Maps k = true
instance (x : Box) : Decidable (BoxV x) := by unfold BoxV; infer_instance

/-- Boxes of a size that loops can go through. -/
def BoxS (x : Box) : Prop := x.Rates.length ≤ 99000 ∧ x.Sizes.length ≤ 99000 ∧ x.Maps.length ≤ 99000 ∧ ∀ m ∈ x.Maps, m.length ≤ 99000

theorem getD_mem {α : Type} {l : List α} {i : Nat} {d : α} (h : i < l.length) : l.getD i d ∈ l := by
  rw [List.getD_eq_getElem?_getD, List.getElem?_eq_getElem h]
  exact List.getElem_mem h

section
variable {n : Nat} (hn : 100000 ≤ n)
include hn

theorem bm_step {l : List (List Int)} (hl : l.length ≤ 99000) (hm : ∀ m ∈ l, m.length ≤ 99000) {i : Nat} (hi : i < l.length) :
    lPart l (0 : Int) (i : Int) = some (l.take i) ∧ f113 n (l.take i) (l.getD i []) = some ((l.take i).any fun z => decide (z = l.getD i [])) ∧ f115 n (l.take i) (l.getD i []) = some ((l.take i).any fun z => decide (z = l.getD i [])) ∧
    f112 n (l.getD i []) = some (decide (MapV (l.getD i []))) ∧ f114 n (l.getD i []) = some (decide (MapV (l.getD i []))) := by
  have h1 := hm _ (getD_mem (d := []) hi)
  have h2 : ∀ z ∈ l.take i, z.length ≤ 1000000 ∧ z.length < n := fun z hz => by have := hm z (List.mem_of_mem_take hz); omega
  refine ⟨?_, f113_is _ _ (by simp; omega) (by simp; omega) h2, f115_is _ _ (by simp; omega) (by simp; omega) h2, f112_is _ (by omega) (by omega), f114_is _ (by omega) (by omega)⟩
  rw [lPart_eq (by omega)]
  rfl

theorem f104_is (x : Box) (hs : BoxS x) : f104 n x = some (decide (BoxV x)) := by
  obtain ⟨s1, s2, s3, s4⟩ := hs
  rw [f104, joinK, joinK]
  by_cases c1 : x.Kinds = 0
  · rw [if_pos (by simpa using c1), decide_eq_false (fun h => h.1 c1)]
  rw [if_neg (by simpa using c1)]
  by_cases c2 : bitsI .andNot .i64 x.Kinds 254 = 0
  case neg => rw [if_pos (by simpa using c2), decide_eq_false (fun h => c2 h.2.1)]
  rw [if_neg (by simpa using c2), f111_is _ _ _ (by omega) (by omega), Option.bind_some]
  by_cases c3 : SetW x.Rates 1000 768000
  case neg => rw [if_pos (by simpa using c3), decide_eq_false (fun h => c3 h.2.2.1)]
  rw [if_neg (by simpa using c3), f111_is _ _ _ (by omega) (by omega), Option.bind_some]
  dsimp only
  by_cases c4 : SetW x.Sizes 1 65536
  case neg => rw [if_pos (by simpa using c4), decide_eq_false (fun h => c4 h.2.2.2.1)]
  rw [if_neg (by simpa using c4), joinK, allLoop (f104_l1 n x _) x.Maps.length (bmOK x.Maps) _ (fun m => by rw [f104_l1, if_neg (by simp)]) ?_ n (by omega)]
  · by_cases h : ∀ k, k < x.Maps.length → bmOK x.Maps k = true
    · rw [if_pos h]
      by_cases h1 : (x.Maps.length : Int) ≥ 1
      · rw [if_pos (by simpa using h1)]
        exact congrArg some (decide_eq_decide.2 ⟨fun hh => ⟨c1, c2, c3, c4, by omega, h⟩, fun hh => by have := hh.2.2.2.2.1.2; omega⟩)
      · rw [if_neg (by simpa using h1), decide_eq_false (fun hh => by have := hh.2.2.2.2.1.1; omega)]
    · rw [if_neg h, decide_eq_false (fun hh => h hh.2.2.2.2.2)]
  · intro m i hi _
    obtain ⟨b1, b2, b3, b4, b5⟩ := bm_step hn s3 s4 hi
    rw [f104_l1, if_pos (by simp; omega)]
    simp only [joinK]
    rw [lAt_getD [] hi, Option.bind_some, b4, Option.bind_some, w64_id (by omega), show (i : Int) + 1 = ((i + 1 : Nat) : Int) by omega, b1]
    unfold bmOK
    cases decide (MapV (x.Maps.getD i [])) with
    | false => rfl
    | true =>
      rw [if_neg (by simp), Option.bind_some, b2, Option.bind_some]
      cases ((x.Maps.take i).any fun z => decide (z = x.Maps.getD i [])) <;> rfl

theorem f106_is (x : Box) (hs : BoxS x) : f106 n x = some (decide (BoxV x)) := by
  obtain ⟨s1, s2, s3, s4⟩ := hs
  rw [f106, joinK, joinK]
  by_cases c1 : x.Kinds = 0
  · rw [if_pos (by simpa using c1), decide_eq_false (fun h => h.1 c1)]
  rw [if_neg (by simpa using c1)]
  by_cases c2 : bitsI .andNot .i64 x.Kinds 254 = 0
  case neg => rw [if_pos (by simpa using c2), decide_eq_false (fun h => c2 h.2.1)]
  rw [if_neg (by simpa using c2)]
  by_cases c5 : (x.Maps.length : Int) < 1
  · rw [if_pos (by simpa using c5), decide_eq_false (fun h => by have := h.2.2.2.2.1.1; omega)]
  rw [if_neg (by simpa using c5)]
  by_cases c6 : (x.Maps.length : Int) > 16
  · rw [if_pos (by simpa using c6), decide_eq_false (fun h => by have := h.2.2.2.2.1.2; omega)]
  rw [if_neg (by simpa using c6), joinK, allLoop (f106_l1 n x _) x.Maps.length (bmOK x.Maps) _ (fun m => by rw [f106_l1, if_neg (by simp)]) ?_ n (by omega)]
  · by_cases h : ∀ k, k < x.Maps.length → bmOK x.Maps k = true
    · rw [if_pos h, f116_is _ _ _ (by omega) (by omega), Option.bind_some]
      by_cases c3 : SetW x.Rates 1000 768000
      case neg => rw [if_neg (by simpa using c3), decide_eq_false (fun h => c3 h.2.2.1)]
      rw [if_pos (by simpa using c3), f116_is _ _ _ (by omega) (by omega), Option.bind_some]
      exact congrArg some (decide_eq_decide.2 ⟨fun hh => ⟨c1, c2, c3, hh, by omega, h⟩, fun hh => hh.2.2.2.1⟩)
    · rw [if_neg h, decide_eq_false (fun hh => h hh.2.2.2.2.2)]
  · intro m i hi _
    obtain ⟨b1, b2, b3, b4, b5⟩ := bm_step hn s3 s4 hi
    rw [f106_l1, if_pos (by simp; omega)]
    simp only [joinK]
    rw [lAt_getD [] hi, Option.bind_some, b5, Option.bind_some, w64_id (by omega), show (i : Int) + 1 = ((i + 1 : Nat) : Int) by omega, b1]
    unfold bmOK
    cases decide (MapV (x.Maps.getD i [])) with
    | false => rfl
    | true =>
      rw [if_neg (by simp), Option.bind_some, b3, Option.bind_some]
      cases ((x.Maps.take i).any fun z => decide (z = x.Maps.getD i [])) <;> rfl

def BoxesV (l : List Box) : Prop := l.length ≤ 64 ∧ ∀ x ∈ l, BoxV x
instance (l : List Box) : Decidable (BoxesV l) := by unfold BoxesV; infer_instance

theorem f91_is (l : List Box) (hl : l.length ≤ 99000) (hs : ∀ x ∈ l, BoxS x) : f91 n l = some (decide (BoxesV l)) := by
  rw [f91]
  by_cases h0 : (l.length : Int) ≤ 64
  case neg => rw [if_neg (by simpa using h0), decide_eq_false (fun h => by have := h.1; omega)]
  obtain ⟨y, h1, h2⟩ := seek (f110_l1 n l (fun z => f103 n z) fun _ => some (-1)) l (fun z => !decide (BoxV z)) ⟨0, [], [], []⟩ (fun m => by rw [f110_l1, if_neg (by simp)]) (fun m i hi => by
    have e : f103 n (l.getD i ⟨0, [], [], []⟩) = some (!decide (BoxV (l.getD i ⟨0, [], [], []⟩))) := by
      rw [f103, show f104 n (⟨(l.getD i ⟨0, [], [], []⟩).Kinds, (l.getD i ⟨0, [], [], []⟩).Rates, (l.getD i ⟨0, [], [], []⟩).Maps, (l.getD i ⟨0, [], [], []⟩).Sizes⟩ : Box) = some (decide (BoxV (l.getD i ⟨0, [], [], []⟩))) from f104_is hn _ (hs _ (getD_mem hi))]
      rfl
    rw [f110_l1, if_pos (by simp; omega), lAt_getD (⟨0, [], [], []⟩ : Box) hi, Option.bind_some, e, Option.bind_some, w64_id (by omega), show (i : Int) + 1 = ((i + 1 : Nat) : Int) by omega]) n (by omega)
  rw [if_pos (by simpa using h0), f102, f110, joinK, h1, Option.bind_some, Option.bind_some, h2]
  refine congrArg some ?_
  rw [List.not_any_eq_all_not]
  by_cases h : ∀ x ∈ l, BoxV x
  · rw [decide_eq_true (show BoxesV l from ⟨by omega, h⟩), List.all_eq_true]
    intro x hx
    simp [h x hx]
  · rw [decide_eq_false (fun hh => h hh.2)]
    refine Bool.eq_false_iff.2 fun ha => h fun x hx => ?_
    have := List.all_eq_true.1 ha x hx
    simpa using this

theorem f93_is (l : List Box) (hl : l.length ≤ 99000) (hs : ∀ x ∈ l, BoxS x) : f93 n l = some (decide (BoxesV l)) := by
  rw [f93, joinK, allLoop (f93_l1 n l _) l.length (fun k => decide (BoxV (l.getD k ⟨0, [], [], []⟩))) _ (fun m => by rw [f93_l1, if_neg (by simp)]) ?_ n (by omega)]
  · have he : (∀ k, k < l.length → decide (BoxV (l.getD k ⟨0, [], [], []⟩)) = true) ↔ ∀ x ∈ l, BoxV x := by
      constructor
      · intro h x hx
        obtain ⟨k, hk, rfl⟩ := List.mem_iff_getElem.1 hx
        have := h k hk
        rw [List.getD_eq_getElem?_getD, List.getElem?_eq_getElem hk] at this
        simpa using this
      · intro h k hk
        exact decide_eq_true (h _ (getD_mem hk))
    by_cases h : ∀ x ∈ l, BoxV x
    · rw [if_pos (he.2 h)]
      exact congrArg some (decide_eq_decide.2 ⟨fun hh => ⟨by omega, h⟩, fun hh => by have := hh.1; omega⟩)
    · rw [if_neg (fun hh => h (he.1 hh)), decide_eq_false (fun hh => h hh.2)]
  · intro m i hi _
    rw [f93_l1, if_pos (by simp; omega), lAt_getD (⟨0, [], [], []⟩ : Box) hi, Option.bind_some, w64_id (by omega), show (i : Int) + 1 = ((i + 1 : Nat) : Int) by omega,
      show f106 n (⟨(l.getD i ⟨0, [], [], []⟩).Kinds, (l.getD i ⟨0, [], [], []⟩).Rates, (l.getD i ⟨0, [], [], []⟩).Maps, (l.getD i ⟨0, [], [], []⟩).Sizes⟩ : Box) = some (decide (BoxV (l.getD i ⟨0, [], [], []⟩))) from f106_is hn _ (hs _ (getD_mem hi)), Option.bind_some]
    cases decide (BoxV (l.getD i ⟨0, [], [], []⟩)) <;> rfl

def DescV (d : Descriptor) : Prop := NmV d.Name ∧ (d.Direction = 1 ∨ d.Direction = 2) ∧ (0 ≤ d.Domain ∧ d.Domain ≤ 65535) ∧ (0 ≤ d.Latency ∧ d.Latency ≤ 1048576) ∧ (0 ≤ d.Drift ∧ d.Drift ≤ 2048) ∧ (0 ≤ d.Jitter ∧ d.Jitter ≤ 4096) ∧ (1 ≤ d.Boxes.length ∧ d.Boxes.length ≤ 8) ∧ BoxesV d.Boxes
instance (d : Descriptor) : Decidable (DescV d) := by unfold DescV; infer_instance
def DescS (d : Descriptor) : Prop := d.Name.size ≤ 99000 ∧ d.Boxes.length ≤ 99000 ∧ ∀ x ∈ d.Boxes, BoxS x

theorem f56_is (d : Descriptor) (hs : DescS d) : f56 n d = some (decide (DescV d)) := by
  obtain ⟨s1, s2, s3⟩ := hs
  have e1 := f90_is (n := n) d.Name (by omega) (by omega)
  have e2 := f91_is hn d.Boxes s2 s3
  rw [f56]
  simp only [joinK]
  rw [e1, Option.bind_some, e2]
  simp only [Option.bind_some]
  by_cases c0 : NmV d.Name
  case neg => rw [decide_eq_false (fun h : DescV d => c0 h.1)]; simp [c0]; try (intro _ h1 h2; exact absurd h2 h1)
  by_cases a1 : d.Domain < 0
  · rw [decide_eq_false (fun h : DescV d => by have := h.2.2.1; omega)]; simp [c0, a1]; try (intro _ h1 h2; exact absurd h2 h1)
  by_cases a2 : d.Domain > 65535
  · rw [decide_eq_false (fun h : DescV d => by have := h.2.2.1; omega)]; simp [c0, a1, a2]; try (intro _ h1 h2; exact absurd h2 h1)
  by_cases a3 : d.Latency < 0
  · rw [decide_eq_false (fun h : DescV d => by have := h.2.2.2.1; omega)]; simp [c0, a1, a2, a3]; try (intro _ h1 h2; exact absurd h2 h1)
  by_cases a4 : d.Latency > 1048576
  · rw [decide_eq_false (fun h : DescV d => by have := h.2.2.2.1; omega)]; simp [c0, a1, a2, a3, a4]; try (intro _ h1 h2; exact absurd h2 h1)
  by_cases a5 : d.Drift < 0
  · rw [decide_eq_false (fun h : DescV d => by have := h.2.2.2.2.1; omega)]; simp [c0, a1, a2, a3, a4, a5]; try (intro _ h1 h2; exact absurd h2 h1)
  by_cases a6 : d.Drift > 2048
  · rw [decide_eq_false (fun h : DescV d => by have := h.2.2.2.2.1; omega)]; simp [c0, a1, a2, a3, a4, a5, a6]; try (intro _ h1 h2; exact absurd h2 h1)
  by_cases a7 : d.Jitter < 0
  · rw [decide_eq_false (fun h : DescV d => by have := h.2.2.2.2.2.1; omega)]; simp [c0, a1, a2, a3, a4, a5, a6, a7]; try (intro _ h1 h2; exact absurd h2 h1)
  by_cases a8 : d.Jitter > 4096
  · rw [decide_eq_false (fun h : DescV d => by have := h.2.2.2.2.2.1; omega)]; simp [c0, a1, a2, a3, a4, a5, a6, a7, a8]; try (intro _ h1 h2; exact absurd h2 h1)
  by_cases a9 : (d.Boxes.length : Int) ≥ 1
  case neg => rw [decide_eq_false (fun h : DescV d => by have := h.2.2.2.2.2.2.1; omega)]; simp [c0, a1, a2, a3, a4, a5, a6, a7, a8, a9]; try (intro _ h1 h2; exact absurd h2 h1)
  by_cases a10 : (d.Boxes.length : Int) ≤ 8
  case neg => rw [decide_eq_false (fun h : DescV d => by have := h.2.2.2.2.2.2.1; omega)]; simp [c0, a1, a2, a3, a4, a5, a6, a7, a8, a9, a10]; try (intro _ h1 h2; exact absurd h2 h1)
  by_cases d1 : d.Direction = 1
  · have : DescV d ↔ BoxesV d.Boxes := ⟨fun h => h.2.2.2.2.2.2.2, fun h => ⟨c0, .inl d1, by omega, by omega, by omega, by omega, by omega, h⟩⟩
    simp [c0, a1, a2, a3, a4, a5, a6, a7, a8, a9, a10, d1, this]
  · by_cases d2 : d.Direction = 2
    · have : DescV d ↔ BoxesV d.Boxes := ⟨fun h => h.2.2.2.2.2.2.2, fun h => ⟨c0, .inr d2, by omega, by omega, by omega, by omega, by omega, h⟩⟩
      simp [c0, a1, a2, a3, a4, a5, a6, a7, a8, a9, a10, d2, this]
    · rw [decide_eq_false (fun h : DescV d => by have := h.2.1; omega)]
      simp [c0, d1, d2]

theorem f57_is (d : Descriptor) (hs : DescS d) : f57 n d = some (decide (DescV d)) := by
  obtain ⟨s1, s2, s3⟩ := hs
  have e1 := f92_is (n := n) d.Name (by omega) (by omega)
  have e2 := f93_is hn d.Boxes s2 s3
  rw [f57, e1, Option.bind_some, e2]
  simp only [Option.bind_some]
  by_cases c0 : NmV d.Name
  case neg => rw [decide_eq_false (fun h : DescV d => c0 h.1)]; simp [c0]
  by_cases a1 : d.Domain ≥ 0
  case neg => rw [decide_eq_false (fun h : DescV d => by have := h.2.2.1; omega)]; simp [c0, a1]
  by_cases a2 : d.Domain ≤ 65535
  case neg => rw [decide_eq_false (fun h : DescV d => by have := h.2.2.1; omega)]; simp [c0, a1, a2]
  by_cases a3 : d.Latency ≥ 0
  case neg => rw [decide_eq_false (fun h : DescV d => by have := h.2.2.2.1; omega)]; simp [c0, a1, a2, a3]
  by_cases a4 : d.Latency ≤ 1048576
  case neg => rw [decide_eq_false (fun h : DescV d => by have := h.2.2.2.1; omega)]; simp [c0, a1, a2, a3, a4]
  by_cases a5 : d.Drift ≥ 0
  case neg => rw [decide_eq_false (fun h : DescV d => by have := h.2.2.2.2.1; omega)]; simp [c0, a1, a2, a3, a4, a5]
  by_cases a6 : d.Drift ≤ 2048
  case neg => rw [decide_eq_false (fun h : DescV d => by have := h.2.2.2.2.1; omega)]; simp [c0, a1, a2, a3, a4, a5, a6]
  by_cases a7 : d.Jitter ≥ 0
  case neg => rw [decide_eq_false (fun h : DescV d => by have := h.2.2.2.2.2.1; omega)]; simp [c0, a1, a2, a3, a4, a5, a6, a7]
  by_cases a8 : d.Jitter ≤ 4096
  case neg => rw [decide_eq_false (fun h : DescV d => by have := h.2.2.2.2.2.1; omega)]; simp [c0, a1, a2, a3, a4, a5, a6, a7, a8]
  by_cases a9 : (d.Boxes.length : Int) ≥ 1
  case neg => rw [decide_eq_false (fun h : DescV d => by have := h.2.2.2.2.2.2.1; omega)]; simp [c0, a1, a2, a3, a4, a5, a6, a7, a8, a9]
  by_cases a10 : (d.Boxes.length : Int) ≤ 8
  case neg => rw [decide_eq_false (fun h : DescV d => by have := h.2.2.2.2.2.2.1; omega)]; simp [c0, a1, a2, a3, a4, a5, a6, a7, a8, a9, a10]
  by_cases d1 : d.Direction = 1
  · have : DescV d ↔ BoxesV d.Boxes := ⟨fun h => h.2.2.2.2.2.2.2, fun h => ⟨c0, .inl d1, by omega, by omega, by omega, by omega, by omega, h⟩⟩
    simp [c0, a1, a2, a3, a4, a5, a6, a7, a8, a9, a10, d1, this]
  · by_cases d2 : d.Direction = 2
    · have : DescV d ↔ BoxesV d.Boxes := ⟨fun h => h.2.2.2.2.2.2.2, fun h => ⟨c0, .inr d2, by omega, by omega, by omega, by omega, by omega, h⟩⟩
      simp [c0, a1, a2, a3, a4, a5, a6, a7, a8, a9, a10, d2, this]
    · rw [decide_eq_false (fun h : DescV d => by have := h.2.1; omega)]
      simp [c0, d1, d2]

end
end Go.Proofs.Ytcahjpkmldmjdaa
