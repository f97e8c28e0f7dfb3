/-
  Sums and hashes; the sanity check of wire.
-/
import Derived.Test.YtcahjpkmldmjdaaPb
namespace Go.Proofs.Ytcahjpkmldmjdaa
open Go Ab

/-- One bit of the sum. -/
def crcStep (r : Int) : Int := if (bitsI .and .u32 r 1 == 1) = true then bitsI .xor .u32 (iShrT .u32 r 1) 3988292384 else iShrT .u32 r 1
def crcSteps : Nat → Int → Int
  | 0, r => r
  | d + 1, r => crcSteps d (crcStep r)
def crcByte (r b : Int) : Int := crcSteps 8 (bitsI .xor .u32 r (IntKind.wrap .u32 b))
def crcI (r : Int) : List Int → Int
  | [] => r
  | b :: l => crcI (crcByte r b) l
def crcS (l : List Int) : Int := iNot .u32 (crcI 4294967295 l)
def fnvI (h : Int) : List Int → Int
  | [] => h
  | b :: l => fnvI (IntKind.wrap .u64 (bitsI .xor .u64 h (IntKind.wrap .u64 b) * 1099511628211)) l

theorem f18_l2_is (j : Int → Option Int) : ∀ (d m n i : Nat) (r : Int), i + d = 8 → d < m → f18_l2 n j m r i = j (crcSteps d r) := by
  intro d
  induction d with
  | zero =>
    intro m n i r h1 h2
    obtain ⟨m, rfl⟩ : ∃ q, m = q + 1 := ⟨m - 1, by omega⟩
    rw [f18_l2, if_neg (by simp; omega)]
    rfl
  | succ d ih =>
    intro m n i r h1 h2
    obtain ⟨m, rfl⟩ : ∃ q, m = q + 1 := ⟨m - 1, by omega⟩
    rw [f18_l2, if_pos (by simp; omega), joinK, w64_id (by omega), show (i : Int) + 1 = ((i + 1 : Nat) : Int) by omega, crcSteps, crcStep]
    split
    · exact ih _ _ _ _ (by omega) (by omega)
    · exact ih _ _ _ _ (by omega) (by omega)

theorem f18_l1_is (b : List Int) (hbl : b.length ≤ 9000000000000000000) (j : Int → Option Int) : ∀ (d m n i : Nat) (r : Int), i + d = b.length → d < m → 100 ≤ n → f18_l1 n b j m r i = j (crcI r (b.drop i)) := by
  intro d
  induction d with
  | zero =>
    intro m n i r h1 h2 h3
    obtain ⟨m, rfl⟩ : ∃ q, m = q + 1 := ⟨m - 1, by omega⟩
    rw [f18_l1, if_neg (by simp; omega), List.drop_eq_nil_of_le (by omega)]
    rfl
  | succ d ih =>
    intro m n i r h1 h2 h3
    obtain ⟨m, rfl⟩ : ∃ q, m = q + 1 := ⟨m - 1, by omega⟩
    rw [f18_l1, if_pos (by simp; omega), joinK, lAt_nat (by omega), Option.bind_some]
    have := f18_l2_is (fun v => f18_l1 n b j m v (w64 ((i : Int) + 1))) 8 n n 0 (bitsI .xor .u32 r (IntKind.wrap .u32 b[i])) (by omega) (by omega)
    rw [show ((0 : Nat) : Int) = 0 from rfl] at this
    rw [this, w64_id (by omega), show (i : Int) + 1 = ((i + 1 : Nat) : Int) by omega, ih _ _ _ _ (by omega) (by omega) h3, List.drop_eq_getElem_cons (show i < b.length by omega)]
    rfl

theorem f18_is {n : Nat} (b : List Int) (hbl : b.length ≤ 9000000000000000000) (hn : 100 ≤ n ∧ b.length < n) : f18 n b = some (crcS b) := by
  rw [f18, joinK]
  have := f18_l1_is b hbl (fun v => some (iNot .u32 v)) b.length n n 0 4294967295 (by omega) (by omega) hn.1
  rw [show ((0 : Nat) : Int) = 0 from rfl] at this
  rw [this]
  rfl

theorem f19_l2_is (j : Int → Option Int) : ∀ (d m n i : Nat) (r : Int), i + d = 8 → d < m → f19_l2 n j m r i = j (crcSteps d r) := by
  intro d
  induction d with
  | zero =>
    intro m n i r h1 h2
    obtain ⟨m, rfl⟩ : ∃ q, m = q + 1 := ⟨m - 1, by omega⟩
    rw [f19_l2, if_neg (by simp; omega)]
    rfl
  | succ d ih =>
    intro m n i r h1 h2
    obtain ⟨m, rfl⟩ : ∃ q, m = q + 1 := ⟨m - 1, by omega⟩
    rw [f19_l2, if_pos (by simp; omega), joinK, w64_id (by omega), show (i : Int) + 1 = ((i + 1 : Nat) : Int) by omega, crcSteps, crcStep]
    split
    · exact ih _ _ _ _ (by omega) (by omega)
    · exact ih _ _ _ _ (by omega) (by omega)

theorem f19_l1_is (b : List Int) (hbl : b.length ≤ 9000000000000000000) (j : Int → Option Int) : ∀ (d m n i : Nat) (r : Int), i + d = b.length → d < m → 100 ≤ n → f19_l1 n b j m r i = j (crcI r (b.drop i)) := by
  intro d
  induction d with
  | zero =>
    intro m n i r h1 h2 h3
    obtain ⟨m, rfl⟩ : ∃ q, m = q + 1 := ⟨m - 1, by omega⟩
    rw [f19_l1, if_neg (by simp; omega), List.drop_eq_nil_of_le (by omega)]
    rfl
  | succ d ih =>
    intro m n i r h1 h2 h3
    obtain ⟨m, rfl⟩ : ∃ q, m = q + 1 := ⟨m - 1, by omega⟩
    rw [f19_l1, if_pos (by simp; omega), joinK, lAt_nat (by omega), Option.bind_some]
    have := f19_l2_is (fun v => f19_l1 n b j m v (w64 ((i : Int) + 1))) 8 n n 0 (bitsI .xor .u32 r (IntKind.wrap .u32 b[i])) (by omega) (by omega)
    rw [show ((0 : Nat) : Int) = 0 from rfl] at this
    rw [this, w64_id (by omega), show (i : Int) + 1 = ((i + 1 : Nat) : Int) by omega, ih _ _ _ _ (by omega) (by omega) h3, List.drop_eq_getElem_cons (show i < b.length by omega)]
    rfl

theorem f19_is {n : Nat} (b : List Int) (hbl : b.length ≤ 9000000000000000000) (hn : 100 ≤ n ∧ b.length < n) : f19 n b = some (crcS b) := by
  rw [f19, joinK]
  have := f19_l1_is b hbl (fun v => some (iNot .u32 v)) b.length n n 0 4294967295 (by omega) (by omega) hn.1
  rw [show ((0 : Nat) : Int) = 0 from rfl] at this
  rw [this]
  rfl

theorem f20_l1_is (b : List Int) (hbl : b.length ≤ 9000000000000000000) (j : Int → Option Int) : ∀ (d m n i : Nat) (r : Int), i + d = b.length → d < m → f20_l1 n b j m r i = j (fnvI r (b.drop i)) := by
  intro d
  induction d with
  | zero =>
    intro m n i r h1 h2
    obtain ⟨m, rfl⟩ : ∃ q, m = q + 1 := ⟨m - 1, by omega⟩
    rw [f20_l1, if_neg (by simp; omega), List.drop_eq_nil_of_le (by omega)]
    rfl
  | succ d ih =>
    intro m n i r h1 h2
    obtain ⟨m, rfl⟩ : ∃ q, m = q + 1 := ⟨m - 1, by omega⟩
    rw [f20_l1, if_pos (by simp; omega), lAt_nat (by omega), Option.bind_some, w64_id (by omega), show (i : Int) + 1 = ((i + 1 : Nat) : Int) by omega, ih _ _ _ _ (by omega) (by omega), List.drop_eq_getElem_cons (show i < b.length by omega)]
    rfl

theorem f20_is {n : Nat} (b : List Int) (hbl : b.length ≤ 9000000000000000000) (hn : b.length < n) : f20 n b = some (fnvI 14695981039346656037 b) := by
  rw [f20, joinK]
  have := f20_l1_is b hbl (fun v => some v) b.length n n 0 14695981039346656037 (by omega) (by omega)
  rw [show ((0 : Nat) : Int) = 0 from rfl] at this
  rw [this]
  rfl

theorem f21_l1_is (b : List Int) (hbl : b.length ≤ 9000000000000000000) (j : Int → Option Int) : ∀ (d m n i : Nat) (r : Int), i + d = b.length → d < m → f21_l1 n b j m r i = j (fnvI r (b.drop i)) := by
  intro d
  induction d with
  | zero =>
    intro m n i r h1 h2
    obtain ⟨m, rfl⟩ : ∃ q, m = q + 1 := ⟨m - 1, by omega⟩
    rw [f21_l1, if_neg (by simp; omega), List.drop_eq_nil_of_le (by omega)]
    rfl
  | succ d ih =>
    intro m n i r h1 h2
    obtain ⟨m, rfl⟩ : ∃ q, m = q + 1 := ⟨m - 1, by omega⟩
    rw [f21_l1, if_pos (by simp; omega), lAt_nat (by omega), Option.bind_some, w64_id (by omega), show (i : Int) + 1 = ((i + 1 : Nat) : Int) by omega, ih _ _ _ _ (by omega) (by omega), List.drop_eq_getElem_cons (show i < b.length by omega)]
    rfl

theorem f21_is {n : Nat} (b : List Int) (hbl : b.length ≤ 9000000000000000000) (hn : b.length < n) : f21 n b = some (fnvI 14695981039346656037 b) := by
  rw [f21, joinK]
  have := f21_l1_is b hbl (fun v => some v) b.length n n 0 14695981039346656037 (by omega) (by omega)
  rw [show ((0 : Nat) : Int) = 0 from rfl] at this
  rw [this]
  rfl

theorem crc_check : crcS [49, 50, 51, 52, 53, 54, 55, 56, 57] = 3421780262 := by decide +kernel
theorem crc_nil : crcS [] = 0 := by decide +kernel
theorem put_check : sEq (mkStr (leN 2 258)) (⟨#[2, 1]⟩ : ByteArray) = true := by decide +kernel

theorem f17_is {n : Nat} (hn : 1000 ≤ n) : f17 n = some true := by
  rw [f17, f24_is hn _ _ (by simp), Option.bind_some, List.nil_append, if_pos put_check, f18_is _ (by simp) (by simp; omega), Option.bind_some, crc_check, if_pos (by decide), f18_is _ (by simp) (by simp; omega), Option.bind_some, crc_nil, if_pos (by decide), f20_is _ (by simp) (by simp; omega)]
  rfl

end Go.Proofs.Ytcahjpkmldmjdaa
