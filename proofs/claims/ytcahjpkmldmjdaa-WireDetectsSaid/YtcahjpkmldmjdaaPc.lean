/-
  Sums and hashes; the sanity check of wire; the laws of puts, offsets and of what comes back.
-/
import Derived.Test.YtcahjpkmldmjdaaPb
import Derived.Test.YtcahjpkmldmjdaaGc
namespace Go.Proofs.Ytcahjpkmldmjdaa
open Go Ab

/-- One bit of the sum. -/
def crcStep (r : Int) : Int := if (bitsI .and .u32 r 1 == 1) = true then bitsI .xor .u32 (iShrT .u32 r 1) 3988292384 else iShrT .u32 r 1
def crcSteps : Nat → Int → Int
  | 0, r => r
  | d + 1, r => crcSteps d (crcStep r)
def crcByte (r b : Int) : Int := crcSteps 8 (bitsI .xor .u32 r (IntKind.wrap .u32 b))
def crcI (r : Int) : List Int → Int
  | [] => r
  | b :: l => crcI (crcByte r b) l
def crcS (l : List Int) : Int := iNot .u32 (crcI 4294967295 l)
def fnvI (h : Int) : List Int → Int
  | [] => h
  | b :: l => fnvI (IntKind.wrap .u64 (bitsI .xor .u64 h (IntKind.wrap .u64 b) * 1099511628211)) l

theorem f18_l2_is (j : Int → Option Int) : ∀ (d m n i : Nat) (r : Int), i + d = 8 → d < m → f18_l2 n j m r i = j (crcSteps d r) := by
  intro d
  induction d with
  | zero =>
    intro m n i r h1 h2
    obtain ⟨m, rfl⟩ : ∃ q, m = q + 1 := ⟨m - 1, by omega⟩
    rw [f18_l2, if_neg (by simp; omega)]
    rfl
  | succ d ih =>
    intro m n i r h1 h2
    obtain ⟨m, rfl⟩ : ∃ q, m = q + 1 := ⟨m - 1, by omega⟩
    rw [f18_l2, if_pos (by simp; omega), joinK, w64_id (by omega), show (i : Int) + 1 = ((i + 1 : Nat) : Int) by omega, crcSteps, crcStep]
    split
    · exact ih _ _ _ _ (by omega) (by omega)
    · exact ih _ _ _ _ (by omega) (by omega)

theorem f18_l1_is (b : List Int) (hbl : b.length ≤ 9000000000000000000) (j : Int → Option Int) : ∀ (d m n i : Nat) (r : Int), i + d = b.length → d < m → 100 ≤ n → f18_l1 n b j m r i = j (crcI r (b.drop i)) := by
  intro d
  induction d with
  | zero =>
    intro m n i r h1 h2 h3
    obtain ⟨m, rfl⟩ : ∃ q, m = q + 1 := ⟨m - 1, by omega⟩
    rw [f18_l1, if_neg (by simp; omega), List.drop_eq_nil_of_le (by omega)]
    rfl
  | succ d ih =>
    intro m n i r h1 h2 h3
    obtain ⟨m, rfl⟩ : ∃ q, m = q + 1 := ⟨m - 1, by omega⟩
    rw [f18_l1, if_pos (by simp; omega), joinK, lAt_nat (by omega), Option.bind_some]
    have := f18_l2_is (fun v => f18_l1 n b j m v (w64 ((i : Int) + 1))) 8 n n 0 (bitsI .xor .u32 r (IntKind.wrap .u32 b[i])) (by omega) (by omega)
    rw [show ((0 : Nat) : Int) = 0 from rfl] at this
    rw [this, w64_id (by omega), show (i : Int) + 1 = ((i + 1 : Nat) : Int) by omega, ih _ _ _ _ (by omega) (by omega) h3, List.drop_eq_getElem_cons (show i < b.length by omega)]
    rfl

theorem f18_is {n : Nat} (b : List Int) (hbl : b.length ≤ 9000000000000000000) (hn : 100 ≤ n ∧ b.length < n) : f18 n b = some (crcS b) := by
  rw [f18, joinK]
  have := f18_l1_is b hbl (fun v => some (iNot .u32 v)) b.length n n 0 4294967295 (by omega) (by omega) hn.1
  rw [show ((0 : Nat) : Int) = 0 from rfl] at this
  rw [this]
  rfl

theorem f19_l2_is (j : Int → Option Int) : ∀ (d m n i : Nat) (r : Int), i + d = 8 → d < m → f19_l2 n j m r i = j (crcSteps d r) := by
  intro d
  induction d with
  | zero =>
    intro m n i r h1 h2
    obtain ⟨m, rfl⟩ : ∃ q, m = q + 1 := ⟨m - 1, by omega⟩
    rw [f19_l2, if_neg (by simp; omega)]
    rfl
  | succ d ih =>
    intro m n i r h1 h2
    obtain ⟨m, rfl⟩ : ∃ q, m = q + 1 := ⟨m - 1, by omega⟩
    rw [f19_l2, if_pos (by simp; omega), joinK, w64_id (by omega), show (i : Int) + 1 = ((i + 1 : Nat) : Int) by omega, crcSteps, crcStep]
    split
    · exact ih _ _ _ _ (by omega) (by omega)
    · exact ih _ _ _ _ (by omega) (by omega)

theorem f19_l1_is (b : List Int) (hbl : b.length ≤ 9000000000000000000) (j : Int → Option Int) : ∀ (d m n i : Nat) (r : Int), i + d = b.length → d < m → 100 ≤ n → f19_l1 n b j m r i = j (crcI r (b.drop i)) := by
  intro d
  induction d with
  | zero =>
    intro m n i r h1 h2 h3
    obtain ⟨m, rfl⟩ : ∃ q, m = q + 1 := ⟨m - 1, by omega⟩
    rw [f19_l1, if_neg (by simp; omega), List.drop_eq_nil_of_le (by omega)]
    rfl
  | succ d ih =>
    intro m n i r h1 h2 h3
    obtain ⟨m, rfl⟩ : ∃ q, m = q + 1 := ⟨m - 1, by omega⟩
    rw [f19_l1, if_pos (by simp; omega), joinK, lAt_nat (by omega), Option.bind_some]
    have := f19_l2_is (fun v => f19_l1 n b j m v (w64 ((i : Int) + 1))) 8 n n 0 (bitsI .xor .u32 r (IntKind.wrap .u32 b[i])) (by omega) (by omega)
    rw [show ((0 : Nat) : Int) = 0 from rfl] at this
    rw [this, w64_id (by omega), show (i : Int) + 1 = ((i + 1 : Nat) : Int) by omega, ih _ _ _ _ (by omega) (by omega) h3, List.drop_eq_getElem_cons (show i < b.length by omega)]
    rfl

theorem f19_is {n : Nat} (b : List Int) (hbl : b.length ≤ 9000000000000000000) (hn : 100 ≤ n ∧ b.length < n) : f19 n b = some (crcS b) := by
  rw [f19, joinK]
  have := f19_l1_is b hbl (fun v => some (iNot .u32 v)) b.length n n 0 4294967295 (by omega) (by omega) hn.1
  rw [show ((0 : Nat) : Int) = 0 from rfl] at this
  rw [this]
  rfl

theorem f20_l1_is (b : List Int) (hbl : b.length ≤ 9000000000000000000) (j : Int → Option Int) : ∀ (d m n i : Nat) (r : Int), i + d = b.length → d < m → f20_l1 n b j m r i = j (fnvI r (b.drop i)) := by
  intro d
  induction d with
  | zero =>
    intro m n i r h1 h2
    obtain ⟨m, rfl⟩ : ∃ q, m = q + 1 := ⟨m - 1, by omega⟩
    rw [f20_l1, if_neg (by simp; omega), List.drop_eq_nil_of_le (by omega)]
    rfl
  | succ d ih =>
    intro m n i r h1 h2
    obtain ⟨m, rfl⟩ : ∃ q, m = q + 1 := ⟨m - 1, by omega⟩
    rw [f20_l1, if_pos (by simp; omega), lAt_nat (by omega), Option.bind_some, w64_id (by omega), show (i : Int) + 1 = ((i + 1 : Nat) : Int) by omega, ih _ _ _ _ (by omega) (by omega), List.drop_eq_getElem_cons (show i < b.length by omega)]
    rfl

theorem f20_is {n : Nat} (b : List Int) (hbl : b.length ≤ 9000000000000000000) (hn : b.length < n) : f20 n b = some (fnvI 14695981039346656037 b) := by
  rw [f20, joinK]
  have := f20_l1_is b hbl (fun v => some v) b.length n n 0 14695981039346656037 (by omega) (by omega)
  rw [show ((0 : Nat) : Int) = 0 from rfl] at this
  rw [this]
  rfl

theorem f21_l1_is (b : List Int) (hbl : b.length ≤ 9000000000000000000) (j : Int → Option Int) : ∀ (d m n i : Nat) (r : Int), i + d = b.length → d < m → f21_l1 n b j m r i = j (fnvI r (b.drop i)) := by
  intro d
  induction d with
  | zero =>
    intro m n i r h1 h2
    obtain ⟨m, rfl⟩ : ∃ q, m = q + 1 := ⟨m - 1, by omega⟩
    rw [f21_l1, if_neg (by simp; omega), List.drop_eq_nil_of_le (by omega)]
    rfl
  | succ d ih =>
    intro m n i r h1 h2
    obtain ⟨m, rfl⟩ : ∃ q, m = q + 1 := ⟨m - 1, by omega⟩
    rw [f21_l1, if_pos (by simp; omega), lAt_nat (by omega), Option.bind_some, w64_id (by omega), show (i : Int) + 1 = ((i + 1 : Nat) : Int) by omega, ih _ _ _ _ (by omega) (by omega), List.drop_eq_getElem_cons (show i < b.length by omega)]
    rfl

theorem f21_is {n : Nat} (b : List Int) (hbl : b.length ≤ 9000000000000000000) (hn : b.length < n) : f21 n b = some (fnvI 14695981039346656037 b) := by
  rw [f21, joinK]
  have := f21_l1_is b hbl (fun v => some v) b.length n n 0 14695981039346656037 (by omega) (by omega)
  rw [show ((0 : Nat) : Int) = 0 from rfl] at this
  rw [this]
  rfl

theorem crc_check : crcS [49, 50, 51, 52, 53, 54, 55, 56, 57] = 3421780262 := by decide +kernel
theorem crc_nil : crcS [] = 0 := by decide +kernel
theorem put_check : sEq (mkStr (leN 2 258)) (⟨#[2, 1]⟩ : ByteArray) = true := by decide +kernel

theorem f17_is {n : Nat} (hn : 1000 ≤ n) : f17 n = some true := by
  rw [f17, f24_is hn _ _ (by simp), Option.bind_some, List.nil_append, if_pos put_check, f18_is _ (by simp) (by simp; omega), Option.bind_some, crc_check, if_pos (by decide), f18_is _ (by simp) (by simp; omega), Option.bind_some, crc_nil, if_pos (by decide), f20_is _ (by simp) (by simp; omega)]
  rfl

theorem f5_is {n : Nat} (hn : 1000 ≤ n) (b : List Int) (v : Int) (hv : 0 ≤ v ∧ v < 18446744073709551616) (s : ByteArray) : f5 n b v s = some true := by
  rw [f5, f17_is hn]
  simp only [Option.bind_some, joinK, Bool.not_true, Bool.false_eq_true, if_false]
  by_cases h1 : (b.length : Int) > 500
  · rw [if_pos (by simpa using h1)]
  rw [if_neg (by simpa using h1)]
  by_cases h2 : (s.size : Int) > 500
  · rw [if_pos (by simpa using h2)]
  rw [if_neg (by simpa using h2), f22_is b s (by omega), f23_is hn b s (by omega)]
  simp only [Option.bind_some]
  rw [f24_is hn _ _ (by omega), f25_is hn _ _ (by rw [wrap_u16]; omega) (by omega)]
  simp only [Option.bind_some, sEq_self, if_true]
  rw [f26_is hn _ _ (by omega), f27_is hn _ _ (by rw [wrap_u32]; omega) (by omega)]
  simp only [Option.bind_some, sEq_self, if_true]
  rw [f28_is hn _ _ (by omega), f29_is hn _ _ (by omega)]
  simp [sEq_self]

theorem f6_is {n : Nat} (hn : 1000 ≤ n) (p d : List Int) (hp : AreBytes p) (hd : AreBytes d) : f6 n p d = some true := by
  rw [f6, f17_is hn]
  simp only [Option.bind_some, joinK, Bool.not_true, Bool.false_eq_true, if_false]
  by_cases h1 : (p.length : Int) > 100
  · rw [if_pos (by simpa using h1)]
  rw [if_neg (by simpa using h1)]
  by_cases h2 : (d.length : Int) > 200
  · rw [if_pos (by simpa using h2)]
  rw [if_neg (by simpa using h2), lApp_eq (by simp; omega), Option.bind_some, lApp_eq (by simp; omega), Option.bind_some, List.nil_append]
  have hb := append_bytes hp hd
  have hl : (p ++ d).length ≤ 9000000000000000000 := by simp; omega
  rw [f30_is hn _ hb hl _ (by omega), Option.bind_some, f30_is hn _ hd (by omega) _ (by omega), Option.bind_some, f31_is _ hb hl _ (by omega), Option.bind_some, f31_is _ hd (by omega) _ (by omega), Option.bind_some]
  simp only [getV_shift, getE_shift, gtS_shift p d hd, gtE_shift, sEq_self, beq_self_eq_true, if_true]
  have hr := gtN_range hd 0
  have A : getE d 0 4 = 0 → getA (p ++ d) (p.length : Int) 4 = w64 (getA d 0 4 + (p.length : Int)) := by
    intro h
    rw [getA, getE_shift, if_pos h, getA, if_pos h, w64_id (by omega)]
    omega
  have G : gtE d 0 = 0 → gtA (p ++ d) (p.length : Int) = w64 (gtA d 0 + (p.length : Int)) := by
    intro h
    rw [gtA, gtE_shift, gtN_shift, if_pos h, gtA, if_pos h, w64_id (by omega)]
    omega
  by_cases hE : getE d 0 4 = 0
  · rw [if_neg (by simp [hE]), A hE, if_pos (by simp)]
    by_cases hG : gtE d 0 = 0
    · rw [if_neg (by simp [hG]), G hG]; simp
    · rw [if_pos (by simp [hG])]
  · rw [if_pos (by simp [hE])]
    by_cases hG : gtE d 0 = 0
    · rw [if_neg (by simp [hG]), G hG]; simp
    · rw [if_pos (by simp [hG])]

/-- What was put is got. -/
theorem get_put (p : List Int) (w : Nat) (v : Int) (hv : 0 ≤ v ∧ v < 256 ^ w) (m : List Int) : getE (p ++ leN w v ++ m) (p.length : Int) w = 0 ∧ getV (p ++ leN w v ++ m) (p.length : Int) w = v ∧ getA (p ++ leN w v ++ m) (p.length : Int) w = p.length + w := by
  have he : getE (p ++ leN w v ++ m) (p.length : Int) w = 0 := getE_ok.2 ⟨by omega, by simp [leN_length]; omega⟩
  refine ⟨he, ?_, by rw [getA, if_pos he]⟩
  rw [getV, if_pos he, Int.toNat_natCast, List.append_assoc, List.drop_left, List.take_append_of_le_length (by rw [leN_length]; exact Nat.le_refl _)]
  have e : (leN w v).take w = leN w v := List.take_of_length_le (by rw [leN_length]; exact Nat.le_refl _)
  rw [e, leV_leN w v hv.1, Int.emod_eq_of_lt hv.1 hv.2]

theorem text_put (p : List Int) (s : ByteArray) (hs : s.size ≤ 64) (m : List Int) : gtE (p ++ (s.size : Int) :: strNums s ++ m) (p.length : Int) = 0 ∧ gtS (p ++ (s.size : Int) :: strNums s ++ m) (p.length : Int) = s ∧ gtA (p ++ (s.size : Int) :: strNums s ++ m) (p.length : Int) = p.length + 1 + s.size := by
  have hl := strNums_length s
  have hN : gtN (p ++ (s.size : Int) :: strNums s ++ m) (p.length : Int) = s.size := by
    rw [gtN, Int.toNat_natCast, List.append_assoc, List.getElem?_append_right (Nat.le_refl _), Nat.sub_self]
    rfl
  have he : gtE (p ++ (s.size : Int) :: strNums s ++ m) (p.length : Int) = 0 := by
    rw [gtE, hN]
    simp only [List.length_append, List.length_cons, hl]
    rw [if_neg (by omega), if_neg (by omega), if_neg (by omega), if_neg (by omega)]
  refine ⟨he, ?_, by rw [gtA, if_pos he, hN]⟩
  rw [gtS, if_pos he, hN]
  have e1 : ((p.length : Int) + 1 + (s.size : Int)).toNat = p.length + (1 + s.size) := by omega
  have e2 : ((p.length : Int) + 1).toNat = p.length + 1 := by omega
  rw [e1, e2, List.append_assoc, List.take_length_add_append, List.drop_append, List.drop_eq_nil_of_le (by omega), List.nil_append, show p.length + 1 - p.length = 1 by omega, List.cons_append, Nat.add_comm 1, List.take_succ_cons, List.drop_succ_cons, List.drop_zero, List.take_append_of_le_length (by omega), ← hl, List.take_length, mkStr_strNums]

theorem f8_is {n : Nat} (hn : 1000 ≤ n) (b : List Int) (hb : AreBytes b) (v : Int) (hv : 0 ≤ v ∧ v < 18446744073709551616) (s : ByteArray) (m : List Int) (hm : AreBytes m) : f8 n b v s m = some true := by
  rw [f8, f17_is hn]
  simp only [Option.bind_some, joinK, Bool.not_true, Bool.false_eq_true, if_false]
  by_cases h1 : (b.length : Int) > 200
  · rw [if_pos (by simpa using h1)]
  rw [if_neg (by simpa using h1)]
  by_cases h2 : (s.size : Int) > 64
  · rw [if_pos (by simpa using h2)]
  rw [if_neg (by simpa using h2)]
  by_cases h3 : (m.length : Int) > 100
  · rw [if_pos (by simpa using h3)]
  have hs : s.size ≤ 64 := by omega
  have hl := strNums_length s
  rw [if_neg (by simpa using h3), f24_is hn _ _ (by omega), Option.bind_some, f26_is hn _ _ (by simp [leN_length]; omega), Option.bind_some, f28_is hn _ _ (by simp [leN_length]; omega), Option.bind_some, f22_is _ _ (by simp [leN_length]; omega), Option.bind_some]
  simp only [ptB, ptE, if_pos hs]
  rw [lApp_eq (by simp [leN_length, hl]; omega), Option.bind_some, lApp_eq (by simp [leN_length, hl]; omega), Option.bind_some, List.nil_append]
  generalize hx : b ++ leN 2 (IntKind.wrap .u16 v) ++ leN 4 (IntKind.wrap .u32 v) ++ leN 8 v ++ (s.size : Int) :: strNums s ++ m = x
  have hsb : AreBytes ((s.size : Int) :: strNums s) := cons_bytes (by omega) (strNums_bytes s)
  have hxb : AreBytes x := by
    rw [← hx]
    exact append_bytes (append_bytes (append_bytes (append_bytes (append_bytes hb (leN_bytes _ _)) (leN_bytes _ _)) (leN_bytes _ _)) hsb) hm
  have hxl : x.length = b.length + 15 + s.size + m.length := by rw [← hx]; simp [leN_length, hl]; omega
  have x16 := get_put b 2 (IntKind.wrap .u16 v) (by rw [wrap_u16]; omega) (leN 4 (IntKind.wrap .u32 v) ++ leN 8 v ++ (s.size : Int) :: strNums s ++ m)
  have x32 := get_put (b ++ leN 2 (IntKind.wrap .u16 v)) 4 (IntKind.wrap .u32 v) (by rw [wrap_u32]; omega) (leN 8 v ++ (s.size : Int) :: strNums s ++ m)
  have x64 := get_put (b ++ leN 2 (IntKind.wrap .u16 v) ++ leN 4 (IntKind.wrap .u32 v)) 8 v hv ((s.size : Int) :: strNums s ++ m)
  have xt := text_put (b ++ leN 2 (IntKind.wrap .u16 v) ++ leN 4 (IntKind.wrap .u32 v) ++ leN 8 v) s hs m
  have e16 : b ++ leN 2 (IntKind.wrap .u16 v) ++ (leN 4 (IntKind.wrap .u32 v) ++ leN 8 v ++ (s.size : Int) :: strNums s ++ m) = x := by rw [← hx]; simp only [List.append_assoc]
  have e32 : b ++ leN 2 (IntKind.wrap .u16 v) ++ leN 4 (IntKind.wrap .u32 v) ++ (leN 8 v ++ (s.size : Int) :: strNums s ++ m) = x := by rw [← hx]; simp only [List.append_assoc]
  have e64 : b ++ leN 2 (IntKind.wrap .u16 v) ++ leN 4 (IntKind.wrap .u32 v) ++ leN 8 v ++ ((s.size : Int) :: strNums s ++ m) = x := by rw [← hx]; simp only [List.append_assoc]
  rw [e16] at x16
  rw [e32] at x32
  rw [e64] at x64
  rw [hx] at xt
  simp only [List.length_append, leN_length] at x32 x64 xt
  have p1 : (b.length : Int) + ((2 : Nat) : Int) = ((b.length + 2 : Nat) : Int) := by omega
  have p2 : ((b.length + 2 : Nat) : Int) + ((4 : Nat) : Int) = ((b.length + 2 + 4 : Nat) : Int) := by omega
  have p3 : ((b.length + 2 + 4 : Nat) : Int) + ((8 : Nat) : Int) = ((b.length + 2 + 4 + 8 : Nat) : Int) := by omega
  rw [f32_is hn _ hxb (by omega) _ (by omega), Option.bind_some]
  simp only [x16, p1]
  rw [f30_is hn _ hxb (by omega) _ (by omega), Option.bind_some]
  simp only [x32, p2]
  rw [f35_is hn _ hxb (by omega) _ (by omega), Option.bind_some]
  simp only [x64, p3]
  rw [f31_is _ hxb (by omega) _ (by omega), Option.bind_some]
  simp only [xt, hxl, sEq_self, beq_self_eq_true, if_true]
  rw [w64_id (by omega)]
  simp only [Option.some.injEq, beq_iff_eq]
  omega

end Go.Proofs.Ytcahjpkmldmjdaa
