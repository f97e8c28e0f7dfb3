/-
  Plain laws: numbers in range, parts of lists, bytes of numbers. No program in sight.
-/
import Derived.Test.YtcahjpkmldmjdaaAb32
import Derived.Laws.BitsLemmas
import Derived.IntWalk
namespace Go.Proofs.Ytcahjpkmldmjdaa
open Go Ab

/-! ### partial operations that are carried out -/

theorem w64_id {x : Int} (h : -9223372036854775808 ≤ x ∧ x ≤ 9223372036854775807) : w64 x = x := wrap_i64 h.1 h.2
theorem lAt_eq {α : Type} {l : List α} {i : Int} (h : 0 ≤ i ∧ i < l.length) : lAt l i = some (l[i.toNat]'(by omega)) := by
  rw [lAt, if_pos h.1, List.getElem?_eq_getElem]
theorem lAt_nat {α : Type} {l : List α} {i : Nat} (h : i < l.length) : lAt l (i : Int) = some l[i] := by
  rw [lAt, if_pos (by omega), Int.toNat_natCast, List.getElem?_eq_getElem h]
theorem lPart_eq {α : Type} {l : List α} {a b : Int} (h : 0 ≤ a ∧ a ≤ b ∧ b ≤ l.length) : lPart l a b = some ((l.take b.toNat).drop a.toNat) := if_pos h
theorem lApp_eq {α : Type} {l m : List α} (h : l.length + m.length ≤ 30000000000) : lApp l m = some (l ++ m) := if_pos h
theorem lMake_eq {α : Type} {a b : Int} {z : α} (h : 0 ≤ a ∧ a ≤ b ∧ b ≤ 30000000000) : lMake a b z = some (List.replicate a.toNat z) := if_pos h
theorem iRem_eq {a b : Int} (h : b ≠ 0) : iRem a b = some (a.tmod b) := if_neg h
theorem iDiv_eq {k : IntKind} {a b : Int} (h : b ≠ 0) : iDiv k a b = some (k.wrap (a.tdiv b)) := if_neg h

theorem wrap_u8_mod (x : Int) : IntKind.u8.wrap x = x % 256 := IntKind.wrap_u8 x
theorem wrap_u16 (n : Int) : IntKind.u16.wrap n = n % 65536 := by simp [IntKind.wrap, IntKind.bits, IntKind.signed]
theorem wrap_u32 (n : Int) : IntKind.u32.wrap n = n % 4294967296 := by simp [IntKind.wrap, IntKind.bits, IntKind.signed]
theorem wrap_u64 (n : Int) : IntKind.u64.wrap n = n % 18446744073709551616 := by simp [IntKind.wrap, IntKind.bits, IntKind.signed]
theorem wraps_u16' (n : Int) (h₀ : 0 ≤ n) (h₁ : n < 2 ^ 16) : IntKind.u16.wrap n = n := by rw [wrap_u16]; omega
theorem wraps_u32' (n : Int) (h₀ : 0 ≤ n) (h₁ : n < 2 ^ 32) : IntKind.u32.wrap n = n := by rw [wrap_u32]; omega
theorem wraps_u64' (n : Int) (h₀ : 0 ≤ n) (h₁ : n < 2 ^ 64) : IntKind.u64.wrap n = n := by rw [wrap_u64]; omega

theorem sEq_iff {a b : ByteArray} : sEq a b = decide (a = b) := str_beq a b
theorem sEq_self (a : ByteArray) : sEq a a = true := by simp [sEq_iff]

theorem u64_of {n : Int} (h : (Lit.int .u64 n).wf = true) : 0 ≤ n ∧ n < 18446744073709551616 := by
  simp [Lit.wf, IntKind.min, IntKind.max, IntKind.signed, IntKind.bits] at h
  omega
theorem u16_of {n : Int} (h : (Lit.int .u16 n).wf = true) : 0 ≤ n ∧ n < 65536 := by
  simp [Lit.wf, IntKind.min, IntKind.max, IntKind.signed, IntKind.bits] at h
  omega
theorem u8_of {n : Int} (h : (Lit.int .u8 n).wf = true) : 0 ≤ n ∧ n < 256 := by
  simp [Lit.wf, IntKind.min, IntKind.max, IntKind.signed, IntKind.bits] at h
  omega
theorem i64_rng {n : Int} (h : (Lit.int .i64 n).wf = true) : -9223372036854775808 ≤ n ∧ n ≤ 9223372036854775807 := by
  simp [Lit.wf, IntKind.min, IntKind.max, IntKind.signed, IntKind.bits] at h
  omega

/-! ### bytes of a number, the lowest first -/

def leN : Nat → Int → List Int
  | 0, _ => []
  | n + 1, x => x % 256 :: leN n (x / 256)

theorem leN_length : ∀ (n : Nat) (x : Int), (leN n x).length = n
  | 0, _ => rfl
  | n + 1, x => by simp [leN, leN_length n]

theorem leN_bytes : ∀ (n : Nat) (x : Int), AreBytes (leN n x)
  | 0, _ => fun n h => by cases h
  | n + 1, x => by
    intro m hm
    rw [leN] at hm
    rcases List.mem_cons.1 hm with rfl | h
    · omega
    · exact leN_bytes n _ m h

theorem fdiv256 (x : Int) : x.fdiv 256 = x / 256 := Int.fdiv_eq_ediv_of_nonneg x (by decide)

theorem shr_le (x : Int) (i : Nat) (hi : 8 * i ≤ 64) : x.fdiv (2 ^ (min ((8 : Int) * i).toNat (IntKind.bits .u64))) = x / 256 ^ i := by
  rw [Int.fdiv_eq_ediv_of_nonneg _ (Int.le_of_lt (Int.pow_pos (by decide))), show ((8 : Int) * i).toNat = 8 * i by omega, show min (8 * i) (IntKind.bits .u64) = 8 * i from Nat.min_eq_left hi, Int.pow_mul]
  rfl

/-- The number that bytes spell, the lowest first. -/
def leV : List Int → Int
  | [] => 0
  | b :: l => b + 256 * leV l

theorem leV_snoc : ∀ (l : List Int) (b : Int), leV (l ++ [b]) = leV l + b * 256 ^ l.length
  | [], b => by simp [leV]
  | c :: l, b => by
    simp only [List.cons_append, leV, leV_snoc l b, List.length_cons, Int.pow_succ]
    rw [Int.mul_add, Int.add_assoc, ← Int.mul_assoc 256 b, Int.mul_comm 256 b, Int.mul_assoc b, Int.mul_comm 256 (256 ^ l.length)]

theorem leV_range : ∀ (l : List Int), AreBytes l → 0 ≤ leV l ∧ leV l < 256 ^ l.length
  | [], _ => by simp [leV]
  | b :: l, h => by
    have h1 := h b (.head _)
    have h2 := leV_range l fun n hn => h n (.tail _ hn)
    simp only [leV, List.length_cons, Int.pow_succ]
    omega

theorem leV_leN : ∀ (n : Nat) (x : Int), 0 ≤ x → leV (leN n x) = x % 256 ^ n
  | 0, x, _ => by simp [leV, leN]
  | n + 1, x, h => by
    rw [leN, leV, leV_leN n (x / 256) (Int.ediv_nonneg h (by decide)), Int.pow_succ, Int.mul_comm (256 ^ n) 256]
    have hp : (0 : Int) < 256 ^ n := Int.pow_pos (by decide)
    have e := Int.emod_def x (256 * 256 ^ n)
    rw [← Int.ediv_ediv_of_nonneg (by decide : (0 : Int) ≤ 256)] at e
    have e2 := Int.emod_def (x / 256) (256 ^ n)
    have e3 := Int.emod_def x 256
    rw [e, e2, e3, Int.mul_sub, Int.mul_assoc]
    omega

theorem bits_or_comm (k : IntKind) (x y : Int) : bits .or k x y = bits .or k y x := by
  simp only [bits, BitVec.or_comm]

theorem or_step (k : IntKind) (hk : ∀ n : Int, 0 ≤ n → n < 2 ^ k.bits → k.wrap n = n) (c b : Int) (i : Nat) (hi : 8 * (i + 1) ≤ k.bits) (hc : 0 ≤ c ∧ c < 256 ^ i) (hb : 0 ≤ b ∧ b ≤ 255) :
    bitsI .or k c (k.wrap (k.wrap b * 2 ^ (min ((8 : Int) * i).toNat k.bits))) = c + b * 256 ^ i := by
  have e1 : (256 : Int) ^ i = 2 ^ (8 * i) := by rw [Int.pow_mul]; rfl
  have hp : (0 : Int) < 2 ^ (8 * i) := Int.pow_pos (by decide)
  have h8 : (2 : Int) ^ (8 * (i + 1)) = 256 * 2 ^ (8 * i) := by rw [Nat.mul_add, Nat.mul_one, Int.pow_add, Int.mul_comm]; rfl
  have hle : (2 : Int) ^ (8 * (i + 1)) ≤ 2 ^ k.bits := by exact_mod_cast Nat.pow_le_pow_right (by decide : 0 < 2) hi
  have h1 : k.wrap b = b := by
    refine hk b hb.1 (Int.lt_of_lt_of_le ?_ hle)
    rw [h8]
    omega
  have h2 : ((8 : Int) * i).toNat = 8 * i := by omega
  rw [h1, h2, Nat.min_eq_left (by omega)]
  have hlt : b * 2 ^ (8 * i) < 2 ^ k.bits := by
    refine Int.lt_of_lt_of_le ?_ hle
    rw [h8]
    exact Int.mul_lt_mul_of_pos_right (by omega) hp
  have hnn : 0 ≤ b * 2 ^ (8 * i) := Int.mul_nonneg hb.1 (Int.le_of_lt hp)
  rw [hk _ hnn hlt]
  rw [show bitsI .or k c (b * 2 ^ (8 * i)) = bits .or k (b * 2 ^ (8 * i)) c from bits_or_comm k _ _]
  rw [bits_join k k.bits (Nat.le_refl _) hk (8 * i) _ c hnn (by simp) hlt hc.1 (by rw [← e1]; exact hc.2) (by
    refine Int.lt_of_lt_of_le ?_ hle
    rw [h8]
    have := hc.2
    rw [e1] at this
    omega)]
  rw [e1]
  omega

theorem or_shift (v b : Int) (hv : 0 ≤ v ∧ v < 72057594037927936) (hb : 0 ≤ b ∧ b ≤ 255) : bitsI .or .u64 (iShlT .u64 v 8) (IntKind.u64.wrap b) = b + 256 * v := by
  have e : (2 : Int) ^ (min (8 : Int).toNat (IntKind.bits .u64)) = 256 := by decide
  rw [iShlT, e, wrap_u64, wrap_u64, Int.emod_eq_of_lt (by omega) (by omega), Int.emod_eq_of_lt (by omega) (by omega)]
  have := bits_join .u64 64 (Nat.le_refl _) wraps_u64' 8 (v * 256) b (by omega) (by show v * 256 % 256 = 0; omega) (by show _ < (18446744073709551616 : Int); omega) hb.1 (by show b < (256 : Int); omega) (by show b < (18446744073709551616 : Int); omega)
  rw [show bitsI .or .u64 (v * 256) b = bits .or .u64 (v * 256) b from rfl, this]
  omega

/-! ### what is read at a place -/

def getE (bs : List Int) (a : Int) (n : Nat) : Int := if a < 0 ∨ a > bs.length then 2 else if (bs.length : Int) - a < n then 4 else 0
def getV (bs : List Int) (a : Int) (n : Nat) : Int := if getE bs a n = 0 then leV ((bs.drop a.toNat).take n) else 0
def getA (bs : List Int) (a : Int) (n : Nat) : Int := if getE bs a n = 0 then a + n else 0

theorem getE_bad {bs : List Int} {a : Int} {n : Nat} (h : getE bs a n ≠ 0) : getV bs a n = 0 ∧ getA bs a n = 0 := by
  rw [getV, getA, if_neg h, if_neg h]; exact ⟨rfl, rfl⟩

theorem getE_ok {bs : List Int} {a : Int} {n : Nat} : getE bs a n = 0 ↔ 0 ≤ a ∧ a + n ≤ bs.length := by
  unfold getE
  (repeat' split) <;> omega

theorem pow256_mono {a b : Nat} (h : a ≤ b) : (256 : Int) ^ a ≤ 256 ^ b := by
  obtain ⟨c, rfl⟩ := Nat.exists_eq_add_of_le h
  rw [Int.pow_add]
  have h1 : (0 : Int) < 256 ^ c := Int.pow_pos (by decide)
  have h2 : (0 : Int) < 256 ^ a := Int.pow_pos (by decide)
  have := Int.mul_le_mul_of_nonneg_left (show (1 : Int) ≤ 256 ^ c by omega) (Int.le_of_lt h2)
  rw [Int.mul_one] at this
  exact this

theorem getV_range {bs : List Int} (hb : AreBytes bs) (a : Int) (n : Nat) : 0 ≤ getV bs a n ∧ getV bs a n < 256 ^ n := by
  unfold getV
  split
  · have := leV_range ((bs.drop a.toNat).take n) fun m hm => hb m (List.mem_of_mem_drop (List.mem_of_mem_take hm))
    refine ⟨this.1, Int.lt_of_lt_of_le this.2 ?_⟩
    exact pow256_mono (by rw [List.length_take]; omega)
  · exact ⟨Int.le_refl _, Int.pow_pos (by decide)⟩

theorem getE_shift (p d : List Int) (n : Nat) : getE (p ++ d) (p.length : Int) n = getE d 0 n := by
  unfold getE
  rw [List.length_append]
  (repeat' split) <;> first | rfl | omega

theorem getV_shift (p d : List Int) (n : Nat) : getV (p ++ d) (p.length : Int) n = getV d 0 n := by
  unfold getV
  rw [getE_shift, Int.toNat_natCast, List.drop_left]
  rfl

/-- Text behind its length. -/
def gtN (bs : List Int) (a : Int) : Int := bs[a.toNat]?.getD 0
def gtE (bs : List Int) (a : Int) : Int := if a < 0 ∨ a > bs.length then 2 else if a = bs.length then 4 else if gtN bs a > 64 then 3 else if (bs.length : Int) - a - 1 < gtN bs a then 4 else 0
def gtS (bs : List Int) (a : Int) : ByteArray := if gtE bs a = 0 then mkStr ((bs.take (a + 1 + gtN bs a).toNat).drop (a + 1).toNat) else ⟨#[]⟩
def gtA (bs : List Int) (a : Int) : Int := if gtE bs a = 0 then a + 1 + gtN bs a else 0

theorem gtN_range {d : List Int} (hd : AreBytes d) (a : Int) : 0 ≤ gtN d a ∧ gtN d a ≤ 255 := by
  unfold gtN
  cases h : d[a.toNat]? with
  | none => simp
  | some b => exact hd b (List.mem_of_getElem? h)

theorem gtN_shift (p d : List Int) : gtN (p ++ d) (p.length : Int) = gtN d 0 := by
  unfold gtN
  rw [Int.toNat_natCast, List.getElem?_append_right (Nat.le_refl _), Nat.sub_self]
  rfl

theorem gtE_shift (p d : List Int) : gtE (p ++ d) (p.length : Int) = gtE d 0 := by
  unfold gtE
  rw [gtN_shift, List.length_append]
  (repeat' split) <;> first | rfl | omega

theorem gtS_shift (p d : List Int) (hd : AreBytes d) : gtS (p ++ d) (p.length : Int) = gtS d 0 := by
  unfold gtS
  rw [gtE_shift, gtN_shift]
  have hr := gtN_range hd 0
  split
  · congr 1
    rw [show ((p.length : Int) + 1 + gtN d 0).toNat = p.length + (0 + 1 + gtN d 0).toNat by omega, show ((p.length : Int) + 1).toNat = p.length + (0 + 1 : Int).toNat by omega, List.take_length_add_append, List.drop_append]
    simp
  · rfl

theorem append_bytes {p d : List Int} (hp : AreBytes p) (hd : AreBytes d) : AreBytes (p ++ d) := by
  intro n hn
  rcases List.mem_append.1 hn with h | h
  · exact hp n h
  · exact hd n h

theorem cons_bytes {b : Int} {d : List Int} (hb : 0 ≤ b ∧ b ≤ 255) (hd : AreBytes d) : AreBytes (b :: d) := by
  intro n hn
  rcases List.mem_cons.1 hn with rfl | h
  · exact hb
  · exact hd n h

theorem nil_bytes : AreBytes [] := fun n h => by cases h
theorem take_bytes {d : List Int} (hd : AreBytes d) (k : Nat) : AreBytes (d.take k) := fun n h => hd n (List.mem_of_mem_take h)
theorem drop_bytes {d : List Int} (hd : AreBytes d) (k : Nat) : AreBytes (d.drop k) := fun n h => hd n (List.mem_of_mem_drop h)

theorem leN_leV : ∀ {l : List Int}, AreBytes l → leN l.length (leV l) = l
  | [], _ => rfl
  | b :: l, h => by
    have h1 := h b (.head _)
    have h2 := leN_leV (l := l) fun n hn => h n (.tail _ hn)
    rw [List.length_cons, leN, leV, show (b + 256 * leV l) % 256 = b by omega, show (b + 256 * leV l) / 256 = leV l by omega, h2]

theorem getV_at {l : List Int} {a n : Nat} (h : a + n ≤ l.length) : getV l (a : Int) n = leV ((l.drop a).take n) := by
  rw [getV, if_pos (getE_ok.2 (by omega)), Int.toNat_natCast]

theorem leV2 {k : Nat} (hk : k < 65536) : leV (leN 2 (k : Int)) = k := by
  rw [leV_leN 2 _ (by omega)]
  exact Int.emod_eq_of_lt (by omega) (by show (k : Int) < 65536; omega)

end Go.Proofs.Ytcahjpkmldmjdaa
