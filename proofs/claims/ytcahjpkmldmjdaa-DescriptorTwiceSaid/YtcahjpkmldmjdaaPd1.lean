/-
  Plain laws: the sum is linear over exclusive or, and no change of one byte is lost.
-/
import Derived.Test.YtcahjpkmldmjdaaPc
namespace Go.Proofs.Ytcahjpkmldmjdaa
open Go Ab

def N8 (v : BitVec 8) : Int := (v.toNat : Int)
def N32 (v : BitVec 32) : Int := (v.toNat : Int)

theorem xor8 (a b : BitVec 8) : bitsI .xor .u8 (N8 a) (N8 b) = N8 (a ^^^ b) := by
  simp only [bitsI, bits, N8, BitVec.ofInt_natCast]
  rw [wraps_u8 _ (by omega) (by
    have := (BitVec.ofNat 8 a.toNat ^^^ BitVec.ofNat 8 b.toNat : BitVec 8).isLt
    exact_mod_cast this)]
  simp only [BitVec.toNat_xor, BitVec.toNat_ofNat]
  rw [show IntKind.u8.bits = 8 from rfl, Nat.mod_eq_of_lt a.isLt, Nat.mod_eq_of_lt b.isLt]
theorem xor32 (a b : BitVec 32) : bitsI .xor .u32 (N32 a) (N32 b) = N32 (a ^^^ b) := by
  simp only [bitsI, bits, N32, BitVec.ofInt_natCast]
  rw [wraps_u32' _ (by omega) (by
    have := (BitVec.ofNat 32 a.toNat ^^^ BitVec.ofNat 32 b.toNat : BitVec 32).isLt
    exact_mod_cast this)]
  simp only [BitVec.toNat_xor, BitVec.toNat_ofNat]
  rw [show IntKind.u32.bits = 32 from rfl, Nat.mod_eq_of_lt a.isLt, Nat.mod_eq_of_lt b.isLt]
theorem and32 (a b : BitVec 32) : bitsI .and .u32 (N32 a) (N32 b) = N32 (a &&& b) := by
  simp only [bitsI, bits, N32, BitVec.ofInt_natCast]
  rw [wraps_u32' _ (by omega) (by
    have := (BitVec.ofNat 32 a.toNat &&& BitVec.ofNat 32 b.toNat : BitVec 32).isLt
    exact_mod_cast this)]
  simp only [BitVec.toNat_and, BitVec.toNat_ofNat]
  rw [show IntKind.u32.bits = 32 from rfl, Nat.mod_eq_of_lt a.isLt, Nat.mod_eq_of_lt b.isLt]

def cs (r : BitVec 32) : BitVec 32 := if r.getLsbD 0 then (r >>> 1) ^^^ 3988292384#32 else r >>> 1
def cs8 : Nat → BitVec 32 → BitVec 32
  | 0, r => r
  | d + 1, r => cs8 d (cs r)
def crcB (r : BitVec 32) : List (BitVec 8) → BitVec 32
  | [] => r
  | b :: l => crcB (cs8 8 (r ^^^ b.setWidth 32)) l
def itB : Nat → BitVec 32 → BitVec 32
  | 0, e => e
  | k + 1, e => itB k (cs8 8 e)

theorem crcStep_is (r : BitVec 32) : crcStep (N32 r) = N32 (cs r) := by
  have h1 : bitsI .and .u32 (N32 r) 1 = N32 (r &&& 1#32) := and32 r 1#32
  have h2 : iShrT .u32 (N32 r) 1 = N32 (r >>> 1) := by
    show (N32 r).fdiv 2 = _
    simp only [N32, BitVec.toNat_ushiftRight, Nat.shiftRight_eq_div_pow]
    rw [Int.fdiv_eq_ediv_of_nonneg _ (by decide)]
    rfl
  have h3 : bitsI .xor .u32 (N32 (r >>> 1)) 3988292384 = N32 ((r >>> 1) ^^^ 3988292384#32) := xor32 _ 3988292384#32
  have h4 : (N32 (r &&& 1#32) == 1) = r.getLsbD 0 := by
    have e : (r &&& 1#32).toNat = r.toNat % 2 := by simp [Nat.and_one_is_mod]
    have e2 : r.getLsbD 0 = decide (r.toNat % 2 = 1) := by simp [BitVec.getLsbD, Nat.testBit_zero]
    rw [N32, e, e2]
    by_cases h : r.toNat % 2 = 1
    · rw [h]; rfl
    · rw [show r.toNat % 2 = 0 by omega]; rfl
  rw [crcStep, h1, h2, h3, h4, cs]
  split <;> rfl

theorem crcSteps_is : ∀ (d : Nat) (r : BitVec 32), crcSteps d (N32 r) = N32 (cs8 d r)
  | 0, _ => rfl
  | d + 1, r => by rw [crcSteps, crcStep_is, crcSteps_is d, cs8]

theorem crcI_is : ∀ (l : List (BitVec 8)) (r : BitVec 32), crcI (N32 r) (l.map N8) = N32 (crcB r l)
  | [], _ => rfl
  | b :: l, r => by
    have h : IntKind.wrap .u32 (N8 b) = N32 (b.setWidth 32) := by
      have := b.isLt
      rw [wrap_u32, N8, N32, BitVec.toNat_setWidth]
      omega
    rw [List.map_cons, crcI, crcByte, h, xor32, crcSteps_is, crcI_is l, crcB]

theorem if_xor (a b : Bool) (x y p : BitVec 32) : (if (a ^^ b) = true then (x ^^^ y) ^^^ p else x ^^^ y) = (if a = true then x ^^^ p else x) ^^^ (if b = true then y ^^^ p else y) := by
  cases a <;> cases b <;> apply BitVec.eq_of_getLsbD_eq <;> intro i _ <;> simp <;> (cases x.getLsbD i <;> cases y.getLsbD i <;> cases p.getLsbD i <;> simp)

theorem cs_xor (a b : BitVec 32) : cs (a ^^^ b) = cs a ^^^ cs b := by
  unfold cs
  rw [BitVec.getLsbD_xor]
  have h : (a ^^^ b) >>> 1 = (a >>> 1) ^^^ (b >>> 1) := by
    apply BitVec.eq_of_getLsbD_eq
    intro i _
    simp
  rw [h]
  exact if_xor _ _ _ _ _

theorem cs8_xor : ∀ (d : Nat) (a b : BitVec 32), cs8 d (a ^^^ b) = cs8 d a ^^^ cs8 d b
  | 0, _, _ => rfl
  | d + 1, a, b => by rw [cs8, cs_xor, cs8_xor d]; rfl

theorem cs_inj {a : BitVec 32} (h : cs a = 0#32) : a = 0#32 := by
  have hb : ∀ i, (cs a).getLsbD i = false := fun i => by rw [h]; simp
  unfold cs at hb
  by_cases h0 : a.getLsbD 0 = true
  · exfalso
    have := hb 31
    rw [if_pos h0] at this
    simp at this
  · rw [if_neg h0] at hb
    apply BitVec.eq_of_getLsbD_eq
    intro i hi
    cases i with
    | zero => simpa using h0
    | succ i =>
      have := hb i
      rw [BitVec.getLsbD_ushiftRight, Nat.add_comm] at this
      rw [this]
      simp

theorem cs8_inj : ∀ (d : Nat) {a : BitVec 32}, cs8 d a = 0#32 → a = 0#32
  | 0, _, h => h
  | d + 1, _, h => cs_inj (cs8_inj d h)
theorem itB_inj : ∀ (k : Nat) {a : BitVec 32}, itB k a = 0#32 → a = 0#32
  | 0, _, h => h
  | k + 1, _, h => cs8_inj 8 (itB_inj k h)

theorem crcB_xor : ∀ (l : List (BitVec 8)) (r e : BitVec 32), crcB (r ^^^ e) l = crcB r l ^^^ itB l.length e
  | [], _, _ => rfl
  | b :: l, r, e => by
    rw [crcB, show r ^^^ e ^^^ b.setWidth 32 = (r ^^^ b.setWidth 32) ^^^ e by rw [BitVec.xor_assoc, BitVec.xor_comm e, BitVec.xor_assoc], cs8_xor, crcB_xor l]
    rfl

theorem crcB_set : ∀ (l : List (BitVec 8)) (r : BitVec 32) (i : Nat) (h : i < l.length) (d : BitVec 8), crcB r (l.set i (l[i] ^^^ d)) = crcB r l ^^^ itB (l.length - i) (d.setWidth 32)
  | b :: l, r, 0, _, d => by
    simp only [List.set_cons_zero, List.getElem_cons_zero, crcB, BitVec.setWidth_xor]
    rw [← BitVec.xor_assoc, cs8_xor, crcB_xor]
    rfl
  | b :: l, r, i + 1, h, d => by
    simp only [List.set_cons_succ, List.getElem_cons_succ, crcB]
    rw [crcB_set l _ i (by simpa using h) d, List.length_cons, Nat.add_sub_add_right]

theorem crcS_is (l : List (BitVec 8)) : crcS (l.map N8) = N32 (4294967295#32 ^^^ crcB 4294967295#32 l) := by
  show bitsI .xor .u32 (IntKind.max .u32) (crcI (N32 4294967295#32) (l.map N8)) = _
  rw [crcI_is]
  exact xor32 4294967295#32 _

theorem N32_inj {a b : BitVec 32} (h : N32 a = N32 b) : a = b := BitVec.eq_of_toNat_eq (by unfold N32 at h; omega)

theorem bytes_N8 (b : List Int) (h : AreBytes b) : ∃ l : List (BitVec 8), b = l.map N8 := by
  induction b with
  | nil => exact ⟨[], rfl⟩
  | cons x b ih =>
    obtain ⟨l, rfl⟩ := ih fun n hn => h n (.tail _ hn)
    have := h x (.head _)
    refine ⟨BitVec.ofNat 8 x.toNat :: l, ?_⟩
    simp only [List.map_cons, N8, BitVec.toNat_ofNat]
    rw [Nat.mod_eq_of_lt (by omega)]
    congr 1
    omega

theorem wrap_N8 (x : Int) : ∃ d : BitVec 8, IntKind.wrap .u8 x = N8 d ∧ (x % 256 ≠ 0 → d ≠ 0#8) := by
  refine ⟨BitVec.ofNat 8 (x % 256).toNat, ?_, fun h e => ?_⟩
  · rw [wrap_u8_mod, N8, BitVec.toNat_ofNat, Nat.mod_eq_of_lt (by omega)]
    omega
  · have := congrArg BitVec.toNat e
    rw [BitVec.toNat_ofNat, Nat.mod_eq_of_lt (by omega)] at this
    simp at this
    omega

theorem set_N8 (l : List (BitVec 8)) (i : Nat) (d : BitVec 8) : (l.map N8).set i (N8 d) = (l.set i d).map N8 := List.map_set.symm

end Go.Proofs.Ytcahjpkmldmjdaa
