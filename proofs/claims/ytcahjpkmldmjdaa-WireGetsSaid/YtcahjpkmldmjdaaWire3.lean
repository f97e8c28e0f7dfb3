/-
  The walks of what gets numbers.
-/
import Derived.Test.YtcahjpkmldmjdaaWire1
import Derived.Laws.BitsLemmas
namespace Go.Proofs.Ytcahjpkmldmjdaa
open Go Ab

/-- The number that bytes spell, the lowest first. -/
def leV : List Int → Int
  | [] => 0
  | b :: l => b + 256 * leV l

theorem leV_snoc : ∀ (l : List Int) (b : Int), leV (l ++ [b]) = leV l + b * 256 ^ l.length
  | [], b => by simp [leV]
  | c :: l, b => by
    simp only [List.cons_append, leV, leV_snoc l b, List.length_cons, Int.pow_succ]
    rw [Int.mul_add, Int.add_assoc, ← Int.mul_assoc 256 b, Int.mul_comm 256 b, Int.mul_assoc b, Int.mul_comm 256 (256 ^ l.length)]

theorem leV_range : ∀ (l : List Int), AreBytes l → 0 ≤ leV l ∧ leV l < 256 ^ l.length
  | [], _ => by simp [leV]
  | b :: l, h => by
    have h1 := h b (.head _)
    have h2 := leV_range l fun n hn => h n (.tail _ hn)
    simp only [leV, List.length_cons, Int.pow_succ]
    omega

theorem bits_or_comm (k : IntKind) (x y : Int) : bits .or k x y = bits .or k y x := by
  simp only [bits, BitVec.or_comm]

def getE (bs : List Int) (a : Int) (n : Nat) : Int := if a < 0 ∨ a > bs.length then 2 else if (bs.length : Int) - a < n then 4 else 0
def getV (bs : List Int) (a : Int) (n : Nat) : Int := if getE bs a n = 0 then leV ((bs.drop a.toNat).take n) else 0
def getA (bs : List Int) (a : Int) (n : Nat) : Int := if getE bs a n = 0 then a + n else 0

theorem wrap_u16 (n : Int) : IntKind.u16.wrap n = n % 65536 := by simp [IntKind.wrap, IntKind.bits, IntKind.signed]
theorem wrap_u64 (n : Int) : IntKind.u64.wrap n = n % 18446744073709551616 := by simp [IntKind.wrap, IntKind.bits, IntKind.signed]

theorem wraps_u16' (n : Int) (h₀ : 0 ≤ n) (h₁ : n < 2 ^ 16) : IntKind.u16.wrap n = n := by rw [wrap_u16]; omega
theorem wraps_u32' (n : Int) (h₀ : 0 ≤ n) (h₁ : n < 2 ^ 32) : IntKind.u32.wrap n = n := by rw [IntKind.wrap_u32]; omega
theorem wraps_u64' (n : Int) (h₀ : 0 ≤ n) (h₁ : n < 2 ^ 64) : IntKind.u64.wrap n = n := by rw [wrap_u64]; omega

theorem or_step (k : IntKind) (hk : ∀ n : Int, 0 ≤ n → n < 2 ^ k.bits → k.wrap n = n) (c b : Int) (i : Nat) (hi : 8 * (i + 1) ≤ k.bits) (hc : 0 ≤ c ∧ c < 256 ^ i) (hb : 0 ≤ b ∧ b ≤ 255) :
    bitsI .or k c (k.wrap (k.wrap b * 2 ^ (min ((8 : Int) * i).toNat k.bits))) = c + b * 256 ^ i := by
  have e1 : (256 : Int) ^ i = 2 ^ (8 * i) := by rw [Int.pow_mul]; rfl
  have hp : (0 : Int) < 2 ^ (8 * i) := Int.pow_pos (by decide)
  have h8 : (2 : Int) ^ (8 * (i + 1)) = 256 * 2 ^ (8 * i) := by rw [Nat.mul_add, Nat.mul_one, Int.pow_add, Int.mul_comm]; rfl
  have hle : (2 : Int) ^ (8 * (i + 1)) ≤ 2 ^ k.bits := by exact_mod_cast Nat.pow_le_pow_right (by decide : 0 < 2) hi
  have h1 : k.wrap b = b := by
    refine hk b hb.1 (Int.lt_of_lt_of_le ?_ hle)
    rw [h8]
    omega
  have h2 : ((8 : Int) * i).toNat = 8 * i := by omega
  rw [h1, h2, Nat.min_eq_left (by omega)]
  have hlt : b * 2 ^ (8 * i) < 2 ^ k.bits := by
    refine Int.lt_of_lt_of_le ?_ hle
    rw [h8]
    exact Int.mul_lt_mul_of_pos_right (by omega) hp
  have hnn : 0 ≤ b * 2 ^ (8 * i) := Int.mul_nonneg hb.1 (Int.le_of_lt hp)
  rw [hk _ hnn hlt]
  rw [show bitsI .or k c (b * 2 ^ (8 * i)) = bits .or k (b * 2 ^ (8 * i)) c from bits_or_comm k _ _]
  rw [bits_join k k.bits (Nat.le_refl _) hk (8 * i) _ c hnn (by simp) hlt hc.1 (by rw [← e1]; exact hc.2) (by
    refine Int.lt_of_lt_of_le ?_ hle
    rw [h8]
    have := hc.2
    rw [e1] at this
    omega)]
  rw [e1]
  omega

set_option maxRecDepth 100000 in
theorem can64 (bs : List Int) (hbs : AreBytes bs) (a : Int) (n : Nat) (ha : -9223372036854775808 ≤ a ∧ a ≤ 9223372036854775807) (hn : n ≤ 4) :
    Ab.Can Try.prog 64 [.sl 5 .ro (bytesP bs), .int .i64 a, .int .i64 n] H0 (.tup [.int .u32 (getV bs a n), .int .i64 (getA bs a n), .int .i64 (getE bs a n)]) H0 := by
  refine can_of tabOK mix Try.call64 Try.func64 rfl (by kernel_rfl) (by show _ ≤ 48; simp) fun hl => ?_
  have hl : (bytesP bs).length ≤ 9223372036854775807 := hl _ (.head _) _ (.head _) _ _ _ rfl
  have hbl : (bytesP bs).length = bs.length := by simp
  have bad : ∀ e : Int, getE bs a n = e → e ≠ 0 → (PV.tup [.int .u32 0, .int .i64 0, .int .i64 e]) = .tup [.int .u32 (getV bs a n), .int .i64 (getA bs a n), .int .i64 (getE bs a n)] := by
    intro e he h0
    rw [getV, getA, he, if_neg h0, if_neg h0]
  repeat' (first | refine .nil ?_ | refine .seq ?_ | refine .region ?_ | refine .move ?_ | refine .assign ?_ | refine .add ?_ | refine .sub ?_ | refine .mul ?_ | refine .val ?_ | refine .val ?_ (hc := by omega) | refine .skip ?_ | refine .brT ?_ | refine .brF ?_ | refine .condT ?_ | refine .condF ?_ | refine .block ?_ | refine .exit (.hit ?_) | refine .exit (.miss (.hit ?_)) | refine .exit (.miss (.miss (.hit ?_))) | refine .wr ?_ | refine .lit1 ?_ | fail)
  refine .caseG (fun h => ?_) (fun h => ?_)
  · have h := of_decide_eq_true h
    repeat' (first | refine .nil ?_ | refine .seq ?_ | refine .region ?_ | refine .move ?_ | refine .assign ?_ | refine .add ?_ | refine .sub ?_ | refine .mul ?_ | refine .val ?_ | refine .val ?_ (hc := by omega) | refine .skip ?_ | refine .brT ?_ | refine .brF ?_ | refine .condT ?_ | refine .condF ?_ | refine .block ?_ | refine .exit (.hit ?_) | refine .exit (.miss (.hit ?_)) | refine .exit (.miss (.miss (.hit ?_))) | refine .wr ?_ | refine .lit1 ?_ | fail)
    refine .ret ?_
    exact fin_plain rfl (bad 2 (by rw [getE, if_pos (.inl h)]) (by decide)) rfl
  · have h := of_decide_eq_false h
    repeat' (first | refine .nil ?_ | refine .seq ?_ | refine .region ?_ | refine .move ?_ | refine .assign ?_ | refine .add ?_ | refine .sub ?_ | refine .mul ?_ | refine .val ?_ | refine .val ?_ (hc := by omega) | refine .skip ?_ | refine .brT ?_ | refine .brF ?_ | refine .condT ?_ | refine .condF ?_ | refine .block ?_ | refine .exit (.hit ?_) | refine .exit (.miss (.hit ?_)) | refine .exit (.miss (.miss (.hit ?_))) | refine .wr ?_ | refine .lit1 ?_ | fail)
    refine .cond (fun h2 => ?_) (fun h2 => ?_)
    · have h2 := of_decide_eq_true h2
      repeat' (first | refine .nil ?_ | refine .seq ?_ | refine .region ?_ | refine .move ?_ | refine .assign ?_ | refine .add ?_ | refine .sub ?_ | refine .mul ?_ | refine .val ?_ | refine .val ?_ (hc := by omega) | refine .skip ?_ | refine .brT ?_ | refine .brF ?_ | refine .condT ?_ | refine .condF ?_ | refine .block ?_ | refine .exit (.hit ?_) | refine .exit (.miss (.hit ?_)) | refine .exit (.miss (.miss (.hit ?_))) | refine .wr ?_ | refine .lit1 ?_ | fail)
      refine .ret ?_
      exact fin_plain rfl (bad 2 (by rw [getE, if_pos (.inr (by omega))]) (by decide)) rfl
    · have h2 := of_decide_eq_false h2
      repeat' (first | refine .nil ?_ | refine .seq ?_ | refine .region ?_ | refine .move ?_ | refine .assign ?_ | refine .add ?_ | refine .sub ?_ | refine .mul ?_ | refine .val ?_ | refine .val ?_ (hc := by omega) | refine .skip ?_ | refine .brT ?_ | refine .brF ?_ | refine .condT ?_ | refine .condF ?_ | refine .block ?_ | refine .exit (.hit ?_) | refine .exit (.miss (.hit ?_)) | refine .exit (.miss (.miss (.hit ?_))) | refine .wr ?_ | refine .lit1 ?_ | fail)
      refine .cond (fun h3 => ?_) (fun h3 => ?_)
      · have h3 := of_decide_eq_true h3
        repeat' (first | refine .nil ?_ | refine .seq ?_ | refine .region ?_ | refine .move ?_ | refine .assign ?_ | refine .add ?_ | refine .sub ?_ | refine .mul ?_ | refine .val ?_ | refine .val ?_ (hc := by omega) | refine .skip ?_ | refine .brT ?_ | refine .brF ?_ | refine .condT ?_ | refine .condF ?_ | refine .block ?_ | refine .exit (.hit ?_) | refine .exit (.miss (.hit ?_)) | refine .exit (.miss (.miss (.hit ?_))) | refine .wr ?_ | refine .lit1 ?_ | fail)
        refine .ret ?_
        exact fin_plain rfl (bad 4 (by rw [getE, if_neg (by omega), if_pos (by omega)]) (by decide)) rfl
      · have h3 := of_decide_eq_false h3
        have he : getE bs a n = 0 := by rw [getE, if_neg (by omega), if_neg (by omega)]
        repeat' (first | refine .nil ?_ | refine .seq ?_ | refine .region ?_ | refine .move ?_ | refine .assign ?_ | refine .add ?_ | refine .sub ?_ | refine .mul ?_ | refine .val ?_ | refine .val ?_ (hc := by omega) | refine .skip ?_ | refine .brT ?_ | refine .brF ?_ | refine .condT ?_ | refine .condF ?_ | refine .block ?_ | refine .exit (.hit ?_) | refine .exit (.miss (.hit ?_)) | refine .exit (.miss (.miss (.hit ?_))) | refine .wr ?_ | refine .lit1 ?_ | fail)
        refine .loop (fun m T => ∃ (c : Int) (i : Nat), T = St.of [(0, .sl 5 .ro (bytesP bs)), (1, .int .i64 a), (2, .int .i64 n), (9, .int .u32 c), (27, .int .i64 n), (28, .int .i64 i)] [] ∧ i ≤ n ∧ c = leV ((bs.drop a.toNat).take i) ∧ m = n - i) _ _
          ⟨_, 0, rfl, Nat.zero_le _, rfl, rfl⟩ (le_of (.cons rfl (.cons rfl (.cons rfl (.cons rfl (.cons rfl (.cons rfl .nil)))))) .nil) ?_
        rintro m T ⟨c, i, rfl, hi, hc, hm⟩
        repeat' (first | refine .nil ?_ | refine .seq ?_ | refine .region ?_ | refine .move ?_ | refine .assign ?_ | refine .add ?_ | refine .sub ?_ | refine .mul ?_ | refine .val ?_ | refine .val ?_ (hc := by omega) | refine .skip ?_ | refine .brT ?_ | refine .brF ?_ | refine .condT ?_ | refine .condF ?_ | refine .block ?_ | refine .exit (.hit ?_) | refine .exit (.miss (.hit ?_)) | refine .exit (.miss (.miss (.hit ?_))) | refine .wr ?_ | refine .lit1 ?_ | fail)
        refine .cond (fun h4 => ?_) (fun h4 => ?_)
        · have h4 := of_decide_eq_true h4
          have hib : a.toNat + i < bs.length := by omega
          have hq : (a + (i : Int)).toNat = a.toNat + i := by omega
          have hbb := hbs _ (List.getElem_mem hib)
          repeat' (first | refine .nil ?_ | refine .seq ?_ | refine .region ?_ | refine .move ?_ | refine .assign ?_ | refine .add ?_ | refine .sub ?_ | refine .mul ?_ | refine .val ?_ | refine .val ?_ (hc := by omega) | refine .skip ?_ | refine .brT ?_ | refine .brF ?_ | refine .condT ?_ | refine .condF ?_ | refine .block ?_ | refine .exit (.hit ?_) | refine .exit (.miss (.hit ?_)) | refine .exit (.miss (.miss (.hit ?_))) | refine .wr ?_ | refine .lit1 ?_ | fail)
          refine .val ?_ (hc := by exact ⟨rfl, by omega, by omega⟩)
          refine .loadE (y := .int .u8 bs[a.toNat + i]) ?_ (hy := by rw [hq]; simp [hib])
          repeat' (first | refine .nil ?_ | refine .seq ?_ | refine .region ?_ | refine .move ?_ | refine .assign ?_ | refine .add ?_ | refine .sub ?_ | refine .mul ?_ | refine .val ?_ | refine .val ?_ (hc := by omega) | refine .skip ?_ | refine .brT ?_ | refine .brF ?_ | refine .condT ?_ | refine .condF ?_ | refine .block ?_ | refine .exit (.hit ?_) | refine .exit (.miss (.hit ?_)) | refine .exit (.miss (.miss (.hit ?_))) | refine .wr ?_ | refine .lit1 ?_ | fail)
          have hd : ((bs.drop a.toNat).take i).length = i := by simp; omega
          have hcr : 0 ≤ c ∧ c < 256 ^ i := by
            have := leV_range ((bs.drop a.toNat).take i) fun n hn => hbs n (List.mem_of_mem_drop (List.mem_of_mem_take hn))
            rw [hd] at this
            rw [hc]
            exact this
          refine ⟨_, _, ?_, ⟨_, i + 1, rfl, ?_, ?_, rfl⟩, (le_of (.cons rfl (.cons rfl (.cons rfl (.cons rfl (.cons rfl (.cons rfl .nil)))))) .nil)⟩
          · omega
          · omega
          · refine (or_step .u32 wraps_u32' c bs[a.toNat + i] i (by show _ ≤ 32; omega) hcr hbb).trans ?_
            have hlt : i < (bs.drop a.toNat).length := by simp; omega
            rw [List.take_add_one, List.getElem?_eq_getElem hlt]
            simp only [Option.toList, leV_snoc, hd, List.getElem_drop, hc]
        · have h4 := of_decide_eq_false h4
          have hin : i = n := by omega
          repeat' (first | refine .nil ?_ | refine .seq ?_ | refine .region ?_ | refine .move ?_ | refine .assign ?_ | refine .add ?_ | refine .sub ?_ | refine .mul ?_ | refine .val ?_ | refine .val ?_ (hc := by omega) | refine .skip ?_ | refine .brT ?_ | refine .brF ?_ | refine .condT ?_ | refine .condF ?_ | refine .block ?_ | refine .exit (.hit ?_) | refine .exit (.miss (.hit ?_)) | refine .exit (.miss (.miss (.hit ?_))) | refine .wr ?_ | refine .lit1 ?_ | fail)
          refine .ret ?_
          refine fin_plain rfl ?_ rfl
          have e1 : c = getV bs a n := by rw [getV, he, if_pos rfl, hc, hin]
          have e2 : a + (n : Int) = getA bs a n := by rw [getA, he, if_pos rfl]
          rw [← e1, ← e2, he]
          rfl

set_option maxRecDepth 100000 in
theorem can65 (bs : List Int) (hbs : AreBytes bs) (a : Int) (n : Nat) (ha : -9223372036854775808 ≤ a ∧ a ≤ 9223372036854775807) (hn : n ≤ 2) :
    Ab.Can Try.prog 65 [.sl 5 .ro (bytesP bs), .int .i64 a, .int .i64 n] H0 (.tup [.int .u16 (getV bs a n), .int .i64 (getA bs a n), .int .i64 (getE bs a n)]) H0 := by
  refine can_of tabOK mix Try.call65 Try.func65 rfl (by kernel_rfl) (by show _ ≤ 48; simp) fun hl => ?_
  have hl : (bytesP bs).length ≤ 9223372036854775807 := hl _ (.head _) _ (.head _) _ _ _ rfl
  have hbl : (bytesP bs).length = bs.length := by simp
  have bad : ∀ e : Int, getE bs a n = e → e ≠ 0 → (PV.tup [.int .u16 0, .int .i64 0, .int .i64 e]) = .tup [.int .u16 (getV bs a n), .int .i64 (getA bs a n), .int .i64 (getE bs a n)] := by
    intro e he h0
    rw [getV, getA, he, if_neg h0, if_neg h0]
  repeat' (first | refine .nil ?_ | refine .seq ?_ | refine .region ?_ | refine .move ?_ | refine .assign ?_ | refine .add ?_ | refine .sub ?_ | refine .mul ?_ | refine .val ?_ | refine .val ?_ (hc := by omega) | refine .skip ?_ | refine .brT ?_ | refine .brF ?_ | refine .condT ?_ | refine .condF ?_ | refine .block ?_ | refine .exit (.hit ?_) | refine .exit (.miss (.hit ?_)) | refine .exit (.miss (.miss (.hit ?_))) | refine .wr ?_ | refine .lit1 ?_ | fail)
  refine .caseG (fun h => ?_) (fun h => ?_)
  · have h := of_decide_eq_true h
    repeat' (first | refine .nil ?_ | refine .seq ?_ | refine .region ?_ | refine .move ?_ | refine .assign ?_ | refine .add ?_ | refine .sub ?_ | refine .mul ?_ | refine .val ?_ | refine .val ?_ (hc := by omega) | refine .skip ?_ | refine .brT ?_ | refine .brF ?_ | refine .condT ?_ | refine .condF ?_ | refine .block ?_ | refine .exit (.hit ?_) | refine .exit (.miss (.hit ?_)) | refine .exit (.miss (.miss (.hit ?_))) | refine .wr ?_ | refine .lit1 ?_ | fail)
    refine .ret ?_
    exact fin_plain rfl (bad 2 (by rw [getE, if_pos (.inl h)]) (by decide)) rfl
  · have h := of_decide_eq_false h
    repeat' (first | refine .nil ?_ | refine .seq ?_ | refine .region ?_ | refine .move ?_ | refine .assign ?_ | refine .add ?_ | refine .sub ?_ | refine .mul ?_ | refine .val ?_ | refine .val ?_ (hc := by omega) | refine .skip ?_ | refine .brT ?_ | refine .brF ?_ | refine .condT ?_ | refine .condF ?_ | refine .block ?_ | refine .exit (.hit ?_) | refine .exit (.miss (.hit ?_)) | refine .exit (.miss (.miss (.hit ?_))) | refine .wr ?_ | refine .lit1 ?_ | fail)
    refine .cond (fun h2 => ?_) (fun h2 => ?_)
    · have h2 := of_decide_eq_true h2
      repeat' (first | refine .nil ?_ | refine .seq ?_ | refine .region ?_ | refine .move ?_ | refine .assign ?_ | refine .add ?_ | refine .sub ?_ | refine .mul ?_ | refine .val ?_ | refine .val ?_ (hc := by omega) | refine .skip ?_ | refine .brT ?_ | refine .brF ?_ | refine .condT ?_ | refine .condF ?_ | refine .block ?_ | refine .exit (.hit ?_) | refine .exit (.miss (.hit ?_)) | refine .exit (.miss (.miss (.hit ?_))) | refine .wr ?_ | refine .lit1 ?_ | fail)
      refine .ret ?_
      exact fin_plain rfl (bad 2 (by rw [getE, if_pos (.inr (by omega))]) (by decide)) rfl
    · have h2 := of_decide_eq_false h2
      repeat' (first | refine .nil ?_ | refine .seq ?_ | refine .region ?_ | refine .move ?_ | refine .assign ?_ | refine .add ?_ | refine .sub ?_ | refine .mul ?_ | refine .val ?_ | refine .val ?_ (hc := by omega) | refine .skip ?_ | refine .brT ?_ | refine .brF ?_ | refine .condT ?_ | refine .condF ?_ | refine .block ?_ | refine .exit (.hit ?_) | refine .exit (.miss (.hit ?_)) | refine .exit (.miss (.miss (.hit ?_))) | refine .wr ?_ | refine .lit1 ?_ | fail)
      refine .cond (fun h3 => ?_) (fun h3 => ?_)
      · have h3 := of_decide_eq_true h3
        repeat' (first | refine .nil ?_ | refine .seq ?_ | refine .region ?_ | refine .move ?_ | refine .assign ?_ | refine .add ?_ | refine .sub ?_ | refine .mul ?_ | refine .val ?_ | refine .val ?_ (hc := by omega) | refine .skip ?_ | refine .brT ?_ | refine .brF ?_ | refine .condT ?_ | refine .condF ?_ | refine .block ?_ | refine .exit (.hit ?_) | refine .exit (.miss (.hit ?_)) | refine .exit (.miss (.miss (.hit ?_))) | refine .wr ?_ | refine .lit1 ?_ | fail)
        refine .ret ?_
        exact fin_plain rfl (bad 4 (by rw [getE, if_neg (by omega), if_pos (by omega)]) (by decide)) rfl
      · have h3 := of_decide_eq_false h3
        have he : getE bs a n = 0 := by rw [getE, if_neg (by omega), if_neg (by omega)]
        repeat' (first | refine .nil ?_ | refine .seq ?_ | refine .region ?_ | refine .move ?_ | refine .assign ?_ | refine .add ?_ | refine .sub ?_ | refine .mul ?_ | refine .val ?_ | refine .val ?_ (hc := by omega) | refine .skip ?_ | refine .brT ?_ | refine .brF ?_ | refine .condT ?_ | refine .condF ?_ | refine .block ?_ | refine .exit (.hit ?_) | refine .exit (.miss (.hit ?_)) | refine .exit (.miss (.miss (.hit ?_))) | refine .wr ?_ | refine .lit1 ?_ | fail)
        refine .loop (fun m T => ∃ (c : Int) (i : Nat), T = St.of [(0, .sl 5 .ro (bytesP bs)), (1, .int .i64 a), (2, .int .i64 n), (9, .int .u16 c), (27, .int .i64 n), (28, .int .i64 i)] [] ∧ i ≤ n ∧ c = leV ((bs.drop a.toNat).take i) ∧ m = n - i) _ _
          ⟨_, 0, rfl, Nat.zero_le _, rfl, rfl⟩ (le_of (.cons rfl (.cons rfl (.cons rfl (.cons rfl (.cons rfl (.cons rfl .nil)))))) .nil) ?_
        rintro m T ⟨c, i, rfl, hi, hc, hm⟩
        repeat' (first | refine .nil ?_ | refine .seq ?_ | refine .region ?_ | refine .move ?_ | refine .assign ?_ | refine .add ?_ | refine .sub ?_ | refine .mul ?_ | refine .val ?_ | refine .val ?_ (hc := by omega) | refine .skip ?_ | refine .brT ?_ | refine .brF ?_ | refine .condT ?_ | refine .condF ?_ | refine .block ?_ | refine .exit (.hit ?_) | refine .exit (.miss (.hit ?_)) | refine .exit (.miss (.miss (.hit ?_))) | refine .wr ?_ | refine .lit1 ?_ | fail)
        refine .cond (fun h4 => ?_) (fun h4 => ?_)
        · have h4 := of_decide_eq_true h4
          have hib : a.toNat + i < bs.length := by omega
          have hq : (a + (i : Int)).toNat = a.toNat + i := by omega
          have hbb := hbs _ (List.getElem_mem hib)
          repeat' (first | refine .nil ?_ | refine .seq ?_ | refine .region ?_ | refine .move ?_ | refine .assign ?_ | refine .add ?_ | refine .sub ?_ | refine .mul ?_ | refine .val ?_ | refine .val ?_ (hc := by omega) | refine .skip ?_ | refine .brT ?_ | refine .brF ?_ | refine .condT ?_ | refine .condF ?_ | refine .block ?_ | refine .exit (.hit ?_) | refine .exit (.miss (.hit ?_)) | refine .exit (.miss (.miss (.hit ?_))) | refine .wr ?_ | refine .lit1 ?_ | fail)
          refine .val ?_ (hc := by exact ⟨rfl, by omega, by omega⟩)
          refine .loadE (y := .int .u8 bs[a.toNat + i]) ?_ (hy := by rw [hq]; simp [hib])
          repeat' (first | refine .nil ?_ | refine .seq ?_ | refine .region ?_ | refine .move ?_ | refine .assign ?_ | refine .add ?_ | refine .sub ?_ | refine .mul ?_ | refine .val ?_ | refine .val ?_ (hc := by omega) | refine .skip ?_ | refine .brT ?_ | refine .brF ?_ | refine .condT ?_ | refine .condF ?_ | refine .block ?_ | refine .exit (.hit ?_) | refine .exit (.miss (.hit ?_)) | refine .exit (.miss (.miss (.hit ?_))) | refine .wr ?_ | refine .lit1 ?_ | fail)
          have hd : ((bs.drop a.toNat).take i).length = i := by simp; omega
          have hcr : 0 ≤ c ∧ c < 256 ^ i := by
            have := leV_range ((bs.drop a.toNat).take i) fun n hn => hbs n (List.mem_of_mem_drop (List.mem_of_mem_take hn))
            rw [hd] at this
            rw [hc]
            exact this
          refine ⟨_, _, ?_, ⟨_, i + 1, rfl, ?_, ?_, rfl⟩, (le_of (.cons rfl (.cons rfl (.cons rfl (.cons rfl (.cons rfl (.cons rfl .nil)))))) .nil)⟩
          · omega
          · omega
          · refine (or_step .u16 wraps_u16' c bs[a.toNat + i] i (by show _ ≤ 16; omega) hcr hbb).trans ?_
            have hlt : i < (bs.drop a.toNat).length := by simp; omega
            rw [List.take_add_one, List.getElem?_eq_getElem hlt]
            simp only [Option.toList, leV_snoc, hd, List.getElem_drop, hc]
        · have h4 := of_decide_eq_false h4
          have hin : i = n := by omega
          repeat' (first | refine .nil ?_ | refine .seq ?_ | refine .region ?_ | refine .move ?_ | refine .assign ?_ | refine .add ?_ | refine .sub ?_ | refine .mul ?_ | refine .val ?_ | refine .val ?_ (hc := by omega) | refine .skip ?_ | refine .brT ?_ | refine .brF ?_ | refine .condT ?_ | refine .condF ?_ | refine .block ?_ | refine .exit (.hit ?_) | refine .exit (.miss (.hit ?_)) | refine .exit (.miss (.miss (.hit ?_))) | refine .wr ?_ | refine .lit1 ?_ | fail)
          refine .ret ?_
          refine fin_plain rfl ?_ rfl
          have e1 : c = getV bs a n := by rw [getV, he, if_pos rfl, hc, hin]
          have e2 : a + (n : Int) = getA bs a n := by rw [getA, he, if_pos rfl]
          rw [← e1, ← e2, he]
          rfl

set_option maxRecDepth 100000 in
theorem can67 (bs : List Int) (hbs : AreBytes bs) (a : Int) (n : Nat) (ha : -9223372036854775808 ≤ a ∧ a ≤ 9223372036854775807) (hn : n ≤ 8) :
    Ab.Can Try.prog 67 [.sl 5 .ro (bytesP bs), .int .i64 a, .int .i64 n] H0 (.tup [.int .u64 (getV bs a n), .int .i64 (getA bs a n), .int .i64 (getE bs a n)]) H0 := by
  refine can_of tabOK mix Try.call67 Try.func67 rfl (by kernel_rfl) (by show _ ≤ 48; simp) fun hl => ?_
  have hl : (bytesP bs).length ≤ 9223372036854775807 := hl _ (.head _) _ (.head _) _ _ _ rfl
  have hbl : (bytesP bs).length = bs.length := by simp
  have bad : ∀ e : Int, getE bs a n = e → e ≠ 0 → (PV.tup [.int .u64 0, .int .i64 0, .int .i64 e]) = .tup [.int .u64 (getV bs a n), .int .i64 (getA bs a n), .int .i64 (getE bs a n)] := by
    intro e he h0
    rw [getV, getA, he, if_neg h0, if_neg h0]
  repeat' (first | refine .nil ?_ | refine .seq ?_ | refine .region ?_ | refine .move ?_ | refine .assign ?_ | refine .add ?_ | refine .sub ?_ | refine .mul ?_ | refine .val ?_ | refine .val ?_ (hc := by omega) | refine .skip ?_ | refine .brT ?_ | refine .brF ?_ | refine .condT ?_ | refine .condF ?_ | refine .block ?_ | refine .exit (.hit ?_) | refine .exit (.miss (.hit ?_)) | refine .exit (.miss (.miss (.hit ?_))) | refine .wr ?_ | refine .lit1 ?_ | fail)
  refine .caseG (fun h => ?_) (fun h => ?_)
  · have h := of_decide_eq_true h
    repeat' (first | refine .nil ?_ | refine .seq ?_ | refine .region ?_ | refine .move ?_ | refine .assign ?_ | refine .add ?_ | refine .sub ?_ | refine .mul ?_ | refine .val ?_ | refine .val ?_ (hc := by omega) | refine .skip ?_ | refine .brT ?_ | refine .brF ?_ | refine .condT ?_ | refine .condF ?_ | refine .block ?_ | refine .exit (.hit ?_) | refine .exit (.miss (.hit ?_)) | refine .exit (.miss (.miss (.hit ?_))) | refine .wr ?_ | refine .lit1 ?_ | fail)
    refine .ret ?_
    exact fin_plain rfl (bad 2 (by rw [getE, if_pos (.inl h)]) (by decide)) rfl
  · have h := of_decide_eq_false h
    repeat' (first | refine .nil ?_ | refine .seq ?_ | refine .region ?_ | refine .move ?_ | refine .assign ?_ | refine .add ?_ | refine .sub ?_ | refine .mul ?_ | refine .val ?_ | refine .val ?_ (hc := by omega) | refine .skip ?_ | refine .brT ?_ | refine .brF ?_ | refine .condT ?_ | refine .condF ?_ | refine .block ?_ | refine .exit (.hit ?_) | refine .exit (.miss (.hit ?_)) | refine .exit (.miss (.miss (.hit ?_))) | refine .wr ?_ | refine .lit1 ?_ | fail)
    refine .cond (fun h2 => ?_) (fun h2 => ?_)
    · have h2 := of_decide_eq_true h2
      repeat' (first | refine .nil ?_ | refine .seq ?_ | refine .region ?_ | refine .move ?_ | refine .assign ?_ | refine .add ?_ | refine .sub ?_ | refine .mul ?_ | refine .val ?_ | refine .val ?_ (hc := by omega) | refine .skip ?_ | refine .brT ?_ | refine .brF ?_ | refine .condT ?_ | refine .condF ?_ | refine .block ?_ | refine .exit (.hit ?_) | refine .exit (.miss (.hit ?_)) | refine .exit (.miss (.miss (.hit ?_))) | refine .wr ?_ | refine .lit1 ?_ | fail)
      refine .ret ?_
      exact fin_plain rfl (bad 2 (by rw [getE, if_pos (.inr (by omega))]) (by decide)) rfl
    · have h2 := of_decide_eq_false h2
      repeat' (first | refine .nil ?_ | refine .seq ?_ | refine .region ?_ | refine .move ?_ | refine .assign ?_ | refine .add ?_ | refine .sub ?_ | refine .mul ?_ | refine .val ?_ | refine .val ?_ (hc := by omega) | refine .skip ?_ | refine .brT ?_ | refine .brF ?_ | refine .condT ?_ | refine .condF ?_ | refine .block ?_ | refine .exit (.hit ?_) | refine .exit (.miss (.hit ?_)) | refine .exit (.miss (.miss (.hit ?_))) | refine .wr ?_ | refine .lit1 ?_ | fail)
      refine .cond (fun h3 => ?_) (fun h3 => ?_)
      · have h3 := of_decide_eq_true h3
        repeat' (first | refine .nil ?_ | refine .seq ?_ | refine .region ?_ | refine .move ?_ | refine .assign ?_ | refine .add ?_ | refine .sub ?_ | refine .mul ?_ | refine .val ?_ | refine .val ?_ (hc := by omega) | refine .skip ?_ | refine .brT ?_ | refine .brF ?_ | refine .condT ?_ | refine .condF ?_ | refine .block ?_ | refine .exit (.hit ?_) | refine .exit (.miss (.hit ?_)) | refine .exit (.miss (.miss (.hit ?_))) | refine .wr ?_ | refine .lit1 ?_ | fail)
        refine .ret ?_
        exact fin_plain rfl (bad 4 (by rw [getE, if_neg (by omega), if_pos (by omega)]) (by decide)) rfl
      · have h3 := of_decide_eq_false h3
        have he : getE bs a n = 0 := by rw [getE, if_neg (by omega), if_neg (by omega)]
        repeat' (first | refine .nil ?_ | refine .seq ?_ | refine .region ?_ | refine .move ?_ | refine .assign ?_ | refine .add ?_ | refine .sub ?_ | refine .mul ?_ | refine .val ?_ | refine .val ?_ (hc := by omega) | refine .skip ?_ | refine .brT ?_ | refine .brF ?_ | refine .condT ?_ | refine .condF ?_ | refine .block ?_ | refine .exit (.hit ?_) | refine .exit (.miss (.hit ?_)) | refine .exit (.miss (.miss (.hit ?_))) | refine .wr ?_ | refine .lit1 ?_ | fail)
        refine .loop (fun m T => ∃ (c : Int) (i : Nat), T = St.of [(0, .sl 5 .ro (bytesP bs)), (1, .int .i64 a), (2, .int .i64 n), (9, .int .u64 c), (27, .int .i64 n), (28, .int .i64 i)] [] ∧ i ≤ n ∧ c = leV ((bs.drop a.toNat).take i) ∧ m = n - i) _ _
          ⟨_, 0, rfl, Nat.zero_le _, rfl, rfl⟩ (le_of (.cons rfl (.cons rfl (.cons rfl (.cons rfl (.cons rfl (.cons rfl .nil)))))) .nil) ?_
        rintro m T ⟨c, i, rfl, hi, hc, hm⟩
        repeat' (first | refine .nil ?_ | refine .seq ?_ | refine .region ?_ | refine .move ?_ | refine .assign ?_ | refine .add ?_ | refine .sub ?_ | refine .mul ?_ | refine .val ?_ | refine .val ?_ (hc := by omega) | refine .skip ?_ | refine .brT ?_ | refine .brF ?_ | refine .condT ?_ | refine .condF ?_ | refine .block ?_ | refine .exit (.hit ?_) | refine .exit (.miss (.hit ?_)) | refine .exit (.miss (.miss (.hit ?_))) | refine .wr ?_ | refine .lit1 ?_ | fail)
        refine .cond (fun h4 => ?_) (fun h4 => ?_)
        · have h4 := of_decide_eq_true h4
          have hib : a.toNat + i < bs.length := by omega
          have hq : (a + (i : Int)).toNat = a.toNat + i := by omega
          have hbb := hbs _ (List.getElem_mem hib)
          repeat' (first | refine .nil ?_ | refine .seq ?_ | refine .region ?_ | refine .move ?_ | refine .assign ?_ | refine .add ?_ | refine .sub ?_ | refine .mul ?_ | refine .val ?_ | refine .val ?_ (hc := by omega) | refine .skip ?_ | refine .brT ?_ | refine .brF ?_ | refine .condT ?_ | refine .condF ?_ | refine .block ?_ | refine .exit (.hit ?_) | refine .exit (.miss (.hit ?_)) | refine .exit (.miss (.miss (.hit ?_))) | refine .wr ?_ | refine .lit1 ?_ | fail)
          refine .val ?_ (hc := by exact ⟨rfl, by omega, by omega⟩)
          refine .loadE (y := .int .u8 bs[a.toNat + i]) ?_ (hy := by rw [hq]; simp [hib])
          repeat' (first | refine .nil ?_ | refine .seq ?_ | refine .region ?_ | refine .move ?_ | refine .assign ?_ | refine .add ?_ | refine .sub ?_ | refine .mul ?_ | refine .val ?_ | refine .val ?_ (hc := by omega) | refine .skip ?_ | refine .brT ?_ | refine .brF ?_ | refine .condT ?_ | refine .condF ?_ | refine .block ?_ | refine .exit (.hit ?_) | refine .exit (.miss (.hit ?_)) | refine .exit (.miss (.miss (.hit ?_))) | refine .wr ?_ | refine .lit1 ?_ | fail)
          have hd : ((bs.drop a.toNat).take i).length = i := by simp; omega
          have hcr : 0 ≤ c ∧ c < 256 ^ i := by
            have := leV_range ((bs.drop a.toNat).take i) fun n hn => hbs n (List.mem_of_mem_drop (List.mem_of_mem_take hn))
            rw [hd] at this
            rw [hc]
            exact this
          refine ⟨_, _, ?_, ⟨_, i + 1, rfl, ?_, ?_, rfl⟩, (le_of (.cons rfl (.cons rfl (.cons rfl (.cons rfl (.cons rfl (.cons rfl .nil)))))) .nil)⟩
          · omega
          · omega
          · refine (or_step .u64 wraps_u64' c bs[a.toNat + i] i (by show _ ≤ 64; omega) hcr hbb).trans ?_
            have hlt : i < (bs.drop a.toNat).length := by simp; omega
            rw [List.take_add_one, List.getElem?_eq_getElem hlt]
            simp only [Option.toList, leV_snoc, hd, List.getElem_drop, hc]
        · have h4 := of_decide_eq_false h4
          have hin : i = n := by omega
          repeat' (first | refine .nil ?_ | refine .seq ?_ | refine .region ?_ | refine .move ?_ | refine .assign ?_ | refine .add ?_ | refine .sub ?_ | refine .mul ?_ | refine .val ?_ | refine .val ?_ (hc := by omega) | refine .skip ?_ | refine .brT ?_ | refine .brF ?_ | refine .condT ?_ | refine .condF ?_ | refine .block ?_ | refine .exit (.hit ?_) | refine .exit (.miss (.hit ?_)) | refine .exit (.miss (.miss (.hit ?_))) | refine .wr ?_ | refine .lit1 ?_ | fail)
          refine .ret ?_
          refine fin_plain rfl ?_ rfl
          have e1 : c = getV bs a n := by rw [getV, he, if_pos rfl, hc, hin]
          have e2 : a + (n : Int) = getA bs a n := by rw [getA, he, if_pos rfl]
          rw [← e1, ← e2, he]
          rfl

end Go.Proofs.Ytcahjpkmldmjdaa
