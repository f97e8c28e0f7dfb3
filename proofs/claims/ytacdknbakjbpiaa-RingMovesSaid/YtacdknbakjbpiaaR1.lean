/-
  Plain laws of the ring: what each function computes.
-/
import Derived.Test.YtacdknbakjbpiaaPa
import Derived.Test.YtacdknbakjbpiaaGb
namespace Go.Proofs.Ytacdknbakjbpiaa
open Go Ab

theorem iMin_eq (a b : Int) : iMin a b = min a b := by unfold iMin; split <;> omega
theorem iMax_eq (a b : Int) : iMax a b = max a b := by unfold iMax; split <;> omega

def BlkV (b : Block) : Prop := 1 ≤ b.Channels ∧ b.Channels ≤ 8 ∧ (b.Data.length : Int) % b.Channels = 0 ∧ (b.Data.length : Int) / b.Channels ≤ 65536 ∧ ∀ x ∈ b.Data, -8388608 ≤ x ∧ x ≤ 8388607
instance (b : Block) : Decidable (BlkV b) := by unfold BlkV; infer_instance

theorem f104_is {n : Nat} (x : Int) : f104 n x = some (decide (-8388608 ≤ x ∧ x ≤ 8388607)) := by
  rw [f104]
  by_cases h : x ≥ -8388608
  · rw [if_pos (by simpa using h)]
    congr 1
    simp only [decide_eq_decide]
    omega
  · rw [if_neg (by simpa using h), decide_eq_false (by omega)]
theorem f106_is {n : Nat} (x : Int) : f106 n x = some (decide (-8388608 ≤ x ∧ x ≤ 8388607)) := f104_is (n := n) x

theorem f70_l1_is {n : Nat} (b : Block) (hl : b.Data.length ≤ 9000000000000000000) (j : Unit → Option Bool) : ∀ (d m i : Nat), i + d = b.Data.length → d < m →
    f70_l1 n b j m (i : Int) = if ∀ x ∈ b.Data.drop i, -8388608 ≤ x ∧ x ≤ 8388607 then j () else some false := by
  intro d
  induction d with
  | zero =>
    intro m i h1 h2
    obtain ⟨m, rfl⟩ : ∃ q, m = q + 1 := ⟨m - 1, by omega⟩
    rw [f70_l1, if_neg (by simp; omega), if_pos]
    rw [List.drop_eq_nil_of_le (by omega)]
    intro x hx
    cases hx
  | succ d ih =>
    intro m i h1 h2
    obtain ⟨m, rfl⟩ : ∃ q, m = q + 1 := ⟨m - 1, by omega⟩
    rw [f70_l1, if_pos (by simp; omega), lAt_nat (by omega), Option.bind_some, f104_is, Option.bind_some]
    have hd : b.Data.drop i = b.Data[i] :: b.Data.drop (i + 1) := List.drop_eq_getElem_cons (by omega)
    by_cases h : -8388608 ≤ b.Data[i] ∧ b.Data[i] ≤ 8388607
    · rw [if_neg (by simpa using h), w64_id (by omega), show (i : Int) + 1 = ((i + 1 : Nat) : Int) by omega, ih _ _ (by omega) (by omega), hd]
      have : (∀ x ∈ b.Data[i] :: b.Data.drop (i + 1), -8388608 ≤ x ∧ x ≤ 8388607) ↔ (∀ x ∈ b.Data.drop (i + 1), -8388608 ≤ x ∧ x ≤ 8388607) :=
        ⟨fun hh x hx => hh x (.tail _ hx), fun hh x hx => by
          rcases List.mem_cons.1 hx with rfl | hx
          · exact h
          · exact hh x hx⟩
      simp only [this]
    · rw [if_pos (by rw [decide_eq_false h]; rfl), hd, if_neg]
      intro hh
      exact h (hh _ (.head _))

theorem f70_is {n : Nat} (b : Block) (hl : b.Data.length ≤ 9000000000000000000) (hn : b.Data.length < n) : f70 n b = some (decide (BlkV b)) := by
  rw [f70, joinK, joinK]
  by_cases c1 : b.Channels < 1
  · rw [if_pos (by simpa using c1), decide_eq_false (fun h => by have := h.1; omega)]
  rw [if_neg (by simpa using c1)]
  by_cases c2 : b.Channels > 8
  · rw [if_pos (by simpa using c2), decide_eq_false (fun h => by have := h.2.1; omega)]
  rw [if_neg (by simpa using c2), iRem_eq (by omega), Option.bind_some, Int.tmod_eq_emod_of_nonneg (by omega)]
  by_cases c3 : (b.Data.length : Int) % b.Channels = 0
  case neg => rw [if_pos (by simpa using c3), decide_eq_false (fun h => c3 h.2.2.1)]
  rw [if_neg (by simpa using c3), iDiv_eq (by omega), Option.bind_some, Int.tdiv_eq_ediv_of_nonneg (by omega)]
  have hq : (b.Data.length : Int) / b.Channels ≤ b.Data.length := Int.ediv_le_self _ (by omega)
  have hq0 : 0 ≤ (b.Data.length : Int) / b.Channels := Int.ediv_nonneg (by omega) (by omega)
  rw [wrap_i64 (by omega) (by omega)]
  dsimp only
  by_cases c4 : (b.Data.length : Int) / b.Channels > 65536
  · rw [if_pos (by simpa using c4), decide_eq_false (fun h => by have := h.2.2.2.1; omega)]
  rw [if_neg (by simpa using c4), joinK]
  have := f70_l1_is (n := n) b hl (fun _ => some true) b.Data.length n 0 (by omega) hn
  rw [show ((0 : Nat) : Int) = 0 from rfl] at this
  rw [this, List.drop_zero]
  split
  · rename_i h
    rw [decide_eq_true ⟨by omega, by omega, c3, by omega, h⟩]
  · rename_i h
    rw [decide_eq_false (fun hh => h hh.2.2.2.2)]

theorem f74_is {n : Nat} (b : Block) (hl : b.Data.length ≤ 9000000000000000000) (hn : b.Data.length < n) : f74 n b = some (decide (BlkV b)) := by
  rw [← f70_is b hl hn, f74, f70]
  have hloop : ∀ (j : Unit → Option Bool) (m : Nat) (i : Int), f74_l1 n b j m i = f70_l1 n b j m i := by
    intro j m
    induction m with
    | zero => intro i; rfl
    | succ m ih => intro i; rw [f74_l1, f70_l1]; simp only [ih]; rfl
  simp only [hloop]

/-! ### valid rings -/

def RngV (r : Ring) : Prop := 1 ≤ r.Capacity ∧ r.Capacity ≤ 65536 ∧ 0 ≤ r.Read ∧ r.Read ≤ r.Written ∧ r.Written ≤ 1125899906842624 ∧ BlkV ⟨r.Channels, r.Data⟩ ∧ r.Written - r.Read = (r.Data.length : Int) / r.Channels ∧ r.Written - r.Read ≤ r.Capacity
instance (r : Ring) : Decidable (RngV r) := by unfold RngV; infer_instance

theorem f31_is {n : Nat} (r : Ring) (hl : r.Data.length ≤ 9000000000000000000) (hn : r.Data.length < n) : f31 n r = some (decide (RngV r)) := by
  rw [f31, joinK, joinK]
  by_cases c1 : r.Capacity < 1
  · rw [if_pos (by simpa using c1), decide_eq_false (fun h => by have := h.1; omega)]
  rw [if_neg (by simpa using c1)]
  by_cases c2 : r.Capacity > 65536
  · rw [if_pos (by simpa using c2), decide_eq_false (fun h => by have := h.2.1; omega)]
  rw [if_neg (by simpa using c2)]
  by_cases c3 : r.Read < 0
  · rw [if_pos (by simpa using c3), decide_eq_false (fun h => by have := h.2.2.1; omega)]
  rw [if_neg (by simpa using c3)]
  by_cases c4 : r.Read > r.Written
  · rw [if_pos (by simpa using c4), decide_eq_false (fun h => by have := h.2.2.2.1; omega)]
  rw [if_neg (by simpa using c4)]
  by_cases c5 : r.Written > 1125899906842624
  · rw [if_pos (by simpa using c5), decide_eq_false (fun h => by have := h.2.2.2.2.1; omega)]
  rw [if_neg (by simpa using c5), f70_is _ hl hn, Option.bind_some]
  by_cases c6 : BlkV ⟨r.Channels, r.Data⟩
  case neg => rw [if_neg (by simpa using c6), decide_eq_false (fun h => c6 h.2.2.2.2.2.1)]
  have hq : (r.Data.length : Int) / r.Channels ≤ 65536 := c6.2.2.2.1
  have hc : 1 ≤ r.Channels := c6.1
  have hq0 : 0 ≤ (r.Data.length : Int) / r.Channels := Int.ediv_nonneg (by omega) (by omega)
  rw [if_pos (by simpa using c6), iDiv_eq (by omega), Option.bind_some, Int.tdiv_eq_ediv_of_nonneg (by omega), wrap_i64 (by omega) (by omega), w64_id (by omega)]
  by_cases c7 : r.Written - r.Read = (r.Data.length : Int) / r.Channels
  case neg => rw [if_neg (by simpa using c7), decide_eq_false (fun h => c7 h.2.2.2.2.2.2.1)]
  rw [if_pos (by simpa using c7)]
  exact congrArg some (decide_eq_decide.2 ⟨fun h => ⟨by omega, by omega, by omega, by omega, by omega, c6, c7, h⟩, fun h => h.2.2.2.2.2.2.2⟩)

theorem f32_is {n : Nat} (r : Ring) (hl : r.Data.length ≤ 9000000000000000000) (hn : r.Data.length < n) : f32 n r = some (decide (RngV r)) := by
  rw [f32]
  by_cases c1 : r.Capacity ≥ 1
  case neg => rw [if_neg (by simpa using c1), decide_eq_false (fun h => by have := h.1; omega)]
  rw [if_pos (by simpa using c1)]
  by_cases c2 : r.Capacity ≤ 65536
  case neg => rw [if_neg (by simpa using c2), decide_eq_false (fun h => by have := h.2.1; omega)]
  rw [if_pos (by simpa using c2)]
  by_cases c3 : r.Read ≥ 0
  case neg => rw [if_neg (by simpa using c3), decide_eq_false (fun h => by have := h.2.2.1; omega)]
  rw [if_pos (by simpa using c3)]
  by_cases c4 : r.Read ≤ r.Written
  case neg => rw [if_neg (by simpa using c4), decide_eq_false (fun h => by have := h.2.2.2.1; omega)]
  rw [if_pos (by simpa using c4)]
  by_cases c5 : r.Written ≤ 1125899906842624
  case neg => rw [if_neg (by simpa using c5), decide_eq_false (fun h => by have := h.2.2.2.2.1; omega)]
  rw [if_pos (by simpa using c5), f75, Option.bind_some, f74_is _ hl hn, Option.bind_some]
  by_cases c6 : BlkV ⟨r.Channels, r.Data⟩
  case neg => rw [if_neg (by simpa using c6), decide_eq_false (fun h => c6 h.2.2.2.2.2.1)]
  have hq : (r.Data.length : Int) / r.Channels ≤ 65536 := c6.2.2.2.1
  have hc : 1 ≤ r.Channels := c6.1
  have hq0 : 0 ≤ (r.Data.length : Int) / r.Channels := Int.ediv_nonneg (by omega) (by omega)
  rw [if_pos (by simpa using c6), iDiv_eq (by omega), Option.bind_some, Int.tdiv_eq_ediv_of_nonneg (by omega), wrap_i64 (by omega) (by omega), w64_id (by omega)]
  by_cases c7 : (r.Data.length : Int) / r.Channels = r.Written - r.Read
  case neg => rw [if_neg (by simpa using c7), decide_eq_false (fun h => c7 h.2.2.2.2.2.2.1.symm)]
  rw [if_pos (by simpa using c7)]
  exact congrArg some (decide_eq_decide.2 ⟨fun h => ⟨by omega, by omega, by omega, by omega, by omega, c6, c7.symm, h⟩, fun h => h.2.2.2.2.2.2.2⟩)

def flR (r : Ring) : Int := if RngV r then r.Written - r.Read else 0
theorem f18_is {n : Nat} (r : Ring) (hl : r.Data.length ≤ 9000000000000000000) (hn : r.Data.length < n) : f18 n r = some (flR r) := by
  rw [f18, f31_is _ hl hn, Option.bind_some, flR]
  by_cases h : RngV r
  · rw [if_neg (by simpa using h), if_pos h, w64_id (by have := h.2.2.1; have := h.2.2.2.1; have := h.2.2.2.2.1; omega)]
  · rw [if_pos (by simpa using h), if_neg h]
theorem f33_is {n : Nat} (r : Ring) (hl : r.Data.length ≤ 9000000000000000000) (hn : r.Data.length < n) : f33 n r = some (flR r) := by
  rw [f33, f32_is _ hl hn, Option.bind_some, flR]
  by_cases h : RngV r
  · rw [if_neg (by simpa using h), if_pos h, w64_id (by have := h.2.2.1; have := h.2.2.2.1; have := h.2.2.2.2.1; omega)]
  · rw [if_pos (by simpa using h), if_neg h]

def nwR (c k : Int) : Ring × Int := if RngV ⟨c, k, 0, 0, []⟩ then (⟨c, k, 0, 0, []⟩, 0) else (⟨0, 0, 0, 0, []⟩, 2)
theorem f15_is {n : Nat} (hn : 0 < n) (c k : Int) : f15 n c k = some (nwR c k) := by
  rw [f15, f31_is _ (by simp) (by simpa using hn), Option.bind_some, nwR]
  by_cases h : RngV ⟨c, k, 0, 0, []⟩
  · rw [if_neg (by simpa using h), if_pos h]
  · rw [if_pos (by simpa using h), if_neg h]
theorem f34_is {n : Nat} (hn : 0 < n) (c k : Int) : f34 n c k = some (nwR c k) := by
  rw [f34, f32_is _ (by simp) (by simpa using hn), Option.bind_some, nwR]
  by_cases h : RngV ⟨c, k, 0, 0, []⟩
  · rw [if_neg (by simpa using h), if_pos h]
  · rw [if_pos (by simpa using h), if_neg h]

theorem f105_is {n k : Nat} (hk : k ≤ 30000000000) : f105 n (k : Int) = some [] := by
  rw [f105, if_neg (by simp), joinK, show (0 : Int) - 0 = 0 by omega, w64_id (x := 0) (by omega), show (k : Int) - 0 = k by omega, w64_id (by omega)]
  by_cases h : 0 < k
  · rw [if_pos (by simp; omega), lZero, if_pos (by omega), Option.bind_some, lPart_eq (by simp), Option.bind_some]
    rfl
  · rw [if_neg (by simp; omega)]

theorem f71_is {n : Nat} (hn : 10 ≤ n) (a b : List Int) (h : a.length + b.length ≤ 1000000000) : f71 n [a, b] = some (a ++ b) := by
  obtain ⟨m, rfl⟩ : ∃ m, n = m + 3 := ⟨n - 3, by omega⟩
  rw [f71, joinK]
  have e0 : lAt [a, b] (0 : Int) = some a := rfl
  have e1 : lAt [a, b] (1 : Int) = some b := rfl
  have w1 : w64 (0 + 1) = 1 := rfl
  have w2 : w64 (1 + 1) = 2 := rfl
  rw [f71_l1, if_pos (by simp), e0, Option.bind_some, Int.zero_add, w64_id (x := (a.length : Int)) (by omega), if_neg (by simp), w1]
  rw [f71_l1, if_pos (by simp), e1, Option.bind_some, w64_id (x := (a.length : Int) + b.length) (by omega), if_neg (by simp; omega), w2]
  rw [f71_l1, if_neg (by simp), show (a.length : Int) + b.length = ((a.length + b.length : Nat) : Int) by omega, f105_is (by omega), Option.bind_some, joinK]
  rw [f71_l2, if_pos (by simp), e0, Option.bind_some, lApp_eq (by simp; omega), Option.bind_some, w1]
  rw [f71_l2, if_pos (by simp), e1, Option.bind_some, lApp_eq (by simp; omega), Option.bind_some, w2]
  rw [f71_l2, if_neg (by simp), List.nil_append]

/-! ### writing -/

def wA (b : Block) : Int := (b.Data.length : Int) / b.Channels
def wK (r : Ring) (b : Block) : Int := min (wA b) (r.Capacity - (r.Written - r.Read))
def wrR (r : Ring) (b : Block) : Ring × Int × Int :=
  if RngV r ∧ BlkV b then
    if b.Channels ≠ r.Channels then (⟨0, 0, 0, 0, []⟩, 0, 11)
    else if r.Written + wK r b > 1125899906842624 then (⟨0, 0, 0, 0, []⟩, 0, 2)
    else (⟨r.Channels, r.Capacity, r.Written + wK r b, r.Read, r.Data ++ b.Data.take (wK r b * b.Channels).toNat⟩, wA b - wK r b, 0)
  else (⟨0, 0, 0, 0, []⟩, 0, 1)

theorem BlkV.len {b : Block} (h : BlkV b) : (b.Data.length : Int) = wA b * b.Channels ∧ 0 ≤ wA b ∧ wA b ≤ 65536 ∧ b.Data.length ≤ 524288 := by
  obtain ⟨h1, h2, h3, h4, _⟩ := h
  have e := Int.mul_ediv_add_emod (b.Data.length : Int) b.Channels
  rw [h3, Int.add_zero, Int.mul_comm] at e
  have h5 : 0 ≤ wA b := Int.ediv_nonneg (by omega) (by omega)
  refine ⟨e.symm, h5, h4, ?_⟩
  have : wA b * b.Channels ≤ 65536 * 8 := Int.mul_le_mul h4 h2 (by omega) (by omega)
  have e' : (b.Data.length : Int) = wA b * b.Channels := e.symm
  omega

theorem mul_part {k q c l : Int} (h0 : 0 ≤ k) (h1 : k ≤ q) (hc : 0 ≤ c) (hl : l = q * c) : 0 ≤ k * c ∧ k * c ≤ l := by
  have h2 := Int.mul_nonneg h0 hc
  have h3 := Int.mul_le_mul_of_nonneg_right h1 hc
  omega

theorem wK_rng {r : Ring} {b : Block} (hr : RngV r) (hb : BlkV b) : 0 ≤ wK r b ∧ wK r b ≤ wA b := by
  have := hb.len
  have := hr.2.2.2.2.2.2.2
  unfold wK
  omega

theorem f35_is {n : Nat} (b : Block) (hl : b.Data.length ≤ 9000000000000000000) (hn : b.Data.length < n) (h : BlkV b) : f35 n b = some (wA b) := by
  have := h.len
  have h1 := h.1
  rw [f35, f74_is _ hl hn, Option.bind_some, if_neg (by simpa using h), iDiv_eq (by omega), Option.bind_some, Int.tdiv_eq_ediv_of_nonneg (by omega), show (b.Data.length : Int) / b.Channels = wA b from rfl, wrap_i64 (by omega) (by omega)]

theorem f16_is {n : Nat} (r : Ring) (b : Block) (hr : r.Data.length ≤ 100000000) (hb : b.Data.length ≤ 100000000) (hn : 10 ≤ n ∧ r.Data.length < n ∧ b.Data.length < n) : f16 n r b = some (wrR r b) := by
  rw [f16, joinK, joinK, f31_is _ (by simp; omega) (by simp; omega), Option.bind_some, wrR]
  by_cases h1 : RngV r
  case neg => rw [if_pos (by simpa using h1), if_neg (fun h => h1 h.1)]
  rw [if_neg (by simpa using h1), f70_is _ (by simp; omega) (by simp; omega), Option.bind_some]
  dsimp only
  by_cases h2 : BlkV b
  case neg => rw [if_pos (by simpa using h2), if_neg (fun h => h2 h.2)]
  rw [if_neg (by simpa using h2), if_pos (show RngV r ∧ BlkV b from ⟨h1, h2⟩)]
  by_cases h3 : b.Channels = r.Channels
  case neg => rw [if_pos (by simpa using h3), if_pos h3]
  rw [if_neg (by simpa using h3), if_neg (by simpa using h3)]
  have hl := h2.len
  have hk := wK_rng h1 h2
  have hc := h2.1
  obtain ⟨r1, r2, r3, r4, r5, r6, r7, r8⟩ := h1
  have h1 : RngV r := ⟨r1, r2, r3, r4, r5, r6, r7, r8⟩
  rw [iDiv_eq (by omega), Option.bind_some, Int.tdiv_eq_ediv_of_nonneg (by omega), show (b.Data.length : Int) / b.Channels = wA b from rfl, wrap_i64 (by omega) (by omega)]
  rw [f18_is _ (by simp; omega) (by simp; omega), Option.bind_some, flR, if_pos h1]
  dsimp only
  rw [w64_id (x := r.Capacity - (r.Written - r.Read)) (by omega), iMin_eq, show min (wA b) (r.Capacity - (r.Written - r.Read)) = wK r b from rfl, w64_id (x := r.Written + wK r b) (by omega)]
  by_cases h4 : r.Written + wK r b > 1125899906842624
  · rw [if_pos (by simpa using h4), if_pos h4]
  rw [if_neg (by simpa using h4), if_neg h4]
  have hm := mul_part hk.1 hk.2 (by omega) hl.1
  rw [w64_id (x := wK r b * b.Channels) (by omega), lPart_eq (by omega), Option.bind_some, show ((0 : Int).toNat) = 0 from rfl, List.drop_zero, f71_is hn.1 _ _ (by simp; omega), Option.bind_some, w64_id (x := wA b - wK r b) (by omega)]

theorem f27_is {n : Nat} (r : Ring) (b : Block) (hr : r.Data.length ≤ 100000000) (hb : b.Data.length ≤ 100000000) (hn : 10 ≤ n ∧ r.Data.length < n ∧ b.Data.length < n) : f27 n r b = some (wrR r b) := by
  rw [f27, joinK, joinK, f32_is _ (by simp; omega) (by simp; omega), Option.bind_some, wrR]
  by_cases h1 : RngV r
  case neg => rw [if_pos (by simpa using h1), if_neg (fun h => h1 h.1)]
  rw [if_neg (by simpa using h1), f74_is _ (by simp; omega) (by simp; omega), Option.bind_some]
  dsimp only
  by_cases h2 : BlkV b
  case neg => rw [if_pos (by simpa using h2), if_neg (fun h => h2 h.2)]
  rw [if_neg (by simpa using h2), if_pos (show RngV r ∧ BlkV b from ⟨h1, h2⟩)]
  by_cases h3 : b.Channels = r.Channels
  case neg => rw [if_pos (by simpa using h3), if_pos h3]
  rw [if_neg (by simpa using h3), if_neg (by simpa using h3)]
  have hl := h2.len
  have hk := wK_rng h1 h2
  have hc := h2.1
  obtain ⟨r1, r2, r3, r4, r5, r6, r7, r8⟩ := h1
  have h1 : RngV r := ⟨r1, r2, r3, r4, r5, r6, r7, r8⟩
  rw [f35_is _ (by omega) (by omega) h2, Option.bind_some]
  rw [f33_is _ (by simp; omega) (by simp; omega), Option.bind_some, flR, if_pos h1]
  dsimp only
  rw [show wA ⟨b.Channels, b.Data⟩ = wA b from rfl, w64_id (x := r.Capacity - (r.Written - r.Read)) (by omega), iMin_eq, show min (wA b) (r.Capacity - (r.Written - r.Read)) = wK r b from rfl, w64_id (x := r.Written + wK r b) (by omega)]
  by_cases h4 : r.Written + wK r b > 1125899906842624
  · rw [if_pos (by simpa using h4), if_pos h4]
  rw [if_neg (by simpa using h4), if_neg h4]
  have hm := mul_part hk.1 hk.2 (by omega) hl.1
  rw [lApp_eq (by simp; omega), Option.bind_some, List.nil_append, w64_id (x := wK r b * b.Channels) (by omega), lPart_eq (by omega), Option.bind_some, show ((0 : Int).toNat) = 0 from rfl, List.drop_zero, lApp_eq (by simp; omega), Option.bind_some, w64_id (x := wA b - wK r b) (by omega)]

/-! ### reading -/

def rK (r : Ring) (m : Int) : Int := min m (r.Written - r.Read)
def rdR (r : Ring) (m : Int) : Block × Int × Ring × Int :=
  if RngV r then
    if m < 0 ∨ m > 65536 then (⟨0, []⟩, 0, ⟨0, 0, 0, 0, []⟩, 2)
    else (⟨r.Channels, r.Data.take (rK r m * r.Channels).toNat ++ List.replicate ((m - rK r m) * r.Channels).toNat 0⟩, m - rK r m, ⟨r.Channels, r.Capacity, r.Written, r.Read + rK r m, r.Data.drop (rK r m * r.Channels).toNat⟩, 0)
  else (⟨0, []⟩, 0, ⟨0, 0, 0, 0, []⟩, 1)

theorem RngV.len {r : Ring} (h : RngV r) : (r.Data.length : Int) = (r.Written - r.Read) * r.Channels ∧ 1 ≤ r.Channels ∧ r.Channels ≤ 8 ∧ r.Data.length ≤ 524288 := by
  have := h.2.2.2.2.2.1.len
  obtain ⟨h1, h2, h3, h4, h5, h6, h7, h8⟩ := h
  refine ⟨?_, h6.1, h6.2.1, this.2.2.2⟩
  rw [h7]
  exact this.1

theorem rd_parts {r : Ring} {m : Int} (h : RngV r) (h1 : ¬ (m < 0 ∨ m > 65536)) : 0 ≤ rK r m ∧ rK r m ≤ m ∧ rK r m ≤ r.Written - r.Read ∧ 0 ≤ rK r m * r.Channels ∧ rK r m * r.Channels ≤ r.Data.length ∧ 0 ≤ (m - rK r m) * r.Channels ∧ m * r.Channels = rK r m * r.Channels + (m - rK r m) * r.Channels ∧ m * r.Channels ≤ 524288 := by
  have hl := h.len
  obtain ⟨r1, r2, r3, r4, r5, r6, r7, r8⟩ := h
  have hk : 0 ≤ rK r m ∧ rK r m ≤ m ∧ rK r m ≤ r.Written - r.Read := by unfold rK; omega
  have hm := mul_part hk.1 hk.2.2 (by omega) hl.1
  have h2 : 0 ≤ (m - rK r m) * r.Channels := Int.mul_nonneg (by omega) (by omega)
  have h3 : m * r.Channels = rK r m * r.Channels + (m - rK r m) * r.Channels := by rw [Int.sub_mul]; omega
  have h4 : m * r.Channels ≤ 65536 * 8 := Int.mul_le_mul (by omega) hl.2.2.1 (by omega) (by omega)
  exact ⟨hk.1, hk.2.1, hk.2.2, hm.1, hm.2, h2, h3, by omega⟩

theorem f17_is {n : Nat} (r : Ring) (m : Int) (hr : r.Data.length ≤ 100000000) (hn : r.Data.length < n) : f17 n r m = some (rdR r m) := by
  rw [f17, f31_is _ (by simp; omega) (by simp; omega), Option.bind_some, rdR]
  by_cases h1 : RngV r
  case neg => rw [if_pos (by simpa using h1), if_neg h1]
  rw [if_neg (by simpa using h1), if_pos h1, joinK, joinK]
  by_cases h2 : m < 0
  · rw [if_pos (by simpa using h2), if_pos (.inl h2)]
  rw [if_neg (by simpa using h2)]
  by_cases h3 : m > 65536
  · rw [if_pos (by simpa using h3), if_pos (.inr h3)]
  rw [if_neg (by simpa using h3), if_neg (by omega)]
  obtain ⟨p1, p2, p3, p4, p5, p6, p7, p8⟩ := rd_parts h1 (show ¬ (m < 0 ∨ m > 65536) by omega)
  have hv := h1
  obtain ⟨r1, r2, r3, r4, r5, r6, r7, r8⟩ := h1
  rw [f18_is _ (by simp; omega) (by simp; omega), Option.bind_some, flR, if_pos hv]
  dsimp only
  rw [w64_id (x := m * r.Channels) (by omega), lMake_eq (by omega), Option.bind_some, iMin_eq, show min m (r.Written - r.Read) = rK r m from rfl, w64_id (x := rK r m * r.Channels) (by omega), lPart_eq (by omega), Option.bind_some, lPart_eq (by omega), Option.bind_some]
  rw [f72, lApp_eq (by simp; omega), Option.bind_some, Option.bind_some, show ((0 : Int).toNat) = 0 from rfl, List.drop_zero, List.nil_append, Int.toNat_natCast, List.take_length, w64_id (x := m - rK r m) (by omega), w64_id (x := r.Read + rK r m) (by omega)]
  have e1 : (r.Data.take (rK r m * r.Channels).toNat).length = (rK r m * r.Channels).toNat := by rw [List.length_take]; omega
  have e2 : cpL (List.replicate (m * r.Channels).toNat (0 : Int)) (List.take (List.replicate (m * r.Channels).toNat (0 : Int)).length (r.Data.take (rK r m * r.Channels).toNat)) = r.Data.take (rK r m * r.Channels).toNat ++ List.replicate ((m - rK r m) * r.Channels).toNat 0 := by
    rw [cpL, List.length_replicate, List.take_of_length_le (l := r.Data.take (rK r m * r.Channels).toNat) (by omega), List.take_of_length_le (by omega), e1, List.drop_replicate]
    congr 2
    omega
  rw [e2]

theorem f28_is {n : Nat} (r : Ring) (m : Int) (hr : r.Data.length ≤ 100000000) (hn : r.Data.length < n) : f28 n r m = some (rdR r m) := by
  rw [f28, f32_is _ (by simp; omega) (by simp; omega), Option.bind_some, rdR]
  by_cases h1 : RngV r
  case neg => rw [if_pos (by simpa using h1), if_neg h1]
  rw [if_neg (by simpa using h1), if_pos h1, joinK, joinK]
  by_cases h2 : m < 0
  · rw [if_pos (by simpa using h2), if_pos (.inl h2)]
  rw [if_neg (by simpa using h2)]
  by_cases h3 : m > 65536
  · rw [if_pos (by simpa using h3), if_pos (.inr h3)]
  rw [if_neg (by simpa using h3), if_neg (by omega)]
  obtain ⟨p1, p2, p3, p4, p5, p6, p7, p8⟩ := rd_parts h1 (show ¬ (m < 0 ∨ m > 65536) by omega)
  have hv := h1
  obtain ⟨r1, r2, r3, r4, r5, r6, r7, r8⟩ := h1
  rw [f33_is _ (by simp; omega) (by simp; omega), Option.bind_some, flR, if_pos hv]
  dsimp only
  rw [iMin_eq, show min m (r.Written - r.Read) = rK r m from rfl, w64_id (x := rK r m * r.Channels) (by omega), lPart_eq (by omega), Option.bind_some, show ((0 : Int).toNat) = 0 from rfl, List.drop_zero, lApp_eq (by simp; omega), Option.bind_some, List.nil_append]
  rw [w64_id (x := m - rK r m) (by omega), w64_id (x := (m - rK r m) * r.Channels) (by omega), lAppZ, if_pos ⟨p6, by rw [List.length_take]; omega⟩, Option.bind_some, lPart_eq (by omega), Option.bind_some, lApp_eq (by simp; omega), Option.bind_some, List.nil_append, Int.toNat_natCast, List.take_length, w64_id (x := r.Read + rK r m) (by omega)]

def clR (r : Ring) : Ring × Int := if RngV r then (⟨r.Channels, r.Capacity, r.Written, r.Written, []⟩, 0) else (⟨0, 0, 0, 0, []⟩, 1)
theorem f29_is {n : Nat} (r : Ring) (hr : r.Data.length ≤ 100000000) (hn : r.Data.length < n) : f29 n r = some (clR r) := by
  rw [f29, f31_is _ (by simp; omega) (by simp; omega), Option.bind_some, clR]
  by_cases h : RngV r
  · rw [if_neg (by simpa using h), if_pos h]
  · rw [if_pos (by simpa using h), if_neg h]
theorem f30_is {n : Nat} (r : Ring) (hr : r.Data.length ≤ 100000000) (hn : r.Data.length < n) : f30 n r = some (clR r) := by
  rw [f30, f32_is _ (by simp; omega) (by simp; omega), Option.bind_some, clR]
  by_cases h : RngV r
  · rw [if_neg (by simpa using h), if_pos h]
  · rw [if_pos (by simpa using h), if_neg h]

/-! ### the same -/

theorem f73_l1_is {n : Nat} (a : List Int) (hl : a.length ≤ 1000000000) (j : Unit → Option Bool) : ∀ (d m i : Nat), i + d = a.length → d < m → f73_l1 n a a j m (i : Int) = j () := by
  intro d
  induction d with
  | zero =>
    intro m i h1 h2
    obtain ⟨m, rfl⟩ : ∃ q, m = q + 1 := ⟨m - 1, by omega⟩
    rw [f73_l1, if_neg (by simp; omega)]
  | succ d ih =>
    intro m i h1 h2
    obtain ⟨m, rfl⟩ : ∃ q, m = q + 1 := ⟨m - 1, by omega⟩
    rw [f73_l1, if_pos (by simp; omega), lAt_nat (by omega), Option.bind_some, Option.bind_some, if_neg (by simp), w64_id (by omega), show (i : Int) + 1 = ((i + 1 : Nat) : Int) by omega, ih _ _ (by omega) (by omega)]
theorem f73_is {n : Nat} (a : List Int) (hl : a.length ≤ 1000000000) (hn : a.length < n) : f73 n a a = some true := by
  rw [f73, if_neg (by simp), joinK]
  exact f73_l1_is a hl _ a.length n 0 (by omega) (by omega)
theorem f23_is {n : Nat} (r : Ring) (hl : r.Data.length ≤ 1000000000) (hn : r.Data.length < n) : f23 n r r = some true := by
  rw [f23, if_pos (by simp), if_pos (by simp), if_pos (by simp), if_pos (by simp), f73_is _ hl hn]
  rfl
theorem f24_is {n : Nat} (b : Block) (hl : b.Data.length ≤ 1000000000) (hn : b.Data.length < n) : f24 n b b = some true := by
  rw [f24, if_pos (by simp), f73_is _ hl hn]
  rfl
theorem f22_is {n : Nat} (a b : Block) (hl : a.Data.length + b.Data.length ≤ 1000000000) : f22 n a b = some ⟨a.Channels, a.Data ++ b.Data⟩ := by
  rw [f22, lApp_eq (by simp; omega), Option.bind_some, List.nil_append, lApp_eq (by omega), Option.bind_some]

end Go.Proofs.Ytacdknbakjbpiaa
