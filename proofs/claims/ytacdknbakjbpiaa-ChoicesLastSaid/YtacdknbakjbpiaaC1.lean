/-
  Plain laws of choices: names.
-/
import Derived.Test.YtacdknbakjbpiaaQ0
import Derived.Test.YtacdknbakjbpiaaGe
namespace Go.Proofs.Ytacdknbakjbpiaa
open Go Ab

/-! ### names -/

def ltr (c : Int) : Bool := decide (97 ≤ c ∧ c ≤ 122) || decide (65 ≤ c ∧ c ≤ 90)
def oth (c : Int) : Bool := (decide (c ≥ 48) && decide (c ≤ 57)) || (c == 45 || (c == 46 || c == 95))
def okC (i : Nat) (c : Int) : Bool := ltr c || (!decide (i = 0) && oth c)
def NmV (s : ByteArray) : Prop := (∀ i, i < s.size → okC i (strAt s i) = true) ∧ s.size ≠ 0 ∧ s.size ≤ 64

theorem or32 : ∀ c : Fin 256, (decide (bitsI .or .u8 ((c.val : Nat) : Int) 32 ≥ 97) && decide (bitsI .or .u8 ((c.val : Nat) : Int) 32 ≤ 122)) = ltr ((c.val : Nat) : Int) := by decide +kernel

theorem strAt_rng (s : ByteArray) (i : Nat) : 0 ≤ strAt s i ∧ strAt s i < 256 := by
  unfold strAt
  have := ((s.data.toList[i]?).getD 0).toNat_lt
  omega

theorem or32_is (s : ByteArray) (i : Nat) : (decide (bitsI .or .u8 (strAt s i) 32 ≥ 97) && decide (bitsI .or .u8 (strAt s i) 32 ≤ 122)) = ltr (strAt s i) := by
  have h := strAt_rng s i
  obtain ⟨c, hc⟩ := Int.eq_ofNat_of_zero_le h.1
  rw [hc] at h ⊢
  exact or32 ⟨c, by omega⟩

theorem sAt_nat {s : ByteArray} {i : Nat} (h : i < s.size) : sAt s (i : Int) = some (strAt s i) := by
  rw [sAt, if_pos (by omega), Int.toNat_natCast]

theorem all_step {p : Nat → Prop} {i m : Nat} (h : i < m) : (∀ k, i ≤ k → k < m → p k) ↔ p i ∧ ∀ k, i + 1 ≤ k → k < m → p k := by
  constructor
  · exact fun hh => ⟨hh i (Nat.le_refl _) h, fun k h1 h2 => hh k (by omega) h2⟩
  · rintro ⟨h0, hh⟩ k h1 h2
    by_cases e : k = i
    · subst e; exact h0
    · exact hh k (by omega) h2

theorem f110_l1_is {n : Nat} (s : ByteArray) (hs : s.size ≤ 9223372036854775807) (j : Unit → Option Bool) : ∀ (d m i : Nat), i + d = s.size → d < m →
    ((∀ k, i ≤ k → k < s.size → okC k (strAt s k) = true) → f110_l1 n s j m (i : Int) = j ()) ∧ ((¬ ∀ k, i ≤ k → k < s.size → okC k (strAt s k) = true) → f110_l1 n s j m (i : Int) = some false) := by
  intro d
  induction d with
  | zero =>
    intro m i h1 h2
    obtain ⟨m, rfl⟩ : ∃ q, m = q + 1 := ⟨m - 1, by omega⟩
    refine ⟨fun _ => by rw [f110_l1, if_neg (by simp; omega)], fun h => absurd (fun k h3 h4 => by omega) h⟩
  | succ d ih =>
    intro m i h1 h2
    obtain ⟨m, rfl⟩ : ∃ q, m = q + 1 := ⟨m - 1, by omega⟩
    have ih' := ih m (i + 1) (by omega) (by omega)
    have hi0 : ((i : Int) == 0) = decide (i = 0) := by
      by_cases h : i = 0
      · subst h; rfl
      · rw [decide_eq_false h]; simpa using h
    have key : f110_l1 n s j (m + 1) (i : Int) = if okC i (strAt s i) = true then f110_l1 n s j m ((i + 1 : Nat) : Int) else some false := by
      rw [f110_l1, if_pos (by simp; omega)]
      simp only [joinK, sAt_nat (show i < s.size by omega), Option.bind_some, show (i : Int) + 1 = ((i + 1 : Nat) : Int) by omega, w64_id (show -9223372036854775808 ≤ ((i + 1 : Nat) : Int) ∧ ((i + 1 : Nat) : Int) ≤ 9223372036854775807 by omega), hi0]
      have ho := or32_is s i
      unfold okC
      rw [← ho]
      unfold oth
      generalize strAt s i = c
      generalize f110_l1 n s j m ((i + 1 : Nat) : Int) = G
      generalize decide (bitsI .or .u8 c 32 ≥ 97) = b1
      generalize decide (bitsI .or .u8 c 32 ≤ 122) = b2
      generalize decide (i = 0) = b3
      generalize decide (c ≥ 48) = b4
      generalize decide (c ≤ 57) = b5
      generalize (c == 45) = b6
      generalize (c == 46) = b7
      generalize (c == 95) = b8
      cases b1 <;> cases b2 <;> cases b3 <;> cases b4 <;> cases b5 <;> cases b6 <;> cases b7 <;> cases b8 <;> rfl
    rw [key, all_step (show i < s.size by omega)]
    by_cases h : okC i (strAt s i) = true
    · rw [if_pos h]
      exact ⟨fun hh => ih'.1 hh.2, fun hh => ih'.2 fun h3 => hh ⟨h, h3⟩⟩
    · rw [if_neg h]
      exact ⟨fun hh => absurd hh.1 h, fun _ => rfl⟩

theorem sEq_nil (s : ByteArray) : sEq s (⟨#[]⟩ : ByteArray) = decide (s.size = 0) := by
  rw [sEq_iff, decide_eq_decide]
  constructor
  · rintro rfl; rfl
  · intro h
    have : s.data.size = 0 := h
    have h2 := Array.eq_empty_of_size_eq_zero this
    cases s
    simp at h2
    rw [h2]

instance (s : ByteArray) : Decidable (NmV s) := by unfold NmV; infer_instance

theorem f110_is {n : Nat} (s : ByteArray) (hs : s.size ≤ 9223372036854775807) (hn : s.size < n) : f110 n s = some (decide (NmV s)) := by
  have h := f110_l1_is (n := n) s hs (fun _ => if (!(sEq s (⟨#[]⟩ : ByteArray))) = true then some (decide ((s.size : Int) ≤ 64)) else some false) s.size n 0 (by omega) hn
  rw [show ((0 : Nat) : Int) = 0 from rfl] at h
  rw [f110, joinK]
  by_cases ha : ∀ k, 0 ≤ k → k < s.size → okC k (strAt s k) = true
  · rw [h.1 ha, sEq_nil]
    by_cases h0 : s.size = 0
    · rw [if_neg (by simp [h0]), decide_eq_false (fun hv => hv.2.1 h0)]
    · rw [if_pos (by simp [h0])]
      exact congrArg some (decide_eq_decide.2 ⟨fun hh => ⟨fun i hi => ha i (Nat.zero_le _) hi, h0, by omega⟩, fun hh => by have := hh.2.2; omega⟩)
  · rw [h.2 ha, decide_eq_false (fun hv => ha fun k _ hk => hv.1 k hk)]

theorem f122_is {n : Nat} (c : Int) : f122 n c = some (ltr c) := by
  rw [f122, ltr]
  by_cases a1 : c ≥ 97 <;> by_cases a2 : c ≤ 122 <;> by_cases a3 : c ≥ 65 <;> by_cases a4 : c ≤ 90 <;> simp [a1, a2, a3, a4] <;> omega

theorem f112_l1_is {n : Nat} (s : ByteArray) (hs : s.size ≤ 9223372036854775807) (j : Unit → Option Bool) : ∀ (d m i : Nat), i + d = s.size → d < m →
    ((∀ k, i ≤ k → k < s.size → okC k (strAt s k) = true) → f112_l1 n s j m (i : Int) = j ()) ∧ ((¬ ∀ k, i ≤ k → k < s.size → okC k (strAt s k) = true) → f112_l1 n s j m (i : Int) = some false) := by
  intro d
  induction d with
  | zero =>
    intro m i h1 h2
    obtain ⟨m, rfl⟩ : ∃ q, m = q + 1 := ⟨m - 1, by omega⟩
    refine ⟨fun _ => by rw [f112_l1, if_neg (by simp; omega)], fun h => absurd (fun k h3 h4 => by omega) h⟩
  | succ d ih =>
    intro m i h1 h2
    obtain ⟨m, rfl⟩ : ∃ q, m = q + 1 := ⟨m - 1, by omega⟩
    have ih' := ih m (i + 1) (by omega) (by omega)
    have hi0 : ((i : Int) == 0) = decide (i = 0) := by
      by_cases h : i = 0
      · subst h; rfl
      · rw [decide_eq_false h]; simpa using h
    have key : f112_l1 n s j (m + 1) (i : Int) = if okC i (strAt s i) = true then f112_l1 n s j m ((i + 1 : Nat) : Int) else some false := by
      rw [f112_l1, if_pos (by simp; omega)]
      simp only [joinK, sAt_nat (show i < s.size by omega), Option.bind_some, f122_is, show (i : Int) + 1 = ((i + 1 : Nat) : Int) by omega, w64_id (show -9223372036854775808 ≤ ((i + 1 : Nat) : Int) ∧ ((i + 1 : Nat) : Int) ≤ 9223372036854775807 by omega), hi0]
      unfold okC oth
      generalize strAt s i = c
      generalize f112_l1 n s j m ((i + 1 : Nat) : Int) = G
      have e1 : decide (c < 48) = !decide (c ≥ 48) := by rw [← decide_not]; exact decide_eq_decide.2 (by omega)
      have e2 : decide (c > 57) = !decide (c ≤ 57) := by rw [← decide_not]; exact decide_eq_decide.2 (by omega)
      rw [e1, e2, bne, bne, bne]
      generalize ltr c = b1
      generalize decide (i = 0) = b3
      generalize decide (c ≥ 48) = b4
      generalize decide (c ≤ 57) = b5
      generalize (c == 45) = b6
      generalize (c == 46) = b7
      generalize (c == 95) = b8
      cases b1 <;> cases b3 <;> cases b4 <;> cases b5 <;> cases b6 <;> cases b7 <;> cases b8 <;> rfl
    rw [key, all_step (show i < s.size by omega)]
    by_cases h : okC i (strAt s i) = true
    · rw [if_pos h]
      exact ⟨fun hh => ih'.1 hh.2, fun hh => ih'.2 fun h3 => hh ⟨h, h3⟩⟩
    · rw [if_neg h]
      exact ⟨fun hh => absurd hh.1 h, fun _ => rfl⟩

theorem f112_is {n : Nat} (s : ByteArray) (hs : s.size ≤ 9223372036854775807) (hn : s.size < n) : f112 n s = some (decide (NmV s)) := by
  have h := f112_l1_is (n := n) s hs (fun _ => if (!(sEq s (⟨#[]⟩ : ByteArray))) = true then some (decide ((s.size : Int) ≤ 64)) else some false) s.size n 0 (by omega) hn
  rw [show ((0 : Nat) : Int) = 0 from rfl] at h
  rw [f112, joinK]
  by_cases ha : ∀ k, 0 ≤ k → k < s.size → okC k (strAt s k) = true
  · rw [h.1 ha, sEq_nil]
    by_cases h0 : s.size = 0
    · rw [if_neg (by simp [h0]), decide_eq_false (fun hv => hv.2.1 h0)]
    · rw [if_pos (by simp [h0])]
      exact congrArg some (decide_eq_decide.2 ⟨fun hh => ⟨fun i hi => ha i (Nat.zero_le _) hi, h0, by omega⟩, fun hh => by have := hh.2.2; omega⟩)
  · rw [h.2 ha, decide_eq_false (fun hv => ha fun k _ hk => hv.1 k hk)]

end Go.Proofs.Ytacdknbakjbpiaa
