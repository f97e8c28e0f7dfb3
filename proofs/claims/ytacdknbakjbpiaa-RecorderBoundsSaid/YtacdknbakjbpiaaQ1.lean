/-
  Plain laws of recorders: which are valid.
-/
import Derived.Test.YtacdknbakjbpiaaQ0
import Derived.Test.YtacdknbakjbpiaaGm
namespace Go.Proofs.Ytacdknbakjbpiaa
open Go Ab

/-! ### glitches -/

def GlV (g : Glitch) : Prop := (0 ≤ g.At ∧ g.At ≤ 1099511627776) ∧ (1 ≤ g.Quanta ∧ g.Quanta ≤ 4096) ∧ (1 ≤ g.Frames ∧ g.Frames ≤ 1099511627776) ∧
  ((g.Kind = 1 ∨ g.Kind = 2) ∧ 1 ≤ g.Stream ∧ g.Device = 0 ∨ (g.Kind = 3 ∨ g.Kind = 4) ∧ 1 ≤ g.Device ∧ g.Stream = 0)
instance (g : Glitch) : Decidable (GlV g) := by unfold GlV; infer_instance

theorem f97_is {n : Nat} (g : Glitch) : f97 n g = some (decide (GlV g)) := by
  obtain ⟨k, t, q, s, d, f⟩ := g
  rw [f97]
  simp only [joinK]
  by_cases a1 : t < 0
  · rw [if_pos (by simpa using a1), decide_eq_false (fun h => by have := h.1.1; dsimp only at this; omega)]
  rw [if_neg (by simpa using a1)]
  by_cases a2 : t > 1099511627776
  · rw [if_pos (by simpa using a2), decide_eq_false (fun h => by have := h.1.2; dsimp only at this; omega)]
  rw [if_neg (by simpa using a2)]
  by_cases a3 : q < 1
  · rw [if_pos (by simpa using a3), decide_eq_false (fun h => by have := h.2.1.1; dsimp only at this; omega)]
  rw [if_neg (by simpa using a3)]
  by_cases a4 : q > 4096
  · rw [if_pos (by simpa using a4), decide_eq_false (fun h => by have := h.2.1.2; dsimp only at this; omega)]
  rw [if_neg (by simpa using a4)]
  by_cases a5 : f < 1
  · rw [if_pos (by simpa using a5), decide_eq_false (fun h => by have := h.2.2.1.1; dsimp only at this; omega)]
  rw [if_neg (by simpa using a5)]
  by_cases a6 : f > 1099511627776
  · rw [if_pos (by simpa using a6), decide_eq_false (fun h => by have := h.2.2.1.2; dsimp only at this; omega)]
  rw [if_neg (by simpa using a6)]
  have e : GlV ⟨k, t, q, s, d, f⟩ ↔ ((k = 1 ∨ k = 2) ∧ 1 ≤ s ∧ d = 0 ∨ (k = 3 ∨ k = 4) ∧ 1 ≤ d ∧ s = 0) :=
    ⟨fun h => h.2.2.2, fun h => ⟨⟨by dsimp only; omega, by dsimp only; omega⟩, ⟨by dsimp only; omega, by dsimp only; omega⟩, ⟨by dsimp only; omega, by dsimp only; omega⟩, h⟩⟩
  rw [decide_eq_decide.2 e]
  have yes : ∀ (d : Int) (P : Prop) [Decidable P], (d = 0 ↔ P) → some (d == 0) = some (decide P) := fun d P _ h => congrArg some (decide_eq_decide.2 h)
  by_cases k12 : k = 1 ∨ k = 2
  · have e2 : (if (k == 1) = true then (if (k == 1) = true then (if decide (s ≥ 1) = true then some (d == 0) else some false) else if (k == 3) = true then (if (k == 3) = true then (if decide (d ≥ 1) = true then some (s == 0) else some false) else some false) else if (k == 4) = true then (if decide (d ≥ 1) = true then some (s == 0) else some false) else some false)
      else if (k == 2) = true then (if decide (s ≥ 1) = true then some (d == 0) else some false) else if (k == 3) = true then (if (k == 3) = true then (if decide (d ≥ 1) = true then some (s == 0) else some false) else some false) else if (k == 4) = true then (if decide (d ≥ 1) = true then some (s == 0) else some false) else some false) = (if decide (s ≥ 1) = true then some (d == 0) else some false) := by
      rcases k12 with rfl | rfl <;> rfl
    rw [e2]
    by_cases s1 : s ≥ 1
    · rw [if_pos (by simpa using s1)]
      exact yes _ _ (by omega)
    · rw [if_neg (by simpa using s1), decide_eq_false (by omega)]
  · have e2 : (if (k == 1) = true then (if (k == 1) = true then (if decide (s ≥ 1) = true then some (d == 0) else some false) else if (k == 3) = true then (if (k == 3) = true then (if decide (d ≥ 1) = true then some (s == 0) else some false) else some false) else if (k == 4) = true then (if decide (d ≥ 1) = true then some (s == 0) else some false) else some false)
      else if (k == 2) = true then (if decide (s ≥ 1) = true then some (d == 0) else some false) else if (k == 3) = true then (if (k == 3) = true then (if decide (d ≥ 1) = true then some (s == 0) else some false) else some false) else if (k == 4) = true then (if decide (d ≥ 1) = true then some (s == 0) else some false) else some false) = (if k = 3 ∨ k = 4 then (if decide (d ≥ 1) = true then some (s == 0) else some false) else some false) := by
      rw [if_neg (by simp; omega), if_neg (by simp; omega)]
      by_cases k3 : k = 3
      · rw [if_pos (by simpa using k3), if_pos (by simpa using k3), if_pos (show k = 3 ∨ k = 4 from .inl k3)]
      · rw [if_neg (by simpa using k3)]
        by_cases k4 : k = 4
        · rw [if_pos (by simpa using k4), if_pos (show k = 3 ∨ k = 4 from .inr k4)]
        · rw [if_neg (by simpa using k4), if_neg (by omega)]
    rw [e2]
    by_cases k34 : k = 3 ∨ k = 4
    · rw [if_pos k34]
      by_cases s1 : d ≥ 1
      · rw [if_pos (by simpa using s1)]
        exact yes _ _ (by omega)
      · rw [if_neg (by simpa using s1), decide_eq_false (by omega)]
    · rw [if_neg k34, decide_eq_false (by omega)]

theorem f101_is {n : Nat} (g : Glitch) : f101 n g = some (decide (GlV g)) := f97_is (n := n) g

/-! ### counts -/

def CntV (x : Int) : Prop := 0 ≤ x ∧ x ≤ 1099511627776
instance (x : Int) : Decidable (CntV x) := by unfold CntV; infer_instance

theorem f119_is {n : Nat} (x : Int) : f119 n x = some (!decide (CntV x)) := by
  rw [f119]
  by_cases h : x < 0
  · rw [if_pos (by simpa using h), decide_eq_false (fun hc : CntV x => by have := hc.1; omega)]
    rfl
  · rw [if_neg (by simpa using h)]
    by_cases h2 : x > 1099511627776
    · rw [decide_eq_true h2, decide_eq_false (fun hc : CntV x => by have := hc.2; omega)]
      rfl
    · rw [decide_eq_false h2, decide_eq_true (show CntV x from ⟨by omega, by omega⟩)]
      rfl
theorem f100_is {n : Nat} (x : Int) : f100 n x = some (decide (CntV x)) := by
  rw [f100]
  by_cases h : x ≥ 0
  · rw [if_pos (by simpa using h)]
    exact congrArg some (decide_eq_decide.2 ⟨fun h2 => ⟨h, h2⟩, fun h2 => h2.2⟩)
  · rw [if_neg (by simpa using h), decide_eq_false (fun hc : CntV x => h hc.1)]

theorem f118_is {n : Nat} (l : List Int) (p : Int → Option Bool) (q : Int → Bool) (hp : ∀ z, p z = some (q z)) (hl : l.length ≤ 1000000) (hn : l.length < n) : f118 n l p = some (l.any q) := by
  rw [f118, f123, joinK]
  obtain ⟨v, h1, h2⟩ := idxLoop (f123_l1 n l p (fun _ => some (-1))) l 0 q (fun m => by rw [f123_l1, if_neg (by simp)]) (fun m i hi => by
    rw [f123_l1, if_pos (by simp; omega), lAt_getD 0 hi, Option.bind_some, hp, Option.bind_some, w64_id (by omega), show (i : Int) + 1 = ((i + 1 : Nat) : Int) by omega]) n hn
  rw [h1, Option.bind_some, h2]

theorem f98_is {n : Nat} (l : List Glitch) (p : Glitch → Option Bool) (q : Glitch → Bool) (hp : ∀ z, p z = some (q z)) (hl : l.length ≤ 1000000) (hn : l.length < n) : f98 n l p = some (l.any q) := by
  rw [f98, f117, joinK]
  obtain ⟨v, h1, h2⟩ := idxLoop (f117_l1 n l p (fun _ => some (-1))) l ⟨0, 0, 0, 0, 0, 0⟩ q (fun m => by rw [f117_l1, if_neg (by simp)]) (fun m i hi => by
    rw [f117_l1, if_pos (by simp; omega), lAt_getD ⟨0, 0, 0, 0, 0, 0⟩ hi, Option.bind_some, hp, Option.bind_some, w64_id (by omega), show (i : Int) + 1 = ((i + 1 : Nat) : Int) by omega]) n hn
  rw [h1, Option.bind_some, h2]

theorem any_not {α : Type} (p : α → Prop) [DecidablePred p] (l : List α) : (!(l.any fun x => !decide (p x))) = decide (∀ x ∈ l, p x) := by
  induction l with
  | nil => simp
  | cons x l ih =>
    rw [List.any_cons, Bool.not_or, ih, Bool.not_not, ← Bool.decide_and]
    exact decide_eq_decide.2 ⟨fun h y hy => by
      rcases List.mem_cons.1 hy with rfl | hy
      · exact h.1
      · exact h.2 y hy, fun h => ⟨h x (.head _), fun y hy => h y (.tail _ hy)⟩⟩

theorem f99_is {n : Nat} (l : List Int) (hl : l.length ≤ 1000000) (hn : l.length < n) : f99 n l = some (decide (∀ x ∈ l, CntV x)) := by
  rw [f99, f118_is l _ (fun z => !decide (CntV z)) (fun z => f119_is z) hl hn, Option.bind_some, any_not]

theorem aLs_all (A : Nat → Int) (p : Int → Prop) : ∀ (m j : Nat), (∀ x ∈ aLs A j m, p x) ↔ ∀ i, i < m → p (A (j + i))
  | 0, j => by simp [aLs]
  | m + 1, j => by
    have ih := aLs_all A p m (j + 1)
    rw [aLs]
    constructor
    · intro h i hi
      cases i with
      | zero => exact h _ (.head _)
      | succ i =>
        have := ih.1 (fun x hx => h x (.tail _ hx)) i (by omega)
        rwa [show j + 1 + i = j + (i + 1) by omega] at this
    · intro h x hx
      rcases List.mem_cons.1 hx with rfl | hx
      · exact h 0 (by omega)
      · refine ih.2 (fun i hi => ?_) x hx
        have := h (i + 1) (by omega)
        rwa [show j + (i + 1) = j + 1 + i by omega] at this

/-! ### recorders -/

def RecV (r : Recorder) : Prop := (1 ≤ r.Limit ∧ r.Limit ≤ 256) ∧ (r.Last.length : Int) ≤ r.Limit ∧ (∀ g ∈ r.Last, GlV g) ∧ CntV r.Frames ∧ (∀ i, i < 5 → CntV (r.Counts i)) ∧ ∀ i, i < 24 → CntV (r.Buckets i)
instance (r : Recorder) : Decidable (RecV r) := by unfold RecV; infer_instance

theorem f96_is {n : Nat} (g : Glitch) : f96 n g = some (!decide (GlV g)) := by
  rw [f96, show f97 n (⟨g.Kind, g.At, g.Quanta, g.Stream, g.Device, g.Frames⟩ : Glitch) = some (decide (GlV g)) from f97_is g]
  rfl

theorem f60_is {n : Nat} (hn : 100000 ≤ n) (r : Recorder) (hl : r.Last.length ≤ 90000) : f60 n r = some (decide (RecV r)) := by
  rw [f60]
  by_cases a1 : r.Limit ≥ 1
  case neg => rw [if_neg (by simpa using a1), decide_eq_false (fun h => a1 h.1.1)]
  rw [if_pos (by simpa using a1)]
  by_cases a2 : r.Limit ≤ 256
  case neg => rw [if_neg (by simpa using a2), decide_eq_false (fun h => a2 h.1.2)]
  rw [if_pos (by simpa using a2)]
  by_cases a3 : (r.Last.length : Int) ≤ r.Limit
  case neg => rw [if_neg (by simpa using a3), decide_eq_false (fun h => a3 h.2.1)]
  rw [if_pos (by simpa using a3), f98_is r.Last _ (fun z => !decide (GlV z)) (fun z => f96_is z) (by omega) (by omega), Option.bind_some, any_not]
  by_cases a4 : ∀ g ∈ r.Last, GlV g
  case neg => rw [decide_eq_false a4, if_neg (by simp), decide_eq_false (fun h => a4 h.2.2.1)]
  rw [decide_eq_true a4, if_pos rfl, f99_is _ (by simp) (by simp; omega), Option.bind_some]
  by_cases a5 : CntV r.Frames
  case neg => rw [decide_eq_false (fun h => a5 (h _ (.head _))), if_neg (by simp), decide_eq_false (fun h => a5 h.2.2.2.1)]
  rw [decide_eq_true (fun x hx => by simp at hx; subst hx; exact a5), if_pos rfl, f99_is _ (by rw [aLs_len]; omega) (by rw [aLs_len]; omega), Option.bind_some]
  have e5 := aLs_all r.Counts CntV 5 0
  have e24 := aLs_all r.Buckets CntV 24 0
  simp only [Nat.zero_add] at e5 e24
  by_cases a6 : ∀ i, i < 5 → CntV (r.Counts i)
  case neg => rw [decide_eq_false (fun h => a6 (e5.1 h)), if_neg (by simp), decide_eq_false (fun h => a6 h.2.2.2.2.1)]
  rw [decide_eq_true (e5.2 a6), if_pos rfl, f99_is _ (by rw [aLs_len]; omega) (by rw [aLs_len]; omega), Option.bind_some]
  exact congrArg some (decide_eq_decide.2 ⟨fun h => ⟨⟨a1, a2⟩, a3, a4, a5, a6, e24.1 h⟩, fun h => e24.2 h.2.2.2.2.2⟩)

theorem aIdx_nat {m x : Nat} (h : x < m) : aIdx m (x : Int) = some x := by
  rw [aIdx, if_pos (by omega), Int.toNat_natCast]

theorem f61_is {n : Nat} (hn : 100000 ≤ n) (r : Recorder) (hl : r.Last.length ≤ 90000) : f61 n r = some (decide (RecV r)) := by
  rw [f61]
  simp only [joinK]
  by_cases a1 : r.Limit < 1
  · rw [if_pos (by simpa using a1), decide_eq_false (fun h => by have := h.1.1; omega)]
  rw [if_neg (by simpa using a1)]
  by_cases a2 : r.Limit > 256
  · rw [if_pos (by simpa using a2), decide_eq_false (fun h => by have := h.1.2; omega)]
  rw [if_neg (by simpa using a2)]
  by_cases a3 : (r.Last.length : Int) > r.Limit
  · rw [if_pos (by simpa using a3), decide_eq_false (fun h => by have := h.2.1; omega)]
  rw [if_neg (by simpa using a3), f100_is, Option.bind_some]
  by_cases a5 : CntV r.Frames
  case neg => rw [if_pos (by simpa using a5), decide_eq_false (fun h => a5 h.2.2.2.1)]
  rw [if_neg (by simpa using a5)]
  have e3 := fun j => allLoop (f61_l3 n r j) 24 (fun k => decide (CntV (r.Buckets k))) (j ()) (fun m => by rw [f61_l3, if_neg (by simp)]) (by
    intro m i hi _
    rw [f61_l3, if_pos (by simp; omega), aIdx_nat hi, Option.bind_some, f100_is, Option.bind_some, w64_id (by omega), show (i : Int) + 1 = ((i + 1 : Nat) : Int) by omega]
    cases decide (CntV (r.Buckets i)) <;> rfl) n (by omega)
  have e2 := fun j => allLoop (f61_l2 n r j) 5 (fun k => decide (CntV (r.Counts k))) (j ()) (fun m => by rw [f61_l2, if_neg (by simp)]) (by
    intro m i hi _
    rw [f61_l2, if_pos (by simp; omega), aIdx_nat hi, Option.bind_some, f100_is, Option.bind_some, w64_id (by omega), show (i : Int) + 1 = ((i + 1 : Nat) : Int) by omega]
    cases decide (CntV (r.Counts i)) <;> rfl) n (by omega)
  have e1 : ∀ j, f61_l1 n r j n 0 = if ∀ k, k < r.Last.length → (decide (GlV (r.Last.getD k ⟨0, 0, 0, 0, 0, 0⟩))) = true then j () else some false := by
    intro j
    refine allLoop (f61_l1 n r j) r.Last.length (fun k => decide (GlV (r.Last.getD k ⟨0, 0, 0, 0, 0, 0⟩))) (j ()) (fun m => by rw [f61_l1, if_neg (by simp)]) ?_ n (by omega)
    intro m i hi _
    rw [f61_l1, if_pos (by simp; omega), lAt_getD ⟨0, 0, 0, 0, 0, 0⟩ hi, Option.bind_some, f101_is, Option.bind_some, w64_id (by omega), show (i : Int) + 1 = ((i + 1 : Nat) : Int) by omega]
    cases decide (GlV (r.Last.getD i ⟨0, 0, 0, 0, 0, 0⟩)) <;> rfl
  have eL : (∀ k, k < r.Last.length → decide (GlV (r.Last.getD k ⟨0, 0, 0, 0, 0, 0⟩)) = true) ↔ ∀ g ∈ r.Last, GlV g := by
    constructor
    · intro h g hg
      obtain ⟨i, hi, rfl⟩ := List.mem_iff_getElem.1 hg
      have := h i hi
      rw [List.getD_eq_getElem?_getD, List.getElem?_eq_getElem hi] at this
      exact of_decide_eq_true this
    · intro h k hk
      rw [List.getD_eq_getElem?_getD, List.getElem?_eq_getElem hk]
      exact decide_eq_true (h _ (List.getElem_mem hk))
  rw [e1]
  by_cases a4 : ∀ g ∈ r.Last, GlV g
  case neg => rw [if_neg (fun h => a4 (eL.1 h)), decide_eq_false (fun h => a4 h.2.2.1)]
  rw [if_pos (eL.2 a4), e2]
  by_cases a6 : ∀ i, i < 5 → CntV (r.Counts i)
  case neg => rw [if_neg (fun h => a6 (fun i hi => of_decide_eq_true (h i hi))), decide_eq_false (fun h => a6 h.2.2.2.2.1)]
  rw [if_pos (fun k hk => decide_eq_true (a6 k hk)), e3]
  by_cases a7 : ∀ i, i < 24 → CntV (r.Buckets i)
  case neg => rw [if_neg (fun h => a7 (fun i hi => of_decide_eq_true (h i hi))), decide_eq_false (fun h => a7 h.2.2.2.2.2)]
  rw [if_pos (fun k hk => decide_eq_true (a7 k hk)), decide_eq_true ⟨⟨by omega, by omega⟩, by omega, a4, a5, a6, a7⟩]

end Go.Proofs.Ytacdknbakjbpiaa
