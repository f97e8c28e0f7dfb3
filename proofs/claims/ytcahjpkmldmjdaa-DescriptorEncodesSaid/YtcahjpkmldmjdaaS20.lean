/-
  The law DescriptorEncodes, plain.
-/
import Derived.Test.YtcahjpkmldmjdaaT3
import Derived.Test.YtcahjpkmldmjdaaG14
namespace Go.Proofs.Ytcahjpkmldmjdaa
open Go Ab

/-! ### what is let in -/

def BoxK (x : Box) : Prop := x.Rates.length ≤ 70 ∧ x.Sizes.length ≤ 70 ∧ x.Maps.length ≤ 20 ∧ ∀ k, k < x.Maps.length → (x.Maps.getD k []).length ≤ 12
instance (x : Box) : Decidable (BoxK x) := by unfold BoxK; infer_instance
def bz : Box := ⟨0, [], [], []⟩

theorem f88_is {n : Nat} (l : List Span) : f88 n ⟨l⟩ = some (decide ((l.length : Int) ≤ 70)) := rfl

theorem f53_is {n : Nat} (hn : 100000 ≤ n) (l : List Box) : ∃ b, f53 n l 10 = some b ∧ (b = true → l.length ≤ 10 ∧ ∀ k, k < l.length → BoxK (l.getD k bz)) := by
  rw [f53]
  by_cases h0 : (l.length : Int) > 10
  · exact ⟨false, by rw [if_pos (by simpa using h0)], fun h => by cases h⟩
  rw [if_neg (by simpa using h0), joinK, allLoop (f53_l1 n l (fun _ => some true)) l.length (fun k => decide (BoxK (l.getD k bz))) (some true) (fun m => by rw [f53_l1, if_neg (by simp)]) ?_ n (by omega)]
  · by_cases h : ∀ k, k < l.length → decide (BoxK (l.getD k bz)) = true
    · exact ⟨true, by rw [if_pos h], fun _ => ⟨by omega, fun k hk => of_decide_eq_true (h k hk)⟩⟩
    · exact ⟨false, by rw [if_neg h], fun h => by cases h⟩
  · intro m i hi _
    rw [f53_l1, if_pos (by simp; omega)]
    simp only [joinK]
    rw [lAt_getD bz hi, Option.bind_some, f88_is, Option.bind_some, f88_is, Option.bind_some, w64_id (by omega), show (i : Int) + 1 = ((i + 1 : Nat) : Int) by omega]
    generalize l.getD i bz = x
    by_cases h1 : (x.Rates.length : Int) ≤ 70
    case neg => rw [if_pos (by simpa using h1), if_neg (by simp only [decide_eq_true_eq]; exact fun h => by have := h.1; omega)]
    rw [if_neg (by simpa using h1)]
    by_cases h2 : (x.Sizes.length : Int) ≤ 70
    case neg => rw [if_pos (by simpa using h2), if_neg (by simp only [decide_eq_true_eq]; exact fun h => by have := h.2.1; omega)]
    rw [if_neg (by simpa using h2)]
    by_cases h3 : (x.Maps.length : Int) > 20
    · rw [if_pos (by simpa using h3), if_neg (by simp only [decide_eq_true_eq]; exact fun h => by have := h.2.2.1; omega)]
    rw [if_neg (by simpa using h3), allLoop (f53_l2 n (fun _ => f53_l1 n l (fun _ => some true) m ((i + 1 : Nat) : Int)) x) x.Maps.length (fun k => decide ((x.Maps.getD k []).length ≤ 12)) _ (fun m => by rw [f53_l2, if_neg (by simp)]) ?_ n (by omega)]
    · by_cases h4 : ∀ k, k < x.Maps.length → decide ((x.Maps.getD k []).length ≤ 12) = true
      · rw [if_pos h4, if_pos (decide_eq_true ⟨by omega, by omega, by omega, fun k hk => of_decide_eq_true (h4 k hk)⟩)]
      · rw [if_neg h4, if_neg (by simp only [decide_eq_true_eq]; exact fun h => h4 fun k hk => decide_eq_true (h.2.2.2 k hk))]
    · intro q k hk _
      rw [f53_l2, if_pos (by simp; omega), lAt_getD [] hk, Option.bind_some, w64_id (by omega), show (k : Int) + 1 = ((k + 1 : Nat) : Int) by omega]
      by_cases h5 : (x.Maps.getD k []).length ≤ 12
      · rw [if_neg (by simp only [decide_eq_true_eq]; omega), if_pos (decide_eq_true h5)]
      · rw [if_pos (by simp only [decide_eq_true_eq]; omega), if_neg (by simpa using h5)]

/-! ### how long bytes are -/

theorem eMaps_le2 {K : Nat} : ∀ l : List (List Int), (∀ m ∈ l, m.length ≤ K) → (eMaps l).length ≤ (2 + 2 * K) * l.length
  | [], _ => by simp [eMaps]
  | m :: l, h => by
    have h1 := eMaps_le2 l fun y hy => h y (.tail _ hy)
    have h2 := h m (.head _)
    rw [eMaps, List.length_append, eMap_length, List.length_cons, Nat.mul_add, Nat.mul_one]
    omega

theorem eBoxes_le2 {K : Nat} : ∀ l : List Box, (∀ x ∈ l, (eBox x).length ≤ K) → (eBoxes l).length ≤ K * l.length
  | [], _ => by simp [eBoxes]
  | x :: l, h => by
    have h1 := eBoxes_le2 l fun y hy => h y (.tail _ hy)
    have h2 := h x (.head _)
    rw [eBoxes, List.length_append, List.length_cons, Nat.mul_add, Nat.mul_one]
    omega

theorem eBox_in : ∀ {l : List Box} {x : Box}, x ∈ l → (eBox x).length ≤ (eBoxes l).length
  | y :: l, x, h => by
    rw [eBoxes, List.length_append]
    rcases List.mem_cons.1 h with rfl | h
    · omega
    · have := eBox_in h
      omega

theorem eBody_len (d : Descriptor) : (eBody d).length = 27 + d.Name.size + (eBoxes d.Boxes).length := by
  simp only [eBody, List.length_append, leN_length, List.length_cons, strNums_length, List.length_nil]
  omega

/-- Small enough. -/
def DescK (d : Descriptor) : Prop := DescS d ∧ (eBody d).length ≤ 90000

theorem BoxK.small {x : Box} (h : BoxK x) : BoxS x ∧ (eBox x).length ≤ 2000 := by
  obtain ⟨h1, h2, h3, h4⟩ := h
  have hm : ∀ m ∈ x.Maps, m.length ≤ 12 := by
    intro m hm
    obtain ⟨i, hi, rfl⟩ := List.mem_iff_getElem.1 hm
    have := h4 i hi
    rwa [List.getD_eq_getElem?_getD, List.getElem?_eq_getElem hi] at this
  have hl := eMaps_le2 x.Maps hm
  refine ⟨⟨by omega, by omega, by omega, fun m h => by have := hm m h; omega⟩, ?_⟩
  rw [eBox_length]
  omega

/-! ### what is spoilt -/

theorem f54_l1_is (d : Descriptor) (a2 : Int) (ha : 0 ≤ a2 ∧ a2 < 256) (B : List Box) (j : ByteArray → Int → Int → Int → Int → Int → List Box → Option Descriptor) : ∀ (q p : Nat) (l : List Box), l.length + q = 9 → q < p → 0 < l.length → (∀ x ∈ l, x ∈ B) →
    ∃ l', l'.length ≤ 9 ∧ (∀ x ∈ l', x ∈ B) ∧ f54_l1 100000 d a2 j p l = j d.Name d.Direction d.Domain d.Latency d.Drift d.Jitter l' := by
  have ht := Int.tmod_nonneg 3 ha.1
  have ht2 := Int.tmod_lt_of_pos a2 (show (0 : Int) < 3 by decide)
  intro q
  induction q with
  | zero =>
    intro p l h1 h2 h3 h4
    obtain ⟨p, rfl⟩ : ∃ q, p = q + 1 := ⟨p - 1, by omega⟩
    exact ⟨l, by omega, h4, by rw [f54_l1, w64_id (x := a2.tmod 3) (by omega), w64_id (by omega), if_neg (by simp; omega)]⟩
  | succ q ih =>
    intro p l h1 h2 h3 h4
    obtain ⟨p, rfl⟩ : ∃ q, p = q + 1 := ⟨p - 1, by omega⟩
    rw [f54_l1, w64_id (x := a2.tmod 3) (by omega), w64_id (x := 7 + a2.tmod 3) (by omega)]
    by_cases hc : (l.length : Int) < 7 + a2.tmod 3
    · rw [if_pos (by simpa using hc), lAt_eq (by omega), Option.bind_some, lApp_eq (by simp; omega), Option.bind_some]
      refine ih p _ (by simp; omega) (by omega) (by simp) fun x hx => ?_
      rcases List.mem_append.1 hx with hx | hx
      · exact h4 x hx
      · simp at hx
        subst hx
        exact h4 _ (List.getElem_mem _)
    · exact ⟨l, by omega, h4, by rw [if_neg (by simpa using hc)]⟩

theorem f54_is {d : Descriptor} (hd : DescM d) (a1 a2 : Int) (ha : 0 ≤ a2 ∧ a2 < 256) : ∃ d', f54 100000 d a1 a2 = some d' ∧ DescK d' := by
  have hV := hd.1
  have hnm := hV.1.2.2
  have hb := hV.2.2.2.2.2.2.1
  have hbl := hd.2.2.1
  rw [eBody_len] at hbl
  have fin : ∀ d' : Descriptor, d'.Name.size ≤ 64 → d'.Boxes.length ≤ 9 → (∀ x ∈ d'.Boxes, x ∈ d.Boxes) → DescK d' := by
    intro d' h1 h2 h3
    have h4 := eBoxes_le2 (K := 2000) d'.Boxes fun x hx => by have := eBox_in (h3 x hx); omega
    refine ⟨⟨by omega, by omega, fun x hx => hd.2.1.2.2 x (h3 x hx)⟩, ?_⟩
    rw [eBody_len]
    have : 2000 * d'.Boxes.length ≤ 2000 * 9 := Nat.mul_le_mul_left _ h2
    omega
  rw [f54, joinK]
  split
  · exact ⟨_, rfl, fin _ hnm (by dsimp only; omega) fun x hx => hx⟩
  split
  · exact ⟨_, rfl, fin _ hnm (by dsimp only; omega) fun x hx => hx⟩
  split
  · exact ⟨_, rfl, fin _ hnm (by dsimp only; omega) fun x hx => hx⟩
  split
  · exact ⟨_, rfl, fin _ hnm (by dsimp only; omega) fun x hx => hx⟩
  split
  · exact ⟨_, rfl, fin _ hnm (by dsimp only; omega) fun x hx => hx⟩
  split
  · have ht := Int.tmod_nonneg 4 ha.1
    have ht2 := Int.tmod_lt_of_pos a2 (show (0 : Int) < 4 by decide)
    generalize a2.tmod 4 = k at ht ht2
    have hk : k = 0 ∨ k = 1 ∨ k = 2 ∨ k = 3 := by omega
    rcases hk with rfl | rfl | rfl | rfl
    · exact ⟨_, rfl, fin _ (by show (0 : Nat) ≤ 64; decide) (by dsimp only; omega) fun x hx => hx⟩
    · exact ⟨_, rfl, fin _ (by show (2 : Nat) ≤ 64; decide) (by dsimp only; omega) fun x hx => hx⟩
    · exact ⟨_, rfl, fin _ (by show (3 : Nat) ≤ 64; decide) (by dsimp only; omega) fun x hx => hx⟩
    · exact ⟨_, rfl, fin _ (by show (1 : Nat) ≤ 64; decide) (by dsimp only; omega) fun x hx => hx⟩
  split
  · exact ⟨_, rfl, fin _ hnm (Nat.zero_le _) fun x hx => by cases hx⟩
  split
  · obtain ⟨l, h1, h2, h3⟩ := f54_l1_is d a2 ha d.Boxes (fun v23 v24 v25 v26 v27 v28 v29 => some (⟨d.ID, v23, v24, v25, v26, v27, v28, v29⟩ : Descriptor)) (9 - d.Boxes.length) 100000 d.Boxes (by omega) (by omega) (by omega) fun x hx => hx
    exact ⟨_, h3, fin _ hnm h1 h2⟩
  · exact ⟨_, rfl, fin _ hnm (by dsimp only; omega) fun x hx => hx⟩

theorem f14_is (a0 : Descriptor) (a1 : List Int) (a2 a3 : Int) (h1 : AreBytes a1) (h1l : a1.length ≤ 9223372036854775807) (r3 : 0 ≤ a3 ∧ a3 < 256) : f14 100000 a0 a1 a2 a3 = some true := by
  rw [f14, f38_is]
  simp only [Option.bind_some, joinK, Bool.not_true, Bool.false_eq_true, if_false]
  obtain ⟨b, e0, hb⟩ := f53_is (n := 100000) (Nat.le_refl _) a0.Boxes
  rw [e0, Option.bind_some]
  by_cases c0 : b = true
  case neg => rw [if_pos (by simpa using c0)]
  rw [if_neg (by simpa using c0)]
  by_cases c1 : (a0.Name.size : Int) > 200
  · rw [if_pos (by simpa using c1)]
  rw [if_neg (by simpa using c1)]
  obtain ⟨hb1, hb2⟩ := hb c0
  have hbm : ∀ x ∈ a0.Boxes, BoxK x := by
    intro x hx
    obtain ⟨i, hi, rfl⟩ := List.mem_iff_getElem.1 hx
    have := hb2 i hi
    rwa [List.getD_eq_getElem?_getD, List.getElem?_eq_getElem hi] at this
  have k0 : DescK a0 := by
    have h4 := eBoxes_le2 (K := 2000) a0.Boxes fun x hx => (hbm x hx).small.2
    refine ⟨⟨by omega, by omega, fun x hx => (hbm x hx).small.1⟩, ?_⟩
    rw [eBody_len]
    have : 2000 * a0.Boxes.length ≤ 2000 * 10 := Nat.mul_le_mul_left _ hb1
    omega
  obtain ⟨d, e1, hd⟩ := f40_is a1 h1 h1l
  obtain ⟨d', e2, k1⟩ := f54_is hd a2 a3 r3
  rw [e1, Option.bind_some, show f54 100000 (⟨d.ID, d.Name, d.Direction, d.Domain, d.Latency, d.Drift, d.Jitter, d.Boxes⟩ : Descriptor) a2 a3 = some d' from e2, Option.bind_some]
  have step : ∀ (m i : Nat) (x : Descriptor), i < 2 → lAt ([(⟨a0.ID, a0.Name, a0.Direction, a0.Domain, a0.Latency, a0.Drift, a0.Jitter, a0.Boxes⟩ : Descriptor), d'] : List Descriptor) (i : Int) = some x → DescK x → f14_l1 100000 a0 (fun _ => some true) d' (m + 1) (i : Int) = f14_l1 100000 a0 (fun _ => some true) d' m ((i + 1 : Nat) : Int) := by
    intro m i x hi hx hk
    rw [f14_l1, if_pos (by simp; omega), hx, Option.bind_some, show f39 100000 (⟨x.ID, x.Name, x.Direction, x.Domain, x.Latency, x.Drift, x.Jitter, x.Boxes⟩ : Descriptor) = some (encR x) from f39_is (Nat.le_refl _) x hk.1 (fun _ => hk.2), Option.bind_some,
      show f55 100000 (⟨x.ID, x.Name, x.Direction, x.Domain, x.Latency, x.Drift, x.Jitter, x.Boxes⟩ : Descriptor) = some (encR x) from f55_is (Nat.le_refl _) x hk.1 (fun _ => hk.2), Option.bind_some, joinK, joinK,
      show f56 100000 (⟨x.ID, x.Name, x.Direction, x.Domain, x.Latency, x.Drift, x.Jitter, x.Boxes⟩ : Descriptor) = some (decide (DescV x)) from f56_is (Nat.le_refl _) x hk.1, Option.bind_some,
      show f57 100000 (⟨x.ID, x.Name, x.Direction, x.Domain, x.Latency, x.Drift, x.Jitter, x.Boxes⟩ : Descriptor) = some (decide (DescV x)) from f57_is (Nat.le_refl _) x hk.1, Option.bind_some, if_neg (by simp), sEq_self, if_neg (by decide)]
    dsimp only
    rw [if_neg (by simp), w64_id (by omega), show (i : Int) + 1 = ((i + 1 : Nat) : Int) by omega]
  have s1 := step 99999 0 a0 (by decide) rfl k0
  have s2 := step 99998 1 d' (by decide) rfl k1
  rw [show ((0 : Nat) : Int) = 0 from rfl] at s1
  refine s1.trans (s2.trans ?_)
  rw [show (99998 : Nat) = 99997 + 1 from rfl, f14_l1, if_neg (by simp)]

end Go.Proofs.Ytcahjpkmldmjdaa
