/-
  Plain laws of choices: which are proper, which are like, which memories are valid.
-/
import Derived.Test.YtacdknbakjbpiaaC1
namespace Go.Proofs.Ytacdknbakjbpiaa
open Go Ab

/-! ### lists that rise -/

abbrev Rise (l : List Int) : Prop := l.Pairwise (· < ·)

theorem rise_len : ∀ {a b : List Int}, Rise a → Rise b → (∀ x ∈ a, x ∈ b) → a.length ≤ b.length
  | [], _, _, _, _ => Nat.zero_le _
  | x :: a, [], _, _, h => by have := h x (.head _); cases this
  | x :: a, y :: b, ha, hb, h => by
    obtain ⟨ha1, ha2⟩ := List.pairwise_cons.1 ha
    obtain ⟨hb1, hb2⟩ := List.pairwise_cons.1 hb
    have hxy : y ≤ x := by
      rcases List.mem_cons.1 (h x (.head _)) with e | hm
      · omega
      · exact Int.le_of_lt (hb1 x hm)
    have := rise_len ha2 hb2 fun z hz => by
      have h1 := ha1 z hz
      rcases List.mem_cons.1 (h z (.tail _ hz)) with e | hm
      · omega
      · exact hm
    simp only [List.length_cons]
    omega

theorem rise_eq : ∀ {a b : List Int}, Rise a → Rise b → (∀ x ∈ a, x ∈ b) → a.length = b.length → a = b
  | [], b, _, _, _, hl => (List.eq_nil_of_length_eq_zero hl.symm).symm
  | x :: a, [], _, _, _, hl => by cases hl
  | x :: a, y :: b, ha, hb, h, hl => by
    obtain ⟨ha1, ha2⟩ := List.pairwise_cons.1 ha
    obtain ⟨hb1, hb2⟩ := List.pairwise_cons.1 hb
    have hxy : x = y := by
      rcases List.mem_cons.1 (h x (.head _)) with e | hm
      · exact e
      · exfalso
        have hyx := hb1 x hm
        have h2 := rise_len ha hb2 fun z hz => by
          have hz1 : x ≤ z := by
            rcases List.mem_cons.1 hz with e | hm'
            · omega
            · exact Int.le_of_lt (ha1 z hm')
          rcases List.mem_cons.1 (h z hz) with e | hm'
          · omega
          · exact hm'
        simp only [List.length_cons] at h2 hl
        omega
    subst hxy
    congr 1
    refine rise_eq ha2 hb2 (fun z hz => ?_) (by simpa using hl)
    have h1 := ha1 z hz
    rcases List.mem_cons.1 (h z (.tail _ hz)) with e | hm
    · omega
    · exact hm

def ascAt (l : List Int) (k : Nat) : Bool := decide (1 ≤ l.getD k 0) && (decide (k = 0) || decide (l.getD (k - 1) 0 < l.getD k 0))
def AscV (l : List Int) : Prop := ∀ k, k < l.length → ascAt l k = true
instance (l : List Int) : Decidable (AscV l) := by unfold AscV; infer_instance

theorem getD_nat {α : Type} {l : List α} {i : Nat} (d : α) (h : i < l.length) : l.getD i d = l[i] := by
  rw [List.getD_eq_getElem?_getD, List.getElem?_eq_getElem h]
  rfl

theorem ascAt_of {l : List Int} {k : Nat} (h : ascAt l k = true) : 1 ≤ l.getD k 0 ∧ (0 < k → l.getD (k - 1) 0 < l.getD k 0) := by
  unfold ascAt at h
  simp only [Bool.and_eq_true, Bool.or_eq_true, decide_eq_true_eq] at h
  exact ⟨h.1, fun hk => by rcases h.2 with e | e
                           · omega
                           · exact e⟩

theorem AscV.rise {l : List Int} (h : AscV l) : Rise l := by
  have step : ∀ (d i : Nat), i + d + 1 < l.length → l.getD i 0 < l.getD (i + d + 1) 0 := by
    intro d
    induction d with
    | zero =>
      intro i hi
      have := (ascAt_of (h (i + 1) hi)).2 (by omega)
      simpa using this
    | succ d ih =>
      intro i hi
      have h1 := ih i (by omega)
      have h2 := (ascAt_of (h (i + (d + 1) + 1) hi)).2 (by omega)
      rw [show i + (d + 1) + 1 - 1 = i + d + 1 by omega] at h2
      omega
  rw [Rise, List.pairwise_iff_getElem]
  intro i j hi hj hij
  obtain ⟨d, rfl⟩ : ∃ d, j = i + d + 1 := ⟨j - i - 1, by omega⟩
  have := step d i hj
  rwa [getD_nat 0 hi, getD_nat 0 hj] at this
theorem AscV.one {l : List Int} (h : AscV l) : ∀ x ∈ l, 1 ≤ x := by
  intro x hx
  obtain ⟨i, hi, rfl⟩ := List.mem_iff_getElem.1 hx
  have := (ascAt_of (h i hi)).1
  rwa [getD_nat 0 hi] at this
theorem AscV.of {l : List Int} (h1 : ∀ x ∈ l, 1 ≤ x) (h2 : Rise l) : AscV l := by
  intro k hk
  have e1 : 1 ≤ l.getD k 0 := by rw [getD_nat 0 hk]; exact h1 _ (List.getElem_mem hk)
  unfold ascAt
  rw [decide_eq_true e1, Bool.true_and]
  by_cases h0 : k = 0
  · rw [decide_eq_true h0, Bool.true_or]
  · have := List.pairwise_iff_getElem.1 h2 (k - 1) k (by omega) hk (by omega)
    rw [getD_nat 0 hk, getD_nat 0 (show k - 1 < l.length by omega), decide_eq_true this, Bool.or_true]

section
variable {n : Nat}

theorem f90_is (l : List Int) (hl : l.length ≤ 1000000) (hn : l.length < n) : f90 n l = some (decide (AscV l)) := by
  rw [f90, joinK, allLoop (f90_l1 n l (fun _ => some true)) l.length (ascAt l) (some true) (fun m => by rw [f90_l1, if_neg (by simp)]) ?_ n hn]
  · by_cases h : ∀ k, k < l.length → ascAt l k = true
    · rw [if_pos h, decide_eq_true (show AscV l from h)]
    · rw [if_neg h, decide_eq_false (show ¬ AscV l from h)]
  · intro m i hi _
    rw [f90_l1, if_pos (by simp; omega)]
    simp only [joinK]
    rw [lAt_getD 0 hi, Option.bind_some, w64_id (x := (i : Int) + 1) (by omega), show (i : Int) + 1 = ((i + 1 : Nat) : Int) by omega]
    unfold ascAt
    by_cases h1 : l.getD i 0 < 1
    · rw [if_pos (by simpa using h1), decide_eq_false (by omega), Bool.false_and, if_neg (by simp)]
    rw [if_neg (by simpa using h1), decide_eq_true (show 1 ≤ l.getD i 0 by omega), Bool.true_and]
    by_cases h0 : i = 0
    · subst h0
      rw [if_neg (by simp), decide_eq_true rfl, Bool.true_or, if_pos rfl]
    · rw [if_pos (by simp; omega), w64_id (by omega), show (i : Int) - 1 = ((i - 1 : Nat) : Int) by omega, lAt_getD 0 (show i - 1 < l.length by omega), Option.bind_some, decide_eq_false h0, Bool.false_or]
      by_cases h2 : l.getD i 0 ≤ l.getD (i - 1) 0
      · rw [if_pos (by simpa using h2), decide_eq_false (by omega), if_neg (by simp)]
      · rw [if_neg (by simpa using h2), decide_eq_true (by omega), if_pos rfl]

theorem f113_is (l : List Int) (hl : l.length ≤ 1000000) (hn : l.length < n) : f113 n l = some (decide (AscV l)) := by
  rw [f113, joinK, allLoop (f113_l1 n l (fun _ => some true)) l.length (ascAt l) (some true) (fun m => by rw [f113_l1, if_neg (by simp)]) ?_ n hn]
  · by_cases h : ∀ k, k < l.length → ascAt l k = true
    · rw [if_pos h, decide_eq_true (show AscV l from h)]
    · rw [if_neg h, decide_eq_false (show ¬ AscV l from h)]
  · intro m i hi _
    rw [f113_l1, if_pos (by simp; omega)]
    simp only [joinK]
    rw [lAt_getD 0 hi, Option.bind_some, Option.bind_some, w64_id (x := (i : Int) + 1) (by omega), show (i : Int) + 1 = ((i + 1 : Nat) : Int) by omega]
    unfold ascAt
    by_cases h1 : l.getD i 0 < 1
    · rw [if_pos (by simpa using h1), decide_eq_false (by omega), Bool.false_and, if_neg (by simp)]
    rw [if_neg (by simpa using h1), decide_eq_true (show 1 ≤ l.getD i 0 by omega), Bool.true_and]
    by_cases h0 : i = 0
    · subst h0
      rw [if_neg (by simp), decide_eq_true rfl, Bool.true_or, if_pos rfl]
    · rw [if_pos (by simp; omega), w64_id (by omega), show (i : Int) - 1 = ((i - 1 : Nat) : Int) by omega, lAt_getD 0 (show i - 1 < l.length by omega), Option.bind_some, decide_eq_false h0, Bool.false_or]
      by_cases h2 : l.getD i 0 ≤ l.getD (i - 1) 0
      · rw [if_pos (by simpa using h2), decide_eq_false (by omega), if_neg (by simp)]
      · rw [if_neg (by simpa using h2), decide_eq_true (by omega), if_pos rfl]

/-! ### what lists have -/

theorem any_mem (l : List Int) (x : Int) : (l.any fun y => x == y) = decide (x ∈ l) := by
  induction l with
  | nil => simp
  | cons y l ih =>
    rw [List.any_cons, ih]
    by_cases h : x = y
    · simp [h]
    · simp [h]

theorem f92_is (l : List Int) (x : Int) (hl : l.length ≤ 1000000) (hn : l.length < n) : f92 n l x = some (decide (x ∈ l)) := by
  rw [f92, f115, joinK]
  obtain ⟨v, h1, h2⟩ := idxLoop (f115_l1 n l x (fun _ => some (-1))) l 0 (fun y => x == y) (fun m => by rw [f115_l1, if_neg (by simp)]) (fun m i hi => by
    rw [f115_l1, if_pos (by simp; omega), lAt_getD 0 hi, Option.bind_some, w64_id (by omega), show (i : Int) + 1 = ((i + 1 : Nat) : Int) by omega]) n hn
  rw [h1, Option.bind_some, h2, any_mem]

theorem f58_is (l : List Int) (x : Int) (hl : l.length ≤ 1000000) (hn : l.length < n) : f58 n l x = some (decide (x ∈ l)) := by
  rw [f58, joinK]
  obtain ⟨h1, h2⟩ := exLoop (f58_l1 n l x (fun _ => some false)) l.length (fun k => l.getD k 0 == x) (fun _ => some true) (some false) (fun m => by rw [f58_l1, if_neg (by simp)]) (fun m i hi => by
    rw [f58_l1, if_pos (by simp; omega), lAt_getD 0 hi, Option.bind_some, w64_id (by omega), show (i : Int) + 1 = ((i + 1 : Nat) : Int) by omega]) n hn
  by_cases h : x ∈ l
  · obtain ⟨i, hi, rfl⟩ := List.mem_iff_getElem.1 h
    obtain ⟨k, k1, k2, k3⟩ := first_of (q := fun k => l.getD k 0 == l[i]) l.length ⟨i, hi, by rw [getD_nat 0 hi]; simp⟩
    rw [h2 k k1 k2 k3, decide_eq_true h]
  · rw [h1 (fun k hk => by
      cases hx : (l.getD k 0 == x) with
      | false => rfl
      | true =>
        exfalso
        apply h
        rw [getD_nat 0 hk] at hx
        rw [← eq_of_beq hx]
        exact List.getElem_mem hk), decide_eq_false h]

theorem f109_is (a b : List Int) (hl : a.length ≤ 1000000) (hn : a.length < n) : f109 n a b = some (decide (a = b)) := by
  rw [f109]
  by_cases h0 : (a.length : Int) = b.length
  case neg => rw [if_pos (by simpa using h0), decide_eq_false (fun h => by subst h; exact h0 rfl)]
  rw [if_neg (by simpa using h0), joinK, allLoop (f109_l1 n a b _) a.length (fun k => a.getD k 0 == b.getD k 0) _ (fun m => by rw [f109_l1, if_neg (by simp)]) ?_ n hn]
  · have he : (∀ k, k < a.length → (a.getD k 0 == b.getD k 0) = true) ↔ a = b := by
      constructor
      · intro hh
        refine List.ext_getElem (by omega) fun i h1 h2 => ?_
        have := hh i h1
        rw [getD_nat 0 h1, getD_nat 0 h2] at this
        simpa using this
      · rintro rfl k hk
        simp
    by_cases h : a = b
    · rw [if_pos (he.2 h), decide_eq_true h]
    · rw [if_neg (fun hh => h (he.1 hh)), decide_eq_false h]
  · intro m i hi _
    rw [f109_l1, if_pos (by simp; omega), lAt_getD 0 hi, Option.bind_some, lAt_getD 0 (show i < b.length by omega), Option.bind_some, w64_id (by omega), show (i : Int) + 1 = ((i + 1 : Nat) : Int) by omega]
    by_cases h : a.getD i 0 = b.getD i 0
    · rw [if_neg (by simpa using h), if_pos (by simpa using h)]
    · rw [if_pos (by simpa using h), if_neg (by simpa using h)]

theorem f114_is (a b : List Int) (hl : a.length ≤ 1000000) (hn : a.length < n) (hl2 : b.length ≤ 1000000) (hn2 : b.length < n) : f114 n a b = some (decide (∀ x ∈ a, x ∈ b)) := by
  rw [f114, joinK, allLoop (f114_l1 n a b _) a.length (fun k => decide (a.getD k 0 ∈ b)) _ (fun m => by rw [f114_l1, if_neg (by simp)]) ?_ n hn]
  · have he : (∀ k, k < a.length → decide (a.getD k 0 ∈ b) = true) ↔ ∀ x ∈ a, x ∈ b := by
      constructor
      · intro hh x hx
        obtain ⟨i, hi, rfl⟩ := List.mem_iff_getElem.1 hx
        have := hh i hi
        rw [getD_nat 0 hi] at this
        simpa using this
      · intro hh k hk
        rw [getD_nat 0 hk]
        exact decide_eq_true (hh _ (List.getElem_mem hk))
    by_cases h : ∀ x ∈ a, x ∈ b
    · rw [if_pos (he.2 h), decide_eq_true h]
    · rw [if_neg (fun hh => h (he.1 hh)), decide_eq_false h]
  · intro m i hi _
    rw [f114_l1, if_pos (by simp; omega), lAt_getD 0 hi, Option.bind_some, f58_is _ _ hl2 hn2, Option.bind_some, w64_id (by omega), show (i : Int) + 1 = ((i + 1 : Nat) : Int) by omega]
    by_cases h : a.getD i 0 ∈ b
    · rw [decide_eq_true h, if_neg (by decide), if_pos rfl]
    · rw [decide_eq_false h, if_pos (by decide), if_neg (by decide)]

/-! ### choices -/

def ChV (c : Choose) : Prop := NmV c.Role ∧ (1 ≤ c.Set.length ∧ c.Set.length ≤ 8) ∧ AscV c.Set ∧ c.Device ∈ c.Set
instance (c : Choose) : Decidable (ChV c) := by unfold ChV; infer_instance
def likeP (a b : Choose) : Prop := a.Role = b.Role ∧ a.Set = b.Set
instance (a b : Choose) : Decidable (likeP a b) := by unfold likeP; infer_instance

theorem f82_is (hn : 100 ≤ n) (c : Choose) (hr : c.Role.size < n) (hm : c.Role.size ≤ 9223372036854775807) : f82 n c = some (decide (ChV c)) := by
  rw [f82, f110_is _ hm hr, Option.bind_some]
  by_cases h1 : NmV c.Role
  case neg => rw [if_neg (by simpa using h1), decide_eq_false (fun h => h1 h.1)]
  rw [if_pos (by simpa using h1)]
  by_cases h2 : (c.Set.length : Int) ≥ 1
  case neg => rw [if_neg (by simpa using h2), decide_eq_false (fun h => by have := h.2.1.1; omega)]
  rw [if_pos (by simpa using h2)]
  by_cases h3 : (c.Set.length : Int) ≤ 8
  case neg => rw [if_neg (by simpa using h3), decide_eq_false (fun h => by have := h.2.1.2; omega)]
  rw [if_pos (by simpa using h3), f90_is _ (by omega) (by omega), Option.bind_some]
  by_cases h4 : AscV c.Set
  case neg => rw [if_neg (by simpa using h4), decide_eq_false (fun h => h4 h.2.2.1)]
  rw [if_pos (by simpa using h4), f92_is _ _ (by omega) (by omega), Option.bind_some]
  exact congrArg some (decide_eq_decide.2 ⟨fun h => ⟨h1, ⟨by omega, by omega⟩, h4, h⟩, fun h => h.2.2.2⟩)

theorem f84_is (hn : 100 ≤ n) (c : Choose) (hr : c.Role.size < n) (hm : c.Role.size ≤ 9223372036854775807) : f84 n c = some (decide (ChV c)) := by
  rw [f84, f112_is _ hm hr, Option.bind_some]
  by_cases h1 : NmV c.Role
  case neg => rw [if_neg (by simpa using h1), decide_eq_false (fun h => h1 h.1)]
  rw [if_pos (by simpa using h1)]
  by_cases h2 : (c.Set.length : Int) ≥ 1
  case neg => rw [if_neg (by simpa using h2), decide_eq_false (fun h => by have := h.2.1.1; omega)]
  rw [if_pos (by simpa using h2)]
  by_cases h3 : (c.Set.length : Int) ≤ 8
  case neg => rw [if_neg (by simpa using h3), decide_eq_false (fun h => by have := h.2.1.2; omega)]
  rw [if_pos (by simpa using h3), f113_is _ (by omega) (by omega), Option.bind_some]
  by_cases h4 : AscV c.Set
  case neg => rw [if_neg (by simpa using h4), decide_eq_false (fun h => h4 h.2.2.1)]
  rw [if_pos (by simpa using h4), f58_is _ _ (by omega) (by omega), Option.bind_some]
  exact congrArg some (decide_eq_decide.2 ⟨fun h => ⟨h1, ⟨by omega, by omega⟩, h4, h⟩, fun h => h.2.2.2⟩)

theorem f81_is (hn : 100 ≤ n) (a b : Choose) (ha : ChV a) : f81 n a b = some (decide (likeP a b)) := by
  have hl := ha.2.1.2
  rw [f81, sEq_iff]
  by_cases h1 : a.Role = b.Role
  case neg => rw [if_neg (by simpa using h1), decide_eq_false (fun h => h1 h.1)]
  rw [if_pos (by simpa using h1), f109_is _ _ (by omega) (by omega), Option.bind_some]
  exact congrArg some (decide_eq_decide.2 ⟨fun h => ⟨h1, h⟩, fun h => h.2⟩)

theorem f85_is (hn : 100 ≤ n) (a b : Choose) (ha : ChV a) (hb : ChV b) : f85 n a b = some (decide (likeP a b)) := by
  have hl := ha.2.1.2
  have hl2 := hb.2.1.2
  rw [f85, sEq_iff]
  by_cases h1 : a.Role = b.Role
  case neg => rw [if_neg (by simpa using h1), decide_eq_false (fun h => h1 h.1)]
  rw [if_pos (by simpa using h1)]
  by_cases h2 : (a.Set.length : Int) = b.Set.length
  case neg => rw [if_neg (by simpa using h2), decide_eq_false (fun h => by have := congrArg List.length h.2; omega)]
  rw [if_pos (by simpa using h2), f114_is _ _ (by omega) (by omega) (by omega) (by omega), Option.bind_some]
  exact congrArg some (decide_eq_decide.2 ⟨fun h => ⟨h1, rise_eq ha.2.2.1.rise hb.2.2.1.rise h (by omega)⟩, fun h x hx => by rw [← h.2]; exact hx⟩)

theorem likeP_comm (a b : Choose) : likeP a b ↔ likeP b a := ⟨fun h => ⟨h.1.symm, h.2.symm⟩, fun h => ⟨h.1.symm, h.2.symm⟩⟩

/-! ### memories -/

def cz : Choose := ⟨⟨#[]⟩, [], 0⟩
def memAt (l : List Choose) (k : Nat) : Bool := decide (ChV (l.getD k cz)) && !((l.take k).any fun z => decide (likeP (l.getD k cz) z))
def MemV (m : Memory) : Prop := m.Choices.length ≤ 32 ∧ ∀ k, k < m.Choices.length → memAt m.Choices k = true
instance (m : Memory) : Decidable (MemV m) := by unfold MemV; infer_instance

theorem memAt_of {l : List Choose} {k : Nat} (h : memAt l k = true) : ChV (l.getD k cz) ∧ ∀ z ∈ l.take k, ¬ likeP (l.getD k cz) z := by
  unfold memAt at h
  simp only [Bool.and_eq_true, Bool.not_eq_true', decide_eq_true_eq] at h
  refine ⟨h.1, fun z hz hl => ?_⟩
  have := List.any_eq_false.1 h.2 z hz
  exact this (decide_eq_true hl)

theorem f83_is (l : List Choose) (p : Choose → Option Bool) (q : Choose → Bool) (hp : ∀ z ∈ l, p z = some (q z)) (hl : l.length ≤ 1000000) (hn : l.length < n) : f83 n l p = some (l.any q) := by
  rw [f83, f111, joinK]
  obtain ⟨v, h1, h2⟩ := idxLoop (f111_l1 n l p (fun _ => some (-1))) l cz q (fun m => by rw [f111_l1, if_neg (by simp)]) (fun m i hi => by
    rw [f111_l1, if_pos (by simp; omega), lAt_getD cz hi, Option.bind_some, hp _ (by rw [getD_nat cz hi]; exact List.getElem_mem hi), Option.bind_some, w64_id (by omega), show (i : Int) + 1 = ((i + 1 : Nat) : Int) by omega]) n hn
  rw [h1, Option.bind_some, h2]

def RolesOK (n : Nat) (l : List Choose) : Prop := ∀ c ∈ l, c.Role.size < n ∧ c.Role.size ≤ 9223372036854775807

theorem f45_is (hn : 100000 ≤ n) (m : Memory) (hr : RolesOK n m.Choices) : f45 n m = some (decide (MemV m)) := by
  rw [f45]
  by_cases h0 : (m.Choices.length : Int) > 32
  · rw [if_pos (by simpa using h0), decide_eq_false (fun h => by have := h.1; omega)]
  rw [if_neg (by simpa using h0), joinK, allLoop (f45_l1 n m (fun _ => some true)) m.Choices.length (memAt m.Choices) (some true) (fun q => by rw [f45_l1, if_neg (by simp)]) ?_ n (by omega)]
  · by_cases h : ∀ k, k < m.Choices.length → memAt m.Choices k = true
    · rw [if_pos h, decide_eq_true (show MemV m from ⟨by omega, h⟩)]
    · rw [if_neg h, decide_eq_false (fun hh => h hh.2)]
  · intro q i hi _
    have hri := hr (m.Choices.getD i cz) (by rw [getD_nat cz hi]; exact List.getElem_mem hi)
    rw [f45_l1, if_pos (by simp; omega), lAt_getD cz hi, Option.bind_some, joinK, joinK, show f82 n (⟨(m.Choices.getD i cz).Role, (m.Choices.getD i cz).Set, (m.Choices.getD i cz).Device⟩ : Choose) = some (decide (ChV (m.Choices.getD i cz))) from f82_is (by omega) _ hri.1 hri.2, Option.bind_some]
    unfold memAt
    by_cases h1 : ChV (m.Choices.getD i cz)
    case neg => rw [if_pos (by simpa using h1), decide_eq_false h1, Bool.false_and, if_neg (by simp)]
    rw [if_neg (by simpa using h1), decide_eq_true h1, Bool.true_and, lPart_eq (by omega), Option.bind_some, Int.toNat_natCast, show ((0 : Int).toNat) = 0 from rfl, List.drop_zero]
    rw [f83_is (m.Choices.take i) _ (fun z => decide (likeP (m.Choices.getD i cz) z)) (fun z _ => by
      rw [f80, show f81 n (⟨(m.Choices.getD i cz).Role, (m.Choices.getD i cz).Set, (m.Choices.getD i cz).Device⟩ : Choose) (⟨z.Role, z.Set, z.Device⟩ : Choose) = some (decide (likeP (m.Choices.getD i cz) z)) from f81_is (by omega) _ z h1]
      rfl) (by simp; omega) (by simp; omega), Option.bind_some]
    dsimp only
    rw [w64_id (by omega), show (i : Int) + 1 = ((i + 1 : Nat) : Int) by omega]
    cases (m.Choices.take i).any fun z => decide (likeP (m.Choices.getD i cz) z) <;> rfl

theorem f46_is (hn : 100000 ≤ n) (m : Memory) (hr : RolesOK n m.Choices) (hl : m.Choices.length ≤ 90000) : f46 n m = some (decide (MemV m)) := by
  rw [f46, joinK, allLoop (f46_l1 n m _) m.Choices.length (memAt m.Choices) (some (decide ((m.Choices.length : Int) ≤ 32))) (fun q => by rw [f46_l1, if_neg (by simp)]) ?_ n (by omega)]
  · by_cases h : ∀ k, k < m.Choices.length → memAt m.Choices k = true
    · rw [if_pos h]
      exact congrArg some (decide_eq_decide.2 ⟨fun hh => ⟨by omega, h⟩, fun hh => by have := hh.1; omega⟩)
    · rw [if_neg h, decide_eq_false (fun hh => h hh.2)]
  · intro q i hi hb
    have hri := hr (m.Choices.getD i cz) (by rw [getD_nat cz hi]; exact List.getElem_mem hi)
    rw [f46_l1, if_pos (by simp; omega), joinK, lAt_getD cz hi, Option.bind_some, f84_is (by omega) _ hri.1 hri.2, Option.bind_some]
    unfold memAt
    by_cases h1 : ChV (m.Choices.getD i cz)
    case neg => rw [if_pos (by simpa using h1), decide_eq_false h1, Bool.false_and, if_neg (by simp)]
    rw [if_neg (by simpa using h1), decide_eq_true h1, Bool.true_and]
    have inner := exLoop (f46_l2 n m (i : Int) (fun _ => f46_l1 n m (fun _ => some (decide ((m.Choices.length : Int) ≤ 32))) q (w64 ((i : Int) + 1)))) i (fun k => decide (likeP (m.Choices.getD i cz) (m.Choices.getD k cz))) (fun _ => some false) (f46_l1 n m (fun _ => some (decide ((m.Choices.length : Int) ≤ 32))) q (w64 ((i : Int) + 1))) (fun q => by rw [f46_l2, if_neg (by simp)]) (fun q k hk => by
      have hk1 := (memAt_of (hb k hk)).1
      rw [f46_l2, if_pos (by simp; omega), lAt_getD cz hi, Option.bind_some, lAt_getD cz (show k < m.Choices.length by omega), Option.bind_some, f85_is (by omega) _ _ h1 hk1, Option.bind_some, w64_id (x := (k : Int) + 1) (by omega), show (k : Int) + 1 = ((k + 1 : Nat) : Int) by omega]) n (by omega)
    obtain ⟨g1, g2⟩ := inner
    have hany : ((m.Choices.take i).any fun z => decide (likeP (m.Choices.getD i cz) z)) = true ↔ ∃ k, k < i ∧ decide (likeP (m.Choices.getD i cz) (m.Choices.getD k cz)) = true := by
      have ht : ∀ k, k < i → (m.Choices.take i).getD k cz = m.Choices.getD k cz := fun k hk => by
        rw [getD_nat cz (show k < (m.Choices.take i).length by rw [List.length_take]; omega), getD_nat cz (show k < m.Choices.length by omega), List.getElem_take]
      rw [any_getD _ cz]
      constructor
      · rintro ⟨k, k1, k2⟩
        rw [List.length_take] at k1
        rw [ht k (by omega)] at k2
        exact ⟨k, by omega, k2⟩
      · rintro ⟨k, k1, k2⟩
        refine ⟨k, by rw [List.length_take]; omega, ?_⟩
        rw [ht k k1]
        exact k2
    by_cases h2 : ∃ k, k < i ∧ decide (likeP (m.Choices.getD i cz) (m.Choices.getD k cz)) = true
    · obtain ⟨k, k1, k2, k3⟩ := first_of _ h2
      rw [g2 k k1 k2 k3, hany.2 h2]
      rfl
    · rw [g1 (fun k hk => by
        cases hx : decide (likeP (m.Choices.getD i cz) (m.Choices.getD k cz)) with
        | false => rfl
        | true => exact absurd ⟨k, hk, hx⟩ h2)]
      have h3 : ((m.Choices.take i).any fun z => decide (likeP (m.Choices.getD i cz) z)) = false := by
        cases hx : (m.Choices.take i).any fun z => decide (likeP (m.Choices.getD i cz) z) with
        | false => rfl
        | true => exact absurd (hany.1 hx) h2
      rw [h3, w64_id (by omega), show (i : Int) + 1 = ((i + 1 : Nat) : Int) by omega]
      rfl

end
end Go.Proofs.Ytacdknbakjbpiaa
