/-
  Plain laws of choices: one more choice; what is found; what is left.
-/
import Derived.Test.YtacdknbakjbpiaaC2
namespace Go.Proofs.Ytacdknbakjbpiaa
open Go Ab

theorem memV_iff (m : Memory) : MemV m ↔ m.Choices.length ≤ 32 ∧ (∀ c ∈ m.Choices, ChV c) ∧ m.Choices.Pairwise fun a b => ¬ likeP b a := by
  constructor
  · intro h
    refine ⟨h.1, fun c hc => ?_, ?_⟩
    · obtain ⟨i, hi, rfl⟩ := List.mem_iff_getElem.1 hc
      have := (memAt_of (h.2 i hi)).1
      rwa [getD_nat cz hi] at this
    · rw [List.pairwise_iff_getElem]
      intro i j hi hj hij
      have := (memAt_of (h.2 j hj)).2 m.Choices[i] (by
        rw [List.mem_iff_getElem]
        exact ⟨i, by rw [List.length_take]; omega, by rw [List.getElem_take]⟩)
      rwa [getD_nat cz hj] at this
  · rintro ⟨h1, h2, h3⟩
    refine ⟨h1, fun k hk => ?_⟩
    unfold memAt
    rw [getD_nat cz hk, decide_eq_true (h2 _ (List.getElem_mem hk)), Bool.true_and, Bool.not_eq_true', List.any_eq_false]
    intro z hz
    obtain ⟨i, hi, rfl⟩ := List.mem_iff_getElem.1 hz
    rw [List.length_take] at hi
    rw [List.getElem_take]
    have := List.pairwise_iff_getElem.1 h3 i k (by omega) hk (by omega)
    simpa using this

def remF (l : List Choose) (c : Choose) : List Choose := l.filter fun d => !decide (likeP c d)
def remL (l : List Choose) (c : Choose) : List Choose := (remF l c ++ [c]).drop ((remF l c).length + 1 - 32)
def remS (m : Memory) (c : Choose) : Memory × Int := if MemV m then (if ChV c then (⟨remL m.Choices c⟩, 0) else (⟨[]⟩, 2)) else (⟨[]⟩, 1)

theorem remF_len (l : List Choose) (c : Choose) : (remF l c).length ≤ l.length := List.length_filter_le _ _
theorem remL_eq (l : List Choose) (c : Choose) (_h : l.length ≤ 32) : remL l c = (remF l c).drop ((remF l c).length + 1 - 32) ++ [c] := by
  have := remF_len l c
  rw [remL, List.drop_append_of_le_length (by omega)]

theorem remL_V {l : List Choose} {c : Choose} (h : MemV ⟨l⟩) (hc : ChV c) : MemV ⟨remL l c⟩ := by
  obtain ⟨h1, h2, h3⟩ := (memV_iff _).1 h
  dsimp only at h1 h2 h3
  have hf := remF_len l c
  refine (memV_iff _).2 ⟨?_, fun d hd => ?_, ?_⟩
  · show (remL l c).length ≤ 32
    rw [remL, List.length_drop, List.length_append, List.length_singleton]
    omega
  · rcases List.mem_append.1 (List.mem_of_mem_drop hd) with hd | hd
    · exact h2 d ((List.mem_filter.1 hd).1)
    · simp at hd
      subst hd
      exact hc
  · refine List.Pairwise.sublist (List.drop_sublist _ _) (List.pairwise_append.2 ⟨h3.filter _, by simp, fun a ha b hb => ?_⟩)
    simp at hb
    subst hb
    have := (List.mem_filter.1 ha).2
    simpa using this

section
variable {n : Nat}

theorem f88_is (l : List Int) (h : l.length ≤ 30000000000) : f88 n l = some l := by
  rw [f88, lApp_eq (by simpa using h), Option.bind_some]
  rfl

theorem f86s87_l1_is (hn : 100000 ≤ n) (m : Memory) (c : Choose) (hm : m.Choices.length ≤ 90000) (hV : ∀ d ∈ m.Choices, ChV d) (hc : ChV c) (j : List Choose → List Choose → Option Memory) (v : List Choose) : ∀ (q p i : Nat) (acc : List Choose), i + q = m.Choices.length → q < p → acc.length ≤ i →
    f86s87_l1 n m c j p v acc (i : Int) = j v (acc ++ remF (m.Choices.drop i) c) := by
  intro q
  induction q with
  | zero =>
    intro p i acc h1 h2 h3
    obtain ⟨p, rfl⟩ : ∃ q, p = q + 1 := ⟨p - 1, by omega⟩
    rw [f86s87_l1, if_neg (by simp; omega), List.drop_eq_nil_of_le (by omega), remF, List.filter_nil, List.append_nil]
  | succ q ih =>
    intro p i acc h1 h2 h3
    obtain ⟨p, rfl⟩ : ∃ q, p = q + 1 := ⟨p - 1, by omega⟩
    have hi : i < m.Choices.length := by omega
    have hd := hV _ (List.getElem_mem hi)
    rw [f86s87_l1, if_pos (by simp; omega)]
    simp only [joinK]
    rw [lAt_nat hi, Option.bind_some, List.drop_eq_getElem_cons hi, remF, List.filter_cons, w64_id (by omega), show (i : Int) + 1 = ((i + 1 : Nat) : Int) by omega]
    generalize m.Choices[i] = d at hd
    have hl := hd.2.1.2
    rw [f87, show f81 n (⟨c.Role, c.Set, c.Device⟩ : Choose) (⟨d.Role, d.Set, d.Device⟩ : Choose) = some (decide (likeP c d)) from f81_is (by omega) c d hc, Option.bind_some, Option.bind_some]
    by_cases h : likeP c d
    · rw [if_neg (by simpa using h), if_neg (by simpa using h), ih _ _ _ (by omega) (by omega) (by omega)]
      rfl
    · rw [if_pos (by simpa using h), if_pos (by simpa using h), f88_is _ (by omega), Option.bind_some, lApp_eq (by simp; omega), Option.bind_some, ih _ _ _ (by omega) (by omega) (by simp; omega), List.append_assoc]
      rfl

theorem f47_is (hn : 100000 ≤ n) (m : Memory) (c : Choose) (hr : RolesOK n m.Choices) (hcr : c.Role.size < n) (hcm : c.Role.size ≤ 9223372036854775807) : f47 n m c = some (remS m c) := by
  rw [f47, show f45 n (⟨m.Choices⟩ : Memory) = some (decide (MemV m)) from f45_is hn m hr, Option.bind_some, remS]
  by_cases hv : MemV m
  case neg => rw [if_pos (by simpa using hv), if_neg hv]
  rw [if_neg (by simpa using hv), if_pos hv, show f82 n (⟨c.Role, c.Set, c.Device⟩ : Choose) = some (decide (ChV c)) from f82_is (by omega) c hcr hcm, Option.bind_some]
  by_cases hc : ChV c
  case neg => rw [if_pos (by simpa using hc), if_neg hc]
  obtain ⟨h1, h2, _⟩ := (memV_iff _).1 hv
  have hl := hc.2.1.2
  have hf := remF_len m.Choices c
  have := fun j => f86s87_l1_is hn m c (by omega) h2 hc j [] m.Choices.length n 0 [] (by omega) (by omega) (by simp)
  rw [show ((0 : Nat) : Int) = 0 from rfl] at this
  rw [if_neg (by simpa using hc), if_pos hc, f86s87, joinK]
  rw [this, List.drop_zero, List.nil_append, Option.bind_some, f88_is _ (by omega), Option.bind_some, lApp_eq (by simp; omega), Option.bind_some, joinK, remL]
  dsimp only
  by_cases h33 : ((remF m.Choices c ++ [c]).length : Int) > 32
  · rw [if_pos (by simpa using h33)]
    rw [List.length_append, List.length_singleton] at h33
    rw [lPart_eq (by simp; omega), Option.bind_some, Int.toNat_natCast, List.take_length, show (1 : Int).toNat = 1 from rfl, show (remF m.Choices c).length + 1 - 32 = 1 by omega]
  · rw [if_neg (by simpa using h33)]
    rw [List.length_append, List.length_singleton] at h33
    rw [show (remF m.Choices c).length + 1 - 32 = 0 by omega, List.drop_zero]

theorem f48_l1_is (hn : 100000 ≤ n) (m : Memory) (c : Choose) (hm : m.Choices.length ≤ 90000) (hV : ∀ d ∈ m.Choices, ChV d) (hc : ChV c) (j : List Choose → Option (Memory × Int)) : ∀ (q p i : Nat) (acc : List Choose), i + q = m.Choices.length → q < p → acc.length ≤ i →
    f48_l1 n m c j p acc (i : Int) = j (acc ++ remF (m.Choices.drop i) c) := by
  intro q
  induction q with
  | zero =>
    intro p i acc h1 h2 h3
    obtain ⟨p, rfl⟩ : ∃ q, p = q + 1 := ⟨p - 1, by omega⟩
    rw [f48_l1, if_neg (by simp; omega), List.drop_eq_nil_of_le (by omega), remF, List.filter_nil, List.append_nil]
  | succ q ih =>
    intro p i acc h1 h2 h3
    obtain ⟨p, rfl⟩ : ∃ q, p = q + 1 := ⟨p - 1, by omega⟩
    have hi : i < m.Choices.length := by omega
    have hd := hV _ (List.getElem_mem hi)
    rw [f48_l1, if_pos (by simp; omega)]
    simp only [joinK]
    rw [lAt_nat hi, Option.bind_some, List.drop_eq_getElem_cons hi, remF, List.filter_cons, w64_id (by omega), show (i : Int) + 1 = ((i + 1 : Nat) : Int) by omega]
    generalize m.Choices[i] = d at hd
    have hcm := likeP_comm d c
    rw [show f85 n d (⟨c.Role, c.Set, c.Device⟩ : Choose) = some (decide (likeP d c)) from f85_is (by omega) d c hd hc, Option.bind_some]
    by_cases h : likeP c d
    · rw [if_neg (by simpa using hcm.2 h), if_neg (by simpa using h), ih _ _ _ (by omega) (by omega) (by omega)]
      rfl
    · rw [if_pos (by simpa using fun hh => h (hcm.1 hh)), if_pos (by simpa using h), Option.bind_some, lApp_eq (by simp; omega), Option.bind_some, ih _ _ _ (by omega) (by omega) (by simp; omega), List.append_assoc]
      rfl

theorem f48_is (hn : 100000 ≤ n) (m : Memory) (c : Choose) (hr : RolesOK n m.Choices) (hml : m.Choices.length ≤ 90000) (hcr : c.Role.size < n) (hcm : c.Role.size ≤ 9223372036854775807) : f48 n m c = some (remS m c) := by
  rw [f48, show f46 n (⟨m.Choices⟩ : Memory) = some (decide (MemV m)) from f46_is hn m hr hml, Option.bind_some, remS]
  by_cases hv : MemV m
  case neg => rw [if_pos (by simpa using hv), if_neg hv]
  rw [if_neg (by simpa using hv), if_pos hv, show f84 n (⟨c.Role, c.Set, c.Device⟩ : Choose) = some (decide (ChV c)) from f84_is (by omega) c hcr hcm, Option.bind_some]
  by_cases hc : ChV c
  case neg => rw [if_pos (by simpa using hc), if_neg hc]
  obtain ⟨h1, h2, _⟩ := (memV_iff _).1 hv
  have hl := hc.2.1.2
  have hf := remF_len m.Choices c
  have := fun j => f48_l1_is hn m c (by omega) h2 hc j m.Choices.length n 0 [] (by omega) (by omega) (by simp)
  rw [show ((0 : Nat) : Int) = 0 from rfl] at this
  rw [if_neg (by simpa using hc), if_pos hc, joinK, this, List.drop_zero, List.nil_append, lApp_eq (by simp; omega), Option.bind_some, List.nil_append, lApp_eq (by simp; omega), Option.bind_some, remL]
  have hx : iMax 0 (w64 (((remF m.Choices c ++ [c]).length : Int) - 32)) = (((remF m.Choices c).length + 1 - 32 : Nat) : Int) := by
    rw [List.length_append, List.length_singleton, w64_id (by omega)]
    unfold iMax
    split <;> omega
  rw [show (⟨c.Role, c.Set, c.Device⟩ : Choose) = c from rfl, hx, lPart_eq (by rw [List.length_append, List.length_singleton]; omega), Option.bind_some, Int.toNat_natCast, Int.toNat_natCast, List.take_length]

/-! ### the same -/

theorem f89_refl (l : List Int) (hl : l.length ≤ 1000000) (hn : l.length < n) : f89 n l l = some true := by
  rw [f89, if_neg (by simp), joinK, allLoop (f89_l1 n l l _) l.length (fun _ => true) (some true) (fun m => by rw [f89_l1, if_neg (by simp)]) ?_ n (by omega)]
  · rw [if_pos (fun _ _ => rfl)]
  · intro m i hi _
    rw [f89_l1, if_pos (by simp; omega), lAt_getD 0 hi, Option.bind_some, Option.bind_some, if_neg (by simp), w64_id (by omega), show (i : Int) + 1 = ((i + 1 : Nat) : Int) by omega, if_pos rfl]

theorem f49_refl (hn : 100000 ≤ n) (m : Memory) (hm : m.Choices.length ≤ 90000) (hs : ∀ c ∈ m.Choices, c.Set.length ≤ 1000) : f49 n m m = some true := by
  rw [f49, if_neg (by simp), joinK, allLoop (f49_l1 n m m _) m.Choices.length (fun _ => true) (some true) (fun m => by rw [f49_l1, if_neg (by simp)]) ?_ n (by omega)]
  · rw [if_pos (fun _ _ => rfl)]
  · intro q i hi _
    have := hs (m.Choices.getD i cz) (by rw [getD_nat cz hi]; exact List.getElem_mem hi)
    rw [f49_l1, if_pos (by simp; omega), lAt_getD cz hi, Option.bind_some, Option.bind_some, joinK, joinK, sEq_self, if_neg (by decide), if_neg (by simp), f89_refl _ (by omega) (by omega), Option.bind_some]
    dsimp only
    rw [if_neg (by decide), w64_id (by omega), show (i : Int) + 1 = ((i + 1 : Nat) : Int) by omega, if_pos rfl]

theorem remS_small (m : Memory) (c : Choose) : (remS m c).1.Choices.length ≤ 90000 ∧ ∀ d ∈ (remS m c).1.Choices, d.Set.length ≤ 1000 := by
  unfold remS
  split
  · rename_i hm
    split
    · rename_i hc
      have := remL_V (l := m.Choices) hm hc
      obtain ⟨h1, h2, _⟩ := (memV_iff _).1 this
      dsimp only at h1 h2 ⊢
      exact ⟨by omega, fun d hd => by have := (h2 d hd).2.1.2; omega⟩
    · exact ⟨Nat.zero_le _, fun d hd => by cases hd⟩
  · exact ⟨Nat.zero_le _, fun d hd => by cases hd⟩

/-! ### what is found -/

def lkF (role : ByteArray) (set : List Int) : List Choose → Int → Nat → Int
  | [], dev, _ => dev
  | c :: l, dev, most => if c.Role = role ∧ most ≤ c.Set.length ∧ (∀ x ∈ c.Set, x ∈ set) then lkF role set l c.Device c.Set.length else lkF role set l dev most
def lookS (m : Memory) (role : ByteArray) (set : List Int) : Int := if MemV m ∧ AscV set then lkF role set m.Choices 0 0 else 0

theorem any_notC {α : Type} (p : α → Prop) [DecidablePred p] (l : List α) : (!(l.any fun x => !decide (p x))) = decide (∀ x ∈ l, p x) := by
  induction l with
  | nil => simp
  | cons x l ih =>
    rw [List.any_cons, Bool.not_or, ih, Bool.not_not, ← Bool.decide_and]
    exact decide_eq_decide.2 ⟨fun h y hy => by
      rcases List.mem_cons.1 hy with rfl | hy
      · exact h.1
      · exact h.2 y hy, fun h => ⟨h x (.head _), fun y hy => h y (.tail _ hy)⟩⟩

theorem f93_is (l : List Int) (p : Int → Option Bool) (q : Int → Bool) (hp : ∀ z, p z = some (q z)) (hl : l.length ≤ 1000000) (hn : l.length < n) : f93 n l p = some (l.any q) := by
  rw [f93, f116, joinK]
  obtain ⟨v, h1, h2⟩ := idxLoop (f116_l1 n l p (fun _ => some (-1))) l 0 q (fun m => by rw [f116_l1, if_neg (by simp)]) (fun m i hi => by
    rw [f116_l1, if_pos (by simp; omega), lAt_getD 0 hi, Option.bind_some, hp, Option.bind_some, w64_id (by omega), show (i : Int) + 1 = ((i + 1 : Nat) : Int) by omega]) n hn
  rw [h1, Option.bind_some, h2]

theorem f50_l1_is (hn : 100000 ≤ n) (m : Memory) (role : ByteArray) (set : List Int) (hs : set.length ≤ 1000) (hm : m.Choices.length ≤ 90000) (hV : ∀ d ∈ m.Choices, ChV d) (j : Int → Option Int) : ∀ (q p i : Nat) (dev : Int) (most : Nat), i + q = m.Choices.length → q < p →
    f50_l1 n m role set j p dev (most : Int) (i : Int) = j (lkF role set (m.Choices.drop i) dev most) := by
  intro q
  induction q with
  | zero =>
    intro p i dev most h1 h2
    obtain ⟨p, rfl⟩ : ∃ q, p = q + 1 := ⟨p - 1, by omega⟩
    rw [f50_l1, if_neg (by simp; omega), List.drop_eq_nil_of_le (by omega), lkF]
  | succ q ih =>
    intro p i dev most h1 h2
    obtain ⟨p, rfl⟩ : ∃ q, p = q + 1 := ⟨p - 1, by omega⟩
    have hi : i < m.Choices.length := by omega
    have hd := hV _ (List.getElem_mem hi)
    rw [f50_l1, if_pos (by simp; omega)]
    simp only [joinK]
    rw [lAt_nat hi, Option.bind_some, List.drop_eq_getElem_cons hi, lkF, w64_id (by omega), show (i : Int) + 1 = ((i + 1 : Nat) : Int) by omega]
    generalize m.Choices[i] = d at hd
    have hl := hd.2.1.2
    rw [sEq_iff]
    by_cases g1 : d.Role = role
    case neg => rw [if_neg (by simpa using g1), ih _ _ _ _ (by omega) (by omega), if_neg (fun h => g1 h.1)]
    rw [if_pos (by simpa using g1)]
    by_cases g2 : most ≤ d.Set.length
    case neg => rw [if_neg (by simp; omega), ih _ _ _ _ (by omega) (by omega), if_neg (fun h => g2 h.2.1)]
    rw [if_pos (by simp; omega), f93_is d.Set _ (fun z => !decide (z ∈ set)) (fun z => by rw [f91, f92_is _ _ (by omega) (by omega), Option.bind_some]) (by omega) (by omega), Option.bind_some, any_notC]
    by_cases g3 : ∀ x ∈ d.Set, x ∈ set
    · rw [if_pos (by simpa using g3), ih _ _ _ _ (by omega) (by omega), if_pos ⟨g1, g2, g3⟩]
    · rw [if_neg (by simpa using g3), ih _ _ _ _ (by omega) (by omega), if_neg (fun h => g3 h.2.2)]

theorem rolesOK_of (hn : 100000 ≤ n) {l : List Choose} (h : ∀ c ∈ l, ChV c) : RolesOK n l := fun c hc => by
  have := (h c hc).1.2.2
  omega

theorem f50_is (hn : 100000 ≤ n) (m : Memory) (role : ByteArray) (set : List Int) (hr : RolesOK n m.Choices) (hs : set.length ≤ 1000) : f50 n m role set = some (lookS m role set) := by
  rw [f50]
  simp only [joinK]
  rw [show f45 n (⟨m.Choices⟩ : Memory) = some (decide (MemV m)) from f45_is hn m hr, Option.bind_some, lookS]
  by_cases hv : MemV m
  case neg => rw [if_pos (by simpa using hv), if_neg (fun h => hv h.1)]
  rw [if_neg (by simpa using hv), f90_is _ (by omega) (by omega), Option.bind_some]
  by_cases ha : AscV set
  case neg => rw [if_pos (by simpa using ha), if_neg (fun h => ha h.2)]
  obtain ⟨h1, h2, _⟩ := (memV_iff _).1 hv
  have := fun j => f50_l1_is hn m role set hs (by omega) h2 j m.Choices.length n 0 0 0 (by omega) (by omega)
  rw [show ((0 : Nat) : Int) = 0 from rfl] at this
  rw [if_neg (by simpa using ha), if_pos ⟨hv, ha⟩, this, List.drop_zero]

/-! ### what is left -/

def forL (l : List Choose) (x : Int) : List Choose := l.filter fun d => !(d.Device == x)

theorem f86s95_l1_is (m : Memory) (x : Int) (hm : m.Choices.length ≤ 90000) (hV : ∀ d ∈ m.Choices, ChV d) (j : List Choose → List Choose → Option Memory) (v : List Choose) : ∀ (q p i : Nat) (acc : List Choose), i + q = m.Choices.length → q < p → acc.length ≤ i →
    f86s95_l1 n m true x j p v acc (i : Int) = j v (acc ++ forL (m.Choices.drop i) x) := by
  intro q
  induction q with
  | zero =>
    intro p i acc h1 h2 h3
    obtain ⟨p, rfl⟩ : ∃ q, p = q + 1 := ⟨p - 1, by omega⟩
    rw [f86s95_l1, if_neg (by simp; omega), List.drop_eq_nil_of_le (by omega), forL, List.filter_nil, List.append_nil]
  | succ q ih =>
    intro p i acc h1 h2 h3
    obtain ⟨p, rfl⟩ : ∃ q, p = q + 1 := ⟨p - 1, by omega⟩
    have hi : i < m.Choices.length := by omega
    have hd := hV _ (List.getElem_mem hi)
    rw [f86s95_l1, if_pos (by simp; omega)]
    simp only [joinK]
    rw [lAt_nat hi, Option.bind_some, List.drop_eq_getElem_cons hi, forL, List.filter_cons, w64_id (by omega), show (i : Int) + 1 = ((i + 1 : Nat) : Int) by omega]
    generalize m.Choices[i] = d at hd
    have hl := hd.2.1.2
    rw [f95, if_pos rfl, Option.bind_some]
    cases h : (d.Device == x) with
    | true =>
      rw [if_neg (by decide), if_neg (by decide), ih _ _ _ (by omega) (by omega) (by omega)]
      rfl
    | false =>
      rw [if_pos (by decide), if_pos (by decide), f88_is _ (by omega), Option.bind_some, lApp_eq (by simp; omega), Option.bind_some, ih _ _ _ (by omega) (by omega) (by simp; omega), List.append_assoc]
      rfl

theorem f59_is (hn : 100000 ≤ n) (m : Memory) (x : Int) (hv : MemV m) : f59 n m x = some ⟨forL m.Choices x⟩ := by
  obtain ⟨h1, h2, _⟩ := (memV_iff _).1 hv
  have := fun j => f86s95_l1_is (n := n) m x (by omega) h2 j [] m.Choices.length n 0 [] (by omega) (by omega) (by simp)
  rw [show ((0 : Nat) : Int) = 0 from rfl] at this
  rw [f59, show f45 n (⟨m.Choices⟩ : Memory) = some (decide (MemV m)) from f45_is hn m (rolesOK_of hn h2), Option.bind_some, decide_eq_true hv, f86s95, joinK]
  rw [this, List.drop_zero, List.nil_append, Option.bind_some]

/-! ### what is found, as a law -/

theorem lkF_last {c : Choose} (hc : ChV c) : ∀ (l : List Choose) (dev : Int) (most : Nat), (∀ d ∈ l, ChV d) → most ≤ c.Set.length → lkF c.Role c.Set (l ++ [c]) dev most = c.Device
  | [], dev, most, _, h => by
    show lkF c.Role c.Set (c :: []) dev most = _
    rw [lkF, if_pos ⟨rfl, h, fun x hx => hx⟩, lkF]
  | d :: l, dev, most, hV, h => by
    show lkF c.Role c.Set (d :: (l ++ [c])) dev most = _
    rw [lkF]
    split
    · rename_i hd
      exact lkF_last hc l _ _ (fun e he => hV e (.tail _ he)) (rise_len (hV d (.head _)).2.2.1.rise hc.2.2.1.rise hd.2.2)
    · exact lkF_last hc l _ _ (fun e he => hV e (.tail _ he)) h

theorem lkF_filter {role : ByteArray} {set : List Int} {p : Choose → Bool} : ∀ (l : List Choose) (dev : Int) (most : Nat), (∀ d ∈ l, p d = false → d.Role ≠ role) → lkF role set (l.filter p) dev most = lkF role set l dev most
  | [], _, _, _ => rfl
  | d :: l, dev, most, h => by
    rw [List.filter_cons]
    have ih := fun dev most => lkF_filter (set := set) l dev most fun e he => h e (.tail _ he)
    split
    · rw [lkF, lkF, ih, ih]
    · rename_i hp
      rw [ih, lkF, if_neg (fun hh => h d (.head _) (by simpa using hp) hh.1)]

theorem lkF_app {role : ByteArray} {set : List Int} {c : Choose} (hc : c.Role ≠ role) : ∀ (l : List Choose) (dev : Int) (most : Nat), lkF role set (l ++ [c]) dev most = lkF role set l dev most
  | [], dev, most => by
    show lkF role set (c :: []) dev most = lkF role set [] dev most
    rw [lkF.eq_2, if_neg (fun h => hc h.1)]
  | d :: l, dev, most => by
    show lkF role set (d :: (l ++ [c])) dev most = _
    rw [lkF, lkF, lkF_app hc l, lkF_app hc l]

theorem lkF_from {role : ByteArray} {set : List Int} : ∀ (l : List Choose) (dev : Int) (most : Nat), lkF role set l dev most = dev ∨ ∃ d ∈ l, lkF role set l dev most = d.Device ∧ ∀ x ∈ d.Set, x ∈ set
  | [], _, _ => .inl rfl
  | d :: l, dev, most => by
    rw [lkF]
    split
    · rename_i h
      rcases lkF_from l d.Device d.Set.length with e | ⟨e, he, h1, h2⟩
      · exact .inr ⟨d, .head _, e, h.2.2⟩
      · exact .inr ⟨e, .tail _ he, h1, h2⟩
    · rcases lkF_from l dev most with e | ⟨e, he, h1, h2⟩
      · exact .inl e
      · exact .inr ⟨e, .tail _ he, h1, h2⟩

end
end Go.Proofs.Ytacdknbakjbpiaa
