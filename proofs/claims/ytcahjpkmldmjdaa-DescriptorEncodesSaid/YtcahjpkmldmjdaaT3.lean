/-
  Plain laws of descriptors: descriptors that are made; the sanity check.
-/
import Derived.Test.YtcahjpkmldmjdaaT2
namespace Go.Proofs.Ytcahjpkmldmjdaa
open Go Ab

def DiceOK (d : Dice) : Prop := AreBytes d.l ∧ d.l.length ≤ 1000

theorem f72_is {n : Nat} (d : Dice) (hd : DiceOK d) (k : Int) (hk : 1 ≤ k ∧ k ≤ 1000) : ∃ (v : Int) (d' : Dice), f72 n d k = some (v, d') ∧ 0 ≤ v ∧ v < k ∧ DiceOK d' := by
  obtain ⟨hb, hl⟩ := hd
  rw [f72, joinK, joinK]
  by_cases h1 : (d.l.length : Int) = 0
  · rw [if_pos (by simpa using h1)]
    exact ⟨0, d, rfl, by omega, by omega, hb, hl⟩
  rw [if_neg (by simpa using h1)]
  by_cases h2 : k ≤ 1
  · rw [if_pos (by simpa using h2)]
    exact ⟨0, d, rfl, by omega, by omega, hb, hl⟩
  rw [if_neg (by simpa using h2), lAt_eq (by omega), Option.bind_some, lPart_eq (by omega), Option.bind_some, iRem_eq (by omega), Option.bind_some]
  have hb0 := hb _ (List.getElem_mem (show (0 : Int).toNat < d.l.length by omega))
  rw [w64_id (by omega), Int.tmod_eq_emod_of_nonneg hb0.1]
  exact ⟨_, _, rfl, Int.emod_nonneg _ (by omega), Int.emod_lt_of_pos _ (by omega), drop_bytes (take_bytes hb _) _, by simp; omega⟩

theorem f69_is {n : Nat} (l : List Int) (hl : AreBytes l) (hll : l.length ≤ 9223372036854775807) : ∃ d : Dice, f69 n l = some d ∧ DiceOK d := by
  have e : iMin (l.length : Int) 300 = min (l.length : Int) 300 := by unfold iMin; split <;> omega
  rw [f69, e, lPart_eq (by omega), Option.bind_some]
  exact ⟨_, rfl, drop_bytes (take_bytes hl _) _, by simp; omega⟩

/-- The choices of some of a list, in order. -/
def subs {α : Type} : List α → List (List α)
  | [] => [[]]
  | x :: l => (subs l).map (x :: ·) ++ subs l

theorem f119_l1_is {n : Nat} (sps : List Span) (hl : sps.length ≤ 100) : ∀ (d m i : Nat) (dl : Dice) (acc : List Span), i + d = sps.length → d < m → DiceOK dl → acc.length + d ≤ 1000 →
    ∃ (dl' : Dice) (r : List Span), r ∈ subs (sps.drop i) ∧ DiceOK dl' ∧ ∀ j, f119_l1 n sps j m dl.l acc (i : Int) = j dl'.l (acc ++ r) := by
  intro d
  induction d with
  | zero =>
    intro m i dl acc h1 h2 h3 h4
    obtain ⟨m, rfl⟩ : ∃ q, m = q + 1 := ⟨m - 1, by omega⟩
    exact ⟨dl, [], by rw [List.drop_eq_nil_of_le (by omega)]; exact .head _, h3, fun j => by rw [f119_l1, if_neg (by simp; omega), List.append_nil]⟩
  | succ d ih =>
    intro m i dl acc h1 h2 h3 h4
    obtain ⟨m, rfl⟩ : ∃ q, m = q + 1 := ⟨m - 1, by omega⟩
    obtain ⟨v, d1, e1, v1, v2, v3⟩ := f72_is (n := n) dl h3 2 (by omega)
    have hd : sps.drop i = sps[i] :: sps.drop (i + 1) := List.drop_eq_getElem_cons (by omega)
    by_cases hv : v = 1
    · obtain ⟨dl', r, p1, p2, p3⟩ := ih m (i + 1) d1 (acc ++ [sps[i]]) (by omega) (by omega) v3 (by simp; omega)
      refine ⟨dl', sps[i] :: r, by rw [hd]; exact List.mem_append_left _ (List.mem_map.2 ⟨r, p1, rfl⟩), p2, fun j => ?_⟩
      rw [f119_l1, if_pos (by simp; omega), joinK, lAt_nat (by omega), Option.bind_some, show f72 n (⟨dl.l⟩ : Dice) 2 = some (v, d1) from e1, Option.bind_some, if_pos (by simpa using hv), lApp_eq (by simp; omega), Option.bind_some, w64_id (by omega), show (i : Int) + 1 = ((i + 1 : Nat) : Int) by omega]
      dsimp only
      rw [p3, List.append_assoc]
      rfl
    · obtain ⟨dl', r, p1, p2, p3⟩ := ih m (i + 1) d1 acc (by omega) (by omega) v3 (by omega)
      refine ⟨dl', r, by rw [hd]; exact List.mem_append_right _ p1, p2, fun j => ?_⟩
      rw [f119_l1, if_pos (by simp; omega), joinK, lAt_nat (by omega), Option.bind_some, show f72 n (⟨dl.l⟩ : Dice) 2 = some (v, d1) from e1, Option.bind_some, if_neg (by simpa using hv), w64_id (by omega), show (i : Int) + 1 = ((i + 1 : Nat) : Int) by omega]
      dsimp only
      rw [p3]

def setFine (lo hi : Int) (r : List Span) : Bool := match f128 100000 r with
  | none => false
  | some (S, _) => decide (SetW S.Spans lo hi) && decide (S.Spans.length ≤ 10)

theorem f119_is (sps : List Span) (lo hi : Int) (hl : 1 ≤ sps.length ∧ sps.length ≤ 100) (hall : ((subs sps).all fun r => r.isEmpty || setFine lo hi r) = true) (hone : (sps.all fun x => setFine lo hi [x]) = true) (dl : Dice) (hd : DiceOK dl) :
    ∃ (S : List Span) (d' : Dice), f119 100000 dl sps = some (⟨S⟩, d') ∧ SetW S lo hi ∧ S.length ≤ 10 ∧ DiceOK d' := by
  obtain ⟨d1, r, p1, p2, p3⟩ := f119_l1_is (n := 100000) sps hl.2 sps.length 100000 0 dl [] (by omega) (by omega) hd (by simp; omega)
  rw [List.drop_zero] at p1
  rw [show ((0 : Nat) : Int) = 0 from rfl] at p3
  have fine : ∀ (r : List Span) (d2 : Dice), setFine lo hi r = true → ∃ (S : List Span) (d' : Dice), ((f128 100000 r).bind fun y97 => some ((⟨y97.1.Spans⟩ : IntSet), (⟨d2.l⟩ : Dice))) = some (⟨S⟩, d') ∧ SetW S lo hi ∧ S.length ≤ 10 ∧ d' = d2 := by
    intro r d2 h
    unfold setFine at h
    cases he : f128 100000 r with
    | none => rw [he] at h; cases h
    | some y =>
      rw [he] at h
      obtain ⟨⟨S⟩, e⟩ := y
      simp only [Bool.and_eq_true, decide_eq_true_eq] at h
      exact ⟨S, d2, rfl, h.1, h.2, rfl⟩
  rw [f119, joinK, p3, List.nil_append, joinK]
  by_cases h0 : (r.length : Int) = 0
  · rw [if_pos (by simpa using h0)]
    obtain ⟨v, d2, e1, v1, v2, v3⟩ := f72_is (n := 100000) d1 p2 (sps.length : Int) (by omega)
    have hv : v.toNat < sps.length := by omega
    have hm := List.all_eq_true.1 hone _ (List.getElem_mem hv)
    have hr : r = [] := List.eq_nil_of_length_eq_zero (by omega)
    subst hr
    rw [show f72 100000 (⟨d1.l⟩ : Dice) (sps.length : Int) = some (v, d2) from e1, Option.bind_some, lAt_eq (by omega), Option.bind_some, lApp_eq (by simp), Option.bind_some, List.nil_append]
    obtain ⟨S, d', q1, q2, q3, rfl⟩ := fine _ d2 hm
    exact ⟨S, d', q1, q2, q3, v3⟩
  · rw [if_neg (by simpa using h0)]
    have hm := List.all_eq_true.1 hall r p1
    have hne : r.isEmpty = false := by cases r with
      | nil => simp at h0
      | cons => rfl
    rw [hne, Bool.false_or] at hm
    obtain ⟨S, d', q1, q2, q3, rfl⟩ := fine _ d1 hm
    exact ⟨S, d', q1, q2, q3, p2⟩

def rates5 : List Span := [⟨44100, 44100⟩, ⟨48000, 48000⟩, ⟨8000, 8000⟩, ⟨32000, 50000⟩, ⟨96000, 192000⟩]
def sizes4 : List Span := [⟨16, 64⟩, ⟨64, 1024⟩, ⟨2048, 2048⟩, ⟨1, 65536⟩]
theorem rates_all : ((subs rates5).all fun r => r.isEmpty || setFine 1000 768000 r) = true := by decide +kernel
theorem rates_one : (rates5.all fun x => setFine 1000 768000 [x]) = true := by decide +kernel
theorem sizes_all : ((subs sizes4).all fun r => r.isEmpty || setFine 1 65536 r) = true := by decide +kernel
theorem sizes_one : (sizes4.all fun x => setFine 1 65536 [x]) = true := by decide +kernel

/-! ### kinds -/

def KdV (k : Int) : Prop := 0 < k ∧ k ≤ 254 ∧ k % 2 = 0
theorem kd_or : ∀ (a : Fin 128) (v : Fin 7), (decide (0 < bitsI .or .i64 ((2 * a.val : Nat) : Int) ((2 ^ (1 + v.val) : Nat) : Int)) && (decide (bitsI .or .i64 ((2 * a.val : Nat) : Int) ((2 ^ (1 + v.val) : Nat) : Int) ≤ 254) && decide (bitsI .or .i64 ((2 * a.val : Nat) : Int) ((2 ^ (1 + v.val) : Nat) : Int) % 2 = 0))) = true := by decide +kernel
theorem kd_not : ∀ (a : Fin 128), bitsI .andNot .i64 ((2 * a.val : Nat) : Int) 254 = 0 := by decide +kernel
theorem kd_shl : ∀ v : Fin 7, iShl .i64 1 (w64 (1 + ((v.val : Nat) : Int))) = some ((2 ^ (1 + v.val) : Nat) : Int) := by decide +kernel
theorem KdV.or {k : Int} (h : KdV k) {v : Nat} (hv : v < 7) : KdV (bitsI .or .i64 k ((2 ^ (1 + v) : Nat) : Int)) := by
  obtain ⟨h1, h2, h3⟩ := h
  obtain ⟨a, rfl⟩ : ∃ a : Nat, k = ((2 * a : Nat) : Int) := ⟨(k / 2).toNat, by omega⟩
  have := kd_or ⟨a, by omega⟩ ⟨v, hv⟩
  simp only [Bool.and_eq_true, decide_eq_true_eq] at this
  exact this
theorem KdV.fine {k : Int} (h : KdV k) : k ≠ 0 ∧ bitsI .andNot .i64 k 254 = 0 := by
  obtain ⟨h1, h2, h3⟩ := h
  obtain ⟨a, rfl⟩ : ∃ a : Nat, k = ((2 * a : Nat) : Int) := ⟨(k / 2).toNat, by omega⟩
  exact ⟨by omega, kd_not ⟨a, by omega⟩⟩


def M7 : List (List Int) := [[3], [1, 2], [1, 2, 3, 4, 5, 6], [2, 1], [1, 2, 7, 8], [4], [1, 3]]
theorem M7_fine : ∀ m ∈ M7, MapV m ∧ 1 ≤ m.length ∧ m.length ≤ 6 := by decide

theorem f120_is {n : Nat} (dl : Dice) (hd : DiceOK dl) : ∃ (m : List Int) (d' : Dice), f120 n dl = some (m, d') ∧ m ∈ M7 ∧ DiceOK d' := by
  obtain ⟨v, d1, e1, v1, v2, v3⟩ := f72_is (n := n) dl hd 7 (by omega)
  have hl : v.toNat < M7.length := by show v.toNat < 7; omega
  refine ⟨M7[v.toNat], d1, ?_, List.getElem_mem _, v3⟩
  rw [f120, f129, Option.bind_some, show f72 n (⟨dl.l⟩ : Dice) 7 = some (v, d1) from e1, Option.bind_some]
  have : lAt M7 v = some M7[v.toNat] := lAt_eq (by show 0 ≤ v ∧ v < ((7 : Nat) : Int); omega)
  show ((lAt M7 v).bind fun x3 => some (x3, (⟨d1.l⟩ : Dice))) = _
  rw [this]
  rfl

def MapsOK (l : List (List Int)) : Prop := (∀ m ∈ l, m ∈ M7) ∧ ∀ k, k < l.length → ((l.take k).any fun z => decide (z = l.getD k [])) = false

theorem MapsOK.add {l : List (List Int)} (h : MapsOK l) {y : List Int} (hy : y ∈ M7) (hn : y ∉ l) : MapsOK (l ++ [y]) := by
  refine ⟨fun m hm => ?_, fun k hk => ?_⟩
  · rcases List.mem_append.1 hm with hm | hm
    · exact h.1 m hm
    · rw [List.mem_singleton.1 hm]; exact hy
  · rw [List.length_append, List.length_cons, List.length_nil] at hk
    by_cases hkl : k < l.length
    · have := h.2 k hkl
      rw [List.take_append_of_le_length (by omega), List.getD_eq_getElem?_getD, List.getElem?_append_left hkl, ← List.getD_eq_getElem?_getD]
      exact this
    · have hk' : k = l.length := by omega
      subst hk'
      rw [List.take_append_of_le_length (by omega), List.take_length, List.getD_eq_getElem?_getD, List.getElem?_append_right (by omega)]
      simp only [Nat.sub_self, List.getElem?_cons_zero, Option.getD_some]
      refine Bool.eq_false_iff.2 fun ha => ?_
      obtain ⟨z, hz, he⟩ := List.any_eq_true.1 ha
      have : z = y := by simpa using he
      subst this
      exact hn hz

theorem f109_l1_is {n : Nat} (mp : List (List Int)) : ∀ (c m : Nat) (K : Int) (dl : Dice), KdV K → DiceOK dl → c < m → c ≤ 100 → ∃ (K' : Int) (dl' : Dice), KdV K' ∧ DiceOK dl' ∧ ∀ j, f109_l1 n j m K mp dl.l (c : Int) = j K' mp dl'.l := by
  intro c
  induction c with
  | zero =>
    intro m K dl h1 h2 h3 h4
    obtain ⟨m, rfl⟩ : ∃ q, m = q + 1 := ⟨m - 1, by omega⟩
    exact ⟨K, dl, h1, h2, fun j => by rw [f109_l1, if_neg (by simp)]⟩
  | succ c ih =>
    intro m K dl h1 h2 h3 h4
    obtain ⟨m, rfl⟩ : ∃ q, m = q + 1 := ⟨m - 1, by omega⟩
    obtain ⟨v, d1, e1, v1, v2, v3⟩ := f72_is (n := n) dl h2 7 (by omega)
    obtain ⟨v, rfl⟩ := Int.eq_ofNat_of_zero_le v1
    have hv : v < 7 := by omega
    obtain ⟨K', dl', p1, p2, p3⟩ := ih m _ d1 (h1.or hv) v3 (by omega) (by omega)
    refine ⟨K', dl', p1, p2, fun j => ?_⟩
    rw [f109_l1, if_pos (by simp), show f72 n (⟨dl.l⟩ : Dice) 7 = some ((v : Int), d1) from e1, Option.bind_some]
    dsimp only
    rw [show iShl .i64 1 (w64 (1 + (v : Int))) = some ((2 ^ (1 + v) : Nat) : Int) from kd_shl ⟨v, hv⟩, Option.bind_some, show ((c + 1 : Nat) : Int) - 1 = (c : Int) by omega, w64_id (by omega), p3]

theorem f109_l3_is {n : Nat} (acc : List (List Int)) (hal : acc.length ≤ 100) (hacc : ∀ m ∈ acc, m ∈ M7) (y : List Int × Dice) (hy : y.1 ∈ M7) : ∀ (d m i : Nat) (w : Bool), i + d = acc.length → d < m → ∃ w' : Bool, (∀ j, f109_l3 n acc y j m w (i : Int) = j w') ∧ (w = true → w' = true) ∧ (y.1 ∈ acc.drop i → w' = true) := by
  intro d
  induction d with
  | zero =>
    intro m i w h1 h2
    obtain ⟨m, rfl⟩ : ∃ q, m = q + 1 := ⟨m - 1, by omega⟩
    exact ⟨w, fun j => by rw [f109_l3, if_neg (by simp; omega)], id, fun h => by rw [List.drop_eq_nil_of_le (by omega)] at h; cases h⟩
  | succ d ih =>
    intro m i w h1 h2
    obtain ⟨m, rfl⟩ : ∃ q, m = q + 1 := ⟨m - 1, by omega⟩
    have hi : i < acc.length := by omega
    have hd : acc.drop i = acc[i] :: acc.drop (i + 1) := List.drop_eq_getElem_cons hi
    have hx := (M7_fine _ (hacc _ (List.getElem_mem hi))).2
    have hy2 := (M7_fine _ hy).2
    generalize hxe : acc[i] = x at hd hx
    have hxl : lAt acc (i : Int) = some x := by rw [lAt_nat hi, hxe]
    have key : ∃ w1 : Bool, (∀ j, f109_l3 n acc y j (m + 1) w (i : Int) = f109_l3 n acc y j m w1 ((i + 1 : Nat) : Int)) ∧ (w = true → w1 = true) ∧ (y.1 = x → w1 = true) := by
      cases w with
      | true =>
        refine ⟨true, fun j => ?_, fun _ => rfl, fun _ => rfl⟩
        rw [f109_l3, if_pos (by simp; omega)]
        simp only [joinK]
        rw [hxl, Option.bind_some, if_pos trivial, w64_id (by omega), show (i : Int) + 1 = ((i + 1 : Nat) : Int) by omega]
      | false =>
        by_cases hlen : (x.length : Int) = y.1.length
        · have a1 : lAt x (0 : Int) = some (x[0]'(by omega)) := lAt_nat (i := 0) (by omega)
          have a2 : lAt y.1 (0 : Int) = some (y.1[0]'(by omega)) := lAt_nat (i := 0) (by omega)
          refine ⟨x[0]'(by omega) == y.1[0]'(by omega), fun j => ?_, (fun h => by cases h), fun h => by subst h; simp⟩
          rw [f109_l3, if_pos (by simp; omega)]
          simp only [joinK]
          rw [hxl, Option.bind_some, if_neg (by simp), if_pos (by simpa using hlen), a1, Option.bind_some, a2, Option.bind_some, w64_id (by omega), show (i : Int) + 1 = ((i + 1 : Nat) : Int) by omega]
        · refine ⟨false, fun j => ?_, (fun h => by cases h), fun h => by subst h; exact absurd rfl hlen⟩
          rw [f109_l3, if_pos (by simp; omega)]
          simp only [joinK]
          rw [hxl, Option.bind_some, if_neg (by simp), if_neg (by simpa using hlen), w64_id (by omega), show (i : Int) + 1 = ((i + 1 : Nat) : Int) by omega]
    obtain ⟨w1, k1, k2, k3⟩ := key
    obtain ⟨w', q1, q2, q3⟩ := ih m (i + 1) w1 (by omega) (by omega)
    refine ⟨w', fun j => by rw [k1, q1], fun h => q2 (k2 h), fun h => ?_⟩
    rw [hd] at h
    rcases List.mem_cons.1 h with h | h
    · exact q2 (k3 h)
    · exact q3 h

theorem f109_l2_is {n : Nat} (hn : 1000 ≤ n) : ∀ (c m : Nat) (acc : List (List Int)) (dl : Dice), MapsOK acc → DiceOK dl → c < m → acc.length + c ≤ 3 → 1 ≤ acc.length + c →
    ∃ (acc' : List (List Int)) (dl' : Dice), MapsOK acc' ∧ 1 ≤ acc'.length ∧ acc'.length ≤ 3 ∧ DiceOK dl' ∧ ∀ j, f109_l2 n j m acc dl.l (c : Int) = j acc' dl'.l := by
  intro c
  induction c with
  | zero =>
    intro m acc dl h1 h2 h3 h4 h5
    obtain ⟨m, rfl⟩ : ∃ q, m = q + 1 := ⟨m - 1, by omega⟩
    exact ⟨acc, dl, h1, by omega, by omega, h2, fun j => by rw [f109_l2, if_neg (by simp)]⟩
  | succ c ih =>
    intro m acc dl h1 h2 h3 h4 h5
    obtain ⟨m, rfl⟩ : ∃ q, m = q + 1 := ⟨m - 1, by omega⟩
    obtain ⟨y, d1, e1, y1, y2⟩ := f120_is (n := n) dl h2
    obtain ⟨w, w1, _, w3⟩ := f109_l3_is (n := n) acc (by omega) h1.1 (y, d1) y1 acc.length n 0 false (by omega) (by omega)
    rw [List.drop_zero] at w3
    rw [show ((0 : Nat) : Int) = 0 from rfl] at w1
    cases w with
    | false =>
      have hny : y ∉ acc := fun h => by have := w3 h; cases this
      obtain ⟨acc', dl', p1, p2, p3, p4, p5⟩ := ih m (acc ++ [y]) d1 (h1.add y1 hny) y2 (by omega) (by simp; omega) (by simp; omega)
      refine ⟨acc', dl', p1, p2, p3, p4, fun j => ?_⟩
      rw [f109_l2, if_pos (by simp), joinK, show f120 n (⟨dl.l⟩ : Dice) = some (y, d1) from e1, Option.bind_some, joinK, w1, if_pos (by simp), lApp_eq (by simp; omega), Option.bind_some, show ((c + 1 : Nat) : Int) - 1 = (c : Int) by omega, w64_id (by omega)]
      exact p5 j
    | true =>
      have hne : 1 ≤ acc.length := by
        cases acc with
        | nil =>
          have := w1 (fun b => if b = true then none else some (⟨0, [], [], []⟩, dl))
          rw [show n = (n - 1) + 1 by omega, f109_l3, if_neg (by simp)] at this
          simp at this
        | cons a l => simp
      obtain ⟨acc', dl', p1, p2, p3, p4, p5⟩ := ih m acc d1 h1 y2 (by omega) (by omega) (by omega)
      refine ⟨acc', dl', p1, p2, p3, p4, fun j => ?_⟩
      rw [f109_l2, if_pos (by simp), joinK, show f120 n (⟨dl.l⟩ : Dice) = some (y, d1) from e1, Option.bind_some, joinK, w1, if_neg (by simp), show ((c + 1 : Nat) : Int) - 1 = (c : Int) by omega, w64_id (by omega)]
      exact p5 j


def BoxM (x : Box) : Prop := BoxV x ∧ BoxS x ∧ (eBox x).length ≤ 400 ∧ (0 ≤ x.Kinds ∧ x.Kinds < 65536)

theorem kd0 : ∀ v : Fin 7, (decide (0 < ((2 ^ (1 + v.val) : Nat) : Int)) && (decide (((2 ^ (1 + v.val) : Nat) : Int) ≤ 254) && decide (((2 ^ (1 + v.val) : Nat) : Int) % 2 = 0))) = true := by decide +kernel

theorem eMaps_le : ∀ l : List (List Int), (∀ m ∈ l, m.length ≤ 6) → (eMaps l).length ≤ 14 * l.length
  | [], _ => by simp [eMaps]
  | m :: l, h => by
    have h1 := eMaps_le l fun x hx => h x (.tail _ hx)
    have h2 := h m (.head _)
    simp only [eMaps, List.length_append, eMap_length, List.length_cons]
    omega

theorem f109_is (dl : Dice) (hd : DiceOK dl) : ∃ (x : Box) (d' : Dice), f109 100000 dl = some (x, d') ∧ BoxM x ∧ DiceOK d' := by
  obtain ⟨v, d1, e1, v1, v2, v3⟩ := f72_is (n := 100000) dl hd 7 (by omega)
  obtain ⟨v, rfl⟩ := Int.eq_ofNat_of_zero_le v1
  have hv : v < 7 := by omega
  have hK0 : KdV ((2 ^ (1 + v) : Nat) : Int) := by
    have := kd0 ⟨v, hv⟩
    simp only [Bool.and_eq_true, decide_eq_true_eq] at this
    exact this
  obtain ⟨k, d2, e2, k1, k2, k3⟩ := f72_is (n := 100000) d1 v3 3 (by omega)
  obtain ⟨k, rfl⟩ := Int.eq_ofNat_of_zero_le k1
  obtain ⟨K, d3, p1, p2, p3⟩ := f109_l1_is (n := 100000) [] k 100000 _ d2 hK0 k3 (by omega) (by omega)
  obtain ⟨S1, d4, q1, q2, q3, q4⟩ := f119_is rates5 1000 768000 (by decide) rates_all rates_one d3 p2
  obtain ⟨S2, d5, r1, r2, r3, r4⟩ := f119_is sizes4 1 65536 (by decide) sizes_all sizes_one d4 q4
  obtain ⟨w, d6, e6, w1, w2, w3⟩ := f72_is (n := 100000) d5 r4 3 (by omega)
  obtain ⟨w, rfl⟩ := Int.eq_ofNat_of_zero_le w1
  obtain ⟨acc, d7, t1, t2, t3, t4, t5⟩ := f109_l2_is (n := 100000) (by omega) (1 + w) 100000 [] d6 ⟨(fun m hm => by cases hm), (fun k hk => by simp at hk)⟩ w3 (by omega) (by simp; omega) (by simp)
  have hf : ∀ m ∈ acc, MapV m ∧ 1 ≤ m.length ∧ m.length ≤ 6 := fun m hm => M7_fine m (t1.1 m hm)
  have hml := eMaps_le acc fun m hm => (hf m hm).2.2
  refine ⟨⟨K, S1, acc, S2⟩, d7, ?_, ⟨⟨p1.fine.1, p1.fine.2, q2, r2, by dsimp only; omega, fun i hi => ?_⟩, ⟨by dsimp only; omega, by dsimp only; omega, by dsimp only; omega, fun m hm => by have := (hf m hm).2.2; omega⟩, by rw [eBox_length]; dsimp only; omega, by obtain ⟨g1, g2, _⟩ := p1; dsimp only; omega⟩, t4⟩
  · rw [f109, show f72 100000 (⟨dl.l⟩ : Dice) 7 = some ((v : Int), d1) from e1, Option.bind_some]
    dsimp only
    rw [show iShl .i64 1 (w64 (1 + (v : Int))) = some ((2 ^ (1 + v) : Nat) : Int) from kd_shl ⟨v, hv⟩, Option.bind_some, joinK, show f72 100000 (⟨d1.l⟩ : Dice) 3 = some ((k : Int), d2) from e2, Option.bind_some]
    dsimp only
    rw [p3, show f119 100000 (⟨d3.l⟩ : Dice) [(⟨44100, 44100⟩ : Span), ⟨48000, 48000⟩, ⟨8000, 8000⟩, ⟨32000, 50000⟩, ⟨96000, 192000⟩] = some (⟨S1⟩, d4) from q1, Option.bind_some]
    dsimp only
    rw [show f119 100000 (⟨d4.l⟩ : Dice) [(⟨16, 64⟩ : Span), ⟨64, 1024⟩, ⟨2048, 2048⟩, ⟨1, 65536⟩] = some (⟨S2⟩, d5) from r1, Option.bind_some, joinK]
    dsimp only
    rw [show f72 100000 (⟨d5.l⟩ : Dice) 3 = some ((w : Int), d6) from e6, Option.bind_some, w64_id (by dsimp only; omega)]
    dsimp only
    rw [show (1 : Int) + (w : Int) = ((1 + w : Nat) : Int) by omega, t5]
  · dsimp only at hi ⊢
    unfold bmOK
    rw [t1.2 i hi, decide_eq_true (hf _ (getD_mem hi)).1]
    rfl

theorem f99_l1_is : ∀ (c m : Nat) (acc : List Box) (dl : Dice), (∀ x ∈ acc, BoxM x) → DiceOK dl → c < m → acc.length + c ≤ 100 → ∃ (acc' : List Box) (dl' : Dice), (∀ x ∈ acc', BoxM x) ∧ acc'.length = acc.length + c ∧ DiceOK dl' ∧ ∀ j, f99_l1 100000 j m dl.l acc (c : Int) = j dl'.l acc' := by
  intro c
  induction c with
  | zero =>
    intro m acc dl h1 h2 h3 h4
    obtain ⟨m, rfl⟩ : ∃ q, m = q + 1 := ⟨m - 1, by omega⟩
    exact ⟨acc, dl, h1, rfl, h2, fun j => by rw [f99_l1, if_neg (by simp)]⟩
  | succ c ih =>
    intro m acc dl h1 h2 h3 h4
    obtain ⟨m, rfl⟩ : ∃ q, m = q + 1 := ⟨m - 1, by omega⟩
    obtain ⟨x, d1, e1, x1, x2⟩ := f109_is dl h2
    have h6 : ∀ z ∈ acc ++ [x], BoxM z := fun z hz => by
      rcases List.mem_append.1 hz with hz | hz
      · exact h1 z hz
      · rw [List.mem_singleton.1 hz]; exact x1
    obtain ⟨acc', dl', p1, p2, p3, p4⟩ := ih m (acc ++ [x]) d1 h6 x2 (by omega) (by simp; omega)
    refine ⟨acc', dl', p1, by rw [p2]; simp; omega, p3, fun j => ?_⟩
    rw [f99_l1, if_pos (by simp), show f109 100000 (⟨dl.l⟩ : Dice) = some (x, d1) from e1, Option.bind_some, lApp_eq (by simp; omega), Option.bind_some, show ((c + 1 : Nat) : Int) - 1 = (c : Int) by omega, w64_id (by omega)]
    exact p4 j

theorem eBoxes_le : ∀ l : List Box, (∀ x ∈ l, BoxM x) → (eBoxes l).length ≤ 400 * l.length
  | [], _ => by simp [eBoxes]
  | x :: l, h => by
    have h1 := eBoxes_le l fun y hy => h y (.tail _ hy)
    have h2 := (h x (.head _)).2.2.1
    simp only [eBoxes, List.length_append, List.length_cons]
    omega

def DescM (d : Descriptor) : Prop := DescV d ∧ DescS d ∧ (eBody d).length ≤ 2000 ∧ (0 ≤ d.ID ∧ d.ID < 18446744073709551616) ∧ ∀ x ∈ d.Boxes, 0 ≤ x.Kinds ∧ x.Kinds < 65536

def names3 : List ByteArray := [⟨#[100, 97, 99]⟩, ⟨#[104, 100, 109, 105, 45, 49]⟩, ⟨#[77, 105, 99, 46, 50]⟩]
theorem names_fine : ∀ i : Fin 3, NmV (names3[i.val]'i.isLt) := by decide +kernel

theorem f68_is (dl : Dice) (hd : DiceOK dl) (dir : Int) (hdir : dir = 1 ∨ dir = 2) : ∃ (x : Descriptor) (d' : Dice), f68 100000 dl dir = some (x, d') ∧ DescM x ∧ DiceOK d' := by
  obtain ⟨v1, d1, e1, a1, b1, c1⟩ := f72_is (n := 100000) dl hd 256 (by omega)
  obtain ⟨v2, d2, e2, a2, b2, c2⟩ := f72_is (n := 100000) d1 c1 3 (by omega)
  obtain ⟨v3, d3, e3, a3, b3, c3⟩ := f72_is (n := 100000) d2 c2 4 (by omega)
  obtain ⟨v4, d4, e4, a4, b4, c4⟩ := f72_is (n := 100000) d3 c3 200 (by omega)
  obtain ⟨v5, d5, e5, a5, b5, c5⟩ := f72_is (n := 100000) d4 c4 4 (by omega)
  obtain ⟨v6, d6, e6, a6, b6, c6⟩ := f72_is (n := 100000) d5 c5 4 (by omega)
  obtain ⟨v7, d7, e7, a7, b7, c7⟩ := f72_is (n := 100000) d6 c6 2 (by omega)
  obtain ⟨v7, rfl⟩ := Int.eq_ofNat_of_zero_le a7
  obtain ⟨bx, d8, p1, p2, p3, p4⟩ := f99_l1_is (1 + v7) 100000 [] d7 (fun x hx => by cases hx) c7 (by omega) (by simp; omega)
  have hN : v2.toNat < names3.length := by show v2.toNat < 3; omega
  have hnl : lAt names3 v2 = some names3[v2.toNat] := lAt_eq (by show 0 ≤ v2 ∧ v2 < ((3 : Nat) : Int); omega)
  have hD : ∃ q : Int, lAt ([0, 66, 200, 7] : List Int) v5 = some q ∧ 0 ≤ q ∧ q ≤ 2048 := by
    have h : ∀ i : Fin 4, (decide (0 ≤ ([0, 66, 200, 7] : List Int)[i.val]'i.isLt) && decide (([0, 66, 200, 7] : List Int)[i.val]'i.isLt ≤ 2048)) = true := by decide
    have hv : v5.toNat < ([0, 66, 200, 7] : List Int).length := by show v5.toNat < 4; omega
    have := h ⟨v5.toNat, hv⟩
    simp only [Bool.and_eq_true, decide_eq_true_eq] at this
    exact ⟨_, lAt_eq (by show 0 ≤ v5 ∧ v5 < ((4 : Nat) : Int); omega), this.1, this.2⟩
  obtain ⟨q, hq, q1, q2⟩ := hD
  have hnm := names_fine ⟨v2.toNat, hN⟩
  have hbl := eBoxes_le bx p1
  refine ⟨⟨IntKind.wrap .u64 v1, names3[v2.toNat], dir, v3, v4, q, v6, bx⟩, d8, ?_, ⟨⟨hnm, hdir, by dsimp only; omega, by dsimp only; omega, by dsimp only; omega, by dsimp only; omega, by dsimp only; simp at p2; omega, by dsimp only; simp at p2; omega, fun x hx => (p1 x hx).1⟩, ⟨Nat.le_trans hnm.2.2 (by omega), by dsimp only; simp at p2; omega, fun x hx => (p1 x hx).2.1⟩, ?_, by dsimp only; rw [wrap_u64]; omega, fun x hx => (p1 x hx).2.2.2⟩, p3⟩
  · rw [f68, show f72 100000 (⟨dl.l⟩ : Dice) 256 = some (v1, d1) from e1, Option.bind_some]
    dsimp only
    rw [show f72 100000 (⟨d1.l⟩ : Dice) 3 = some (v2, d2) from e2, Option.bind_some]
    dsimp only
    rw [show lAt [(⟨#[100, 97, 99]⟩ : ByteArray), ⟨#[104, 100, 109, 105, 45, 49]⟩, ⟨#[77, 105, 99, 46, 50]⟩] v2 = some names3[v2.toNat] from hnl, Option.bind_some, show f72 100000 (⟨d2.l⟩ : Dice) 4 = some (v3, d3) from e3, Option.bind_some]
    dsimp only
    rw [show f72 100000 (⟨d3.l⟩ : Dice) 200 = some (v4, d4) from e4, Option.bind_some]
    dsimp only
    rw [show f72 100000 (⟨d4.l⟩ : Dice) 4 = some (v5, d5) from e5, Option.bind_some]
    dsimp only
    rw [hq, Option.bind_some, show f72 100000 (⟨d5.l⟩ : Dice) 4 = some (v6, d6) from e6, Option.bind_some]
    dsimp only
    have e99 : f99 100000 (⟨d6.l⟩ : Dice) 1 2 = some (bx, d8) := by
      rw [f99, joinK, show w64 (w64 (2 - 1) + 1) = 2 from rfl, show f72 100000 (⟨d6.l⟩ : Dice) 2 = some ((v7 : Int), d7) from e7, Option.bind_some]
      dsimp only
      rw [w64_id (by omega), show (1 : Int) + (v7 : Int) = ((1 + v7 : Nat) : Int) by omega, p4]
    rw [e99]
    rfl
  · have hlen : names3[v2.toNat].size ≤ 64 := hnm.2.2
    simp only [eBody, List.length_append, leN_length, List.length_cons, strNums_length, List.length_nil]
    simp at p2
    omega

theorem f40_is (l : List Int) (hl : AreBytes l) (hll : l.length ≤ 9223372036854775807) : ∃ x : Descriptor, f40 100000 l = some x ∧ DescM x := by
  obtain ⟨d, e0, h0⟩ := f69_is (n := 100000) l hl hll
  obtain ⟨v, d1, e1, v1, v2, v3⟩ := f72_is (n := 100000) d h0 2 (by omega)
  obtain ⟨x, d2, e2, x1, x2⟩ := f68_is d1 v3 (1 + v) (by omega)
  refine ⟨x, ?_, x1⟩
  rw [f40, e0, Option.bind_some, show f72 100000 (⟨d.l⟩ : Dice) 2 = some (v, d1) from e1, Option.bind_some]
  dsimp only
  rw [w64_id (by omega), show f68 100000 (⟨d1.l⟩ : Dice) (1 + v) = some (x, d2) from e2, Option.bind_some]


theorem eBody_bytes (d : Descriptor) : 27 ≤ (eBody d).length := by
  simp only [eBody, List.length_append, leN_length, List.length_cons, strNums_length, List.length_nil]
  omega

theorem enc_made {d : Descriptor} (h : DescM d) : encR d = (eDesc d, 0) := by rw [encR, if_pos h.1]

theorem f38_is : f38 100000 = some true := by
  have e0 : decR [] = (zeroD, 4) := rfl
  have e8 : decR (List.replicate 8 0) = (zeroD, 6) := by rw [decR, if_neg (by simp), if_pos (by decide +kernel)]
  obtain ⟨d0, a1, a2⟩ := f69_is (n := 100000) [] nil_bytes (by simp)
  obtain ⟨d, d1, b1, b2, b3⟩ := f68_is d0 a2 1 (.inl rfl)
  have h27 := eBody_bytes d
  have hb2 := b2.2.2.1
  have hz : AreBytes (List.replicate 8 0) := fun x hx => by rw [(List.mem_replicate.1 hx).2]; omega
  rw [f38, f41_is (Nat.le_refl _) [] nil_bytes (by simp), Option.bind_some, lMake_eq (by omega), Option.bind_some, show ((8 : Int).toNat) = 8 from rfl, f41_is (Nat.le_refl _) _ hz (by simp), Option.bind_some, e0, e8, a1, Option.bind_some, show f68 100000 (⟨d0.l⟩ : Dice) 1 = some (d, d1) from b1, Option.bind_some]
  dsimp only
  rw [show f39 100000 (⟨d.ID, d.Name, d.Direction, d.Domain, d.Latency, d.Drift, d.Jitter, d.Boxes⟩ : Descriptor) = some (encR d) from f39_is (Nat.le_refl _) d b2.2.1 (fun _ => by omega), Option.bind_some, enc_made b2]
  dsimp only
  rw [if_pos (by simp), if_pos (by simp), if_pos (by simp), if_pos (by simp only [eDesc, List.length_append, leN_length]; simp; omega), show f56 100000 (⟨d.ID, d.Name, d.Direction, d.Domain, d.Latency, d.Drift, d.Jitter, d.Boxes⟩ : Descriptor) = some (decide (DescV d)) from f56_is (Nat.le_refl _) d b2.2.1, decide_eq_true b2.1]
  rfl

theorem leN_app {w : Nat} {x : Int} {l : List Int} (h : AreBytes l) : AreBytes (leN w x ++ l) := append_bytes (leN_bytes w x) h
theorem eSpans_bytes : ∀ l : List Span, AreBytes (eSpans l)
  | [] => nil_bytes
  | x :: l => leN_app (leN_app (eSpans_bytes l))
theorem eInts_bytes : ∀ l : List Int, AreBytes (eInts l)
  | [] => nil_bytes
  | x :: l => leN_app (eInts_bytes l)
theorem eMaps_bytes : ∀ l : List (List Int), AreBytes (eMaps l)
  | [] => nil_bytes
  | m :: l => append_bytes (leN_app (eInts_bytes m)) (eMaps_bytes l)
theorem eBoxes_bytes : ∀ l : List Box, AreBytes (eBoxes l)
  | [] => nil_bytes
  | x :: l => append_bytes (leN_app (append_bytes (leN_app (eSpans_bytes _)) (leN_app (append_bytes (eMaps_bytes _) (leN_app (eSpans_bytes _)))))) (eBoxes_bytes l)
theorem eBody_areBytes {d : Descriptor} (h : d.Name.size ≤ 64) : AreBytes (eBody d) := by
  have h4 : AreBytes [83, 78, 68, 49] := by
    intro x hx
    simp only [List.mem_cons, List.not_mem_nil, or_false] at hx
    omega
  exact append_bytes h4 (leN_app (append_bytes (cons_bytes (by omega) (strNums_bytes _)) (leN_app (leN_app (leN_app (leN_app (leN_app (leN_app (eBoxes_bytes _)))))))))

end Go.Proofs.Ytcahjpkmldmjdaa
