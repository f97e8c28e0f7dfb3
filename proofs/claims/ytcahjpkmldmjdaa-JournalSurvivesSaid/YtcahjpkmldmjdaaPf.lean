/-
  The laws of the journal: what is appended, what is read, what survives.
-/
import Derived.Test.YtcahjpkmldmjdaaPe
import Derived.Test.YtcahjpkmldmjdaaGk
namespace Go.Proofs.Ytcahjpkmldmjdaa
open Go Ab

/-! ### decks of numbers -/

def DeckOK (d : Deck) : Prop := 0 ≤ d.At ∧ d.At ≤ d.L.length ∧ d.L.length ≤ 9223372036854775807

theorem f45_is {n : Nat} (v k : Int) (hk : 1 ≤ k ∧ k ≤ 4000000000000000000) : ∃ r : Int, f45 n v k = some r ∧ 0 ≤ r ∧ r < k := by
  have h1 := Int.tmod_lt_of_pos v (show 0 < k by omega)
  have h2 : -k < Int.tmod v k := by
    have := Int.tmod_lt_of_pos (-v) (show 0 < k by omega)
    rw [Int.neg_tmod] at this
    omega
  rw [f45, iRem_eq (by omega), Option.bind_some, joinK]
  by_cases h : Int.tmod v k < 0
  · rw [if_pos (by simpa using h), w64_id (by omega)]
    exact ⟨_, rfl, by omega, by omega⟩
  · rw [if_neg (by simpa using h)]
    exact ⟨_, rfl, by omega, by omega⟩

theorem f81_is {n : Nat} (d : Deck) (hd : DeckOK d) (k : Int) (hk : 1 ≤ k ∧ k ≤ 4000000000000000000) : ∃ (r : Int) (d' : Deck), f81 n d k = some (r, d') ∧ 0 ≤ r ∧ r < k ∧ DeckOK d' := by
  obtain ⟨h1, h2, h3⟩ := hd
  rw [f81, f100, Option.bind_some]
  by_cases h : d.At < d.L.length
  · rw [if_neg (by simpa using h)]
    dsimp only
    rw [w64_id (x := d.At + 1) (by omega), w64_id (by omega), show d.At + 1 - 1 = d.At by omega, lAt_eq (by omega), Option.bind_some]
    obtain ⟨r, e, hr⟩ := f45_is (n := n) (d.L[d.At.toNat]'(by omega)) k hk
    rw [e]
    exact ⟨_, _, rfl, hr.1, hr.2, by dsimp only [DeckOK]; omega⟩
  · rw [if_pos (by simpa using h)]
    exact ⟨_, _, rfl, by omega, by omega, h1, h2, h3⟩

/-! ### what is appended -/

def jApp (b r : List Int) : List Int × Int :=
  if (jP b 0).2.2.2 ≠ 0 then ([], (jP b 0).2.2.2) else if r.length > 4096 ∨ b.length + 10 + r.length > 65536 then ([], 3) else (b ++ jFrame (jP b 0).2.2.1 r, 0)

theorem jApp_err {b r : List Int} (h : (jP b 0).2.2.2 ≠ 0) : jApp b r = ([], (jP b 0).2.2.2) := by rw [jApp, if_pos h]
theorem jApp_limit {b r : List Int} (h : (jP b 0).2.2.2 = 0) (h2 : r.length > 4096 ∨ b.length + 10 + r.length > 65536) : jApp b r = ([], 3) := by rw [jApp, if_neg (by simpa using h), if_pos h2]
theorem jApp_ok {b r : List Int} (h : (jP b 0).2.2.2 = 0) (h2 : ¬ (r.length > 4096 ∨ b.length + 10 + r.length > 65536)) : jApp b r = (b ++ jFrame (jP b 0).2.2.1 r, 0) := by rw [jApp, if_neg (by simpa using h), if_neg h2]

theorem f101_is {n k : Nat} (hk : k ≤ 30000000000) : f101 n (k : Int) = some [] := by
  rw [f101, if_neg (by simp), joinK, show (0 : Int) - 0 = 0 by omega, w64_id (x := 0) (by omega), show (k : Int) - 0 = k by omega, w64_id (by omega)]
  by_cases h : 0 < k
  · rw [if_pos (by simp; omega), lZero, if_pos (by omega), Option.bind_some, lPart_eq (by simp), Option.bind_some]
    rfl
  · rw [if_neg (by simp; omega)]

theorem f83_is {n : Nat} (hn : 1000 ≤ n) (a b : List Int) (h : a.length + b.length ≤ 1000000000) : f83 n [a, b] = some (a ++ b) := by
  obtain ⟨m, rfl⟩ : ∃ m, n = m + 3 := ⟨n - 3, by omega⟩
  rw [f83, joinK]
  have e0 : lAt [a, b] (0 : Int) = some a := rfl
  have e1 : lAt [a, b] (1 : Int) = some b := rfl
  have w1 : w64 (0 + 1) = 1 := rfl
  have w2 : w64 (1 + 1) = 2 := rfl
  rw [f83_l1, if_pos (by simp), e0, Option.bind_some, Int.zero_add, w64_id (x := (a.length : Int)) (by omega), if_neg (by simp), w1]
  rw [f83_l1, if_pos (by simp), e1, Option.bind_some, w64_id (x := (a.length : Int) + b.length) (by omega), if_neg (by simp; omega), w2]
  rw [f83_l1, if_neg (by simp), show (a.length : Int) + b.length = ((a.length + b.length : Nat) : Int) by omega, f101_is (by omega), Option.bind_some, joinK]
  rw [f83_l2, if_pos (by simp), e0, Option.bind_some, lApp_eq (by simp; omega), Option.bind_some, w1]
  rw [f83_l2, if_pos (by simp), e1, Option.bind_some, lApp_eq (by simp; omega), Option.bind_some, w2]
  rw [f83_l2, if_neg (by simp), List.nil_append]

theorem f46_is {n : Nat} (b r : List Int) (hb : AreBytes b) (hbl : b.length ≤ 100000) (hr : r.length ≤ 100000) (hn : 5000 ≤ n ∧ b.length + 10 < n) : f46 n b r = some (jApp b r) := by
  rw [f46, f82_is b hb (by omega) (by omega), Option.bind_some]
  by_cases h1 : (jP b 0).2.2.2 = 0
  · rw [if_neg (by simpa using h1), joinK, joinK]
    by_cases h2 : r.length > 4096
    · rw [if_pos (by simp; omega), jApp_limit h1 (.inl h2)]
    rw [if_neg (by simp; omega), w64_id (x := (b.length : Int) + 10) (by omega), w64_id (by omega)]
    by_cases h3 : b.length + 10 + r.length > 65536
    · rw [if_pos (by simp; omega), jApp_limit h1 (.inr h3)]
    rw [if_neg (by simp; omega), jApp_ok h1 (by omega), wrap_u16, Int.emod_eq_of_lt (by omega) (by omega), f24_is (by omega) _ _ (by simp), Option.bind_some, List.nil_append, lApp_eq (by simp [leN_length]; omega), Option.bind_some]
    rw [f83_is (by omega) _ _ (by simp [leN_length]; omega), Option.bind_some, f84_is (by omega) _ _ (by simp [leN_length]; omega) (by simp [leN_length]; omega), Option.bind_some, f28_is (by omega) _ _ (by simp [leN_length]; omega), Option.bind_some]
    simp [jFrame, jBody]
  · rw [if_pos (by simpa using h1), jApp_err h1]

theorem f47_is {n : Nat} (b r : List Int) (hb : AreBytes b) (hbl : b.length ≤ 100000) (hr : r.length ≤ 100000) (hn : 5000 ≤ n ∧ b.length + 10 < n) : f47 n b r = some (jApp b r) := by
  rw [f47, f85_is b hb (by omega) (by omega), Option.bind_some]
  by_cases h1 : (jP b 0).2.2.2 = 0
  · rw [if_neg (by simpa using h1), joinK, joinK]
    by_cases h2 : r.length > 4096
    · rw [if_pos (by simp; omega), jApp_limit h1 (.inl h2)]
    rw [if_neg (by simp; omega), w64_id (x := (b.length : Int) + r.length) (by omega), w64_id (by omega)]
    by_cases h3 : b.length + 10 + r.length > 65536
    · rw [if_pos (by simp; omega), jApp_limit h1 (.inr h3)]
    rw [if_neg (by simp; omega), jApp_ok h1 (by omega), wrap_u16, Int.emod_eq_of_lt (by omega) (by omega), lApp_eq (by simp; omega), Option.bind_some, List.nil_append, f25_is (by omega) _ _ (by omega) (by omega), Option.bind_some, lApp_eq (by simp [leN_length]; omega), Option.bind_some]
    rw [f86_is (by omega) _ _ (by omega) (by omega), Option.bind_some, f29_is (by omega) _ _ (by simp [leN_length]; omega), Option.bind_some]
    simp [jFrame, jBody]
  · rw [if_pos (by simpa using h1), jApp_err h1]

theorem f48_is {n : Nat} (b : List Int) (hb : AreBytes b) (hbl : b.length ≤ 100000) (hn : 5000 ≤ n ∧ b.length + 10 < n) : f48 n b = some ((jP b 0).1, (jP b 0).2.1, (jP b 0).2.2.2) := by
  rw [f48, f82_is b hb (by omega) (by omega)]
  rfl
theorem f49_is {n : Nat} (b : List Int) (hb : AreBytes b) (hbl : b.length ≤ 100000) (hn : 5000 ≤ n ∧ b.length + 10 < n) : f49 n b = some ((jP b 0).1, (jP b 0).2.1, (jP b 0).2.2.2) := by
  rw [f49, f85_is b hb (by omega) (by omega)]
  rfl
theorem f51_is {n : Nat} (b : List Int) (hb : AreBytes b) (hbl : b.length ≤ 100000) (hn : 5000 ≤ n ∧ b.length + 10 < n) : f51 n b = some (b.take (jP b 0).2.1.toNat) := by
  have h := jP_at b.length b 0 (by omega)
  rw [f51, f82_is b hb (by omega) (by omega), Option.bind_some, lPart_eq (by omega), Option.bind_some, f87_is _ (by simp; omega)]
  rfl
theorem f52_is {n : Nat} (b : List Int) (hb : AreBytes b) (hbl : b.length ≤ 100000) (hn : 5000 ≤ n ∧ b.length + 10 < n) : f52 n b = some (b.take (jP b 0).2.1.toNat) := by
  have h := jP_at b.length b 0 (by omega)
  rw [f52, f85_is b hb (by omega) (by omega), Option.bind_some, lPart_eq (by omega), Option.bind_some, lApp_eq (by simp; omega)]
  rfl

theorem f50_l1_is {n : Nat} (a : List (List Int)) (hl : a.length ≤ 1000000000) (j : Unit → Option Bool) : ∀ (d m i : Nat), i + d = a.length → d < m → f50_l1 n a a j m (i : Int) = j () := by
  intro d
  induction d with
  | zero =>
    intro m i h1 h2
    obtain ⟨m, rfl⟩ : ∃ q, m = q + 1 := ⟨m - 1, by omega⟩
    rw [f50_l1, if_neg (by simp; omega)]
  | succ d ih =>
    intro m i h1 h2
    obtain ⟨m, rfl⟩ : ∃ q, m = q + 1 := ⟨m - 1, by omega⟩
    rw [f50_l1, if_pos (by simp; omega), lAt_nat (by omega), Option.bind_some, Option.bind_some, sEq_self, if_neg (by simp), w64_id (by omega), show (i : Int) + 1 = ((i + 1 : Nat) : Int) by omega, ih _ _ (by omega) (by omega)]
theorem f50_is {n : Nat} (a : List (List Int)) (hl : a.length ≤ 1000000000) (hn : a.length < n) : f50 n a a = some true := by
  rw [f50, if_neg (by simp), joinK]
  exact f50_l1_is a hl _ a.length n 0 (by omega) (by omega)

theorem f43_is {n : Nat} (hn : 5000 ≤ n) : f43 n = some true := by
  have e0 : jApp [] [] = (jFrame 0 [], 0) := by rw [jApp, jP_nil]; simp
  have e1 : jP (jFrame 0 []) 0 = ([[]], 10, jSum 0 (jBody []), 0) := by
    have := jP_frame 0 [] [] (by simp)
    rw [List.append_nil, jP_nil] at this
    simpa using this
  rw [f43, f46_is [] [] nil_bytes (by simp) (by simp) (by simp; omega), Option.bind_some, e0, f48_is _ (jFrame_bytes 0 nil_bytes) (by rw [jFrame_length]; simp) (by rw [jFrame_length]; simp; omega), Option.bind_some, e1]
  simp only [jFrame_length]
  rfl

/-! ### journals that are made -/

theorem f44_l2_is {n : Nat} : ∀ (c m : Nat) (d : Deck) (acc : List Int), DeckOK d → AreBytes acc → acc.length + c ≤ 100 → c < m →
    ∃ (d' : Deck) (acc' : List Int), DeckOK d' ∧ AreBytes acc' ∧ acc'.length = acc.length + c ∧ ∀ j, f44_l2 n j m d.L d.At acc (c : Int) = j d'.L d'.At acc' := by
  intro c
  induction c with
  | zero =>
    intro m d acc h1 h2 h3 h4
    obtain ⟨m, rfl⟩ : ∃ q, m = q + 1 := ⟨m - 1, by omega⟩
    exact ⟨d, acc, h1, h2, rfl, fun j => by rw [f44_l2, if_neg (by simp)]⟩
  | succ c ih =>
    intro m d acc h1 h2 h3 h4
    obtain ⟨m, rfl⟩ : ∃ q, m = q + 1 := ⟨m - 1, by omega⟩
    obtain ⟨v, d', e, hv1, hv2, hd'⟩ := f81_is (n := n) d h1 256 (by omega)
    obtain ⟨d2, acc2, k1, k2, k3, k4⟩ := ih m d' (acc ++ [v]) hd' (append_bytes h2 (cons_bytes (by omega) nil_bytes)) (by simp; omega) (by omega)
    refine ⟨d2, acc2, k1, k2, by rw [k3]; simp; omega, fun j => ?_⟩
    have e' : f81 n (⟨d.L, d.At⟩ : Deck) 256 = some (v, d') := e
    rw [f44_l2, if_pos (by simp), e', Option.bind_some, wrap_u8_mod, show v % 256 = v by omega, lApp_eq (by simp; omega), Option.bind_some, show ((c + 1 : Nat) : Int) - 1 = (c : Int) by omega, w64_id (by omega), k4]

def RecsOK (rs : List (List Int)) : Prop := ∀ r ∈ rs, AreBytes r ∧ r.length ≤ 19

theorem jEnc_length : ∀ (rs : List (List Int)) (h : Int), RecsOK rs → (jEnc h rs).length ≤ 29 * rs.length
  | [], _, _ => by simp [jEnc]
  | r :: rs, h, hr => by
    have h1 := jEnc_length rs (jSum h (jBody r)) fun x hx => hr x (.tail _ hx)
    have h2 := (hr r (.head _)).2
    rw [jEnc, List.length_append, jFrame_length, List.length_cons]
    omega

theorem f44_l1_is {n : Nat} (hn : 5000 ≤ n) : ∀ (c m : Nat) (d : Deck) (rs : List (List Int)), DeckOK d → RecsOK rs → rs.length + c ≤ 5 → c < m →
    ∃ rs' : List (List Int), RecsOK rs' ∧ rs'.length ≤ 5 ∧ ∀ j, f44_l1 n j m d.L d.At rs (jEnc 0 rs) (c : Int) = j rs' (jEnc 0 rs') := by
  intro c
  induction c with
  | zero =>
    intro m d rs h1 h2 h3 h4
    obtain ⟨m, rfl⟩ : ∃ q, m = q + 1 := ⟨m - 1, by omega⟩
    exact ⟨rs, h2, by omega, fun j => by rw [f44_l1, if_neg (by simp)]⟩
  | succ c ih =>
    intro m d rs h1 h2 h3 h4
    obtain ⟨m, rfl⟩ : ∃ q, m = q + 1 := ⟨m - 1, by omega⟩
    obtain ⟨v, d', e, hv1, hv2, hd'⟩ := f81_is (n := n) d h1 20 (by omega)
    obtain ⟨v, rfl⟩ := Int.eq_ofNat_of_zero_le hv1
    obtain ⟨d2, r, k1, k2, k3, k4⟩ := f44_l2_is (n := n) v n d' [] hd' nil_bytes (by simp; omega) (by omega)
    have hl := jEnc_length rs 0 h2
    have hr : r.length ≤ 19 := by rw [k3]; simp; omega
    have happ : jApp (jEnc 0 rs) r = (jEnc 0 (rs ++ [r]), 0) := by
      have hp := jP_enc0 rs 0 fun x hx => by have := (h2 x hx).2; omega
      rw [jApp_ok (by rw [hp]) (by omega), hp, jEnc_snoc]
    obtain ⟨rs2, q1, q2, q3⟩ := ih m d2 (rs ++ [r]) k1 (fun x hx => by
      rcases List.mem_append.1 hx with hx | hx
      · exact h2 x hx
      · rw [List.mem_singleton.1 hx]; exact ⟨k2, hr⟩) (by simp; omega) (by omega)
    refine ⟨rs2, q1, q2, fun j => ?_⟩
    have e' : f81 n (⟨d.L, d.At⟩ : Deck) 20 = some ((v : Int), d') := e
    rw [f44_l1, if_pos (by simp), joinK, joinK, e', Option.bind_some, k4, f47_is _ _ (jEnc_bytes rs 0 fun x hx => (h2 x hx).1) (by omega) (by omega) (by omega), Option.bind_some, lApp_eq (by simp; omega), Option.bind_some, happ]
    rw [show ((c + 1 : Nat) : Int) - 1 = (c : Int) by omega, w64_id (by omega)]
    exact q3 j

theorem f44_is {n : Nat} (hn : 5000 ≤ n) (l : List Int) (hl : l.length ≤ 9223372036854775807) : ∃ rs : List (List Int), RecsOK rs ∧ rs.length ≤ 5 ∧ f44 n l = some (rs, jEnc 0 rs) := by
  rw [f44, f80, Option.bind_some, joinK]
  obtain ⟨v, d', e, hv1, hv2, hd'⟩ := f81_is (n := n) (⟨l, 0⟩ : Deck) ⟨by simp, by simp, by simpa using hl⟩ 6 (by omega)
  obtain ⟨v, rfl⟩ := Int.eq_ofNat_of_zero_le hv1
  obtain ⟨rs, h1, h2, h3⟩ := f44_l1_is hn v n d' [] hd' (fun r hr => by cases hr) (by simp; omega) (by omega)
  refine ⟨rs, h1, h2, ?_⟩
  rw [e, Option.bind_some]
  exact h3 _

/-! ### the laws -/

theorem f11_l2_is {n : Nat} (hn : 5000 ≤ n) (r s : List Int) (hr : r.length ≤ 100000) (hs : s.length ≤ 100000) (j : Unit → Option Bool) (x : List Int) (hx : AreBytes x) (hxl : x.length ≤ 1000) :
    f11_l2 n r s j x n 0 = j () := by
  obtain ⟨m, e⟩ : ∃ m, n = m + 3 := ⟨n - 3, by omega⟩
  have hgo : ∀ (y : List Int) (m : Nat) (i : Int), lAt [r, s] i = some y → y.length ≤ 100000 → 0 ≤ i ∧ i < 2 → f11_l2 n r s j x (m + 1) i = f11_l2 n r s j x m (i + 1) := by
    intro y m i h1 h2 h3
    rw [f11_l2, if_pos (by simp; omega), h1, Option.bind_some, f46_is x y hx (by omega) h2 (by omega), f47_is x y hx (by omega) h2 (by omega), Option.bind_some, Option.bind_some, joinK, joinK, if_neg (by simp), sEq_self, if_neg (by simp), w64_id (by omega)]
  rw [show f11_l2 n r s j x n 0 = f11_l2 n r s j x (m + 3) 0 by rw [← e]]
  rw [hgo r _ 0 rfl hr (by omega), hgo s _ (0 + 1) rfl hs (by omega), f11_l2, if_neg (by simp)]

theorem f11_is {n : Nat} (hn : 5000 ≤ n) (l raw rec : List Int) (k : Int) (hl : l.length ≤ 9223372036854775807) (hraw : AreBytes raw) : f11 n l raw rec k = some true := by
  rw [f11, f43_is hn]
  simp only [Option.bind_some, joinK, Bool.not_true, Bool.false_eq_true, if_false]
  by_cases h1 : (raw.length : Int) > 200
  · rw [if_pos (by simpa using h1)]
  rw [if_neg (by simpa using h1)]
  by_cases h2 : (rec.length : Int) > 200
  · rw [if_pos (by simpa using h2)]
  rw [if_neg (by simpa using h2)]
  obtain ⟨rs, hr1, hr2, e⟩ := f44_is hn l hl
  rw [e]
  simp only [Option.bind_some]
  have hb := jEnc_bytes rs 0 fun x hx => (hr1 x hx).1
  have hbl := jEnc_length rs 0 hr1
  generalize jEnc 0 rs = b at hb hbl
  obtain ⟨r, er, hr3, hr4⟩ := f45_is (n := n) k 3 (by omega)
  rw [er, Option.bind_some, w64_id (by omega), lMake_eq (by omega), Option.bind_some, w64_id (by omega)]
  obtain ⟨q, eq, hq1, hq2⟩ := f45_is (n := n) k ((b.length : Int) + 1) (by omega)
  rw [eq, Option.bind_some, lPart_eq (by omega), Option.bind_some]
  have hz : (List.replicate (4095 + r).toNat (0 : Int)).length ≤ 100000 := by simp; omega
  generalize List.replicate (4095 + r).toNat (0 : Int) = z at hz
  rw [show ((0 : Int).toNat) = 0 from rfl, List.drop_zero]
  have hgo : ∀ (y : List Int) (j : Unit → Option Bool) (m : Nat) (i : Int), lAt [b, raw, b.take q.toNat] i = some y → AreBytes y → y.length ≤ 1000 → 0 ≤ i ∧ i < 3 →
      f11_l1 n raw rec (rs, b) z j (b.take q.toNat) (m + 1) i = f11_l1 n raw rec (rs, b) z j (b.take q.toNat) m (i + 1) := by
    intro y j m i h1 h2 h3 h4
    rw [f11_l1, if_pos (by simp; omega), joinK, h1, Option.bind_some, f11_l2_is hn _ _ (by omega) hz _ _ h2 h3, w64_id (by omega)]
  obtain ⟨m, em⟩ : ∃ m, n = m + 4 := ⟨n - 4, by omega⟩
  rw [show ∀ j, f11_l1 n raw rec (rs, b) z j (b.take q.toNat) n 0 = f11_l1 n raw rec (rs, b) z j (b.take q.toNat) (m + 4) 0 from fun j => by rw [← em]]
  rw [hgo b _ _ 0 rfl hb (by omega) (by omega), hgo raw _ _ (0 + 1) rfl hraw (by omega) (by omega), hgo (b.take q.toNat) _ _ (0 + 1 + 1) rfl (take_bytes hb _) (by simp; omega) (by omega), f11_l1, if_neg (by simp)]

theorem jP_len : ∀ (m : Nat) (l : List Int) (h : Int), l.length ≤ m → (jP l h).1.length ≤ l.length
  | 0, l, h, hm => by
    obtain rfl := List.eq_nil_of_length_eq_zero (by omega : l.length = 0)
    rw [jP_nil]; simp
  | m + 1, l, h, hm => by
    rw [jP]
    repeat' split
    all_goals try (dsimp only; simp; done)
    have := jP_len m (l.drop ((leV (l.take 2)).toNat + 10)) (jSum h (l.take (2 + (leV (l.take 2)).toNat))) (by simp; omega)
    dsimp only
    simp only [List.length_drop, List.length_cons] at this ⊢
    omega

theorem f12_is {n : Nat} (hn : 5000 ≤ n) (l raw : List Int) (k c : Int) (hl : l.length ≤ 9223372036854775807) (hraw : AreBytes raw) (hc : 0 ≤ c ∧ c < 256) : f12 n l raw k c = some true := by
  rw [f12, f43_is hn]
  simp only [Option.bind_some, joinK, Bool.not_true, Bool.false_eq_true, if_false]
  by_cases h1 : (raw.length : Int) > 200
  · rw [if_pos (by simpa using h1)]
  rw [if_neg (by simpa using h1)]
  obtain ⟨rs, hr1, hr2, e⟩ := f44_is hn l hl
  rw [e]
  simp only [Option.bind_some]
  have hb := jEnc_bytes rs 0 fun x hx => (hr1 x hx).1
  have hbl := jEnc_length rs 0 hr1
  generalize jEnc 0 rs = b at hb hbl
  rw [lApp_eq (by simp; omega), Option.bind_some, List.nil_append, w64_id (by omega)]
  obtain ⟨q, eq, hq1, hq2⟩ := f45_is (n := n) k ((b.length : Int) + 1) (by omega)
  rw [eq, Option.bind_some]
  have hgo : ∀ (v : List Int) (hv : AreBytes v) (hvl : v.length ≤ 1000), (lPart b (0 : Int) q).bind (fun x180 =>
      (lApp b raw).bind fun x183 =>
      (lApp b ([255, 255, 0, 0, 0, 0, 0, 0, 0, 0, 1] : List Int)).bind fun x186 =>
      f12_l1 n raw (rs, b) v (fun _ => some true) x180 x183 x186 n 0) = some true := by
    intro v hv hvl
    rw [lPart_eq (by omega), Option.bind_some, lApp_eq (by omega), Option.bind_some, lApp_eq (by simp; omega), Option.bind_some, show ((0 : Int).toNat) = 0 from rfl, List.drop_zero]
    have hx1 := take_bytes hb q.toNat
    have hx2 := append_bytes hb hraw
    have hx3 : AreBytes (b ++ [255, 255, 0, 0, 0, 0, 0, 0, 0, 0, 1]) := append_bytes hb (by
      intro x hx
      simp only [List.mem_cons, List.not_mem_nil, or_false] at hx
      omega)
    have hl1 : (b.take q.toNat).length ≤ 1000 := by simp; omega
    have hl2 : (b ++ raw).length ≤ 1000 := by simp; omega
    have hl3 : (b ++ [255, 255, 0, 0, 0, 0, 0, 0, 0, 0, 1]).length ≤ 1000 := by simp; omega
    generalize b.take q.toNat = x1 at hx1 hl1
    generalize b ++ raw = x2 at hx2 hl2
    generalize b ++ [255, 255, 0, 0, 0, 0, 0, 0, 0, 0, 1] = x3 at hx3 hl3
    have hstep : ∀ (y : List Int) (m : Nat) (i : Int), lAt [b, v, x1, raw, x2, x3] i = some y → AreBytes y → y.length ≤ 1000 → 0 ≤ i ∧ i < 6 →
        f12_l1 n raw (rs, b) v (fun _ => some true) x1 x2 x3 (m + 1) i = f12_l1 n raw (rs, b) v (fun _ => some true) x1 x2 x3 m (i + 1) := by
      intro y m i h1 h2 h3 h4
      have hjl := jP_len y.length y 0 (by omega)
      rw [f12_l1, if_pos (by simp; omega), h1, Option.bind_some, f48_is y h2 (by omega) (by omega), f49_is y h2 (by omega) (by omega), Option.bind_some, Option.bind_some]
      simp only [joinK]
      rw [if_neg (by simp), if_neg (by simp), f50_is _ (by omega) (by omega), Option.bind_some, if_neg (by simp), f51_is y h2 (by omega) (by omega), f52_is y h2 (by omega) (by omega), Option.bind_some, Option.bind_some, sEq_self]
      rw [if_neg (by simp), w64_id (by omega)]
    obtain ⟨m, em⟩ : ∃ m, n = m + 7 := ⟨n - 7, by omega⟩
    rw [show f12_l1 n raw (rs, b) v (fun _ => some true) x1 x2 x3 n 0 = f12_l1 n raw (rs, b) v (fun _ => some true) x1 x2 x3 (m + 7) 0 by rw [← em]]
    rw [hstep b _ 0 rfl hb (by omega) (by omega), hstep v _ (0 + 1) rfl hv hvl (by omega), hstep x1 _ (0 + 1 + 1) rfl hx1 hl1 (by omega), hstep raw _ (0 + 1 + 1 + 1) rfl hraw (by omega) (by omega), hstep x2 _ (0 + 1 + 1 + 1 + 1) rfl hx2 hl2 (by omega), hstep x3 _ (0 + 1 + 1 + 1 + 1 + 1) rfl hx3 hl3 (by omega), f12_l1, if_neg (by simp)]
  by_cases h2 : q < b.length
  · rw [if_pos (by simpa using h2), lAt_eq (by omega), Option.bind_some]
    refine hgo _ (fun x hx => ?_) (by simp; omega)
    rcases List.mem_or_eq_of_mem_set hx with hx | rfl
    · exact hb x hx
    · omega
  · rw [if_neg (by simpa using h2)]
    exact hgo b hb (by omega)

end Go.Proofs.Ytcahjpkmldmjdaa
