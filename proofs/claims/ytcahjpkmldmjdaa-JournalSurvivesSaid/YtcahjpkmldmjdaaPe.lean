/-
  Plain laws of the journal: what a journal says, what is put behind it, what is left of one that was cut.
-/
import Derived.Test.YtcahjpkmldmjdaaPc
import Derived.Test.YtcahjpkmldmjdaaGj
namespace Go.Proofs.Ytcahjpkmldmjdaa
open Go Ab

theorem fnvI_range : ∀ (l : List Int) (h : Int), 0 ≤ h ∧ h < 18446744073709551616 → 0 ≤ fnvI h l ∧ fnvI h l < 18446744073709551616
  | [], _, hh => hh
  | b :: l, h, _ => by
    rw [fnvI]
    refine fnvI_range l _ ?_
    rw [wrap_u64]
    omega

def jSum (h : Int) (body : List Int) : Int := fnvI 14695981039346656037 (leN 8 h ++ body)
theorem jSum_range (h : Int) (body : List Int) : 0 ≤ jSum h body ∧ jSum h body < 18446744073709551616 := fnvI_range _ _ (by decide)

/-- What stands in a journal behind a frame of hash h: the records, how many bytes they take, the last hash, why it ends. -/
def jP (l : List Int) (h : Int) : List (List Int) × Int × Int × Int :=
  if l.length = 0 then ([], 0, h, 0)
  else if l.length < 10 then ([], 0, h, 4)
  else if leV (l.take 2) > 4096 then ([], 0, h, 3)
  else if (l.length : Int) < leV (l.take 2) + 10 then ([], 0, h, 4)
  else if leV ((l.drop (2 + (leV (l.take 2)).toNat)).take 8) ≠ jSum h (l.take (2 + (leV (l.take 2)).toNat)) then ([], 0, h, 6)
  else
    let k := (leV (l.take 2)).toNat
    let R := jP (l.drop (k + 10)) (jSum h (l.take (2 + k)))
    ((l.take (2 + k)).drop 2 :: R.1, (k : Int) + 10 + R.2.1, R.2.2.1, R.2.2.2)
termination_by l.length
decreasing_by simp; omega

theorem jP_nil (h : Int) : jP [] h = ([], 0, h, 0) := by rw [jP]; rfl
theorem jP_short {l : List Int} {h : Int} (h0 : l.length ≠ 0) (h1 : l.length < 10) : jP l h = ([], 0, h, 4) := by rw [jP, if_neg h0, if_pos h1]
theorem jP_limit {l : List Int} {h : Int} (h1 : 10 ≤ l.length) (h2 : leV (l.take 2) > 4096) : jP l h = ([], 0, h, 3) := by rw [jP, if_neg (by omega), if_neg (by omega), if_pos h2]
theorem jP_cut {l : List Int} {h : Int} (h1 : 10 ≤ l.length) (h2 : leV (l.take 2) ≤ 4096) (h3 : (l.length : Int) < leV (l.take 2) + 10) : jP l h = ([], 0, h, 4) := by
  rw [jP, if_neg (by omega), if_neg (by omega), if_neg (by omega), if_pos h3]
theorem jP_sum {l : List Int} {h : Int} {k : Nat} (hk : leV (l.take 2) = k) (h2 : k ≤ 4096) (h3 : k + 10 ≤ l.length) (h4 : leV ((l.drop (2 + k)).take 8) ≠ jSum h (l.take (2 + k))) : jP l h = ([], 0, h, 6) := by
  rw [jP, if_neg (by omega), if_neg (by omega), if_neg (by omega), if_neg (by omega), hk, Int.toNat_natCast, if_pos h4]
theorem jP_ok {l : List Int} {h : Int} {k : Nat} (hk : leV (l.take 2) = k) (h2 : k ≤ 4096) (h3 : k + 10 ≤ l.length) (h4 : leV ((l.drop (2 + k)).take 8) = jSum h (l.take (2 + k))) :
    jP l h = ((l.take (2 + k)).drop 2 :: (jP (l.drop (k + 10)) (jSum h (l.take (2 + k)))).1, (k : Int) + 10 + (jP (l.drop (k + 10)) (jSum h (l.take (2 + k)))).2.1, (jP (l.drop (k + 10)) (jSum h (l.take (2 + k)))).2.2.1, (jP (l.drop (k + 10)) (jSum h (l.take (2 + k)))).2.2.2) := by
  rw [jP, if_neg (by omega), if_neg (by omega), if_neg (by omega), if_neg (by omega), hk, Int.toNat_natCast, if_neg (by simpa using h4)]

theorem leN_leV : ∀ {l : List Int}, AreBytes l → leN l.length (leV l) = l
  | [], _ => rfl
  | b :: l, h => by
    have h1 := h b (.head _)
    have h2 := leN_leV (l := l) fun n hn => h n (.tail _ hn)
    rw [List.length_cons, leN, leV, show (b + 256 * leV l) % 256 = b by omega, show (b + 256 * leV l) / 256 = leV l by omega, h2]

theorem le2_of {l : List Int} (hl : AreBytes l) : ∃ k : Nat, leV (l.take 2) = k ∧ k < 65536 := by
  have h := leV_range (l.take 2) (take_bytes hl 2)
  have h2 : (256 : Int) ^ (l.take 2).length ≤ 256 ^ 2 := pow256_mono (by simp; omega)
  refine ⟨(leV (l.take 2)).toNat, by omega, ?_⟩
  have : (256 : Int) ^ 2 = 65536 := rfl
  omega

theorem getV_at {l : List Int} {a n : Nat} (h : a + n ≤ l.length) : getV l (a : Int) n = leV ((l.drop a).take n) := by
  rw [getV, if_pos (getE_ok.2 (by omega)), Int.toNat_natCast]

theorem f84_is {n : Nat} (hn : 1000 ≤ n) (h : Int) (body : List Int) (hb : body.length ≤ 1000000000) (hl : body.length + 8 < n) : f84 n h body = some (jSum h body) := by
  rw [f84, f28_is hn _ _ (by simp), Option.bind_some, List.nil_append, lApp_eq (by rw [leN_length]; omega), Option.bind_some, f20_is _ (by simp [leN_length]; omega) (by simp [leN_length]; omega)]
  rfl
theorem f86_is {n : Nat} (hn : 1000 ≤ n) (h : Int) (r : List Int) (hb : r.length ≤ 60000) (hl : r.length + 10 < n) : f86 n h r = some (jSum h (leN 2 r.length ++ r)) := by
  rw [f86, f29_is hn _ _ (by simp), Option.bind_some, List.nil_append, wrap_u16, Int.emod_eq_of_lt (by omega) (by omega), f25_is hn _ _ (by omega) (by simp [leN_length]), Option.bind_some, lApp_eq (by simp [leN_length]; omega), Option.bind_some, f21_is _ (by simp [leN_length]; omega) (by simp [leN_length]; omega)]
  simp [jSum]
theorem f87_is {n : Nat} (l : List Int) (hb : l.length ≤ 1000000000) : f87 n l = some l := by
  rw [f87, lApp_eq (by simp; omega)]
  rfl

theorem part_end {l : List Int} {p : Nat} (h : p ≤ l.length) (_hb : l.length ≤ 1000000000) : lPart l (p : Int) (l.length : Int) = some (l.drop p) := by
  rw [lPart_eq (by omega), Int.toNat_natCast, Int.toNat_natCast, List.take_length]

theorem f82_l1_is {n : Nat} (l : List Int) (hl : AreBytes l) (hb : l.length ≤ 1000000000) (hn : 1000 ≤ n ∧ l.length + 10 < n) : ∀ (m p : Nat) (out : List (List Int)) (h : Int), p ≤ l.length → l.length - p < m → out.length + (l.length - p) ≤ 20000000000 →
    f82_l1 n l m out (p : Int) h = some (out ++ (jP (l.drop p) h).1, (p : Int) + (jP (l.drop p) h).2.1, (jP (l.drop p) h).2.2.1, (jP (l.drop p) h).2.2.2) := by
  intro m
  induction m with
  | zero => intro p out h h1 h2; omega
  | succ m ih =>
    intro p out h h1 h2 h3
    rw [f82_l1, part_end h1 hb, Option.bind_some]
    have hx := drop_bytes hl p
    have hxl : (l.drop p).length = l.length - p := List.length_drop
    have hdd : ∀ q, (l.drop p).drop q = l.drop (p + q) := fun q => List.drop_drop
    generalize hxe : l.drop p = x at hx hxl hdd ⊢
    by_cases c1 : x.length = 0
    · rw [if_pos (by simpa using c1)]
      obtain rfl := List.eq_nil_of_length_eq_zero c1
      rw [jP_nil]
      simp
    rw [if_neg (by simpa using c1)]
    by_cases c2 : x.length < 10
    · rw [if_pos (by simp; omega), jP_short c1 c2]
      simp
    rw [if_neg (by simp; omega), f32_is hn.1 x hx (by omega) 0 (by decide), Option.bind_some]
    obtain ⟨k, hk, hk2⟩ := le2_of hx
    have hv : getV x 0 2 = k := by
      have := getV_at (l := x) (a := 0) (n := 2) (by omega)
      rw [List.drop_zero, hk] at this
      exact this
    simp only [hv]
    by_cases c3 : k > 4096
    · rw [if_pos (by simp; omega), jP_limit (by omega) (by omega)]
      simp
    rw [if_neg (by simp; omega)]
    rw [w64_id (x := (k : Int)) (by omega), w64_id (x := 2 + (k : Int)) (by omega), w64_id (x := 2 + (k : Int) + 8) (by omega)]
    by_cases c4 : x.length < k + 10
    · rw [if_pos (by simp; omega), jP_cut (by omega) (by omega) (by omega)]
      simp
    rw [if_neg (by simp; omega), lPart_eq (by omega), Option.bind_some, show (2 + (k : Int)).toNat = 2 + k by omega]
    rw [show ((0 : Int).toNat) = 0 from rfl, List.drop_zero, f84_is hn.1 _ _ (by simp; omega) (by simp; omega), Option.bind_some]
    rw [show (2 + (k : Int)) = ((2 + k : Nat) : Int) by omega, f35_is hn.1 x hx (by omega) _ (by omega), Option.bind_some]
    simp only [getV_at (l := x) (a := 2 + k) (n := 8) (by omega)]
    by_cases c5 : leV ((x.drop (2 + k)).take 8) = jSum h (x.take (2 + k))
    · rw [if_neg (by simpa using c5), lPart_eq (by omega), Option.bind_some, Int.toNat_natCast, show ((2 : Int).toNat) = 2 from rfl, f87_is _ (by simp; omega), Option.bind_some, lApp_eq (by simp; omega), Option.bind_some]
      rw [w64_id (x := (p : Int) + ((2 + k : Nat) : Int)) (by omega), w64_id (x := (p : Int) + ((2 + k : Nat) : Int) + 8) (by omega), show (p : Int) + ((2 + k : Nat) : Int) + 8 = ((p + (k + 10) : Nat) : Int) by omega]
      rw [ih _ _ _ (by omega) (by omega) (by simp; omega), jP_ok hk (by omega) (by omega) c5, hdd]
      simp only [List.append_assoc, List.cons_append, List.nil_append]
      congr 3
      omega
    · rw [if_pos (by simpa using c5), jP_sum hk (by omega) (by omega) c5]
      simp

theorem f82_is {n : Nat} (l : List Int) (hl : AreBytes l) (hb : l.length ≤ 1000000000) (hn : 1000 ≤ n ∧ l.length + 10 < n) : f82 n l = some (jP l 0) := by
  rw [f82]
  have := f82_l1_is l hl hb hn n 0 [] 0 (by omega) (by omega) (by simp; omega)
  rw [show ((0 : Nat) : Int) = 0 from rfl] at this
  rw [this]
  simp

theorem f85_l1_is {n : Nat} (l : List Int) (hl : AreBytes l) (hb : l.length ≤ 1000000000) (hn : 1000 ≤ n ∧ l.length + 10 < n) : ∀ (m p : Nat) (out : List (List Int)) (h : Int), p ≤ l.length → l.length - p < m → out.length + (l.length - p) ≤ 20000000000 →
    f85_l1 n l (fun v68 v70 v71 => some (v68, v70, v71, 0)) m out (p : Int) h = some (out ++ (jP (l.drop p) h).1, (p : Int) + (jP (l.drop p) h).2.1, (jP (l.drop p) h).2.2.1, (jP (l.drop p) h).2.2.2) := by
  intro m
  induction m with
  | zero => intro p out h h1 h2; omega
  | succ m ih =>
    intro p out h h1 h2 h3
    rw [f85_l1]
    have hx := drop_bytes hl p
    have hxl : (l.drop p).length = l.length - p := List.length_drop
    have hdd : ∀ q, (l.drop p).drop q = l.drop (p + q) := fun q => List.drop_drop
    have hpe := part_end h1 hb
    generalize hxe : l.drop p = x at hx hxl hdd hpe ⊢
    by_cases c1 : x.length = 0
    · rw [if_neg (by simp; omega)]
      obtain rfl := List.eq_nil_of_length_eq_zero c1
      rw [jP_nil]
      simp
    rw [if_pos (by simp; omega), hpe, Option.bind_some]
    by_cases c2 : x.length < 10
    · rw [if_pos (by simp; omega), jP_short c1 c2]
      simp
    rw [if_neg (by simp; omega), f33_is hn.1 x hx (by omega) 0 (by decide), Option.bind_some]
    obtain ⟨k, hk, hk2⟩ := le2_of hx
    have hv : getV x 0 2 = k := by
      have := getV_at (l := x) (a := 0) (n := 2) (by omega)
      rw [List.drop_zero, hk] at this
      exact this
    simp only [hv]
    rw [w64_id (x := (k : Int)) (by omega), w64_id (x := (k : Int) + 10) (by omega), w64_id (x := 2 + (k : Int)) (by omega)]
    by_cases c3 : k > 4096
    · rw [if_pos (by simp; omega), jP_limit (by omega) (by omega)]
      simp
    rw [if_neg (by simp; omega)]
    by_cases c4 : x.length < k + 10
    · rw [if_pos (by simp; omega), jP_cut (by omega) (by omega) (by omega)]
      simp
    rw [if_neg (by simp; omega), lPart_eq (by omega), Option.bind_some, show (2 + (k : Int)).toNat = 2 + k by omega, show ((2 : Int).toNat) = 2 from rfl]
    rw [show (2 + (k : Int)) = ((2 + k : Nat) : Int) by omega, f36_is hn.1 x hx (by omega) _ (by omega), Option.bind_some]
    have hrl : ((x.take (2 + k)).drop 2).length = k := by simp; omega
    have hbody : leN 2 (((x.take (2 + k)).drop 2).length : Int) ++ (x.take (2 + k)).drop 2 = x.take (2 + k) := by
      have e1 : (x.take 2).length = 2 := by simp; omega
      have e3 := leN_leV (take_bytes hx 2)
      rw [e1] at e3
      have e2 : x.take 2 = (x.take (2 + k)).take 2 := by rw [List.take_take]; congr 1; omega
      rw [hrl, ← hk, e3, e2, List.take_append_drop]
    rw [f86_is hn.1 _ _ (by omega) (by omega), Option.bind_some, hbody]
    simp only [getV_at (l := x) (a := 2 + k) (n := 8) (by omega)]
    by_cases c5 : leV ((x.drop (2 + k)).take 8) = jSum h (x.take (2 + k))
    · rw [if_neg (by simpa using c5), lApp_eq (by simp; omega), Option.bind_some, lApp_eq (by simp; omega), Option.bind_some, List.nil_append]
      rw [w64_id (x := (p : Int) + (k : Int)) (by omega), w64_id (x := (p : Int) + (k : Int) + 10) (by omega), show (p : Int) + (k : Int) + 10 = ((p + (k + 10) : Nat) : Int) by omega, c5]
      rw [ih _ _ _ (by omega) (by omega) (by simp; omega), jP_ok hk (by omega) (by omega) c5, hdd]
      simp only [List.append_assoc, List.cons_append, List.nil_append]
      congr 3
      omega
    · rw [if_pos (by simpa using c5), jP_sum hk (by omega) (by omega) c5]
      simp

theorem f85_is {n : Nat} (l : List Int) (hl : AreBytes l) (hb : l.length ≤ 1000000000) (hn : 1000 ≤ n ∧ l.length + 10 < n) : f85 n l = some (jP l 0) := by
  rw [f85, joinK]
  have := f85_l1_is l hl hb hn n 0 [] 0 (by omega) (by omega) (by simp; omega)
  rw [show ((0 : Nat) : Int) = 0 from rfl] at this
  rw [this]
  simp

/-! ### encoding -/

def jBody (r : List Int) : List Int := leN 2 r.length ++ r
def jFrame (h : Int) (r : List Int) : List Int := jBody r ++ leN 8 (jSum h (jBody r))
def jEnc : Int → List (List Int) → List Int
  | _, [] => []
  | h, r :: l => jFrame h r ++ jEnc (jSum h (jBody r)) l
def jLast : Int → List (List Int) → Int
  | h, [] => h
  | h, r :: l => jLast (jSum h (jBody r)) l

theorem jBody_length (r : List Int) : (jBody r).length = r.length + 2 := by simp [jBody, leN_length]; omega
theorem jFrame_length (h : Int) (r : List Int) : (jFrame h r).length = r.length + 10 := by simp [jFrame, jBody_length, leN_length]
theorem jFrame_bytes (h : Int) {r : List Int} (hr : AreBytes r) : AreBytes (jFrame h r) := append_bytes (append_bytes (leN_bytes _ _) hr) (leN_bytes _ _)
theorem jEnc_bytes : ∀ (rs : List (List Int)) (h : Int), (∀ r ∈ rs, AreBytes r) → AreBytes (jEnc h rs)
  | [], _, _ => nil_bytes
  | r :: rs, h, hr => append_bytes (jFrame_bytes h (hr r (.head _))) (jEnc_bytes rs _ fun x hx => hr x (.tail _ hx))

theorem jEnc_snoc : ∀ (rs : List (List Int)) (h : Int) (r : List Int), jEnc h (rs ++ [r]) = jEnc h rs ++ jFrame (jLast h rs) r
  | [], h, r => by simp [jEnc, jLast]
  | x :: rs, h, r => by simp only [List.cons_append, jEnc, jEnc_snoc rs, jLast, List.append_assoc]

theorem leV2 {k : Nat} (hk : k < 65536) : leV (leN 2 (k : Int)) = k := by
  rw [leV_leN 2 _ (by omega)]
  exact Int.emod_eq_of_lt (by omega) (by show (k : Int) < 65536; omega)

theorem jP_frame (h : Int) (r l : List Int) (hr : r.length ≤ 4096) : jP (jFrame h r ++ l) h = (r :: (jP l (jSum h (jBody r))).1, (r.length : Int) + 10 + (jP l (jSum h (jBody r))).2.1, (jP l (jSum h (jBody r))).2.2.1, (jP l (jSum h (jBody r))).2.2.2) := by
  have e0 : jFrame h r ++ l = leN 2 (r.length : Int) ++ (r ++ (leN 8 (jSum h (jBody r)) ++ l)) := by simp [jFrame, jBody]
  have e1 : (jFrame h r ++ l).take 2 = leN 2 (r.length : Int) := by rw [e0, List.take_left' (leN_length 2 _)]
  have e2 : (jFrame h r ++ l).take (2 + r.length) = jBody r := by rw [jFrame, List.append_assoc, List.take_left' (by rw [jBody_length]; omega)]
  have e3 : (jFrame h r ++ l).drop (2 + r.length) = leN 8 (jSum h (jBody r)) ++ l := by rw [jFrame, List.append_assoc, List.drop_left' (by rw [jBody_length]; omega)]
  have e4 : (jFrame h r ++ l).drop (r.length + 10) = l := List.drop_left' (jFrame_length h r)
  have e5 : (jBody r).drop 2 = r := by rw [jBody, List.drop_left' (leN_length 2 _)]
  rw [jP_ok (k := r.length) (by rw [e1, leV2 (by omega)]) hr (by rw [List.length_append, jFrame_length]; omega) (by
    rw [e2, e3, List.take_left' (leN_length 8 _), leV_leN 8 _ (jSum_range _ _).1]
    exact Int.emod_eq_of_lt (jSum_range _ _).1 (jSum_range _ _).2), e2, e4, e5]

theorem jP_enc : ∀ (rs : List (List Int)) (h : Int) (l : List Int), (∀ r ∈ rs, r.length ≤ 4096) → jP (jEnc h rs ++ l) h = (rs ++ (jP l (jLast h rs)).1, ((jEnc h rs).length : Int) + (jP l (jLast h rs)).2.1, (jP l (jLast h rs)).2.2.1, (jP l (jLast h rs)).2.2.2)
  | [], h, l, _ => by simp [jEnc, jLast]
  | r :: rs, h, l, hr => by
    rw [jEnc, List.append_assoc, jP_frame h r _ (hr r (.head _)), jP_enc rs _ l fun x hx => hr x (.tail _ hx), jLast, List.length_append, jFrame_length]
    simp only [List.cons_append, Prod.mk.injEq, and_true, true_and]
    omega

theorem jP_enc0 (rs : List (List Int)) (h : Int) (hr : ∀ r ∈ rs, r.length ≤ 4096) : jP (jEnc h rs) h = (rs, ((jEnc h rs).length : Int), jLast h rs, 0) := by
  have := jP_enc rs h [] hr
  rw [List.append_nil, jP_nil] at this
  simpa using this

/-- What is left of a journal that was cut. -/
theorem jP_take : ∀ (rs : List (List Int)) (h : Int) (k : Nat), (∀ r ∈ rs, r.length ≤ 4096) → k ≤ (jEnc h rs).length →
    ∃ q, q ≤ rs.length ∧ (jEnc h (rs.take q)).length ≤ k ∧ (jP ((jEnc h rs).take k) h).1 = rs.take q ∧ (jP ((jEnc h rs).take k) h).2.1 = ((jEnc h (rs.take q)).length : Int) ∧ ((jEnc h rs).take k).take (jEnc h (rs.take q)).length = jEnc h (rs.take q)
  | [], h, k, _, _ => ⟨0, by simp, by simp [jEnc], by simp [jEnc, jP_nil], by simp [jEnc, jP_nil], by simp [jEnc]⟩
  | r :: rs, h, k, hr, hk => by
    rw [jEnc, List.length_append, jFrame_length] at hk
    by_cases hc : r.length + 10 ≤ k
    · obtain ⟨q, h1, h2, h3, h4, h5⟩ := jP_take rs (jSum h (jBody r)) (k - (r.length + 10)) (fun x hx => hr x (.tail _ hx)) (by omega)
      have e : (jEnc h (r :: rs)).take k = jFrame h r ++ (jEnc (jSum h (jBody r)) rs).take (k - (r.length + 10)) := by
        rw [jEnc, List.take_append, jFrame_length, List.take_of_length_le (by rw [jFrame_length]; omega)]
      refine ⟨q + 1, by simp; omega, ?_, ?_, ?_, ?_⟩
      · simp only [List.take_succ_cons, jEnc, List.length_append, jFrame_length]; omega
      · rw [e, jP_frame h r _ (hr r (.head _)), h3]; rfl
      · rw [e, jP_frame h r _ (hr r (.head _)), h4]
        simp only [List.take_succ_cons, jEnc, List.length_append, jFrame_length]
        omega
      · rw [e]
        simp only [List.take_succ_cons, jEnc, List.length_append]
        rw [List.take_length_add_append, h5]
    · have hx : ((jEnc h (r :: rs)).take k).length = k := by rw [List.length_take, jEnc, List.length_append, jFrame_length]; omega
      have hz : (jP ((jEnc h (r :: rs)).take k) h).1 = [] ∧ (jP ((jEnc h (r :: rs)).take k) h).2.1 = 0 := by
        by_cases c0 : k = 0
        · subst c0; rw [List.take_zero, jP_nil]; exact ⟨rfl, rfl⟩
        by_cases c1 : k < 10
        · rw [jP_short (by omega) (by omega)]; exact ⟨rfl, rfl⟩
        · have e1 : ((jEnc h (r :: rs)).take k).take 2 = leN 2 (r.length : Int) := by
            rw [List.take_take, Nat.min_eq_left (by omega), jEnc, jFrame, jBody, List.append_assoc, List.append_assoc, List.take_left' (leN_length 2 _)]
          have hrl := hr r (.head _)
          rw [jP_cut (by omega) (by rw [e1, leV2 (by omega)]; omega) (by rw [e1, leV2 (by omega), hx]; omega)]
          exact ⟨rfl, rfl⟩
      refine ⟨0, by simp, by simp [jEnc], ?_, ?_, by simp [jEnc]⟩
      · rw [hz.1]; rfl
      · rw [hz.2]; rfl

theorem jP_at : ∀ (m : Nat) (l : List Int) (h : Int), l.length ≤ m → 0 ≤ (jP l h).2.1 ∧ (jP l h).2.1 ≤ l.length
  | 0, l, h, hm => by
    obtain rfl := List.eq_nil_of_length_eq_zero (by omega : l.length = 0)
    rw [jP_nil]; simp
  | m + 1, l, h, hm => by
    rw [jP]
    repeat' split
    all_goals try (dsimp only; omega)
    rename_i h1 h2 h3 h4 h5
    have := jP_at m (l.drop ((leV (l.take 2)).toNat + 10)) (jSum h (l.take (2 + (leV (l.take 2)).toNat))) (by simp; omega)
    dsimp only
    simp only [List.length_drop] at this
    omega

end Go.Proofs.Ytcahjpkmldmjdaa
