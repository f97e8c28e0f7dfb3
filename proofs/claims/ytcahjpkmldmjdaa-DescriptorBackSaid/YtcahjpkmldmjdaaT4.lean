/-
  Plain laws of descriptors: what comes back; bytes that were cut, changed, sealed.
-/
import Derived.Test.YtcahjpkmldmjdaaT3
import Derived.Test.YtcahjpkmldmjdaaPc1
import Derived.Test.YtcahjpkmldmjdaaPd1
namespace Go.Proofs.Ytcahjpkmldmjdaa
open Go Ab

/-- What is written as `e` is read as `v`, whatever lies before and behind it. -/
def Rd {α : Type} (P : List Int → Plc → α × Plc) (e : List Int) (v : α) : Prop := ∀ b pre r : List Int, b = pre ++ (e ++ r) → P b ((pre.length : Int), false) = (v, (((pre ++ e).length : Nat) : Int), false)

theorem rd1 {α : Type} {P : List Int → Plc → α × Plc} {e1 e2 : List Int} {v : α} (h : Rd P e1 v) {b pre r : List Int} (hb : b = pre ++ ((e1 ++ e2) ++ r)) : P b ((pre.length : Int), false) = (v, (((pre ++ e1).length : Nat) : Int), false) ∧ b = (pre ++ e1) ++ (e2 ++ r) :=
  ⟨h b pre (e2 ++ r) (by rw [hb, List.append_assoc]), by rw [hb]; simp only [List.append_assoc]⟩

theorem rdN {w : Nat} {v : Int} (hv : 0 ≤ v ∧ v < 256 ^ w) : Rd (pN w) (leN w v) v := by
  intro b pre r hb
  obtain ⟨h1, h2, h3⟩ := get_put pre w v hv r
  rw [List.append_assoc, ← hb] at h1 h2 h3
  unfold pN
  dsimp only
  rw [h2, if_pos h1, h3, List.length_append, leN_length]
  rfl

theorem rdTx {s : ByteArray} (hs : s.size ≤ 64) : Rd pTx ((s.size : Int) :: strNums s) s := by
  intro b pre r hb
  obtain ⟨h1, h2, h3⟩ := text_put pre s hs r
  rw [List.append_assoc, ← hb] at h1 h2 h3
  unfold pTx
  dsimp only
  rw [h2, if_pos h1, h3, List.length_append, List.length_cons, strNums_length, show (pre.length : Int) + 1 + (s.size : Int) = ((pre.length + (s.size + 1) : Nat) : Int) by omega]

def SpR (x : Span) : Prop := (0 ≤ x.Lo ∧ x.Lo < 256 ^ 4) ∧ (0 ≤ x.Hi ∧ x.Hi < 256 ^ 4)

theorem rdSpans : ∀ l : List Span, (∀ x ∈ l, SpR x) → Rd (fun b => pSpans b l.length) (eSpans l) l
  | [], _ => by
    intro b pre r hb
    rw [eSpans, List.append_nil]
    rfl
  | x :: l, h => by
    intro b pre r hb
    rw [eSpans] at hb ⊢
    obtain ⟨h1, hb1⟩ := rd1 (rdN (h x (.head _)).1) hb
    obtain ⟨h2, hb2⟩ := rd1 (rdN (h x (.head _)).2) hb1
    have h3 := rdSpans l (fun y hy => h y (.tail _ hy)) b _ r hb2
    dsimp only at h3 ⊢
    rw [List.length_cons, pSpans, if_neg (by simp), h1]
    dsimp only
    rw [h2]
    dsimp only
    rw [h3]
    simp only [List.append_assoc]

theorem rdSet {l : List Span} (h : ∀ x ∈ l, SpR x) (hl : l.length < 65536) : Rd pSet (eSet l) l := by
  intro b pre r hb
  rw [eSet] at hb ⊢
  obtain ⟨h1, hb1⟩ := rd1 (rdN (w := 2) (v := (l.length : Int)) ⟨by omega, by rw [show (256 : Int) ^ 2 = 65536 from rfl]; omega⟩) hb
  have h2 := rdSpans l h b _ r hb1
  dsimp only at h2
  rw [pSet, h1]
  dsimp only
  rw [Int.toNat_natCast, h2, List.append_assoc]

theorem rdInts : ∀ l : List Int, (∀ x ∈ l, 0 ≤ x ∧ x < 256 ^ 2) → Rd (fun b => pInts b l.length) (eInts l) l
  | [], _ => by
    intro b pre r hb
    rw [eInts, List.append_nil]
    rfl
  | x :: l, h => by
    intro b pre r hb
    rw [eInts] at hb ⊢
    obtain ⟨h1, hb1⟩ := rd1 (rdN (h x (.head _))) hb
    have h3 := rdInts l (fun y hy => h y (.tail _ hy)) b _ r hb1
    dsimp only at h3 ⊢
    rw [List.length_cons, pInts, if_neg (by simp), h1]
    dsimp only
    rw [h3]
    simp only [List.append_assoc]

theorem rdMap {l : List Int} (h : ∀ x ∈ l, 0 ≤ x ∧ x < 256 ^ 2) (hl : l.length < 65536) : Rd pMap (eMap l) l := by
  intro b pre r hb
  rw [eMap] at hb ⊢
  obtain ⟨h1, hb1⟩ := rd1 (rdN (w := 2) (v := (l.length : Int)) ⟨by omega, by rw [show (256 : Int) ^ 2 = 65536 from rfl]; omega⟩) hb
  have h2 := rdInts l h b _ r hb1
  dsimp only at h2
  rw [pMap, h1]
  dsimp only
  rw [Int.toNat_natCast, h2, List.append_assoc]

def MpR (m : List Int) : Prop := (∀ x ∈ m, 0 ≤ x ∧ x < 256 ^ 2) ∧ m.length < 65536

theorem rdMaps : ∀ l : List (List Int), (∀ m ∈ l, MpR m) → Rd (fun b => pMaps b l.length) (eMaps l) l
  | [], _ => by
    intro b pre r hb
    rw [eMaps, List.append_nil]
    rfl
  | x :: l, h => by
    intro b pre r hb
    rw [eMaps] at hb ⊢
    obtain ⟨h1, hb1⟩ := rd1 (rdMap (h x (.head _)).1 (h x (.head _)).2) hb
    have h3 := rdMaps l (fun y hy => h y (.tail _ hy)) b _ r hb1
    dsimp only at h3 ⊢
    rw [List.length_cons, pMaps, if_neg (by simp), h1]
    dsimp only
    rw [h3]
    simp only [List.append_assoc]

theorem rdMapL {l : List (List Int)} (h : ∀ m ∈ l, MpR m) (hl : l.length < 65536) : Rd pMapL (leN 2 l.length ++ eMaps l) l := by
  intro b pre r hb
  obtain ⟨h1, hb1⟩ := rd1 (rdN (w := 2) (v := (l.length : Int)) ⟨by omega, by rw [show (256 : Int) ^ 2 = 65536 from rfl]; omega⟩) hb
  have h2 := rdMaps l h b _ r hb1
  dsimp only at h2
  rw [pMapL, h1]
  dsimp only
  rw [Int.toNat_natCast, h2, List.append_assoc]

theorem sp_mem {l : List Span} (h : SetV l) {x : Span} (hx : x ∈ l) : SpR x := by
  obtain ⟨i, hi, rfl⟩ := List.mem_iff_getElem.1 hx
  have := spF_of (h.1 i hi)
  rw [sp, List.getD_eq_getElem?_getD, List.getElem?_eq_getElem hi] at this
  simp only [Option.getD_some] at this
  rw [SpR, show (256 : Int) ^ 4 = 4294967296 from rfl]
  omega

theorem mp_rng {m : List Int} (h : MapV m) : MpR m := by
  refine ⟨fun x hx => ?_, by have := h.1.2; omega⟩
  obtain ⟨i, hi, rfl⟩ := List.mem_iff_getElem.1 hx
  have := h.2 i hi
  rw [mpOK, List.getD_eq_getElem?_getD, List.getElem?_eq_getElem hi] at this
  simp only [Option.getD_some, Bool.and_eq_true, decide_eq_true_eq] at this
  rw [show (256 : Int) ^ 2 = 65536 from rfl]
  omega

def BoxR (x : Box) : Prop := BoxV x ∧ (0 ≤ x.Kinds ∧ x.Kinds < 65536)

theorem rdBox {x : Box} (h : BoxR x) : Rd pBox (eBox x) x := by
  obtain ⟨⟨_, _, h1, h2, h3, h4⟩, h5⟩ := h
  intro b pre r hb
  have hm : ∀ m ∈ x.Maps, MpR m := by
    intro m hm
    obtain ⟨i, hi, rfl⟩ := List.mem_iff_getElem.1 hm
    have := h4 i hi
    rw [bmOK, List.getD_eq_getElem?_getD, List.getElem?_eq_getElem hi] at this
    simp only [Option.getD_some, Bool.and_eq_true, decide_eq_true_eq] at this
    exact mp_rng this.1
  have e : eBox x = leN 2 x.Kinds ++ (eSet x.Rates ++ ((leN 2 x.Maps.length ++ eMaps x.Maps) ++ eSet x.Sizes)) := by simp only [eBox, List.append_assoc]
  rw [e] at hb ⊢
  have l1 := h1.1.2
  have l2 := h2.1.2
  obtain ⟨q1, hb1⟩ := rd1 (rdN (w := 2) h5) hb
  obtain ⟨q2, hb2⟩ := rd1 (rdSet (fun y hy => sp_mem h1.1 hy) (by omega)) hb1
  obtain ⟨q3, hb3⟩ := rd1 (rdMapL hm (by omega)) hb2
  have q4 := rdSet (fun y hy => sp_mem h2.1 hy) (by omega) b _ r hb3
  rw [pBox, q1]
  dsimp only
  rw [q2]
  dsimp only
  rw [q3]
  dsimp only
  rw [q4]
  simp only [List.append_assoc]

theorem rdBoxes : ∀ l : List Box, (∀ x ∈ l, BoxR x) → Rd (fun b => pBoxes b l.length) (eBoxes l) l
  | [], _ => by
    intro b pre r hb
    rw [eBoxes, List.append_nil]
    rfl
  | x :: l, h => by
    intro b pre r hb
    rw [eBoxes] at hb ⊢
    obtain ⟨h1, hb1⟩ := rd1 (rdBox (h x (.head _))) hb
    have h3 := rdBoxes l (fun y hy => h y (.tail _ hy)) b _ r hb1
    dsimp only at h3 ⊢
    rw [List.length_cons, pBoxes, if_neg (by simp), h1]
    dsimp only
    rw [h3]
    simp only [List.append_assoc]

/-- A descriptor comes back, whatever lies behind its bytes. -/
theorem desc_read {d : Descriptor} (h : DescM d) (r : List Int) : descP (eBody d ++ r) = d ∧ (dS8 (eBody d ++ r)).2 = (((eBody d).length : Int), false) ∧ (eBody d ++ r).take 4 = [83, 78, 68, 49] := by
  obtain ⟨⟨v1, v2, v3, v4, v5, v6, v7, v8⟩, _, _, hid, hk⟩ := h
  generalize hB : eBody d ++ r = b
  have hb : b = [83, 78, 68, 49] ++ ((leN 8 d.ID ++ (((d.Name.size : Int) :: strNums d.Name) ++ (leN 2 d.Direction ++ (leN 2 d.Domain ++ (leN 4 d.Latency ++ (leN 2 d.Drift ++ (leN 2 d.Jitter ++ (leN 2 d.Boxes.length ++ eBoxes d.Boxes)))))))) ++ r) := by
    rw [← hB, eBody]
    simp only [List.append_assoc]
  have e2 : (256 : Int) ^ 2 = 65536 := rfl
  have e4 : (256 : Int) ^ 4 = 4294967296 := rfl
  obtain ⟨q0, b0⟩ := rd1 (rdN (w := 8) hid) hb
  obtain ⟨q1, b1⟩ := rd1 (rdTx v1.2.2) b0
  obtain ⟨q2, b2⟩ := rd1 (rdN (w := 2) (v := d.Direction) (by omega)) b1
  obtain ⟨q3, b3⟩ := rd1 (rdN (w := 2) (v := d.Domain) (by omega)) b2
  obtain ⟨q4, b4⟩ := rd1 (rdN (w := 4) (v := d.Latency) (by omega)) b3
  obtain ⟨q5, b5⟩ := rd1 (rdN (w := 2) (v := d.Drift) (by omega)) b4
  obtain ⟨q6, b6⟩ := rd1 (rdN (w := 2) (v := d.Jitter) (by omega)) b5
  obtain ⟨q7, b7⟩ := rd1 (rdN (w := 2) (v := (d.Boxes.length : Int)) (by omega)) b6
  have q8 := rdBoxes d.Boxes (fun x hx => ⟨v8.2 x hx, hk x hx⟩) b _ r b7
  dsimp only at q8
  have s0 := (show dS0 b = pN 8 b (4, false) from rfl).trans q0
  have s1 := (show dS1 b = pTx b (dS0 b).2 from rfl).trans ((congrArg (fun z : Int × Plc => pTx b z.2) s0).trans q1)
  have s2 := (show dS2 b = pN 2 b (dS1 b).2 from rfl).trans ((congrArg (fun z : ByteArray × Plc => pN 2 b z.2) s1).trans q2)
  have s3 := (show dS3 b = pN 2 b (dS2 b).2 from rfl).trans ((congrArg (fun z : Int × Plc => pN 2 b z.2) s2).trans q3)
  have s4 := (show dS4 b = pN 4 b (dS3 b).2 from rfl).trans ((congrArg (fun z : Int × Plc => pN 4 b z.2) s3).trans q4)
  have s5 := (show dS5 b = pN 2 b (dS4 b).2 from rfl).trans ((congrArg (fun z : Int × Plc => pN 2 b z.2) s4).trans q5)
  have s6 := (show dS6 b = pN 2 b (dS5 b).2 from rfl).trans ((congrArg (fun z : Int × Plc => pN 2 b z.2) s5).trans q6)
  have s7 := (show dS7 b = pN 2 b (dS6 b).2 from rfl).trans ((congrArg (fun z : Int × Plc => pN 2 b z.2) s6).trans q7)
  have s8 := (show dS8 b = pBoxes b (dS7 b).1.toNat (dS7 b).2 from rfl).trans ((congrArg (fun z : Int × Plc => pBoxes b z.1.toNat z.2) s7).trans q8)
  refine ⟨by rw [descP, s0, s1, s2, s3, s4, s5, s6, s8], ?_, by rw [hb]; rfl⟩
  rw [s8]
  dsimp only
  have : ([83, 78, 68, 49] ++ leN 8 d.ID ++ ((d.Name.size : Int) :: strNums d.Name) ++ leN 2 d.Direction ++ leN 2 d.Domain ++ leN 4 d.Latency ++ leN 2 d.Drift ++ leN 2 d.Jitter ++ leN 2 d.Boxes.length ++ eBoxes d.Boxes : List Int) = eBody d := by
    simp only [eBody, List.append_assoc]
  rw [this]

theorem snd1_is : sEq (mkStr [83, 78, 68, 49]) snd1 = true := by decide +kernel

theorem decB_more {d : Descriptor} (h : DescM d) (r : List Int) : decB (eBody d ++ r) = if r = [] then (d, 0) else (zeroD, 5) := by
  obtain ⟨h1, h2, h3⟩ := desc_read h r
  rw [decB, h3, if_neg (by rw [snd1_is]; decide), h2, h1]
  by_cases hr : r = []
  case neg =>
    rw [if_neg hr, if_pos]
    right
    dsimp only
    have : r.length ≠ 0 := fun hh => hr (List.length_eq_zero_iff.1 hh)
    rw [List.length_append]
    omega
  rw [if_pos hr, hr, if_neg (by simp), if_pos h.1]

/-! ### a reader that is not bad at some bytes reads the same with more behind them -/

def Fo {α : Type} (P : List Int → Plc → α × Plc) : Prop := ∀ (x y : List Int) (s : Plc), AreBytes x → (P x s).2.2 = false → P (x ++ y) s = P x s ∧ s.2 = false

theorem foN (w : Nat) : Fo (pN w) := by
  intro x y s _ h
  unfold pN at h ⊢
  dsimp only at h ⊢
  by_cases he : getE x s.1 w = 0
  case neg => rw [if_neg he] at h; cases h
  rw [if_pos he] at h
  have hr := getE_ok.1 he
  have he' : getE (x ++ y) s.1 w = 0 := getE_ok.2 (by simp; omega)
  refine ⟨?_, h⟩
  rw [if_pos he, if_pos he', getV, getV, getA, getA, if_pos he, if_pos he', if_pos he, if_pos he', List.drop_append_of_le_length (by omega), List.take_append_of_le_length (by rw [List.length_drop]; omega)]

theorem foTx : Fo pTx := by
  intro x y s hx h
  unfold pTx at h ⊢
  dsimp only at h ⊢
  by_cases he : gtE x s.1 = 0
  case neg => rw [if_neg he] at h; cases h
  rw [if_pos he] at h
  have hr := gtE_ok hx he
  have hN : gtN (x ++ y) s.1 = gtN x s.1 := by rw [gtN, gtN, List.getElem?_append_left (by omega)]
  have he' : gtE (x ++ y) s.1 = 0 := by
    rw [gtE, hN, List.length_append, if_neg (by omega), if_neg (by omega), if_neg (by omega), if_neg (by omega)]
  refine ⟨?_, h⟩
  rw [if_pos he, if_pos he', gtS, gtS, gtA, gtA, if_pos he, if_pos he', if_pos he, if_pos he', hN, List.take_append_of_le_length (by omega)]

theorem foSpans : ∀ k, Fo (fun b => pSpans b k)
  | 0 => fun x y s _ h => ⟨rfl, h⟩
  | k + 1 => by
    intro x y s hx h
    dsimp only at h ⊢
    rw [pSpans] at h
    rw [pSpans, pSpans]
    cases hs : s.2 with
    | true => rw [if_pos hs] at h; rw [hs] at h; cases h
    | false =>
      rw [if_neg (by simp [hs])] at h
      rw [if_neg (by simp), if_neg (by simp)]
      obtain ⟨a1, a2⟩ := foSpans k x y _ hx h
      obtain ⟨b1, b2⟩ := foN 4 x y _ hx a2
      obtain ⟨c1, _⟩ := foN 4 x y _ hx b2
      dsimp only at a1
      rw [c1, b1, a1]
      exact ⟨rfl, rfl⟩

theorem foSet : Fo pSet := by
  intro x y s hx h
  rw [pSet] at h
  obtain ⟨a1, a2⟩ := foSpans _ x y _ hx h
  obtain ⟨b1, b2⟩ := foN 2 x y _ hx a2
  dsimp only at a1
  rw [pSet, pSet, b1, a1]
  exact ⟨rfl, b2⟩

theorem foInts : ∀ k, Fo (fun b => pInts b k)
  | 0 => fun x y s _ h => ⟨rfl, h⟩
  | k + 1 => by
    intro x y s hx h
    dsimp only at h ⊢
    rw [pInts] at h
    rw [pInts, pInts]
    cases hs : s.2 with
    | true => rw [if_pos hs] at h; rw [hs] at h; cases h
    | false =>
      rw [if_neg (by simp [hs])] at h
      rw [if_neg (by simp), if_neg (by simp)]
      obtain ⟨a1, a2⟩ := foInts k x y _ hx h
      obtain ⟨b1, b2⟩ := foN 2 x y _ hx a2
      dsimp only at a1
      rw [b1, a1]
      exact ⟨rfl, rfl⟩

theorem foMap : Fo pMap := by
  intro x y s hx h
  rw [pMap] at h
  obtain ⟨a1, a2⟩ := foInts _ x y _ hx h
  obtain ⟨b1, b2⟩ := foN 2 x y _ hx a2
  dsimp only at a1
  rw [pMap, pMap, b1, a1]
  exact ⟨rfl, b2⟩

theorem foMaps : ∀ k, Fo (fun b => pMaps b k)
  | 0 => fun x y s _ h => ⟨rfl, h⟩
  | k + 1 => by
    intro x y s hx h
    dsimp only at h ⊢
    rw [pMaps] at h
    rw [pMaps, pMaps]
    cases hs : s.2 with
    | true => rw [if_pos hs] at h; rw [hs] at h; cases h
    | false =>
      rw [if_neg (by simp [hs])] at h
      rw [if_neg (by simp), if_neg (by simp)]
      obtain ⟨a1, a2⟩ := foMaps k x y _ hx h
      obtain ⟨b1, b2⟩ := foMap x y _ hx a2
      dsimp only at a1
      rw [b1, a1]
      exact ⟨rfl, rfl⟩

theorem foMapL : Fo pMapL := by
  intro x y s hx h
  rw [pMapL] at h
  obtain ⟨a1, a2⟩ := foMaps _ x y _ hx h
  obtain ⟨b1, b2⟩ := foN 2 x y _ hx a2
  dsimp only at a1
  rw [pMapL, pMapL, b1, a1]
  exact ⟨rfl, b2⟩

theorem foBox : Fo pBox := by
  intro x y s hx h
  rw [pBox] at h
  dsimp only at h
  obtain ⟨a1, a2⟩ := foSet x y _ hx h
  obtain ⟨b1, b2⟩ := foMapL x y _ hx a2
  obtain ⟨c1, c2⟩ := foSet x y _ hx b2
  obtain ⟨d1, d2⟩ := foN 2 x y _ hx c2
  rw [pBox, pBox, d1, c1, b1, a1]
  exact ⟨rfl, d2⟩

theorem foBoxes : ∀ k, Fo (fun b => pBoxes b k)
  | 0 => fun x y s _ h => ⟨rfl, h⟩
  | k + 1 => by
    intro x y s hx h
    dsimp only at h ⊢
    rw [pBoxes] at h
    rw [pBoxes, pBoxes]
    cases hs : s.2 with
    | true => rw [if_pos hs] at h; rw [hs] at h; cases h
    | false =>
      rw [if_neg (by simp [hs])] at h
      rw [if_neg (by simp), if_neg (by simp)]
      obtain ⟨a1, a2⟩ := foBoxes k x y _ hx h
      obtain ⟨b1, b2⟩ := foBox x y _ hx a2
      dsimp only at a1
      rw [b1, a1]
      exact ⟨rfl, rfl⟩

theorem dS8_more (x y : List Int) (hx : AreBytes x) (h : (dS8 x).2.2 = false) : dS8 (x ++ y) = dS8 x := by
  rw [dS8] at h
  obtain ⟨a8, h7⟩ := foBoxes _ x y _ hx h
  obtain ⟨a7, h6⟩ := foN 2 x y _ hx h7
  obtain ⟨a6, h5⟩ := foN 2 x y _ hx h6
  obtain ⟨a5, h4⟩ := foN 2 x y _ hx h5
  obtain ⟨a4, h3⟩ := foN 4 x y _ hx h4
  obtain ⟨a3, h2⟩ := foN 2 x y _ hx h3
  obtain ⟨a2, h1⟩ := foN 2 x y _ hx h2
  obtain ⟨a1, h0⟩ := foTx x y _ hx h1
  obtain ⟨a0, _⟩ := foN 8 x y _ hx h0
  have s0 : dS0 (x ++ y) = dS0 x := a0
  have s1 : dS1 (x ++ y) = dS1 x := by rw [dS1, s0]; exact a1
  have s2 : dS2 (x ++ y) = dS2 x := by rw [dS2, s1]; exact a2
  have s3 : dS3 (x ++ y) = dS3 x := by rw [dS3, s2]; exact a3
  have s4 : dS4 (x ++ y) = dS4 x := by rw [dS4, s3]; exact a4
  have s5 : dS5 (x ++ y) = dS5 x := by rw [dS5, s4]; exact a5
  have s6 : dS6 (x ++ y) = dS6 x := by rw [dS6, s5]; exact a6
  have s7 : dS7 (x ++ y) = dS7 x := by rw [dS7, s6]; exact a7
  rw [dS8, s7]
  exact a8

/-- Bytes that end too soon are none. -/
theorem decB_less {d : Descriptor} (h : DescM d) {x y : List Int} (e : x ++ y = eBody d) (hy : y ≠ []) : decB x = (zeroD, 5) := by
  have hx : AreBytes x := fun v hv => eBody_areBytes h.1.1.2.2 v (by rw [← e]; exact List.mem_append_left _ hv)
  rw [decB]
  split
  · rfl
  rw [if_pos]
  by_cases hb : (dS8 x).2.2 = true
  · exact .inl hb
  right
  intro hp
  have h1 := dS8_more x y hx (by simpa using hb)
  have h2 := (desc_read h []).2.1
  rw [List.append_nil, ← e, h1] at h2
  rw [h2] at hp
  dsimp only at hp
  rw [List.length_append] at hp
  have : y.length ≠ 0 := fun hh => hy (List.length_eq_zero_iff.1 hh)
  omega


theorem eDesc_length (d : Descriptor) : (eDesc d).length = (eBody d).length + 4 := by simp [eDesc, leN_length]
theorem crcS_rng (l : List Int) : 0 ≤ crcS l ∧ crcS l < 4294967296 := by
  unfold crcS iNot bitsI bits
  rw [wrap_u32]
  omega
theorem leV_crc (l : List Int) : leV (leN 4 (crcS l)) = crcS l := by
  have h := crcS_rng l
  rw [leV_leN 4 _ h.1, show (256 : Int) ^ 4 = 4294967296 from rfl]
  omega

theorem decR_sealed (x : List Int) : decR (x ++ leN 4 (crcS x)) = if x.length < 4 then (zeroD, 4) else decB x := by
  have hl : (x ++ leN 4 (crcS x)).length = x.length + 4 := by simp [leN_length]
  rw [decR, hl, show x.length + 4 - 4 = x.length by omega, List.take_left, List.drop_left, List.take_of_length_le (by rw [leN_length]; omega), leV_crc]
  by_cases h : x.length < 4
  · rw [if_pos (by omega), if_pos h]
  · rw [if_neg (by omega), if_neg h, if_neg (by simp)]

/-- Bytes that were cut are no descriptor. -/
theorem decR_cut {d : Descriptor} (h : DescM d) (k : Nat) (hk : k < (eDesc d).length) : ∃ e, decR ((eDesc d).take k) = (zeroD, e) ∧ e ≠ 0 := by
  have hl := eDesc_length d
  rw [decR]
  split
  · exact ⟨4, rfl, by decide⟩
  rename_i h8
  split
  · exact ⟨6, rfl, by decide⟩
  rw [List.length_take, Nat.min_eq_left (by omega)] at h8 ⊢
  refine ⟨5, ?_, by decide⟩
  rw [List.take_take, Nat.min_eq_left (by omega), eDesc, List.take_append_of_le_length (by omega)]
  refine decB_less h (y := (eBody d).drop (k - 4)) (List.take_append_drop _ _) fun hh => ?_
  have := congrArg List.length hh
  rw [List.length_drop, List.length_nil] at this
  omega

/-- Nor are they with a right sum. -/
theorem decR_cutS {d : Descriptor} (h : DescM d) (k : Nat) (hk : k < (eDesc d).length) (hb : k ≠ (eBody d).length) : ∃ e, decR ((eDesc d).take k ++ leN 4 (crcS ((eDesc d).take k))) = (zeroD, e) ∧ e ≠ 0 := by
  have hl := eDesc_length d
  rw [decR_sealed]
  split
  · exact ⟨4, rfl, by decide⟩
  refine ⟨5, ?_, by decide⟩
  by_cases hlt : k < (eBody d).length
  · rw [eDesc, List.take_append_of_le_length (by omega)]
    refine decB_less h (y := (eBody d).drop k) (List.take_append_drop _ _) fun hh => ?_
    have := congrArg List.length hh
    rw [List.length_drop, List.length_nil] at this
    omega
  · obtain ⟨m, rfl⟩ : ∃ m, k = (eBody d).length + m := ⟨k - (eBody d).length, by omega⟩
    rw [eDesc, List.take_length_add_append, decB_more h, if_neg]
    intro hh
    have := congrArg List.length hh
    rw [List.length_take, leN_length, List.length_nil] at this
    omega

theorem decR_back {d : Descriptor} (h : DescM d) : decR (eDesc d) = (d, 0) := by
  have h27 := eBody_bytes d
  have := decB_more h []
  rw [List.append_nil, if_pos rfl] at this
  rw [eDesc, decR_sealed, if_neg (by omega), this]

theorem leV_inj {x y : List Int} (hx : AreBytes x) (hy : AreBytes y) (hl : x.length = y.length) (h : leV x = leV y) : x = y := by
  rw [← leN_leV hx, ← leN_leV hy, hl, h]

theorem byte_N8 {x : Int} (h : 0 ≤ x ∧ x < 256) : ∃ d : BitVec 8, x = N8 d := by
  refine ⟨BitVec.ofNat 8 x.toNat, ?_⟩
  rw [N8, BitVec.toNat_ofNat, Nat.mod_eq_of_lt (by omega)]
  omega

theorem xor8_rng (a b : Int) : 0 ≤ bitsI .xor .u8 a b ∧ bitsI .xor .u8 a b < 256 := by
  unfold bitsI bits
  rw [wrap_u8_mod]
  omega

theorem xor8_ne {a b : Int} (ha : 0 ≤ a ∧ a ≤ 255) (hb : 0 ≤ b ∧ b < 256) (h : b ≠ 0) : bitsI .xor .u8 a b ≠ a := by
  obtain ⟨x, rfl⟩ := byte_N8 (x := a) (by omega)
  obtain ⟨y, rfl⟩ := byte_N8 hb
  rw [xor8]
  intro e
  apply h
  have e1 : x ^^^ y = x := BitVec.eq_of_toNat_eq (by unfold N8 at e; omega)
  have e2 : y = 0#8 := by
    have := congrArg (x ^^^ ·) e1
    simpa [← BitVec.xor_assoc] using this
  rw [e2]
  rfl

/-- A change of one byte changes the sum. -/
theorem crc_set {b : List Int} (hb : AreBytes b) (i : Nat) (hi : i < b.length) {y : Int} (hy : 0 ≤ y ∧ y < 256) (h0 : y ≠ 0) : crcS (b.set i (bitsI .xor .u8 b[i] y)) ≠ crcS b := by
  obtain ⟨l, rfl⟩ := bytes_N8 b hb
  obtain ⟨d, rfl⟩ := byte_N8 hy
  have hi' : i < l.length := by simpa using hi
  rw [List.getElem_map, xor8, set_N8, crcS_is, crcS_is, crcB_set l _ i hi' d]
  intro e
  have e1 := N32_inj e
  generalize crcB 4294967295#32 l = c at e1
  have e2 : itB (l.length - i) (d.setWidth 32) = 0#32 := by
    have e2 := (BitVec.xor_right_inj _).1 e1
    exact (BitVec.xor_right_inj c).1 (e2.trans BitVec.xor_zero.symm)
  have e3 := itB_inj _ e2
  have e4 := congrArg BitVec.toNat e3
  have hlt := d.isLt
  rw [BitVec.toNat_setWidth, Nat.mod_eq_of_lt (by omega)] at e4
  apply h0
  unfold N8
  simpa using e4

/-- Bytes with one change are none. -/
theorem decR_set {d : Descriptor} (h : DescM d) (i : Nat) (hi : i < (eDesc d).length) {y : Int} (hy : 0 ≤ y ∧ y < 256) (h0 : y ≠ 0) : decR ((eDesc d).set i (bitsI .xor .u8 (eDesc d)[i] y)) = (zeroD, 6) := by
  have h27 := eBody_bytes d
  have hl := eDesc_length d
  have hbb := eBody_areBytes h.1.1.2.2
  have hxr := xor8_rng (eDesc d)[i] y
  have hxn := xor8_ne (a := (eDesc d)[i]) (append_bytes hbb (leN_bytes _ _) _ (List.getElem_mem hi)) hy h0
  rw [decR, List.length_set, if_neg (by omega), if_pos]
  by_cases hb : i < (eBody d).length
  · have e1 : (eDesc d)[i] = (eBody d)[i] := by simp only [eDesc, List.getElem_append_left hb]
    rw [e1]
    have e2 : (eDesc d).set i (bitsI .xor .u8 (eBody d)[i] y) = (eBody d).set i (bitsI .xor .u8 (eBody d)[i] y) ++ leN 4 (crcS (eBody d)) := by rw [eDesc, List.set_append_left _ _ hb]
    have hl2 : ((eBody d).set i (bitsI .xor .u8 (eBody d)[i] y)).length = (eDesc d).length - 4 := by rw [List.length_set]; omega
    rw [e2, ← hl2, List.take_left, List.drop_left, List.take_of_length_le (by rw [leN_length]; omega), leV_crc]
    exact (crc_set hbb i hb hy h0).symm
  · generalize hv : bitsI .xor .u8 (eDesc d)[i] y = v at hxr hxn
    have e2 : (eDesc d).set i v = eBody d ++ (leN 4 (crcS (eBody d))).set (i - (eBody d).length) v := by rw [eDesc, List.set_append_right _ _ (by omega)]
    rw [e2, show (eDesc d).length - 4 = (eBody d).length by omega, List.take_left, List.drop_left, List.take_of_length_le (by rw [List.length_set, leN_length]; omega)]
    intro e
    have hnb : AreBytes ((leN 4 (crcS (eBody d))).set (i - (eBody d).length) v) := by
      intro z hz
      rcases List.mem_or_eq_of_mem_set hz with hz | rfl
      · exact leN_bytes _ _ z hz
      · omega
    have e3 := leV_inj hnb (leN_bytes 4 _) (by simp) (e.trans (leV_crc _).symm)
    have hj : i - (eBody d).length < (leN 4 (crcS (eBody d))).length := by rw [leN_length]; omega
    have e4 : ((leN 4 (crcS (eBody d))).set (i - (eBody d).length) v)[i - (eBody d).length]'(by simpa using hj) = (leN 4 (crcS (eBody d)))[i - (eBody d).length] := by
      simp only [e3]
    rw [List.getElem_set_self] at e4
    apply hxn
    rw [e4]
    simp only [eDesc]
    rw [List.getElem_append_right (by omega)]

end Go.Proofs.Ytcahjpkmldmjdaa
