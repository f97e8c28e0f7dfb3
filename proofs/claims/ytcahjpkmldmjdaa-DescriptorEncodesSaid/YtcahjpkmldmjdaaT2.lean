/-
  Plain laws of descriptors: what some bytes say; their bytes.
-/
import Derived.Test.YtcahjpkmldmjdaaT1
namespace Go.Proofs.Ytcahjpkmldmjdaa
open Go Ab

theorem pSpans_len (b : List Int) : ∀ (k : Nat) (s : Plc), (pSpans b k s).1.length ≤ k
  | 0, _ => Nat.le_refl _
  | k + 1, s => by
    rw [pSpans]
    split
    · simp
    · have := pSpans_len b k (pN 4 b (pN 4 b s).2).2
      simp only [List.length_cons]
      omega
theorem pInts_len (b : List Int) : ∀ (k : Nat) (s : Plc), (pInts b k s).1.length ≤ k
  | 0, _ => Nat.le_refl _
  | k + 1, s => by
    rw [pInts]
    split
    · simp
    · have := pInts_len b k (pN 2 b s).2
      simp only [List.length_cons]
      omega
theorem p2_le {b : List Int} (hb : AreBytes b) (s : Plc) : (pN 2 b s).1.toNat ≤ 65535 := by
  have := pN_rng (w := 2) (s := s) hb
  have e2 : (256 : Int) ^ 2 = 65536 := rfl
  omega
theorem pMap_len {b : List Int} (hb : AreBytes b) (s : Plc) : (pMap b s).1.length ≤ 65535 := Nat.le_trans (pInts_len b _ _) (p2_le hb s)
theorem pSet_len {b : List Int} (hb : AreBytes b) (s : Plc) : (pSet b s).1.length ≤ 65535 := Nat.le_trans (pSpans_len b _ _) (p2_le hb s)
theorem pMaps_len {b : List Int} (hb : AreBytes b) : ∀ (k : Nat) (s : Plc), (pMaps b k s).1.length ≤ k ∧ ∀ m ∈ (pMaps b k s).1, m.length ≤ 65535
  | 0, _ => ⟨Nat.le_refl _, fun m hm => by cases hm⟩
  | k + 1, s => by
    rw [pMaps]
    split
    · exact ⟨Nat.zero_le _, fun m hm => by cases hm⟩
    · obtain ⟨h1, h2⟩ := pMaps_len hb k (pMap b s).2
      refine ⟨by simp only [List.length_cons]; omega, fun m hm => ?_⟩
      rcases List.mem_cons.1 hm with rfl | hm
      · exact pMap_len hb s
      · exact h2 m hm
theorem pBox_small {b : List Int} (hb : AreBytes b) (s : Plc) : BoxS (pBox b s).1 := by
  have h := pMaps_len hb (pN 2 b (pSet b (pN 2 b s).2).2).1.toNat (pN 2 b (pSet b (pN 2 b s).2).2).2
  have h1 := p2_le hb (pSet b (pN 2 b s).2).2
  refine ⟨Nat.le_trans (pSet_len hb _) (by omega), Nat.le_trans (pSet_len hb _) (by omega), ?_, fun m hm => Nat.le_trans (h.2 m hm) (by omega)⟩
  exact Nat.le_trans h.1 (by omega)
theorem pBoxes_small {b : List Int} (hb : AreBytes b) : ∀ (k : Nat) (s : Plc), (pBoxes b k s).1.length ≤ k ∧ ∀ x ∈ (pBoxes b k s).1, BoxS x
  | 0, _ => ⟨Nat.le_refl _, fun m hm => by cases hm⟩
  | k + 1, s => by
    rw [pBoxes]
    split
    · exact ⟨Nat.zero_le _, fun m hm => by cases hm⟩
    · obtain ⟨h1, h2⟩ := pBoxes_small hb k (pBox b s).2
      refine ⟨by simp only [List.length_cons]; omega, fun m hm => ?_⟩
      rcases List.mem_cons.1 hm with rfl | hm
      · exact pBox_small hb s
      · exact h2 m hm

/-! ### descriptors -/

def dS0 (b : List Int) : Int × Plc := pN 8 b (4, false)
def dS1 (b : List Int) : ByteArray × Plc := pTx b (dS0 b).2
def dS2 (b : List Int) : Int × Plc := pN 2 b (dS1 b).2
def dS3 (b : List Int) : Int × Plc := pN 2 b (dS2 b).2
def dS4 (b : List Int) : Int × Plc := pN 4 b (dS3 b).2
def dS5 (b : List Int) : Int × Plc := pN 2 b (dS4 b).2
def dS6 (b : List Int) : Int × Plc := pN 2 b (dS5 b).2
def dS7 (b : List Int) : Int × Plc := pN 2 b (dS6 b).2
def dS8 (b : List Int) : List Box × Plc := pBoxes b (dS7 b).1.toNat (dS7 b).2
def descP (b : List Int) : Descriptor := ⟨(dS0 b).1, (dS1 b).1, (dS2 b).1, (dS3 b).1, (dS4 b).1, (dS5 b).1, (dS6 b).1, (dS8 b).1⟩

def zeroD : Descriptor := ⟨0, ⟨#[]⟩, 0, 0, 0, 0, 0, []⟩
def snd1 : ByteArray := ⟨#[83, 78, 68, 49]⟩

def decB (body : List Int) : Descriptor × Int :=
  if sEq (mkStr (body.take 4)) snd1 = false then (zeroD, 5)
  else if (dS8 body).2.2 = true ∨ (dS8 body).2.1 ≠ body.length then (zeroD, 5)
  else if DescV (descP body) then (descP body, 0) else (zeroD, 1)
def decR (b : List Int) : Descriptor × Int :=
  if b.length < 8 then (zeroD, 4)
  else if leV ((b.drop (b.length - 4)).take 4) ≠ crcS (b.take (b.length - 4)) then (zeroD, 6)
  else decB (b.take (b.length - 4))

theorem gtS_size {b : List Int} (hb : AreBytes b) (a : Int) : (gtS b a).size ≤ 64 := by
  unfold gtS
  split
  · rename_i h
    have := gtE_ok hb h
    have hsz : ∀ l : List Int, (mkStr l).size = l.length := fun l => by
      have := congrArg List.length (mkStr_data l)
      simpa using this
    rw [hsz, List.length_drop, List.length_take]
    omega
  · exact Nat.zero_le _

theorem descP_small {b : List Int} (hb : AreBytes b) : DescS (descP b) := by
  have h := pBoxes_small hb (dS7 b).1.toNat (dS7 b).2
  have h1 := p2_le hb (dS6 b).2
  refine ⟨Nat.le_trans (gtS_size hb _) (by omega), ?_, h.2⟩
  exact Nat.le_trans h.1 (Nat.le_trans h1 (by omega))

theorem dS_pos {b : List Int} (hb : AreBytes b) (h : 4 ≤ b.length) : PosOK b (dS0 b).2 ∧ PosOK b (dS1 b).2 ∧ PosOK b (dS2 b).2 ∧ PosOK b (dS3 b).2 ∧ PosOK b (dS4 b).2 ∧ PosOK b (dS5 b).2 ∧ PosOK b (dS6 b).2 ∧ PosOK b (dS7 b).2 := by
  have p0 : PosOK b (dS0 b).2 := pN_pos ⟨by decide, by show (4 : Int) ≤ b.length; omega⟩
  have p1 : PosOK b (dS1 b).2 := pTx_pos hb p0
  have p2 : PosOK b (dS2 b).2 := pN_pos p1
  have p3 : PosOK b (dS3 b).2 := pN_pos p2
  have p4 : PosOK b (dS4 b).2 := pN_pos p3
  have p5 : PosOK b (dS5 b).2 := pN_pos p4
  have p6 : PosOK b (dS6 b).2 := pN_pos p5
  exact ⟨p0, p1, p2, p3, p4, p5, p6, pN_pos p6⟩

section
variable {n : Nat} (hn : 100000 ≤ n)
include hn

theorem f41_is (b : List Int) (hb : AreBytes b) (hl : b.length ≤ 90000) : f41 n b = some (decR b) := by
  rw [f41, decR]
  by_cases c0 : b.length < 8
  · rw [if_pos (by simp; omega), if_pos c0]; rfl
  rw [if_neg (by simp; omega), if_neg c0, w64_id (by omega), show (b.length : Int) - 4 = ((b.length - 4 : Nat) : Int) by omega, f30_is (by omega) b hb (by omega) _ (by omega), Option.bind_some, lPart_eq (by omega), Option.bind_some, Int.toNat_natCast, show ((0 : Int).toNat) = 0 from rfl, List.drop_zero]
  dsimp only
  rw [getV_at (l := b) (a := b.length - 4) (n := 4) (by omega), f18_is _ (by simp; omega) (by simp; omega), Option.bind_some]
  by_cases c1 : leV ((b.drop (b.length - 4)).take 4) = crcS (b.take (b.length - 4))
  case neg => rw [if_pos (by simpa using c1), if_pos c1]; rfl
  rw [if_neg (by simpa using c1), if_neg (by simpa using c1), lPart_eq (by omega), Option.bind_some, show ((4 : Int).toNat) = 4 from rfl, show ((0 : Int).toNat) = 0 from rfl, List.drop_zero]
  have hB := take_bytes hb (b.length - 4)
  have hBl : (b.take (b.length - 4)).length = b.length - 4 := by rw [List.length_take]; omega
  have ht : b.take 4 = (b.take (b.length - 4)).take 4 := by rw [List.take_take, Nat.min_eq_left (by omega)]
  rw [ht, show ((b.length - 4 : Nat) : Int) = ((b.take (b.length - 4)).length : Int) by rw [hBl]]
  have hB4 : 4 ≤ (b.take (b.length - 4)).length := by omega
  generalize b.take (b.length - 4) = B at hB hBl hB4
  rw [decB, show (⟨#[83, 78, 68, 49]⟩ : ByteArray) = snd1 from rfl]
  by_cases c2 : sEq (mkStr (B.take 4)) snd1 = true
  case neg => rw [if_pos (by simpa using c2), if_pos (by simpa using c2)]; rfl
  rw [if_neg (by simpa using c2), if_neg (by simpa using c2), Option.bind_some]
  obtain ⟨p0, p1, p2, p3, p4, p5, p6, p7⟩ := dS_pos hB hB4
  rw [f35_is (by omega) B hB (by omega) 4 (by decide), Option.bind_some]
  have e0 : f73 n (⟨B, 4, false⟩ : Reader) (getA B 4 8) (getE B 4 8) = some ⟨B, (dS0 B).2.1, (dS0 B).2.2⟩ := by
    unfold dS0 pN
    rw [f73]
    dsimp only
    by_cases he : getE B 4 8 = 0
    · rw [if_neg (by simpa using he), if_pos he]
    · rw [if_pos (by simpa using he), if_neg he]
  dsimp only
  rw [e0, Option.bind_some, f74_is hB (by omega) p0, Option.bind_some, show pTx B (dS0 B).2 = dS1 B from rfl, f75_is (by omega) hB (by omega) p1, Option.bind_some, show pN 2 B (dS1 B).2 = dS2 B from rfl, f75_is (by omega) hB (by omega) p2, Option.bind_some, show pN 2 B (dS2 B).2 = dS3 B from rfl,
    f76_is (by omega) hB (by omega) p3, Option.bind_some, show pN 4 B (dS3 B).2 = dS4 B from rfl, f75_is (by omega) hB (by omega) p4, Option.bind_some, show pN 2 B (dS4 B).2 = dS5 B from rfl, f75_is (by omega) hB (by omega) p5, Option.bind_some, show pN 2 B (dS5 B).2 = dS6 B from rfl, joinK,
    f75_is (by omega) hB (by omega) p6, Option.bind_some, show pN 2 B (dS6 B).2 = dS7 B from rfl]
  have hr : 0 ≤ (dS7 B).1 := (pN_rng (w := 2) (s := (dS6 B).2) hB).1
  have hr2 := p2_le hB (dS6 B).2
  obtain ⟨k, hk⟩ := Int.eq_ofNat_of_zero_le hr
  have hk2 : k ≤ 65535 := by
    have : (dS7 B).1.toNat ≤ 65535 := hr2
    omega
  have h8 : dS8 B = pBoxes B k (dS7 B).2 := by rw [dS8, hk]; rfl
  dsimp only
  rw [hk, f41_l1_is (by omega) hB (by omega) _ k n [] _ p7 (by omega) (by simp; omega), ← h8, List.nil_append]
  simp only [joinK]
  by_cases c3 : (dS8 B).2.2 = true
  · rw [if_pos (by simpa using c3), if_pos (.inl c3)]; rfl
  rw [if_neg (by simpa using c3)]
  by_cases c4 : (dS8 B).2.1 = B.length
  case neg => rw [if_pos (by simpa using c4), if_pos (.inr c4)]; rfl
  rw [if_neg (by simpa using c4), if_neg (by simp [c3, c4])]
  rw [show f56 n (⟨getV B 4 8, (dS1 B).1, (dS2 B).1, (dS3 B).1, (dS4 B).1, (dS5 B).1, (dS6 B).1, (dS8 B).1⟩ : Descriptor) = some (decide (DescV (descP B))) from f56_is hn (descP B) (descP_small hB), Option.bind_some]
  by_cases c5 : DescV (descP B)
  · rw [if_neg (by simpa using c5), if_pos c5]; rfl
  · rw [if_pos (by simpa using c5), if_neg c5]; rfl

end

section
variable {n : Nat} (hn : 100000 ≤ n)
include hn

/-! ### the same -/

theorem f117_refl (l : List Span) (hl : l.length ≤ 99000) : f117 n ⟨l⟩ ⟨l⟩ = some true := by
  rw [f117, if_neg (by simp), joinK, allLoop (f117_l1 n ⟨l⟩ ⟨l⟩ _) l.length (fun _ => true) _ (fun m => by rw [f117_l1, if_neg (by simp)]) ?_ n (by omega)]
  · rw [if_pos (fun _ _ => rfl)]
  · intro m i hi _
    rw [f117_l1, if_pos (by simp; omega)]
    dsimp only
    rw [lAt_getD (⟨0, 0⟩ : Span) hi, Option.bind_some, Option.bind_some, if_neg (by simp), w64_id (by omega), show (i : Int) + 1 = ((i + 1 : Nat) : Int) by omega, if_pos rfl]

theorem f108_refl (x : Box) (h : BoxS x) : f108 n x x = some true := by
  obtain ⟨s1, s2, s3, s4⟩ := h
  rw [f108, joinK, joinK, if_neg (by simp), if_neg (by simp), f117_refl hn _ s1, Option.bind_some, if_neg (by simp), f117_refl hn _ s2, Option.bind_some]
  dsimp only
  rw [if_neg (by simp), joinK, allLoop (f108_l1 n x x _) x.Maps.length (fun _ => true) _ (fun m => by rw [f108_l1, if_neg (by simp)]) ?_ n (by omega)]
  · rw [if_pos (fun _ _ => rfl)]
  · intro m i hi _
    have := s4 _ (getD_mem (d := []) hi)
    rw [f108_l1, if_pos (by simp; omega), lAt_getD [] hi, Option.bind_some, Option.bind_some, f118_is _ _ (by omega) (by omega), Option.bind_some, decide_eq_true rfl, if_neg (by simp), w64_id (by omega), show (i : Int) + 1 = ((i + 1 : Nat) : Int) by omega, if_pos rfl]

theorem f98_refl (l : List Box) (hl : l.length ≤ 99000) (hs : ∀ x ∈ l, BoxS x) : f98 n l l = some true := by
  rw [f98, if_neg (by simp), joinK, allLoop (f98_l1 n l l _) l.length (fun _ => true) _ (fun m => by rw [f98_l1, if_neg (by simp)]) ?_ n (by omega)]
  · rw [if_pos (fun _ _ => rfl)]
  · intro m i hi _
    rw [f98_l1, if_pos (by simp; omega), lAt_getD (⟨0, [], [], []⟩ : Box) hi, Option.bind_some, Option.bind_some, f108_refl hn _ (hs _ (getD_mem hi)), Option.bind_some, if_neg (by simp), w64_id (by omega), show (i : Int) + 1 = ((i + 1 : Nat) : Int) by omega, if_pos rfl]

theorem f59_refl (d : Descriptor) (h : DescS d) : f59 n d d = some true := by
  rw [f59, if_pos (by simp), sEq_self, if_pos rfl, if_pos (by simp), if_pos (by simp), if_pos (by simp), if_pos (by simp), if_pos (by simp), f98_refl hn _ h.2.1 h.2.2]
  rfl

theorem f42_is (b : List Int) (hl : b.length ≤ 90000) : f42 n b = some (b ++ leN 4 (crcS b)) := by
  have hc : 0 ≤ crcS b ∧ crcS b < 18446744073709551616 := by
    unfold crcS iNot bitsI bits
    rw [wrap_u32]
    omega
  rw [f42, f79, f19_is _ (by omega) (by omega), Option.bind_some, f27_is (by omega) _ _ hc (by omega)]
  rfl
end

theorem zeroD_small : DescS zeroD := ⟨by decide, by decide, fun x hx => by cases hx⟩
theorem decR_small {b : List Int} (hb : AreBytes b) : DescS (decR b).1 := by
  unfold decR
  split
  · exact zeroD_small
  split
  · exact zeroD_small
  unfold decB
  split
  · exact zeroD_small
  split
  · exact zeroD_small
  split
  · exact descP_small (take_bytes hb _)
  · exact zeroD_small


def eSpans : List Span → List Int
  | [] => []
  | x :: l => leN 4 x.Lo ++ (leN 4 x.Hi ++ eSpans l)
def eSet (l : List Span) : List Int := leN 2 l.length ++ eSpans l
def eInts : List Int → List Int
  | [] => []
  | x :: l => leN 2 x ++ eInts l
def eMap (m : List Int) : List Int := leN 2 m.length ++ eInts m
def eMaps : List (List Int) → List Int
  | [] => []
  | m :: l => eMap m ++ eMaps l
def eBox (x : Box) : List Int := leN 2 x.Kinds ++ (eSet x.Rates ++ (leN 2 x.Maps.length ++ (eMaps x.Maps ++ eSet x.Sizes)))
def eBoxes : List Box → List Int
  | [] => []
  | x :: l => eBox x ++ eBoxes l
def eBody (d : Descriptor) : List Int :=
  [83, 78, 68, 49] ++ (leN 8 d.ID ++ (((d.Name.size : Int) :: strNums d.Name) ++ (leN 2 d.Direction ++ (leN 2 d.Domain ++ (leN 4 d.Latency ++ (leN 2 d.Drift ++ (leN 2 d.Jitter ++ (leN 2 d.Boxes.length ++ eBoxes d.Boxes))))))))
def eDesc (d : Descriptor) : List Int := eBody d ++ leN 4 (crcS (eBody d))

theorem leN2_wrap (x : Int) : leN 2 (IntKind.wrap .u16 x) = leN 2 x := by
  rw [wrap_u16]
  simp only [leN]
  congr 1
  · omega
  · congr 1
    omega
theorem leN4_wrap (x : Int) : leN 4 (IntKind.wrap .u32 x) = leN 4 x := by
  rw [wrap_u32]
  simp only [leN]
  congr 1
  · omega
  · congr 1
    · omega
    · congr 1
      · omega
      · congr 1
        omega

section
variable {n : Nat} (hn : 100000 ≤ n)
include hn

theorem f70_is (b : List Int) (v : Int) (hb : b.length ≤ 1000000000) : f70 n b v = some (b ++ leN 2 v) := by
  rw [f70, f24_is (by omega) _ _ (by omega), leN2_wrap]
  rfl
theorem f25_w (b : List Int) (v : Int) (hb : b.length ≤ 1000000000) : f25 n b (IntKind.wrap .u16 v) = some (b ++ leN 2 v) := by
  rw [f25_is (by omega) _ _ (by rw [wrap_u16]; omega) (by omega), leN2_wrap]
theorem f26_w (b : List Int) (v : Int) (hb : b.length ≤ 1000000000) : f26 n b (IntKind.wrap .u32 v) = some (b ++ leN 4 v) := by
  rw [f26_is (by omega) _ _ (by omega), leN4_wrap]
theorem f27_w (b : List Int) (v : Int) (hb : b.length ≤ 1000000000) : f27 n b (IntKind.wrap .u32 v) = some (b ++ leN 4 v) := by
  rw [f27_is (by omega) _ _ (by rw [wrap_u32]; omega) (by omega), leN4_wrap]

theorem f71_l1_is (l : List Span) (hl : l.length ≤ 99000) (j : List Int → Option (List Int)) : ∀ (d m i : Nat) (acc : List Int), i + d = l.length → d < m → acc.length + 8 * d ≤ 900000000 → f71_l1 n ⟨l⟩ j m acc (i : Int) = j (acc ++ eSpans (l.drop i)) := by
  intro d
  induction d with
  | zero =>
    intro m i acc h1 h2 h3
    obtain ⟨m, rfl⟩ : ∃ q, m = q + 1 := ⟨m - 1, by omega⟩
    rw [f71_l1, if_neg (by simp; omega), List.drop_eq_nil_of_le (by omega), eSpans, List.append_nil]
  | succ d ih =>
    intro m i acc h1 h2 h3
    obtain ⟨m, rfl⟩ : ∃ q, m = q + 1 := ⟨m - 1, by omega⟩
    rw [f71_l1, if_pos (by simp; omega)]
    dsimp only
    rw [lAt_nat (by omega), Option.bind_some, f26_w hn _ _ (by omega), Option.bind_some, f26_w hn _ _ (by simp [leN_length]; omega), Option.bind_some, w64_id (by omega), show (i : Int) + 1 = ((i + 1 : Nat) : Int) by omega, ih _ _ _ (by omega) (by omega) (by simp [leN_length]; omega), List.drop_eq_getElem_cons (show i < l.length by omega), eSpans]
    simp only [List.append_assoc]
theorem f71_is (b : List Int) (l : List Span) (hl : l.length ≤ 99000) (hb : b.length ≤ 90000000) : f71 n b ⟨l⟩ = some (b ++ eSet l) := by
  rw [f71, f70_is hn _ _ (by omega), Option.bind_some, joinK]
  have := f71_l1_is hn l hl (fun v => some v) l.length n 0 (b ++ leN 2 l.length) (by omega) (by omega) (by simp [leN_length]; omega)
  rw [show ((0 : Nat) : Int) = 0 from rfl] at this
  dsimp only
  rw [this, List.drop_zero, List.append_assoc]
  rfl

theorem f89_l1_is (l : List Span) (hl : l.length ≤ 99000) (j : List Int → Option (List Int)) : ∀ (d m i : Nat) (acc : List Int), i + d = l.length → d < m → acc.length + 8 * d ≤ 900000000 → f89_l1 n ⟨l⟩ j m acc (i : Int) = j (acc ++ eSpans (l.drop i)) := by
  intro d
  induction d with
  | zero =>
    intro m i acc h1 h2 h3
    obtain ⟨m, rfl⟩ : ∃ q, m = q + 1 := ⟨m - 1, by omega⟩
    rw [f89_l1, if_neg (by simp; omega), List.drop_eq_nil_of_le (by omega), eSpans, List.append_nil]
  | succ d ih =>
    intro m i acc h1 h2 h3
    obtain ⟨m, rfl⟩ : ∃ q, m = q + 1 := ⟨m - 1, by omega⟩
    rw [f89_l1, if_pos (by simp; omega)]
    dsimp only
    rw [lAt_nat (by omega), Option.bind_some, f27_w hn _ _ (by omega), Option.bind_some, f27_w hn _ _ (by simp [leN_length]; omega), Option.bind_some, w64_id (by omega), show (i : Int) + 1 = ((i + 1 : Nat) : Int) by omega, ih _ _ _ (by omega) (by omega) (by simp [leN_length]; omega), List.drop_eq_getElem_cons (show i < l.length by omega), eSpans]
    simp only [List.append_assoc]
theorem f89_is (b : List Int) (l : List Span) (hl : l.length ≤ 99000) (hb : b.length ≤ 90000000) : f89 n b ⟨l⟩ = some (b ++ eSet l) := by
  rw [f89, f25_w hn _ _ (by omega), Option.bind_some, joinK]
  have := f89_l1_is hn l hl (fun v => some v) l.length n 0 (b ++ leN 2 l.length) (by omega) (by omega) (by simp [leN_length]; omega)
  rw [show ((0 : Nat) : Int) = 0 from rfl] at this
  dsimp only
  rw [this, List.drop_zero, List.append_assoc]
  rfl

theorem f39_l3_is (x : List Int) (j : List Int → Option (List Int × Int)) : ∀ (d m i : Nat) (acc : List Int), i + d = x.length → d < m → acc.length + 2 * d ≤ 900000000 → x.length ≤ 1000000 → f39_l3 n j x m acc (i : Int) = j (acc ++ eInts (x.drop i)) := by
  intro d
  induction d with
  | zero =>
    intro m i acc h1 h2 h3 h4
    obtain ⟨m, rfl⟩ : ∃ q, m = q + 1 := ⟨m - 1, by omega⟩
    rw [f39_l3, if_neg (by simp; omega), List.drop_eq_nil_of_le (by omega), eInts, List.append_nil]
  | succ d ih =>
    intro m i acc h1 h2 h3 h4
    obtain ⟨m, rfl⟩ : ∃ q, m = q + 1 := ⟨m - 1, by omega⟩
    rw [f39_l3, if_pos (by simp; omega), lAt_nat (by omega), Option.bind_some, f70_is hn _ _ (by omega), Option.bind_some, w64_id (by omega), show (i : Int) + 1 = ((i + 1 : Nat) : Int) by omega, ih _ _ _ (by omega) (by omega) (by simp [leN_length]; omega) h4, List.drop_eq_getElem_cons (show i < x.length by omega), eInts]
    simp only [List.append_assoc]

theorem f55_l3_is (x : List Int) (j : List Int → Option (List Int × Int)) : ∀ (d m i : Nat) (acc : List Int), i + d = x.length → d < m → acc.length + 2 * d ≤ 900000000 → x.length ≤ 1000000 → f55_l3 n j x m acc (i : Int) = j (acc ++ eInts (x.drop i)) := by
  intro d
  induction d with
  | zero =>
    intro m i acc h1 h2 h3 h4
    obtain ⟨m, rfl⟩ : ∃ q, m = q + 1 := ⟨m - 1, by omega⟩
    rw [f55_l3, if_neg (by simp; omega), List.drop_eq_nil_of_le (by omega), eInts, List.append_nil]
  | succ d ih =>
    intro m i acc h1 h2 h3 h4
    obtain ⟨m, rfl⟩ : ∃ q, m = q + 1 := ⟨m - 1, by omega⟩
    rw [f55_l3, if_pos (by simp; omega), lAt_nat (by omega), Option.bind_some, f25_w hn _ _ (by omega), Option.bind_some, w64_id (by omega), show (i : Int) + 1 = ((i + 1 : Nat) : Int) by omega, ih _ _ _ (by omega) (by omega) (by simp [leN_length]; omega) h4, List.drop_eq_getElem_cons (show i < x.length by omega), eInts]
    simp only [List.append_assoc]

end

theorem eInts_length : ∀ l : List Int, (eInts l).length = 2 * l.length
  | [] => rfl
  | x :: l => by simp only [eInts, List.length_append, leN_length, eInts_length l, List.length_cons]; omega
theorem eMap_length (m : List Int) : (eMap m).length = 2 + 2 * m.length := by simp [eMap, leN_length, eInts_length]
theorem eSpans_length : ∀ l : List Span, (eSpans l).length = 8 * l.length
  | [] => rfl
  | x :: l => by simp only [eSpans, List.length_append, leN_length, eSpans_length l, List.length_cons]; omega
theorem eSet_length (l : List Span) : (eSet l).length = 2 + 8 * l.length := by simp [eSet, leN_length, eSpans_length]

section
variable {n : Nat} (hn : 100000 ≤ n)
include hn

theorem f39_l2_is (x : Box) (hx : ∀ m ∈ x.Maps, m.length ≤ 99000) (hxl : x.Maps.length ≤ 99000) (j : List Int → Option (List Int × Int)) : ∀ (d m i : Nat) (acc : List Int), i + d = x.Maps.length → d < m → acc.length + (eMaps (x.Maps.drop i)).length ≤ 900000000 → f39_l2 n x j m acc (i : Int) = j (acc ++ eMaps (x.Maps.drop i)) := by
  intro d
  induction d with
  | zero =>
    intro m i acc h1 h2 h3
    obtain ⟨m, rfl⟩ : ∃ q, m = q + 1 := ⟨m - 1, by omega⟩
    rw [f39_l2, if_neg (by simp; omega), List.drop_eq_nil_of_le (by omega), eMaps, List.append_nil]
  | succ d ih =>
    intro m i acc h1 h2 h3
    obtain ⟨m, rfl⟩ : ∃ q, m = q + 1 := ⟨m - 1, by omega⟩
    have hm := hx _ (List.getElem_mem (show i < x.Maps.length by omega))
    rw [List.drop_eq_getElem_cons (show i < x.Maps.length by omega), eMaps] at h3 ⊢
    rw [List.length_append, eMap_length] at h3
    rw [f39_l2, if_pos (by simp; omega), joinK, lAt_nat (by omega), Option.bind_some, f70_is hn _ _ (by omega), Option.bind_some]
    have := fun j => f39_l3_is hn x.Maps[i] j x.Maps[i].length n 0 (acc ++ leN 2 x.Maps[i].length) (by omega) (by omega) (by simp [leN_length]; omega) (by omega)
    rw [show ((0 : Nat) : Int) = 0 from rfl] at this
    rw [this, List.drop_zero, w64_id (by omega), show (i : Int) + 1 = ((i + 1 : Nat) : Int) by omega, ih _ _ _ (by omega) (by omega) (by simp [leN_length, eInts_length]; omega)]
    simp only [List.append_assoc, eMap]

theorem f55_l2_is (x : Box) (hx : ∀ m ∈ x.Maps, m.length ≤ 99000) (hxl : x.Maps.length ≤ 99000) (j : List Int → Option (List Int × Int)) : ∀ (d m i : Nat) (acc : List Int), i + d = x.Maps.length → d < m → acc.length + (eMaps (x.Maps.drop i)).length ≤ 900000000 → f55_l2 n x j m acc (i : Int) = j (acc ++ eMaps (x.Maps.drop i)) := by
  intro d
  induction d with
  | zero =>
    intro m i acc h1 h2 h3
    obtain ⟨m, rfl⟩ : ∃ q, m = q + 1 := ⟨m - 1, by omega⟩
    rw [f55_l2, if_neg (by simp; omega), List.drop_eq_nil_of_le (by omega), eMaps, List.append_nil]
  | succ d ih =>
    intro m i acc h1 h2 h3
    obtain ⟨m, rfl⟩ : ∃ q, m = q + 1 := ⟨m - 1, by omega⟩
    have hm := hx _ (List.getElem_mem (show i < x.Maps.length by omega))
    rw [List.drop_eq_getElem_cons (show i < x.Maps.length by omega), eMaps] at h3 ⊢
    rw [List.length_append, eMap_length] at h3
    rw [f55_l2, if_pos (by simp; omega), joinK, lAt_nat (by omega), Option.bind_some, f25_w hn _ _ (by omega), Option.bind_some]
    have := fun j => f55_l3_is hn x.Maps[i] j x.Maps[i].length n 0 (acc ++ leN 2 x.Maps[i].length) (by omega) (by omega) (by simp [leN_length]; omega) (by omega)
    rw [show ((0 : Nat) : Int) = 0 from rfl] at this
    rw [this, List.drop_zero, w64_id (by omega), show (i : Int) + 1 = ((i + 1 : Nat) : Int) by omega, ih _ _ _ (by omega) (by omega) (by simp [leN_length, eInts_length]; omega)]
    simp only [List.append_assoc, eMap]

end

theorem eBox_length (x : Box) : (eBox x).length = 2 + ((2 + 8 * x.Rates.length) + (2 + ((eMaps x.Maps).length + (2 + 8 * x.Sizes.length)))) := by
  simp [eBox, leN_length, eSet_length]

section
variable {n : Nat} (hn : 100000 ≤ n)
include hn

theorem f39_l1_is (a : Descriptor) (hs : ∀ x ∈ a.Boxes, BoxS x) (hl : a.Boxes.length ≤ 99000) (j : List Int → Option (List Int × Int)) : ∀ (d m i : Nat) (acc : List Int), i + d = a.Boxes.length → d < m → acc.length + (eBoxes (a.Boxes.drop i)).length ≤ 80000000 → f39_l1 n a j m acc (i : Int) = j (acc ++ eBoxes (a.Boxes.drop i)) := by
  intro d
  induction d with
  | zero =>
    intro m i acc h1 h2 h3
    obtain ⟨m, rfl⟩ : ∃ q, m = q + 1 := ⟨m - 1, by omega⟩
    rw [f39_l1, if_neg (by simp; omega), List.drop_eq_nil_of_le (by omega), eBoxes, List.append_nil]
  | succ d ih =>
    intro m i acc h1 h2 h3
    obtain ⟨m, rfl⟩ : ∃ q, m = q + 1 := ⟨m - 1, by omega⟩
    obtain ⟨s1, s2, s3, s4⟩ := hs _ (List.getElem_mem (show i < a.Boxes.length by omega))
    rw [List.drop_eq_getElem_cons (show i < a.Boxes.length by omega), eBoxes] at h3 ⊢
    rw [List.length_append, eBox_length] at h3
    rw [f39_l1, if_pos (by simp; omega), joinK, lAt_nat (by omega), Option.bind_some]
    generalize a.Boxes[i] = x at s1 s2 s3 s4 h3
    rw [f70_is hn _ _ (by omega), Option.bind_some, f71_is hn _ _ (by omega) (by simp [leN_length]; omega), Option.bind_some, f70_is hn _ _ (by simp [leN_length, eSet_length]; omega), Option.bind_some, joinK]
    have := fun j => f39_l2_is hn x s4 s3 j x.Maps.length n 0 (acc ++ leN 2 x.Kinds ++ eSet x.Rates ++ leN 2 x.Maps.length) (by omega) (by omega) (by simp [leN_length, eSet_length]; omega)
    rw [show ((0 : Nat) : Int) = 0 from rfl] at this
    rw [this, List.drop_zero, f71_is hn _ _ (by omega) (by simp [leN_length, eSet_length]; omega), Option.bind_some, w64_id (by omega), show (i : Int) + 1 = ((i + 1 : Nat) : Int) by omega]
    dsimp only
    rw [ih _ _ _ (by omega) (by omega) (by simp [leN_length, eSet_length]; omega)]
    simp only [List.append_assoc, eBox]

theorem f55_l1_is (a : Descriptor) (hs : ∀ x ∈ a.Boxes, BoxS x) (hl : a.Boxes.length ≤ 99000) (j : List Int → Option (List Int × Int)) : ∀ (d m i : Nat) (acc : List Int), i + d = a.Boxes.length → d < m → acc.length + (eBoxes (a.Boxes.drop i)).length ≤ 80000000 → f55_l1 n a j m acc (i : Int) = j (acc ++ eBoxes (a.Boxes.drop i)) := by
  intro d
  induction d with
  | zero =>
    intro m i acc h1 h2 h3
    obtain ⟨m, rfl⟩ : ∃ q, m = q + 1 := ⟨m - 1, by omega⟩
    rw [f55_l1, if_neg (by simp; omega), List.drop_eq_nil_of_le (by omega), eBoxes, List.append_nil]
  | succ d ih =>
    intro m i acc h1 h2 h3
    obtain ⟨m, rfl⟩ : ∃ q, m = q + 1 := ⟨m - 1, by omega⟩
    obtain ⟨s1, s2, s3, s4⟩ := hs _ (List.getElem_mem (show i < a.Boxes.length by omega))
    rw [List.drop_eq_getElem_cons (show i < a.Boxes.length by omega), eBoxes] at h3 ⊢
    rw [List.length_append, eBox_length] at h3
    rw [f55_l1, if_pos (by simp; omega), joinK, lAt_nat (by omega), Option.bind_some]
    generalize a.Boxes[i] = x at s1 s2 s3 s4 h3
    rw [f25_w hn _ _ (by omega), Option.bind_some, f89_is hn _ _ (by omega) (by simp [leN_length]; omega), Option.bind_some, f25_w hn _ _ (by simp [leN_length, eSet_length]; omega), Option.bind_some, joinK]
    have := fun j => f55_l2_is hn x s4 s3 j x.Maps.length n 0 (acc ++ leN 2 x.Kinds ++ eSet x.Rates ++ leN 2 x.Maps.length) (by omega) (by omega) (by simp [leN_length, eSet_length]; omega)
    rw [show ((0 : Nat) : Int) = 0 from rfl] at this
    rw [this, List.drop_zero, f89_is hn _ _ (by omega) (by simp [leN_length, eSet_length]; omega), Option.bind_some, w64_id (by omega), show (i : Int) + 1 = ((i + 1 : Nat) : Int) by omega]
    dsimp only
    rw [ih _ _ _ (by omega) (by omega) (by simp [leN_length, eSet_length]; omega)]
    simp only [List.append_assoc, eBox]

def encR (d : Descriptor) : List Int × Int := if DescV d then (eDesc d, 0) else ([], 1)

theorem f39_is (d : Descriptor) (hs : DescS d) (hl : DescV d → (eBody d).length ≤ 90000) : f39 n d = some (encR d) := by
  rw [f39, show f56 n (⟨d.ID, d.Name, d.Direction, d.Domain, d.Latency, d.Drift, d.Jitter, d.Boxes⟩ : Descriptor) = some (decide (DescV d)) from f56_is hn d hs, Option.bind_some, encR]
  by_cases hv : DescV d
  case neg => rw [if_pos (by simpa using hv), if_neg hv]
  have hl := hl hv
  have hnm := hv.1.2.2
  obtain ⟨s1, s2, s3⟩ := hs
  have hlen : (eBody d).length = 4 + (8 + ((d.Name.size + 1) + (2 + (2 + (4 + (2 + (2 + (2 + (eBoxes d.Boxes).length)))))))) := by
    simp only [eBody, List.length_append, leN_length, List.length_cons, strNums_length, List.length_nil]
  rw [if_neg (by simpa using hv), if_pos hv, f28_is (by omega) _ _ (by simp), Option.bind_some, f22_is _ _ (by simp [leN_length]), Option.bind_some]
  dsimp only
  rw [ptB, if_pos hnm, f70_is hn _ _ (by simp [leN_length, strNums_length]; omega), Option.bind_some, f70_is hn _ _ (by simp [leN_length, strNums_length]; omega), Option.bind_some, f26_w hn _ _ (by simp [leN_length, strNums_length]; omega), Option.bind_some, f70_is hn _ _ (by simp [leN_length, strNums_length]; omega), Option.bind_some, f70_is hn _ _ (by simp [leN_length, strNums_length]; omega), Option.bind_some, f70_is hn _ _ (by simp [leN_length, strNums_length]; omega), Option.bind_some, joinK]
  have := fun acc h j => f39_l1_is hn d s3 s2 j d.Boxes.length n 0 acc (by omega) (by omega) h
  rw [show ((0 : Nat) : Int) = 0 from rfl] at this
  rw [this _ (by simp [leN_length, strNums_length]; omega), List.drop_zero]
  have e : (((((((([83, 78, 68, 49] ++ leN 8 d.ID) ++ (d.Name.size : Int) :: strNums d.Name) ++ leN 2 d.Direction) ++ leN 2 d.Domain) ++ leN 4 d.Latency) ++ leN 2 d.Drift) ++ leN 2 d.Jitter) ++ leN 2 d.Boxes.length) ++ eBoxes d.Boxes = eBody d := by
    simp only [eBody, List.append_assoc]
  rw [e, f18_is _ (by omega) (by omega), Option.bind_some, f26_is (by omega) _ _ (by omega), Option.bind_some]
  rfl

theorem f55_is (d : Descriptor) (hs : DescS d) (hl : DescV d → (eBody d).length ≤ 90000) : f55 n d = some (encR d) := by
  rw [f55, show f57 n (⟨d.ID, d.Name, d.Direction, d.Domain, d.Latency, d.Drift, d.Jitter, d.Boxes⟩ : Descriptor) = some (decide (DescV d)) from f57_is hn d hs, Option.bind_some, encR]
  by_cases hv : DescV d
  case neg => rw [if_pos (by simpa using hv), if_neg hv]
  have hl := hl hv
  have hnm := hv.1.2.2
  obtain ⟨s1, s2, s3⟩ := hs
  have hlen : (eBody d).length = 4 + (8 + ((d.Name.size + 1) + (2 + (2 + (4 + (2 + (2 + (2 + (eBoxes d.Boxes).length)))))))) := by
    simp only [eBody, List.length_append, leN_length, List.length_cons, strNums_length, List.length_nil]
  rw [if_neg (by simpa using hv), if_pos hv, f29_is (by omega) _ _ (by simp), Option.bind_some, f23_is (by omega) _ _ (by simp [leN_length]), Option.bind_some]
  dsimp only
  rw [ptB, if_pos hnm, f25_w hn _ _ (by simp [leN_length, strNums_length]; omega), Option.bind_some, f25_w hn _ _ (by simp [leN_length, strNums_length]; omega), Option.bind_some, f27_w hn _ _ (by simp [leN_length, strNums_length]; omega), Option.bind_some, f25_w hn _ _ (by simp [leN_length, strNums_length]; omega), Option.bind_some, f25_w hn _ _ (by simp [leN_length, strNums_length]; omega), Option.bind_some, f25_w hn _ _ (by simp [leN_length, strNums_length]; omega), Option.bind_some, joinK]
  have := fun acc h j => f55_l1_is hn d s3 s2 j d.Boxes.length n 0 acc (by omega) (by omega) h
  rw [show ((0 : Nat) : Int) = 0 from rfl] at this
  rw [this _ (by simp [leN_length, strNums_length]; omega), List.drop_zero]
  have e : (((((((([83, 78, 68, 49] ++ leN 8 d.ID) ++ (d.Name.size : Int) :: strNums d.Name) ++ leN 2 d.Direction) ++ leN 2 d.Domain) ++ leN 4 d.Latency) ++ leN 2 d.Drift) ++ leN 2 d.Jitter) ++ leN 2 d.Boxes.length) ++ eBoxes d.Boxes = eBody d := by
    simp only [eBody, List.append_assoc]
  have hc : 0 ≤ crcS (eBody d) ∧ crcS (eBody d) < 18446744073709551616 := by
    unfold crcS iNot bitsI bits
    rw [wrap_u32]
    omega
  rw [e, f19_is _ (by omega) (by omega), Option.bind_some, f27_is (by omega) _ _ hc (by omega), Option.bind_some]
  rfl

end
end Go.Proofs.Ytcahjpkmldmjdaa
