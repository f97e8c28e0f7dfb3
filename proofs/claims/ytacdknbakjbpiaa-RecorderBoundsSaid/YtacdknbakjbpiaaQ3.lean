/-
  Plain laws of recorders: glitches that are joined, that are noted.
-/
import Derived.Test.YtacdknbakjbpiaaQ2
namespace Go.Proofs.Ytacdknbakjbpiaa
open Go Ab

def gz : Glitch := ⟨0, 0, 0, 0, 0, 0⟩
def JoinV (a b : Glitch) : Prop := GlV a ∧ GlV b ∧ a.Kind = b.Kind ∧ a.Stream = b.Stream ∧ a.Device = b.Device ∧ b.At = a.At + a.Quanta ∧ a.Quanta + b.Quanta ≤ 4096 ∧ a.Frames + b.Frames ≤ 1099511627776
instance (a b : Glitch) : Decidable (JoinV a b) := by unfold JoinV; infer_instance
def joinG (a b : Glitch) : Glitch := ⟨a.Kind, a.At, a.Quanta + b.Quanta, a.Stream, a.Device, a.Frames + b.Frames⟩
def joinS (a b : Glitch) : Glitch × Bool := if JoinV a b then (joinG a b, true) else (gz, false)

theorem joinG_V {a b : Glitch} (h : JoinV a b) : GlV (joinG a b) := by
  obtain ⟨h1, h2, _, _, _, h6, h7, h8⟩ := h
  obtain ⟨g1, g2, g3, g4⟩ := h1
  obtain ⟨_, k2, k3, _⟩ := h2
  refine ⟨g1, ?_, ?_, g4⟩
  · show 1 ≤ a.Quanta + b.Quanta ∧ a.Quanta + b.Quanta ≤ 4096
    omega
  · show 1 ≤ a.Frames + b.Frames ∧ a.Frames + b.Frames ≤ 1099511627776
    omega

theorem f102_is {n : Nat} (a b : Glitch) : f102 n a b = some (joinS a b) := by
  rw [f102]
  simp only [joinK]
  rw [show f97 n (⟨a.Kind, a.At, a.Quanta, a.Stream, a.Device, a.Frames⟩ : Glitch) = some (decide (GlV a)) from f97_is a, Option.bind_some, joinS]
  by_cases h1 : GlV a
  case neg => rw [if_pos (by simpa using h1), if_neg (fun h => h1 h.1)]; rfl
  rw [if_neg (by simpa using h1), show f97 n (⟨b.Kind, b.At, b.Quanta, b.Stream, b.Device, b.Frames⟩ : Glitch) = some (decide (GlV b)) from f97_is b, Option.bind_some]
  by_cases h2 : GlV b
  case neg => rw [if_pos (by simpa using h2), if_neg (fun h => h2 h.2.1)]; rfl
  rw [if_neg (by simpa using h2), f120, f120, Option.bind_some, Option.bind_some]
  dsimp only
  have g1 := h1.1; have g2 := h1.2.1; have g3 := h1.2.2.1
  have k1 := h2.1; have k2 := h2.2.1; have k3 := h2.2.2.1
  by_cases h3 : a.Kind = b.Kind ∧ a.Stream = b.Stream ∧ a.Device = b.Device
  case neg =>
    rw [if_pos, if_neg (fun h => h3 ⟨h.2.2.1, h.2.2.2.1, h.2.2.2.2.1⟩)]
    · rfl
    · simp only [Bool.not_eq_true', Bool.and_eq_false_iff, beq_eq_false_iff_ne, ne_eq]
      by_cases e1 : a.Kind = b.Kind
      · by_cases e2 : a.Stream = b.Stream
        · exact .inr fun e3 => h3 ⟨e1, e2, e3⟩
        · exact .inl (.inr e2)
      · exact .inl (.inl e1)
  rw [if_neg (by simp [h3.1, h3.2.1, h3.2.2]), w64_id (x := a.At + a.Quanta) (by omega), w64_id (x := a.Quanta + b.Quanta) (by omega), w64_id (x := a.Frames + b.Frames) (by omega)]
  by_cases h4 : b.At = a.At + a.Quanta
  case neg => rw [if_pos (by simpa using h4), if_neg (fun h => h4 h.2.2.2.2.2.1)]; rfl
  rw [if_neg (by simpa using h4), show f97 n (⟨a.Kind, a.At, a.Quanta + b.Quanta, a.Stream, a.Device, a.Frames + b.Frames⟩ : Glitch) = some (decide (GlV (joinG a b))) from f97_is _, Option.bind_some]
  by_cases h5 : a.Quanta + b.Quanta ≤ 4096 ∧ a.Frames + b.Frames ≤ 1099511627776
  · have hj : JoinV a b := ⟨h1, h2, h3.1, h3.2.1, h3.2.2, h4, h5.1, h5.2⟩
    rw [if_neg (by simpa using joinG_V hj), if_pos hj]
    rfl
  · rw [if_pos, if_neg (fun h => h5 ⟨h.2.2.2.2.2.2.1, h.2.2.2.2.2.2.2⟩)]
    · rfl
    · simp only [Bool.not_eq_true', decide_eq_false_iff_not]
      intro hg
      exact h5 ⟨hg.2.1.2, hg.2.2.1.2⟩

theorem f103_is {n : Nat} (a b : Glitch) : f103 n a b = some (joinS a b) := by
  rw [f103]
  simp only [joinK]
  rw [show f101 n (⟨a.Kind, a.At, a.Quanta, a.Stream, a.Device, a.Frames⟩ : Glitch) = some (decide (GlV a)) from f101_is a, Option.bind_some, joinS]
  by_cases h1 : GlV a
  case neg => rw [if_pos (by simpa using h1), if_neg (fun h => h1 h.1)]; rfl
  rw [if_neg (by simpa using h1), show f101 n (⟨b.Kind, b.At, b.Quanta, b.Stream, b.Device, b.Frames⟩ : Glitch) = some (decide (GlV b)) from f101_is b, Option.bind_some]
  by_cases h2 : GlV b
  case neg => rw [if_pos (by simpa using h2), if_neg (fun h => h2 h.2.1)]; rfl
  rw [if_neg (by simpa using h2), f121]
  dsimp only
  have g1 := h1.1; have g2 := h1.2.1; have g3 := h1.2.2.1
  have k1 := h2.1; have k2 := h2.2.1; have k3 := h2.2.2.1
  by_cases e1 : a.Kind = b.Kind
  case neg => rw [if_neg (by simpa using e1), Option.bind_some, if_pos (by decide), if_neg (fun h => e1 h.2.2.1)]; rfl
  rw [if_pos (by simpa using e1)]
  by_cases e2 : a.Stream = b.Stream
  case neg => rw [if_neg (by simpa using e2), Option.bind_some, if_pos (by decide), if_neg (fun h => e2 h.2.2.2.1)]; rfl
  rw [if_pos (by simpa using e2), Option.bind_some]
  by_cases e3 : a.Device = b.Device
  case neg => rw [if_pos (by simpa using e3), if_neg (fun h => e3 h.2.2.2.2.1)]; rfl
  rw [if_neg (by simpa using e3), w64_id (x := a.At + a.Quanta) (by omega), w64_id (x := a.Quanta + b.Quanta) (by omega), w64_id (x := a.Frames + b.Frames) (by omega)]
  by_cases h4 : b.At = a.At + a.Quanta
  case neg => rw [if_pos (by simpa using h4), if_neg (fun h => h4 h.2.2.2.2.2.1)]; rfl
  rw [if_neg (by simpa using h4)]
  by_cases h5 : a.Quanta + b.Quanta > 4096
  · rw [if_pos (by simpa using h5), if_neg (fun h => by have := h.2.2.2.2.2.2.1; omega)]; rfl
  rw [if_neg (by simpa using h5)]
  by_cases h6 : a.Frames + b.Frames > 1099511627776
  · rw [if_pos (by simpa using h6), if_neg (fun h => by have := h.2.2.2.2.2.2.2; omega)]; rfl
  rw [if_neg (by simpa using h6), if_pos ⟨h1, h2, e1, e2, e3, h4, by omega, by omega⟩]
  rfl

/-! ### one more glitch -/

def lastN (l : List Glitch) (lim : Int) (g : Glitch) : List Glitch :=
  if 0 < l.length ∧ JoinV (l.getD (l.length - 1) gz) g then l.set (l.length - 1) (joinG (l.getD (l.length - 1) gz) g) else (l ++ [g]).drop (l.length + 1 - lim.toNat)
def notR (r : Recorder) (g : Glitch) : Recorder × Int :=
  if RecV r then (if GlV g then (⟨r.Limit, lastN r.Last r.Limit g, aUp r.Counts g.Kind.toNat (min (r.Counts g.Kind.toNat + 1) 1099511627776), min (r.Frames + g.Frames) 1099511627776, r.Buckets⟩, 0) else (zeroR, 2)) else (zeroR, 1)

theorem kind_rng {g : Glitch} (h : GlV g) : 1 ≤ g.Kind ∧ g.Kind ≤ 4 := by
  rcases h.2.2.2 with h | h <;> omega

theorem lPart_tail {l : List Glitch} {lim : Int} (h : 1 ≤ lim ∧ lim ≤ 256) (hl : l.length ≤ 100000) : lPart l (iMax 0 (w64 ((l.length : Int) - lim))) (l.length : Int) = some (l.drop (l.length - lim.toNat)) := by
  rw [w64_id (by omega), iMax_eq, lPart_eq (by omega), Int.toNat_natCast, List.take_length]
  congr 2
  omega

theorem f63_is {n : Nat} (hn : 100000 ≤ n) (r : Recorder) (hl : r.Last.length ≤ 90000) (g : Glitch) : f63 n r g = some (notR r g) := by
  rw [f63, show f60 n (⟨r.Limit, r.Last, r.Counts, r.Frames, r.Buckets⟩ : Recorder) = some (decide (RecV r)) from f60_is hn r hl, Option.bind_some, notR]
  by_cases hv : RecV r
  case neg => rw [if_pos (by simpa using hv), if_neg hv]; rfl
  rw [if_neg (by simpa using hv), if_pos hv, show f97 n (⟨g.Kind, g.At, g.Quanta, g.Stream, g.Device, g.Frames⟩ : Glitch) = some (decide (GlV g)) from f97_is g, Option.bind_some]
  by_cases hg : GlV g
  case neg => rw [if_pos (by simpa using hg), if_neg hg]; rfl
  have hk := kind_rng hg
  have hgf := hg.2.2.1
  obtain ⟨hL, hlen, _, hF, hC, _⟩ := hv
  obtain ⟨hF1, hF2⟩ := hF
  obtain ⟨hC1, hC2⟩ := hC g.Kind.toNat (by omega)
  obtain ⟨k, hkk⟩ := Int.eq_ofNat_of_zero_le (show 0 ≤ g.Kind by omega)
  rw [if_neg (by simpa using hg), if_pos hg, hkk, aIdx_nat (by omega), Option.bind_some, f77, Option.bind_some, Option.bind_some, f77, Option.bind_some, f78, lApp_eq (by simp; omega), Option.bind_some, Option.bind_some, List.nil_append]
  rw [hkk, Int.toNat_natCast] at hC1 hC2
  rw [Int.toNat_natCast, w64_id (by omega), w64_id (by omega), iMin_eq, iMin_eq, joinK]
  have hdrop : ∀ j : List Glitch → Option (Recorder × Int), ((lApp r.Last ([(⟨((k : Nat) : Int), g.At, g.Quanta, g.Stream, g.Device, g.Frames⟩ : Glitch)] : List Glitch)).bind fun x25 => (lPart x25 (iMax (0 : Int) (w64 ((x25.length : Int) - r.Limit))) (x25.length : Int)).bind j) = j ((r.Last ++ [g]).drop (r.Last.length + 1 - r.Limit.toNat)) := by
    intro j
    have e : (⟨((k : Nat) : Int), g.At, g.Quanta, g.Stream, g.Device, g.Frames⟩ : Glitch) = g := by rw [← hkk]
    rw [e, lApp_eq (by simp; omega), Option.bind_some, lPart_tail hL (by simp; omega), Option.bind_some, List.length_append]
    rfl
  have e : (⟨((k : Nat) : Int), g.At, g.Quanta, g.Stream, g.Device, g.Frames⟩ : Glitch) = g := by rw [← hkk]
  by_cases h0 : 0 < r.Last.length
  case neg =>
    rw [if_neg (by simpa using h0), hdrop, lastN, if_neg (fun h => h0 h.1)]
  rw [if_pos (by simp; omega), w64_id (by omega), show (r.Last.length : Int) - 1 = ((r.Last.length - 1 : Nat) : Int) by omega, lAt_getD gz (show r.Last.length - 1 < r.Last.length by omega), Option.bind_some, e, f102_is, Option.bind_some, joinS, lastN]
  by_cases hj : JoinV (r.Last.getD (r.Last.length - 1) gz) g
  · rw [if_pos hj]
    dsimp only
    try rw [if_pos rfl]
    rw [Option.bind_some, Int.toNat_natCast, if_pos (show 0 < r.Last.length ∧ JoinV (r.Last.getD (r.Last.length - 1) gz) g from ⟨h0, hj⟩)]
  · rw [if_neg hj]
    dsimp only
    try rw [if_neg (by simp)]
    rw [if_neg (show ¬ (0 < r.Last.length ∧ JoinV (r.Last.getD (r.Last.length - 1) gz) g) from fun h => hj h.2)]
    have := hdrop
    rw [e] at this
    rw [this]

theorem f64_is {n : Nat} (hn : 100000 ≤ n) (r : Recorder) (hl : r.Last.length ≤ 90000) (g : Glitch) : f64 n r g = some (notR r g) := by
  rw [f64, show f61 n (⟨r.Limit, r.Last, r.Counts, r.Frames, r.Buckets⟩ : Recorder) = some (decide (RecV r)) from f61_is hn r hl, Option.bind_some, notR]
  by_cases hv : RecV r
  case neg => rw [if_pos (by simpa using hv), if_neg hv]; rfl
  rw [if_neg (by simpa using hv), if_pos hv, show f101 n (⟨g.Kind, g.At, g.Quanta, g.Stream, g.Device, g.Frames⟩ : Glitch) = some (decide (GlV g)) from f101_is g, Option.bind_some]
  by_cases hg : GlV g
  case neg => rw [if_pos (by simpa using hg), if_neg hg]; rfl
  have hk := kind_rng hg
  have hgf := hg.2.2.1
  obtain ⟨hL, hlen, _, hF, hC, _⟩ := hv
  obtain ⟨hF1, hF2⟩ := hF
  obtain ⟨hC1, hC2⟩ := hC g.Kind.toNat (by omega)
  obtain ⟨k, hkk⟩ := Int.eq_ofNat_of_zero_le (show 0 ≤ g.Kind by omega)
  rw [if_neg (by simpa using hg), if_pos hg, lApp_eq (by simp; omega), Option.bind_some, List.nil_append, joinK, joinK]
  have e : (⟨g.Kind, g.At, g.Quanta, g.Stream, g.Device, g.Frames⟩ : Glitch) = g := rfl
  rw [e, hkk]
  rw [hkk, Int.toNat_natCast] at hC1 hC2
  rw [Int.toNat_natCast]
  have hend : ∀ v : List Glitch, v.length ≤ 100000 → ((lPart v (iMax (0 : Int) (w64 ((v.length : Int) - r.Limit))) (v.length : Int)).bind fun x25 => (aIdx 5 (k : Int)).bind fun x26 => (aIdx 5 (k : Int)).bind fun x27 => some ((⟨r.Limit, x25, (aUp r.Counts x27 (iMin (w64 ((r.Counts x26) + (1 : Int))) (1099511627776 : Int))), iMin (w64 (r.Frames + g.Frames)) (1099511627776 : Int), r.Buckets⟩ : Recorder), (0 : Int))) =
      some ((⟨r.Limit, v.drop (v.length - r.Limit.toNat), aUp r.Counts k (min (r.Counts k + 1) 1099511627776), min (r.Frames + g.Frames) 1099511627776, r.Buckets⟩ : Recorder), 0) := by
    intro v hv
    rw [lPart_tail hL hv, Option.bind_some, aIdx_nat (by omega), Option.bind_some, Option.bind_some, w64_id (by omega), w64_id (by omega), iMin_eq, iMin_eq]
  by_cases h0 : 0 < r.Last.length
  case neg =>
    rw [if_neg (by simpa using h0), lApp_eq (by simp; omega), Option.bind_some, hend _ (by simp; omega), lastN, if_neg (fun h => h0 h.1), List.length_append]
    rfl
  rw [if_pos (by simp; omega), w64_id (by omega), show (r.Last.length : Int) - 1 = ((r.Last.length - 1 : Nat) : Int) by omega, lAt_getD gz (show r.Last.length - 1 < r.Last.length by omega), Option.bind_some, f103_is, Option.bind_some, joinS, lastN]
  by_cases hj : JoinV (r.Last.getD (r.Last.length - 1) gz) g
  · rw [if_pos hj]
    dsimp only
    try rw [if_pos rfl]
    rw [Option.bind_some, Int.toNat_natCast, hend _ (by simp; omega), List.length_set, show r.Last.length - r.Limit.toNat = 0 by omega, List.drop_zero, if_pos (show 0 < r.Last.length ∧ JoinV (r.Last.getD (r.Last.length - 1) gz) g from ⟨h0, hj⟩)]
  · rw [if_neg hj]
    dsimp only
    try rw [if_neg (by simp)]
    rw [if_neg (show ¬ (0 < r.Last.length ∧ JoinV (r.Last.getD (r.Last.length - 1) gz) g) from fun h => hj h.2), lApp_eq (by simp; omega), Option.bind_some, hend _ (by simp; omega), List.length_append]
    rfl

theorem lastN_V {l : List Glitch} {lim : Int} {g : Glitch} (h : ∀ x ∈ l, GlV x) (hg : GlV g) : ∀ x ∈ lastN l lim g, GlV x := by
  intro x hx
  unfold lastN at hx
  split at hx
  · rename_i hj
    rcases List.mem_or_eq_of_mem_set hx with hx | rfl
    · exact h x hx
    · exact joinG_V hj.2
  · rcases List.mem_append.1 (List.mem_of_mem_drop hx) with hx | hx
    · exact h x hx
    · simp at hx
      subst hx
      exact hg
theorem lastN_len {l : List Glitch} {lim : Int} {g : Glitch} (h : (l.length : Int) ≤ lim) (h1 : 1 ≤ lim) : ((lastN l lim g).length : Int) ≤ lim := by
  unfold lastN
  split
  · rw [List.length_set]; exact h
  · rw [List.length_drop, List.length_append, List.length_singleton]
    omega

theorem notR_V {r : Recorder} (hv : RecV r) {g : Glitch} (hg : GlV g) : (notR r g).2 = 0 ∧ RecV (notR r g).1 ∧ (notR r g).1 = ⟨r.Limit, lastN r.Last r.Limit g, aUp r.Counts g.Kind.toNat (min (r.Counts g.Kind.toNat + 1) 1099511627776), min (r.Frames + g.Frames) 1099511627776, r.Buckets⟩ := by
  have hk := kind_rng hg
  have hgf := hg.2.2.1
  rw [notR, if_pos hv, if_pos hg]
  obtain ⟨hL, hlen, hG, ⟨hF1, hF2⟩, hC, hB⟩ := hv
  obtain ⟨hC1, hC2⟩ := hC g.Kind.toNat (by omega)
  refine ⟨rfl, ⟨hL, lastN_len hlen hL.1, lastN_V hG hg, ⟨?_, ?_⟩, aUp_val _ _ _ _ _ hC ⟨?_, ?_⟩, hB⟩, rfl⟩
  · show 0 ≤ min (r.Frames + g.Frames) 1099511627776
    omega
  · show min (r.Frames + g.Frames) 1099511627776 ≤ 1099511627776
    omega
  · omega
  · omega

/-! ### the same -/

theorem f52_refl {n : Nat} (hn : 100000 ≤ n) (l : List Glitch) (hl : l.length ≤ 90000) : f52 n l l = some true := by
  rw [f52, if_neg (by simp), joinK, allLoop (f52_l1 n l l _) l.length (fun _ => true) (some true) (fun m => by rw [f52_l1, if_neg (by simp)]) ?_ n (by omega)]
  · rw [if_pos (fun _ _ => rfl)]
  · intro m i hi _
    rw [f52_l1, if_pos (by simp; omega), lAt_getD gz hi, Option.bind_some, Option.bind_some, if_neg (by simp), w64_id (by omega), show (i : Int) + 1 = ((i + 1 : Nat) : Int) by omega, if_pos rfl]

theorem aEq_refl (m : Nat) (A : Nat → Int) : aEq m A A = true := by simp [aEq]

theorem f65_refl {n : Nat} (hn : 100000 ≤ n) (r : Recorder) (hl : r.Last.length ≤ 90000) : f65 n r r = some true := by
  rw [f65, if_pos (by simp), f52_refl hn _ hl, Option.bind_some, if_pos rfl, aEq_refl, if_pos rfl, if_pos (by simp), aEq_refl]

end Go.Proofs.Ytacdknbakjbpiaa
