/-
  The law RecorderCounts, plain.
-/
import Derived.Test.YtacdknbakjbpiaaQ4
import Derived.Test.YtacdknbakjbpiaaG13
namespace Go.Proofs.Ytacdknbakjbpiaa
open Go Ab

theorem aEq_of {m : Nat} {A B : Nat → Int} (h : ∀ k, k < m → A k = B k) : aEq m A B = true := by
  rw [aEq, List.all_eq_true]
  intro k hk
  simpa using h k (List.mem_range.1 hk)

/-- The last ones are kept. -/
theorem lastN_suffix {a b : List Glitch} {lim : Int} {g : Glitch} (hL : 1 ≤ lim ∧ lim ≤ 256) (hb : b.length ≤ 200) (hla : (a.length : Int) ≤ lim) (hs : ∃ pre, b = pre ++ a) (hz : a = [] → b = []) :
    (∃ pre, lastN b 256 g = pre ++ lastN a lim g) ∧ lastN a lim g ≠ [] ∧ (lastN b 256 g).length ≤ b.length + 1 := by
  obtain ⟨pre, rfl⟩ := hs
  have hlen : (pre ++ a).length = pre.length + a.length := List.length_append
  by_cases h0 : a = []
  · subst h0
    have hp := hz rfl
    simp only [List.append_nil] at hp
    subst hp
    have e : ∀ L : Int, 1 ≤ L → lastN [] L g = [g] := by
      intro L hL
      rw [lastN, if_neg (by simp)]
      rw [show ([] : List Glitch).length + 1 - L.toNat = 0 by simp; omega]
      rfl
    simp only [List.append_nil]
    rw [e lim hL.1, e 256 (by decide)]
    exact ⟨⟨[], rfl⟩, by simp, by simp⟩
  have hal : 0 < a.length := List.length_pos_iff.2 h0
  have hlast : (pre ++ a).getD ((pre ++ a).length - 1) gz = a.getD (a.length - 1) gz := by
    rw [List.getD_eq_getElem?_getD, List.getD_eq_getElem?_getD, List.getElem?_append_right (by omega)]
    congr 2
    omega
  unfold lastN
  rw [hlast]
  by_cases hj : JoinV (a.getD (a.length - 1) gz) g
  · rw [if_pos ⟨by omega, hj⟩, if_pos ⟨hal, hj⟩]
    refine ⟨⟨pre, ?_⟩, ?_, by rw [List.length_set]; omega⟩
    · rw [List.set_append_right _ _ (by omega)]
      congr 2
      omega
    · intro h
      have := congrArg List.length h
      rw [List.length_set, List.length_nil] at this
      omega
  · rw [if_neg (fun h => hj h.2), if_neg (fun h => hj h.2)]
    refine ⟨⟨pre ++ (a ++ [g]).take (a.length + 1 - lim.toNat), ?_⟩, ?_, ?_⟩
    · rw [show (pre ++ a).length + 1 - (256 : Int).toNat = 0 by rw [hlen] at hb ⊢; have : (256 : Int).toNat = 256 := rfl; omega, List.drop_zero, List.append_assoc, List.append_assoc, List.take_append_drop]
    · intro h
      have := congrArg List.length h
      rw [List.length_drop, List.length_append, List.length_singleton, List.length_nil] at this
      omega
    · rw [List.length_drop, List.length_append, List.length_singleton]
      omega

structure Pair (a b : Recorder) (i : Nat) : Prop where
  va : RecV a
  vb : RecV b
  lb : b.Limit = 256
  cnt : ∀ k, k < 5 → a.Counts k = b.Counts k
  frm : a.Frames = b.Frames
  suf : ∃ pre, b.Last = pre ++ a.Last
  emp : a.Last = [] → b.Last = []
  len : b.Last.length ≤ i

theorem Pair.step {a b : Recorder} {i : Nat} (h : Pair a b i) (hi : i ≤ 100) {g : Glitch} (hg : GlV g) : Pair (notR a g).1 (notR b g).1 (i + 1) := by
  have na := notR_V h.va hg
  have nb := notR_V h.vb hg
  have hk := kind_rng hg
  have hlen := h.len
  obtain ⟨s1, s2, s3⟩ := lastN_suffix (g := g) h.va.1 (by omega) h.va.2.1 h.suf h.emp
  rw [← h.lb] at s1 s3
  refine ⟨na.2.1, nb.2.1, by rw [nb.2.2]; exact h.lb, fun k hk5 => ?_, ?_, ?_, ?_, ?_⟩
  · rw [na.2.2, nb.2.2]
    dsimp only
    unfold aUp
    rw [h.cnt g.Kind.toNat (by omega), h.cnt k hk5]
  · rw [na.2.2, nb.2.2]
    dsimp only
    rw [h.frm]
  · rw [na.2.2, nb.2.2]; exact s1
  · rw [na.2.2]; exact fun e => absurd e s2
  · rw [nb.2.2]
    dsimp only
    omega

section
variable {n : Nat} (hn : 100000 ≤ n)
include hn

theorem f13_l1_is : ∀ (c m i : Nat) (d : Deck) (a b : Recorder), i + c = 30 → c < m → DeckOK d → Pair a b i → f13_l1 n (fun _ => some true) m d.L d.At a.Limit a.Last a.Counts a.Frames a.Buckets b.Limit b.Last b.Counts b.Frames b.Buckets (i : Int) = some true := by
  intro c
  induction c with
  | zero =>
    intro m i d a b h1 h2 h3 h4
    obtain ⟨m, rfl⟩ : ∃ q, m = q + 1 := ⟨m - 1, by omega⟩
    rw [f13_l1, joinK, joinK, f69, Option.bind_some]
    dsimp only
    split
    · rw [if_neg (by simp; omega)]
    · rfl
  | succ c ih =>
    intro m i d a b h1 h2 h3 h4
    obtain ⟨m, rfl⟩ : ∃ q, m = q + 1 := ⟨m - 1, by omega⟩
    rw [f13_l1, joinK, joinK, f69, Option.bind_some]
    dsimp only
    split
    case isFalse => rfl
    obtain ⟨g, d', q1, q2, q3, _⟩ := f62_is (n := n) d h3
    have na := notR_V h4.va q2
    have nb := notR_V h4.vb q2
    have hp := h4.step (by omega) q2
    have hsa := h4.va.short
    have hsb := h4.vb.short
    rw [if_pos (by simp; omega), show f62 n (⟨d.L, d.At⟩ : Deck) = some (g, d') from q1, Option.bind_some]
    dsimp only
    rw [show f63 n (⟨a.Limit, a.Last, a.Counts, a.Frames, a.Buckets⟩ : Recorder) (⟨g.Kind, g.At, g.Quanta, g.Stream, g.Device, g.Frames⟩ : Glitch) = some (notR a g) from f63_is hn a (by omega) g, Option.bind_some,
      show f63 n (⟨b.Limit, b.Last, b.Counts, b.Frames, b.Buckets⟩ : Recorder) (⟨g.Kind, g.At, g.Quanta, g.Stream, g.Device, g.Frames⟩ : Glitch) = some (notR b g) from f63_is hn b (by omega) g, Option.bind_some, joinK, joinK]
    rw [if_neg (by simpa using na.1), if_neg (by simpa using nb.1)]
    generalize (notR a g).1 = a' at hp
    generalize (notR b g).1 = b' at hp
    have hla := hp.va.2.1
    have hla2 := hp.va.short
    have hlb := hp.vb.short
    obtain ⟨pre, hpre⟩ := hp.suf
    have hlen := congrArg List.length hpre
    rw [List.length_append] at hlen
    rw [aEq_of hp.cnt, if_neg (by decide), if_neg (by simpa using hp.frm), if_neg (by simpa using hla), w64_id (x := (b'.Last.length : Int) - (a'.Last.length : Int)) (by omega), if_neg (by simp; omega), lPart_eq (by omega), Option.bind_some, Int.toNat_natCast, List.take_length]
    have e : b'.Last.drop ((b'.Last.length : Int) - (a'.Last.length : Int)).toNat = a'.Last := by
      rw [show ((b'.Last.length : Int) - (a'.Last.length : Int)).toNat = pre.length by omega, hpre, List.drop_left]
    rw [e, f52_refl hn _ (by omega), Option.bind_some]
    dsimp only
    rw [if_neg (by decide), w64_id (by omega), show (i : Int) + 1 = ((i + 1 : Nat) : Int) by omega]
    exact ih m (i + 1) d' a' b' (by omega) (by omega) q3 hp

theorem f13_is (a0 : List Int) (a1 : Int) : f13 n a0 a1 = some true := by
  rw [f13, f36_is hn]
  simp only [Option.bind_some, Bool.not_true, Bool.false_eq_true, if_false]
  rw [f68, Option.bind_some]
  by_cases c0 : (a0.length : Int) ≤ 200
  case neg => rw [if_pos (by simpa using c0)]
  have p0 := Int.emod_nonneg a1 (show (6 : Int) ≠ 0 by decide)
  have p1 := Int.emod_lt_of_pos a1 (show (0 : Int) < 6 by decide)
  rw [if_neg (by simpa using c0), f42, Option.bind_some, f39_is _ _ (by decide), Option.bind_some, w64_id (by omega), f37_is, if_pos (by omega), Option.bind_some, f37_is, if_pos (by decide), Option.bind_some, joinK, joinK]
  dsimp only
  rw [if_neg (by decide), if_neg (by decide), joinK]
  have := f13_l1_is hn 30 n 0 ⟨a0, 0⟩ ⟨1 + a1 % 6, [], aZ, 0, aZ⟩ ⟨256, [], aZ, 0, aZ⟩ (by omega) (by omega) ⟨Int.le_refl _, by dsimp only; omega, by dsimp only; omega⟩
    ⟨newR_V (by omega), newR_V (by decide), rfl, fun _ _ => rfl, rfl, ⟨[], rfl⟩, fun _ => rfl, Nat.le_refl _⟩
  exact this

end
end Go.Proofs.Ytacdknbakjbpiaa
