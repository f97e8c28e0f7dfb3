/-
  Plain laws of choices: what is drawn; the sanity check.
-/
import Derived.Test.YtacdknbakjbpiaaC3
import Derived.Test.YtacdknbakjbpiaaC0
namespace Go.Proofs.Ytacdknbakjbpiaa
open Go Ab

def roles4 : List ByteArray := [⟨#[109, 117, 115, 105, 99]⟩, ⟨#[118, 111, 105, 99, 101]⟩, ⟨#[97, 108, 97, 114, 109]⟩, ⟨#[103, 97, 109, 101]⟩]
theorem roles_fine : ∀ i : _root_.Fin 4, NmV (roles4[i.val]'i.isLt) := by decide +kernel

section
variable {n : Nat} (hn : 100000 ≤ n)

theorem f56_is (d : Deck) (h : DeckOK d) : ∃ r d', f56 n d = some (r, d') ∧ NmV r ∧ DeckOK d' := by
  obtain ⟨v, d1, a1, a2, a3, _⟩ := f79_is (n := n) d h 4 (by omega)
  rw [f56, show f79 n (⟨d.L, d.At⟩ : Deck) 4 = some (v, d1) from a1, Option.bind_some]
  dsimp only
  have hk : v.toNat < 4 := by omega
  have e : lAt ([(⟨#[109, 117, 115, 105, 99]⟩ : ByteArray), (⟨#[118, 111, 105, 99, 101]⟩ : ByteArray), (⟨#[97, 108, 97, 114, 109]⟩ : ByteArray), (⟨#[103, 97, 109, 101]⟩ : ByteArray)] : List ByteArray) v = some (roles4[v.toNat]'hk) :=
    lAt_eq (l := roles4) ⟨a2.1, by show v < (4 : Int); omega⟩
  rw [e, Option.bind_some]
  exact ⟨_, _, rfl, roles_fine ⟨v.toNat, hk⟩, a3⟩

theorem f57_l1_is (j : List Int → Int → List Int → Option (List Int × Deck)) : ∀ (q p i : Nat) (d : Deck) (acc : List Int), 1 ≤ i → i + q = 7 → q < p → DeckOK d → (∀ x ∈ acc, 1 ≤ x ∧ x < i) → Rise acc → acc.length ≤ i →
    ∃ s d', (∀ x ∈ s, 1 ≤ x) ∧ Rise s ∧ s.length ≤ 7 ∧ DeckOK d' ∧ f57_l1 n j p d.L d.At acc (i : Int) = j d'.L d'.At s := by
  intro q
  induction q with
  | zero =>
    intro p i d acc hi1 h1 h2 h3 h4 h5 h6
    obtain ⟨p, rfl⟩ : ∃ q, p = q + 1 := ⟨p - 1, by omega⟩
    exact ⟨acc, d, fun x hx => (h4 x hx).1, h5, by omega, h3, by rw [f57_l1, if_neg (by simp; omega)]⟩
  | succ q ih =>
    intro p i d acc hi1 h1 h2 h3 h4 h5 h6
    obtain ⟨p, rfl⟩ : ∃ q, p = q + 1 := ⟨p - 1, by omega⟩
    obtain ⟨v, d1, a1, a2, a3, _⟩ := f79_is (n := n) d h3 2 (by omega)
    rw [f57_l1, if_pos (by simp; omega), joinK, show f79 n (⟨d.L, d.At⟩ : Deck) 2 = some (v, d1) from a1, Option.bind_some, w64_id (by omega), show (i : Int) + 1 = ((i + 1 : Nat) : Int) by omega]
    dsimp only
    by_cases hv : v = 0
    · rw [if_pos (by simpa using hv), wrap_u64, show (i : Int) % 18446744073709551616 = (i : Int) by omega, lApp_eq (by simp; omega), Option.bind_some]
      refine ih p (i + 1) d1 (acc ++ [(i : Int)]) (by omega) (by omega) (by omega) a3 (fun x hx => ?_) ?_ (by simp; omega)
      · rcases List.mem_append.1 hx with hx | hx
        · have := h4 x hx; omega
        · simp at hx; omega
      · refine List.pairwise_append.2 ⟨h5, by simp, fun a ha b hb => ?_⟩
        simp at hb
        have := h4 a ha
        omega
    · rw [if_neg (by simpa using hv)]
      exact ih p (i + 1) d1 acc (by omega) (by omega) (by omega) a3 (fun x hx => by have := h4 x hx; omega) h5 (by omega)

include hn
theorem f57_is (d : Deck) (h : DeckOK d) : ∃ s d', f57 n d = some (s, d') ∧ AscV s ∧ (1 ≤ s.length ∧ s.length ≤ 8) ∧ DeckOK d' := by
  obtain ⟨s, d', h1, h2, h3, h4, h5⟩ := f57_l1_is (n := n) (fun v40 v41 v42 => if ((v42.length : Int) == (0 : Int)) then some (([7] : List Int), (⟨v40, v41⟩ : Deck)) else some (v42, (⟨v40, v41⟩ : Deck))) 6 n 1 d [] (by omega) (by omega) (by omega) h (fun x hx => by cases hx) List.Pairwise.nil (by simp)
  rw [show ((1 : Nat) : Int) = 1 from rfl] at h5
  rw [f57, joinK]
  by_cases h0 : s.length = 0
  · exact ⟨[7], d', h5.trans (if_pos (by simpa using List.eq_nil_of_length_eq_zero h0)), by decide, by decide, h4⟩
  · exact ⟨s, d', h5.trans (if_neg (by simpa using fun e => h0 (by rw [e]; rfl))), AscV.of h1 h2, by omega, h4⟩

theorem f44_is (d : Deck) (h : DeckOK d) : ∃ c d', f44 n d = some (c, d') ∧ ChV c ∧ DeckOK d' := by
  obtain ⟨r, d1, a1, a2, a3⟩ := f56_is (n := n) d h
  obtain ⟨s, d2, b1, b2, b3, b4⟩ := f57_is hn d1 a3
  obtain ⟨v, d3, c1, c2, c3, _⟩ := f79_is (n := n) d2 b4 (s.length : Int) (by omega)
  rw [f44, show f56 n (⟨d.L, d.At⟩ : Deck) = some (r, d1) from a1, Option.bind_some]
  dsimp only
  rw [show f57 n (⟨d1.L, d1.At⟩ : Deck) = some (s, d2) from b1, Option.bind_some]
  dsimp only
  rw [show f79 n (⟨d2.L, d2.At⟩ : Deck) (s.length : Int) = some (v, d3) from c1, Option.bind_some]
  dsimp only
  rw [lAt_eq ⟨c2.1, c2.2⟩, Option.bind_some]
  exact ⟨_, _, rfl, ⟨a2, b3, b2, List.getElem_mem _⟩, c3⟩

omit hn in
theorem remS_ok {m : Memory} (hm : MemV m) {c : Choose} (hc : ChV c) : remS m c = (⟨remL m.Choices c⟩, 0) := by rw [remS, if_pos hm, if_pos hc]

theorem f48_V {m : Memory} (hm : MemV m) {c : Choose} (hc : ChV c) : f48 n m c = some (⟨remL m.Choices c⟩, 0) := by
  obtain ⟨h1, h2, _⟩ := (memV_iff _).1 hm
  have := hc.1.2.2
  rw [f48_is hn m c (rolesOK_of hn h2) (by omega) (by omega) (by omega), remS_ok hm hc]
theorem f47_V {m : Memory} (hm : MemV m) {c : Choose} (hc : ChV c) : f47 n m c = some (⟨remL m.Choices c⟩, 0) := by
  obtain ⟨h1, h2, _⟩ := (memV_iff _).1 hm
  have := hc.1.2.2
  rw [f47_is hn m c (rolesOK_of hn h2) (by omega) (by omega), remS_ok hm hc]
theorem f50_V {m : Memory} (hm : MemV m) (role : ByteArray) (set : List Int) (hs : set.length ≤ 1000) : f50 n m role set = some (lookS m role set) := by
  obtain ⟨h1, h2, _⟩ := (memV_iff _).1 hm
  exact f50_is hn m role set (rolesOK_of hn h2) hs

omit hn in
theorem memV_nil : MemV ⟨[]⟩ := (memV_iff _).2 ⟨Nat.zero_le _, (fun c hc => by cases hc), List.Pairwise.nil⟩

theorem f43_l1_is (j : List Choose → List Int → Int → Option (Memory × Deck)) : ∀ (q p : Nat) (l : List Choose) (d : Deck), q < p → q ≤ 6 → DeckOK d → MemV ⟨l⟩ → l.length + q ≤ 6 →
    ∃ l' d', MemV ⟨l'⟩ ∧ l'.length ≤ 6 ∧ DeckOK d' ∧ f43_l1 n j p l d.L d.At (q : Int) = j l' d'.L d'.At := by
  intro q
  induction q with
  | zero =>
    intro p l d h1 h2 h3 h4 h5
    obtain ⟨p, rfl⟩ : ∃ q, p = q + 1 := ⟨p - 1, by omega⟩
    exact ⟨l, d, h4, by omega, h3, by rw [f43_l1, if_neg (by simp)]⟩
  | succ q ih =>
    intro p l d h1 h2 h3 h4 h5
    obtain ⟨p, rfl⟩ : ∃ q, p = q + 1 := ⟨p - 1, by omega⟩
    obtain ⟨c, d1, a1, a2, a3⟩ := f44_is hn d h3
    have hl : (remL l c).length ≤ l.length + 1 := by
      have := remF_len l c
      rw [remL, List.length_drop, List.length_append, List.length_singleton]
      omega
    rw [f43_l1, if_pos (by simp only [decide_eq_true_eq]; omega), show f44 n (⟨d.L, d.At⟩ : Deck) = some (c, d1) from a1, Option.bind_some]
    dsimp only
    rw [f48_V hn h4 a2, Option.bind_some, show ((q + 1 : Nat) : Int) - 1 = (q : Int) by omega, w64_id (by omega)]
    exact ih p (remL l c) d1 (by omega) (by omega) a3 (remL_V h4 a2) (by omega)

theorem f43_is (d : Deck) (h : DeckOK d) : ∃ m d', f43 n d = some (m, d') ∧ MemV m ∧ m.Choices.length ≤ 6 ∧ DeckOK d' := by
  obtain ⟨v, d1, a1, a2, a3, _⟩ := f79_is (n := n) d h 7 (by omega)
  obtain ⟨q, rfl⟩ := Int.eq_ofNat_of_zero_le a2.1
  obtain ⟨l, d2, b1, b2, b3, b4⟩ := f43_l1_is hn (fun v19 v20 v21 => some ((⟨v19⟩ : Memory), (⟨v20, v21⟩ : Deck))) q n [] d1 (by omega) (by omega) a3 memV_nil (by simp; omega)
  rw [f43, joinK, show f79 n (⟨d.L, d.At⟩ : Deck) 7 = some ((q : Int), d1) from a1, Option.bind_some]
  exact ⟨⟨l⟩, d2, b4, b1, b2, b3⟩

def cMusic : Choose := ⟨⟨#[109, 117, 115, 105, 99]⟩, [3, 7], 7⟩

theorem f41_is : f41 n = some true := by
  have hc : ChV cMusic := by decide +kernel
  have hm := memV_nil
  have hv : MemV ⟨[cMusic]⟩ := (memV_iff _).2 ⟨by decide, (fun c hc' => by simp at hc'; subst hc'; exact hc), by simp⟩
  have e1 : remL [] cMusic = [cMusic] := rfl
  have e2 : lookS ⟨[cMusic]⟩ ⟨#[109, 117, 115, 105, 99]⟩ [3, 7, 9] = 7 := by
    rw [lookS, if_pos ⟨hv, by decide⟩]
    decide +kernel
  have e3 : lookS ⟨[cMusic]⟩ ⟨#[109, 117, 115, 105, 99]⟩ [3] = 0 := by
    rw [lookS, if_pos ⟨hv, by decide⟩]
    decide +kernel
  rw [f41, show f47 n (⟨([] : List Choose)⟩ : Memory) (⟨(⟨#[109, 117, 115, 105, 99]⟩ : ByteArray), ([3, 7] : List Int), 7⟩ : Choose) = some (⟨remL [] cMusic⟩, 0) from f47_V hn hm hc, e1, Option.bind_some]
  dsimp only
  rw [if_pos (by decide), if_pos (by decide), f50_V hn hv _ _ (by decide), e2, Option.bind_some, if_pos (by decide), f50_V hn hv _ _ (by decide), e3, Option.bind_some]
  rfl

end
end Go.Proofs.Ytacdknbakjbpiaa
