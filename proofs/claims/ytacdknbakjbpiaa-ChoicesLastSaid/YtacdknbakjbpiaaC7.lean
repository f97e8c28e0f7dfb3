/-
  The law ChoicesLast, plain.
-/
import Derived.Test.YtacdknbakjbpiaaC4
import Derived.Test.YtacdknbakjbpiaaG11
namespace Go.Proofs.Ytacdknbakjbpiaa
open Go Ab

theorem lookS_last {l : List Choose} {c : Choose} (h : MemV ⟨l⟩) (hc : ChV c) : lookS ⟨remL l c⟩ c.Role c.Set = c.Device := by
  obtain ⟨h1, h2, _⟩ := (memV_iff _).1 h
  dsimp only at h1 h2
  rw [lookS, if_pos ⟨remL_V h hc, hc.2.2.1⟩]
  dsimp only
  rw [remL_eq l c h1]
  exact lkF_last hc _ _ _ (fun d hd => h2 d ((List.mem_filter.1 (List.mem_of_mem_drop hd)).1)) (Nat.zero_le _)

theorem lookS_other {l : List Choose} {c : Choose} (h : MemV ⟨l⟩) (hc : ChV c) (hl : l.length ≤ 6) (role : ByteArray) (set : List Int) (hr : role ≠ c.Role) : lookS ⟨remL l c⟩ role set = lookS ⟨l⟩ role set := by
  have hf := remF_len l c
  rw [lookS, lookS]
  by_cases ha : AscV set
  · rw [if_pos ⟨remL_V h hc, ha⟩, if_pos ⟨h, ha⟩]
    dsimp only
    rw [remL, show (remF l c).length + 1 - 32 = 0 by omega, List.drop_zero, lkF_app (fun e => hr e.symm), remF, lkF_filter]
    intro d _ hp
    simp at hp
    exact fun e => hr (by rw [← e, hp.1])
  · rw [if_neg (fun h => ha h.2), if_neg (fun h => ha h.2)]

theorem lookS_in {m : Memory} {role : ByteArray} {set : List Int} (h : lookS m role set ≠ 0) : lookS m role set ∈ set := by
  rw [lookS] at h ⊢
  split
  · rename_i hv
    rw [if_pos hv] at h
    rcases lkF_from (role := role) (set := set) m.Choices 0 0 with e | ⟨d, hd, e, hs⟩
    · exact absurd e h
    · rw [e]
      exact hs _ (((memV_iff _).1 hv.1).2.1 d hd).2.2.2
  · rename_i hv
    rw [if_neg hv] at h
    exact absurd rfl h

theorem lookS_forget (l : List Choose) (x : Int) (role : ByteArray) (set : List Int) (hx : x ≠ 0) : lookS ⟨forL l x⟩ role set ≠ x := by
  rw [lookS]
  split
  · rcases lkF_from (role := role) (set := set) (forL l x) 0 0 with e | ⟨d, hd, e, _⟩
    · rw [e]; exact fun h => hx h.symm
    · rw [e]
      have := (List.mem_filter.1 hd).2
      simpa using this
  · exact fun h => hx h.symm

section
variable {n : Nat} (hn : 100000 ≤ n)
include hn

omit hn in
theorem forL_V {l : List Choose} (h : MemV ⟨l⟩) (x : Int) : MemV ⟨forL l x⟩ := by
  obtain ⟨h1, h2, h3⟩ := (memV_iff _).1 h
  exact (memV_iff _).2 ⟨Nat.le_trans (List.length_filter_le _ _) h1, fun d hd => h2 d ((List.mem_filter.1 hd).1), h3.filter _⟩

theorem f11_l1_is (m : Memory) (hm : MemV m) (hml : m.Choices.length ≤ 6) (d1 d2 : Deck) (c : Choose) (hc : ChV c) (j : Unit → Option Bool) : ∀ (q p i : Nat) (d : Deck), i + q = 5 → q < p → DeckOK d → f11_l1 n (m, d1) (c, d2) (⟨remL m.Choices c⟩, 0) j p d.L d.At (i : Int) = j () := by
  intro q
  induction q with
  | zero =>
    intro p i d h1 h2 h3
    obtain ⟨p, rfl⟩ : ∃ q, p = q + 1 := ⟨p - 1, by omega⟩
    rw [f11_l1, if_neg (by simp; omega)]
  | succ q ih =>
    intro p i d h1 h2 h3
    obtain ⟨p, rfl⟩ : ∃ q, p = q + 1 := ⟨p - 1, by omega⟩
    obtain ⟨r, e1, a1, a2, a3⟩ := f56_is (n := n) d h3
    obtain ⟨s, e2, b1, b2, b3, b4⟩ := f57_is hn e1 a3
    have hV : MemV ⟨remL m.Choices c⟩ := remL_V hm hc
    have hF := forL_V hV (lookS ⟨remL m.Choices c⟩ r s)
    have hin := lookS_in (m := ⟨remL m.Choices c⟩) (role := r) (set := s)
    have hfo := lookS_forget (remL m.Choices c) (lookS ⟨remL m.Choices c⟩ r s) r s
    have hot := lookS_other (l := m.Choices) (c := c) hm hc hml r s
    rw [f11_l1, if_pos (by simp; omega)]
    simp only [joinK]
    rw [show f56 n (⟨d.L, d.At⟩ : Deck) = some (r, e1) from a1, Option.bind_some]
    dsimp only
    rw [show f57 n (⟨e1.L, e1.At⟩ : Deck) = some (s, e2) from b1, Option.bind_some]
    dsimp only
    rw [f50_V hn hV r s (by omega), Option.bind_some, f59_is hn _ _ hV, Option.bind_some, f50_V hn hF r s (by omega), Option.bind_some, f58_is _ _ (by omega) (by omega), Option.bind_some, f50_V hn hm r s (by omega), Option.bind_some, w64_id (by omega), show (i : Int) + 1 = ((i + 1 : Nat) : Int) by omega, ih _ _ _ (by omega) (by omega) b4, sEq_iff]
    have hot' : r ≠ c.Role → lookS ⟨remL m.Choices c⟩ r s = lookS m r s := hot
    generalize lookS ⟨remL m.Choices c⟩ r s = x at hin hfo hot' ⊢
    have hlast : (if (lookS ⟨forL (remL m.Choices c) x⟩ r s == x) = true then (if (x != 0) = true then some false else j ()) else j ()) = j () := by
      by_cases hx : x = 0
      · rw [if_neg (show ¬ (x != 0) = true by simpa using hx), ite_self]
      · rw [if_neg (by simpa using hfo hx)]
    rw [hlast]
    by_cases hx : x = 0
    · rw [if_neg (by simpa using hx)]
      by_cases hr : r = c.Role
      · rw [if_neg (by simpa using hr)]
      · rw [if_pos (by simpa using hr), if_neg (by simpa using hot' hr)]
    · rw [if_pos (by simpa using hx), decide_eq_true (hin hx), if_neg (by decide)]
      by_cases hr : r = c.Role
      · rw [if_neg (by simpa using hr)]
      · rw [if_pos (by simpa using hr), if_neg (by simpa using hot' hr)]

theorem f11_is (a0 : List Int) (h0 : a0.length ≤ 9223372036854775807) : f11 n a0 = some true := by
  rw [f11, f41_is hn]
  simp only [Option.bind_some, Bool.not_true, Bool.false_eq_true, if_false, joinK]
  obtain ⟨m, d1, e1, e2, e3, e4⟩ := f43_is hn ⟨a0, 0⟩ ⟨Int.le_refl _, by dsimp only; omega, h0⟩
  obtain ⟨c, d2, e5, e6, e7⟩ := f44_is hn d1 e4
  have hV := remL_V (l := m.Choices) e2 e6
  have hl := e6.2.1.2
  rw [f42, Option.bind_some]
  dsimp only
  rw [e1, Option.bind_some]
  dsimp only
  rw [show f44 n (⟨d1.L, d1.At⟩ : Deck) = some (c, d2) from e5, Option.bind_some]
  dsimp only
  rw [show f47 n (⟨m.Choices⟩ : Memory) (⟨c.Role, c.Set, c.Device⟩ : Choose) = some (⟨remL m.Choices c⟩, 0) from f47_V hn e2 e6, Option.bind_some]
  dsimp only
  rw [if_neg (by decide), f50_V hn hV _ _ (by omega), Option.bind_some, lookS_last e2 e6, if_neg (by simp), f45_is hn _ (rolesOK_of hn ((memV_iff _).1 hV).2.1), Option.bind_some, decide_eq_true hV]
  have := f11_l1_is hn m e2 e3 d1 d2 c e6 (fun _ => some true) 5 n 0 d2 (by omega) (by omega) e7
  exact this

end
end Go.Proofs.Ytacdknbakjbpiaa
