/-
  The law ChoicesRemember: the row, by the contract of its function.
-/
import Derived.Test.YtacdknbakjbpiaaRows
import Derived.Test.YtacdknbakjbpiaaC5
import Derived.Test.YtacdknbakjbpiaaTw
import Derived.Test.YtacdknbakjbpiaaAb24
import Derived.Test.YtacdknbakjbpiaaHead
import Derived.ProofKit
namespace Go.Proofs.Ytacdknbakjbpiaa.choicesRemember
open Go Ab Go.ChangeShapes Go.WideShapes Go.ChangeAt Go.RowKit

theorem set : SetOK tab (fun t => [3, 9, 51, 67, 69, 70, 71, 73].contains t) := by
  intro t h
  simp only [List.contains_iff_mem, List.mem_cons, List.not_mem_nil, or_false] at h
  rcases h with rfl | rfl | rfl | rfl | rfl | rfl | rfl | rfl <;> exact ⟨_, rfl, by decide⟩
theorem contract : ∀ ys, TyAll tab Try.f8.params.toList ys → Ab.Can Try.prog 8 ys H0 (.bool true) H0 := by
  intro ys h
  rw [Try.params8] at h
  obtain ⟨y0, ys, rfl⟩ : ∃ y r, ys = y :: r := by cases ys with | nil => exact h.elim | cons y r => exact ⟨y, r, rfl⟩
  obtain ⟨x0, rfl, l0, w0⟩ := tyV_ints h.1 rfl rfl rfl rfl
  replace h := h.2
  obtain ⟨y1, ys, rfl⟩ : ∃ y r, ys = y :: r := by cases ys with | nil => exact h.elim | cons y r => exact ⟨y, r, rfl⟩
  obtain ⟨x1, rfl, w1⟩ := tyS69 _ h.1
  replace h := h.2
  obtain ⟨y2, ys, rfl⟩ : ∃ y r, ys = y :: r := by cases ys with | nil => exact h.elim | cons y r => exact ⟨y, r, rfl⟩
  obtain ⟨x2, rfl, w2⟩ := tyS73 _ h.1
  replace h := h.2
  obtain rfl : ys = [] := by cases ys with | nil => rfl | cons y r => exact h.elim
  exact g8 (f8_is (n := 9223372036854775808) (by decide) x0 x1 x2 l0 (fun c hc => by have := (w1.2 c hc).1; simp only [maxLen] at this; omega) (by have := w2.1; simp only [maxLen] at this; omega))
set_option maxRecDepth 100000 in
theorem lifted (os : Os) (started : os.Started) (H : Type) (enc : TypeId × Value → H) :
    ReturnsInHanded {} Try.checked os 8 .any (Rows.choicesRememberSpec.pre6 enc Try.prog Try.f8 Rows.choicesRememberRow.domain false) (Rows.choicesRememberSpec.post enc Try.prog Try.f8 false true false false) :=
  law_lifted (C := Try.checked) (D := fun t => [3, 9, 51, 67, 69, 70, 71, 73].contains t) (by kernel_rfl) started (by kernel_rfl) Try.func8
    (ChangeSpec.witness6 (enc := enc) (C := Try.checked) false ⟨#[], #[.slice none 0 0, .agg #[.slice none 0 0], .agg #[.string ByteArray.empty, .slice none 0 0, .int .u64 0]], []⟩ 8 (by kernel_rfl) (by kernel_rfl) (by kernel_rfl) (by kernel_rfl))
    tabOK set (by kernel_rfl) (by kernel_rfl) (by kernel_rfl) rfl rfl Try.underlying4 rfl
    (fun ds h => match ds, h with
      | [_, _, _], _ => rfl) contract
theorem facts : joinedFacts Try.pinned.checked.prog 8 Try.f8 Rows.choicesRememberSpec Rows.choicesRememberRow = true := by
  unfold joinedFacts
  rw [may_enter, lifts_final, make_is]
  kernel_rfl
theorem over : Rows.choicesRememberRow.holds Try.pinned (OpenSpec.ofChange Rows.choicesRememberSpec) :=
  OpenClaim.holds_of_wide 8 Try.f8 rfl rfl rfl rfl rfl rfl rfl ⟨rfl, rfl, rfl, rfl, rfl⟩ rfl rfl rfl rfl rfl (by kernel_rfl) Try.func8 facts
    (of_decide_eq_true (by kernel_rfl)) (by unfold Func.isWrapper; first | (rw [if_pos (by decide +kernel)]; kernel_rfl) | (rw [if_neg (by decide +kernel)]; exact ⟨rfl, rfl⟩))
    (fun os started H enc _ => lifted os started H enc)
theorem holds : Rows.ChoicesRememberSaid := over
end Go.Proofs.Ytacdknbakjbpiaa.choicesRemember
namespace Go.Proofs.Ytacdknbakjbpiaa
/-- The row, under a short name, for the claim. -/
theorem choicesRemember_holds : Rows.ChoicesRememberSaid := choicesRemember.holds
#print axioms choicesRemember_holds
end Go.Proofs.Ytacdknbakjbpiaa
