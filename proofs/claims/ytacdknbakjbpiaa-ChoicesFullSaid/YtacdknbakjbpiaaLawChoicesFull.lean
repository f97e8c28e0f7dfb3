/-
  The law ChoicesFull: the row, by the contract of its function.
-/
import Derived.Test.YtacdknbakjbpiaaRows
import Derived.Test.YtacdknbakjbpiaaC6
import Derived.Test.YtacdknbakjbpiaaAb24
import Derived.Test.YtacdknbakjbpiaaHead
import Derived.ProofKit
namespace Go.Proofs.Ytacdknbakjbpiaa.choicesFull
open Go Ab Go.ChangeShapes Go.WideShapes Go.ChangeAt Go.RowKit

theorem set : SetOK tab (fun t => [3, 51].contains t) := by
  intro t h
  simp only [List.contains_iff_mem, List.mem_cons, List.not_mem_nil, or_false] at h
  rcases h with rfl | rfl <;> exact ⟨_, rfl, by decide⟩
theorem contract : ∀ ys, TyAll tab Try.f9.params.toList ys → Ab.Can Try.prog 9 ys H0 (.bool true) H0 := by
  intro ys h
  rw [Try.params9] at h
  obtain ⟨y0, ys, rfl⟩ : ∃ y r, ys = y :: r := by cases ys with | nil => exact h.elim | cons y r => exact ⟨y, r, rfl⟩
  obtain ⟨x0, rfl, w0⟩ := tyV_int h.1 rfl rfl
  replace h := h.2
  obtain ⟨y1, ys, rfl⟩ : ∃ y r, ys = y :: r := by cases ys with | nil => exact h.elim | cons y r => exact ⟨y, r, rfl⟩
  obtain ⟨x1, rfl, l1, w1⟩ := tyV_ints h.1 rfl rfl rfl rfl
  replace h := h.2
  obtain rfl : ys = [] := by cases ys with | nil => rfl | cons y r => exact h.elim
  exact g9 (f9_is (n := 100000) (Nat.le_refl _) x0 x1 l1)
set_option maxRecDepth 100000 in
theorem lifted (os : Os) (started : os.Started) (H : Type) (enc : TypeId × Value → H) :
    ReturnsInHanded {} Try.checked os 9 .any (Rows.choicesFullSpec.pre6 enc Try.prog Try.f9 Rows.choicesFullRow.domain false) (Rows.choicesFullSpec.post enc Try.prog Try.f9 false true false false) :=
  law_lifted (C := Try.checked) (D := fun t => [3, 51].contains t) (by kernel_rfl) started (by kernel_rfl) Try.func9
    (ChangeSpec.witness6 (enc := enc) (C := Try.checked) false ⟨#[], #[.int .i64 0, .slice none 0 0], []⟩ 8 (by kernel_rfl) (by kernel_rfl) (by kernel_rfl) (by kernel_rfl))
    tabOK set (by kernel_rfl) (by kernel_rfl) (by kernel_rfl) rfl rfl Try.underlying4 rfl
    (fun ds h => match ds, h with
      | [_, _], _ => rfl) contract
theorem facts : joinedFacts Try.pinned.checked.prog 9 Try.f9 Rows.choicesFullSpec Rows.choicesFullRow = true := by
  unfold joinedFacts
  rw [may_enter, lifts_final, make_is]
  kernel_rfl
theorem over : Rows.choicesFullRow.holds Try.pinned (OpenSpec.ofChange Rows.choicesFullSpec) :=
  OpenClaim.holds_of_wide 9 Try.f9 rfl rfl rfl rfl rfl rfl rfl ⟨rfl, rfl, rfl, rfl, rfl⟩ rfl rfl rfl rfl rfl (by kernel_rfl) Try.func9 facts
    (of_decide_eq_true (by kernel_rfl)) (by unfold Func.isWrapper; first | (rw [if_pos (by decide +kernel)]; kernel_rfl) | (rw [if_neg (by decide +kernel)]; exact ⟨rfl, rfl⟩))
    (fun os started H enc _ => lifted os started H enc)
theorem holds : Rows.ChoicesFullSaid := over
end Go.Proofs.Ytacdknbakjbpiaa.choicesFull
namespace Go.Proofs.Ytacdknbakjbpiaa
/-- The row, under a short name, for the claim. -/
theorem choicesFull_holds : Rows.ChoicesFullSaid := choicesFull.holds
#print axioms choicesFull_holds
end Go.Proofs.Ytacdknbakjbpiaa
