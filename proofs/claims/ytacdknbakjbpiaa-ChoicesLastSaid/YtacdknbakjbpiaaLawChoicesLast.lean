/-
  The law ChoicesLast: the row, by the contract of its function.
-/
import Derived.Test.YtacdknbakjbpiaaRows
import Derived.Test.YtacdknbakjbpiaaC7
import Derived.Test.YtacdknbakjbpiaaAb24
import Derived.Test.YtacdknbakjbpiaaHead
import Derived.ProofKit
namespace Go.Proofs.Ytacdknbakjbpiaa.choicesLast
open Go Ab Go.ChangeShapes Go.WideShapes Go.ChangeAt Go.RowKit

theorem set : SetOK tab (fun t => [3, 51].contains t) := by
  intro t h
  simp only [List.contains_iff_mem, List.mem_cons, List.not_mem_nil, or_false] at h
  rcases h with rfl | rfl <;> exact ⟨_, rfl, by decide⟩
theorem contract : ∀ ys, TyAll tab Try.f11.params.toList ys → Ab.Can Try.prog 11 ys H0 (.bool true) H0 := by
  intro ys h
  rw [Try.params11] at h
  obtain ⟨y0, ys, rfl⟩ : ∃ y r, ys = y :: r := by cases ys with | nil => exact h.elim | cons y r => exact ⟨y, r, rfl⟩
  obtain ⟨x0, rfl, l0, w0⟩ := tyV_ints h.1 rfl rfl rfl rfl
  replace h := h.2
  obtain rfl : ys = [] := by cases ys with | nil => rfl | cons y r => exact h.elim
  exact g11 (f11_is (n := 100000) (Nat.le_refl _) x0 l0)
set_option maxRecDepth 100000 in
theorem lifted (os : Os) (started : os.Started) (H : Type) (enc : TypeId × Value → H) :
    ReturnsInHanded {} Try.checked os 11 .any (Rows.choicesLastSpec.pre6 enc Try.prog Try.f11 Rows.choicesLastRow.domain false) (Rows.choicesLastSpec.post enc Try.prog Try.f11 false true false false) :=
  law_lifted (C := Try.checked) (D := fun t => [3, 51].contains t) (by kernel_rfl) started (by kernel_rfl) Try.func11
    (ChangeSpec.witness6 (enc := enc) (C := Try.checked) false ⟨#[], #[.slice none 0 0], []⟩ 8 (by kernel_rfl) (by kernel_rfl) (by kernel_rfl) (by kernel_rfl))
    tabOK set (by kernel_rfl) (by kernel_rfl) (by kernel_rfl) rfl rfl Try.underlying4 rfl
    (fun ds h => match ds, h with
      | [_], _ => rfl) contract
theorem facts : joinedFacts Try.pinned.checked.prog 11 Try.f11 Rows.choicesLastSpec Rows.choicesLastRow = true := by
  unfold joinedFacts
  rw [may_enter, lifts_final, make_is]
  kernel_rfl
theorem over : Rows.choicesLastRow.holds Try.pinned (OpenSpec.ofChange Rows.choicesLastSpec) :=
  OpenClaim.holds_of_wide 11 Try.f11 rfl rfl rfl rfl rfl rfl rfl ⟨rfl, rfl, rfl, rfl, rfl⟩ rfl rfl rfl rfl rfl (by kernel_rfl) Try.func11 facts
    (of_decide_eq_true (by kernel_rfl)) (by unfold Func.isWrapper; first | (rw [if_pos (by decide +kernel)]; kernel_rfl) | (rw [if_neg (by decide +kernel)]; exact ⟨rfl, rfl⟩))
    (fun os started H enc _ => lifted os started H enc)
theorem holds : Rows.ChoicesLastSaid := over
end Go.Proofs.Ytacdknbakjbpiaa.choicesLast
namespace Go.Proofs.Ytacdknbakjbpiaa
/-- The row, under a short name, for the claim. -/
theorem choicesLast_holds : Rows.ChoicesLastSaid := choicesLast.holds
#print axioms choicesLast_holds
end Go.Proofs.Ytacdknbakjbpiaa
