/-
  The law DescriptorBack: the row, by the contract of its function.
-/
import Derived.Test.YtcahjpkmldmjdaaRows
import Derived.Test.YtcahjpkmldmjdaaS19
import Derived.Test.YtcahjpkmldmjdaaAb24
import Derived.Test.YtcahjpkmldmjdaaHead
import Derived.ProofKit
namespace Go.Proofs.Ytcahjpkmldmjdaa.descriptorBack
open Go Ab Go.ChangeShapes Go.WideShapes Go.ChangeAt Go.RowKit

theorem set : SetOK tab (fun t => [5, 22, 29].contains t) := by
  intro t h
  simp only [List.contains_iff_mem, List.mem_cons, List.not_mem_nil, or_false] at h
  rcases h with rfl | rfl | rfl <;> exact ⟨_, rfl, by decide⟩
theorem contract : ∀ ys, TyAll tab Try.f16.params.toList ys → Ab.Can Try.prog 16 ys H0 (.bool true) H0 := by
  intro ys h
  rw [Try.params16] at h
  obtain ⟨y0, ys, rfl⟩ : ∃ y r, ys = y :: r := by cases ys with | nil => exact h.elim | cons y r => exact ⟨y, r, rfl⟩
  obtain ⟨x0, rfl, l0, w0⟩ := tyV_ints h.1 rfl rfl rfl rfl
  have b0 := areBytes_of w0
  replace h := h.2
  obtain ⟨y1, ys, rfl⟩ : ∃ y r, ys = y :: r := by cases ys with | nil => exact h.elim | cons y r => exact ⟨y, r, rfl⟩
  obtain ⟨x1, rfl, w1⟩ := tyV_int h.1 rfl rfl
  replace h := h.2
  obtain ⟨y2, ys, rfl⟩ : ∃ y r, ys = y :: r := by cases ys with | nil => exact h.elim | cons y r => exact ⟨y, r, rfl⟩
  obtain ⟨x2, rfl, w2⟩ := tyV_int h.1 rfl rfl
  replace h := h.2
  obtain rfl : ys = [] := by cases ys with | nil => rfl | cons y r => exact h.elim
  exact g16 (f16_is x0 x1 x2 b0 l0 (u16_of w1) (u8_of w2))
set_option maxRecDepth 100000 in
theorem lifted (os : Os) (started : os.Started) (H : Type) (enc : TypeId × Value → H) :
    ReturnsInHanded {} Try.checked os 16 .any (Rows.descriptorBackSpec.pre6 enc Try.prog Try.f16 Rows.descriptorBackRow.domain false) (Rows.descriptorBackSpec.post enc Try.prog Try.f16 false true false false) :=
  law_lifted (C := Try.checked) (D := fun t => [5, 22, 29].contains t) (by kernel_rfl) started (by kernel_rfl) Try.func16
    (ChangeSpec.witness6 (enc := enc) (C := Try.checked) false ⟨#[], #[.slice none 0 0, .int .u16 0, .int .u8 0], []⟩ 8 (by kernel_rfl) (by kernel_rfl) (by kernel_rfl) (by kernel_rfl))
    tabOK set (by kernel_rfl) (by kernel_rfl) (by kernel_rfl) rfl rfl Try.underlying4 rfl
    (fun ds h => match ds, h with
      | [_, _, _], _ => rfl) contract
theorem facts : joinedFacts Try.pinned.checked.prog 16 Try.f16 Rows.descriptorBackSpec Rows.descriptorBackRow = true := by
  unfold joinedFacts
  rw [may_enter, lifts_final, make_is]
  kernel_rfl
theorem over : Rows.descriptorBackRow.holds Try.pinned (OpenSpec.ofChange Rows.descriptorBackSpec) :=
  OpenClaim.holds_of_wide 16 Try.f16 rfl rfl rfl rfl rfl rfl rfl ⟨rfl, rfl, rfl, rfl, rfl⟩ rfl rfl rfl rfl rfl (by kernel_rfl) Try.func16 facts
    (of_decide_eq_true (by kernel_rfl)) (by unfold Func.isWrapper; first | (rw [if_pos (by decide +kernel)]; kernel_rfl) | (rw [if_neg (by decide +kernel)]; exact ⟨rfl, rfl⟩))
    (fun os started H enc _ => lifted os started H enc)
theorem holds : Rows.DescriptorBackSaid := over
end Go.Proofs.Ytcahjpkmldmjdaa.descriptorBack
namespace Go.Proofs.Ytcahjpkmldmjdaa
/-- The row, under a short name, for the claim. -/
theorem descriptorBack_holds : Rows.DescriptorBackSaid := descriptorBack.holds
#print axioms descriptorBack_holds
end Go.Proofs.Ytcahjpkmldmjdaa
