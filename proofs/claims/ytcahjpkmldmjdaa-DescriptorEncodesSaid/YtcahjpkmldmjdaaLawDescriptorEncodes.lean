/-
  The law DescriptorEncodes: the row, by the contract of its function.
-/
import Derived.Test.YtcahjpkmldmjdaaRows
import Derived.Test.YtcahjpkmldmjdaaS20
import Derived.Test.YtcahjpkmldmjdaaTw
import Derived.Test.YtcahjpkmldmjdaaAb24
import Derived.Test.YtcahjpkmldmjdaaHead
import Derived.ProofKit
namespace Go.Proofs.Ytcahjpkmldmjdaa.descriptorEncodes
open Go Ab Go.ChangeShapes Go.WideShapes Go.ChangeAt Go.RowKit

theorem set : SetOK tab (fun t => [3, 5, 9, 22, 26, 51, 53, 59, 89, 91, 92, 94, 124].contains t) := by
  intro t h
  simp only [List.contains_iff_mem, List.mem_cons, List.not_mem_nil, or_false] at h
  rcases h with rfl | rfl | rfl | rfl | rfl | rfl | rfl | rfl | rfl | rfl | rfl | rfl | rfl <;> exact ⟨_, rfl, by decide⟩
theorem contract : ∀ ys, TyAll tab Try.f14.params.toList ys → Ab.Can Try.prog 14 ys H0 (.bool true) H0 := by
  intro ys h
  rw [Try.params14] at h
  obtain ⟨y0, ys, rfl⟩ : ∃ y r, ys = y :: r := by cases ys with | nil => exact h.elim | cons y r => exact ⟨y, r, rfl⟩
  obtain ⟨x0, rfl, w0⟩ := tyS53 _ h.1
  replace h := h.2
  obtain ⟨y1, ys, rfl⟩ : ∃ y r, ys = y :: r := by cases ys with | nil => exact h.elim | cons y r => exact ⟨y, r, rfl⟩
  obtain ⟨x1, rfl, l1, w1⟩ := tyV_ints h.1 rfl rfl rfl rfl
  have b1 := areBytes_of w1
  replace h := h.2
  obtain ⟨y2, ys, rfl⟩ : ∃ y r, ys = y :: r := by cases ys with | nil => exact h.elim | cons y r => exact ⟨y, r, rfl⟩
  obtain ⟨x2, rfl, w2⟩ := tyV_int h.1 rfl rfl
  replace h := h.2
  obtain ⟨y3, ys, rfl⟩ : ∃ y r, ys = y :: r := by cases ys with | nil => exact h.elim | cons y r => exact ⟨y, r, rfl⟩
  obtain ⟨x3, rfl, w3⟩ := tyV_int h.1 rfl rfl
  replace h := h.2
  obtain rfl : ys = [] := by cases ys with | nil => rfl | cons y r => exact h.elim
  exact g14 (f14_is x0 x1 x2 x3 b1 l1 (u8_of w3))
set_option maxRecDepth 100000 in
theorem lifted (os : Os) (started : os.Started) (H : Type) (enc : TypeId × Value → H) :
    ReturnsInHanded {} Try.checked os 14 .any (Rows.descriptorEncodesSpec.pre6 enc Try.prog Try.f14 Rows.descriptorEncodesRow.domain false) (Rows.descriptorEncodesSpec.post enc Try.prog Try.f14 false true false false) :=
  law_lifted (C := Try.checked) (D := fun t => [3, 5, 9, 22, 26, 51, 53, 59, 89, 91, 92, 94, 124].contains t) (by kernel_rfl) started (by kernel_rfl) Try.func14
    (ChangeSpec.witness6 (enc := enc) (C := Try.checked) false ⟨#[], #[.agg #[.int .u64 0, .string ByteArray.empty, .int .i64 0, .int .i64 0, .int .i64 0, .int .i64 0, .int .i64 0, .slice none 0 0], .slice none 0 0, .int .u8 0, .int .u8 0], []⟩ 8 (by kernel_rfl) (by kernel_rfl) (by kernel_rfl) (by kernel_rfl))
    tabOK set (by kernel_rfl) (by kernel_rfl) (by kernel_rfl) rfl rfl Try.underlying4 rfl
    (fun ds h => match ds, h with
      | [_, _, _, _], _ => rfl) contract
theorem facts : joinedFacts Try.pinned.checked.prog 14 Try.f14 Rows.descriptorEncodesSpec Rows.descriptorEncodesRow = true := by
  unfold joinedFacts
  rw [may_enter, lifts_final, make_is]
  kernel_rfl
theorem over : Rows.descriptorEncodesRow.holds Try.pinned (OpenSpec.ofChange Rows.descriptorEncodesSpec) :=
  OpenClaim.holds_of_wide 14 Try.f14 rfl rfl rfl rfl rfl rfl rfl ⟨rfl, rfl, rfl, rfl, rfl⟩ rfl rfl rfl rfl rfl (by kernel_rfl) Try.func14 facts
    (of_decide_eq_true (by kernel_rfl)) (by unfold Func.isWrapper; first | (rw [if_pos (by decide +kernel)]; kernel_rfl) | (rw [if_neg (by decide +kernel)]; exact ⟨rfl, rfl⟩))
    (fun os started H enc _ => lifted os started H enc)
theorem holds : Rows.DescriptorEncodesSaid := over
end Go.Proofs.Ytcahjpkmldmjdaa.descriptorEncodes
namespace Go.Proofs.Ytcahjpkmldmjdaa
/-- The row, under a short name, for the claim. -/
theorem descriptorEncodes_holds : Rows.DescriptorEncodesSaid := descriptorEncodes.holds
#print axioms descriptorEncodes_holds
end Go.Proofs.Ytcahjpkmldmjdaa
