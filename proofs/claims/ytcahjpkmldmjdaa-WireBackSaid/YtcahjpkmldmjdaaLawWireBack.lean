/-
  The law WireBack: the row, by the contract of its function.
-/
import Derived.Test.YtcahjpkmldmjdaaRows
import Derived.Test.YtcahjpkmldmjdaaPc
import Derived.Test.YtcahjpkmldmjdaaAb24
import Derived.Test.YtcahjpkmldmjdaaHead
import Derived.ProofKit
namespace Go.Proofs.Ytcahjpkmldmjdaa.wireBack
open Go Ab Go.ChangeShapes Go.WideShapes Go.ChangeAt Go.RowKit

theorem set : SetOK tab (fun t => [5, 9, 22, 26].contains t) := by
  intro t h
  simp only [List.contains_iff_mem, List.mem_cons, List.not_mem_nil, or_false] at h
  rcases h with rfl | rfl | rfl | rfl <;> exact ⟨_, rfl, by decide⟩
theorem contract : ∀ ys, TyAll tab Try.f8.params.toList ys → Ab.Can Try.prog 8 ys H0 (.bool true) H0 := by
  intro ys h
  rw [Try.params8] at h
  obtain ⟨y0, ys, rfl⟩ : ∃ y r, ys = y :: r := by cases ys with | nil => exact h.elim | cons y r => exact ⟨y, r, rfl⟩
  obtain ⟨x0, rfl, l0, w0⟩ := tyV_ints h.1 rfl rfl rfl rfl
  have b0 := areBytes_of w0
  replace h := h.2
  obtain ⟨y1, ys, rfl⟩ : ∃ y r, ys = y :: r := by cases ys with | nil => exact h.elim | cons y r => exact ⟨y, r, rfl⟩
  obtain ⟨x1, rfl, w1⟩ := tyV_int h.1 rfl rfl
  replace h := h.2
  obtain ⟨y2, ys, rfl⟩ : ∃ y r, ys = y :: r := by cases ys with | nil => exact h.elim | cons y r => exact ⟨y, r, rfl⟩
  obtain ⟨x2, rfl, l2⟩ := tyV_str h.1 rfl rfl
  replace h := h.2
  obtain ⟨y3, ys, rfl⟩ : ∃ y r, ys = y :: r := by cases ys with | nil => exact h.elim | cons y r => exact ⟨y, r, rfl⟩
  obtain ⟨x3, rfl, l3, w3⟩ := tyV_ints h.1 rfl rfl rfl rfl
  have b3 := areBytes_of w3
  replace h := h.2
  obtain rfl : ys = [] := by cases ys with | nil => rfl | cons y r => exact h.elim
  exact g8 (f8_is (n := 1000) (Nat.le_refl _) x0 b0 x1 (u64_of w1) x2 x3 b3)
set_option maxRecDepth 100000 in
theorem lifted (os : Os) (started : os.Started) (H : Type) (enc : TypeId × Value → H) :
    ReturnsInHanded {} Try.checked os 8 .any (Rows.wireBackSpec.pre6 enc Try.prog Try.f8 Rows.wireBackRow.domain false) (Rows.wireBackSpec.post enc Try.prog Try.f8 false true false false) :=
  law_lifted (C := Try.checked) (D := fun t => [5, 9, 22, 26].contains t) (by kernel_rfl) started (by kernel_rfl) Try.func8
    (ChangeSpec.witness6 (enc := enc) (C := Try.checked) false ⟨#[], #[.slice none 0 0, .int .u64 0, .string ByteArray.empty, .slice none 0 0], []⟩ 8 (by kernel_rfl) (by kernel_rfl) (by kernel_rfl) (by kernel_rfl))
    tabOK set (by kernel_rfl) (by kernel_rfl) (by kernel_rfl) rfl rfl Try.underlying4 rfl
    (fun ds h => match ds, h with
      | [_, _, _, _], _ => rfl) contract
theorem facts : joinedFacts Try.pinned.checked.prog 8 Try.f8 Rows.wireBackSpec Rows.wireBackRow = true := by
  unfold joinedFacts
  rw [may_enter, lifts_final, make_is]
  kernel_rfl
theorem over : Rows.wireBackRow.holds Try.pinned (OpenSpec.ofChange Rows.wireBackSpec) :=
  OpenClaim.holds_of_wide 8 Try.f8 rfl rfl rfl rfl rfl rfl rfl ⟨rfl, rfl, rfl, rfl, rfl⟩ rfl rfl rfl rfl rfl (by kernel_rfl) Try.func8 facts
    (of_decide_eq_true (by kernel_rfl)) (by unfold Func.isWrapper; first | (rw [if_pos (by decide +kernel)]; kernel_rfl) | (rw [if_neg (by decide +kernel)]; exact ⟨rfl, rfl⟩))
    (fun os started H enc _ => lifted os started H enc)
theorem holds : Rows.WireBackSaid := over
end Go.Proofs.Ytcahjpkmldmjdaa.wireBack
namespace Go.Proofs.Ytcahjpkmldmjdaa
/-- The row, under a short name, for the claim. -/
theorem wireBack_holds : Rows.WireBackSaid := wireBack.holds
#print axioms wireBack_holds
end Go.Proofs.Ytcahjpkmldmjdaa
