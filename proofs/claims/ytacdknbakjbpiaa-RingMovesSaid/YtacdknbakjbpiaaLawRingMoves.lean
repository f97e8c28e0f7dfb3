/-
  The law RingMoves: the row, by the contract of its function.
-/
import Derived.Test.YtacdknbakjbpiaaRows
import Derived.Test.YtacdknbakjbpiaaR3
import Derived.Test.YtacdknbakjbpiaaTw
import Derived.Test.YtacdknbakjbpiaaAb24
import Derived.Test.YtacdknbakjbpiaaHead
import Derived.ProofKit
namespace Go.Proofs.Ytacdknbakjbpiaa.ringMoves
open Go Ab Go.ChangeShapes Go.WideShapes Go.ChangeAt Go.RowKit

theorem set : SetOK tab (fun t => [2, 3, 5, 21, 22, 24, 26, 32].contains t) := by
  intro t h
  simp only [List.contains_iff_mem, List.mem_cons, List.not_mem_nil, or_false] at h
  rcases h with rfl | rfl | rfl | rfl | rfl | rfl | rfl | rfl <;> exact ⟨_, rfl, by decide⟩
theorem contract : ∀ ys, TyAll tab Try.f5.params.toList ys → Ab.Can Try.prog 5 ys H0 (.bool true) H0 := by
  intro ys h
  rw [Try.params5] at h
  obtain ⟨y0, ys, rfl⟩ : ∃ y r, ys = y :: r := by cases ys with | nil => exact h.elim | cons y r => exact ⟨y, r, rfl⟩
  obtain ⟨x0, rfl, w0⟩ := tyS26 _ h.1
  replace h := h.2
  obtain ⟨y1, ys, rfl⟩ : ∃ y r, ys = y :: r := by cases ys with | nil => exact h.elim | cons y r => exact ⟨y, r, rfl⟩
  obtain ⟨x1, rfl, w1⟩ := tyS32 _ h.1
  replace h := h.2
  obtain ⟨y2, ys, rfl⟩ : ∃ y r, ys = y :: r := by cases ys with | nil => exact h.elim | cons y r => exact ⟨y, r, rfl⟩
  obtain ⟨x2, rfl, l2, w2⟩ := tyV_ints h.1 rfl rfl rfl rfl
  have b2 := areBytes_of w2
  replace h := h.2
  obtain ⟨y3, ys, rfl⟩ : ∃ y r, ys = y :: r := by cases ys with | nil => exact h.elim | cons y r => exact ⟨y, r, rfl⟩
  obtain ⟨x3, rfl, w3⟩ := tyV_int h.1 rfl rfl
  replace h := h.2
  obtain ⟨y4, ys, rfl⟩ : ∃ y r, ys = y :: r := by cases ys with | nil => exact h.elim | cons y r => exact ⟨y, r, rfl⟩
  obtain ⟨x4, rfl, w4⟩ := tyV_int h.1 rfl rfl
  replace h := h.2
  obtain ⟨y5, ys, rfl⟩ : ∃ y r, ys = y :: r := by cases ys with | nil => exact h.elim | cons y r => exact ⟨y, r, rfl⟩
  obtain ⟨x5, rfl, w5⟩ := tyV_int h.1 rfl rfl
  replace h := h.2
  obtain rfl : ys = [] := by cases ys with | nil => rfl | cons y r => exact h.elim
  exact g5 (f5_is (n := 10000) (Nat.le_refl _) x0 x1 x2 x3 x4 x5 b2 l2 (i64_rng w3))
set_option maxRecDepth 100000 in
theorem lifted (os : Os) (started : os.Started) (H : Type) (enc : TypeId × Value → H) :
    ReturnsInHanded {} Try.checked os 5 .any (Rows.ringMovesSpec.pre6 enc Try.prog Try.f5 Rows.ringMovesRow.domain false) (Rows.ringMovesSpec.post enc Try.prog Try.f5 false true false false) :=
  law_lifted (C := Try.checked) (D := fun t => [2, 3, 5, 21, 22, 24, 26, 32].contains t) (by kernel_rfl) started (by kernel_rfl) Try.func5
    (ChangeSpec.witness6 (enc := enc) (C := Try.checked) false ⟨#[], #[.agg #[.int .i64 0, .int .i64 0, .int .i64 0, .int .i64 0, .slice none 0 0], .agg #[.int .i64 0, .slice none 0 0], .slice none 0 0, .int .i64 0, .int .i64 0, .int .i64 0], []⟩ 8 (by kernel_rfl) (by kernel_rfl) (by kernel_rfl) (by kernel_rfl))
    tabOK set (by kernel_rfl) (by kernel_rfl) (by kernel_rfl) rfl rfl Try.underlying4 rfl
    (fun ds h => match ds, h with
      | [_, _, _, _, _, _], _ => rfl) contract
theorem facts : joinedFacts Try.pinned.checked.prog 5 Try.f5 Rows.ringMovesSpec Rows.ringMovesRow = true := by
  unfold joinedFacts
  rw [may_enter, lifts_final, make_is]
  kernel_rfl
theorem over : Rows.ringMovesRow.holds Try.pinned (OpenSpec.ofChange Rows.ringMovesSpec) :=
  OpenClaim.holds_of_wide 5 Try.f5 rfl rfl rfl rfl rfl rfl rfl ⟨rfl, rfl, rfl, rfl, rfl⟩ rfl rfl rfl rfl rfl (by kernel_rfl) Try.func5 facts
    (of_decide_eq_true (by kernel_rfl)) (by unfold Func.isWrapper; first | (rw [if_pos (by decide +kernel)]; kernel_rfl) | (rw [if_neg (by decide +kernel)]; exact ⟨rfl, rfl⟩))
    (fun os started H enc _ => lifted os started H enc)
theorem holds : Rows.RingMovesSaid := over
end Go.Proofs.Ytacdknbakjbpiaa.ringMoves
namespace Go.Proofs.Ytacdknbakjbpiaa
/-- The row, under a short name, for the claim. -/
theorem ringMoves_holds : Rows.RingMovesSaid := ringMoves.holds
#print axioms ringMoves_holds
end Go.Proofs.Ytacdknbakjbpiaa
