/-
  Abstract values for walks without memory: what values of a type look like.
-/
import Derived.Test.YtcahjpkmldmjdaaAb21
import Derived.Test.YtcahjpkmldmjdaaAb23
namespace Go.Proofs.Ytcahjpkmldmjdaa.Ab
open Go

section
variable {tab : Tab}

theorem tyV_int {t : Nat} {y : PV} {i : TI} {k : IntKind} (h : TyV tab t y) (hi : tab t = some i) (hd : i.desc = .int k) : ∃ n, y = .int k n ∧ (Lit.int k n).wf = true := by
  obtain ⟨hty, j, hj, hc⟩ := h
  rw [hi] at hj; cases hj
  have hcell : y.isCell = true := by rw [hc, hd]; rfl
  have hy : y.cells = [y] := by cases y <;> first | rfl | (simp [PV.isCell] at hcell)
  rw [hy] at hty
  generalize hl : [y] = l at hty
  cases hty with
  | int h' hd' hw => rw [hi] at h'; cases h'; rw [hd] at hd'; cases hd'; cases hl; exact ⟨_, rfl, hw⟩
  | bool h' hd' => rw [hi] at h'; cases h'; rw [hd] at hd'; cases hd'
  | str h' hd' _ => rw [hi] at h'; cases h'; rw [hd] at hd'; cases hd'
  | sl h' hd' _ _ _ _ => rw [hi] at h'; cases h'; rw [hd] at hd'; cases hd'
  | struct h' hd' _ => rw [hi] at h'; cases h'; rw [hd] at hd'; cases hd'
  | array h' hd' _ => rw [hi] at h'; cases h'; rw [hd] at hd'; cases hd'

theorem tyV_bool {t : Nat} {y : PV} {i : TI} (h : TyV tab t y) (hi : tab t = some i) (hd : i.desc = .bool) : ∃ b, y = .bool b := by
  obtain ⟨hty, j, hj, hc⟩ := h
  rw [hi] at hj; cases hj
  have hcell : y.isCell = true := by rw [hc, hd]; rfl
  have hy : y.cells = [y] := by cases y <;> first | rfl | (simp [PV.isCell] at hcell)
  rw [hy] at hty
  generalize hl : [y] = l at hty
  cases hty with
  | int h' hd' hw => rw [hi] at h'; cases h'; rw [hd] at hd'; cases hd'
  | bool h' hd' => cases hl; exact ⟨_, rfl⟩
  | str h' hd' _ => rw [hi] at h'; cases h'; rw [hd] at hd'; cases hd'
  | sl h' hd' _ _ _ _ => rw [hi] at h'; cases h'; rw [hd] at hd'; cases hd'
  | struct h' hd' _ => rw [hi] at h'; cases h'; rw [hd] at hd'; cases hd'
  | array h' hd' _ => rw [hi] at h'; cases h'; rw [hd] at hd'; cases hd'

theorem tyV_str {t : Nat} {y : PV} {i : TI} (h : TyV tab t y) (hi : tab t = some i) (hd : i.desc = .str) : ∃ s, y = .str s ∧ s.size ≤ maxLen := by
  obtain ⟨hty, j, hj, hc⟩ := h
  rw [hi] at hj; cases hj
  have hcell : y.isCell = true := by rw [hc, hd]; rfl
  have hy : y.cells = [y] := by cases y <;> first | rfl | (simp [PV.isCell] at hcell)
  rw [hy] at hty
  generalize hl : [y] = l at hty
  cases hty with
  | int h' hd' hw => rw [hi] at h'; cases h'; rw [hd] at hd'; cases hd'
  | bool h' hd' => rw [hi] at h'; cases h'; rw [hd] at hd'; cases hd'
  | str h' hd' hs => cases hl; exact ⟨_, rfl, hs⟩
  | sl h' hd' _ _ _ _ => rw [hi] at h'; cases h'; rw [hd] at hd'; cases hd'
  | struct h' hd' _ => rw [hi] at h'; cases h'; rw [hd] at hd'; cases hd'
  | array h' hd' _ => rw [hi] at h'; cases h'; rw [hd] at hd'; cases hd'

theorem tyV_sl {t e : Nat} {y : PV} {i : TI} (h : TyV tab t y) (hi : tab t = some i) (hd : i.desc = .slice e) : ∃ xs, y = .sl e .ro xs ∧ xs.length ≤ maxLen ∧ ∀ x ∈ xs, TyV tab e x := by
  obtain ⟨hty, j, hj, hc⟩ := h
  rw [hi] at hj; cases hj
  have hcell : y.isCell = true := by rw [hc, hd]; rfl
  have hy : y.cells = [y] := by cases y <;> first | rfl | (simp [PV.isCell] at hcell)
  rw [hy] at hty
  generalize hl : [y] = l at hty
  cases hty with
  | int h' hd' hw => rw [hi] at h'; cases h'; rw [hd] at hd'; cases hd'
  | bool h' hd' => rw [hi] at h'; cases h'; rw [hd] at hd'; cases hd'
  | str h' hd' hs => rw [hi] at h'; cases h'; rw [hd] at hd'; cases hd'
  | sl h' hd' he hx hs hl' =>
    rw [hi] at h'; cases h'; rw [hd] at hd'; cases hd'; cases hl
    refine ⟨_, rfl, hl', fun x hxm => ?_⟩
    obtain ⟨q, hq⟩ := List.mem_iff_getElem?.1 hxm
    exact ⟨hx q x hq, _, he, hs q x hq⟩
  | struct h' hd' _ => rw [hi] at h'; cases h'; rw [hd] at hd'; cases hd'
  | array h' hd' _ => rw [hi] at h'; cases h'; rw [hd] at hd'; cases hd'

theorem ints_of {e : Nat} {k : IntKind} {i : TI} (hi : tab e = some i) (hd : i.desc = .int k) : ∀ (xs : List PV), (∀ x ∈ xs, TyV tab e x) → ∃ ns : List Int, xs = ns.map (PV.int k) ∧ ∀ n ∈ ns, (Lit.int k n).wf = true
  | [], _ => ⟨[], rfl, fun n h => by cases h⟩
  | x :: xs, h => by
    obtain ⟨n, rfl, hn⟩ := tyV_int (h x (.head _)) hi hd
    obtain ⟨ns, rfl, hns⟩ := ints_of hi hd xs fun y hy => h y (.tail _ hy)
    refine ⟨n :: ns, rfl, fun m hm => ?_⟩
    rcases List.mem_cons.1 hm with rfl | hm
    · exact hn
    · exact hns m hm

theorem tyV_ints {t e : Nat} {y : PV} {i j : TI} {k : IntKind} (h : TyV tab t y) (hi : tab t = some i) (hd : i.desc = .slice e) (hj : tab e = some j) (hk : j.desc = .int k) :
    ∃ ns : List Int, y = .sl e .ro (ns.map (PV.int k)) ∧ ns.length ≤ maxLen ∧ ∀ n ∈ ns, (Lit.int k n).wf = true := by
  obtain ⟨xs, rfl, hl, hx⟩ := tyV_sl h hi hd
  obtain ⟨ns, rfl, hns⟩ := ints_of hj hk xs hx
  exact ⟨ns, rfl, by simpa using hl, hns⟩

theorem areBytes_of {ns : List Int} (h : ∀ n ∈ ns, (Lit.int .u8 n).wf = true) : AreBytes ns := by
  intro n hn
  have := h n hn
  simp [Lit.wf, IntKind.min, IntKind.max, IntKind.signed, IntKind.bits] at this
  omega

end
end Go.Proofs.Ytcahjpkmldmjdaa.Ab
