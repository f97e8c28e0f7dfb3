/-
  Abstract values for walks without memory: what structs of a type look like.
-/
import Derived.Test.YtcahjpkmldmjdaaAb24
namespace Go.Proofs.Ytcahjpkmldmjdaa.Ab
open Go

section
variable {tab : Tab}

mutual
theorem Ty.noTup {t : Nat} {cs : List PV} : Ty tab t cs → ∀ y ∈ cs, ∀ vs, y ≠ .tup vs
  | .int _ _ _, y, hy, vs => by simp at hy; subst hy; simp
  | .bool _ _, y, hy, vs => by simp at hy; subst hy; simp
  | .str _ _ _, y, hy, vs => by simp at hy; subst hy; simp
  | .sl _ _ _ _ _ _, y, hy, vs => by simp at hy; subst hy; simp
  | .struct _ _ hf, y, hy, vs => TyL.noTup hf y hy vs
  | .array _ _ hf, y, hy, vs => TyL.noTup hf y hy vs
theorem TyL.noTup {ts : List Nat} {cs : List PV} : TyL tab ts cs → ∀ y ∈ cs, ∀ vs, y ≠ .tup vs
  | .nil, y, hy, vs => by cases hy
  | .cons h hl, y, hy, vs => by
    rcases List.mem_append.1 hy with hy | hy
    · exact Ty.noTup h y hy vs
    · exact TyL.noTup hl y hy vs
end

theorem ty_struct {t : Nat} {cs : List PV} {i : TI} {fs : List (Nat × Nat)} (h : Ty tab t cs) (hi : tab t = some i) (hd : i.desc = .struct fs) : TyL tab (fs.map (·.2)) cs := by
  cases h with
  | int h' hd' _ => rw [hi] at h'; cases h'; rw [hd] at hd'; cases hd'
  | bool h' hd' => rw [hi] at h'; cases h'; rw [hd] at hd'; cases hd'
  | str h' hd' _ => rw [hi] at h'; cases h'; rw [hd] at hd'; cases hd'
  | sl h' hd' _ _ _ _ => rw [hi] at h'; cases h'; rw [hd] at hd'; cases hd'
  | struct h' hd' hf => rw [hi] at h'; cases h'; rw [hd] at hd'; cases hd'; exact hf
  | array h' hd' _ => rw [hi] at h'; cases h'; rw [hd] at hd'; cases hd'

theorem ty_array {t : Nat} {cs : List PV} {i : TI} {n e : Nat} (h : Ty tab t cs) (hi : tab t = some i) (hd : i.desc = .array n e) : TyL tab (List.replicate n e) cs := by
  cases h with
  | int h' hd' _ => rw [hi] at h'; cases h'; rw [hd] at hd'; cases hd'
  | bool h' hd' => rw [hi] at h'; cases h'; rw [hd] at hd'; cases hd'
  | str h' hd' _ => rw [hi] at h'; cases h'; rw [hd] at hd'; cases hd'
  | sl h' hd' _ _ _ _ => rw [hi] at h'; cases h'; rw [hd] at hd'; cases hd'
  | struct h' hd' _ => rw [hi] at h'; cases h'; rw [hd] at hd'; cases hd'
  | array h' hd' hf => rw [hi] at h'; cases h'; rw [hd] at hd'; cases hd'; exact hf

theorem ty_int {t : Nat} {cs : List PV} {i : TI} {k : IntKind} (h : Ty tab t cs) (hi : tab t = some i) (hd : i.desc = .int k) : ∃ n, cs = [.int k n] ∧ (Lit.int k n).wf = true := by
  cases h with
  | int h' hd' hw => rw [hi] at h'; cases h'; rw [hd] at hd'; cases hd'; exact ⟨_, rfl, hw⟩
  | bool h' hd' => rw [hi] at h'; cases h'; rw [hd] at hd'; cases hd'
  | str h' hd' _ => rw [hi] at h'; cases h'; rw [hd] at hd'; cases hd'
  | sl h' hd' _ _ _ _ => rw [hi] at h'; cases h'; rw [hd] at hd'; cases hd'
  | struct h' hd' _ => rw [hi] at h'; cases h'; rw [hd] at hd'; cases hd'
  | array h' hd' _ => rw [hi] at h'; cases h'; rw [hd] at hd'; cases hd'

theorem ty_bool {t : Nat} {cs : List PV} {i : TI} (h : Ty tab t cs) (hi : tab t = some i) (hd : i.desc = .bool) : ∃ b, cs = [.bool b] := by
  cases h with
  | int h' hd' _ => rw [hi] at h'; cases h'; rw [hd] at hd'; cases hd'
  | bool h' hd' => exact ⟨_, rfl⟩
  | str h' hd' _ => rw [hi] at h'; cases h'; rw [hd] at hd'; cases hd'
  | sl h' hd' _ _ _ _ => rw [hi] at h'; cases h'; rw [hd] at hd'; cases hd'
  | struct h' hd' _ => rw [hi] at h'; cases h'; rw [hd] at hd'; cases hd'
  | array h' hd' _ => rw [hi] at h'; cases h'; rw [hd] at hd'; cases hd'

theorem ty_str {t : Nat} {cs : List PV} {i : TI} (h : Ty tab t cs) (hi : tab t = some i) (hd : i.desc = .str) : ∃ s, cs = [.str s] ∧ s.size ≤ maxLen := by
  cases h with
  | int h' hd' _ => rw [hi] at h'; cases h'; rw [hd] at hd'; cases hd'
  | bool h' hd' => rw [hi] at h'; cases h'; rw [hd] at hd'; cases hd'
  | str h' hd' hs => exact ⟨_, rfl, hs⟩
  | sl h' hd' _ _ _ _ => rw [hi] at h'; cases h'; rw [hd] at hd'; cases hd'
  | struct h' hd' _ => rw [hi] at h'; cases h'; rw [hd] at hd'; cases hd'
  | array h' hd' _ => rw [hi] at h'; cases h'; rw [hd] at hd'; cases hd'

theorem ty_sl {t e : Nat} {cs : List PV} {i : TI} (h : Ty tab t cs) (hi : tab t = some i) (hd : i.desc = .slice e) : ∃ xs, cs = [.sl e .ro xs] ∧ xs.length ≤ maxLen ∧ ∀ x ∈ xs, TyV tab e x := by
  cases h with
  | int h' hd' _ => rw [hi] at h'; cases h'; rw [hd] at hd'; cases hd'
  | bool h' hd' => rw [hi] at h'; cases h'; rw [hd] at hd'; cases hd'
  | str h' hd' _ => rw [hi] at h'; cases h'; rw [hd] at hd'; cases hd'
  | sl h' hd' he hx hs hl =>
    rw [hi] at h'; cases h'; rw [hd] at hd'; cases hd'
    refine ⟨_, rfl, hl, fun x hxm => ?_⟩
    obtain ⟨q, hq⟩ := List.mem_iff_getElem?.1 hxm
    exact ⟨hx q x hq, _, he, hs q x hq⟩
  | struct h' hd' _ => rw [hi] at h'; cases h'; rw [hd] at hd'; cases hd'
  | array h' hd' _ => rw [hi] at h'; cases h'; rw [hd] at hd'; cases hd'

theorem tyL_cons {t : Nat} {ts : List Nat} {cs : List PV} (h : TyL tab (t :: ts) cs) : ∃ a b, cs = a ++ b ∧ Ty tab t a ∧ TyL tab ts b := by
  cases h with
  | cons h hl => exact ⟨_, _, rfl, h, hl⟩
theorem tyL_nil {cs : List PV} (h : TyL tab [] cs) : cs = [] := by cases h; rfl

theorem tyV_struct {t : Nat} {y : PV} {i : TI} {fs : List (Nat × Nat)} (h : TyV tab t y) (hi : tab t = some i) (hd : i.desc = .struct fs) : ∃ cs, y = .agg cs ∧ TyL tab (fs.map (·.2)) cs := by
  obtain ⟨hty, j, hj, hc⟩ := h
  rw [hi] at hj; cases hj
  have hn : y.isCell = false := by rw [hc, hd]; rfl
  have hL := ty_struct hty hi hd
  cases y with
  | agg cs => exact ⟨cs, rfl, hL⟩
  | tup vs => exact absurd rfl (hL.noTup (.tup vs) (by simp [PV.cells]) vs)
  | _ => simp [PV.isCell] at hn

theorem list_of {α : Type} {e : Nat} {f : α → PV} {W : α → Prop} (hf : ∀ y, TyV tab e y → ∃ x, y = f x ∧ W x) : ∀ (xs : List PV), (∀ x ∈ xs, TyV tab e x) → ∃ l : List α, xs = l.map f ∧ ∀ x ∈ l, W x
  | [], _ => ⟨[], rfl, fun n h => by cases h⟩
  | x :: xs, h => by
    obtain ⟨a, rfl, ha⟩ := hf x (h x (.head _))
    obtain ⟨l, rfl, hl⟩ := list_of hf xs fun y hy => h y (.tail _ hy)
    refine ⟨a :: l, rfl, fun m hm => ?_⟩
    rcases List.mem_cons.1 hm with rfl | hm
    · exact ha
    · exact hl m hm
end
end Go.Proofs.Ytcahjpkmldmjdaa.Ab
