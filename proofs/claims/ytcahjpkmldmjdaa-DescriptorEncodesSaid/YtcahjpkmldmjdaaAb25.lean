/-
  Abstract values for walks without memory: parts of slices.
-/
import Derived.Test.YtcahjpkmldmjdaaAb23
namespace Go.Proofs.Ytcahjpkmldmjdaa.Ab
open Go

theorem i64_of {n : Int} (h : (Lit.int .i64 n).wf = true) : -9223372036854775808 ≤ n ∧ n ≤ 9223372036854775807 := by
  simp [Lit.wf, IntKind.min, IntKind.max, IntKind.signed, IntKind.bits] at h
  omega

section
variable {P : Program} {tab : Tab}
variable {n : Nat} {N : St → Prop} {X : Nat → St → Prop} {R : St → Prop} {S T : St} {r k : Nat} {ops : Array Oper} {K : St → Prop} {l : List Oper}
variable {d : Nat} {op : Op} {ty : TypeId} {pos : String} {after : Array Edge} {g : Option (Nat × Bool)}

theorem Imp.set_ro (d : Nat) (v : PV) : Imp P (S.set d v) (S.set d v.ro1) := by
  intro F om a w h
  refine ⟨om, h.size, h.defers, fun t => ?_, h.box, h.inj, h.lt, h.loc, h.par, h.i0, h.base_le, h.frame, h.outer⟩
  have := h.env t
  unfold St.set upd at this ⊢
  simp only at this ⊢
  split
  · rename_i e
    rw [if_pos e] at this
    exact this.ro1
  · rename_i e
    rw [if_neg e] at this
    exact this

/-- A whole number of another kind, as an int. -/
theorem Wr.conv {s t : Nat} {x : Operand} {kk kf : IntKind} {a : Int} {s1 b1 s2 b2 : Nat} {z1 z2 : PV} (h : Wr P tab n r ops (k + 1) l K (S.set d (.int .i64 a)))
    (hg : runs ops S g = some true := by rfl) (ht : tab t = some ⟨.int .i64, s1, b1, z1⟩ := by rfl) (hs : tab s = some ⟨.int kf, s2, b2, z2⟩ := by rfl) (hx : opnd S x = .int kk a := by rfl) (hst : decide (s = t) = false := by rfl) (hr : -9223372036854775808 ≤ a ∧ a ≤ 9223372036854775807 := by omega) :
    Wr P tab n r ops k (⟨some d, .convert s t x, ty, pos, after, g⟩ :: l) K S := by
  have hst' : s ≠ t := by simpa using hst
  refine .val (c := True) h hg ?_ trivial
  simp only [ev, if_neg hst', evConv, ht, hx, hs]
  rw [wrap_i64 hr.1 hr.2]

/-- x[lo:hi] of a plain slice. -/
theorem Wr.part {t : Nat} {x : Operand} {lo hi : Option Operand} {a b : Int} {e : Nat} {tg : Tag} {xs : List PV} {i : TI} {s1 b1 : Nat} {z1 : PV} (h : Wr P tab n r ops (k + 1) l K (S.set d (.sl e .ro ((xs.take b.toNat).drop a.toNat))))
    (hg : runs ops S g = some true := by rfl) (ht : tab t = some ⟨.slice e, s1, b1, z1⟩ := by rfl) (hi' : tab e = some i := by rfl) (hx : opnd S x = .sl e tg xs := by rfl) (htg : tg.isOwn = false := by rfl) (hlo : optInt S 0 lo = some a := by rfl) (hhi : optInt S xs.length hi = some b := by rfl) (hr : 0 ≤ a ∧ a ≤ b ∧ b ≤ xs.length) :
    Wr P tab n r ops k (⟨some d, .slice t x lo hi none, ty, pos, after, g⟩ :: l) K S := by
  have key : ∀ tg', (tg' = .ro ∨ tg' = .full) → Wr P tab n r ops (k + 1) l K (S.set d (.sl e tg' ((xs.take b.toNat).drop a.toNat))) := by
    intro tg' htg'
    refine .imp (.set_ro d _) ?_
    rcases htg' with rfl | rfl <;> exact h
  have hm : optInt S (xs.length : Int) none = some (xs.length : Int) := rfl
  cases tg with
  | own id => cases htg
  | ro =>
    refine .val (c := e = e ∧ 0 ≤ a ∧ a ≤ b ∧ b ≤ (xs.length : Int) ∧ (xs.length : Int) ≤ xs.length ∧ ((none : Option Operand).isSome = true → hi.isSome = true)) (key (if ((none : Option Operand).isSome && decide (b = (xs.length : Int))) || (decide (Tag.ro = .full) && decide (b = xs.length) && !(none : Option Operand).isSome) then .full else .ro) (by split <;> simp)) hg ?_ ⟨rfl, hr.1, hr.2.1, hr.2.2, Int.le_refl _, fun h => by cases h⟩
    simp only [ev, evSlice, ht, hx, hlo, hhi, hm, hi']
  | full =>
    refine .val (c := e = e ∧ 0 ≤ a ∧ a ≤ b ∧ b ≤ (xs.length : Int) ∧ (xs.length : Int) ≤ xs.length ∧ ((none : Option Operand).isSome = true → hi.isSome = true)) (key (if ((none : Option Operand).isSome && decide (b = (xs.length : Int))) || (decide (Tag.full = .full) && decide (b = xs.length) && !(none : Option Operand).isSome) then .full else .ro) (by split <;> simp)) hg ?_ ⟨rfl, hr.1, hr.2.1, hr.2.2, Int.le_refl _, fun h => by cases h⟩
    simp only [ev, evSlice, ht, hx, hlo, hhi, hm, hi']

/-- The same, of bytes and the like. -/
theorem Wr.partI {t : Nat} {x : Operand} {lo hi : Option Operand} {a b : Int} {e : Nat} {kk : IntKind} {tg : Tag} {bs : List Int} {i : TI} {s1 b1 : Nat} {z1 : PV} (h : Wr P tab n r ops (k + 1) l K (S.set d (.sl e .ro (((bs.take b.toNat).drop a.toNat).map (PV.int kk)))))
    (hg : runs ops S g = some true := by rfl) (ht : tab t = some ⟨.slice e, s1, b1, z1⟩ := by rfl) (hi' : tab e = some i := by rfl) (hx : opnd S x = .sl e tg (bs.map (PV.int kk)) := by rfl) (htg : tg.isOwn = false := by rfl) (hlo : optInt S 0 lo = some a := by rfl) (hhi : optInt S (bs.map (PV.int kk)).length hi = some b := by rfl) (hr : 0 ≤ a ∧ a ≤ b ∧ b ≤ bs.length) :
    Wr P tab n r ops k (⟨some d, .slice t x lo hi none, ty, pos, after, g⟩ :: l) K S := by
  refine .part ?_ hg ht hi' hx htg hlo hhi (by simpa using hr)
  rw [← List.map_take, ← List.map_drop]
  exact h

end
end Go.Proofs.Ytcahjpkmldmjdaa.Ab
