/-
  Abstract values for walks without memory: arguments told with less; numbers in range; bytes.
-/
import Derived.Test.YtcahjpkmldmjdaaAb19
namespace Go.Proofs.Ytcahjpkmldmjdaa.Ab
open Go

/-- A slice of which no more is known than what it reads. -/
def PV.ro1 : PV → PV
  | .sl e .full xs => .sl e .ro xs
  | v => v

def PV.roL : List PV → List PV
  | [] => []
  | v :: l => v.ro1 :: PV.roL l

theorem PV.roL_map (l : List PV) : PV.roL l = l.map PV.ro1 := by
  induction l with
  | nil => rfl
  | cons c l ih => simp [PV.roL, ih]

section
variable {P : Program} {tab : Tab}

theorem VR.ro1 {I0 : Nat → Prop} {base : Nat → Prop} {om : Id → Option Nat} {w : World} {p : PV} {v : Value} (h : VR P I0 base om w p v) : VR P I0 base om w p.ro1 v := by
  unfold PV.ro1
  split
  · rename_i e xs
    obtain ⟨p, cap, g, o, fs, rfl, _, hc, hm, hp, hz, hF, hl⟩ := (h.sl_pure (fun id h => by cases h)).sl_inv
    exact .pure _ _ (RR.sl_mk P (.inl rfl) hc hm hp hz hF hl)
  · exact h

theorem Can.ro {f : Nat} {args : List PV} {Hp : Id → Option (List PV)} {res : PV} {Hq : Id → Option (List PV)} (h : Can P f (PV.roL args) Hp res Hq) : Can P f args Hp res Hq := by
  refine ⟨h.1, fun F om w vs hb hw hW hp hl hr => h.2 F om w vs hb hw hW hp (by rw [PV.roL_map, List.length_map]; exact hl) ?_⟩
  intro j y v hy hv
  rw [PV.roL_map, List.getElem?_map] at hy
  cases hx : args[j]? with
  | none => simp [hx] at hy
  | some x =>
    simp [hx] at hy
    subst hy
    exact (hr j x v hx hv).ro1

variable {n : Nat} {N : St → Prop} {X : Nat → St → Prop} {R : St → Prop} {S T : St} {r k : Nat} {ops : Array Oper} {K : St → Prop} {l : List Oper}
variable {d : Nat} {op : Op} {ty : TypeId} {pos : String} {after : Array Edge} {g : Option (Nat × Bool)}

theorem PV.idss_roL (l : List PV) : PV.idss (PV.roL l) = PV.idss l := by
  induction l with
  | nil => rfl
  | cons c l ih =>
    simp only [PV.roL, PV.idss, ih]
    congr 1
    unfold PV.ro1
    split <;> rfl

/-- A call of plain values, with a plain result. -/
theorem Wr.callP {f : Nat} {args args' : List PV} {res : PV} (hC : Can P f args' H0 res H0) (h : Wr P tab n r ops (k + 1) l K (S.set d res)) (hg : runs ops S g = some true := by rfl) (he : ev tab r k ⟨some d, op, ty, pos, after, g⟩ S = .call f args := by rfl) (ha : PV.roL args = args' := by rfl) (hi : PV.idss args' = [] := by rfl) (hr : res.ids = [] := by rfl) : Wr P tab n r ops k (⟨some d, op, ty, pos, after, g⟩ :: l) K S := by
  subst ha
  exact .callP0 hg he (Can.ro hC) (by rw [PV.idss_roL] at hi; exact hi) hr h

/-- A call that shares rows of the caller's own. -/
theorem Wr.callF' (frozen : List Id) {f : Nat} {args args' : List PV} {res : PV} (hC : Can P f args' H0 res H0) (h : Wr P tab n r ops (k + 1) l K ((S.sub (frzAll frozen)).set d res)) (hg : runs ops S g = some true := by rfl) (he : ev tab r k ⟨some d, op, ty, pos, after, g⟩ S = .call f args := by rfl) (ha : PV.roL (PV.subs (frzAll frozen) args) = args' := by rfl) (hf : frozen.all Id.isRow = true := by rfl) (hi : PV.idss args' = [] := by rfl) (hr : res.ids = [] := by rfl) : Wr P tab n r ops k (⟨some d, op, ty, pos, after, g⟩ :: l) K S := by
  subst ha
  exact .callF frozen hg he rfl (Can.ro hC) hf (by rw [PV.idss_roL] at hi; exact hi) hr h

/-- A call whose result is a row of its own: the caller's from now on. -/
theorem Wr.callO' (frozen : List Id) (rid : Id) {f : Nat} {args args' : List PV} {res u : PV} (hC : Can P f args' H0 res H0) (h : Wr P tab n r ops (k + 1) l K ((S.sub (frzKill frozen rid)).set d u)) (hg : runs ops S g = some true := by rfl) (he : ev tab r k ⟨some d, op, ty, pos, after, g⟩ S = .call f args := by rfl) (ha : PV.roL (PV.subs (frzAll frozen) args) = args' := by rfl) (hf : frozen.all Id.isRow = true := by rfl) (hrid : rid.isRow = true := by rfl) (hi : PV.idss args' = [] := by rfl) (hr : res.ids.all (fun i => decide (i = .rrow 0)) = true := by rfl) (hu : Forced (res.ren fun _ => rid) u := by constructor) : Wr P tab n r ops k (⟨some d, op, ty, pos, after, g⟩ :: l) K S := by
  subst ha
  rw [← hu.eq] at h
  exact .callO frozen rid hg he rfl (Can.ro hC) hf hrid (by rw [PV.idss_roL] at hi; exact hi) hr h

/-- A value goes on. -/
theorem Wr.move {x : Operand} {v : PV} (h : Wr P tab n r ops (k + 1) l K (S.set d v)) (hg : runs ops S g = some true := by rfl) (hx : Forced (opndT tab ty S x) v := by constructor) : Wr P tab n r ops k (⟨some d, .move x, ty, pos, after, g⟩ :: l) K S := by
  rw [← hx.eq] at h
  exact .val (c := True) h hg rfl trivial

theorem Wr.assign {x : Operand} {v : PV} (h : Wr P tab n r ops (k + 1) l K (S.set d v)) (hg : runs ops S g = some true := by rfl) (hx : Forced (opndT tab ty S x) v := by constructor) : Wr P tab n r ops k (⟨some d, .assign x, ty, pos, after, g⟩ :: l) K S := by
  rw [← hx.eq] at h
  exact .val (c := True) h hg rfl trivial

/-- Whole numbers of 64 bits. -/
theorem wrap_i64 {x : Int} (h1 : -9223372036854775808 ≤ x) (h2 : x ≤ 9223372036854775807) : IntKind.wrap .i64 x = x := by
  have e : (2 : Int) ^ 64 = 18446744073709551616 := by decide
  have e' : (2 : Int) ^ (64 - 1) = 9223372036854775808 := by decide
  simp only [IntKind.wrap, IntKind.signed, IntKind.bits, Bool.true_and, e, e']
  split
  · rename_i h
    simp only [ge_iff_le, decide_eq_true_eq] at h
    omega
  · rename_i h
    simp only [ge_iff_le, decide_eq_true_eq] at h
    omega

/-- Sums and the like of whole numbers, in range. -/
theorem Wr.arith {t : Nat} {x y : Operand} {s : Nat} {bo : BinOp} {a b c : Int} (hg : runs ops S g = some true) (hx : opnd S x = .int .i64 a) (hy : opnd S y = .int .i64 b)
    (hb : (bo = .add ∧ c = a + b) ∨ (bo = .sub ∧ c = a - b) ∨ (bo = .mul ∧ c = a * b)) (h1 : -9223372036854775808 ≤ c) (h2 : c ≤ 9223372036854775807) (hs : isNilSl y = false)
    (h : Wr P tab n r ops (k + 1) l K (S.set d (.int .i64 c))) : Wr P tab n r ops k (⟨some d, .binOp bo t x y s, ty, pos, after, g⟩ :: l) K S := by
  refine .val (c := True) h hg ?_ trivial
  rcases hb with ⟨rfl, rfl⟩ | ⟨rfl, rfl⟩ | ⟨rfl, rfl⟩ <;> simp [ev, hs, evOp, evBin, evInt, hx, hy, wrap_i64 h1 h2]

theorem Wr.add {t : Nat} {x y : Operand} {s : Nat} {a b : Int} (h : Wr P tab n r ops (k + 1) l K (S.set d (.int .i64 (a + b)))) (hg : runs ops S g = some true := by rfl) (hx : opnd S x = .int .i64 a := by rfl) (hy : opnd S y = .int .i64 b := by rfl) (hs : isNilSl y = false := by rfl) (hr : -9223372036854775808 ≤ a + b ∧ a + b ≤ 9223372036854775807 := by omega) :
    Wr P tab n r ops k (⟨some d, .binOp .add t x y s, ty, pos, after, g⟩ :: l) K S := .arith hg hx hy (.inl ⟨rfl, rfl⟩) hr.1 hr.2 hs h

theorem Wr.sub {t : Nat} {x y : Operand} {s : Nat} {a b : Int} (h : Wr P tab n r ops (k + 1) l K (S.set d (.int .i64 (a - b)))) (hg : runs ops S g = some true := by rfl) (hx : opnd S x = .int .i64 a := by rfl) (hy : opnd S y = .int .i64 b := by rfl) (hs : isNilSl y = false := by rfl) (hr : -9223372036854775808 ≤ a - b ∧ a - b ≤ 9223372036854775807 := by omega) :
    Wr P tab n r ops k (⟨some d, .binOp .sub t x y s, ty, pos, after, g⟩ :: l) K S := .arith hg hx hy (.inr (.inl ⟨rfl, rfl⟩)) hr.1 hr.2 hs h

theorem Wr.mul {t : Nat} {x y : Operand} {s : Nat} {a b : Int} (h : Wr P tab n r ops (k + 1) l K (S.set d (.int .i64 (a * b)))) (hg : runs ops S g = some true := by rfl) (hx : opnd S x = .int .i64 a := by rfl) (hy : opnd S y = .int .i64 b := by rfl) (hs : isNilSl y = false := by rfl) (hr : -9223372036854775808 ≤ a * b ∧ a * b ≤ 9223372036854775807 := by omega) :
    Wr P tab n r ops k (⟨some d, .binOp .mul t x y s, ty, pos, after, g⟩ :: l) K S := .arith hg hx hy (.inr (.inr ⟨rfl, rfl⟩)) hr.1 hr.2 hs h

/-- An element's value, told. -/
theorem evLoad_ep {t : Nat} {i : TI} {e : Nat} {tg : Tag} {xs : List PV} {q : Nat} {y : PV} (ht : tab t = some i) (ha : i.desc.agg = false) (hy : xs[q]? = some y) (hc : y.cells[0]? = some y) : evLoad tab t S (.ep e tg xs q 0) = .go True (.val y) := by
  simp [evLoad, ht, hy, part, ha, hc]

theorem Wr.loadE {t : Nat} {x : Operand} {i : TI} {e : Nat} {tg : Tag} {xs : List PV} {q : Nat} {y : PV} (h : Wr P tab n r ops (k + 1) l K (S.set d y)) (hg : runs ops S g = some true := by rfl) (hx : opnd S x = .ep e tg xs q 0 := by rfl) (ht : tab t = some i := by rfl) (ha : i.desc.agg = false := by rfl) (hy : xs[q]? = some y) (hc : y.cells[0]? = some y := by rfl) : Wr P tab n r ops k (⟨some d, .load t x, ty, pos, after, g⟩ :: l) K S := by
  refine .val (c := True) h hg ?_ trivial
  simp only [ev, hx]
  exact evLoad_ep ht ha hy hc

/-- An element that is a struct. -/
theorem Wr.loadEA {t : Nat} {x : Operand} {i : TI} {e : Nat} {tg : Tag} {xs : List PV} {q : Nat} {cs : List PV} (h : Wr P tab n r ops (k + 1) l K (S.set d (.agg cs))) (hg : runs ops S g = some true := by rfl) (hx : opnd S x = .ep e tg xs q 0 := by rfl) (ht : tab t = some i := by rfl) (ha : i.desc.agg = true := by rfl) (hy : xs[q]? = some (.agg cs)) (hc : cs.length = i.size := by rfl) : Wr P tab n r ops k (⟨some d, .load t x, ty, pos, after, g⟩ :: l) K S := by
  refine .val (c := True) h hg ?_ trivial
  simp [ev, hx, evLoad, ht, hy, part, ha, PV.cells, ← hc]

end
end Go.Proofs.Ytcahjpkmldmjdaa.Ab
