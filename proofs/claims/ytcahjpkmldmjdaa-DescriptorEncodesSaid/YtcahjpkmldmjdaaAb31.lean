/-
  Abstract values for walks without memory: words that printed functions use, and some rules more.
-/
import Derived.Test.YtcahjpkmldmjdaaAb30
namespace Go.Proofs.Ytcahjpkmldmjdaa.Ab
open Go

abbrev w64 (x : Int) : Int := IntKind.wrap .i64 x
def iShlT (k : IntKind) (a b : Int) : Int := k.wrap (a * 2 ^ (min b.toNat k.bits))
def iShrT (k : IntKind) (a b : Int) : Int := a.fdiv (2 ^ (min b.toNat k.bits))
def iNot (k : IntKind) (a : Int) : Int := bitsI .xor k (if k.signed then -1 else k.max) a
def sEq (a b : ByteArray) : Bool := a.toList == b.toList
def sLt (a b : ByteArray) : Bool := Op.bytesLess a.toList b.toList
def joinK {κ ρ : Type} (rest : κ) (body : κ → ρ) : ρ := body rest

theorem joinE {κ ρ : Type} {rest : κ} {body : κ → Option ρ} {r : ρ} (h : joinK rest body = some r) : ∃ j, rest = j ∧ body j = some r := ⟨rest, rfl, h⟩
theorem bool_em (b : Bool) : b = true ∨ b = false := by cases b <;> simp
theorem nt {b : Bool} (h : b = false) : ¬ (b = true) := by rw [h]; exact Bool.false_ne_true

section
variable {P : Program} {tab : Tab}
variable {n : Nat} {N : St → Prop} {X : Nat → St → Prop} {R : St → Prop} {S T : St} {r k : Nat} {ops : Array Oper} {K : St → Prop} {l : List Oper}
variable {d : Nat} {op : Op} {ty : TypeId} {pos : String} {after : Array Edge} {g : Option (Nat × Bool)}
variable {α : Type} {f : α → PV}

/-- append(nil, plain ..). -/
theorem Wr.appN {c : Call} {s x : Operand} {ts tx e : Nat} {i : TI} {ys zs : List α} {tg : Tag} {s1 b1 : Nat} {z1 : PV} {s2 b2 : Nat} {z2 : PV} (hz : lApp ([] : List α) ys = some zs) (h : Wr P tab n r ops (k + 1) l K (((S.sub (oneSub (.row r k) .frz)).setH (.row r k) none).set d (.sl e (.own (.row r k)) (zs.map f))))
    (hg : runs ops S g = some true := by rfl) (hc : c.callee = .builtin .append := by rfl) (ha : c.args.toList = [s, x] := by rfl) (hat : c.argTypes.toList = [ts, tx] := by rfl) (hts : tab ts = some ⟨.slice e, s1, b1, z1⟩ := by rfl) (htx : tab tx = some ⟨.slice e, s2, b2, z2⟩ := by rfl) (hi : tab e = some i := by rfl)
    (hs : opndT tab ts S s = .sl e .full [] := by rfl) (hx : opndT tab tx S x = .sl e tg (ys.map f) := by rfl) (htg : tg.isOwn = false := by rfl) (hsz : (decide (0 < i.size) && decide (i.bytes ≤ 4096)) = true := by rfl) :
    Wr P tab n r ops k (⟨some d, .call c, ty, pos, after, g⟩ :: l) K S := by
  obtain ⟨h1, rfl⟩ := lApp_spec hz
  exact .app0L (by simpa using h1) h hg hc ha hat hts htx hi hs hx htg hsz

/-- x[a:] of a plain slice. -/
theorem Wr.partE {t : Nat} {x : Operand} {lo : Option Operand} {a : Int} {e : Nat} {tg : Tag} {xs zs : List α} {i : TI} {s1 b1 : Nat} {z1 : PV} (hz : lPart xs a (xs.length : Int) = some zs) (h : Wr P tab n r ops (k + 1) l K (S.set d (.sl e .ro (zs.map f))))
    (hg : runs ops S g = some true := by rfl) (ht : tab t = some ⟨.slice e, s1, b1, z1⟩ := by rfl) (hi' : tab e = some i := by rfl) (hx : opnd S x = .sl e tg (xs.map f) := by rfl) (htg : tg.isOwn = false := by rfl) (hlo : optInt S 0 lo = some a := by rfl) :
    Wr P tab n r ops k (⟨some d, .slice t x lo none none, ty, pos, after, g⟩ :: l) K S :=
  .partL (b' := ((xs.map f).length : Int)) hz h hg ht hi' hx htg hlo rfl (by simp)

/-- A variable is made. -/
theorem Wr.allocL {e : Nat} {i : TI} {cs : List PV} (h : Wr P tab n r ops (k + 1) l K (((S.sub (oneSub (.loc r k) .kill)).setH (.loc r k) (some cs)).set d (.ptr (.loc r k) 0)))
    (hg : runs ops S g = some true := by rfl) (ht : tab e = some i := by rfl) (hcs : i.zero.cells = cs := by rfl) : Wr P tab n r ops k (⟨some d, .alloc e, ty, pos, after, g⟩ :: l) K S := by
  subst hcs
  refine .act (c := True) h hg ?_ trivial
  simp only [ev, ht]

theorem Wr.boxL {e : Nat} {x : Operand} {i : TI} {cs : List PV} (h : Wr P tab n r ops (k + 1) l K (((S.sub (oneSub (.loc r k) .kill)).setH (.loc r k) (some cs)).set d (.ptr (.loc r k) 0)))
    (hg : runs ops S g = some true := by rfl) (ht : tab e = some i := by rfl) (hcs : (opndT tab e S x).cells.map (PV.sub (oneSub (.loc r k) .kill)) = cs := by rfl) (hl : (decide ((opndT tab e S x).cells.length = i.size) && (opndT tab e S x).live) = true := by rfl) : Wr P tab n r ops k (⟨some d, .box e x, ty, pos, after, g⟩ :: l) K S := by
  subst hcs
  simp only [Bool.and_eq_true, decide_eq_true_eq] at hl
  refine .act (c := (opndT tab e S x).cells.length = i.size ∧ (opndT tab e S x).live = true) h hg ?_ hl
  simp only [ev, ht]

/-- []byte of a literal of bytes: shared from then on. -/
theorem Wr.sameL {s : Nat} {x : Operand} {e : Nat} {id : Id} {xs : List α} {s1 b1 s2 b2 : Nat} {z1 z2 : PV} (h : Wr P tab n r ops (k + 1) l K (((S.sub (oneSub id .kill)).setH id none).set d (.sl e .ro (xs.map f))))
    (hg : runs ops S g = some true := by rfl) (ht : tab s = some ⟨.slice e, s1, b1, z1⟩ := by rfl) (he : tab e = some ⟨.int .u8, s2, b2, z2⟩ := by rfl) (hx : opnd S x = .sl e (.own id) (xs.map f) := by rfl) (hid : id.isRow = true := by rfl) (hne : xs.isEmpty = false := by rfl) : Wr P tab n r ops k (⟨some d, .convert s s x, ty, pos, after, g⟩ :: l) K S := by
  refine .act (c := e = e ∧ xs.map f ≠ [] ∧ id.isRow = true) h hg ?_ ⟨rfl, ?_, hid⟩
  · simp only [ev, if_true, hx, evSame, ht, he]
  · intro h0
    rw [List.map_eq_nil_iff] at h0
    subst h0
    cases hne

end
end Go.Proofs.Ytcahjpkmldmjdaa.Ab
