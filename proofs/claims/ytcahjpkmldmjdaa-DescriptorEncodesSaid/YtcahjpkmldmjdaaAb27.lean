/-
  Abstract values for walks without memory: rules for lists of things of one kind; partial operations, as they read on plain lists.
-/
import Derived.Test.YtcahjpkmldmjdaaAb26
namespace Go.Proofs.Ytcahjpkmldmjdaa.Ab
open Go

/-! ### partial operations on plain lists -/

def lAt {α : Type} (l : List α) (i : Int) : Option α := if 0 ≤ i then l[i.toNat]? else none
def lPart {α : Type} (l : List α) (a b : Int) : Option (List α) := if 0 ≤ a ∧ a ≤ b ∧ b ≤ l.length then some ((l.take b.toNat).drop a.toNat) else none
def lApp {α : Type} (l m : List α) : Option (List α) := if l.length + m.length ≤ 30000000000 then some (l ++ m) else none
def lMake {α : Type} (a b : Int) (z : α) : Option (List α) := if 0 ≤ a ∧ a ≤ b ∧ b ≤ 30000000000 then some (List.replicate a.toNat z) else none
def sCat (a b : ByteArray) : Option ByteArray := if a.size + b.size ≤ 9223372036854775807 then some (a ++ b) else none
def sSub (s : ByteArray) (a b : Int) : Option ByteArray := if 0 ≤ a ∧ a ≤ b ∧ b ≤ s.size then some (s.extract a.toNat b.toNat) else none
def sAt (s : ByteArray) (i : Int) : Option Int := if 0 ≤ i ∧ i < s.size then some (strAt s i.toNat) else none
def sBytes (s : ByteArray) : Option (List Int) := if s.size ≤ 9223372036854775807 then some (strNums s) else none
def iDiv (k : IntKind) (a b : Int) : Option Int := if b = 0 then none else some (k.wrap (a.tdiv b))
def iRem (a b : Int) : Option Int := if b = 0 then none else some (a.tmod b)
def iShl (k : IntKind) (a b : Int) : Option Int := if 0 ≤ b then some (k.wrap (a * 2 ^ (min b.toNat k.bits))) else none
def iShr (k : IntKind) (a b : Int) : Option Int := if 0 ≤ b then some (a.fdiv (2 ^ (min b.toNat k.bits))) else none
def iMax (a b : Int) : Int := if b > a then b else a
def iMin (a b : Int) : Int := if b < a then b else a

theorem bindE {α β : Type} {m : Option α} {k : α → Option β} {r : β} (h : m.bind k = some r) : ∃ x, m = some x ∧ k x = some r := by
  cases m with
  | none => cases h
  | some x => exact ⟨x, rfl, h⟩

theorem lAt_spec {α : Type} {l : List α} {i : Int} {x : α} (h : lAt l i = some x) : 0 ≤ i ∧ i < l.length ∧ l[i.toNat]? = some x := by
  unfold lAt at h
  split at h
  · have := (List.getElem?_eq_some_iff.1 h).1
    exact ⟨by assumption, by omega, h⟩
  · cases h

theorem lPart_spec {α : Type} {l m : List α} {a b : Int} (h : lPart l a b = some m) : (0 ≤ a ∧ a ≤ b ∧ b ≤ l.length) ∧ m = (l.take b.toNat).drop a.toNat := by
  unfold lPart at h
  split at h
  · cases h; exact ⟨by assumption, rfl⟩
  · cases h

theorem lApp_spec {α : Type} {l m z : List α} (h : lApp l m = some z) : l.length + m.length ≤ 30000000000 ∧ z = l ++ m := by
  unfold lApp at h
  split at h
  · cases h; exact ⟨by assumption, rfl⟩
  · cases h

theorem lMake_spec {α : Type} {a b : Int} {z : α} {l : List α} (h : lMake a b z = some l) : (0 ≤ a ∧ a ≤ b ∧ b ≤ 30000000000) ∧ l = List.replicate a.toNat z := by
  unfold lMake at h
  split at h
  · cases h; exact ⟨by assumption, rfl⟩
  · cases h

theorem sSub_spec {s z : ByteArray} {a b : Int} (h : sSub s a b = some z) : (0 ≤ a ∧ a ≤ b ∧ b ≤ s.size) ∧ z = s.extract a.toNat b.toNat := by
  unfold sSub at h
  split at h
  · cases h; exact ⟨by assumption, rfl⟩
  · cases h

section
variable {P : Program} {tab : Tab}
variable {n : Nat} {N : St → Prop} {X : Nat → St → Prop} {R : St → Prop} {S T : St} {r k : Nat} {ops : Array Oper} {K : St → Prop} {l : List Oper}
variable {d : Nat} {op : Op} {ty : TypeId} {pos : String} {after : Array Edge} {g : Option (Nat × Bool)}
variable {α : Type} {f : α → PV}

/-- A test whose outcome is told already. -/
theorem Wr.valB {c : Prop} {b b' : Bool} (hb : b = b') (h : Wr P tab n r ops (k + 1) l K (S.set d (.bool b'))) (hg : runs ops S g = some true := by rfl) (he : ev tab r k ⟨some d, op, ty, pos, after, g⟩ S = .go c (.val (.bool b)) := by rfl) (hc : c := by trivial) : Wr P tab n r ops k (⟨some d, op, ty, pos, after, g⟩ :: l) K S := by
  subst hb
  exact .val h hg he hc

theorem Wr.lenL {c : Call} {x : Operand} {tx e e2 : Nat} {tg : Tag} {xs : List α} {s2 b2 : Nat} {z2 : PV} (h : Wr P tab n r ops (k + 1) l K (S.set d (.int .i64 (xs.length : Int)))) (hg : runs ops S g = some true := by rfl) (hc : c.callee = .builtin .len := by rfl) (ha : c.args.toList = [x] := by rfl) (hat : c.argTypes.toList = [tx] := by rfl) (htx : tab tx = some ⟨.slice e2, s2, b2, z2⟩ := by rfl)
    (hx : opndT tab tx S x = .sl e tg (xs.map f) := by rfl) : Wr P tab n r ops k (⟨some d, .call c, ty, pos, after, g⟩ :: l) K S := by
  refine .val (c := True) (v := .int .i64 ((xs.map f).length : Int)) ?_ hg ?_ trivial
  · rw [List.length_map]; exact h
  · simp only [ev, hc, evLen, ha, hat, htx, hx]

/-- An element's place. -/
theorem Wr.idxL {t : Nat} {x ix : Operand} {e : Nat} {tg : Tag} {xs : List α} {a : Int} {kk : IntKind} {z : α} {i : TI} {s1 b1 : Nat} {z1 : PV} (hz : lAt xs a = some z) (h : Wr P tab n r ops (k + 1) l K (S.set d (.ep e tg (xs.map f) a.toNat 0)))
    (hg : runs ops S g = some true := by rfl) (ht : tab t = some ⟨.slice e, s1, b1, z1⟩ := by rfl) (hi : tab e = some i := by rfl) (hx : opnd S x = .sl e tg (xs.map f) := by rfl) (hy : opnd S ix = .int kk a := by rfl) : Wr P tab n r ops k (⟨some d, .indexAddr t x ix, ty, pos, after, g⟩ :: l) K S := by
  obtain ⟨h1, h2, _⟩ := lAt_spec hz
  refine .val (c := e = e ∧ 0 ≤ a ∧ a < ((xs.map f).length : Int)) h hg ?_ ⟨rfl, h1, by rw [List.length_map]; exact h2⟩
  simp only [ev, hx, hy, evIndexAddr, ht, hi]

theorem map_at {xs : List α} {a : Int} {z : α} (hz : lAt xs a = some z) : (xs.map f)[a.toNat]? = some (f z) := by
  rw [List.getElem?_map, (lAt_spec hz).2.2]; rfl

/-- What stands at an element's place. -/
theorem Wr.ldL {t : Nat} {x : Operand} {e : Nat} {tg : Tag} {xs : List α} {a : Int} {z : α} {j : Nat} {i : TI} {y : PV} (hz : lAt xs a = some z) (h : Wr P tab n r ops (k + 1) l K (S.set d y)) (hg : runs ops S g = some true := by rfl)
    (hx : opnd S x = .ep e tg (xs.map f) a.toNat j := by rfl) (ht : tab t = some i := by rfl) (hy : Ab.part i (f z).cells j = some y := by rfl) : Wr P tab n r ops k (⟨some d, .load t x, ty, pos, after, g⟩ :: l) K S := by
  refine .val (c := True) h hg ?_ trivial
  simp only [ev, hx, evLoad, ht, map_at hz, hy]

/-- An element is written. -/
theorem Wr.stL {t : Nat} {x y : Operand} {e : Nat} {id : Id} {xs : List α} {a : Int} {z z' : α} {j : Nat} {i : TI} {v : PV} (hz : lAt xs a = some z) (h : Wr P tab n r ops (k + 1) l K ((S.sub (oneSub id (.upd a.toNat (f z')))).setH id none))
    (hg : runs ops S g = some true := by rfl) (hx : opnd S x = .ep e (.own id) (xs.map f) a.toNat j := by rfl) (ht : tab t = some i := by rfl) (hv : opndT tab t S y = v := by rfl) (hset : setPart (f z) j v = f z' := by rfl)
    (hlen : (decide (v.cells.length = i.size) && decide (j + i.size ≤ (f z).cells.length) && decide (0 < i.size)) = true := by rfl) (hpure : v.isPure = true := by rfl) (hid : id.isRow = true := by rfl) : Wr P tab n r ops k (⟨none, .store t x y, ty, pos, after, g⟩ :: l) K S := by
  simp only [Bool.and_eq_true, decide_eq_true_eq] at hlen
  refine .actN (c := v.cells.length = i.size ∧ j + i.size ≤ (f z).cells.length ∧ v.isPure = true ∧ id.isRow = true ∧ 0 < i.size) (σ := oneSub id (.upd a.toNat (f z'))) (id := id) (o := none) (v := .dead) h hg ?_ ⟨hlen.1.1, hlen.1.2, hpure, hid, hlen.2⟩
  simp only [ev, hx, hv, evStore, ht, map_at hz, hset]

/-- append(own, plain ..). -/
theorem Wr.appL {c : Call} {s x : Operand} {ts tx e : Nat} {i : TI} {sid : Id} {xs ys zs : List α} {tg : Tag} {s1 b1 : Nat} {z1 : PV} {s2 b2 : Nat} {z2 : PV} (hz : lApp xs ys = some zs) (h : Wr P tab n r ops (k + 1) l K (((S.sub (twoSub sid .kill (.row r k) .frz)).setH (.row r k) none).set d (.sl e (.own (.row r k)) (zs.map f))))
    (hg : runs ops S g = some true := by rfl) (hc : c.callee = .builtin .append := by rfl) (ha : c.args.toList = [s, x] := by rfl) (hat : c.argTypes.toList = [ts, tx] := by rfl) (hts : tab ts = some ⟨.slice e, s1, b1, z1⟩ := by rfl) (htx : tab tx = some ⟨.slice e, s2, b2, z2⟩ := by rfl) (hi : tab e = some i := by rfl)
    (hs : opndT tab ts S s = .sl e (.own sid) (xs.map f) := by rfl) (hx : opndT tab tx S x = .sl e tg (ys.map f) := by rfl) (hid : sid.isRow = true := by rfl) (htg : tg.isOwn = false := by rfl) (hsz : (decide (0 < i.size) && decide (i.bytes ≤ 4096)) = true := by rfl) :
    Wr P tab n r ops k (⟨some d, .call c, ty, pos, after, g⟩ :: l) K S := by
  obtain ⟨h1, rfl⟩ := lApp_spec hz
  refine .app (xs := xs.map f) (ys := ys.map f) ?_ hg hc ha hat hts htx hi hs hx hid htg hsz (by simpa using h1)
  rw [← List.map_append]
  exact h

/-- append(nil, plain ..). -/
theorem Wr.app0L {c : Call} {s x : Operand} {ts tx e : Nat} {i : TI} {ys : List α} {tg : Tag} {s1 b1 : Nat} {z1 : PV} {s2 b2 : Nat} {z2 : PV} (hz : ys.length ≤ 30000000000) (h : Wr P tab n r ops (k + 1) l K (((S.sub (oneSub (.row r k) .frz)).setH (.row r k) none).set d (.sl e (.own (.row r k)) (ys.map f))))
    (hg : runs ops S g = some true := by rfl) (hc : c.callee = .builtin .append := by rfl) (ha : c.args.toList = [s, x] := by rfl) (hat : c.argTypes.toList = [ts, tx] := by rfl) (hts : tab ts = some ⟨.slice e, s1, b1, z1⟩ := by rfl) (htx : tab tx = some ⟨.slice e, s2, b2, z2⟩ := by rfl) (hi : tab e = some i := by rfl)
    (hs : opndT tab ts S s = .sl e .full [] := by rfl) (hx : opndT tab tx S x = .sl e tg (ys.map f) := by rfl) (htg : tg.isOwn = false := by rfl) (hsz : (decide (0 < i.size) && decide (i.bytes ≤ 4096)) = true := by rfl) :
    Wr P tab n r ops k (⟨some d, .call c, ty, pos, after, g⟩ :: l) K S :=
  .app0 (ys := ys.map f) h hg hc ha hat hts htx hi hs hx htg hsz (by simpa using hz)

/-- append(own bytes, string ..). -/
theorem Wr.appSL {c : Call} {s x : Operand} {ts tx e : Nat} {i : TI} {sid : Id} {xs zs : List Int} {b : ByteArray} {s1 b1 : Nat} {z1 : PV} {s2 b2 : Nat} {z2 : PV} (hz : lApp xs (strNums b) = some zs) (h : Wr P tab n r ops (k + 1) l K (((S.sub (twoSub sid .kill (.row r k) .frz)).setH (.row r k) none).set d (.sl e (.own (.row r k)) (zs.map (PV.int .u8)))))
    (hg : runs ops S g = some true := by rfl) (hc : c.callee = .builtin .append := by rfl) (ha : c.args.toList = [s, x] := by rfl) (hat : c.argTypes.toList = [ts, tx] := by rfl) (hts : tab ts = some ⟨.slice e, s1, b1, z1⟩ := by rfl) (htx : tab tx = some ⟨.str, s2, b2, z2⟩ := by rfl) (hi : tab e = some i := by rfl)
    (hs : opndT tab ts S s = .sl e (.own sid) (xs.map (PV.int .u8)) := by rfl) (hx : opndT tab tx S x = .str b := by rfl) (hid : sid.isRow = true := by rfl) (hsz : (decide (i.size = 1) && decide (i.bytes = 1)) = true := by rfl) :
    Wr P tab n r ops k (⟨some d, .call c, ty, pos, after, g⟩ :: l) K S := by
  obtain ⟨h1, rfl⟩ := lApp_spec hz
  refine .appS (xs := xs.map (PV.int .u8)) ?_ hg hc ha hat hts htx hi hs hx hid hsz (by simp only [List.length_map, strNums_length] at h1 ⊢; exact h1)
  rw [← List.map_append]
  exact h

/-- x[a:b] of a plain slice. -/
theorem Wr.partL {t : Nat} {x : Operand} {lo hi : Option Operand} {a b b' : Int} {e : Nat} {tg : Tag} {xs zs : List α} {i : TI} {s1 b1 : Nat} {z1 : PV} (hz : lPart xs a b = some zs) (h : Wr P tab n r ops (k + 1) l K (S.set d (.sl e .ro (zs.map f))))
    (hg : runs ops S g = some true := by rfl) (ht : tab t = some ⟨.slice e, s1, b1, z1⟩ := by rfl) (hi' : tab e = some i := by rfl) (hx : opnd S x = .sl e tg (xs.map f) := by rfl) (htg : tg.isOwn = false := by rfl) (hlo : optInt S 0 lo = some a := by rfl) (hhi : optInt S ((xs.map f).length : Int) hi = some b' := by rfl) (hb : b' = b := by rfl) :
    Wr P tab n r ops k (⟨some d, .slice t x lo hi none, ty, pos, after, g⟩ :: l) K S := by
  obtain ⟨h1, rfl⟩ := lPart_spec hz
  subst hb
  refine .part (xs := xs.map f) ?_ hg ht hi' hx htg hlo hhi (by simpa using h1)
  rw [← List.map_take, ← List.map_drop]
  exact h

/-- x[a:b:b] of a plain slice. -/
theorem Wr.partM {t : Nat} {x hi : Operand} {lo : Option Operand} {mx : Operand} {a b : Int} {e : Nat} {tg : Tag} {xs zs : List α} {i : TI} {s1 b1 : Nat} {z1 : PV} (hz : lPart xs a b = some zs) (h : Wr P tab n r ops (k + 1) l K (S.set d (.sl e .full (zs.map f))))
    (hg : runs ops S g = some true := by rfl) (ht : tab t = some ⟨.slice e, s1, b1, z1⟩ := by rfl) (hi' : tab e = some i := by rfl) (hx : opnd S x = .sl e tg (xs.map f) := by rfl) (htg : tg.isOwn = false := by rfl) (hlo : optInt S 0 lo = some a := by rfl) (hhi : optInt S ((xs.map f).length : Int) (some hi) = some b := by rfl) (hmx : optInt S ((xs.map f).length : Int) (some mx) = some b := by rfl) :
    Wr P tab n r ops k (⟨some d, .slice t x lo (some hi) (some mx), ty, pos, after, g⟩ :: l) K S := by
  obtain ⟨h1, rfl⟩ := lPart_spec hz
  refine .val (c := e = e ∧ 0 ≤ a ∧ a ≤ b ∧ b ≤ b ∧ b ≤ ((xs.map f).length : Int) ∧ ((some mx).isSome = true → (some hi).isSome = true)) (v := .sl e .full (((xs.map f).take b.toNat).drop a.toNat)) ?_ hg ?_ ⟨rfl, h1.1, h1.2.1, Int.le_refl _, by simpa using h1.2.2, fun _ => rfl⟩
  · rw [← List.map_take, ← List.map_drop]; exact h
  · cases tg with
    | own id => cases htg
    | ro => (simp only [ev, evSlice, ht, hx, hlo, hhi, hmx, hi']; simp)
    | full => (simp only [ev, evSlice, ht, hx, hlo, hhi, hmx, hi']; simp)

/-- s[a:b] of a string. -/
theorem Wr.subS {t : Nat} {x : Operand} {lo hi : Option Operand} {a b : Int} {s zs : ByteArray} {s1 b1 : Nat} {z1 : PV} (hz : sSub s a b = some zs) (h : Wr P tab n r ops (k + 1) l K (S.set d (.str zs)))
    (hg : runs ops S g = some true := by rfl) (ht : tab t = some ⟨.str, s1, b1, z1⟩ := by rfl) (hx : opnd S x = .str s := by rfl) (hlo : optInt S 0 lo = some a := by rfl) (hhi : optInt S (s.size : Int) hi = some b := by rfl) :
    Wr P tab n r ops k (⟨some d, .slice t x lo hi none, ty, pos, after, g⟩ :: l) K S := by
  obtain ⟨h1, rfl⟩ := sSub_spec hz
  refine .val (c := (none : Option Operand) = none ∧ 0 ≤ a ∧ a ≤ b ∧ b ≤ (s.size : Int)) h hg ?_ ⟨rfl, h1.1, h1.2.1, h1.2.2⟩
  simp only [ev, evSlice, ht, hx, hlo, hhi]

/-- s[a], a byte of a string. -/
theorem Wr.atS {t : Nat} {x ix : Operand} {a : Int} {kk : IntKind} {s : ByteArray} {z : Int} {s1 b1 : Nat} {z1 : PV} (hz : sAt s a = some z) (h : Wr P tab n r ops (k + 1) l K (S.set d (.int .u8 z)))
    (hg : runs ops S g = some true := by rfl) (ht : tab t = some ⟨.str, s1, b1, z1⟩ := by rfl) (hx : opnd S x = .str s := by rfl) (hy : opnd S ix = .int kk a := by rfl) : Wr P tab n r ops k (⟨some d, .index t x ix, ty, pos, after, g⟩ :: l) K S := by
  unfold sAt at hz
  split at hz
  · rename_i h1
    cases hz
    refine .val (c := 0 ≤ a ∧ a < (s.size : Int)) h hg ?_ h1
    simp only [ev, evIndex, ht, hx, hy]
  · cases hz

/-- []byte(s). -/
theorem Wr.fromS {s t : Nat} {x : Operand} {e : Nat} {b : ByteArray} {zs : List Int} {s1 b1 s2 b2 s3 b3 : Nat} {z1 z2 z3 : PV} (hz : sBytes b = some zs) (h : Wr P tab n r ops (k + 1) l K (S.set d (.sl e .ro (zs.map (PV.int .u8)))))
    (hg : runs ops S g = some true := by rfl) (ht : tab t = some ⟨.slice e, s1, b1, z1⟩ := by rfl) (hs : tab s = some ⟨.str, s2, b2, z2⟩ := by rfl) (he : tab e = some ⟨.int .u8, s3, b3, z3⟩ := by rfl) (hx : opnd S x = .str b := by rfl) (hst : decide (s = t) = false := by rfl) (h1 : decide (s3 = 1) = true := by rfl) :
    Wr P tab n r ops k (⟨some d, .convert s t x, ty, pos, after, g⟩ :: l) K S := by
  have hst' : s ≠ t := by simpa using hst
  have h1' : s3 = 1 := by simpa using h1
  unfold sBytes at hz
  split at hz
  · rename_i h2
    cases hz
    refine .val (c := s3 = 1 ∧ b.size ≤ 9223372036854775807) h hg ?_ ⟨h1', h2⟩
    simp only [ev, if_neg hst', evConv, ht, hx, hs, he]
  · cases hz

/-- make, of n places. -/
theorem Wr.makeL {t : Nat} {x y : Operand} {a b : Int} {ka kb : IntKind} {e : Nat} {i : TI} {z : α} {zs : List α} {s1 b1 : Nat} {z1 : PV} (hz : lMake a b z = some zs) (h : Wr P tab n r ops (k + 1) l K (((S.sub (oneSub (.row r k) .frz)).setH (.row r k) none).set d (.sl e (.own (.row r k)) (zs.map f))))
    (hg : runs ops S g = some true := by rfl) (ht : tab t = some ⟨.slice e, s1, b1, z1⟩ := by rfl) (hi : tab e = some i := by rfl) (hx : opnd S x = .int ka a := by rfl) (hy : opnd S y = .int kb b := by rfl) (hsz : (decide (0 < i.size) && decide (i.bytes ≤ 4096)) = true := by rfl) (hfz : f z = i.zero := by rfl) :
    Wr P tab n r ops k (⟨some d, .makeSlice t x y, ty, pos, after, g⟩ :: l) K S := by
  obtain ⟨hr, rfl⟩ := lMake_spec hz
  simp only [Bool.and_eq_true, decide_eq_true_eq] at hsz
  rw [List.map_replicate, hfz] at h
  refine .act h hg ?_ (⟨hr.1, hr.2.1, by omega, ?_, hsz.1⟩ : 0 ≤ a ∧ a ≤ b ∧ b ≤ 9223372036854775807 ∧ (i.bytes : Int) * b ≤ 281474976710656 ∧ 0 < i.size)
  · simp only [ev, evMake, ht, hi, hx, hy]
  · have h1 : (i.bytes : Int) * b ≤ 4096 * 30000000000 := Int.mul_le_mul (by omega) hr.2.2 (by omega) (by omega)
    omega

/-- Quotients and the like. -/
theorem Wr.divL {t : Nat} {x y : Operand} {s : Nat} {a b z : Int} {kk : IntKind} (hz : iDiv kk a b = some z) (h : Wr P tab n r ops (k + 1) l K (S.set d (.int kk z))) (hg : runs ops S g = some true := by rfl) (hx : opnd S x = .int kk a := by rfl) (hy : opnd S y = .int kk b := by rfl) (hs : isNilSl y = false := by rfl) :
    Wr P tab n r ops k (⟨some d, .binOp .quo t x y s, ty, pos, after, g⟩ :: l) K S := by
  unfold iDiv at hz
  split at hz
  · cases hz
  · rename_i h1
    cases hz
    refine .val (c := b ≠ 0) h hg ?_ h1
    simp [ev, hs, evOp, evBin, evInt, hx, hy]

theorem Wr.remL {t : Nat} {x y : Operand} {s : Nat} {a b z : Int} {kk : IntKind} (hz : iRem a b = some z) (h : Wr P tab n r ops (k + 1) l K (S.set d (.int kk z))) (hg : runs ops S g = some true := by rfl) (hx : opnd S x = .int kk a := by rfl) (hy : opnd S y = .int kk b := by rfl) (hs : isNilSl y = false := by rfl) :
    Wr P tab n r ops k (⟨some d, .binOp .rem t x y s, ty, pos, after, g⟩ :: l) K S := by
  unfold iRem at hz
  split at hz
  · cases hz
  · rename_i h1
    cases hz
    refine .val (c := b ≠ 0) h hg ?_ h1
    simp [ev, hs, evOp, evBin, evInt, hx, hy]

theorem Wr.shlL {t : Nat} {x y : Operand} {s : Nat} {a b z : Int} {kk kb : IntKind} (hz : iShl kk a b = some z) (h : Wr P tab n r ops (k + 1) l K (S.set d (.int kk z))) (hg : runs ops S g = some true := by rfl) (hx : opnd S x = .int kk a := by rfl) (hy : opnd S y = .int kb b := by rfl) (hs : isNilSl y = false := by rfl) :
    Wr P tab n r ops k (⟨some d, .binOp .shl t x y s, ty, pos, after, g⟩ :: l) K S := by
  unfold iShl at hz
  split at hz
  · rename_i h1
    cases hz
    refine .val (c := 0 ≤ b) h hg ?_ h1
    simp [ev, hs, evOp, evBin, hx, hy]
  · cases hz

theorem Wr.shrL {t : Nat} {x y : Operand} {s : Nat} {a b z : Int} {kk kb : IntKind} (hz : iShr kk a b = some z) (h : Wr P tab n r ops (k + 1) l K (S.set d (.int kk z))) (hg : runs ops S g = some true := by rfl) (hx : opnd S x = .int kk a := by rfl) (hy : opnd S y = .int kb b := by rfl) (hs : isNilSl y = false := by rfl) :
    Wr P tab n r ops k (⟨some d, .binOp .shr t x y s, ty, pos, after, g⟩ :: l) K S := by
  unfold iShr at hz
  split at hz
  · rename_i h1
    cases hz
    refine .val (c := 0 ≤ b) h hg ?_ h1
    simp [ev, hs, evOp, evBin, hx, hy]
  · cases hz

theorem Wr.catS {t : Nat} {x y : Operand} {s : Nat} {a b z : ByteArray} (hz : sCat a b = some z) (h : Wr P tab n r ops (k + 1) l K (S.set d (.str z))) (hg : runs ops S g = some true := by rfl) (hx : opnd S x = .str a := by rfl) (hy : opnd S y = .str b := by rfl) (hs : isNilSl y = false := by rfl) :
    Wr P tab n r ops k (⟨some d, .binOp .add t x y s, ty, pos, after, g⟩ :: l) K S := by
  unfold sCat at hz
  split at hz
  · rename_i h1
    cases hz
    refine .val (c := a.size + b.size ≤ 9223372036854775807) h hg ?_ h1
    simp [ev, hs, evOp, evBin, evStr, hx, hy]
  · cases hz

/-- Greatest and least of two. -/
theorem Wr.maxL {c : Call} {x y : Operand} {a b : Int} {kk : IntKind} (h : Wr P tab n r ops (k + 1) l K (S.set d (.int kk (iMax a b)))) (hg : runs ops S g = some true := by rfl) (hc : c.callee = .builtin .max := by rfl) (ha : c.args.toList = [x, y] := by rfl) (hx : opnd S x = .int kk a := by rfl) (hy : opnd S y = .int kk b := by rfl) : Wr P tab n r ops k (⟨some d, .call c, ty, pos, after, g⟩ :: l) K S := by
  refine .val (c := kk = kk) h hg ?_ rfl
  simp only [ev, hc, evMinMax, ha, hx, hy, iMax, if_true]

theorem Wr.minL {c : Call} {x y : Operand} {a b : Int} {kk : IntKind} (h : Wr P tab n r ops (k + 1) l K (S.set d (.int kk (iMin a b)))) (hg : runs ops S g = some true := by rfl) (hc : c.callee = .builtin .min := by rfl) (ha : c.args.toList = [x, y] := by rfl) (hx : opnd S x = .int kk a := by rfl) (hy : opnd S y = .int kk b := by rfl) : Wr P tab n r ops k (⟨some d, .call c, ty, pos, after, g⟩ :: l) K S := by
  refine .val (c := kk = kk) h hg ?_ rfl
  simp only [ev, hc, evMinMax, ha, hx, hy, iMin, Bool.false_eq_true, if_false]

/-- One of two values, by a test. -/
theorem Wr.pickI {c x y : Operand} {q : Bool} {kk : IntKind} {a b : Int} (h : Wr P tab n r ops (k + 1) l K (S.set d (.int kk (bif q then a else b)))) (hg : runs ops S g = some true := by rfl) (he : ev tab r k ⟨some d, .pick c x y, ty, pos, after, g⟩ S = .br q (.val (.int kk a)) (.val (.int kk b)) := by rfl) : Wr P tab n r ops k (⟨some d, .pick c x y, ty, pos, after, g⟩ :: l) K S := by
  cases q <;> exact .br hg he (fun e => by first | exact h | cases e) (fun e => by first | exact h | cases e)

theorem Wr.pickB {c x y : Operand} {q : Bool} {a b : Bool} (h : Wr P tab n r ops (k + 1) l K (S.set d (.bool (bif q then a else b)))) (hg : runs ops S g = some true := by rfl) (he : ev tab r k ⟨some d, .pick c x y, ty, pos, after, g⟩ S = .br q (.val (.bool a)) (.val (.bool b)) := by rfl) : Wr P tab n r ops k (⟨some d, .pick c x y, ty, pos, after, g⟩ :: l) K S := by
  cases q <;> exact .br hg he (fun e => by first | exact h | cases e) (fun e => by first | exact h | cases e)

/-- A slice of some elements that are no rows: the call's own row. -/
theorem Wr.litL {t m : Nat} {parts : Array (Nat × Operand)} (xs : List α) {e : Nat} {i : TI} {s1 b1 : Nat} {z1 : PV} (h : Wr P tab n r ops (k + 1) l K (((S.sub (oneSub (.row r k) .frz)).setH (.row r k) none).set d (.sl e (.own (.row r k)) (xs.map f))))
    (hg : runs ops S g = some true := by rfl) (ht : tab t = some ⟨.slice e, s1, b1, z1⟩ := by rfl) (hi : tab e = some i := by rfl) (hp : (parts.toList.map fun p => opndT tab e S p.2) = xs.map f := by rfl) (hr : parts.toList.map (·.1) = List.range m := by rfl)
    (hsz : (decide (m * i.size ≤ 16777216) && decide (0 < i.size)) = true := by rfl) (hpu : ((xs.map f).all fun y => decide (y.cells.length = i.size) && y.isPure) = true := by rfl) (hfz : (xs.map f).map PV.fz = xs.map f := by rfl) (how : (xs.map f).flatMap PV.owns = [] := by rfl) :
    Wr P tab n r ops k (⟨some d, .buildSlice t m parts, ty, pos, after, g⟩ :: l) K S := .lits (xs.map f) h hg ht hi hp hr hsz hpu hfz how

end
end Go.Proofs.Ytcahjpkmldmjdaa.Ab
