/-
  Abstract values for walks without memory: rows shared early; names changed; appends of rows of the call's own.
-/
import Derived.Test.YtcahjpkmldmjdaaAb20
namespace Go.Proofs.Ytcahjpkmldmjdaa.Ab
open Go

section
variable {P : Program} {tab : Tab}

/-- What reads as S reads as T. -/
def Imp (P : Program) (S T : St) : Prop := ∀ (F : Fr) (om : Id → Option Nat) (a : Act) (w : World), SRel P F om a w S → ∃ om', SRel P F om' a w T

variable {n : Nat} {N : St → Prop} {X : Nat → St → Prop} {R : St → Prop} {S T : St} {r k : Nat} {ops : Array Oper} {K : St → Prop} {l : List Oper}

theorem Wp.imp {c : Code} (hi : Imp P S T) (h : Wp P tab n c N X R T) : Wp P tab n c N X R S :=
  ⟨fun hT hm hc F om a w hn hr => by obtain ⟨om', hr'⟩ := hi F om a w hr; exact h.run hT hm hc F om' a w hn hr'⟩

theorem Wr.imp (hi : Imp P S T) (h : Wr P tab n r ops k l K T) : Wr P tab n r ops k l K S :=
  ⟨fun hT hc F om a w hn hr => by obtain ⟨om', hr'⟩ := hi F om a w hr; exact h.run hT hc F om' a w hn hr'⟩

def St.frz (S : St) (id : Id) : St := (S.sub (oneSub id .frz)).setH id none

theorem Imp.frz (id : Id) (hid : id.isRow = true) : Imp P S (S.frz id) := by
  intro F om a w h
  obtain ⟨t1, t2, t3⟩ := oneSub_form hid
  exact ⟨_, h.release hid t1 t2 t3 none (fun t h => by cases h) .dead undef (.dead _)⟩

theorem Wp.freeze {c : Code} (id : Id) (h : Wp P tab n c N X R (S.frz id)) (hid : id.isRow = true := by rfl) : Wp P tab n c N X R S := .imp (.frz id hid) h
theorem Wr.freeze (id : Id) (h : Wr P tab n r ops k l K (S.frz id)) (hid : id.isRow = true := by rfl) : Wr P tab n r ops k l K S := .imp (.frz id hid) h

def swp (a b : Id) (i : Id) : Id := if i = a then b else if i = b then a else i

theorem swp_swp (a b i : Id) : swp a b (swp a b i) = i := by
  unfold swp
  by_cases h1 : i = a
  · subst h1
    by_cases h2 : b = i
    · simp [h2]
    · simp [h2]
  · by_cases h2 : i = b
    · subst h2; simp [h1]
    · simp [h1, h2]

theorem swp_row {a b : Id} (h : a.isRow = b.isRow) (i : Id) : (swp a b i).isRow = i.isRow := by
  unfold swp
  split
  · rename_i e; subst e; exact h.symm
  · split
    · rename_i e; subst e; exact h
    · rfl

def Id.isPar : Id → Bool
  | .par _ => true
  | _ => false

def St.swap (S : St) (a b : Id) : St := ⟨fun t => (S.env t).ren (swp a b), fun i => (S.H (swp a b i)).map (PV.rens (swp a b))⟩

theorem Imp.swap (x y : Id) (hxy : x.isRow = y.isRow) (hx : x.isPar = false) (hy : y.isPar = false) : Imp P S (S.swap x y) := by
  intro F om a w h
  have hp : ∀ k, swp x y (.par k) = .par k := by
    intro k
    unfold swp
    rw [if_neg (fun e => by rw [← e] at hx; cases hx), if_neg (fun e => by rw [← e] at hy; cases hy)]
  have him : ∀ b, Im F.I0 F.base om w b → Im F.I0 F.base (fun i => om (swp x y i)) w b ∧ w.heap[b]? = w.heap[b]? := fun b hb => ⟨⟨hb.1, fun i => hb.2 _⟩, rfl⟩
  have hre : ∀ id : Id, (swp x y id).isRow = id.isRow ∧ ∀ b, om id = some b → om (swp x y (swp x y id)) = some b ∧ w.heap[b]? = w.heap[b]? :=
    fun id => ⟨swp_row hxy id, fun b hb => ⟨by rw [swp_swp]; exact hb, rfl⟩⟩
  refine ⟨fun i => om (swp x y i), h.size, h.defers, fun t => VR.ren him (h.env t) fun id _ => hre id, ?_, ?_, fun i b hb => h.lt _ b hb, ?_, ?_, h.i0, h.base_le, h.frame, h.outer⟩
  · intro i cs hcs
    cases hH : S.H (swp x y i) with
    | none => simp [St.swap, hH] at hcs
    | some cs0 =>
      simp [St.swap, hH] at hcs
      subst hcs
      obtain ⟨hr, b, cur, T, hb, hh, hn, hrel⟩ := h.box _ cs0 hH
      refine ⟨(swp_row hxy i).symm.trans hr, b, cur, T, hb, hh, by rw [PV.rens_map, List.length_map]; exact hn, ?_⟩
      intro j z c hj hc
      obtain ⟨x', hx', rfl⟩ := PV.rens_get hj
      obtain ⟨r1, r2, r3⟩ := hrel j x' c hx' hc
      exact ⟨PV.isCell_ren r1, r2, VR.ren him r3 fun id _ => hre id⟩
  · intro i j b hi hj
    have := h.inj _ _ b hi hj
    rw [← swp_swp x y i, this, swp_swp]
  · intro i b hb
    rcases h.loc _ b hb with h1 | ⟨k, hk⟩
    · exact .inl h1
    · refine .inr ⟨k, ?_⟩
      rw [← swp_swp x y i, hk, hp]
  · intro k
    show om (swp x y (.par k)) = _
    rw [hp]
    exact h.par k

theorem Wp.rename {c : Code} (x y : Id) (h : Wp P tab n c N X R (S.swap x y)) (hxy : x.isRow = y.isRow := by rfl) (hx : x.isPar = false := by rfl) (hy : y.isPar = false := by rfl) : Wp P tab n c N X R S := .imp (.swap x y hxy hx hy) h
theorem Wr.rename (x y : Id) (h : Wr P tab n r ops k l K (S.swap x y)) (hxy : x.isRow = y.isRow := by rfl) (hx : x.isPar = false := by rfl) (hy : y.isPar = false := by rfl) : Wr P tab n r ops k l K S := .imp (.swap x y hxy hx hy) h

theorem le_swap {T' : St} {a b : Id} (h : T'.le (S.swap a b)) (hi : Imp P S (S.swap a b)) : Imp P S T' := by
  intro F om x w hr
  obtain ⟨om', hr'⟩ := hi F om x w hr
  exact ⟨om', hr'.weak h⟩

variable {d : Nat} {op : Op} {ty : TypeId} {pos : String} {after : Array Edge} {g : Option (Nat × Bool)}

theorem evAppendTo_ro {rid : Id} {i : TI} {e tx : Nat} {id : Option Id} {xs ys : List PV} {tg : Tag} {e2 b2 : Nat} {z2 : PV} {s2 : Nat} (htx : tab tx = some ⟨.slice e2, s2, b2, z2⟩) (ht : tg.isOwn = false) :
    evAppendTo tab rid i e tx id xs (.sl e tg ys) = .go (e = e ∧ (xs.length + ys.length) * i.bytes ≤ 140737488355328 ∧ xs.length + ys.length ≤ 9223372036854775807 ∧ 0 < i.size) (.act (appSub id rid) rid none (.sl e (.own rid) (xs ++ ys))) := by
  unfold evAppendTo
  rw [htx]
  cases tg <;> first | rfl | cases ht

/-- append(own, plain ..). -/
theorem Wr.app {c : Call} {s x : Operand} {ts tx e : Nat} {i : TI} {sid : Id} {xs ys : List PV} {tg : Tag} {s1 b1 : Nat} {z1 : PV} {s2 b2 : Nat} {z2 : PV} (h : Wr P tab n r ops (k + 1) l K (((S.sub (twoSub sid .kill (.row r k) .frz)).setH (.row r k) none).set d (.sl e (.own (.row r k)) (xs ++ ys))))
    (hg : runs ops S g = some true := by rfl) (hc : c.callee = .builtin .append := by rfl) (ha : c.args.toList = [s, x] := by rfl) (hat : c.argTypes.toList = [ts, tx] := by rfl) (hts : tab ts = some ⟨.slice e, s1, b1, z1⟩ := by rfl) (htx : tab tx = some ⟨.slice e, s2, b2, z2⟩ := by rfl) (hi : tab e = some i := by rfl)
    (hs : opndT tab ts S s = .sl e (.own sid) xs := by rfl) (hx : opndT tab tx S x = .sl e tg ys := by rfl) (hid : sid.isRow = true := by rfl) (htg : tg.isOwn = false := by rfl) (hsz : (decide (0 < i.size) && decide (i.bytes ≤ 4096)) = true := by rfl) (hn : xs.length + ys.length ≤ 30000000000) :
    Wr P tab n r ops k (⟨some d, .call c, ty, pos, after, g⟩ :: l) K S := by
  simp only [Bool.and_eq_true, decide_eq_true_eq] at hsz
  refine .act h hg ?_ (⟨rfl, ?_, by omega, hsz.1⟩ : e = e ∧ (xs.length + ys.length) * i.bytes ≤ 140737488355328 ∧ xs.length + ys.length ≤ 9223372036854775807 ∧ 0 < i.size)
  · simp only [ev, hc, evAppend, ha, hat, hts, hi, hs, hx, hid, and_self, if_true]
    rw [evAppendTo_ro htx htg]
    simp [appSub]
  · have := Nat.mul_le_mul hn hsz.2
    omega

/-- append(nil, plain ..). -/
theorem Wr.app0 {c : Call} {s x : Operand} {ts tx e : Nat} {i : TI} {ys : List PV} {tg : Tag} {s1 b1 : Nat} {z1 : PV} {s2 b2 : Nat} {z2 : PV} (h : Wr P tab n r ops (k + 1) l K (((S.sub (oneSub (.row r k) .frz)).setH (.row r k) none).set d (.sl e (.own (.row r k)) ys)))
    (hg : runs ops S g = some true := by rfl) (hc : c.callee = .builtin .append := by rfl) (ha : c.args.toList = [s, x] := by rfl) (hat : c.argTypes.toList = [ts, tx] := by rfl) (hts : tab ts = some ⟨.slice e, s1, b1, z1⟩ := by rfl) (htx : tab tx = some ⟨.slice e, s2, b2, z2⟩ := by rfl) (hi : tab e = some i := by rfl)
    (hs : opndT tab ts S s = .sl e .full [] := by rfl) (hx : opndT tab tx S x = .sl e tg ys := by rfl) (htg : tg.isOwn = false := by rfl) (hsz : (decide (0 < i.size) && decide (i.bytes ≤ 4096)) = true := by rfl) (hn : ys.length ≤ 30000000000) :
    Wr P tab n r ops k (⟨some d, .call c, ty, pos, after, g⟩ :: l) K S := by
  simp only [Bool.and_eq_true, decide_eq_true_eq] at hsz
  refine .act h hg ?_ (⟨rfl, ?_, by simp; omega, hsz.1⟩ : e = e ∧ (([] : List PV).length + ys.length) * i.bytes ≤ 140737488355328 ∧ ([] : List PV).length + ys.length ≤ 9223372036854775807 ∧ 0 < i.size)
  · simp only [ev, hc, evAppend, ha, hat, hts, hi, hs, hx]
    rw [evAppendTo_ro htx htg]
    simp [appSub]
  · have := Nat.mul_le_mul hn hsz.2
    simp only [List.length_nil, Nat.zero_add]
    omega

/-- append(own, string ..). -/
theorem Wr.appS {c : Call} {s x : Operand} {ts tx e : Nat} {i : TI} {sid : Id} {xs : List PV} {b : ByteArray} {s1 b1 : Nat} {z1 : PV} {s2 b2 : Nat} {z2 : PV} (h : Wr P tab n r ops (k + 1) l K (((S.sub (twoSub sid .kill (.row r k) .frz)).setH (.row r k) none).set d (.sl e (.own (.row r k)) (xs ++ (strNums b).map (PV.int .u8)))))
    (hg : runs ops S g = some true := by rfl) (hc : c.callee = .builtin .append := by rfl) (ha : c.args.toList = [s, x] := by rfl) (hat : c.argTypes.toList = [ts, tx] := by rfl) (hts : tab ts = some ⟨.slice e, s1, b1, z1⟩ := by rfl) (htx : tab tx = some ⟨.str, s2, b2, z2⟩ := by rfl) (hi : tab e = some i := by rfl)
    (hs : opndT tab ts S s = .sl e (.own sid) xs := by rfl) (hx : opndT tab tx S x = .str b := by rfl) (hid : sid.isRow = true := by rfl) (hsz : (decide (i.size = 1) && decide (i.bytes = 1)) = true := by rfl) (hn : xs.length + b.size ≤ 30000000000) :
    Wr P tab n r ops k (⟨some d, .call c, ty, pos, after, g⟩ :: l) K S := by
  simp only [Bool.and_eq_true, decide_eq_true_eq] at hsz
  refine .act h hg ?_ (⟨hsz.1, ?_, by omega⟩ : i.size = 1 ∧ (xs.length + b.size) * i.bytes ≤ 140737488355328 ∧ xs.length + b.size ≤ 9223372036854775807)
  · simp only [ev, hc, evAppend, ha, hat, hts, hi, hs, hx, hid, and_self, if_true]
    unfold evAppendTo
    rw [htx]
    simp [appSub]
  · rw [hsz.2]; omega

/-- make, of n places. -/
theorem Wr.make {t : Nat} {x y : Operand} {a b : Int} {e : Nat} {i : TI} {s1 b1 : Nat} {z1 : PV} (h : Wr P tab n r ops (k + 1) l K (((S.sub (oneSub (.row r k) .frz)).setH (.row r k) none).set d (.sl e (.own (.row r k)) (List.replicate a.toNat i.zero))))
    (hg : runs ops S g = some true := by rfl) (ht : tab t = some ⟨.slice e, s1, b1, z1⟩ := by rfl) (hi : tab e = some i := by rfl) (hx : opnd S x = .int .i64 a := by rfl) (hy : opnd S y = .int .i64 b := by rfl) (hsz : (decide (0 < i.size) && decide (i.bytes ≤ 4096)) = true := by rfl) (hr : 0 ≤ a ∧ a ≤ b ∧ b ≤ 30000000000) :
    Wr P tab n r ops k (⟨some d, .makeSlice t x y, ty, pos, after, g⟩ :: l) K S := by
  simp only [Bool.and_eq_true, decide_eq_true_eq] at hsz
  refine .act h hg ?_ (⟨hr.1, hr.2.1, by omega, ?_, hsz.1⟩ : 0 ≤ a ∧ a ≤ b ∧ b ≤ 9223372036854775807 ∧ (i.bytes : Int) * b ≤ 281474976710656 ∧ 0 < i.size)
  · simp only [ev, evMake, ht, hi, hx, hy]
  · have h1 : (i.bytes : Int) * b ≤ 4096 * 30000000000 := Int.mul_le_mul (by omega) hr.2.2 (by omega) (by omega)
    omega

/-- make, empty. -/
theorem Wr.make0 {t : Nat} {x y : Operand} {b : Int} {e : Nat} {i : TI} {s1 b1 : Nat} {z1 : PV} (h : Wr P tab n r ops (k + 1) l K (((S.sub (oneSub (.row r k) .frz)).setH (.row r k) none).set d (.sl e (.own (.row r k)) [])))
    (hg : runs ops S g = some true := by rfl) (ht : tab t = some ⟨.slice e, s1, b1, z1⟩ := by rfl) (hi : tab e = some i := by rfl) (hx : opnd S x = .int .i64 0 := by rfl) (hy : opnd S y = .int .i64 b := by rfl) (hsz : (decide (0 < i.size) && decide (i.bytes ≤ 4096)) = true := by rfl) (hr : 0 ≤ b ∧ b ≤ 30000000000) :
    Wr P tab n r ops k (⟨some d, .makeSlice t x y, ty, pos, after, g⟩ :: l) K S := .make h hg ht hi hx hy hsz ⟨by omega, hr.1, hr.2⟩

/-- A slice of one element that is no aggregate. -/
theorem Wr.lit1 {t : Nat} {parts : Array (Nat × Operand)} {x : Operand} {e : Nat} {i : TI} {y : PV} {s1 b1 : Nat} {z1 : PV} (h : Wr P tab n r ops (k + 1) l K (((S.sub (oneSub (.row r k) .frz)).setH (.row r k) none).set d (.sl e (.own (.row r k)) [y])))
    (hg : runs ops S g = some true := by rfl) (ht : tab t = some ⟨.slice e, s1, b1, z1⟩ := by rfl) (hi : tab e = some i := by rfl) (hp : parts.toList = [(0, x)] := by rfl) (hx : Forced (opndT tab e S x) y := by constructor) (hsz : decide (i.size = 1) = true := by rfl) (hpu : (decide (y.cells.length = 1) && y.isPure && decide (y.owns = []) && decide (y.fz.isCell = true)) = true := by rfl) (hfz : y.fz = y := by rfl) :
    Wr P tab n r ops k (⟨some d, .buildSlice t 1 parts, ty, pos, after, g⟩ :: l) K S := by
  simp only [Bool.and_eq_true, decide_eq_true_eq] at hpu hsz
  have e1 : frzKill [] (.row r k) = oneSub (.row r k) .frz := by
    funext j
    simp [frzKill, oneSub]
  have hh : parts.toList.map (fun p => opndT tab e S p.2) = [y] := by rw [hp, List.map_cons, List.map_nil, hx.eq]
  refine .act (c := parts.toList.map (·.1) = List.range 1 ∧ 1 * i.size ≤ 16777216 ∧ 0 < i.size ∧ ((parts.toList.map fun p => opndT tab e S p.2).all fun y => decide (y.cells.length = i.size) && y.fz.isPure) = true ∧ (((parts.toList.map fun p => opndT tab e S p.2).flatMap PV.owns).all Id.isRow) = true) (σ := oneSub (.row r k) .frz) h hg ?_ ?_
  · simp only [ev, evBuildSlice, ht, hi]
    rw [hh]
    simp only [List.map_cons, List.map_nil, List.flatMap_cons, List.flatMap_nil, List.append_nil, hfz, hpu.1.2, e1]
  · rw [hh]
    refine ⟨by rw [hp]; rfl, by omega, by omega, ?_, ?_⟩
    · simp [hfz, hpu.1.1.1, hpu.1.1.2, hsz]
    · simp [hpu.1.2]

/-- A slice of some elements that are no rows. -/
theorem Wr.lits {t m : Nat} {parts : Array (Nat × Operand)} (ys : List PV) {e : Nat} {i : TI} {s1 b1 : Nat} {z1 : PV} (h : Wr P tab n r ops (k + 1) l K (((S.sub (oneSub (.row r k) .frz)).setH (.row r k) none).set d (.sl e (.own (.row r k)) ys)))
    (hg : runs ops S g = some true := by rfl) (ht : tab t = some ⟨.slice e, s1, b1, z1⟩ := by rfl) (hi : tab e = some i := by rfl) (hp : (parts.toList.map fun p => opndT tab e S p.2) = ys := by rfl) (hr : parts.toList.map (·.1) = List.range m := by rfl)
    (hsz : (decide (m * i.size ≤ 16777216) && decide (0 < i.size)) = true := by rfl) (hpu : (ys.all fun y => decide (y.cells.length = i.size) && y.isPure) = true := by rfl) (hfz : ys.map PV.fz = ys := by rfl) (how : ys.flatMap PV.owns = [] := by rfl) :
    Wr P tab n r ops k (⟨some d, .buildSlice t m parts, ty, pos, after, g⟩ :: l) K S := by
  simp only [Bool.and_eq_true, decide_eq_true_eq] at hsz
  have e1 : frzKill [] (.row r k) = oneSub (.row r k) .frz := by
    funext j
    simp [frzKill, oneSub]
  have hq : (ys.all fun y => decide (y.cells.length = i.size) && y.fz.isPure) = true := by
    rw [List.all_eq_true] at hpu ⊢
    intro y hy
    have h1 := hpu y hy
    have h2 : y.fz = y := by
      obtain ⟨j, hj⟩ := List.mem_iff_getElem?.1 hy
      have := congrArg (fun l : List PV => l[j]?) hfz
      simp only [List.getElem?_map, hj, Option.map_some, Option.some.injEq] at this
      exact this
    rw [h2]
    exact h1
  refine .act (c := parts.toList.map (·.1) = List.range m ∧ m * i.size ≤ 16777216 ∧ 0 < i.size ∧ ((parts.toList.map fun p => opndT tab e S p.2).all fun y => decide (y.cells.length = i.size) && y.fz.isPure) = true ∧ (((parts.toList.map fun p => opndT tab e S p.2).flatMap PV.owns).all Id.isRow) = true) (σ := oneSub (.row r k) .frz) h hg ?_ ?_
  · simp only [ev, evBuildSlice, ht, hi]
    rw [hp, how, e1, hfz]
  · rw [hp, how]
    exact ⟨hr, hsz.1, hsz.2, hq, rfl⟩

end
end Go.Proofs.Ytcahjpkmldmjdaa.Ab
