/-
  Abstract values for walks without memory: arrays of numbers, told as functions of the place.
-/
import Derived.Test.YtacdknbakjbpiaaAb35
import Derived.Test.YtacdknbakjbpiaaAb32
import Derived.ChangeKeysEq
namespace Go.Proofs.Ytacdknbakjbpiaa.Ab
open Go

def aZ : Nat → Int := fun _ => 0
def aOf (l : List Int) : Nat → Int := fun j => l.getD j 0
def aUp (A : Nat → Int) (x : Nat) (v : Int) : Nat → Int := fun j => if j = x then v else A j
def aLs (A : Nat → Int) : Nat → Nat → List Int
  | _, 0 => []
  | j, m + 1 => A j :: aLs A (j + 1) m
def aEq (m : Nat) (A B : Nat → Int) : Bool := (List.range m).all fun j => A j == B j
def aIdx (m : Nat) (q : Int) : Option Nat := if 0 ≤ q ∧ q < m then some q.toNat else none

theorem aIdx_spec {m : Nat} {q : Int} {x : Nat} (h : aIdx m q = some x) : (0 ≤ q ∧ q < m) ∧ x = q.toNat := by
  unfold aIdx at h
  split at h
  · cases h; exact ⟨by assumption, rfl⟩
  · cases h

theorem aLs_len (A : Nat → Int) : ∀ (m j : Nat), (aLs A j m).length = m
  | 0, _ => rfl
  | m + 1, j => by rw [aLs, List.length_cons, aLs_len A m]
theorem aLs_get (A : Nat → Int) : ∀ (m j x : Nat), x < m → (aLs A j m)[x]? = some (A (j + x))
  | m + 1, j, 0, _ => rfl
  | m + 1, j, x + 1, h => by
    rw [aLs, List.getElem?_cons_succ, aLs_get A m (j + 1) x (by omega)]
    congr 2
    omega

theorem arrN_get {cs : List PV} {off m : Nat} {A : Nat → Int} {k : IntKind} (hcs : (cs.drop off).take m = (aLs A 0 m).map (PV.int k)) {x : Nat} (hx : x < m) : cs[off + x]? = some (.int k (A x)) := by
  have : ((cs.drop off).take m)[x]? = cs[off + x]? := by rw [List.getElem?_take, if_pos hx, List.getElem?_drop]
  rw [← this, hcs, List.getElem?_map, aLs_get A m 0 x hx, Nat.zero_add]
  rfl

theorem arrN_put {cs : List PV} {off m : Nat} {A : Nat → Int} {k : IntKind} (hcs : (cs.drop off).take m = (aLs A 0 m).map (PV.int k)) (hlen : off + m ≤ cs.length) {x : Nat} (hx : x < m) (v : Int) :
    putCells cs (off + x) [.int k v] = cs.take off ++ (aLs (aUp A x v) 0 m).map (PV.int k) ++ cs.drop (off + m) := by
  apply List.ext_getElem?
  intro j
  rw [put_get (by simp; omega)]
  have ht : (cs.take off).length = off := by rw [List.length_take]; omega
  have hm : ((aLs (aUp A x v) 0 m).map (PV.int k)).length = m := by rw [List.length_map, aLs_len]
  by_cases h1 : j < off
  · rw [if_neg (by omega), List.append_assoc, List.getElem?_append_left (by omega), List.getElem?_take, if_pos h1]
  by_cases h2 : j < off + m
  · rw [List.getElem?_append_left (by rw [List.length_append]; omega), List.getElem?_append_right (by omega), ht, List.getElem?_map, aLs_get _ m 0 _ (by omega), Nat.zero_add]
    by_cases h3 : j = off + x
    · subst h3
      rw [if_pos (by simp)]
      simp [aUp]
    · rw [if_neg (by simp; omega)]
      obtain ⟨y, rfl⟩ : ∃ y, j = off + y := ⟨j - off, by omega⟩
      rw [arrN_get hcs (by omega)]
      simp only [Nat.add_sub_cancel_left, aUp, Option.map_some]
      rw [if_neg (by omega)]
  · rw [if_neg (by simp; omega), List.getElem?_append_right (by rw [List.length_append]; omega), List.length_append, ht, hm, List.getElem?_drop]
    congr 1
    omega

section
variable {P : Program} {tab : Tab}
variable {n : Nat} {N : St → Prop} {X : Nat → St → Prop} {R : St → Prop} {S T : St} {r k : Nat} {ops : Array Oper} {K : St → Prop} {l : List Oper}
variable {d : Nat} {op : Op} {ty : TypeId} {pos : String} {after : Array Edge} {g : Option (Nat × Bool)}

/-- A place in an array in a variable. -/
theorem Wr.idxA {t : Nat} {x ix : Operand} {m e off s1 b1 : Nat} {z1 : PV} {id : Id} {kk : IntKind} {q : Int} {y : Nat} {i : TI} (hq : aIdx m q = some y) (h : Wr P tab n r ops (k + 1) l K (S.set d (.ptr id (off + y)))) (hg : runs ops S g = some true := by rfl)
    (ht : tab t = some ⟨.array m e, s1, b1, z1⟩ := by rfl) (hi : tab e = some i := by rfl) (hs : i.size = 1 := by rfl) (hx : opnd S x = .ptr id off := by rfl) (hix : opnd S ix = .int kk q := by rfl) :
    Wr P tab n r ops k (⟨some d, .indexAddr t x ix, ty, pos, after, g⟩ :: l) K S := by
  obtain ⟨h0, rfl⟩ := aIdx_spec hq
  have e1 : PV.ptr id (off + q.toNat * i.size) = .ptr id (off + q.toNat) := by rw [hs, Nat.mul_one]
  refine .val (c := 0 ≤ q ∧ q < m) (v := .ptr id (off + q.toNat * i.size)) (by rw [e1]; exact h) hg ?_ h0
  simp only [ev, evIndexAddr, ht, hx, hix, hi]

/-- A number of an array in a variable. -/
theorem Wr.ldA {t : Nat} {x : Operand} {m off s1 b1 : Nat} {z1 : PV} {id : Id} {kk : IntKind} {q : Int} {y : Nat} {A : Nat → Int} {cs : List PV} (hq : aIdx m q = some y) (h : Wr P tab n r ops (k + 1) l K (S.set d (.int kk (A y)))) (hg : runs ops S g = some true := by rfl)
    (ht : tab t = some ⟨.int kk, s1, b1, z1⟩ := by rfl) (hx : opnd S x = .ptr id (off + y) := by rfl) (hH : S.H id = some cs := by rfl) (hcs : (cs.drop off).take m = (aLs A 0 m).map (PV.int kk) := by rfl) :
    Wr P tab n r ops k (⟨some d, .load t x, ty, pos, after, g⟩ :: l) K S := by
  obtain ⟨⟨h0, h1⟩, hy⟩ := aIdx_spec hq
  have hp : Ab.part (⟨.int kk, s1, b1, z1⟩ : TI) cs (off + y) = some (.int kk (A y)) := by
    rw [Ab.part, if_neg (by simp [TD.agg]), arrN_get hcs (by omega)]
  refine .val (c := True) h hg ?_ trivial
  simp only [ev, evLoad, ht, hx, hH, hp]

/-- A number of an array in a variable is written. -/
theorem Wr.stA {t : Nat} {x y : Operand} {m off b1 : Nat} {z1 : PV} {id : Id} {kk : IntKind} {q : Int} {p : Nat} {A : Nat → Int} {v : Int} {cs cs' : List PV} (hq : aIdx m q = some p) (h : Wr P tab n r ops (k + 1) l K (S.setH id (some cs'))) (hg : runs ops S g = some true := by rfl)
    (ht : tab t = some ⟨.int kk, 1, b1, z1⟩ := by rfl) (hx : opnd S x = .ptr id (off + p) := by rfl) (hy : opndT tab t S y = .int kk v := by rfl) (hH : S.H id = some cs := by rfl) (hcs : (cs.drop off).take m = (aLs A 0 m).map (PV.int kk) := by rfl) (hlen : decide (off + m ≤ cs.length) = true := by rfl)
    (hcs' : cs.take off ++ (aLs (aUp A p v) 0 m).map (PV.int kk) ++ cs.drop (off + m) = cs' := by rfl) :
    Wr P tab n r ops k (⟨none, .store t x y, ty, pos, after, g⟩ :: l) K S := by
  obtain ⟨⟨h0, h1⟩, hp⟩ := aIdx_spec hq
  have hlen := of_decide_eq_true hlen
  have e := arrN_put hcs hlen (x := p) (by omega) v
  rw [hcs'] at e
  refine .wr (c := (PV.int kk v).cells.length = 1 ∧ off + p + 1 ≤ cs.length ∧ (PV.int kk v).live = true) (id := id) (cs := putCells cs (off + p) (PV.int kk v).cells) (by show Wr P tab n r ops (k + 1) l K (S.setH id (some (putCells cs (off + p) [.int kk v]))); rw [e]; exact h) hg ?_ ⟨rfl, by omega, rfl⟩
  simp only [ev, evStore, ht, hx, hy, hH]

/-- A number of an array that is a value. -/
theorem Wr.ixV {t : Nat} {x ix : Operand} {m e s1 b1 b2 : Nat} {z1 z2 : PV} {kk kq : IntKind} {q : Int} {y : Nat} {A : Nat → Int} {cs : List PV} (hq : aIdx m q = some y) (h : Wr P tab n r ops (k + 1) l K (S.set d (.int kk (A y)))) (hg : runs ops S g = some true := by rfl)
    (ht : tab t = some ⟨.array m e, s1, b1, z1⟩ := by rfl) (he : tab e = some ⟨.int kk, 1, b2, z2⟩ := by rfl) (hx : opnd S x = .agg cs := by rfl) (hix : opnd S ix = .int kq q := by rfl) (hcs : (cs.drop 0).take m = (aLs A 0 m).map (PV.int kk) := by rfl) :
    Wr P tab n r ops k (⟨some d, .index t x ix, ty, pos, after, g⟩ :: l) K S := by
  obtain ⟨⟨h0, h1⟩, rfl⟩ := aIdx_spec hq
  have hp : Ab.part (⟨.int kk, 1, b2, z2⟩ : TI) cs (q.toNat * 1) = some (.int kk (A q.toNat)) := by
    have := arrN_get hcs (x := q.toNat) (by omega)
    rw [Nat.zero_add] at this
    rw [Ab.part, if_neg (by simp [TD.agg]), Nat.mul_one, this]
  refine .val (c := 0 ≤ q ∧ q < m) h hg ?_ ⟨h0, h1⟩
  simp only [ev, evIndex, ht, hx, hix, he, hp]

/-- A variable told otherwise. -/
theorem Wr.nowH (id : Id) {cs ds : List PV} (he : cs = ds) (h1 : Wr P tab n r ops k l K (S.setH id (some ds))) (hH : S.H id = some cs := by rfl) : Wr P tab n r ops k l K S := by
  rw [← he, ← hH, St.setH_self] at h1
  exact h1

/-! ### a variable that is written no more -/

inductive EqB (S : St) (id : Id) (cs : List PV) : List (Nat × PV) → Prop
  | nil : EqB S id cs []
  | cons {t : Nat} {v : PV} {l : List (Nat × PV)} (h : S.env t = v) (hv : v.sub (oneSub id .kill) = v) (hl : EqB S id cs l) : EqB S id cs ((t, v) :: l)
  | ptr {t off : Nat} {l : List (Nat × PV)} (h : S.env t = .ptr id off) (hl : EqB S id cs l) : EqB S id cs ((t, .rp cs off) :: l)

inductive EqBH (S : St) (id : Id) : List (Id × List PV) → Prop
  | nil : EqBH S id []
  | cons {t : Id} {v : List PV} {l : List (Id × List PV)} (h : S.H t = some v) (hn : decide (t = id) = false) (hv : PV.subs (oneSub id .kill) v = v) (hl : EqBH S id l) : EqBH S id ((t, v) :: l)

def isLoc : Id → Bool
  | .loc _ _ => true
  | _ => false

theorem Imp.still (id : Id) {cs : List PV} {l : List (Nat × PV)} {hs : List (Id × List PV)} (hH : S.H id = some cs) (h1 : EqB S id cs l) (h2 : EqBH S id hs) (hp : cs.all PV.isPure1 = true) (hpar : isLoc id = true) : Imp P S (St.of l hs) := by
  intro F om a w h
  obtain ⟨hrow, b, cur, T, hb, hh, hn, hrel⟩ := h.box id cs hH
  have hom : ∀ i c, (if i = id then none else om i) = some c → om i = some c ∧ i ≠ id := by
    intro i c hc
    split at hc
    · cases hc
    · exact ⟨hc, by assumption⟩
  have him : ∀ c, Im F.I0 F.base om w c → Im F.I0 F.base (fun i => if i = id then none else om i) w c := fun c hc => ⟨hc.1, fun i hi => hc.2 i (hom i c hi).1⟩
  have hbase : F.base ≤ b := by
    rcases h.loc id b hb with h3 | ⟨q, rfl⟩
    · exact h3
    · cases hpar
  have hbI : Im F.I0 F.base (fun i => if i = id then none else om i) w b := ⟨.inr ⟨hbase, h.lt id b hb⟩, fun i hi => (hom i b hi).2 (h.inj i id b (hom i b hi).1 hb)⟩
  have E : Ext P F.I0 F.base om w (fun i => if i = id then none else om i) w (oneSub id .kill) := by
    refine ⟨fun c hc => ⟨him c hc, rfl⟩, fun i hr hk c hc => ?_, fun i hr hk c hc => ?_, fun i hr hf => ?_, fun i q x hr hu => ?_⟩
    · have : i ≠ id := fun e => hk (by simp [oneSub, e])
      simp only [if_neg this]
      exact hc
    · have : i ≠ id := fun e => by subst e; rw [hrow] at hr; cases hr
      simp only [if_neg this]
      exact ⟨hc, trivial⟩
    · unfold oneSub at hf
      split at hf <;> cases hf
    · unfold oneSub at hu
      split at hu <;> cases hu
  have hcell : ∀ (j : Nat) (y : PV) (c : Value), cs[j]? = some y → cur[j]? = some c → y.isCell = true ∧ RR P (Im F.I0 F.base (fun i => if i = id then none else om i) w) w y c := by
    intro j y c hj hc
    obtain ⟨r1, r2, r3⟩ := hrel j y c hj hc
    have hpu : y.isPure = true := by
      have := List.all_eq_true.1 hp y (List.mem_of_getElem? hj)
      cases y <;> first | exact this | cases r1
    exact ⟨r1, RR.mono P (fun c hc => ⟨him c hc, rfl⟩) (r3.pureRR hpu)⟩
  refine ⟨fun i => if i = id then none else om i, h.size, h.defers, fun t => ?_, fun i es hi => ?_, fun i j c hi hj => h.inj i j c (hom i c hi).1 (hom j c hj).1, fun i c hi => h.lt i c (hom i c hi).1, fun i c hi => h.loc i c (hom i c hi).1, fun q => ?_, h.i0, h.base_le, h.frame, h.outer⟩
  · show VR P F.I0 F.base _ w (lookE l t) _
    have ht := h.env t
    induction h1 with
    | nil => exact .dead _
    | cons he hv hl ih =>
      unfold lookE
      split
      · rename_i e
        subst e
        rw [he] at ht
        have := VR.sub E ht
        rw [hv] at this
        exact this
      · exact ih
    | ptr he hl ih =>
      unfold lookE
      split
      · rename_i e
        subst e
        rw [he] at ht
        obtain ⟨b', _, hb', hv⟩ := ht.ptr_inv
        rw [hb] at hb'
        cases hb'
        rw [hv]
        exact .rp cs _ b cur T (0, 0) hbI hh hn hcell
      · exact ih
  · change lookH hs i = some es at hi
    induction h2 with
    | nil => cases hi
    | cons he hne hv hl ih =>
      unfold lookH at hi
      split at hi
      · rename_i e
        subst e
        cases hi
        have hne := of_decide_eq_false hne
        obtain ⟨g1, b2, cur2, T2, g2, g3, g4, g5⟩ := h.box _ _ he
        refine ⟨g1, b2, cur2, T2, by simp only [if_neg hne]; exact g2, g3, g4, fun j y c hj hc => ?_⟩
        obtain ⟨r1, r2, r3⟩ := g5 j y c hj hc
        refine ⟨r1, r2, ?_⟩
        have := VR.sub E r3
        have hy : y.sub (oneSub id .kill) = y := by
          have h3 := congrArg (fun z => z[j]?) hv
          simp only [PV.subs_map, List.getElem?_map, hj, Option.map_some, Option.some.injEq] at h3
          exact h3
        rwa [hy] at this
      · exact ih hi
  · show (if Id.par q = id then none else om (.par q)) = _
    rw [if_neg, h.par]
    rintro rfl
    cases hpar

/-- The whole of an array in a variable that is written no more, as a slice. -/
theorem Wr.slA {t : Nat} {x : Operand} {m e off s1 b1 b2 : Nat} {z1 z2 : PV} {kk : IntKind} {A : Nat → Int} {cs : List PV} (h : Wr P tab n r ops (k + 1) l K (S.set d (.sl e .ro ((aLs A 0 m).map (PV.int kk))))) (hg : runs ops S g = some true := by rfl)
    (ht : tab t = some ⟨.array m e, s1, b1, z1⟩ := by rfl) (he : tab e = some ⟨.int kk, 1, b2, z2⟩ := by rfl) (hx : opnd S x = .rp cs off := by rfl) (hcs : (cs.drop off).take m = (aLs A 0 m).map (PV.int kk) := by rfl) (hlen : (decide (off + m ≤ cs.length) && decide (0 < m) && decide (m ≤ 1000000)) = true := by rfl) :
    Wr P tab n r ops k (⟨some d, .slice t x none none none, ty, pos, after, g⟩ :: l) K S := by
  simp only [Bool.and_eq_true, decide_eq_true_eq] at hlen
  obtain ⟨⟨hl1, hl2⟩, hl3⟩ := hlen
  refine .stepS (S' := S.put (some d) (.sl e .ro ((aLs A 0 m).map (PV.int kk)))) hg (fun hT F om a w hr hd => ?_) h
  have h1 := opnd_VR hr x
  rw [hx] at h1
  obtain ⟨b, cur, T, fr, hv, hb, hh, hn, hrel⟩ := h1.rp_inv
  have hu := und_array (hT t _ ht)
  have hsz := run_sizeOf (hT e _ he) w
  have hce : P.cellsOf e = 1 := (hT e _ he).cellsOf
  have hadd : (⟨b, off, none⟩ : Addr).add 0 = ⟨b, off, none⟩ := by simpa using add_mk b off 0
  have hL : ((aLs A 0 m).map (PV.int kk)).length = m := by rw [List.length_map, aLs_len]
  refine step_val hr hd (v := .slice (some ⟨b, off, none⟩) m m) ?_ ?_
  · simp [execOp, Instr.sliceAt, run_underlying hu, hv, Instr.sureAddr, Instr.sliceBounds, hsz]
    exact fun _ => hadd
  · have hfs : ∀ (j : Nat), j < m → cur[off + j]? = some (.int kk (A j)) := by
      intro j hj
      have g1 := arrN_get hcs hj
      have hlt : off + j < cur.size := by omega
      obtain ⟨_, g2⟩ := hrel (off + j) _ cur[off + j] g1 (Array.getElem?_eq_getElem hlt)
      rw [Array.getElem?_eq_getElem hlt]
      generalize cur[off + j] = v at g2 ⊢
      cases g2 with
      | int _ _ => rfl
    have := RR.sl_mk P (Im := Im F.I0 F.base om w) (w := w) (e := e) (t := .ro) (xs := (aLs A 0 m).map (PV.int kk)) (p := some ⟨b, off, none⟩) (cap := m) (g := b) (o := off) (fs := (aLs A 0 m).map (Value.int kk)) (.inl rfl) (by omega) (by simp [maxLen]; omega)
      (fun _ => ⟨rfl, hb⟩) (fun h => by simp at h) ?_ ?_
    · rw [hL] at this
      exact .pure _ _ this
    · refine ⟨by simp [hce], ?_, ?_, ?_⟩
      · intro i y hy
        rw [List.getElem?_map] at hy
        cases hq : (aLs A 0 m)[i]? with
        | none => simp [hq] at hy
        | some q => simp [hq] at hy; subst hy; simp [PV.cells, hce]
      · intro i y j z hy hz
        rw [List.getElem?_map] at hy
        cases hq : (aLs A 0 m)[i]? with
        | none => simp [hq] at hy
        | some q =>
          simp [hq] at hy
          subst hy
          cases j with
          | zero => simp [PV.cells] at hz; subst hz; rfl
          | succ j => simp [PV.cells] at hz
      · intro i y j z c hy hz hc
        rw [List.getElem?_map] at hy
        cases hq : (aLs A 0 m)[i]? with
        | none => simp [hq] at hy
        | some q =>
          simp [hq] at hy
          subst hy
          cases j with
          | zero =>
            simp [PV.cells] at hz
            subst hz
            rw [hce, Nat.mul_one, Nat.add_zero, List.getElem?_map, hq] at hc
            simp at hc
            subst hc
            exact .int _ _
          | succ j => simp [PV.cells] at hz
    · intro j c hj
      rw [List.getElem?_map] at hj
      cases hq : (aLs A 0 m)[j]? with
      | none => simp [hq] at hj
      | some q =>
        simp [hq] at hj
        subst hj
        have hjm : j < m := by
          have := (List.getElem?_eq_some_iff.1 hq).1
          rwa [aLs_len] at this
        rw [aLs_get A m 0 j hjm, Nat.zero_add] at hq
        cases hq
        rw [cell_of_row w b (off + j) cur T fr hh]
        exact hfs j hjm

end

/-! ### arrays compared -/

theorem run_eqItems_ints {P : Program} (w : World) {e : TypeId} {kk : IntKind} {i : TI} (he : TIOk P e i) (hd : i.desc = .int kk) (dd m : Nat) (A B : Nat → Int) : ∀ is : List Nat, (∀ j ∈ is, j < m) →
    (Op.eqItems (dd + 1) e 1 ((aLs A 0 m).map (Value.int kk)).toArray ((aLs B 0 m).map (Value.int kk)).toArray is).run P w = .ok (is.all fun j => A j == B j) w
  | [], _ => by simp [Op.eqItems]
  | j :: is, h => by
    have ih := run_eqItems_ints w he hd dd m A B is fun x hx => h x (.tail _ hx)
    have hj := h j (.head _)
    have hu : P.underlying e = some (.int kk) := by
      have he' := he.und
      rw [hd] at he'
      obtain ⟨u, h1, h2⟩ := he'
      cases u <;> first | (cases h2; exact h1) | cases h2
    have hag := run_isAgg he w
    rw [hd] at hag
    have hpt : ∀ C : Nat → Int, (Go.part e ((aLs C 0 m).map (Value.int kk)).toArray (j * 1)).run P w = .ok (.int kk (C j)) w := by
      intro C
      have := aLs_get C m 0 j hj
      rw [Nat.zero_add] at this
      simp [Go.part, hag, TD.agg, this]
    simp only [Op.eqItems, Sem.run_bind, hpt, Result.andThen_ok, run_equalIn_int w dd e kk kk _ _ hu]
    by_cases hab : A j = B j
    · simp [hab, ih]
    · simp [hab]

section
variable {P : Program} {t e m : Nat} {kk : IntKind} {s1 b1 b2 : Nat} {z1 z2 : PV}

theorem eqlA (ht : TIOk P t ⟨.array m e, s1, b1, z1⟩) (he : TIOk P e ⟨.int kk, 1, b2, z2⟩) (hg : P.eqGuardType P.depth t = false) (x y : Operand) (A B : Nat → Int) (w : World) :
    (do eqGuard .eql t x y (.agg ((aLs A 0 m).map (Value.int kk)).toArray) (.agg ((aLs B 0 m).map (Value.int kk)).toArray); binOp .eql t (.agg ((aLs A 0 m).map (Value.int kk)).toArray) (.agg ((aLs B 0 m).map (Value.int kk)).toArray) : Sem Value).run P w = .ok (.bool (aEq m A B)) w := by
  obtain ⟨I, z, hI, hIs, _⟩ := he.info
  have hce : P.cellsOf e = 1 := he.cellsOf
  have := run_eqItems_ints w he rfl 9998 m A B (List.range m) (fun j hj => List.mem_range.1 hj)
  simp only [Sem.run_bind, run_eqGuard_agg _ _ _ _ _ _ _ hg, Result.andThen_ok, run_eql_struct, run_equalIn_array w 9999 _ _ (und_array ht) hI, hce, this]
  rfl

theorem neqA (ht : TIOk P t ⟨.array m e, s1, b1, z1⟩) (he : TIOk P e ⟨.int kk, 1, b2, z2⟩) (hg : P.eqGuardType P.depth t = false) (x y : Operand) (A B : Nat → Int) (w : World) :
    (do eqGuard .neq t x y (.agg ((aLs A 0 m).map (Value.int kk)).toArray) (.agg ((aLs B 0 m).map (Value.int kk)).toArray); binOp .neq t (.agg ((aLs A 0 m).map (Value.int kk)).toArray) (.agg ((aLs B 0 m).map (Value.int kk)).toArray) : Sem Value).run P w = .ok (.bool (!(aEq m A B))) w := by
  obtain ⟨I, z, hI, hIs, _⟩ := he.info
  have hce : P.cellsOf e = 1 := he.cellsOf
  have := run_eqItems_ints w he rfl 9998 m A B (List.range m) (fun j hj => List.mem_range.1 hj)
  simp only [Sem.run_bind, run_eqGuard_agg _ _ _ _ _ _ _ hg, Result.andThen_ok, run_neq_struct, run_equalIn_array w 9999 _ _ (und_array ht) hI, hce, this]
  rfl
end
end Go.Proofs.Ytacdknbakjbpiaa.Ab
