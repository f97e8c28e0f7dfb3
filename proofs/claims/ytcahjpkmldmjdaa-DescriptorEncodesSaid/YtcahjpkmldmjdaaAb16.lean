/-
  Abstract values for walks without memory: contracts of functions.
-/
import Derived.Test.YtcahjpkmldmjdaaAb15
namespace Go.Proofs.Ytcahjpkmldmjdaa.Ab
open Go

mutual
/-- The rows and variables that a value names. -/
def PV.ids : PV → List Id
  | .sl _ (.own id) _ => [id]
  | .ep _ (.own id) _ _ _ => [id]
  | .ptr id _ => [id]
  | .agg cs => PV.idss cs
  | .tup cs => PV.idss cs
  | .fn _ cs => PV.idss cs
  | _ => []
def PV.idss : List PV → List Id
  | [] => []
  | c :: cs => c.ids ++ PV.idss cs
end

mutual
/-- Other names. -/
def PV.ren (ρ : Id → Id) : PV → PV
  | .sl e (.own id) xs => .sl e (.own (ρ id)) xs
  | .ep e (.own id) xs i j => .ep e (.own (ρ id)) xs i j
  | .ptr id off => .ptr (ρ id) off
  | .agg cs => .agg (PV.rens ρ cs)
  | .tup cs => .tup (PV.rens ρ cs)
  | .fn f cs => .fn f (PV.rens ρ cs)
  | .dead => .dead
  | .int k n => .int k n
  | .bool b => .bool b
  | .str s => .str s
  | .nilp => .nilp
  | .nilf => .nilf
  | .nili => .nili
  | .sl e .ro xs => .sl e .ro xs
  | .sl e .full xs => .sl e .full xs
  | .ep e .ro xs i j => .ep e .ro xs i j
  | .ep e .full xs i j => .ep e .full xs i j
  | .rp cs off => .rp cs off
def PV.rens (ρ : Id → Id) : List PV → List PV
  | [] => []
  | c :: cs => c.ren ρ :: PV.rens ρ cs
end

theorem PV.rens_map (ρ : Id → Id) (cs : List PV) : PV.rens ρ cs = cs.map (PV.ren ρ) := by
  induction cs with
  | nil => rfl
  | cons c cs ih => simp [PV.rens, ih]

theorem PV.rens_get {ρ : Id → Id} {cs : List PV} {j : Nat} {y : PV} (h : (PV.rens ρ cs)[j]? = some y) : ∃ x, cs[j]? = some x ∧ y = x.ren ρ := by
  rw [PV.rens_map, List.getElem?_map] at h
  cases hx : cs[j]? with
  | none => simp [hx] at h
  | some x => simp [hx] at h; exact ⟨x, rfl, h.symm⟩

theorem PV.idss_mem {cs : List PV} {j : Nat} {x : PV} (h : cs[j]? = some x) {id : Id} (hid : id ∈ x.ids) : id ∈ PV.idss cs := by
  induction cs generalizing j with
  | nil => simp at h
  | cons c cs ih =>
    cases j with
    | zero => simp at h; subst h; simp [PV.idss, hid]
    | succ j => simp at h; simp [PV.idss, ih h]

theorem PV.isCell_ren {ρ : Id → Id} {y : PV} (h : y.isCell = true) : (y.ren ρ).isCell = true := by
  cases y with
  | sl e t xs => cases t <;> rfl
  | ep e t xs i j => cases t <;> rfl
  | agg cs => simp [PV.isCell] at h
  | tup cs => simp [PV.isCell] at h
  | _ => rfl

section
variable {P : Program}

/-- Values under other names, in another world. -/
theorem VR.ren {I0 I0' : Nat → Prop} {base base' : Nat → Prop} {om om' : Id → Option Nat} {w w' : World} {ρ : Id → Id}
    (him : ∀ b, Im I0 base om w b → Im I0' base' om' w' b ∧ w'.heap[b]? = w.heap[b]?) {p : PV} {v : Value} (h : VR P I0 base om w p v)
    (hid : ∀ id ∈ p.ids, (ρ id).isRow = id.isRow ∧ ∀ b, om id = some b → om' (ρ id) = some b ∧ w'.heap[b]? = w.heap[b]?) : VR P I0' base' om' w' (p.ren ρ) v := by
  have ownR : ∀ (id : Id) (e : TypeId) (xs : List PV) (v : Value), ((ρ id).isRow = id.isRow ∧ ∀ b, om id = some b → om' (ρ id) = some b ∧ w'.heap[b]? = w.heap[b]?) → OwnS P I0 base om w id e xs v → OwnS P I0' base' om' w' (ρ id) e xs v := by
    intro id e xs v hi ho
    rcases ho with h | ⟨b, cap, cur, hr, hb, rfl, hc, hm, hh, hs, hF⟩
    · exact .inl h
    · obtain ⟨h1, h2⟩ := hi.2 b hb
      exact .inr ⟨b, cap, cur, hi.1.trans hr, h1, rfl, hc, hm, h2.trans hh, hs, hF.mono fun y c hr => RR.mono P him hr⟩
  induction h with
  | dead v => exact .dead v
  | pure p v h =>
    have h' := RR.mono P him h
    have same : p.ren ρ = p := by
      cases h with
      | sl e t xs p cap g o fs ht hc hm hp hz hf hs hl hy hr => rcases ht with rfl | ⟨rfl, _⟩ <;> rfl
      | agg cs vs hn hy h =>
        simp only [PV.ren]
        congr 1
        rw [PV.rens_map]
        apply List.ext_getElem?
        intro j
        rw [List.getElem?_map]
        cases hj : cs[j]? with
        | none => rfl
        | some y =>
          have hjl := (List.getElem?_eq_some_iff.1 hj).1
          have hv : vs[j]? = some vs[j] := Array.getElem?_eq_getElem (by omega)
          have hr := h j y _ hj hv
          have hyc := hy j y hj
          simp only [Option.map_some, Option.some.injEq]
          generalize vs[j] = c at hr
          cases hr with
          | sl e t xs p cap g o fs ht _ _ _ _ _ _ _ _ _ => rcases ht with rfl | ⟨rfl, _⟩ <;> rfl
          | agg cs vs _ _ _ => simp [PV.isCell] at hyc
          | _ => rfl
      | _ => rfl
    rw [same]
    exact .pure _ _ h'
  | own id e xs v h => exact .own _ _ _ _ (ownR id e xs v (hid id (by simp [PV.ids])) h)
  | ptr id off b hr h =>
    obtain ⟨h1, h2⟩ := hid id (by simp [PV.ids])
    exact .ptr _ off b (h1.trans hr) (h2 b h).1
  | epr e t xs i j g o cap h hi =>
    have h' := RR.mono P him h
    obtain ⟨_, _, _, _, _, _, ht, _⟩ := h.sl_inv
    rcases ht with rfl | ⟨rfl, _⟩ <;> exact .epr e _ xs i j g o cap h' hi
  | epo e id xs i j b cap h hi => exact .epo e _ xs i j b cap (ownR id e xs _ (hid id (by simp [PV.ids])) h) hi
  | rp cs off b cur T fr hb hc hn h => exact .rp cs off b cur T fr (him b hb).1 ((him b hb).2.trans hc) hn (fun j y c h1 h2 => ⟨(h j y c h1 h2).1, RR.mono P him (h j y c h1 h2).2⟩)
  | agg cs vs hn hy h1 h ih =>
    refine .agg _ vs (by rw [PV.rens_map, List.length_map]; exact hn) ?_ h1 ?_
    · intro j y hj
      obtain ⟨x, hx, rfl⟩ := PV.rens_get hj
      exact PV.isCell_ren (hy j x hx)
    · intro j y c hj hc
      obtain ⟨x, hx, rfl⟩ := PV.rens_get hj
      exact ih j x c hx hc fun id hi => hid id (by simp only [PV.ids]; exact PV.idss_mem hx hi)
  | tup cs vs hn h ih =>
    refine .tup _ vs (by rw [PV.rens_map, List.length_map]; exact hn) ?_
    intro j y c hj hc
    obtain ⟨x, hx, rfl⟩ := PV.rens_get hj
    exact ih j x c hx hc fun id hi => hid id (by simp only [PV.ids]; exact PV.idss_mem hx hi)
  | fn f cs vs hn h ih =>
    refine .fn f _ vs (by rw [PV.rens_map, List.length_map]; exact hn) ?_
    intro j y c hj hc
    obtain ⟨x, hx, rfl⟩ := PV.rens_get hj
    exact ih j x c hx hc fun id hi => hid id (by simp only [PV.ids]; exact PV.idss_mem hx hi)

/-- The world of a call: names and blocks. -/
structure WRel (P : Program) (F : Fr) (om : Id → Option Nat) (w : World) (H : Id → Option (List PV)) : Prop where
  box : ∀ id cs, H id = some cs → BoxR P F.I0 F.base om w id cs
  inj : ∀ i j b, om i = some b → om j = some b → i = j
  lt : ∀ i b, om i = some b → b < w.heap.size
  loc : ∀ i b, om i = some b → F.base b ∨ ∃ k, i = .par k
  par : ∀ k, om (.par k) = F.om0 k
  i0 : ∀ b, F.I0 b → ¬ F.base b
  base_le : ∀ b, w.heap.size ≤ b → F.base b
  frame : ∀ b, ¬ F.base b → (∀ k, F.om0 k ≠ some b) → w.heap[b]? = F.w0.heap[b]?
  outer : Outer F.w0 w

theorem SRel.wrel {F : Fr} {om : Id → Option Nat} {a : Act} {w : World} {S : St} (h : SRel P F om a w S) : WRel P F om w S.H :=
  ⟨h.box, h.inj, h.lt, h.loc, h.par, h.i0, h.base_le, h.frame, h.outer⟩

/-- A CONTRACT: at these arguments (and these variables behind their pointers) the function comes back with this result (and leaves these variables so). -/
def Can (P : Program) (f : Nat) (args : List PV) (Hp : Id → Option (List PV)) (res : PV) (Hq : Id → Option (List PV)) : Prop :=
  Calls1 P f ∧ ∀ (F : Fr) (om : Id → Option Nat) (w : World) (vs : List Value), (F.base = fun b => w.heap.size ≤ b) → F.w0 = w → WRel P F om w Hp → (∀ i b, om i = some b → ∃ k, i = .par k) → args.length = vs.length →
    (∀ (j : Nat) (y : PV) (v : Value), args[j]? = some y → vs[j]? = some v → VR P F.I0 F.base om w y v) →
    Calls P f vs.toArray w fun e w' => ∃ v om', e = .returned v ∧ WRel P F om' w' Hq ∧ VR P F.I0 F.base om' w' res v

def H0 : Id → Option (List PV) := fun _ => none

/-! ### a function's body -/

def resOne (tab : Tab) (S : St) : ResultVar → Option PV
  | .tmp t => some (S.env t)
  | .cell t ty => match tab ty, S.env t with
    | some i, .ptr id off => match S.H id with
      | some cs => part i cs off
      | none => none
    | _, _ => none

def resList (tab : Tab) (S : St) : List ResultVar → Option (List PV)
  | [] => some []
  | r :: rs => match resOne tab S r, resList tab S rs with
    | some p, some ps => some (p :: ps)
    | _, _ => none

def resPV : List PV → PV
  | [p] => p
  | ps => .tup ps

/-- All rows but one are shared at the end; that one, or one variable, gets the name by which the caller knows it. -/
def endSub (keep : Option Id) : Id → Sub := fun i => if i.isRow then (if keep = some i then .keep else .frz) else .keep

def endName (keep : Option Id) : Id → Id := fun i => if keep = some i then (if i.isRow then .rrow 0 else .ret 0) else i

/-- What a body must come to. -/
def Fin (tab : Tab) (rs : List ResultVar) (res : PV) (Hq : Id → Option (List PV)) (S : St) : Prop :=
  ∃ (keep : Option Id) (ps : List PV), (∀ i, keep = some i → ∀ k, i ≠ .par k) ∧ resList tab S rs = some ps ∧
    (∀ id ∈ ((resPV ps).sub (endSub keep)).ids, keep = some id ∨ ∃ k, id = .par k) ∧ res = ((resPV ps).sub (endSub keep)).ren (endName keep) ∧
    ∀ id cs, Hq id = some cs → ∃ id0 cs0, (id0 = id ∧ (∃ k, id = .par k) ∨ keep = some id0 ∧ id = endName keep id0) ∧ S.H id0 = some cs0 ∧ cs = PV.rens (endName keep) (PV.subs (endSub keep) cs0) ∧
      ∀ i ∈ PV.idss (PV.subs (endSub keep) cs0), keep = some i ∨ ∃ k, i = .par k

def omEnd (om : Id → Option Nat) (keep : Option Id) : Id → Option Nat := fun i => match i with
  | .par k => om (.par k)
  | .rrow 0 => match keep with
    | some j => if j.isRow then om j else none
    | none => none
  | .ret 0 => match keep with
    | some j => if j.isRow then none else om j
    | none => none
  | _ => none

theorem omEnd_some {om : Id → Option Nat} {keep : Option Id} {i : Id} {b : Nat} (h : omEnd om keep i = some b) : ((∃ k, i = .par k) ∧ om i = some b) ∨ ∃ j, keep = some j ∧ i = endName keep j ∧ om j = some b := by
  unfold omEnd at h
  split at h
  · exact .inl ⟨⟨_, rfl⟩, h⟩
  · split at h
    · rename_i j
      split at h
      · rename_i hr
        exact .inr ⟨j, rfl, by simp [endName, hr], h⟩
      · cases h
    · cases h
  · split at h
    · rename_i j
      split at h
      · cases h
      · rename_i hr
        exact .inr ⟨j, rfl, by simp [endName, hr], h⟩
    · cases h
  · cases h

theorem omEnd_keep {om : Id → Option Nat} {keep : Option Id} {j : Id} (hk : keep = some j) : omEnd om keep (endName keep j) = om j := by
  subst hk
  unfold endName
  rw [if_pos rfl]
  cases hr : j.isRow <;> simp [omEnd, hr]

end
end Go.Proofs.Ytcahjpkmldmjdaa.Ab
