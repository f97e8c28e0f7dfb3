/-
  Abstract values for walks without memory: the state of a call, and what a step of the machine leaves of it.
-/
import Derived.Test.YtcahjpkmldmjdaaAb2
namespace Go.Proofs.Ytcahjpkmldmjdaa.Ab
open Go

structure St where
  env : Nat → PV
  H : Id → Option (List PV)

def upd (e : Nat → PV) (d : Nat) (v : PV) : Nat → PV := fun t => if t = d then v else e t

def St.put (S : St) (d : Option Nat) (v : PV) : St := match d with
  | none => S
  | some d => ⟨upd S.env d v, S.H⟩

def St.sub (S : St) (σ : Id → Sub) : St := ⟨fun t => (S.env t).sub σ, fun i => (S.H i).map (PV.subs σ)⟩

def St.setH (S : St) (id : Id) (o : Option (List PV)) : St := ⟨S.env, fun i => if i = id then o else S.H i⟩

/-- What is fixed for a call: the blocks that were there and stay; the blocks that are the call's own to change; the variables that came in; the world at the start; the number of slots. -/
structure Fr where
  I0 : Nat → Prop
  base : Nat → Prop
  om0 : Nat → Option Nat
  w0 : World
  n : Nat

/-- What is around the heap is as it was. -/
structure Outer (w w' : World) : Prop where
  os : w'.os = w.os
  tape : w'.tape = w.tape
  output : w'.output = w.output

theorem Outer.refl (w : World) : Outer w w := ⟨rfl, rfl, rfl⟩

theorem Outer.trans {a b c : World} (h : Outer a b) (k : Outer b c) : Outer a c := ⟨k.os.trans h.os, k.tape.trans h.tape, k.output.trans h.output⟩

structure SRel (P : Program) (F : Fr) (om : Id → Option Nat) (a : Act) (w : World) (S : St) : Prop where
  size : a.tmps.size = F.n
  defers : a.defers = []
  env : ∀ t, VR P F.I0 F.base om w (S.env t) (a.tmps.getD t undef)
  box : ∀ id cs, S.H id = some cs → BoxR P F.I0 F.base om w id cs
  inj : ∀ i j b, om i = some b → om j = some b → i = j
  lt : ∀ i b, om i = some b → b < w.heap.size
  loc : ∀ i b, om i = some b → F.base b ∨ ∃ k, i = .par k
  par : ∀ k, om (.par k) = F.om0 k
  i0 : ∀ b, F.I0 b → ¬ F.base b
  base_le : ∀ b, w.heap.size ≤ b → F.base b
  frame : ∀ b, ¬ F.base b → (∀ k, F.om0 k ≠ some b) → w.heap[b]? = F.w0.heap[b]?
  outer : Outer F.w0 w

theorem PV.sub_keep : ∀ (p : PV), p.sub (fun _ => .keep) = p := by
  intro p
  refine PV.rec (motive_1 := fun p => p.sub (fun _ => .keep) = p) (motive_2 := fun l => PV.subs (fun _ => .keep) l = l) ?_ ?_ ?_ ?_ ?_ ?_ ?_ ?_ ?_ ?_ ?_ ?_ ?_ ?_ ?_ ?_ p
  · rfl
  · intros; rfl
  · intros; rfl
  · intros; rfl
  · rfl
  · rfl
  · rfl
  · intro e t xs _; cases t <;> rfl
  · intro e t xs i j _; cases t <;> rfl
  · intros; rfl
  · intros; rfl
  · intro cs h; simp only [PV.sub, h]
  · intro cs h; simp only [PV.sub, h]
  · intro f cs h; simp only [PV.sub, h]
  · rfl
  · intro c cs h1 h2; simp only [PV.subs, h1, h2]

theorem PV.subs_keep (l : List PV) : PV.subs (fun _ => .keep) l = l := by
  rw [PV.subs_map]
  have : (PV.sub fun _ => Sub.keep) = id := funext PV.sub_keep
  rw [this, List.map_id]

theorem St.sub_keep (S : St) : S.sub (fun _ => .keep) = S := by
  cases S with
  | mk e h =>
    simp only [St.sub, PV.sub_keep]
    congr 1
    funext i
    cases h i <;> simp [PV.subs_keep]

theorem St.setH_self (S : St) (id : Id) : S.setH id (S.H id) = S := by
  cases S with
  | mk e h =>
    simp only [St.setH]
    congr 1
    funext i
    split <;> simp [*]

section
variable {P : Program} {F : Fr} {om : Id → Option Nat} {a : Act} {w : World} {S : St}

theorem SRel.baseLt (h : SRel P F om a w S) {b : Nat} (hb : ¬ F.base b) : b < w.heap.size := Nat.lt_of_not_le fun hh => hb (h.base_le b hh)

theorem SRel.imLt (h : SRel P F om a w S) {b : Nat} (hb : Im F.I0 F.base om w b) : b < w.heap.size := by
  obtain ⟨h1 | h1, _⟩ := hb
  · exact h.baseLt (h.i0 b h1)
  · exact h1.2

/-- A step: names of blocks anew, a world anew, some values turned, one variable written, one slot written. -/
theorem SRel.step (h : SRel P F om a w S) {om' : Id → Option Nat} {w' : World} {σ : Id → Sub} (E : Ext P F.I0 F.base om w om' w' σ) (id : Id) (o : Option (List PV))
    (hinj : ∀ i j b, om' i = some b → om' j = some b → i = j) (hlt : ∀ i b, om' i = some b → b < w'.heap.size) (hloc : ∀ i b, om' i = some b → F.base b ∨ ∃ k, i = .par k)
    (hpar : ∀ k, om' (.par k) = om (.par k)) (hsz : w.heap.size ≤ w'.heap.size)
    (hframe : ∀ b, ¬ F.base b → (∀ k, F.om0 k ≠ some b) → w'.heap[b]? = w.heap[b]?) (hout : Outer w w')
    (hbox : ∀ i, i ≠ id → i.isRow = false → ∀ b, om i = some b → om' i = some b ∧ w'.heap[b]? = w.heap[b]?)
    (hid : ∀ cs, o = some cs → BoxR P F.I0 F.base om' w' id cs)
    (d : Option Nat) (hd : ∀ t, d = some t → t < F.n) (p : PV) (v : Value) (hv : VR P F.I0 F.base om' w' p v) :
    SRel P F om' (a.put d v) w' (((S.sub σ).setH id o).put d p) := by
  refine ⟨?_, ?_, ?_, ?_, hinj, hlt, hloc, fun k => (hpar k).trans (h.par k), h.i0, fun b hb => h.base_le b (Nat.le_trans hsz hb), fun b hb hn => (hframe b hb hn).trans (h.frame b hb hn), h.outer.trans hout⟩
  · cases d <;> simp [Act.put, h.size]
  · cases d <;> simp [Act.put, h.defers]
  · intro t
    cases d with
    | none => exact VR.sub E (h.env t)
    | some d =>
      have hlt' := hd d rfl
      simp only [St.put, upd, Act.put]
      by_cases ht : t = d
      · subst ht
        rw [if_pos rfl]
        have : (a.tmps.setIfInBounds t v).getD t undef = v := by
          simp [Array.getD_eq_getD_getElem?, h.size, hlt']
        rw [this]
        exact hv
      · rw [if_neg ht]
        have : (a.tmps.setIfInBounds d v).getD t undef = a.tmps.getD t undef := by
          simp [Array.getD_eq_getD_getElem?, Array.getElem?_setIfInBounds_ne (Ne.symm ht)]
        rw [this]
        exact VR.sub E (h.env t)
  · intro i cs hi
    have hi' : ((S.sub σ).setH id o).H i = some cs := by cases d <;> exact hi
    simp only [St.setH] at hi'
    split at hi'
    · rename_i he; subst he; exact hid cs hi'
    · rename_i he
      simp only [St.sub] at hi'
      cases hc : S.H i with
      | none => simp [hc] at hi'
      | some cs0 =>
        simp [hc] at hi'
        subst hi'
        obtain ⟨hr, b, cur, T, hb, hh, hn, hrel⟩ := h.box i cs0 hc
        obtain ⟨h1, h2⟩ := hbox i he hr b hb
        refine ⟨hr, b, cur, T, h1, h2.trans hh, by rw [PV.subs_length]; exact hn, ?_⟩
        intro j y c hj hcj
        obtain ⟨x, hx, rfl⟩ := PV.subs_get hj
        obtain ⟨r1, r2, r3⟩ := hrel j x c hx hcj
        exact ⟨PV.isCell_sub r1, r2, VR.sub E r3⟩

/-- A step that makes a value and changes nothing that was there. -/
theorem SRel.grow (h : SRel P F om a w S) {w' : World} (hsz : w.heap.size ≤ w'.heap.size) (hh : ∀ b, b < w.heap.size → w'.heap[b]? = w.heap[b]?) (hout : Outer w w')
    (d : Option Nat) (hd : ∀ t, d = some t → t < F.n) (p : PV) (v : Value) (hv : VR P F.I0 F.base om w' p v) : SRel P F om (a.put d v) w' (S.put d p) := by
  have E : Ext P F.I0 F.base om w om w' (fun _ => .keep) := by
    refine ⟨fun b hb => ?_, fun id _ _ b hb => hb, fun id _ _ b hb => ⟨hb, hh b (h.lt id b hb)⟩, fun id _ h => by simp at h, fun id i x _ h => by simp at h⟩
    refine ⟨⟨?_, hb.2⟩, hh b (h.imLt hb)⟩
    rcases hb.1 with h1 | h1
    · exact .inl h1
    · exact .inr ⟨h1.1, Nat.lt_of_lt_of_le h1.2 hsz⟩
  have := h.step E (.loc 0 0) (S.H (.loc 0 0)) h.inj (fun i b hb => Nat.lt_of_lt_of_le (h.lt i b hb) hsz) h.loc (fun _ => rfl) hsz
    (fun b hb _ => hh b ((h.baseLt hb))) hout (fun i _ _ b hb => ⟨hb, hh b (h.lt i b hb)⟩) ?_ d hd p v hv
  · rwa [St.sub_keep, St.setH_self] at this
  · intro cs hcs
    obtain ⟨hr, b, cur, T, hb, hhb, hn, hrel⟩ := h.box _ cs hcs
    refine ⟨hr, b, cur, T, hb, (hh b (h.lt _ b hb)).trans hhb, hn, fun j y c h1 h2 => ?_⟩
    obtain ⟨r1, r2, r3⟩ := hrel j y c h1 h2
    refine ⟨r1, r2, ?_⟩
    have := VR.sub E r3
    rwa [PV.sub_keep] at this

theorem SRel.val (h : SRel P F om a w S) (d : Option Nat) (hd : ∀ t, d = some t → t < F.n) (p : PV) (v : Value) (hv : VR P F.I0 F.base om w p v) :
    SRel P F om (a.put d v) w (S.put d p) := h.grow (Nat.le_refl _) (fun _ _ => rfl) (.refl w) d hd p v hv

/-- What came of an operation. -/
def StepOK (P : Program) (F : Fr) (o : Oper) (a : Act) (w : World) (S' : St) : Prop :=
  ∃ om' v w', ((execOp a.eval o).run P w = .ok (.value v) w' ∨ ((execOp a.eval o).run P w = .ok .skip w' ∧ v = undef)) ∧ SRel P F om' (a.put o.dst v) w' S'

end
end Go.Proofs.Ytcahjpkmldmjdaa.Ab
