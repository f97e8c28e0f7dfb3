/-
  Abstract values for walks without memory: regions that draw their order, by tables.
  A table tells, for each phase of the region, what each slot holds once its operation has been carried out. Operations that only make a value may come in any order;
  those that turn the state (the writers) come one after the other, each ends a phase.
-/
import Derived.Test.YtcahjpkmldmjdaaAb29
namespace Go.Proofs.Ytcahjpkmldmjdaa.Ab
open Go

def updL (e : Nat → PV) : List (Nat × PV) → Nat → PV
  | [] => e
  | (t, v) :: l => upd (updL e l) t v

theorem updL_same {e : Nat → PV} {l : List (Nat × PV)} (h : ∀ x ∈ l, e x.1 = x.2) : updL e l = e := by
  induction l with
  | nil => rfl
  | cons x l ih =>
    obtain ⟨t, v⟩ := x
    have h1 := ih fun y hy => h y (.tail _ hy)
    have h2 := h (t, v) (.head _)
    funext q
    show upd (updL e l) t v q = e q
    rw [h1]
    unfold upd
    split
    · rename_i e'; subst e'; exact h2.symm
    · rfl

def opAt : List Oper → Nat → List Oper
  | [], _ => []
  | o :: _, 0 => [o]
  | _ :: l, i + 1 => opAt l i

theorem opAt_some {l : List Oper} {i : Nat} {o : Oper} (h : l[i]? = some o) : opAt l i = [o] := by
  induction l generalizing i with
  | nil => simp at h
  | cons x l ih =>
    cases i with
    | zero => simp at h; subst h; rfl
    | succ i => simp at h; exact ih h

def bindsOn (o : Oper) : List Nat := (o.after.toList.filter (Region.binds .any)).map (·.on)

def dstAt (t : Nat) : List Oper → Nat → Option Nat
  | [], _ => none
  | o :: l, i => if o.dst = some t then some i else dstAt t l (i + 1)

structure Ph where
  A : List (Nat × PV)
  B : List (Nat × PV)
  H : List (Id × List PV)

def phAt : List Ph → Nat → Ph
  | [], _ => ⟨[], [], []⟩
  | p :: _, 0 => p
  | _ :: l, i + 1 => phAt l i

def kenv (l : List Oper) (p : Ph) (I : Array Bool) (t : Nat) : PV :=
  match dstAt t l 0 with
  | none => lookE p.A t
  | some j => if I.getD j false then lookE p.A t else lookE p.B t

def kst (l : List Oper) (p : Ph) (I : Array Bool) : St := ⟨kenv l p I, lookH p.H⟩

def rdL (ra rb : List Nat) (p : Ph) : List (Nat × PV) := ra.map (fun t => (t, lookE p.A t)) ++ rb.map (fun t => (t, lookE p.B t))

/-- What operation i reads stands in the tables: of the first kind, what is made ahead of it; of the second, what is written only behind it. -/
def rdOK (l : List Oper) (i : Nat) (ra rb : List Nat) : Bool :=
  ra.all (fun t => match dstAt t l 0 with
    | none => true
    | some j => match l[i]? with
      | some o => (bindsOn o).contains j
      | none => false) &&
  rb.all (fun t => match dstAt t l 0 with
    | none => false
    | some j => match l[j]? with
      | some o => j == i || (bindsOn o).contains i
      | none => false)

def mapG (g : PV → PV) : List (Nat × PV) → List (Nat × PV)
  | [] => []
  | (t, v) :: l => (t, g v) :: mapG g l

/-- What a table tells behind a writer: of old slots, what the writer leaves of them. -/
inductive EqG (g : PV → PV) (A : List (Nat × PV)) (ok : Nat → Bool) : List (Nat × PV) → Prop
  | nil : EqG g A ok []
  | new {t : Nat} {x : PV} {l : List (Nat × PV)} (h : ok t = true) (hl : EqG g A ok l) : EqG g A ok ((t, x) :: l)
  | old {t : Nat} {x : PV} {l : List (Nat × PV)} (h : g (lookE A t) = x) (hl : EqG g A ok l) : EqG g A ok ((t, x) :: l)

theorem EqG.look {g : PV → PV} {A : List (Nat × PV)} {ok : Nat → Bool} {l : List (Nat × PV)} (h : EqG g A ok l) {t : Nat} (ht : ok t = false) : lookE l t = .dead ∨ lookE l t = g (lookE A t) := by
  induction h with
  | nil => exact .inl rfl
  | new h hl ih =>
    simp only [lookE]
    split
    · rename_i e; subst e; rw [h] at ht; cases ht
    · exact ih
  | old h hl ih =>
    simp only [lookE]
    split
    · rename_i e; subst e; exact .inr h.symm
    · exact ih

theorem look_mapG {g : PV → PV} (hg : g .dead = .dead) (l : List (Nat × PV)) (t : Nat) : lookE (mapG g l) t = g (lookE l t) := by
  induction l with
  | nil => exact hg.symm
  | cons x l ih =>
    obtain ⟨d, v⟩ := x
    simp only [mapG, lookE]
    split
    · rfl
    · exact ih

theorem look_append (l m : List (Nat × PV)) (t : Nat) (h : ∀ x ∈ l, x.1 ≠ t) : lookE (l ++ m) t = lookE m t := by
  induction l with
  | nil => rfl
  | cons x l ih =>
    obtain ⟨d, v⟩ := x
    simp only [List.cons_append, lookE]
    rw [if_neg fun e => h (d, v) (.head _) e.symm]
    exact ih fun y hy => h y (.tail _ hy)

def updO (e : Nat → PV) (d : Option Nat) (v : Nat → PV) : Nat → PV := match d with
  | none => e
  | some d => upd e d (v d)

inductive EqHf (H : Id → Option (List PV)) : List (Id × List PV) → Prop
  | nil : EqHf H []
  | cons {t : Id} {v : List PV} {l : List (Id × List PV)} (h : H t = some v) (hl : EqHf H l) : EqHf H ((t, v) :: l)

theorem EqHf.look {H : Id → Option (List PV)} {l : List (Id × List PV)} (h : EqHf H l) {id : Id} {cs : List PV} (hc : lookH l id = some cs) : H id = some cs := by
  induction h with
  | nil => cases hc
  | cons he hl ih =>
    unfold lookH at hc
    split at hc
    · rename_i e; subst e; cases hc; exact he
    · exact ih hc

section
variable (P : Program) (tab : Tab) (n r : Nat) (ops : Array Oper) (ph : List Ph) (req : List (List Nat)) (dn : List (List Nat)) (wrs : List Nat)

/-- The operations that make a value, phase by phase. -/
inductive VL : List (Nat × Nat) → Prop
  | nil : VL []
  | cons {i k d : Nat} {l : List (Nat × Nat)} (ra rb : List Nat) (h : ∀ (e : Nat → PV) (K : St → Prop), (∀ k', Wr P tab n r ops k' [] K ⟨upd (updL e (rdL ra rb (phAt ph k))) d (lookE (phAt ph k).A d), lookH (phAt ph k).H⟩) → Wr P tab n r ops i (opAt ops.toList i) K ⟨updL e (rdL ra rb (phAt ph k)), lookH (phAt ph k).H⟩)
      (hd : (ops.toList[i]?).bind (·.dst) = some d) (hr : rdOK ops.toList i ra rb = true) (hl : VL l) : VL ((i, k) :: l)

/-- May operation j be done in a phase in which the writers of d are? -/
def mayBe (j : Nat) (d : List Nat) : Bool := if wrs.contains j then d.contains j else (req.getD j []).all d.contains

/-- Is a slot written by an operation that is not done before i is, in a phase in which the writers of d are? -/
def okNew (i : Nat) (d : List Nat) (t : Nat) : Bool := match dstAt t ops.toList 0 with
  | none => false
  | some j => j == i || !mayBe req wrs j d

/-- The writers: from phase to phase. -/
inductive WL : List (Nat × Nat × Nat) → Prop
  | nil : WL []
  | cons {k i k' : Nat} {l : List (Nat × Nat × Nat)} (g : PV → PV) (ra rb : List Nat) (h : ∀ (e : Nat → PV) (K : St → Prop), (∀ q H', EqHf H' (phAt ph k').H → Wr P tab n r ops q [] K ⟨updO (fun t => g (updL e (rdL ra rb (phAt ph k)) t)) ((ops.toList[i]?).bind (·.dst)) (lookE (phAt ph k').A), H'⟩) →
        Wr P tab n r ops i (opAt ops.toList i) K ⟨updL e (rdL ra rb (phAt ph k)), lookH (phAt ph k).H⟩)
      (hg : g .dead = .dead) (hA : EqG g (phAt ph k).A (okNew ops req wrs i (dn.getD k [])) (phAt ph k').A) (hB : (phAt ph k').B = mapG g (phAt ph k).B) (hr : rdOK ops.toList i ra rb = true) (hl : WL l) : WL ((k, i, k') :: l)
end

/-- What is to be checked of an operation, of numbers alone. -/
def opChk (l : List Oper) (wrs : List Nat) (req forb dn : List (List Nat)) (cov : List (Nat × Nat)) (tr : List (Nat × Nat × Nat)) (i : Nat) (o : Oper) : Bool :=
  ((bindsOn o).all (fun e => decide (e < i)) && (match o.dst with
    | none => true
    | some d => decide (dstAt d l 0 = some i))) &&
  ((req.getD i []).all (fun w => wrs.contains w && (bindsOn o).any fun p => p == w || (req.getD p []).contains w) &&
  ((forb.getD i []).all (fun w => wrs.contains w && (List.range l.length).any fun s => decide (i < s) && ((match l[s]? with
      | none => false
      | some os => (bindsOn os).contains i) && (s == w || (forb.getD s []).contains w))) &&
  (List.range dn.length).all fun k => (req.getD i []).any (fun w => !(dn.getD k []).contains w) || ((forb.getD i []).any (fun w => (dn.getD k []).contains w) ||
    (if wrs.contains i then (dn.getD k []).contains i || tr.any (fun x => x.1 == k && (x.2.1 == i && (decide (x.2.2 < dn.length) && wrs.all fun w => (dn.getD x.2.2 []).contains w == (w == i || (dn.getD k []).contains w))))
     else cov.contains (i, k)))))

/-- What is to be checked of a region, of numbers alone. -/
def drawOK (l : List Oper) (wrs : List Nat) (req forb dn : List (List Nat)) (cov : List (Nat × Nat)) (tr : List (Nat × Nat × Nat)) (kf : Nat) : Bool :=
  ((List.range l.length).all fun i => match l[i]? with
    | none => true
    | some o => opChk l wrs req forb dn cov tr i o) && (wrs.all (fun i => decide (i < l.length) && !(dn.getD 0 []).contains i) && (decide (0 < dn.length) && (List.range dn.length).all fun k => !(wrs.all (dn.getD k []).contains) || k == kf))

section
variable {P : Program} {tab : Tab} {n : Nat} {N : St → Prop} {X : Nat → St → Prop} {R : St → Prop} {S : St} {r : Nat} {ops : Array Oper} {ph : List Ph} {wrs : List Nat} {req forb dn : List (List Nat)} {cov : List (Nat × Nat)} {tr : List (Nat × Nat × Nat)}

theorem VL.get {cv : List (Nat × Nat)} (h : VL P tab n r ops ph cv) {i k : Nat} (hm : (i, k) ∈ cv) : ∃ (d : Nat) (ra rb : List Nat), (∀ (e : Nat → PV) (K : St → Prop), (∀ k', Wr P tab n r ops k' [] K ⟨upd (updL e (rdL ra rb (phAt ph k))) d (lookE (phAt ph k).A d), lookH (phAt ph k).H⟩) → Wr P tab n r ops i (opAt ops.toList i) K ⟨updL e (rdL ra rb (phAt ph k)), lookH (phAt ph k).H⟩) ∧
    (ops.toList[i]?).bind (·.dst) = some d ∧ rdOK ops.toList i ra rb = true := by
  induction h with
  | nil => cases hm
  | cons ra rb h hd hr hl ih =>
    cases hm with
    | head => exact ⟨_, ra, rb, h, hd, hr⟩
    | tail _ hm => exact ih hm

theorem look_filter (l : List (Nat × PV)) (p : Nat → Bool) (t : Nat) (h : p t = true) : lookE (l.filter fun x => p x.1) t = lookE l t := by
  induction l with
  | nil => rfl
  | cons x l ih =>
    obtain ⟨d, v⟩ := x
    simp only [List.filter_cons]
    split
    · simp only [lookE, ih]
    · rename_i hp
      simp only [lookE]
      rw [if_neg (fun e => by subst e; exact hp h)]
      exact ih

theorem EqW.vr {l : List (Nat × PV)} (h : EqW P S l) {I0 : Nat → Prop} {base : Nat → Prop} {om : Id → Option Nat} {w : World} {t : Nat} {x : Value} (hx : VR P I0 base om w (S.env t) x) : VR P I0 base om w (lookE l t) x := by
  induction h with
  | nil => exact .dead _
  | cons he hl ih =>
    unfold lookE
    split
    · rename_i e; subst e; rw [he] at hx; exact hx
    · exact ih
  | wk hw he hl ih =>
    unfold lookE
    split
    · rename_i e; subst e; rw [he] at hx; exact hw _ _ _ _ _ hx
    · exact ih

theorem EqWH.box {l : List (Id × List PV)} (h : EqWH P S l) {I0 : Nat → Prop} {base : Nat → Prop} {om : Id → Option Nat} {w : World} (hb : ∀ id cs, S.H id = some cs → BoxR P I0 base om w id cs) {id : Id} {cs : List PV} (hc : lookH l id = some cs) : BoxR P I0 base om w id cs := by
  induction h with
  | nil => cases hc
  | cons he hl ih =>
    unfold lookH at hc
    split at hc
    · rename_i e; subst e; cases hc; exact hb _ _ he
    · exact ih hc
  | wk hw he hl ih =>
    unfold lookH at hc
    split at hc
    · rename_i e; subst e; cases hc; exact (hb _ _ he).wk hw
    · exact ih hc

structure WOb (P : Program) (tab : Tab) (n r : Nat) (ops : Array Oper) (ph : List Ph) (req dn : List (List Nat)) (wrs : List Nat) (k i k' : Nat) where
  g : PV → PV
  ra : List Nat
  rb : List Nat
  h : ∀ (e : Nat → PV) (K : St → Prop), (∀ q H', EqHf H' (phAt ph k').H → Wr P tab n r ops q [] K ⟨updO (fun t => g (updL e (rdL ra rb (phAt ph k)) t)) ((ops.toList[i]?).bind (·.dst)) (lookE (phAt ph k').A), H'⟩) →
        Wr P tab n r ops i (opAt ops.toList i) K ⟨updL e (rdL ra rb (phAt ph k)), lookH (phAt ph k).H⟩
  hg : g .dead = .dead
  hA : EqG g (phAt ph k).A (okNew ops req wrs i (dn.getD k [])) (phAt ph k').A
  hB : (phAt ph k').B = mapG g (phAt ph k).B
  hr : rdOK ops.toList i ra rb = true

theorem WL.get {l : List (Nat × Nat × Nat)} (h : WL P tab n r ops ph req dn wrs l) {k i k' : Nat} (hj : (k, i, k') ∈ l) : Nonempty (WOb P tab n r ops ph req dn wrs k i k') := by
  induction h with
  | nil => cases hj
  | cons g ra rb h hg hA hB hr hl ih =>
    cases hj with
    | head => exact ⟨⟨g, ra, rb, h, hg, hA, hB, hr⟩⟩
    | tail _ hj => exact ih hj

/-- The state of a schedule: which operations are done, and in which phase. -/
structure Inv (ops : Array Oper) (wrs : List Nat) (dn : List (List Nat)) (I : Array Bool) (k : Nat) : Prop where
  size : I.size = ops.size
  wrs : ∀ (i : Nat), i ∈ wrs → I.getD i false = (dn.getD k []).contains i
  down : ∀ (i : Nat) (o : Oper), ops.toList[i]? = some o → I.getD i false = true → ∀ e ∈ bindsOn o, I.getD e false = true
  le : k < dn.length

theorem mem_bindsOn {o : Oper} {e : Edge} (he : e ∈ o.after) (hb : Region.binds .any e = true) : e.on ∈ bindsOn o :=
  List.mem_map.2 ⟨e, List.mem_filter.2 ⟨by simpa using he, hb⟩, rfl⟩

theorem bindsOn_mem {o : Oper} {j : Nat} (h : j ∈ bindsOn o) : ∃ e ∈ o.after, Region.binds .any e = true ∧ e.on = j := by
  obtain ⟨e, he, rfl⟩ := List.mem_map.1 h
  obtain ⟨h1, h2⟩ := List.mem_filter.1 he
  exact ⟨e, by simpa using h1, h2, rfl⟩

theorem dstAt_some {t : Nat} : ∀ {l : List Oper} {i j : Nat}, dstAt t l i = some j → i ≤ j ∧ ∃ o, l[j - i]? = some o ∧ o.dst = some t
  | [], i, j, h => by cases h
  | o :: l, i, j, h => by
    unfold dstAt at h
    split at h
    · cases h; exact ⟨Nat.le_refl _, o, by simp, by assumption⟩
    · obtain ⟨h1, o', h2, h3⟩ := dstAt_some h
      refine ⟨by omega, o', ?_, h3⟩
      rw [show j - i = (j - (i + 1)) + 1 by omega]
      simpa using h2

theorem exit_to {Q : AE → St → Prop} {F : Fr} {e : Exit} {a : Act} {w : World} (h : lift P F Q e a w) : ∃ e' : AE, e = e'.to := by
  obtain ⟨e', _, _, h, _⟩ := h
  exact ⟨e', h⟩

/-- From a rule for one operation to a step of a schedule. -/
theorem wpOp_of_Wr {F : Fr} {om : Id → Option Nat} {a : Act} {w : World} {i : Nat} {o : Oper} {K : St → Prop} {T : St} {k' : Nat} (hi : ops.toList[i]? = some o) (hT : TabOK P tab) (hok : opsOK n ops.toList = true) (hn : F.n = n)
    (h : Wr P tab n r ops k' (opAt ops.toList i) K T) (hr : SRel P F om a w T) {next : Act → World → Prop} {Q : Exit → Act → World → Prop} (hnext : ∀ om' a' w' S', SRel P F om' a' w' S' → K S' → next a' w') : wpOp P ops Q i next a w := by
  rw [opAt_some hi] at h
  have hok1 : opsOK n [o] = true := by
    simp only [opsOK, List.all_cons, List.all_nil, Bool.and_true]
    exact List.all_eq_true.1 hok o (List.mem_of_getElem? hi)
  have hrun := h.run hT hok1 F om a w hn hr
  have hio : ops[i]? = some o := by simpa using hi
  unfold wpOp
  simp only [hio]
  unfold wpList at hrun
  have conv : ∀ a' w', wpList P ops (lift P F (post K (fun _ _ => False) fun _ => False)) [] a' w' → next a' w' := by
    intro a' w' hh
    unfold wpList at hh
    obtain ⟨e', om', S', he, hr', hq⟩ := hh
    cases e' with
    | normal => exact hnext om' a' w' S' hr' hq
    | exit id => cases he
    | ret => cases he
  split
  · rename_i hw
    rw [if_pos hw] at hrun
    rcases hrun with hrun | ⟨_, a0, w0, hl⟩
    · left
      unfold Oper.wp at *
      generalize (execOp a.eval o).run P w = res at *
      cases res with
      | ok n w' =>
        cases n <;> simp only [Oper.upon] at hrun ⊢ <;> first
          | exact conv _ _ hrun
          | exact Calls.mono hrun (fun e w'' he => by
              cases e with
              | returned v => exact conv _ _ he
              | panicked c => obtain ⟨e', h'⟩ := exit_to he; cases e' <;> cases h'
              | outgrown => obtain ⟨a0, w0, h0⟩ := he; obtain ⟨e', h'⟩ := exit_to h0; cases e' <;> cases h')
          | exact Rows.mono hrun (fun v w'' he => conv _ _ he)
      | halt x w' =>
        cases x <;> simp only [Oper.upon] at hrun ⊢
        obtain ⟨e', h'⟩ := exit_to hrun; cases e' <;> cases h'
    · obtain ⟨e', h'⟩ := exit_to hl; cases e' <;> cases h'
  · rename_i hw
    rw [if_neg hw] at hrun
    exact conv _ _ hrun

theorem Wp.draw (wrs : List Nat) (req forb dn : List (List Nat)) (cov : List (Nat × Nat)) (tr : List (Nat × Nat × Nat)) (kf : Nat) (ph : List Ph) (st : List (Nat × PV)) (hV : VL P tab n r ops ph cov) (hW : WL P tab n r ops ph req dn wrs tr) (hc : drawOK ops.toList wrs req forb dn cov tr kf = true)
    (hst : ((phAt ph 0).A.filter fun x => (dstAt x.1 ops.toList 0).isNone) = st) (hS : EqW P S st) (hB : EqW P S (phAt ph 0).B) (hH : EqWH P S (phAt ph 0).H) (hN : N (St.of (phAt ph kf).A (phAt ph kf).H)) : Wp P tab n (.region r ops true) N X R S := by
  simp only [drawOK, Bool.and_eq_true, decide_eq_true_eq] at hc
  obtain ⟨hc1, hc2, hc3, hc4⟩ := hc
  have hop : ∀ (i : Nat) (o : Oper), ops.toList[i]? = some o → opChk ops.toList wrs req forb dn cov tr i o = true := fun i o ho => by
    have h1 := List.all_eq_true.1 hc1 i (List.mem_range.2 (List.getElem?_eq_some_iff.1 ho).1)
    rw [ho] at h1
    exact h1
  have hpred : ∀ (i : Nat) (o : Oper), ops.toList[i]? = some o → ∀ e ∈ bindsOn o, e < i := fun i o ho e he => by
    have := hop i o ho
    simp only [opChk, Bool.and_eq_true, List.all_eq_true, decide_eq_true_eq] at this
    exact this.1.1 e he
  have hdst : ∀ (i : Nat) (o : Oper) (d : Nat), ops.toList[i]? = some o → o.dst = some d → dstAt d ops.toList 0 = some i := fun i o d ho hd => by
    have := hop i o ho
    simp only [opChk, Bool.and_eq_true] at this
    have := this.1.2
    rw [hd] at this
    simpa using this
  -- what must be done ahead is done
  have hreq : ∀ (I : Array Bool) (k : Nat), Inv ops wrs dn I k → ∀ (i : Nat) (o : Oper), ops.toList[i]? = some o → (∀ e ∈ bindsOn o, I.getD e false = true) → ∀ w ∈ req.getD i [], w ∈ wrs ∧ I.getD w false = true := by
    intro I k hI i
    induction i using Nat.strongRecOn with
    | _ i ih =>
      intro o ho hpre w hw
      have h1 := hop i o ho
      simp only [opChk, Bool.and_eq_true, List.all_eq_true, List.any_eq_true, Bool.or_eq_true, beq_iff_eq, List.contains_iff_mem] at h1
      obtain ⟨h2, p, hp, h3⟩ := h1.2.1 w hw
      refine ⟨h2, ?_⟩
      rcases h3 with rfl | h3
      · exact hpre p hp
      · have hpi := hpred i o ho p hp
        have hpo : ops.toList[p]? = some (ops.toList[p]'(Nat.lt_trans hpi (List.getElem?_eq_some_iff.1 ho).1)) := List.getElem?_eq_getElem _
        exact (ih p hpi _ hpo (hI.down p _ hpo (hpre p hp)) w h3).2
  -- what must come behind is not done
  have hforb : ∀ (I : Array Bool) (k : Nat), Inv ops wrs dn I k → ∀ (m i : Nat) (o : Oper), ops.toList.length - i = m → ops.toList[i]? = some o → I.getD i false = false → ∀ w ∈ forb.getD i [], w ∈ wrs ∧ I.getD w false = false := by
    intro I k hI m
    induction m using Nat.strongRecOn with
    | _ m ih =>
      intro i o hm ho hu w hw
      have h1 := hop i o ho
      simp only [opChk, Bool.and_eq_true, List.all_eq_true, List.any_eq_true, Bool.or_eq_true, beq_iff_eq, List.contains_iff_mem, decide_eq_true_eq] at h1
      obtain ⟨h2, s, hs, h3, h4, h5⟩ := h1.2.2.1 w hw
      refine ⟨h2, ?_⟩
      have hsl := List.mem_range.1 hs
      have hso : ops.toList[s]? = some ops.toList[s] := List.getElem?_eq_getElem hsl
      rw [hso] at h4
      simp only [List.contains_iff_mem] at h4
      have hsu : I.getD s false = false := by
        cases hx : I.getD s false with
        | false => rfl
        | true =>
          have := hI.down s _ hso hx i h4
          rw [hu] at this
          cases this
      rcases h5 with rfl | h5
      · exact hsu
      · have hil : i < ops.toList.length := (List.getElem?_eq_some_iff.1 ho).1
        exact (ih (ops.toList.length - s) (by omega) s _ rfl hso hsu w h5).2
  -- the reads of an operation
  have hread : ∀ (I : Array Bool) (k : Nat), Inv ops wrs dn I k → ∀ (i : Nat) (o : Oper), ops.toList[i]? = some o → I.getD i false = false → (∀ e ∈ bindsOn o, I.getD e false = true) → ∀ (ra rb : List Nat), rdOK ops.toList i ra rb = true → ∀ p : Ph, updL (kenv ops.toList p I) (rdL ra rb p) = kenv ops.toList p I := by
    intro I k hI i o ho hu hpre ra rb hrd p
    simp only [rdOK, Bool.and_eq_true, List.all_eq_true] at hrd
    refine updL_same fun x hx => ?_
    rcases List.mem_append.1 hx with hx | hx
    · obtain ⟨t, ht, rfl⟩ := List.mem_map.1 hx
      have := hrd.1 t ht
      show kenv ops.toList p I t = lookE p.A t
      unfold kenv
      split
      · rfl
      · rename_i j hj
        rw [hj] at this
        simp only [ho, List.contains_iff_mem] at this
        rw [if_pos (hpre j this)]
    · obtain ⟨t, ht, rfl⟩ := List.mem_map.1 hx
      have := hrd.2 t ht
      show kenv ops.toList p I t = lookE p.B t
      unfold kenv
      split
      · rename_i hj
        rw [hj] at this
        cases this
      · rename_i j hj
        rw [hj] at this
        obtain ⟨_, oj, hoj, _⟩ := dstAt_some hj
        rw [Nat.sub_zero] at hoj
        simp only [hoj, Bool.or_eq_true, beq_iff_eq, List.contains_iff_mem] at this
        have hju : I.getD j false = false := by
          rcases this with rfl | this
          · exact hu
          · cases hx : I.getD j false with
            | false => rfl
            | true =>
              have := hI.down j oj hoj hx i this
              rw [hu] at this
              cases this
        rw [if_neg (by rw [hju]; simp)]
  refine ⟨fun hT hm hok F om a w hn hr => ?_⟩
  simp only [codeOK] at hok
  have key : ∀ (fuel : Nat) (U : List Nat) (I : Array Bool) (k : Nat) (om : Id → Option Nat) (a : Act) (w : World), Inv ops wrs dn I k → (∀ j, j < ops.toList.length → I.getD j false = false → j ∈ U) → U.length ≤ fuel → SRel P F om a w (kst ops.toList (phAt ph k) I) →
      wpAny P .any ops (lift P F (post N X R)) fuel I a w := by
    intro fuel
    have fin : ∀ (I : Array Bool) (k : Nat) (om : Id → Option Nat) (a : Act) (w : World), Inv ops wrs dn I k → (∀ j, j < ops.toList.length → I.getD j false = true) → SRel P F om a w (kst ops.toList (phAt ph k) I) → lift P F (post N X R) .normal a w := by
      intro I k om a w hI hall hr
      have hk : k = kf := by
        have h1 := List.all_eq_true.1 hc4 k (List.mem_range.2 hI.le)
        simp only [Bool.or_eq_true, Bool.not_eq_true', beq_iff_eq] at h1
        rcases h1 with h1 | h1
        · exfalso
          have : (wrs.all (dn.getD k []).contains) = true := by
            refine List.all_eq_true.2 fun i hi => ?_
            rw [← hI.wrs i hi]
            have := List.all_eq_true.1 hc2 i hi
            simp only [Bool.and_eq_true, decide_eq_true_eq] at this
            exact hall i this.1
          rw [this] at h1
          cases h1
        · exact h1
      subst hk
      refine ⟨.normal, om, _, rfl, ?_, hN⟩
      have : kst ops.toList (phAt ph k) I = St.of (phAt ph k).A (phAt ph k).H := by
        unfold kst St.of
        congr 1
        funext t
        unfold kenv
        split
        · rfl
        · rename_i j hj
          obtain ⟨_, o, ho, _⟩ := dstAt_some hj
          rw [Nat.sub_zero] at ho
          rw [if_pos (hall j (List.getElem?_eq_some_iff.1 ho).1)]
      rw [this] at hr
      exact hr
    have none_ready : ∀ (I : Array Bool) (k : Nat), Inv ops wrs dn I k → Region.ready .any ops I = [] → ∀ j, j < ops.toList.length → I.getD j false = true := by
      intro I k hI hempty j
      induction j using Nat.strongRecOn with
      | _ j ih =>
        intro hj
        cases hx : I.getD j false with
        | true => rfl
        | false =>
          have hjo : ops.toList[j]? = some ops.toList[j] := List.getElem?_eq_getElem hj
          have hm : j ∈ Region.ready .any ops I := by
            rw [mem_ready]
            refine ⟨?_, ops.toList[j], by rw [← Array.getElem?_toList]; exact hjo, fun e he hb => ?_⟩
            · have hjs : j < I.size := by rw [hI.size]; simpa using hj
              simp [Array.getD_eq_getD_getElem?, Array.getElem?_eq_getElem hjs] at hx ⊢
              exact hx
            · have h1 := hpred j _ hjo e.on (mem_bindsOn he hb)
              exact ih e.on h1 (Nat.lt_trans h1 hj)
          rw [hempty] at hm
          cases hm
    induction fuel with
    | zero =>
      intro U I k om a w hI hU hlen hr
      have hU0 : U = [] := List.eq_nil_of_length_eq_zero (by omega)
      subst hU0
      have hall : ∀ j, j < ops.toList.length → I.getD j false = true := by
        intro j hj
        cases hx : I.getD j false with
        | true => rfl
        | false => have := hU j hj hx; cases this
      refine ⟨?_, fin I k om a w hI hall hr⟩
      apply List.eq_nil_iff_forall_not_mem.2
      intro j hj
      rw [mem_ready] at hj
      obtain ⟨h1, o, ho, _⟩ := hj
      have hjl : j < ops.toList.length := by simpa using (Array.getElem?_eq_some_iff.1 ho).1
      have := hall j hjl
      have hjs : j < I.size := by rw [hI.size]; simpa using hjl
      simp [Array.getD_eq_getD_getElem?, Array.getElem?_eq_getElem hjs] at h1 this
      rw [h1] at this
      cases this
    | succ fuel ih =>
      intro U I k om a w hI hU hlen hr
      refine ⟨fun hempty => fin I k om a w hI (none_ready I k hI hempty) hr, ?_⟩
      intro i hi
      rw [mem_ready] at hi
      obtain ⟨h1, o, ho, hall⟩ := hi
      have hol : ops.toList[i]? = some o := by simpa using ho
      have hil : i < ops.toList.length := (List.getElem?_eq_some_iff.1 hol).1
      have his : i < I.size := by rw [hI.size]; simpa using hil
      have hu : I.getD i false = false := by
        simp [Array.getD_eq_getD_getElem?, Array.getElem?_eq_getElem his] at h1 ⊢
        exact h1
      have hpre : ∀ e ∈ bindsOn o, I.getD e false = true := by
        intro e he
        obtain ⟨ed, h2, h3, rfl⟩ := bindsOn_mem he
        exact hall ed h2 h3
      have hI'get : ∀ j, (I.setIfInBounds i true).getD j false = if j = i then true else I.getD j false := by
        intro j
        by_cases hji : j = i
        · subst hji
          simp [Array.getD_eq_getD_getElem?, his]
        · rw [if_neg hji]
          simp [Array.getD_eq_getD_getElem?, Array.getElem?_setIfInBounds_ne (Ne.symm hji)]
      have hU' : ∀ j, j < ops.toList.length → (I.setIfInBounds i true).getD j false = false → j ∈ U.erase i := by
        intro j hj hju
        rw [hI'get] at hju
        split at hju
        · cases hju
        · rename_i hne
          exact (List.mem_erase_of_ne hne).2 (hU j hj hju)
      have hUl : (U.erase i).length ≤ fuel := by
        rw [List.length_erase_of_mem (hU i hil hu)]
        omega
      have hdown' : ∀ j oj, ops.toList[j]? = some oj → (I.setIfInBounds i true).getD j false = true → ∀ e ∈ bindsOn oj, (I.setIfInBounds i true).getD e false = true := by
        intro j oj hoj hj e he
        rw [hI'get] at hj ⊢
        split
        · rfl
        · split at hj
          · rename_i hji; subst hji; rw [hol] at hoj; cases hoj; exact hpre e he
          · exact hI.down j oj hoj hj e he
      -- the phase fits
      have hphase : (req.getD i []).any (fun w => !(dn.getD k []).contains w) = false ∧ (forb.getD i []).any (fun w => (dn.getD k []).contains w) = false := by
        constructor
        · rw [List.any_eq_false]
          intro w hw
          obtain ⟨h2, h3⟩ := hreq I k hI i o hol hpre w hw
          rw [hI.wrs w h2] at h3
          simp only [h3, Bool.not_true]
          exact Bool.false_ne_true
        · rw [List.any_eq_false]
          intro w hw
          obtain ⟨h2, h3⟩ := hforb I k hI _ i o rfl hol hu w hw
          rw [hI.wrs w h2] at h3
          rw [h3]
          exact Bool.false_ne_true
      have h2 := hop i o hol
      simp only [opChk, Bool.and_eq_true] at h2
      have h4 := List.all_eq_true.1 h2.2.2.2 k (List.mem_range.2 hI.le)
      rw [hphase.1, hphase.2, Bool.false_or, Bool.false_or] at h4
      by_cases hiw : i ∈ wrs
      · -- a writer
        rw [if_pos (by simpa using hiw)] at h4
        rw [← hI.wrs i hiw, hu, Bool.false_or, List.any_eq_true] at h4
        obtain ⟨⟨k0, i0, k'⟩, hx, h5⟩ := h4
        simp only [Bool.and_eq_true, beq_iff_eq, decide_eq_true_eq, List.all_eq_true] at h5
        obtain ⟨rfl, rfl, hk'l, h6⟩ := h5
        obtain ⟨ob⟩ := hW.get hx
        have hInv' : Inv ops wrs dn (I.setIfInBounds i0 true) k' := by
          refine ⟨by simp [hI.size], fun j hj => ?_, hdown', hk'l⟩
          rw [hI'get, h6 j hj]
          by_cases hji : j = i0
          · simp [hji]
          · rw [if_neg hji, hI.wrs j hj]
            simp [hji]
        have hrd' := hread I k0 hI i0 o hol hu hpre ob.ra ob.rb ob.hr (phAt ph k0)
        refine wpOp_of_Wr (r := r) (k' := i0) (T := kst ops.toList (phAt ph k0) I) (K := fun S' => ∀ om' a' w', SRel P F om' a' w' S' → wpAny P .any ops (lift P F (post N X R)) fuel (I.setIfInBounds i0 true) a' w') hol hT hok hn ?_ hr (fun om' a' w' S' hr' hK => hK om' a' w' hr')
        have h7 := ob.h (kenv ops.toList (phAt ph k0) I) (fun S' => ∀ om' a' w', SRel P F om' a' w' S' → wpAny P .any ops (lift P F (post N X R)) fuel (I.setIfInBounds i0 true) a' w')
        rw [hrd'] at h7
        refine h7 fun q H' hH' => .nil ?_
        intro om' a' w' hr'
        refine ih (U.erase i0) _ k' om' a' w' hInv' hU' hUl (hr'.weak ⟨fun t => ?_, fun id => ?_⟩)
        · -- the slots
          show kenv ops.toList (phAt ph k') (I.setIfInBounds i0 true) t = .dead ∨ kenv ops.toList (phAt ph k') (I.setIfInBounds i0 true) t = updO (fun t => ob.g (kenv ops.toList (phAt ph k0) I t)) ((ops.toList[i0]?).bind (·.dst)) (lookE (phAt ph k').A) t
          rw [hol]
          simp only [Option.bind_some]
          have hother : o.dst ≠ some t → kenv ops.toList (phAt ph k') (I.setIfInBounds i0 true) t = .dead ∨ kenv ops.toList (phAt ph k') (I.setIfInBounds i0 true) t = ob.g (kenv ops.toList (phAt ph k0) I t) := by
            intro hdt
            have hnews : ∀ j, (dstAt t ops.toList 0 = none ∨ (dstAt t ops.toList 0 = some j ∧ j ≠ i0 ∧ I.getD j false = true)) → lookE (phAt ph k').A t = .dead ∨ lookE (phAt ph k').A t = ob.g (lookE (phAt ph k0).A t) := by
              intro j hj
              refine ob.hA.look ?_
              unfold okNew
              rcases hj with hj | ⟨hj, hji, hjl⟩
              · rw [hj]
              · rw [hj]
                obtain ⟨_, oj, hoj, hdj⟩ := dstAt_some hj
                rw [Nat.sub_zero] at hoj
                simp only [Bool.or_eq_false_iff, beq_eq_false_iff_ne, Bool.not_eq_false']
                refine ⟨hji, ?_⟩
                unfold mayBe
                split
                · rename_i hjw
                  rw [← hI.wrs j (by simpa using hjw), hjl]
                · refine List.all_eq_true.2 fun w hw => ?_
                  obtain ⟨h10, h11⟩ := hreq I k0 hI j oj hoj (hI.down j oj hoj hjl) w hw
                  rw [hI.wrs w h10] at h11
                  exact h11
            unfold kenv
            split
            · rename_i hj
              exact hnews 0 (.inl hj)
            · rename_i j hj
              have hji : j ≠ i0 := by
                rintro rfl
                obtain ⟨_, oj, hoj, hdj⟩ := dstAt_some hj
                rw [Nat.sub_zero, hol] at hoj
                cases hoj
                exact hdt hdj
              simp only [hI'get, if_neg hji]
              split
              · rename_i hjl
                exact hnews j (.inr ⟨hj, hji, hjl⟩)
              · exact .inr (by rw [ob.hB, look_mapG ob.hg])
          cases hd : o.dst with
          | none => exact hother (by rw [hd]; simp)
          | some d =>
            simp only [updO]
            by_cases htd : t = d
            · subst htd
              right
              unfold upd
              rw [if_pos rfl]
              unfold kenv
              rw [hdst i0 o t hol hd]
              simp only [hI'get, if_true]
            · have := hother (by rw [hd]; simpa using Ne.symm htd)
              unfold upd
              rw [if_neg htd]
              exact this
        · show lookH (phAt ph k').H id = none ∨ lookH (phAt ph k').H id = H' id
          cases hl : lookH (phAt ph k').H id with
          | none => exact .inl rfl
          | some cs => exact .inr (hH'.look hl).symm
      · -- one that makes a value
        rw [if_neg (by simpa using hiw)] at h4
        have hcov : (i, k) ∈ cov := by simpa using h4
        obtain ⟨d, ra, rb, hstep, hd, hrd⟩ := hV.get hcov
        rw [hol] at hd
        simp only [Option.bind_some] at hd
        have hInv' : Inv ops wrs dn (I.setIfInBounds i true) k := by
          refine ⟨by simp [hI.size], fun j hj => ?_, hdown', hI.le⟩
          rw [hI'get]
          have hji : j ≠ i := fun e => by subst e; exact hiw hj
          rw [if_neg hji]
          exact hI.wrs j hj
        have hrd' := hread I k hI i o hol hu hpre ra rb hrd (phAt ph k)
        refine wpOp_of_Wr (r := r) (k' := i) (T := kst ops.toList (phAt ph k) I) (K := fun S' => ∀ om' a' w', SRel P F om' a' w' S' → wpAny P .any ops (lift P F (post N X R)) fuel (I.setIfInBounds i true) a' w') hol hT hok hn ?_ hr (fun om' a' w' S' hr' hK => hK om' a' w' hr')
        have h7 := hstep (kenv ops.toList (phAt ph k) I) (fun S' => ∀ om' a' w', SRel P F om' a' w' S' → wpAny P .any ops (lift P F (post N X R)) fuel (I.setIfInBounds i true) a' w')
        rw [hrd'] at h7
        refine h7 fun k' => .nil ?_
        intro om' a' w' hr'
        refine ih (U.erase i) _ k om' a' w' hInv' hU' hUl ?_
        have e1 : kst ops.toList (phAt ph k) (I.setIfInBounds i true) = ⟨upd (kenv ops.toList (phAt ph k) I) d (lookE (phAt ph k).A d), lookH (phAt ph k).H⟩ := by
          unfold kst
          congr 1
          funext t
          unfold upd
          by_cases htd : t = d
          · subst htd
            rw [if_pos rfl]
            unfold kenv
            rw [hdst i o t hol hd]
            simp only [hI'get, if_true]
          · rw [if_neg htd]
            unfold kenv
            split
            · rfl
            · rename_i j hj
              have hji : j ≠ i := by
                rintro rfl
                obtain ⟨_, oj, hoj, hdj⟩ := dstAt_some hj
                rw [Nat.sub_zero, hol] at hoj
                cases hoj
                rw [hd] at hdj
                cases hdj
                exact htd rfl
              simp only [hI'get, if_neg hji]
        rw [e1]
        exact hr'
  have hdraw : SRel P F om a { w with drawn := w.drawn + 1 } S := by
    have := hr.grow (w' := { w with drawn := w.drawn + 1 }) (Nat.le_refl _) (fun _ _ => rfl) ⟨rfl, rfl, rfl⟩ none (fun t h => by cases h) .dead undef (.dead _)
    exact this
  refine wp_region_any hm (key ops.size (List.range ops.size) (Array.replicate ops.size false) 0 om a _ ⟨by simp, ?_, ?_, hc3⟩ (fun j hj _ => List.mem_range.2 (by simpa using hj)) (by simp) ?_)
  · intro i hi
    have h1 := List.all_eq_true.1 hc2 i hi
    simp only [Bool.and_eq_true, decide_eq_true_eq, Bool.not_eq_true'] at h1
    have hil : i < ops.size := by simpa using h1.1
    rw [h1.2]
    simp [Array.getD_eq_getD_getElem?, hil]
  · intro i o ho hi'
    have hil : i < ops.size := by simpa using (List.getElem?_eq_some_iff.1 ho).1
    simp [Array.getD_eq_getD_getElem?, hil] at hi'
  · refine ⟨hdraw.size, hdraw.defers, fun t => ?_, fun id cs hcs => hH.box hdraw.box hcs, hdraw.inj, hdraw.lt, hdraw.loc, hdraw.par, hdraw.i0, hdraw.base_le, hdraw.frame, hdraw.outer⟩
    show VR P F.I0 F.base om _ (kenv ops.toList (phAt ph 0) (Array.replicate ops.size false) t) _
    unfold kenv
    split
    · rename_i hd
      have e1 : lookE st t = lookE (phAt ph 0).A t := by
        rw [← hst]
        exact look_filter _ (fun q => (dstAt q ops.toList 0).isNone) t (by simp [hd])
      rw [← e1]
      exact hS.vr (hdraw.env t)
    · rename_i j hd
      obtain ⟨_, o, ho, _⟩ := dstAt_some hd
      rw [Nat.sub_zero] at ho
      have hil : j < ops.size := by simpa using (List.getElem?_eq_some_iff.1 ho).1
      rw [if_neg (by simp [Array.getD_eq_getD_getElem?, hil])]
      exact hB.vr (hdraw.env t)

end
end Go.Proofs.Ytcahjpkmldmjdaa.Ab
