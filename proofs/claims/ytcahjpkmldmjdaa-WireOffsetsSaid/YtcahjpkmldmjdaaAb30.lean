/-
  Abstract values for walks without memory: regions that draw their order, by tables.
  A table tells, for each phase of the region, what each slot holds once its operation has been carried out. Operations that only make a value may come in any order;
  those that turn the state (the writers) come one after the other, each ends a phase.
-/
import Derived.Test.YtcahjpkmldmjdaaAb29
namespace Go.Proofs.Ytcahjpkmldmjdaa.Ab
open Go

def updL (e : Nat → PV) : List (Nat × PV) → Nat → PV
  | [] => e
  | (t, v) :: l => upd (updL e l) t v

theorem updL_same {e : Nat → PV} {l : List (Nat × PV)} (h : ∀ x ∈ l, e x.1 = x.2) : updL e l = e := by
  induction l with
  | nil => rfl
  | cons x l ih =>
    obtain ⟨t, v⟩ := x
    have h1 := ih fun y hy => h y (.tail _ hy)
    have h2 := h (t, v) (.head _)
    funext q
    show upd (updL e l) t v q = e q
    rw [h1]
    unfold upd
    split
    · rename_i e'; subst e'; exact h2.symm
    · rfl

def opAt : List Oper → Nat → List Oper
  | [], _ => []
  | o :: _, 0 => [o]
  | _ :: l, i + 1 => opAt l i

theorem opAt_some {l : List Oper} {i : Nat} {o : Oper} (h : l[i]? = some o) : opAt l i = [o] := by
  induction l generalizing i with
  | nil => simp at h
  | cons x l ih =>
    cases i with
    | zero => simp at h; subst h; rfl
    | succ i => simp at h; exact ih h

def bindsOn (o : Oper) : List Nat := (o.after.toList.filter (Region.binds .any)).map (·.on)

def dstAt (t : Nat) : List Oper → Nat → Option Nat
  | [], _ => none
  | o :: l, i => if o.dst = some t then some i else dstAt t l (i + 1)

structure Ph where
  A : List (Nat × PV)
  B : List (Nat × PV)
  H : List (Id × List PV)

def phAt : List Ph → Nat → Ph
  | [], _ => ⟨[], [], []⟩
  | p :: _, 0 => p
  | _ :: l, i + 1 => phAt l i

def kenv (l : List Oper) (p : Ph) (I : Array Bool) (t : Nat) : PV :=
  match dstAt t l 0 with
  | none => lookE p.A t
  | some j => if I.getD j false then lookE p.A t else lookE p.B t

def kst (l : List Oper) (p : Ph) (I : Array Bool) : St := ⟨kenv l p I, lookH p.H⟩

def rdL (ra rb : List Nat) (p : Ph) : List (Nat × PV) := ra.map (fun t => (t, lookE p.A t)) ++ rb.map (fun t => (t, lookE p.B t))

/-- What operation i reads stands in the tables: of the first kind, what is made ahead of it; of the second, what is written only behind it. -/
def rdOK (l : List Oper) (i : Nat) (ra rb : List Nat) : Bool :=
  ra.all (fun t => match dstAt t l 0 with
    | none => true
    | some j => match l[i]? with
      | some o => (bindsOn o).contains j
      | none => false) &&
  rb.all (fun t => match dstAt t l 0 with
    | none => false
    | some j => match l[j]? with
      | some o => j == i || (bindsOn o).contains i
      | none => false)

def mapG (g : PV → PV) : List (Nat × PV) → List (Nat × PV)
  | [] => []
  | (t, v) :: l => (t, g v) :: mapG g l

theorem look_mapG {g : PV → PV} (hg : g .dead = .dead) (l : List (Nat × PV)) (t : Nat) : lookE (mapG g l) t = g (lookE l t) := by
  induction l with
  | nil => exact hg.symm
  | cons x l ih =>
    obtain ⟨d, v⟩ := x
    simp only [mapG, lookE]
    split
    · rfl
    · exact ih

theorem look_append (l m : List (Nat × PV)) (t : Nat) (h : ∀ x ∈ l, x.1 ≠ t) : lookE (l ++ m) t = lookE m t := by
  induction l with
  | nil => rfl
  | cons x l ih =>
    obtain ⟨d, v⟩ := x
    simp only [List.cons_append, lookE]
    rw [if_neg fun e => h (d, v) (.head _) e.symm]
    exact ih fun y hy => h y (.tail _ hy)

def updO (e : Nat → PV) (d : Option Nat) (v : Nat → PV) : Nat → PV := match d with
  | none => e
  | some d => upd e d (v d)

inductive EqHf (H : Id → Option (List PV)) : List (Id × List PV) → Prop
  | nil : EqHf H []
  | cons {t : Id} {v : List PV} {l : List (Id × List PV)} (h : H t = some v) (hl : EqHf H l) : EqHf H ((t, v) :: l)

theorem EqHf.look {H : Id → Option (List PV)} {l : List (Id × List PV)} (h : EqHf H l) {id : Id} {cs : List PV} (hc : lookH l id = some cs) : H id = some cs := by
  induction h with
  | nil => cases hc
  | cons he hl ih =>
    unfold lookH at hc
    split at hc
    · rename_i e; subst e; cases hc; exact he
    · exact ih hc

section
variable (P : Program) (tab : Tab) (n r : Nat) (ops : Array Oper) (ph : List Ph) (lo : List Nat)

/-- The operations that make a value, phase by phase. -/
inductive VL : List (Nat × Nat) → Prop
  | nil : VL []
  | cons {i k d : Nat} {l : List (Nat × Nat)} (ra rb : List Nat) (h : ∀ (e : Nat → PV) (K : St → Prop), (∀ k', Wr P tab n r ops k' [] K ⟨upd (updL e (rdL ra rb (phAt ph k))) d (lookE (phAt ph k).A d), lookH (phAt ph k).H⟩) → Wr P tab n r ops i (opAt ops.toList i) K ⟨updL e (rdL ra rb (phAt ph k)), lookH (phAt ph k).H⟩)
      (hd : (ops.toList[i]?).bind (·.dst) = some d) (hr : rdOK ops.toList i ra rb = true) (hl : VL l) : VL ((i, k) :: l)

/-- The writers, one behind the other. -/
inductive WL : Nat → List Nat → Prop
  | nil {q : Nat} : WL q []
  | cons {q i : Nat} {l : List Nat} (g : PV → PV) (news : List (Nat × PV)) (ra rb : List Nat) (h : ∀ (e : Nat → PV) (K : St → Prop), (∀ k' H', EqHf H' (phAt ph (q + 1)).H → Wr P tab n r ops k' [] K ⟨updO (fun t => g (updL e (rdL ra rb (phAt ph q)) t)) ((ops.toList[i]?).bind (·.dst)) (lookE (phAt ph (q + 1)).A), H'⟩) →
        Wr P tab n r ops i (opAt ops.toList i) K ⟨updL e (rdL ra rb (phAt ph q)), lookH (phAt ph q).H⟩)
      (hg : g .dead = .dead) (hA : (phAt ph (q + 1)).A = news ++ mapG g (phAt ph q).A) (hB : (phAt ph (q + 1)).B = mapG g (phAt ph q).B)
      (hn : (news.all fun x => match dstAt x.1 ops.toList 0 with
        | none => false
        | some j => j == i || decide (q < lo.getD j 0)) = true) (hr : rdOK ops.toList i ra rb = true) (hl : WL (q + 1) l) : WL q (i :: l)
end

def idxIn : List Nat → Nat → Nat → Option Nat
  | [], _, _ => none
  | x :: l, i, q => if x = i then some q else idxIn l i (q + 1)

theorem idxIn_some {l : List Nat} {i q p : Nat} (h : idxIn l i q = some p) : q ≤ p ∧ p < q + l.length ∧ l[p - q]? = some i := by
  induction l generalizing q with
  | nil => cases h
  | cons x l ih =>
    unfold idxIn at h
    split at h
    · cases h; rename_i e; subst e; simp
    · obtain ⟨h1, h2, h3⟩ := ih h
      refine ⟨by omega, by simp; omega, ?_⟩
      rw [show p - q = (p - (q + 1)) + 1 by omega]
      simpa using h3

theorem idxIn_none {l : List Nat} {i q : Nat} (h : idxIn l i q = none) : i ∉ l := by
  induction l generalizing q with
  | nil => simp
  | cons x l ih =>
    unfold idxIn at h
    split at h
    · cases h
    · rename_i hne
      simp only [List.mem_cons, not_or]
      exact ⟨fun e => hne e.symm, ih h⟩

def opChk (l : List Oper) (wr lo hi : List Nat) (cov : List (Nat × Nat)) (i : Nat) (o : Oper) : Bool :=
  ((bindsOn o).all (fun e => decide (e < i)) && (match o.dst with
    | none => true
    | some d => decide (dstAt d l 0 = some i))) &&
  (match idxIn wr i 0 with
    | some q => decide (lo.getD i 0 ≤ q + 1) && (q == 0 || (match wr[q - 1]? with
      | some p => (bindsOn o).contains p
      | none => false))
    | none => ((lo.getD i 0 == 0 || (bindsOn o).any fun p => match idxIn wr p 0 with
        | some q => decide (lo.getD i 0 ≤ q + 1)
        | none => decide (lo.getD i 0 ≤ lo.getD p 0)) &&
      (decide (wr.length ≤ hi.getD i 0) || (List.range l.length).any fun s => (decide (i < s) && (match l[s]? with
        | none => false
        | some os => (bindsOn os).contains i)) && (match idxIn wr s 0 with
        | some q => decide (q ≤ hi.getD i 0)
        | none => decide (hi.getD s 0 ≤ hi.getD i 0)))) &&
      (List.range (wr.length + 1)).all fun k => (decide (k < lo.getD i 0) || decide (hi.getD i 0 < k)) || cov.contains (i, k))

/-- What is to be checked of a region, of numbers alone. -/
def drawOK (l : List Oper) (wr lo hi : List Nat) (cov : List (Nat × Nat)) : Bool :=
  (((List.range l.length).all fun i => match l[i]? with
    | none => true
    | some o => opChk l wr lo hi cov i o) && wr.all fun i => decide (i < l.length)) && decide wr.Nodup

section
variable {P : Program} {tab : Tab} {n : Nat} {N : St → Prop} {X : Nat → St → Prop} {R : St → Prop} {S : St} {r : Nat} {ops : Array Oper} {ph : List Ph} {wr lo hi : List Nat} {cov : List (Nat × Nat)}

theorem VL.get {cv : List (Nat × Nat)} (h : VL P tab n r ops ph cv) {i k : Nat} (hm : (i, k) ∈ cv) : ∃ (d : Nat) (ra rb : List Nat), (∀ (e : Nat → PV) (K : St → Prop), (∀ k', Wr P tab n r ops k' [] K ⟨upd (updL e (rdL ra rb (phAt ph k))) d (lookE (phAt ph k).A d), lookH (phAt ph k).H⟩) → Wr P tab n r ops i (opAt ops.toList i) K ⟨updL e (rdL ra rb (phAt ph k)), lookH (phAt ph k).H⟩) ∧
    (ops.toList[i]?).bind (·.dst) = some d ∧ rdOK ops.toList i ra rb = true := by
  induction h with
  | nil => cases hm
  | cons ra rb h hd hr hl ih =>
    cases hm with
    | head => exact ⟨_, ra, rb, h, hd, hr⟩
    | tail _ hm => exact ih hm

theorem look_filter (l : List (Nat × PV)) (p : Nat → Bool) (t : Nat) (h : p t = true) : lookE (l.filter fun x => p x.1) t = lookE l t := by
  induction l with
  | nil => rfl
  | cons x l ih =>
    obtain ⟨d, v⟩ := x
    simp only [List.filter_cons]
    split
    · simp only [lookE, ih]
    · rename_i hp
      simp only [lookE]
      rw [if_neg (fun e => by subst e; exact hp h)]
      exact ih

theorem EqW.vr {l : List (Nat × PV)} (h : EqW P S l) {I0 : Nat → Prop} {base : Nat} {om : Id → Option Nat} {w : World} {t : Nat} {x : Value} (hx : VR P I0 base om w (S.env t) x) : VR P I0 base om w (lookE l t) x := by
  induction h with
  | nil => exact .dead _
  | cons he hl ih =>
    unfold lookE
    split
    · rename_i e; subst e; rw [he] at hx; exact hx
    · exact ih
  | wk hw he hl ih =>
    unfold lookE
    split
    · rename_i e; subst e; rw [he] at hx; exact hw _ _ _ _ _ hx
    · exact ih

theorem EqWH.box {l : List (Id × List PV)} (h : EqWH P S l) {I0 : Nat → Prop} {base : Nat} {om : Id → Option Nat} {w : World} (hb : ∀ id cs, S.H id = some cs → BoxR P I0 base om w id cs) {id : Id} {cs : List PV} (hc : lookH l id = some cs) : BoxR P I0 base om w id cs := by
  induction h with
  | nil => cases hc
  | cons he hl ih =>
    unfold lookH at hc
    split at hc
    · rename_i e; subst e; cases hc; exact hb _ _ he
    · exact ih hc
  | wk hw he hl ih =>
    unfold lookH at hc
    split at hc
    · rename_i e; subst e; cases hc; exact (hb _ _ he).wk hw
    · exact ih hc

structure WOb (P : Program) (tab : Tab) (n r : Nat) (ops : Array Oper) (ph : List Ph) (lo : List Nat) (q i : Nat) where
  g : PV → PV
  news : List (Nat × PV)
  ra : List Nat
  rb : List Nat
  h : ∀ (e : Nat → PV) (K : St → Prop), (∀ k' H', EqHf H' (phAt ph (q + 1)).H → Wr P tab n r ops k' [] K ⟨updO (fun t => g (updL e (rdL ra rb (phAt ph q)) t)) ((ops.toList[i]?).bind (·.dst)) (lookE (phAt ph (q + 1)).A), H'⟩) →
        Wr P tab n r ops i (opAt ops.toList i) K ⟨updL e (rdL ra rb (phAt ph q)), lookH (phAt ph q).H⟩
  hg : g .dead = .dead
  hA : (phAt ph (q + 1)).A = news ++ mapG g (phAt ph q).A
  hB : (phAt ph (q + 1)).B = mapG g (phAt ph q).B
  hn : (news.all fun x => match dstAt x.1 ops.toList 0 with
        | none => false
        | some j => j == i || decide (q < lo.getD j 0)) = true
  hr : rdOK ops.toList i ra rb = true

theorem WL.get {q : Nat} {l : List Nat} (h : WL P tab n r ops ph lo q l) {j i : Nat} (hj : l[j]? = some i) : Nonempty (WOb P tab n r ops ph lo (q + j) i) := by
  induction h generalizing j with
  | nil => simp at hj
  | @cons q' i' l' g news ra rb h hg hA hB hn hr hl ih =>
    cases j with
    | zero => simp at hj; subst hj; exact ⟨⟨g, news, ra, rb, h, hg, hA, hB, hn, hr⟩⟩
    | succ j =>
      simp at hj
      have := ih hj
      rwa [show q' + 1 + j = q' + (j + 1) by omega] at this

/-- The state of a schedule: which operations are done, k of them writers. -/
structure Inv (ops : Array Oper) (wr : List Nat) (I : Array Bool) (k : Nat) : Prop where
  size : I.size = ops.size
  wrs : ∀ (q i : Nat), wr[q]? = some i → (I.getD i false = true ↔ q < k)
  down : ∀ (i : Nat) (o : Oper), ops.toList[i]? = some o → I.getD i false = true → ∀ e ∈ bindsOn o, I.getD e false = true
  le : k ≤ wr.length

theorem mem_bindsOn {o : Oper} {e : Edge} (he : e ∈ o.after) (hb : Region.binds .any e = true) : e.on ∈ bindsOn o :=
  List.mem_map.2 ⟨e, List.mem_filter.2 ⟨by simpa using he, hb⟩, rfl⟩

theorem bindsOn_mem {o : Oper} {j : Nat} (h : j ∈ bindsOn o) : ∃ e ∈ o.after, Region.binds .any e = true ∧ e.on = j := by
  obtain ⟨e, he, rfl⟩ := List.mem_map.1 h
  obtain ⟨h1, h2⟩ := List.mem_filter.1 he
  exact ⟨e, by simpa using h1, h2, rfl⟩

theorem dstAt_some {t : Nat} : ∀ {l : List Oper} {i j : Nat}, dstAt t l i = some j → i ≤ j ∧ ∃ o, l[j - i]? = some o ∧ o.dst = some t
  | [], i, j, h => by cases h
  | o :: l, i, j, h => by
    unfold dstAt at h
    split at h
    · cases h; exact ⟨Nat.le_refl _, o, by simp, by assumption⟩
    · obtain ⟨h1, o', h2, h3⟩ := dstAt_some h
      refine ⟨by omega, o', ?_, h3⟩
      rw [show j - i = (j - (i + 1)) + 1 by omega]
      simpa using h2

theorem exit_to {Q : AE → St → Prop} {F : Fr} {e : Exit} {a : Act} {w : World} (h : lift P F Q e a w) : ∃ e' : AE, e = e'.to := by
  obtain ⟨e', _, _, h, _⟩ := h
  exact ⟨e', h⟩

/-- From a rule for one operation to a step of a schedule. -/
theorem wpOp_of_Wr {F : Fr} {om : Id → Option Nat} {a : Act} {w : World} {i : Nat} {o : Oper} {K : St → Prop} {T : St} {k' : Nat} (hi : ops.toList[i]? = some o) (hT : TabOK P tab) (hok : opsOK n ops.toList = true) (hn : F.n = n)
    (h : Wr P tab n r ops k' (opAt ops.toList i) K T) (hr : SRel P F om a w T) {next : Act → World → Prop} {Q : Exit → Act → World → Prop} (hnext : ∀ om' a' w' S', SRel P F om' a' w' S' → K S' → next a' w') : wpOp P ops Q i next a w := by
  rw [opAt_some hi] at h
  have hok1 : opsOK n [o] = true := by
    simp only [opsOK, List.all_cons, List.all_nil, Bool.and_true]
    exact List.all_eq_true.1 hok o (List.mem_of_getElem? hi)
  have hrun := h.run hT hok1 F om a w hn hr
  have hio : ops[i]? = some o := by simpa using hi
  unfold wpOp
  simp only [hio]
  unfold wpList at hrun
  have conv : ∀ a' w', wpList P ops (lift P F (post K (fun _ _ => False) fun _ => False)) [] a' w' → next a' w' := by
    intro a' w' hh
    unfold wpList at hh
    obtain ⟨e', om', S', he, hr', hq⟩ := hh
    cases e' with
    | normal => exact hnext om' a' w' S' hr' hq
    | exit id => cases he
    | ret => cases he
  split
  · rename_i hw
    rw [if_pos hw] at hrun
    rcases hrun with hrun | ⟨_, a0, w0, hl⟩
    · left
      unfold Oper.wp at *
      generalize (execOp a.eval o).run P w = res at *
      cases res with
      | ok n w' =>
        cases n <;> simp only [Oper.upon] at hrun ⊢ <;> first
          | exact conv _ _ hrun
          | exact Calls.mono hrun (fun e w'' he => by
              cases e with
              | returned v => exact conv _ _ he
              | panicked c => obtain ⟨e', h'⟩ := exit_to he; cases e' <;> cases h'
              | outgrown => obtain ⟨a0, w0, h0⟩ := he; obtain ⟨e', h'⟩ := exit_to h0; cases e' <;> cases h')
          | exact Rows.mono hrun (fun v w'' he => conv _ _ he)
      | halt x w' =>
        cases x <;> simp only [Oper.upon] at hrun ⊢
        obtain ⟨e', h'⟩ := exit_to hrun; cases e' <;> cases h'
    · obtain ⟨e', h'⟩ := exit_to hl; cases e' <;> cases h'
  · rename_i hw
    rw [if_neg hw] at hrun
    exact conv _ _ hrun

theorem Wp.draw (wr lo hi : List Nat) (cov : List (Nat × Nat)) (ph : List Ph) (st : List (Nat × PV)) (hV : VL P tab n r ops ph cov) (hW : WL P tab n r ops ph lo 0 wr) (hc : drawOK ops.toList wr lo hi cov = true)
    (hst : ((phAt ph 0).A.filter fun x => (dstAt x.1 ops.toList 0).isNone) = st) (hS : EqW P S st) (hB : EqW P S (phAt ph 0).B) (hH : EqWH P S (phAt ph 0).H) (hN : N (St.of (phAt ph wr.length).A (phAt ph wr.length).H)) : Wp P tab n (.region r ops true) N X R S := by
  simp only [drawOK, Bool.and_eq_true, decide_eq_true_eq] at hc
  obtain ⟨⟨hc1, hc2⟩, hnd⟩ := hc
  have hop : ∀ (i : Nat) (o : Oper), ops.toList[i]? = some o → opChk ops.toList wr lo hi cov i o = true := fun i o ho => by
    have h1 := List.all_eq_true.1 hc1 i (List.mem_range.2 (List.getElem?_eq_some_iff.1 ho).1)
    rw [ho] at h1
    exact h1
  have hpred : ∀ (i : Nat) (o : Oper), ops.toList[i]? = some o → ∀ e ∈ bindsOn o, e < i := fun i o ho e he => by
    have := hop i o ho
    simp only [opChk, Bool.and_eq_true, List.all_eq_true, decide_eq_true_eq] at this
    exact this.1.1 e he
  have hdst : ∀ (i : Nat) (o : Oper) (d : Nat), ops.toList[i]? = some o → o.dst = some d → dstAt d ops.toList 0 = some i := fun i o d ho hd => by
    have := hop i o ho
    simp only [opChk, Bool.and_eq_true] at this
    have := this.1.2
    rw [hd] at this
    simpa using this
  have hwr : ∀ (q i : Nat) (o : Oper), wr[q + 1]? = some i → ops.toList[i]? = some o → ∀ (p : Nat), wr[q]? = some p → p ∈ bindsOn o := by
    intro q i o hq ho p hp
    have h1 := hop i o ho
    simp only [opChk, Bool.and_eq_true] at h1
    have h2 := h1.2
    have hidx : idxIn wr i 0 = some (q + 1) := by
      cases hx : idxIn wr i 0 with
      | none => exact absurd (List.mem_of_getElem? hq) (idxIn_none hx)
      | some q' =>
        obtain ⟨_, h4, h5⟩ := idxIn_some hx
        have := (List.getElem?_inj (by simpa using h4) hnd).1 ((by simpa using h5 : wr[q']? = some i).trans hq.symm)
        rw [this]
    rw [hidx] at h2
    simp only [Nat.add_sub_cancel, hp] at h2
    simp at h2
    exact h2.2
  have hlt : ∀ (q i : Nat), wr[q]? = some i → ∃ o, ops.toList[i]? = some o := by
    intro q i hq
    have := List.all_eq_true.1 hc2 i (List.mem_of_getElem? hq)
    simp only [decide_eq_true_eq] at this
    exact ⟨_, List.getElem?_eq_getElem this⟩
  have hidxW : ∀ (q i : Nat), wr[q]? = some i → idxIn wr i 0 = some q := by
    intro q i hq
    cases hx : idxIn wr i 0 with
    | none => exact absurd (List.mem_of_getElem? hq) (idxIn_none hx)
    | some q' =>
      obtain ⟨_, h4, h5⟩ := idxIn_some hx
      have := (List.getElem?_inj (by simpa using h4) hnd).1 ((by simpa using h5 : wr[q']? = some i).trans hq.symm)
      rw [this]
  -- what is done of the kind that makes values is not too early
  have hlo : ∀ (I : Array Bool) (k : Nat), Inv ops wr I k → ∀ (i : Nat) (o : Oper), ops.toList[i]? = some o → idxIn wr i 0 = none → (∀ e ∈ bindsOn o, I.getD e false = true) → lo.getD i 0 ≤ k := by
    intro I k hI i
    induction i using Nat.strongRecOn with
    | _ i ih =>
      intro o ho hni hpre
      have h1 := hop i o ho
      simp only [opChk, Bool.and_eq_true] at h1
      have h2 := h1.2
      rw [hni] at h2
      simp only [Bool.and_eq_true, Bool.or_eq_true, beq_iff_eq, List.any_eq_true, List.all_eq_true, decide_eq_true_eq] at h2
      rcases h2.1.1 with h3 | ⟨p, hp, h3⟩
      · rw [h3]; exact Nat.zero_le _
      · have hpl := hpre p hp
        have hpi := hpred i o ho p hp
        split at h3
        · rename_i q hq
          obtain ⟨_, _, h5⟩ := idxIn_some hq
          have := (hI.wrs q p (by simpa using h5)).1 hpl
          simp only [decide_eq_true_eq] at h3
          omega
        · rename_i hq
          simp only [decide_eq_true_eq] at h3
          have hpo : ∃ op, ops.toList[p]? = some op := ⟨_, List.getElem?_eq_getElem (Nat.lt_trans hpi (List.getElem?_eq_some_iff.1 ho).1)⟩
          obtain ⟨op, hpo⟩ := hpo
          have := ih p hpi op hpo hq (hI.down p op hpo hpl)
          omega
  have hhi : ∀ (I : Array Bool) (k : Nat), Inv ops wr I k → ∀ (m i : Nat) (o : Oper), ops.toList.length - i = m → ops.toList[i]? = some o → idxIn wr i 0 = none → I.getD i false = false → k ≤ hi.getD i 0 := by
    intro I k hI m
    induction m using Nat.strongRecOn with
    | _ m ih =>
      intro i o hm ho hni hu
      have h1 := hop i o ho
      simp only [opChk, Bool.and_eq_true] at h1
      have h2 := h1.2
      rw [hni] at h2
      simp only [Bool.and_eq_true, Bool.or_eq_true, List.any_eq_true, List.all_eq_true, decide_eq_true_eq] at h2
      rcases h2.1.2 with h3 | ⟨s, hs, ⟨h3, h4⟩, h5⟩
      · exact Nat.le_trans hI.le h3
      · have hsl := List.mem_range.1 hs
        have hso : ops.toList[s]? = some ops.toList[s] := List.getElem?_eq_getElem hsl
        rw [hso] at h4
        simp only [List.contains_iff_mem] at h4
        have hsu : I.getD s false = false := by
          cases hx : I.getD s false with
          | false => rfl
          | true =>
            have := hI.down s _ hso hx i h4
            rw [hu] at this
            cases this
        split at h5
        · rename_i q hq
          obtain ⟨_, _, h6⟩ := idxIn_some hq
          have h7 : ¬ q < k := fun hlt => by
            have := (hI.wrs q s (by simpa using h6)).2 hlt
            rw [hsu] at this
            cases this
          simp only [decide_eq_true_eq] at h5
          omega
        · rename_i hq
          simp only [decide_eq_true_eq] at h5
          have hil : i < ops.toList.length := (List.getElem?_eq_some_iff.1 ho).1
          have := ih (ops.toList.length - s) (by omega) s _ rfl hso hq hsu
          omega
  -- the reads of an operation
  have hread : ∀ (I : Array Bool) (k : Nat), Inv ops wr I k → ∀ (i : Nat) (o : Oper), ops.toList[i]? = some o → I.getD i false = false → (∀ e ∈ bindsOn o, I.getD e false = true) → ∀ (ra rb : List Nat), rdOK ops.toList i ra rb = true → ∀ p : Ph, updL (kenv ops.toList p I) (rdL ra rb p) = kenv ops.toList p I := by
    intro I k hI i o ho hu hpre ra rb hrd p
    simp only [rdOK, Bool.and_eq_true, List.all_eq_true] at hrd
    refine updL_same fun x hx => ?_
    rcases List.mem_append.1 hx with hx | hx
    · obtain ⟨t, ht, rfl⟩ := List.mem_map.1 hx
      have := hrd.1 t ht
      show kenv ops.toList p I t = lookE p.A t
      unfold kenv
      split
      · rfl
      · rename_i j hj
        rw [hj] at this
        simp only [ho, List.contains_iff_mem] at this
        rw [if_pos (hpre j this)]
    · obtain ⟨t, ht, rfl⟩ := List.mem_map.1 hx
      have := hrd.2 t ht
      show kenv ops.toList p I t = lookE p.B t
      unfold kenv
      split
      · rename_i hj
        rw [hj] at this
        cases this
      · rename_i j hj
        rw [hj] at this
        obtain ⟨_, oj, hoj, _⟩ := dstAt_some hj
        rw [Nat.sub_zero] at hoj
        simp only [hoj, Bool.or_eq_true, beq_iff_eq, List.contains_iff_mem] at this
        have hju : I.getD j false = false := by
          rcases this with rfl | this
          · exact hu
          · cases hx : I.getD j false with
            | false => rfl
            | true =>
              have := hI.down j oj hoj hx i this
              rw [hu] at this
              cases this
        rw [if_neg (by rw [hju]; simp)]
  refine ⟨fun hT hm hok F om a w hn hr => ?_⟩
  simp only [codeOK] at hok
  have key : ∀ (fuel : Nat) (U : List Nat) (I : Array Bool) (k : Nat) (om : Id → Option Nat) (a : Act) (w : World), Inv ops wr I k → (∀ j, j < ops.toList.length → I.getD j false = false → j ∈ U) → U.length ≤ fuel → SRel P F om a w (kst ops.toList (phAt ph k) I) →
      wpAny P .any ops (lift P F (post N X R)) fuel I a w := by
    intro fuel
    have fin : ∀ (I : Array Bool) (k : Nat) (om : Id → Option Nat) (a : Act) (w : World), Inv ops wr I k → (∀ j, j < ops.toList.length → I.getD j false = true) → SRel P F om a w (kst ops.toList (phAt ph k) I) → lift P F (post N X R) .normal a w := by
      intro I k om a w hI hall hr
      have hk : k = wr.length := by
        rcases Nat.lt_or_ge k wr.length with hlt' | hge
        · have hq : wr[k]? = some wr[k] := List.getElem?_eq_getElem hlt'
          obtain ⟨o, ho⟩ := hlt k _ hq
          have := (hI.wrs k _ hq).1 (hall _ (List.getElem?_eq_some_iff.1 ho).1)
          omega
        · have := hI.le; omega
      subst hk
      refine ⟨.normal, om, _, rfl, ?_, hN⟩
      have : kst ops.toList (phAt ph wr.length) I = St.of (phAt ph wr.length).A (phAt ph wr.length).H := by
        unfold kst St.of
        congr 1
        funext t
        unfold kenv
        split
        · rfl
        · rename_i j hj
          obtain ⟨_, o, ho, _⟩ := dstAt_some hj
          rw [Nat.sub_zero] at ho
          rw [if_pos (hall j (List.getElem?_eq_some_iff.1 ho).1)]
      rw [this] at hr
      exact hr
    have none_ready : ∀ (I : Array Bool) (k : Nat), Inv ops wr I k → Region.ready .any ops I = [] → ∀ j, j < ops.toList.length → I.getD j false = true := by
      intro I k hI hempty j
      induction j using Nat.strongRecOn with
      | _ j ih =>
        intro hj
        cases hx : I.getD j false with
        | true => rfl
        | false =>
          have hjo : ops.toList[j]? = some ops.toList[j] := List.getElem?_eq_getElem hj
          have hm : j ∈ Region.ready .any ops I := by
            rw [mem_ready]
            refine ⟨?_, ops.toList[j], by rw [← Array.getElem?_toList]; exact hjo, fun e he hb => ?_⟩
            · have hjs : j < I.size := by rw [hI.size]; simpa using hj
              simp [Array.getD_eq_getD_getElem?, Array.getElem?_eq_getElem hjs] at hx ⊢
              exact hx
            · have h1 := hpred j _ hjo e.on (mem_bindsOn he hb)
              exact ih e.on h1 (Nat.lt_trans h1 hj)
          rw [hempty] at hm
          cases hm
    induction fuel with
    | zero =>
      intro U I k om a w hI hU hlen hr
      have hU0 : U = [] := List.eq_nil_of_length_eq_zero (by omega)
      subst hU0
      have hall : ∀ j, j < ops.toList.length → I.getD j false = true := by
        intro j hj
        cases hx : I.getD j false with
        | true => rfl
        | false => have := hU j hj hx; cases this
      refine ⟨?_, fin I k om a w hI hall hr⟩
      apply List.eq_nil_iff_forall_not_mem.2
      intro j hj
      rw [mem_ready] at hj
      obtain ⟨h1, o, ho, _⟩ := hj
      have hjl : j < ops.toList.length := by simpa using (Array.getElem?_eq_some_iff.1 ho).1
      have := hall j hjl
      have hjs : j < I.size := by rw [hI.size]; simpa using hjl
      simp [Array.getD_eq_getD_getElem?, Array.getElem?_eq_getElem hjs] at h1 this
      rw [h1] at this
      cases this
    | succ fuel ih =>
      intro U I k om a w hI hU hlen hr
      refine ⟨fun hempty => fin I k om a w hI (none_ready I k hI hempty) hr, ?_⟩
      intro i hi
      rw [mem_ready] at hi
      obtain ⟨h1, o, ho, hall⟩ := hi
      have hol : ops.toList[i]? = some o := by simpa using ho
      have hil : i < ops.toList.length := (List.getElem?_eq_some_iff.1 hol).1
      have his : i < I.size := by rw [hI.size]; simpa using hil
      have hu : I.getD i false = false := by
        simp [Array.getD_eq_getD_getElem?, Array.getElem?_eq_getElem his] at h1 ⊢
        exact h1
      have hpre : ∀ e ∈ bindsOn o, I.getD e false = true := by
        intro e he
        obtain ⟨ed, h2, h3, rfl⟩ := bindsOn_mem he
        exact hall ed h2 h3
      have hI'get : ∀ j, (I.setIfInBounds i true).getD j false = if j = i then true else I.getD j false := by
        intro j
        by_cases hji : j = i
        · subst hji
          simp [Array.getD_eq_getD_getElem?, his]
        · rw [if_neg hji]
          simp [Array.getD_eq_getD_getElem?, Array.getElem?_setIfInBounds_ne (Ne.symm hji)]
      have hU' : ∀ j, j < ops.toList.length → (I.setIfInBounds i true).getD j false = false → j ∈ U.erase i := by
        intro j hj hju
        rw [hI'get] at hju
        split at hju
        · cases hju
        · rename_i hne
          exact (List.mem_erase_of_ne hne).2 (hU j hj hju)
      have hUl : (U.erase i).length ≤ fuel := by
        rw [List.length_erase_of_mem (hU i hil hu)]
        omega
      have hdown' : ∀ j oj, ops.toList[j]? = some oj → (I.setIfInBounds i true).getD j false = true → ∀ e ∈ bindsOn oj, (I.setIfInBounds i true).getD e false = true := by
        intro j oj hoj hj e he
        rw [hI'get] at hj ⊢
        split
        · rfl
        · split at hj
          · rename_i hji; subst hji; rw [hol] at hoj; cases hoj; exact hpre e he
          · exact hI.down j oj hoj hj e he
      cases hx : idxIn wr i 0 with
      | none =>
        -- one that makes a value
        have hcov : (i, k) ∈ cov := by
          have h2 := hop i o hol
          simp only [opChk, Bool.and_eq_true] at h2
          have h3 := h2.2
          rw [hx] at h3
          simp only [Bool.and_eq_true, List.all_eq_true] at h3
          have h4 := h3.2 k (List.mem_range.2 (by have := hI.le; omega))
          simp only [Bool.or_eq_true, decide_eq_true_eq, List.contains_iff_mem] at h4
          have h5 := hlo I k hI i o hol hx hpre
          have h6 := hhi I k hI _ i o rfl hol hx hu
          rcases h4 with (h4 | h4) | h4
          · omega
          · omega
          · exact h4
        obtain ⟨d, ra, rb, hstep, hd, hrd⟩ := hV.get hcov
        rw [hol] at hd
        simp only [Option.bind_some] at hd
        have hInv' : Inv ops wr (I.setIfInBounds i true) k := by
          refine ⟨by simp [hI.size], fun q j hq => ?_, hdown', hI.le⟩
          rw [hI'get]
          have hji : j ≠ i := fun e => by subst e; exact idxIn_none hx (List.mem_of_getElem? hq)
          rw [if_neg hji]
          exact hI.wrs q j hq
        have hrd' := hread I k hI i o hol hu hpre ra rb hrd (phAt ph k)
        refine wpOp_of_Wr (r := r) (k' := i) (T := kst ops.toList (phAt ph k) I) (K := fun S' => ∀ om' a' w', SRel P F om' a' w' S' → wpAny P .any ops (lift P F (post N X R)) fuel (I.setIfInBounds i true) a' w') hol hT hok hn ?_ hr (fun om' a' w' S' hr' hK => hK om' a' w' hr')
        have h7 := hstep (kenv ops.toList (phAt ph k) I) (fun S' => ∀ om' a' w', SRel P F om' a' w' S' → wpAny P .any ops (lift P F (post N X R)) fuel (I.setIfInBounds i true) a' w')
        rw [hrd'] at h7
        refine h7 fun k' => .nil ?_
        intro om' a' w' hr'
        refine ih (U.erase i) _ k om' a' w' hInv' hU' hUl ?_
        have e1 : kst ops.toList (phAt ph k) (I.setIfInBounds i true) = ⟨upd (kenv ops.toList (phAt ph k) I) d (lookE (phAt ph k).A d), lookH (phAt ph k).H⟩ := by
          unfold kst
          congr 1
          funext t
          unfold upd
          by_cases htd : t = d
          · subst htd
            rw [if_pos rfl]
            unfold kenv
            rw [hdst i o t hol hd]
            simp only [hI'get, if_true]
          · rw [if_neg htd]
            unfold kenv
            split
            · rfl
            · rename_i j hj
              have hji : j ≠ i := by
                rintro rfl
                obtain ⟨_, oj, hoj, hdj⟩ := dstAt_some hj
                rw [Nat.sub_zero, hol] at hoj
                cases hoj
                rw [hd] at hdj
                cases hdj
                exact htd rfl
              simp only [hI'get, if_neg hji]
        rw [e1]
        exact hr'
      | some q =>
        -- a writer
        obtain ⟨_, hq1, hq2⟩ := idxIn_some hx
        rw [Nat.sub_zero] at hq2
        have hqk : q = k := by
          have h2 : ¬ q < k := fun hlt' => by
            have := (hI.wrs q i hq2).2 hlt'
            rw [hu] at this
            cases this
          rcases Nat.lt_or_ge k q with h3 | h3
          · cases q with
            | zero => omega
            | succ q' =>
              have hp : wr[q']? = some wr[q'] := List.getElem?_eq_getElem (by omega)
              have := hpre _ (hwr q' i o hq2 hol _ hp)
              have := (hI.wrs q' _ hp).1 this
              omega
          · omega
        subst hqk
        obtain ⟨ob⟩ := hW.get hq2
        rw [Nat.zero_add] at ob
        have hInv' : Inv ops wr (I.setIfInBounds i true) (q + 1) := by
          refine ⟨by simp [hI.size], fun q' j hq' => ?_, hdown', by omega⟩
          rw [hI'get]
          by_cases hji : j = i
          · subst hji
            have := hidxW q' j hq'
            rw [hx] at this
            cases this
            simp
          · rw [if_neg hji, hI.wrs q' j hq']
            have hne : q' ≠ q := fun e => by subst e; rw [hq2] at hq'; cases hq'; exact hji rfl
            omega
        have hrd' := hread I q hI i o hol hu hpre ob.ra ob.rb ob.hr (phAt ph q)
        refine wpOp_of_Wr (r := r) (k' := i) (T := kst ops.toList (phAt ph q) I) (K := fun S' => ∀ om' a' w', SRel P F om' a' w' S' → wpAny P .any ops (lift P F (post N X R)) fuel (I.setIfInBounds i true) a' w') hol hT hok hn ?_ hr (fun om' a' w' S' hr' hK => hK om' a' w' hr')
        have h7 := ob.h (kenv ops.toList (phAt ph q) I) (fun S' => ∀ om' a' w', SRel P F om' a' w' S' → wpAny P .any ops (lift P F (post N X R)) fuel (I.setIfInBounds i true) a' w')
        rw [hrd'] at h7
        refine h7 fun k' H' hH' => .nil ?_
        intro om' a' w' hr'
        refine ih (U.erase i) _ (q + 1) om' a' w' hInv' hU' hUl (hr'.weak ⟨fun t => .inr ?_, fun id => ?_⟩)
        · -- the slots
          show kenv ops.toList (phAt ph (q + 1)) (I.setIfInBounds i true) t = updO (fun t => ob.g (kenv ops.toList (phAt ph q) I t)) ((ops.toList[i]?).bind (·.dst)) (lookE (phAt ph (q + 1)).A) t
          rw [hol]
          simp only [Option.bind_some]
          have hother : o.dst ≠ some t → kenv ops.toList (phAt ph (q + 1)) (I.setIfInBounds i true) t = ob.g (kenv ops.toList (phAt ph q) I t) := by
            intro hdt
            have hnews : ∀ j, (dstAt t ops.toList 0 = none ∨ (dstAt t ops.toList 0 = some j ∧ I.getD j false = true)) → lookE (phAt ph (q + 1)).A t = ob.g (lookE (phAt ph q).A t) := by
              intro j hj
              rw [ob.hA, look_append, look_mapG ob.hg]
              intro x hx hxt
              have h8 := List.all_eq_true.1 ob.hn x hx
              rw [hxt] at h8
              rcases hj with hj | ⟨hj, hjl⟩
              · rw [hj] at h8; cases h8
              · rw [hj] at h8
                simp only [Bool.or_eq_true, beq_iff_eq, decide_eq_true_eq] at h8
                obtain ⟨_, oj, hoj, hdj⟩ := dstAt_some hj
                rw [Nat.sub_zero] at hoj
                rcases h8 with rfl | h8
                · rw [hu] at hjl; cases hjl
                · cases hxj : idxIn wr j 0 with
                  | none =>
                    have := hlo I q hI j oj hoj hxj (hI.down j oj hoj hjl)
                    omega
                  | some q' =>
                    -- a writer's own slot: made in its phase
                    obtain ⟨_, _, hq'⟩ := idxIn_some hxj
                    rw [Nat.sub_zero] at hq'
                    have h9 := hop j oj hoj
                    simp only [opChk, Bool.and_eq_true] at h9
                    have h10 := h9.2
                    rw [hxj] at h10
                    simp only [Bool.and_eq_true, decide_eq_true_eq] at h10
                    have h11 := h10.1
                    have := (hI.wrs q' j hq').1 hjl
                    omega
            unfold kenv
            split
            · rename_i hj
              exact hnews 0 (.inl hj)
            · rename_i j hj
              have hji : j ≠ i := by
                rintro rfl
                obtain ⟨_, oj, hoj, hdj⟩ := dstAt_some hj
                rw [Nat.sub_zero, hol] at hoj
                cases hoj
                exact hdt hdj
              simp only [hI'get, if_neg hji]
              split
              · rename_i hjl
                exact hnews j (.inr ⟨hj, hjl⟩)
              · rw [ob.hB, look_mapG ob.hg]
          cases hd : o.dst with
          | none => exact hother (by rw [hd]; simp)
          | some d =>
            simp only [updO]
            unfold upd
            by_cases htd : t = d
            · subst htd
              rw [if_pos rfl]
              unfold kenv
              rw [hdst i o t hol hd]
              simp only [hI'get, if_true]
            · rw [if_neg htd]
              exact hother (by rw [hd]; simpa using Ne.symm htd)
        · show lookH (phAt ph (q + 1)).H id = none ∨ lookH (phAt ph (q + 1)).H id = H' id
          cases hl : lookH (phAt ph (q + 1)).H id with
          | none => exact .inl rfl
          | some cs => exact .inr (hH'.look hl).symm
  have hdraw : SRel P F om a { w with drawn := w.drawn + 1 } S := by
    have := hr.grow (w' := { w with drawn := w.drawn + 1 }) (Nat.le_refl _) (fun _ _ => rfl) ⟨rfl, rfl, rfl⟩ none (fun t h => by cases h) .dead undef (.dead _)
    exact this
  refine wp_region_any hm (key ops.size (List.range ops.size) (Array.replicate ops.size false) 0 om a _ ⟨by simp, ?_, ?_, Nat.zero_le _⟩ (fun j hj _ => List.mem_range.2 (by simpa using hj)) (by simp) ?_)
  · intro q i hq
    obtain ⟨o, ho⟩ := hlt q i hq
    have hil : i < ops.size := by simpa using (List.getElem?_eq_some_iff.1 ho).1
    simp [Array.getD_eq_getD_getElem?, hil]
  · intro i o ho hi'
    have hil : i < ops.size := by simpa using (List.getElem?_eq_some_iff.1 ho).1
    simp [Array.getD_eq_getD_getElem?, hil] at hi'
  · refine ⟨hdraw.size, hdraw.defers, fun t => ?_, fun id cs hcs => hH.box hdraw.box hcs, hdraw.inj, hdraw.lt, hdraw.loc, hdraw.par, hdraw.i0, hdraw.base_le, hdraw.frame, hdraw.outer⟩
    show VR P F.I0 F.base om _ (kenv ops.toList (phAt ph 0) (Array.replicate ops.size false) t) _
    unfold kenv
    split
    · rename_i hd
      have e1 : lookE st t = lookE (phAt ph 0).A t := by
        rw [← hst]
        exact look_filter _ (fun q => (dstAt q ops.toList 0).isNone) t (by simp [hd])
      rw [← e1]
      exact hS.vr (hdraw.env t)
    · rename_i j hd
      obtain ⟨_, o, ho, _⟩ := dstAt_some hd
      rw [Nat.sub_zero] at ho
      have hil : j < ops.size := by simpa using (List.getElem?_eq_some_iff.1 ho).1
      rw [if_neg (by simp [Array.getD_eq_getD_getElem?, hil])]
      exact hB.vr (hdraw.env t)

end
end Go.Proofs.Ytcahjpkmldmjdaa.Ab
