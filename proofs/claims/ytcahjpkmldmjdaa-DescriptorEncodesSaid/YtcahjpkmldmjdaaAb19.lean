/-
  Abstract values for walks without memory: rules by which a body is walked.
-/
import Derived.Test.YtcahjpkmldmjdaaAb18
namespace Go.Proofs.Ytcahjpkmldmjdaa.Ab
open Go

/-! ### a state that knows less -/

structure St.le (T S : St) : Prop where
  env : ∀ t, T.env t = .dead ∨ T.env t = S.env t
  H : ∀ id, T.H id = none ∨ T.H id = S.H id

theorem St.le.refl (S : St) : S.le S := ⟨fun _ => .inr rfl, fun _ => .inr rfl⟩

def lookE : List (Nat × PV) → Nat → PV
  | [], _ => .dead
  | (d, v) :: l, t => if t = d then v else lookE l t

def lookH : List (Id × List PV) → Id → Option (List PV)
  | [], _ => none
  | (d, v) :: l, t => if t = d then some v else lookH l t

/-- A state by what it knows. -/
def St.of (l : List (Nat × PV)) (hs : List (Id × List PV)) : St := ⟨lookE l, lookH hs⟩

inductive EqE (S : St) : List (Nat × PV) → Prop
  | nil : EqE S []
  | cons {t : Nat} {v : PV} {l : List (Nat × PV)} (h : S.env t = v) (hl : EqE S l) : EqE S ((t, v) :: l)

inductive EqH (S : St) : List (Id × List PV) → Prop
  | nil : EqH S []
  | cons {t : Id} {v : List PV} {l : List (Id × List PV)} (h : S.H t = some v) (hl : EqH S l) : EqH S ((t, v) :: l)

theorem le_of {S : St} {l : List (Nat × PV)} {hs : List (Id × List PV)} (h1 : EqE S l) (h2 : EqH S hs) : (St.of l hs).le S := by
  refine ⟨fun t => ?_, fun id => ?_⟩
  · show lookE l t = .dead ∨ lookE l t = S.env t
    induction h1 with
    | nil => exact .inl rfl
    | cons h hl ih =>
      unfold lookE
      split
      · rename_i e; subst e; exact .inr h.symm
      · exact ih
  · show lookH hs id = none ∨ lookH hs id = S.H id
    induction h2 with
    | nil => exact .inl rfl
    | cons h hl ih =>
      unfold lookH
      split
      · rename_i e; subst e; exact .inr h.symm
      · exact ih

section
variable {P : Program} {tab : Tab}

theorem SRel.weak {F : Fr} {om : Id → Option Nat} {a : Act} {w : World} {S T : St} (h : SRel P F om a w S) (hl : T.le S) : SRel P F om a w T := by
  refine ⟨h.size, h.defers, fun t => ?_, fun id cs hc => ?_, h.inj, h.lt, h.loc, h.par, h.i0, h.base_le, h.frame, h.outer⟩
  · rcases hl.env t with e | e
    · rw [e]; exact .dead _
    · rw [e]; exact h.env t
  · rcases hl.H id with e | e
    · rw [e] at hc; cases hc
    · rw [e] at hc; exact h.box id cs hc

/-! ### code -/

def post (N : St → Prop) (X : Nat → St → Prop) (R : St → Prop) : AE → St → Prop
  | .normal, S => N S
  | .exit id, S => X id S
  | .ret, S => R S

structure Wp (P : Program) (tab : Tab) (n : Nat) (c : Code) (N : St → Prop) (X : Nat → St → Prop) (R : St → Prop) (S : St) : Prop where
  run : TabOK P tab → P.follows .mixedOrders = true → codeOK n c = true → ∀ (F : Fr) (om : Id → Option Nat) (a : Act) (w : World), F.n = n → SRel P F om a w S → c.wp P (lift P F (post N X R)) a w

structure Wr (P : Program) (tab : Tab) (n r : Nat) (ops : Array Oper) (k : Nat) (l : List Oper) (K : St → Prop) (S : St) : Prop where
  run : TabOK P tab → opsOK n l = true → ∀ (F : Fr) (om : Id → Option Nat) (a : Act) (w : World), F.n = n → SRel P F om a w S → wpList P ops (lift P F (post K (fun _ _ => False) fun _ => False)) l a w

/-- Where an exit of a block goes. -/
structure Blk (id : Nat) (N : St → Prop) (X : Nat → St → Prop) (id' : Nat) (S : St) : Prop where
  go : if id' = id then N S else X id' S

theorem Blk.hit {id : Nat} {N : St → Prop} {X : Nat → St → Prop} {S : St} (h : N S) : Blk id N X id S := ⟨by rw [if_pos rfl]; exact h⟩
theorem Blk.miss {id id' : Nat} {N : St → Prop} {X : Nat → St → Prop} {S : St} (h : X id' S) (hn : (id' == id) = false := by rfl) : Blk id N X id' S := ⟨by rw [if_neg (by simpa using hn)]; exact h⟩

variable {n : Nat} {N : St → Prop} {X : Nat → St → Prop} {R : St → Prop} {S T : St}

theorem Wp.weak {c : Code} (hl : T.le S) (h : Wp P tab n c N X R T) : Wp P tab n c N X R S :=
  ⟨fun hT hm hc F om a w hn hr => h.run hT hm hc F om a w hn (hr.weak hl)⟩

theorem Wr.weak {r : Nat} {ops : Array Oper} {k : Nat} {l : List Oper} {K : St → Prop} (hl : T.le S) (h : Wr P tab n r ops k l K T) : Wr P tab n r ops k l K S :=
  ⟨fun hT hc F om a w hn hr => h.run hT hc F om a w hn (hr.weak hl)⟩

theorem Wp.mono {c : Code} {N' : St → Prop} {X' : Nat → St → Prop} {R' : St → Prop} (hN : ∀ S, N S → N' S) (hX : ∀ i S, X i S → X' i S) (hR : ∀ S, R S → R' S) (h : Wp P tab n c N X R S) : Wp P tab n c N' X' R' S := by
  refine ⟨fun hT hm hc F om a w hn hr => wp_mono (h.run hT hm hc F om a w hn hr) (lift_mono ?_)⟩
  intro e S' hq
  cases e with
  | normal => exact hN _ hq
  | exit id => exact hX _ _ hq
  | ret => exact hR _ hq

theorem Wp.skip (h : N S) : Wp P tab n .skip N X R S := ⟨fun _ _ _ _ om _ _ _ hr => wp_skip ⟨.normal, om, S, rfl, hr, h⟩⟩
theorem Wp.exit {id : Nat} (h : X id S) : Wp P tab n (.exit id) N X R S := ⟨fun _ _ _ _ om _ _ _ hr => wp_exit ⟨.exit id, om, S, rfl, hr, h⟩⟩
theorem Wp.ret (h : R S) : Wp P tab n .ret N X R S := ⟨fun _ _ _ _ om _ _ _ hr => wp_ret ⟨.ret, om, S, rfl, hr, h⟩⟩

theorem Wp.seq {x y : Code} (h : Wp P tab n x (fun S' => Wp P tab n y N X R S') X R S) : Wp P tab n (.seq x y) N X R S := by
  refine ⟨fun hT hm hok F om a w hn hr => ?_⟩
  simp only [codeOK, Bool.and_eq_true] at hok
  refine wp_seq (wp_mono (h.run hT hm hok.1 F om a w hn hr) ?_)
  rintro e a' w' ⟨e', om', S', rfl, hr, hq⟩
  cases e' with
  | normal => exact Wp.run hq hT hm hok.2 F om' a' w' hn hr
  | exit id => exact ⟨.exit id, om', S', rfl, hr, hq⟩
  | ret => exact ⟨.ret, om', S', rfl, hr, hq⟩

/-- States meet behind x. -/
theorem Wp.cut {x y : Code} (I : St → Prop) (h : Wp P tab n x (fun S' => ∃ T, I T ∧ T.le S') X R S) (hy : ∀ T, I T → Wp P tab n y N X R T) : Wp P tab n (.seq x y) N X R S :=
  .seq (h.mono (fun _ ⟨T, hT, hl⟩ => (hy T hT).weak hl) (fun _ _ h => h) fun _ h => h)

theorem Wp.cond {c : Operand} {x y : Code} {t : Bool} (h1 : t = true → Wp P tab n x N X R S) (h2 : t = false → Wp P tab n y N X R S) (hc : opnd S c = .bool t := by rfl) : Wp P tab n (.cond c x y) N X R S := by
  refine ⟨fun hT hm hok F om a w hn hr => ?_⟩
  simp only [codeOK, Bool.and_eq_true] at hok
  have hv := opnd_VR hr c
  rw [hc] at hv
  exact wp_cond_split (t := t) hv.bool_inv (fun he => (h1 he).run hT hm hok.1 F om a w hn hr) (fun he => (h2 he).run hT hm hok.2 F om a w hn hr)

theorem Wp.condT {c : Operand} {x y : Code} (h1 : Wp P tab n x N X R S) (hc : opnd S c = .bool true := by rfl) : Wp P tab n (.cond c x y) N X R S := .cond (fun _ => h1) (fun h => by cases h) hc
theorem Wp.condF {c : Operand} {x y : Code} (h1 : Wp P tab n y N X R S) (hc : opnd S c = .bool false := by rfl) : Wp P tab n (.cond c x y) N X R S := .cond (fun h => by cases h) (fun _ => h1) hc

theorem Wp.block {id : Nat} {c : Code} (h : Wp P tab n c N (Blk id N X) R S) : Wp P tab n (.block id c) N X R S := by
  refine ⟨fun hT hm hok F om a w hn hr => ?_⟩
  simp only [codeOK] at hok
  refine wp_block (wp_mono (h.run hT hm hok F om a w hn hr) ?_)
  rintro e a' w' ⟨e', om', S', rfl, hr, hq⟩
  cases e' with
  | normal => exact ⟨.normal, om', S', rfl, hr, hq⟩
  | exit id' =>
    have hq := Blk.go hq
    simp only [AE.to, Exit.inBlock]
    split at hq
    · rw [if_pos ‹_›]; exact ⟨.normal, om', S', rfl, hr, hq⟩
    · rw [if_neg ‹_›]; exact ⟨.exit id', om', S', rfl, hr, hq⟩
  | ret => exact ⟨.ret, om', S', rfl, hr, hq⟩

/-- A loop: of the states of I, by what they know; the number falls. -/
theorem Wp.loop {c : Code} (I : Nat → St → Prop) (m : Nat) (T : St) (h0 : I m T) (hl : T.le S) (hround : ∀ m T, I m T → Wp P tab n c (fun S' => ∃ m' T', m' < m ∧ I m' T' ∧ T'.le S') X R T) : Wp P tab n (.loop c) N X R S := by
  refine ⟨fun hT hm hok F om a w hn hr => ?_⟩
  simp only [codeOK] at hok
  refine wp_loop_ghost (fun m a w => ∃ om T, SRel P F om a w T ∧ I m T) m ⟨om, T, hr.weak hl, h0⟩ ?_
  rintro m a w ⟨om, T, hr, hI⟩
  refine wp_mono ((hround m T hI).run hT hm hok F om a w hn hr) ?_
  rintro e a' w' ⟨e', om', S', rfl, hr, hq⟩
  cases e' with
  | normal => obtain ⟨m', T', hm', hI', hl'⟩ := hq; exact ⟨m', hm', om', T', hr.weak hl', hI'⟩
  | exit id => exact ⟨.exit id, om', S', rfl, hr, hq⟩
  | ret => exact ⟨.ret, om', S', rfl, hr, hq⟩

theorem Wp.region {r : Nat} {ops : Array Oper} {l : List Oper} (h : Wr P tab n r ops 0 l N S) (hl : ops.toList = l := by rfl) : Wp P tab n (.region r ops false) N X R S := by
  subst hl
  refine ⟨fun hT hm hok F om a w hn hr => ?_⟩
  simp only [codeOK] at hok
  refine wp_mono (wp_region_list (Q := lift P F (post N (fun _ _ => False) fun _ => False)) (h.run hT hok F om a w hn hr)) (lift_mono ?_)
  intro e S' hq
  cases e with
  | normal => exact hq
  | exit id => exact hq.elim
  | ret => exact hq.elim

/-! ### operations -/

variable {r k : Nat} {ops : Array Oper} {K : St → Prop} {l : List Oper}

theorem Wr.nil (h : K S) : Wr P tab n r ops k [] K S := ⟨fun _ _ _ om _ _ _ hr => ⟨.normal, om, S, rfl, hr, h⟩⟩

/-- A value, brought to its form. -/
inductive Forced : PV → PV → Prop
  | int (k : IntKind) (n : Int) : Forced (.int k n) (.int k n)
  | sl (e : TypeId) (t : Tag) (xs : List PV) : Forced (.sl e t xs) (.sl e t xs)
  | bool (b : Bool) : Forced (.bool b) (.bool b)
  | str (s : ByteArray) : Forced (.str s) (.str s)
  | tup (vs : List PV) : Forced (.tup vs) (.tup vs)
  | agg (cs : List PV) : Forced (.agg cs) (.agg cs)
  | ptr (id : Id) (off : Nat) : Forced (.ptr id off) (.ptr id off)
  | ep (e : TypeId) (t : Tag) (xs : List PV) (i j : Nat) : Forced (.ep e t xs i j) (.ep e t xs i j)
  | fn (f : Nat) (cs : List PV) : Forced (.fn f cs) (.fn f cs)
  | rp (cs : List PV) (off : Nat) : Forced (.rp cs off) (.rp cs off)
  | nilp : Forced .nilp .nilp
  | nilf : Forced .nilf .nilf
  | nili : Forced .nili .nili
  | dead : Forced .dead .dead

theorem Forced.eq {u v : PV} (h : Forced u v) : u = v := by cases h <;> rfl

/-- Does an operation run? (A guard that has no value lets it stand.) -/
def runs (ops : Array Oper) (S : St) : Option (Nat × Bool) → Option Bool
  | none => some true
  | some (j, want) => match (ops[j]?).bind (·.dst) with
    | none => none
    | some t => match S.env t with
      | .bool b => some (b == want)
      | .tup [] => some false
      | _ => none

theorem runs_wanted {F : Fr} {om : Id → Option Nat} {a : Act} {w : World} {o : Oper} {b : Bool} (hr : SRel P F om a w S) (hg : runs ops S o.guard = some b) : Region.wanted o (yielded ops a.tmps) = b := by
  unfold runs at hg
  split at hg
  · rename_i he; simp only [Option.some.injEq] at hg; subst hg; simp [Region.wanted, he]
  · rename_i j want he
    split at hg
    case h_1 => cases hg
    rename_i t ht
    split at hg
    · rename_i b' hb
      have hy := guard_yield (ops := ops) (j := j) (b := b') hr (by simp only [guardA, ht, hb])
      simp only [Option.some.injEq] at hg
      subst hg
      simp only [Region.wanted, he, hy]
      cases b' <;> cases want <;> rfl
    · rename_i hb
      simp only [Option.some.injEq] at hg
      subst hg
      have hv := hr.env t
      rw [hb] at hv
      have hv' : a.tmps.getD t undef = undef := by
        generalize a.tmps.getD t undef = v at hv
        cases hv with
        | pure _ _ h => cases h
        | tup cs vs hn h =>
          have : vs = #[] := Array.eq_empty_of_size_eq_zero hn.symm
          rw [this]; rfl
      have hy : yielded ops a.tmps j = none := by
        unfold yielded
        rw [ht]
        simp only [Option.bind_some]
        cases hx : a.tmps[t]? with
        | none => rfl
        | some v =>
          rw [Array.getD_eq_getD_getElem?, hx] at hv'
          simp only [Option.getD_some] at hv'
          rw [hv']
          rfl
      simp [Region.wanted, he, hy]
    · cases hg

theorem Wr.stepA {o : Oper} (hg : runs ops S o.guard = some true) (h : stepA P tab r k o S fun S' => Wr P tab n r ops (k + 1) l K S') : Wr P tab n r ops k (o :: l) K S := by
  refine ⟨fun hT hok F om a w hn hr => ?_⟩
  subst hn
  simp only [opsOK, List.all_cons, Bool.and_eq_true] at hok
  have hd := opOK_dst hok.1
  have hcl := opOK_call hok.1
  unfold wpList
  rw [if_pos (runs_wanted hr hg)]
  exact .inl (stepA_sound hT hr hd hcl h fun om' a' w' S' hr' hK => Wr.run hK hT hok.2 F om' a' w' rfl hr')

theorem Wr.skip {d : Option Nat} {op : Op} {ty : TypeId} {pos : String} {after : Array Edge} {g : Option (Nat × Bool)} (h : Wr P tab n r ops (k + 1) l K (S.put d (.tup []))) (hg : runs ops S g = some false := by rfl) : Wr P tab n r ops k (⟨d, op, ty, pos, after, g⟩ :: l) K S := by
  refine ⟨fun hT hok F om a w hn hr => ?_⟩
  subst hn
  simp only [opsOK, List.all_cons, Bool.and_eq_true] at hok
  have hd := opOK_dst hok.1
  unfold wpList
  have hw : Region.wanted (⟨d, op, ty, pos, after, g⟩ : Oper) (yielded ops a.tmps) = false := runs_wanted hr hg
  rw [if_neg (by rw [hw]; simp)]
  exact Wr.run h hT hok.2 F om _ w rfl (hr.val _ hd _ _ (.tup [] #[] rfl fun j y c hj => by simp at hj))

/-- A test's outcome is told apart. -/
theorem Wr.case (t : Nat) {b : Bool} (h1 : b = true → Wr P tab n r ops k l K ⟨upd S.env t (.bool true), S.H⟩) (h2 : b = false → Wr P tab n r ops k l K ⟨upd S.env t (.bool false), S.H⟩) (ht : S.env t = .bool b := by rfl) : Wr P tab n r ops k l K S := by
  have e : ∀ c, b = c → (⟨upd S.env t (.bool c), S.H⟩ : St) = S := by
    intro c hc
    cases S with
    | mk e h =>
      simp only [St.mk.injEq, and_true]
      funext u
      unfold upd
      split
      · rename_i hu; subst hu; simp only at ht; rw [ht, hc]
      · rfl
  cases hb : b with
  | true => have := h1 hb; rwa [e true hb] at this
  | false => have := h2 hb; rwa [e false hb] at this

/-- A guard's outcome is told apart. -/
theorem Wr.caseG {d : Option Nat} {op : Op} {ty : TypeId} {pos : String} {after : Array Edge} {j t : Nat} {w b : Bool} (h1 : b = true → Wr P tab n r ops k (⟨d, op, ty, pos, after, some (j, w)⟩ :: l) K ⟨upd S.env t (.bool true), S.H⟩) (h2 : b = false → Wr P tab n r ops k (⟨d, op, ty, pos, after, some (j, w)⟩ :: l) K ⟨upd S.env t (.bool false), S.H⟩)
    (_hj : (ops[j]?).bind (·.dst) = some t := by rfl) (ht : S.env t = .bool b := by rfl) : Wr P tab n r ops k (⟨d, op, ty, pos, after, some (j, w)⟩ :: l) K S := .case t h1 h2 ht

/-- A guard's outcome is known. -/
theorem Wr.nowG {d : Option Nat} {op : Op} {ty : TypeId} {pos : String} {after : Array Edge} {j t : Nat} {w b : Bool} (c : Bool) (h1 : Wr P tab n r ops k (⟨d, op, ty, pos, after, some (j, w)⟩ :: l) K ⟨upd S.env t (.bool c), S.H⟩)
    (_hj : (ops[j]?).bind (·.dst) = some t := by rfl) (ht : S.env t = .bool b := by rfl) (hb : b = c) : Wr P tab n r ops k (⟨d, op, ty, pos, after, some (j, w)⟩ :: l) K S := by
  refine .case t (fun h => ?_) (fun h => ?_) ht <;> (subst hb; subst h; exact h1)

/-- A value told otherwise. -/
theorem Wr.now (t : Nat) {u v : PV} (he : u = v) (h1 : Wr P tab n r ops k l K ⟨upd S.env t v, S.H⟩) (ht : S.env t = u := by rfl) : Wr P tab n r ops k l K S := by
  have e : (⟨upd S.env t v, S.H⟩ : St) = S := by
    cases S with
    | mk e h =>
      simp only [St.mk.injEq, and_true]
      funext u'
      unfold upd
      split
      · rename_i hu; subst hu; simp only at ht; rw [ht, he]
      · rfl
  rwa [e] at h1

def St.set (S : St) (d : Nat) (v : PV) : St := ⟨upd S.env d v, S.H⟩

variable {d : Nat} {op : Op} {ty : TypeId} {pos : String} {after : Array Edge} {g : Option (Nat × Bool)}

theorem Wr.val {c : Prop} {v : PV} (h : Wr P tab n r ops (k + 1) l K (S.set d v)) (hg : runs ops S g = some true := by rfl) (he : ev tab r k ⟨some d, op, ty, pos, after, g⟩ S = .go c (.val v) := by rfl) (hc : c := by trivial) : Wr P tab n r ops k (⟨some d, op, ty, pos, after, g⟩ :: l) K S :=
  .stepA hg (by unfold Ab.stepA; rw [he]; exact ⟨hc, h⟩)

theorem Wr.wr {c : Prop} {id : Id} {cs : List PV} (h : Wr P tab n r ops (k + 1) l K (S.setH id (some cs))) (hg : runs ops S g = some true := by rfl) (he : ev tab r k ⟨none, op, ty, pos, after, g⟩ S = .go c (.wr id cs) := by rfl) (hc : c := by trivial) : Wr P tab n r ops k (⟨none, op, ty, pos, after, g⟩ :: l) K S :=
  .stepA hg (by unfold Ab.stepA; rw [he]; exact ⟨hc, h⟩)

theorem Wr.act {c : Prop} {σ : Id → Sub} {id : Id} {o : Option (List PV)} {v : PV} (h : Wr P tab n r ops (k + 1) l K (((S.sub σ).setH id o).set d v)) (hg : runs ops S g = some true := by rfl) (he : ev tab r k ⟨some d, op, ty, pos, after, g⟩ S = .go c (.act σ id o v) := by rfl) (hc : c := by trivial) : Wr P tab n r ops k (⟨some d, op, ty, pos, after, g⟩ :: l) K S :=
  .stepA hg (by unfold Ab.stepA; rw [he]; exact ⟨hc, h⟩)

theorem Wr.actN {c : Prop} {σ : Id → Sub} {id : Id} {o : Option (List PV)} {v : PV} (h : Wr P tab n r ops (k + 1) l K ((S.sub σ).setH id o)) (hg : runs ops S g = some true := by rfl) (he : ev tab r k ⟨none, op, ty, pos, after, g⟩ S = .go c (.act σ id o v) := by rfl) (hc : c := by trivial) : Wr P tab n r ops k (⟨none, op, ty, pos, after, g⟩ :: l) K S :=
  .stepA hg (by unfold Ab.stepA; rw [he]; exact ⟨hc, h⟩)

theorem Wr.br {b : Bool} {v v' : PV} (hg : runs ops S g = some true) (he : ev tab r k ⟨some d, op, ty, pos, after, g⟩ S = .br b (.val v) (.val v')) (h1 : b = true → Wr P tab n r ops (k + 1) l K (S.set d v)) (h2 : b = false → Wr P tab n r ops (k + 1) l K (S.set d v')) : Wr P tab n r ops k (⟨some d, op, ty, pos, after, g⟩ :: l) K S :=
  .stepA hg (by unfold Ab.stepA; rw [he]; exact ⟨h1, h2⟩)

theorem Wr.brT {v v' u : PV} (h1 : Wr P tab n r ops (k + 1) l K (S.set d u)) (hg : runs ops S g = some true := by rfl) (he : ev tab r k ⟨some d, op, ty, pos, after, g⟩ S = .br true (.val v) (.val v') := by rfl) (hf : Forced v u := by constructor) : Wr P tab n r ops k (⟨some d, op, ty, pos, after, g⟩ :: l) K S :=
  .br hg he (fun _ => by rw [hf.eq]; exact h1) fun h => by cases h

theorem Wr.brF {v v' u : PV} (h1 : Wr P tab n r ops (k + 1) l K (S.set d u)) (hg : runs ops S g = some true := by rfl) (he : ev tab r k ⟨some d, op, ty, pos, after, g⟩ S = .br false (.val v) (.val v') := by rfl) (hf : Forced v' u := by constructor) : Wr P tab n r ops k (⟨some d, op, ty, pos, after, g⟩ :: l) K S :=
  .br hg he (fun h => by cases h) fun _ => by rw [hf.eq]; exact h1

theorem Wr.nd {c : Bool → Prop} {v : Bool → PV} (hg : runs ops S g = some true) (he : ev tab r k ⟨some d, op, ty, pos, after, g⟩ S = .nd c v) (h : ∀ b, c b → Wr P tab n r ops (k + 1) l K (S.set d (v b))) : Wr P tab n r ops k (⟨some d, op, ty, pos, after, g⟩ :: l) K S :=
  .stepA hg (by unfold Ab.stepA; rw [he]; exact h)

theorem Wr.call {f : Nat} {args : List PV} {o : Oper} (hg : runs ops S o.guard = some true) (he : ev tab r k o S = .call f args) (h : CallA P f args S o.dst fun S' => Wr P tab n r ops (k + 1) l K S') : Wr P tab n r ops k (o :: l) K S :=
  .stepA hg (by unfold Ab.stepA; rw [he]; exact h)

/-- A call of plain values, with a plain result. -/
theorem Wr.callP0 {f : Nat} {args : List PV} {res : PV} (hg : runs ops S g = some true) (he : ev tab r k ⟨some d, op, ty, pos, after, g⟩ S = .call f args) (hC : Can P f args H0 res H0) (hi : PV.idss args = []) (hr : res.ids = []) (h : Wr P tab n r ops (k + 1) l K (S.set d res)) : Wr P tab n r ops k (⟨some d, op, ty, pos, after, g⟩ :: l) K S := by
  refine .call hg he (CallA.pure hC ?_ hr h)
  intro y hy
  obtain ⟨j, hj⟩ := List.mem_iff_getElem?.1 hy
  apply List.eq_nil_iff_forall_not_mem.2
  intro i hi'
  have := PV.idss_mem hj hi'
  rw [hi] at this
  cases this

/-- A call that shares rows of the caller's own. -/
theorem Wr.callF (frozen : List Id) {f : Nat} {args args' : List PV} {res : PV} (hg : runs ops S g = some true) (he : ev tab r k ⟨some d, op, ty, pos, after, g⟩ S = .call f args) (ha : PV.subs (frzAll frozen) args = args') (hC : Can P f args' H0 res H0) (hf : frozen.all Id.isRow = true) (hi : PV.idss args' = []) (hr : res.ids = []) (h : Wr P tab n r ops (k + 1) l K ((S.sub (frzAll frozen)).set d res)) : Wr P tab n r ops k (⟨some d, op, ty, pos, after, g⟩ :: l) K S := by
  subst ha
  rw [PV.subs_map] at hC hi
  refine .call hg he (CallA.frz frozen hC (by simpa using hf) ?_ hr h)
  intro y hy
  obtain ⟨j, hj⟩ := List.mem_iff_getElem?.1 (List.mem_map_of_mem (f := PV.sub (frzAll frozen)) hy)
  apply List.eq_nil_iff_forall_not_mem.2
  intro i hi'
  have := PV.idss_mem hj hi'
  rw [hi] at this
  cases this

/-- A call whose result is a row of its own: the caller's from now on. -/
theorem Wr.callO (frozen : List Id) (rid : Id) {f : Nat} {args args' : List PV} {res : PV} (hg : runs ops S g = some true) (he : ev tab r k ⟨some d, op, ty, pos, after, g⟩ S = .call f args) (ha : PV.subs (frzAll frozen) args = args') (hC : Can P f args' H0 res H0) (hf : frozen.all Id.isRow = true) (hrid : rid.isRow = true) (hi : PV.idss args' = []) (hr : res.ids.all (fun i => decide (i = .rrow 0)) = true)
    (h : Wr P tab n r ops (k + 1) l K ((S.sub (frzKill frozen rid)).set d (res.ren fun _ => rid))) : Wr P tab n r ops k (⟨some d, op, ty, pos, after, g⟩ :: l) K S := by
  subst ha
  rw [PV.subs_map] at hC hi
  refine .call hg he (CallA.own frozen rid hC (by simpa using hf) hrid ?_ (by simpa using hr) h)
  intro y hy
  obtain ⟨j, hj⟩ := List.mem_iff_getElem?.1 (List.mem_map_of_mem (f := PV.sub (frzAll frozen)) hy)
  apply List.eq_nil_iff_forall_not_mem.2
  intro i hi'
  have := PV.idss_mem hj hi'
  rw [hi] at this
  cases this

/-! ### bodies -/

/-- FROM A BODY TO A CONTRACT. -/
theorem can_of {f : Nat} {fn : Func} {c : Code} {args : List PV} {Hp : Id → Option (List PV)} {res : PV} {Hq : Id → Option (List PV)}
    (hT : TabOK P tab) (hmix : P.follows .mixedOrders = true) (h1 : Calls1 P f) (hf : P.funcs[f]? = some fn) (hb : fn.body = some c) (hok : codeOK fn.ntmps c = true) (hn : args.length ≤ fn.ntmps)
    (hw : (∀ y ∈ args, ∀ z ∈ y.cells, ∀ e t xs, z = .sl e t xs → xs.length ≤ 9223372036854775807) →
      Wp P tab fn.ntmps c (Fin tab fn.results.toList res Hq) (fun _ _ => False) (Fin tab fn.results.toList res Hq) ⟨fun t => args.getD t .dead, Hp⟩) : Can P f args Hp res Hq := by
  refine can_of_body hT h1 hf hb hn fun hl F om a w hFn hr => ?_
  refine wp_mono ((hw hl).run hT hmix hok F om a w hFn hr) (lift_mono ?_)
  intro e S' hq
  cases e with
  | normal => exact ⟨fun _ => nofun, hq⟩
  | exit id => exact hq.elim
  | ret => exact ⟨fun _ => nofun, hq⟩

theorem fin_plain {rs : List ResultVar} {ps : List PV} {res : PV} (hps : resList tab S rs = some ps) (he : (resPV ps).sub (endSub none) = res) (hids : res.ids = []) : Fin tab rs res H0 S := by
  refine ⟨none, ps, (fun _ h => by cases h), hps, ?_, ?_, fun id cs h => by cases h⟩
  · intro id hid
    rw [he, hids] at hid
    cases hid
  · rw [he, PV.ren_noids _ _ hids]

/-- One row stays the caller's. -/
theorem fin_own (id : Id) {rs : List ResultVar} {ps : List PV} {res : PV} (hid : id.isRow = true) (hps : resList tab S rs = some ps) (he : ((resPV ps).sub (endSub (some id))).ren (endName (some id)) = res)
    (hids : ((resPV ps).sub (endSub (some id))).ids.all (fun i => decide (i = id)) = true) : Fin tab rs res H0 S := by
  refine ⟨some id, ps, ?_, hps, ?_, he.symm, fun id cs h => by cases h⟩
  · rintro i rfl' k rfl
    cases rfl'
    cases hid
  · intro i hi
    simp only [List.all_eq_true, decide_eq_true_eq] at hids
    exact .inl (congrArg some (hids i hi).symm)

end
end Go.Proofs.Ytcahjpkmldmjdaa.Ab
